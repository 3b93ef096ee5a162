/- Proved: that a region whose order is drawn is gone through in the order of the text. Conditions: none but those that stand in each lemma ahead of its colon. -/
import Derived.Test.YtkjikpcmbiebdaaDoorPtY
set_option linter.unusedVariables false
set_option linter.unusedSimpArgs false
namespace Go.Pt

variable {E : Env} {ks : List Item} {Q : St → Prop} {full : Array Oper} {n id : Nat} {fr0 fr : List (Nat × V)} {mem0 mem : List MU}

theorem valid_snoc : ∀ {l : List Evt} {e : Evt} {f : K → Option Vl}, valid l f → (∀ x ∈ e.R, fin l f x = e.rd x) → valid (l ++ [e]) f
  | [], _, _, _, h => ⟨h, trivial⟩
  | _ :: _, _, _, hv, h => ⟨hv.1, valid_snoc hv.2 h⟩

theorem fin_snoc : ∀ {l : List Evt} {e : Evt} {f : K → Option Vl}, fin (l ++ [e]) f = updL (fin l f) e.W
  | [], _, _ => rfl
  | _ :: l, _, _ => fin_snoc (l := l)

/-- A region whose order is drawn, gone through in the text's order so far. -/
structure Dr (E : Env) (full : Array Oper) (n id : Nat) (ks : List Item) (Q : St → Prop) (fr0 : List (Nat × V)) (mem0 : List MU) (i : Nat) (acc : List Sk) (fr : List (Nat × V)) (mem : List MU) (rest : List Oper) : Prop where
  run : rest = full.toList.drop i → (∃ evs : List Evt, evs.map Evt.sk = acc.reverse ∧ evs.map (·.i) = List.range i ∧ (∀ e ∈ evs, Acts E full n e) ∧ valid evs (look fr0 mem0) ∧ fin evs (look fr0 mem0) = look fr mem) →
    Run E (.code (.region id full true) :: ks) ⟨fr0, mem0, n⟩ Q

theorem Dr.here {i : Nat} {acc : List Sk} {rest : List Oper} (h : Dr E full n id ks Q fr0 mem0 i acc fr mem rest) : Dr E full n id ks Q fr0 mem0 i acc fr mem rest := h

theorem Dr.start (h : Dr E full n id ks Q fr mem 0 [] fr mem full.toList) : Run E (.code (.region id full true) :: ks) ⟨fr, mem, n⟩ Q :=
  h.run rfl ⟨[], rfl, rfl, by simp, trivial, rfl⟩

theorem allOK_pair {an : List Nat} : ∀ {l : List Sk}, allOK an l = true → l.Pairwise (fun e x => (bitOf (an.getD e.i 0) x.i || Sk.apart x e) = true)
  | [], _ => .nil
  | e :: r, h => by
    simp only [allOK, Bool.and_eq_true] at h
    refine List.pairwise_cons.2 ⟨fun x hx => ?_, allOK_pair h.2⟩
    have := h.1
    clear h
    induction r with
    | nil => simp at hx
    | cons y r ih =>
      simp only [pairsOK, Bool.and_eq_true] at this
      rcases List.mem_cons.1 hx with rfl | hx
      · exact this.1
      · exact ih hx this.2

theorem Dr.done {i : Nat} {acc : List Sk} (hm : E.P.follows .mixedOrders = true) (hb : backOK 0 full.toList = true) (ha : allOK (ancs full.toList []) acc = true) (h : Run E ks ⟨fr, mem, n⟩ Q) :
    Dr E full n id ks Q fr0 mem0 i acc fr mem [] := by
  constructor
  rintro hrest ⟨evs, hsk, hidx, hacts, hv, hfin⟩
  have hi : full.size ≤ i := by
    have := List.drop_eq_nil_iff.1 hrest.symm
    simpa using this
  have hlen : evs.length = i := by
    have := congrArg List.length hidx
    simpa using this
  have hle : i ≤ full.size := by
    cases i with
    | zero => omega
    | succ k =>
      have hk : k ∈ evs.map (·.i) := by rw [hidx]; simp
      obtain ⟨e, he, hek⟩ := List.mem_map.1 hk
      obtain ⟨o, ho, _⟩ := hacts e he
      have := (Array.getElem?_eq_some_iff.1 ho).1
      omega
  have hsz : i = full.size := by omega
  intro base w0 D0 QQ hQ cks a w ⟨g, h1, h2, h3⟩
  replace h3 := relK_code h3
  obtain ⟨cks', rfl, h3⟩ := h3
  refine wp_region_any hm ?_
  have hs : Sim { toEnv := E, base := base, w0 := w0, D0 := D0 } ks ⟨fr0, mem0, n⟩ cks' a { w with drawn := w.drawn + 1 } := Sim.drawn _ ⟨g, h1, h2, h3⟩
  have hpair : evs.Pairwise (fun x e => bitOf ((ancs full.toList []).getD e.i 0) x.i = true ∨ apart x e = true) := by
    have h1 := allOK_pair ha
    rw [← List.pairwise_reverse, ← hsk, List.pairwise_map] at h1
    refine h1.imp fun {x e} hx => ?_
    rw [Bool.or_eq_true] at hx
    rw [apart_sk]
    exact hx
  have := draw_any (E := E) (full := full) (n := n) (ks := ks) (Q := Q) (base := base) (w0 := w0) (D0 := D0) (QQ := QQ) (cks := cks') hb (look fr mem)
    (fun fr' mem' a w hl hs => h base w0 D0 QQ hQ cks' a w (Sim.same hl.symm hs)) hQ evs fr0 mem0 (Array.replicate full.size false) a { w with drawn := w.drawn + 1 } (by simp) hacts ?_ ?_ hpair ?_ hv hfin hs
  · rw [hlen, hsz] at this
    exact this
  · intro j hj
    constructor
    · intro _
      have hk : j ∈ evs.map (·.i) := by rw [hidx, hsz]; simpa using hj
      obtain ⟨e, he, hek⟩ := List.mem_map.1 hk
      exact ⟨e, he, hek⟩
    · intro _
      simp [Array.getD_eq_getD_getElem?, hj]
  · rw [hidx]
    exact List.pairwise_lt_range
  · intro j q hq hj
    have hjl := (Array.getElem?_eq_some_iff.1 hq).1
    simp [Array.getD_eq_getD_getElem?, hjl] at hj

/-- One operation more. -/
theorem Dr.ev {i : Nat} {acc : List Sk} {o : Oper} {rest : List Oper} {R : List K} {v : V} {ms : List MU} (ha : full[i]? = some o → Acts E full n ⟨i, R, look fr mem, dstW o.dst v ++ ms.map muW⟩)
    (h : Dr E full n id ks Q fr0 mem0 (i + 1) (⟨i, R, keys (dstW o.dst v ++ ms.map muW)⟩ :: acc) (putFr o.dst v fr) (ms ++ mem) rest) : Dr E full n id ks Q fr0 mem0 i acc fr mem (o :: rest) := by
  constructor
  rintro hrest ⟨evs, hsk, hidx, hacts, hv, hfin⟩
  have hi : full[i]? = some o := by
    have : (full.toList.drop i)[0]? = some o := by rw [← hrest]; rfl
    rw [List.getElem?_drop, Nat.add_zero, Array.getElem?_toList] at this
    exact this
  refine h.run ?_ ⟨evs ++ [⟨i, R, look fr mem, dstW o.dst v ++ ms.map muW⟩], ?_, ?_, ?_, ?_, ?_⟩
  · have := congrArg List.tail hrest
    simpa using this
  · simp [hsk, Evt.sk]
  · rw [List.map_append, hidx, List.range_succ]; rfl
  · intro e he
    rcases List.mem_append.1 he with he | he
    · exact hacts e he
    · simp at he
      subst he
      exact ha hi
  · exact valid_snoc hv (fun x _ => by rw [hfin])
  · rw [fin_snoc, hfin]
    exact (look_put _ _ _ _ _).symm

/-- A rule for one operation. -/
def Rule (E : Env) (full : Array Oper) (n : Nat) (fr : List (Nat × V)) (mem : List MU) (o : Oper) (R : List K) (v : V) (ms : List MU) : Prop :=
  ∀ (ks : List Item) (Q : St → Prop) (fr' : List (Nat × V)) (mem' : List MU), (∀ x ∈ R, look fr' mem' x = look fr mem x) → Run E (.ops full [] :: ks) ⟨putFr o.dst v fr', ms ++ mem', n⟩ Q →
    Run E (.ops full [o] :: ks) ⟨fr', mem', n⟩ Q

theorem Rule.step {o : Oper} {ident : Nat} {p : Prop} {R : List Key} {ms : List MU} {v : V} (hs : step E ident fr mem o = some (p, R, ms, v)) (hg : o.guard = none) (hd : okDst n o.dst = true) (hp : p) :
    Rule E full n fr mem o (tmpK o.op.operands.toList ++ R.map ofKey) v ms :=
  fun _ _ fr' mem' hR hrun => Run.opI (s := ⟨fr', mem', n⟩) (step_look hs hR) hg hd hp hrun

theorem call_ops {o : Oper} {f : Operand} {args : Array Operand} {ats : Array TypeId} {fr' : List (Nat × V)} {mem' : List MU} (ho : o.op = .call ⟨.value f, args, ats⟩)
    (hR : ∀ x ∈ tmpK o.op.operands.toList, look fr' mem' x = look fr mem x) : ev E fr' f = ev E fr f ∧ evs E fr' args.toList = evs E fr args.toList := by
  have h := ev_of_look (E := E) hR
  rw [ho] at h
  exact ⟨h f (by simp [Op.operands, Call.operands]), evs_congr fun x hx => h x (by simp [Op.operands, Call.operands]; exact .inr (by simpa using hx))⟩

theorem Rule.call {o : Oper} {f : Operand} {args : Array Operand} {ats : Array TypeId} {k : FuncId} {ps : List PV} {r : PV} (hs : Spec E k ps r) (ho : o.op = .call ⟨.value f, args, ats⟩)
    (hf : ev E fr f = some (.pv (.fn k))) (ha : evs E fr args.toList = some ps) (hg : o.guard = none) (hd : okDst n o.dst = true) :
    Rule E full n fr mem o (tmpK o.op.operands.toList) (.pv r) [] :=
  fun _ _ fr' mem' hR hrun => Run.call (s := ⟨fr', mem', n⟩) hs ho ((call_ops ho hR).1.trans hf) ((call_ops ho hR).2.trans ha) hg hd hrun

theorem getK_of_look {fr' : List (Nat × V)} {mem' : List MU} {t : Nat} (h : look fr' mem' (.k t) = look fr mem (.k t)) : getK t mem' = getK t mem :=
  (same_of_look (R := [.k t]) (by simpa [ofKey] using h) (.k t) (by simp)).symm

theorem Rule.fresh {o : Oper} {f : Operand} {args : Array Operand} {ats : Array TypeId} {k sz : Nat} {ps l : List PV} (ident : Nat) (hs : Fresh E k ps sz l) (ho : o.op = .call ⟨.value f, args, ats⟩)
    (hf : ev E fr f = some (.pv (.fn k))) (ha : evs E fr args.toList = some ps) (hid : getK ident mem = none) (hg : o.guard = none) (hd : okDst n o.dst = true) :
    Rule E full n fr mem o (.k ident :: tmpK o.op.operands.toList) (.own ident sz l) [.tok ident sz l.length] :=
  fun _ _ fr' mem' hR hrun => by
    have hR' : ∀ x ∈ tmpK o.op.operands.toList, look fr' mem' x = look fr mem x := fun x hx => hR x (List.mem_cons_of_mem _ hx)
    exact Run.freshI (s := ⟨fr', mem', n⟩) hs ho ((call_ops ho hR').1.trans hf) ((call_ops ho hR').2.trans ha) ((getK_of_look (hR _ List.mem_cons_self)).trans hid) hg hd hrun

theorem Rule.pick {o : Oper} {c x y : Operand} {b : Bool} {v : V} (hop : o.op = .pick c x y) (hg : o.guard = none) (hc : ev E fr c = some (.pv (.bool b)))
    (hv : (b = true ∧ ev E fr x = some v) ∨ (b = false ∧ ev E fr y = some v)) (hd : okDst n o.dst = true) : Rule E full n fr mem o (tmpK [c, x, y]) v [] :=
  fun _ _ fr' mem' hR hrun => by
    have h := ev_of_look (E := E) (l := [c, x, y]) hR
    exact Run.pick0 (s := ⟨fr', mem', n⟩) hop hg ((h c (by simp)).trans hc) hd (hv.imp (fun q => ⟨q.1, (h x (by simp)).trans q.2⟩) (fun q => ⟨q.1, (h y (by simp)).trans q.2⟩)) hrun

theorem Rule.pickT {o : Oper} {c x y : Operand} {b : Bool} {v : V} (hop : o.op = .pick c x y) (hg : o.guard = none) (hc : ev E fr c = some (.pv (.bool b))) (hb : b = true) (hv : ev E fr x = some v)
    (hd : okDst n o.dst = true) : Rule E full n fr mem o (tmpK [c, x, y]) v [] := Rule.pick hop hg hc (.inl ⟨hb, hv⟩) hd
theorem Rule.pickF {o : Oper} {c x y : Operand} {b : Bool} {v : V} (hop : o.op = .pick c x y) (hg : o.guard = none) (hc : ev E fr c = some (.pv (.bool b))) (hb : b = false) (hv : ev E fr y = some v)
    (hd : okDst n o.dst = true) : Rule E full n fr mem o (tmpK [c, x, y]) v [] := Rule.pick hop hg hc (.inr ⟨hb, hv⟩) hd

theorem Dr.rule {i : Nat} {acc : List Sk} {o : Oper} {rest : List Oper} {R : List K} {v : V} {ms : List MU} (hr : Rule E full n fr mem o R v ms)
    (h : Dr E full n id ks Q fr0 mem0 (i + 1) (⟨i, R, keys (dstW o.dst v ++ ms.map muW)⟩ :: acc) (putFr o.dst v fr) (ms ++ mem) rest) : Dr E full n id ks Q fr0 mem0 i acc fr mem (o :: rest) :=
  Dr.ev (fun hi => acts_of hi hr) h

theorem Dr.ruleG {i : Nat} {acc : List Sk} {o : Oper} {rest : List Oper} {R : List K} {v : V} {ms : List MU} {j d : Nat} {want b : Bool} (hg : o.guard = some (j, want)) (hj : (full[j]?).bind (·.dst) = some d)
    (hd : getT d fr = some (.pv (.bool b))) (hb : b = want) (hr : Rule E full n fr mem { o with guard := none } R v ms)
    (h : Dr E full n id ks Q fr0 mem0 (i + 1) (⟨i, .t d :: R, keys (dstW o.dst v ++ ms.map muW)⟩ :: acc) (putFr o.dst v fr) (ms ++ mem) rest) : Dr E full n id ks Q fr0 mem0 i acc fr mem (o :: rest) :=
  Dr.ev (fun hi => acts_of hi fun ks Q fr' mem' hR hrun =>
    Run.guarded (s := ⟨fr', mem', n⟩) hg hj ((getT_of_look (hR _ List.mem_cons_self)).trans hd) hb (hr ks Q fr' mem' (fun x hx => hR x (List.mem_cons_of_mem _ hx)) hrun)) h

theorem Dr.pass {i : Nat} {acc : List Sk} {o : Oper} {rest : List Oper} {j d : Nat} {want b : Bool} (hg : o.guard = some (j, want)) (hj : (full[j]?).bind (·.dst) = some d)
    (hd : getT d fr = some (.pv (.bool b))) (hb : b = !want) (ho : okDst n o.dst = true)
    (h : Dr E full n id ks Q fr0 mem0 (i + 1) (⟨i, [.t d], keys (dstW o.dst (.pv (.tup [])))⟩ :: acc) (putFr o.dst (.pv (.tup [])) fr) mem rest) : Dr E full n id ks Q fr0 mem0 i acc fr mem (o :: rest) :=
  Dr.ev (ms := []) (v := .pv (.tup [])) (fun hi => acts_pass hi hg hj hd hb ho) (by simpa using h)

theorem Dr.passU {i : Nat} {acc : List Sk} {o : Oper} {rest : List Oper} {j d : Nat} {want : Bool} (hg : o.guard = some (j, want)) (hj : (full[j]?).bind (·.dst) = some d)
    (hd : getT d fr = some (.pv (.tup []))) (ho : okDst n o.dst = true)
    (h : Dr E full n id ks Q fr0 mem0 (i + 1) (⟨i, [.t d], keys (dstW o.dst (.pv (.tup [])))⟩ :: acc) (putFr o.dst (.pv (.tup [])) fr) mem rest) : Dr E full n id ks Q fr0 mem0 i acc fr mem (o :: rest) :=
  Dr.ev (ms := []) (v := .pv (.tup [])) (fun hi => acts_passU hi hg hj hd ho) (by simpa using h)

theorem Dr.split {i : Nat} {acc : List Sk} {o : Oper} {rest : List Oper} {j d : Nat} {want b : Bool} (_hg : o.guard = some (j, want)) (_hj : (full[j]?).bind (·.dst) = some d)
    (_hd : getT d fr = some (.pv (.bool b))) (h1 : b = want → Dr E full n id ks Q fr0 mem0 i acc fr mem (o :: rest)) (h2 : b = (!want) → Dr E full n id ks Q fr0 mem0 i acc fr mem (o :: rest)) :
    Dr E full n id ks Q fr0 mem0 i acc fr mem (o :: rest) := by
  by_cases h : b = want
  · exact h1 h
  · exact h2 (by cases b <;> cases want <;> simp_all)

def dkeys (dst : Option Tmp) (ms : List MU) : List K :=
  match dst with
  | some d => .t d :: go ms
  | none => go ms
where
  go : List MU → List K
    | [] => []
    | .blk b _ :: r => .b b :: go r
    | .tok t _ _ :: r => .k t :: go r

theorem dkeys_go : ∀ ms : List MU, dkeys.go ms = (ms.map muW).map (·.1)
  | [] => rfl
  | .blk b _ :: r => by simp [dkeys.go, muW, dkeys_go r]
  | .tok t _ _ :: r => by simp [dkeys.go, muW, dkeys_go r]

theorem dkeys_eq (dst : Option Tmp) (v : V) (ms : List MU) : keys (dstW dst v ++ ms.map muW) = dkeys dst ms := by
  cases dst <;> simp [keys, dstW, dkeys, dkeys_go]

theorem Rule.stepA {o : Oper} {p : Prop} {R : List Key} {ms : List MU} {v : V} (hs : Go.Pt.step E mem.length fr mem o = some (p, R, ms, v)) (hg : o.guard = none) (hd : okDst n o.dst = true) (hp : p) :
    Rule E full n fr mem o (tmpK o.op.operands.toList ++ R.map ofKey) v ms := Rule.step hs hg hd hp

/-- With the state behind it written out. -/
theorem Dr.ruleA {i d : Nat} {acc : List Sk} {o : Oper} {rest : List Oper} {R : List K} {v : V} {ms : List MU} (hr : Rule E full n fr mem o R v ms) (hd : o.dst = some d)
    (h : Dr E full n id ks Q fr0 mem0 (i + 1) (⟨i, R, dkeys (some d) ms⟩ :: acc) ((d, v) :: fr) (ms ++ mem) rest) : Dr E full n id ks Q fr0 mem0 i acc fr mem (o :: rest) :=
  Dr.rule hr (by rw [dkeys_eq, hd]; exact h)
theorem Dr.ruleB {i d : Nat} {acc : List Sk} {o : Oper} {rest : List Oper} {R : List K} {v : V} (hr : Rule E full n fr mem o R v []) (hd : o.dst = some d)
    (h : Dr E full n id ks Q fr0 mem0 (i + 1) (⟨i, R, [.t d]⟩ :: acc) ((d, v) :: fr) mem rest) : Dr E full n id ks Q fr0 mem0 i acc fr mem (o :: rest) :=
  Dr.rule hr (by rw [dkeys_eq, hd]; exact h)
theorem Dr.gA {i d d' : Nat} {acc : List Sk} {o : Oper} {rest : List Oper} {R : List K} {v : V} {ms : List MU} {j : Nat} {want b : Bool} (hg : o.guard = some (j, want)) (hj : (full[j]?).bind (·.dst) = some d)
    (hd : getT d fr = some (.pv (.bool b))) (hb : b = want) (hr : Rule E full n fr mem { o with guard := none } R v ms) (hd' : o.dst = some d')
    (h : Dr E full n id ks Q fr0 mem0 (i + 1) (⟨i, .t d :: R, dkeys (some d') ms⟩ :: acc) ((d', v) :: fr) (ms ++ mem) rest) : Dr E full n id ks Q fr0 mem0 i acc fr mem (o :: rest) :=
  Dr.ruleG hg hj hd hb hr (by rw [dkeys_eq, hd']; exact h)
theorem Dr.gB {i d d' : Nat} {acc : List Sk} {o : Oper} {rest : List Oper} {R : List K} {v : V} {j : Nat} {want b : Bool} (hg : o.guard = some (j, want)) (hj : (full[j]?).bind (·.dst) = some d)
    (hd : getT d fr = some (.pv (.bool b))) (hb : b = want) (hr : Rule E full n fr mem { o with guard := none } R v []) (hd' : o.dst = some d')
    (h : Dr E full n id ks Q fr0 mem0 (i + 1) (⟨i, .t d :: R, [.t d']⟩ :: acc) ((d', v) :: fr) mem rest) : Dr E full n id ks Q fr0 mem0 i acc fr mem (o :: rest) :=
  Dr.ruleG hg hj hd hb hr (by rw [dkeys_eq, hd']; exact h)
theorem Dr.passA {i : Nat} {acc : List Sk} {o : Oper} {rest : List Oper} {j d d' : Nat} {want b : Bool} (hg : o.guard = some (j, want)) (hj : (full[j]?).bind (·.dst) = some d)
    (hd : getT d fr = some (.pv (.bool b))) (hb : b = !want) (hd' : o.dst = some d') (hn : Nat.blt d' n = true)
    (h : Dr E full n id ks Q fr0 mem0 (i + 1) (⟨i, [.t d], [.t d']⟩ :: acc) ((d', .pv (.tup [])) :: fr) mem rest) : Dr E full n id ks Q fr0 mem0 i acc fr mem (o :: rest) :=
  Dr.pass hg hj hd hb (by rw [hd']; exact hn) (by rw [hd']; exact h)

theorem Dr.passT {i : Nat} {acc : List Sk} {o : Oper} {rest : List Oper} {j d d' : Nat} {b : Bool} (hg : o.guard = some (j, true)) (hj : (full[j]?).bind (·.dst) = some d)
    (hd : getT d fr = some (.pv (.bool b))) (hb : b = false) (hd' : o.dst = some d') (hn : Nat.blt d' n = true)
    (h : Dr E full n id ks Q fr0 mem0 (i + 1) (⟨i, [.t d], [.t d']⟩ :: acc) ((d', .pv (.tup [])) :: fr) mem rest) : Dr E full n id ks Q fr0 mem0 i acc fr mem (o :: rest) := Dr.passA hg hj hd hb hd' hn h
theorem Dr.passF {i : Nat} {acc : List Sk} {o : Oper} {rest : List Oper} {j d d' : Nat} {b : Bool} (hg : o.guard = some (j, false)) (hj : (full[j]?).bind (·.dst) = some d)
    (hd : getT d fr = some (.pv (.bool b))) (hb : b = true) (hd' : o.dst = some d') (hn : Nat.blt d' n = true)
    (h : Dr E full n id ks Q fr0 mem0 (i + 1) (⟨i, [.t d], [.t d']⟩ :: acc) ((d', .pv (.tup [])) :: fr) mem rest) : Dr E full n id ks Q fr0 mem0 i acc fr mem (o :: rest) := Dr.passA hg hj hd hb hd' hn h
theorem Dr.splitB {i : Nat} {acc : List Sk} {o : Oper} {rest : List Oper} {j d : Nat} {want b : Bool} (_hg : o.guard = some (j, want)) (_hj : (full[j]?).bind (·.dst) = some d)
    (_hd : getT d fr = some (.pv (.bool b))) (h1 : b = true → Dr E full n id ks Q fr0 mem0 i acc fr mem (o :: rest)) (h2 : b = false → Dr E full n id ks Q fr0 mem0 i acc fr mem (o :: rest)) :
    Dr E full n id ks Q fr0 mem0 i acc fr mem (o :: rest) := by
  cases b
  · exact h2 rfl
  · exact h1 rfl

/-! ### Several at once -/

structure DRes where
  i : Nat
  acc : List Sk
  fr : List (Nat × V)
  mem : List MU
  rest : List Oper
  conds : List Prop

def dReads : List Operand → List Key → List K
  | .tmp t :: r, R => .t t :: dReads r R
  | _ :: r, R => dReads r R
  | [], R => go R
where
  go : List Key → List K
    | [] => []
    | .b n :: r => .b n :: go r
    | .k n :: r => .k n :: go r

theorem dReads_eq : ∀ (l : List Operand) (R : List Key), tmpK l ++ R.map ofKey = dReads l R
  | .tmp t :: r, R => by simp [tmpK, dReads, dReads_eq r R]
  | .const _ :: r, R => by simp [tmpK, dReads, dReads_eq r R]
  | .global _ :: r, R => by simp [tmpK, dReads, dReads_eq r R]
  | .func _ :: r, R => by simp [tmpK, dReads, dReads_eq r R]
  | [], R => by
    simp only [tmpK, List.nil_append, dReads]
    induction R with
    | nil => rfl
    | cons k r ih => cases k <;> simp [ofKey, dReads.go, ih]

def drOps (E : Env) (n : Nat) (full : Array Oper) : List Oper → Nat → List Sk → List (Nat × V) → List MU → List Prop → DRes
  | [], i, acc, fr, mem, cs => ⟨i, acc, fr, mem, [], cs⟩
  | o :: rest, i, acc, fr, mem, cs => match o.guard with
    | none => match forceN mem.length (fun id => step E id fr mem o) with
      | some (p, R, ms, v) => match o.dst with
        | some d => bif Nat.blt d n then
            forceL (dReads o.op.operands.toList R) fun R => forceL (dkeys (some d) ms) fun W => apMem ms mem fun mem => drOps E n full rest (i + 1) (⟨i, R, W⟩ :: acc) ((d, v) :: fr) mem (p :: cs)
          else ⟨i, acc, fr, mem, o :: rest, cs⟩
        | none => forceL (dReads o.op.operands.toList R) fun R => forceL (dkeys none ms) fun W => apMem ms mem fun mem => drOps E n full rest (i + 1) (⟨i, R, W⟩ :: acc) fr mem (p :: cs)
      | none => ⟨i, acc, fr, mem, o :: rest, cs⟩
    | some (j, _) => match (full[j]?).bind (·.dst) with
      | some d => match getT d fr with
        | some (.pv (.tup [])) => match o.dst with
          | some d' => bif Nat.blt d' n then drOps E n full rest (i + 1) (⟨i, [.t d], [.t d']⟩ :: acc) ((d', .pv (.tup [])) :: fr) mem cs else ⟨i, acc, fr, mem, o :: rest, cs⟩
          | none => ⟨i, acc, fr, mem, o :: rest, cs⟩
        | _ => ⟨i, acc, fr, mem, o :: rest, cs⟩
      | none => ⟨i, acc, fr, mem, o :: rest, cs⟩

theorem drOps_sound : ∀ {l : List Oper} {i : Nat} {acc : List Sk} {fr : List (Nat × V)} {mem : List MU} {cs : List Prop},
    (∃ l', (drOps E n full l i acc fr mem cs).conds = l' ++ cs) ∧ (AllP (drOps E n full l i acc fr mem cs).conds →
      Dr E full n id ks Q fr0 mem0 (drOps E n full l i acc fr mem cs).i (drOps E n full l i acc fr mem cs).acc (drOps E n full l i acc fr mem cs).fr (drOps E n full l i acc fr mem cs).mem
        (drOps E n full l i acc fr mem cs).rest → Dr E full n id ks Q fr0 mem0 i acc fr mem l)
  | [], i, acc, fr, mem, cs => ⟨⟨[], rfl⟩, fun _ h => h⟩
  | o :: rest, i, acc, fr, mem, cs => by
    unfold drOps
    split
    · rename_i hg
      split
      · rename_i p R ms v hs
        rw [forceN_eq] at hs
        split
        · rename_i d hd
          cases hb : Nat.blt d n with
          | false => exact ⟨⟨[], rfl⟩, fun _ h => h⟩
          | true =>
            simp only [cond_true, forceL_eq, apMem_eq]
            obtain ⟨⟨l', h1⟩, h2⟩ := drOps_sound (l := rest) (i := i + 1) (acc := ⟨i, dReads o.op.operands.toList R, dkeys (some d) ms⟩ :: acc) (fr := (d, v) :: fr) (mem := ms ++ mem) (cs := p :: cs)
            refine ⟨⟨l' ++ [p], by rw [h1]; simp⟩, fun hp hr => ?_⟩
            have hpp := allP_mono ⟨l', h1⟩ hp
            refine Dr.rule (Rule.step hs hg (by rw [hd]; exact hb) hpp.1) ?_
            rw [dReads_eq, dkeys_eq, hd]
            exact h2 hp hr
        · rename_i hd
          simp only [forceL_eq, apMem_eq]
          obtain ⟨⟨l', h1⟩, h2⟩ := drOps_sound (l := rest) (i := i + 1) (acc := ⟨i, dReads o.op.operands.toList R, dkeys none ms⟩ :: acc) (fr := fr) (mem := ms ++ mem) (cs := p :: cs)
          refine ⟨⟨l' ++ [p], by rw [h1]; simp⟩, fun hp hr => ?_⟩
          have hpp := allP_mono ⟨l', h1⟩ hp
          refine Dr.rule (Rule.step hs hg (by rw [hd]; rfl) hpp.1) ?_
          rw [dReads_eq, dkeys_eq, hd]
          exact h2 hp hr
      · exact ⟨⟨[], rfl⟩, fun _ h => h⟩
    · rename_i j want hg
      split
      · rename_i d hj
        split
        · rename_i hd
          split
          · rename_i d' hd'
            cases hb : Nat.blt d' n with
            | false => exact ⟨⟨[], rfl⟩, fun _ h => h⟩
            | true =>
              simp only [cond_true]
              obtain ⟨⟨l', h1⟩, h2⟩ := drOps_sound (l := rest) (i := i + 1) (acc := ⟨i, [.t d], [.t d']⟩ :: acc) (fr := (d', .pv (.tup [])) :: fr) (mem := mem) (cs := cs)
              refine ⟨⟨l', h1⟩, fun hp hr => ?_⟩
              refine Dr.passU hg hj hd (by rw [hd']; exact hb) ?_
              rw [hd']
              exact h2 hp hr
          · exact ⟨⟨[], rfl⟩, fun _ h => h⟩
        · exact ⟨⟨[], rfl⟩, fun _ h => h⟩
      · exact ⟨⟨[], rfl⟩, fun _ h => h⟩

theorem Dr.auto {i i' : Nat} {acc acc' : List Sk} {fr' : List (Nat × V)} {mem' : List MU} {rest rest' : List Oper} {cs : List Prop} (h : drOps E n full rest i acc fr mem [] = ⟨i', acc', fr', mem', rest', cs⟩)
    (hc : AllP cs) (k : Dr E full n id ks Q fr0 mem0 i' acc' fr' mem' rest') : Dr E full n id ks Q fr0 mem0 i acc fr mem rest := by
  have := (drOps_sound (E := E) (n := n) (full := full) (id := id) (ks := ks) (Q := Q) (fr0 := fr0) (mem0 := mem0) (l := rest) (i := i) (acc := acc) (fr := fr) (mem := mem) (cs := [])).2
  rw [h] at this
  exact this hc k

end Go.Pt
