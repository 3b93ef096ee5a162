/- Proved: what single operations answer, by whatever name. Conditions: none but those that stand in each lemma ahead of its colon. -/
import Derived.Test.YtkjikpcmbiebdaaDoorPtX
set_option linter.unusedVariables false
set_option linter.unusedSimpArgs false
namespace Go.Pt

variable {E : Env} {ks : List Item} {s : St} {Q : St → Prop}

/-! ### Single operations, with whatever name for what they make -/

theorem Run.opI {id : Nat} {f : Array Oper} {o : Oper} {rest : List Oper} {p : Prop} {R : List Key} {ms : List MU} {v : V} (h : step E id s.fr s.mem o = some (p, R, ms, v)) (hg : o.guard = none)
    (hd : okDst s.n o.dst = true) (hp : p) (k : Run E (.ops f rest :: ks) (s.put o.dst v ms) Q) : Run E (.ops f (o :: rest) :: ks) s Q := by
  intro base w0 D0 QQ hQ cks a w ⟨g, h1, h2, h3⟩
  replace h3 := relK_ops h3
  obtain ⟨cks', rfl, h3⟩ := h3
  obtain ⟨w', g', val, hrun, m1, m2, m3⟩ := (step_sound (C := { toEnv := E, base := base, w0 := w0, D0 := D0 }) h1 h2.2.2 h hp).ex
  have hfr := frame_put h2 hd m2 m3
  have hk := k base w0 D0 QQ hQ (.ops f rest :: cks') (a.put o.dst val) w' ⟨g', m1, hfr, rfl, rfl, h3.keep m2⟩
  refine wpList_plain hg fun K hK => ?_
  unfold Oper.wp
  rcases hrun with hrun | ⟨hrun, rfl⟩
  · rw [hrun]; exact hK _ _ hk
  · rw [hrun]; exact hK _ _ hk

theorem Run.freshI {id : Nat} {full : Array Oper} {o : Oper} {rest : List Oper} {f : Operand} {args : Array Operand} {ats : Array TypeId} {k sz : Nat} {ps l : List PV} (hs : Fresh E k ps sz l)
    (ho : o.op = .call ⟨.value f, args, ats⟩) (hf : ev E s.fr f = some (.pv (.fn k))) (ha : evs E s.fr args.toList = some ps) (hid : getK id s.mem = none) (hg : o.guard = none)
    (hd : okDst s.n o.dst = true) (h : Run E (.ops full rest :: ks) (s.put o.dst (.own id sz l) [.tok id sz l.length]) Q) : Run E (.ops full (o :: rest) :: ks) s Q := by
  intro base w0 D0 QQ hQ cks a w ⟨g, h1, h2, h3⟩
  replace h3 := relK_ops h3
  obtain ⟨cks', rfl, h3⟩ := h3
  obtain ⟨hen, hsp⟩ := hs
  refine wpCall hg ho (eval_fn h1 h2.2.2 hf) hen ?_
  refine Calls.mono (hsp w g.D _ (start_of h1) (evs_args h1 h2.2.2 ha)) ?_
  rintro e w' ⟨v, D', rfl, hr, hgrew, hfv⟩
  obtain ⟨m1, m2⟩ := h1.grow hgrew.bel hgrew.old hgrew.new
  obtain ⟨n1, n2, n3⟩ := fresh_tok h1 m1 hr hfv hid
  have hfr := frame_put h2 hd (m2.trans n2) n3
  exact h base w0 D0 QQ hQ (.ops full rest :: cks') (a.put o.dst v) w' ⟨_, n1, hfr, rfl, rfl, (h3.keep m2).keep n2⟩

/-! ### Operations as what they look up and what they write -/

def ofKey : Key → K
  | .b n => .b n
  | .k n => .k n

def tmpK : List Operand → List K
  | [] => []
  | .tmp t :: r => .t t :: tmpK r
  | _ :: r => tmpK r

def muW : MU → K × Vl
  | .blk b cs => (.b b, .c cs)
  | .tok t sz n => (.k t, .n sz n)

def dstW : Option Tmp → V → List (K × Vl)
  | some d, v => [(.t d, .v v)]
  | none, _ => []

theorem look_mem (fr : List (Nat × V)) : ∀ (ms mem : List MU), look fr (ms ++ mem) = updL (look fr mem) (ms.map muW)
  | [], mem => rfl
  | u :: r, mem => by
    funext k
    have ih := congrFun (look_mem fr r mem) k
    cases u with
    | blk b cs =>
      simp only [List.cons_append, List.map_cons, muW, updL]
      cases k with
      | t n => simp only [reduceCtorEq, if_false]; rw [← ih]; rfl
      | k n => simp only [reduceCtorEq, if_false]; rw [← ih]; rfl
      | b n =>
        by_cases e : n = b
        · subst e; simp [look, getB_same]
        · simp only [K.b.injEq, e, if_false]
          rw [← ih]
          simp only [look]
          rw [getB_ne _ _ e]
    | tok t sz m =>
      simp only [List.cons_append, List.map_cons, muW, updL]
      cases k with
      | t n => simp only [reduceCtorEq, if_false]; rw [← ih]; rfl
      | b n => simp only [reduceCtorEq, if_false]; rw [← ih]; rfl
      | k n =>
        by_cases e : n = t
        · subst e; simp [look, getK_same]
        · simp only [K.k.injEq, e, if_false]
          rw [← ih]
          simp only [look]
          rw [getK_ne _ _ _ e]

theorem look_put (dst : Option Tmp) (v : V) (fr : List (Nat × V)) (ms mem : List MU) : look (putFr dst v fr) (ms ++ mem) = updL (look fr mem) (dstW dst v ++ ms.map muW) := by
  cases dst with
  | none => exact look_mem fr ms mem
  | some d =>
    funext k
    simp only [dstW, List.cons_append, List.nil_append, updL, putFr]
    have ih := congrFun (look_mem fr ms mem) k
    by_cases e : k = .t d
    · subst e; simp [look, getT_same]
    · rw [if_neg e, ← ih]
      cases k with
      | t n =>
        have hne : n ≠ d := fun h => e (by rw [h])
        simp only [look]
        rw [getT_ne _ _ hne]
      | b n => rfl
      | k n => rfl

theorem tmpK_mem : ∀ {l : List Operand} {t : Nat}, Operand.tmp t ∈ l → K.t t ∈ tmpK l
  | [], t, h => by simp at h
  | x :: r, t, h => by
    rcases List.mem_cons.1 h with rfl | h
    · exact List.mem_cons_self
    · have := tmpK_mem h
      cases x <;> simp [tmpK, this]

theorem getT_of_look {fr fr' : List (Nat × V)} {mem mem' : List MU} {n : Nat} (h : look fr' mem' (.t n) = look fr mem (.t n)) : getT n fr' = getT n fr := by
  simp only [look] at h
  cases h1 : getT n fr' <;> cases h2 : getT n fr <;> simp_all

theorem ev_of_look {fr fr' : List (Nat × V)} {mem mem' : List MU} {l : List Operand} (h : ∀ x ∈ tmpK l, look fr' mem' x = look fr mem x) : ∀ x ∈ l, ev E fr' x = ev E fr x := by
  intro x hx
  cases x with
  | tmp t => exact getT_of_look (h _ (tmpK_mem hx))
  | const v => rfl
  | global g => rfl
  | func f => rfl

theorem same_of_look {fr fr' : List (Nat × V)} {mem mem' : List MU} {R : List Key} (h : ∀ x ∈ R.map ofKey, look fr' mem' x = look fr mem x) : ∀ k ∈ R, sameK mem mem' k := by
  intro k hk
  have := h (ofKey k) (List.mem_map.2 ⟨k, hk, rfl⟩)
  cases k with
  | b n =>
    simp only [ofKey, look] at this
    show getB n mem = getB n mem'
    cases h1 : getB n mem' <;> cases h2 : getB n mem <;> simp_all
  | k n =>
    simp only [ofKey, look] at this
    show getK n mem = getK n mem'
    cases h1 : getK n mem' <;> cases h2 : getK n mem <;> simp_all
    rename_i a b
    obtain ⟨a1, a2⟩ := a
    obtain ⟨b1, b2⟩ := b
    simp_all

section
variable {full : Array Oper} {n i : Nat} {o : Oper} {fr : List (Nat × V)} {mem : List MU}

/-- Out of a rule for one operation. -/
theorem acts_of {R : List K} {v : V} {ms : List MU} (hi : full[i]? = some o)
    (h : ∀ (ks : List Item) (Q : St → Prop) (fr' : List (Nat × V)) (mem' : List MU), (∀ x ∈ R, look fr' mem' x = look fr mem x) → Run E (.ops full [] :: ks) ⟨putFr o.dst v fr', ms ++ mem', n⟩ Q →
      Run E (.ops full [o] :: ks) ⟨fr', mem', n⟩ Q) : Acts E full n ⟨i, R, look fr mem, dstW o.dst v ++ ms.map muW⟩ := by
  refine ⟨o, hi, fun ks Q A fr' mem' hR hA => h _ _ _ _ hR (Run.nil (Run.again (hA _ _ ?_)))⟩
  rw [look_put]

theorem mem_append_l {α : Type} {a b : List α} {P : α → Prop} (h : ∀ x ∈ a ++ b, P x) : ∀ x ∈ a, P x := fun x hx => h x (List.mem_append_left _ hx)
theorem mem_append_r {α : Type} {a b : List α} {P : α → Prop} (h : ∀ x ∈ a ++ b, P x) : ∀ x ∈ b, P x := fun x hx => h x (List.mem_append_right _ hx)

theorem step_look {fr' : List (Nat × V)} {mem' : List MU} {id : Nat} {p : Prop} {R : List Key} {ms : List MU} {v : V} (hs : step E id fr mem o = some (p, R, ms, v))
    (h : ∀ x ∈ tmpK o.op.operands.toList ++ R.map ofKey, look fr' mem' x = look fr mem x) : step E id fr' mem' o = some (p, R, ms, v) := by
  refine step_congr_m (m := mem) ?_ (same_of_look (mem_append_r h))
  rw [← hs]
  exact step_congr_fr fun x hx => ev_of_look (mem_append_l h) x (by simpa using hx)

theorem acts_step {id : Nat} {p : Prop} {R : List Key} {ms : List MU} {v : V} (hi : full[i]? = some o) (hs : step E id fr mem o = some (p, R, ms, v)) (hg : o.guard = none) (hd : okDst n o.dst = true) (hp : p) :
    Acts E full n ⟨i, tmpK o.op.operands.toList ++ R.map ofKey, look fr mem, dstW o.dst v ++ ms.map muW⟩ :=
  acts_of hi fun _ _ fr' mem' hR hrun => Run.opI (s := ⟨fr', mem', n⟩) (step_look hs hR) hg hd hp hrun

theorem acts_stepG {id : Nat} {p : Prop} {R : List Key} {ms : List MU} {v : V} {j d : Nat} {want : Bool} (hi : full[i]? = some o) (hs : step E id fr mem o = some (p, R, ms, v)) (hg : o.guard = some (j, want))
    (hj : (full[j]?).bind (·.dst) = some d) (hb : getT d fr = some (.pv (.bool want))) (hd : okDst n o.dst = true) (hp : p) :
    Acts E full n ⟨i, .t d :: (tmpK o.op.operands.toList ++ R.map ofKey), look fr mem, dstW o.dst v ++ ms.map muW⟩ :=
  acts_of hi fun _ _ fr' mem' hR hrun => Run.guarded (s := ⟨fr', mem', n⟩) hg hj ((getT_of_look (hR _ List.mem_cons_self)).trans hb) rfl
    (Run.opI (s := ⟨fr', mem', n⟩) (o := { o with guard := none }) (step_look hs (fun x hx => hR x (List.mem_cons_of_mem _ hx))) rfl hd hp hrun)

theorem acts_pass {j d : Nat} {want b : Bool} (hi : full[i]? = some o) (hg : o.guard = some (j, want)) (hj : (full[j]?).bind (·.dst) = some d) (hb : getT d fr = some (.pv (.bool b))) (hne : b = !want)
    (hd : okDst n o.dst = true) : Acts E full n ⟨i, [.t d], look fr mem, dstW o.dst (.pv (.tup [])) ++ ([] : List MU).map muW⟩ :=
  acts_of hi fun _ _ fr' mem' hR hrun => Run.passed (s := ⟨fr', mem', n⟩) hg hj ((getT_of_look (hR _ List.mem_cons_self)).trans hb) hne hd hrun

theorem acts_passU {j d : Nat} {want : Bool} (hi : full[i]? = some o) (hg : o.guard = some (j, want)) (hj : (full[j]?).bind (·.dst) = some d) (hb : getT d fr = some (.pv (.tup [])))
    (hd : okDst n o.dst = true) : Acts E full n ⟨i, [.t d], look fr mem, dstW o.dst (.pv (.tup [])) ++ ([] : List MU).map muW⟩ :=
  acts_of hi fun _ _ fr' mem' hR hrun => Run.passedU (s := ⟨fr', mem', n⟩) hg hj ((getT_of_look (hR _ List.mem_cons_self)).trans hb) hd hrun

end

end Go.Pt
