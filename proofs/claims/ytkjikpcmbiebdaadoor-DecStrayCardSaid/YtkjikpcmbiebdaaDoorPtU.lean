/- Proved: that several steps may be taken at once. Conditions: none but those that stand in each lemma ahead of its colon. -/
import Derived.Test.YtkjikpcmbiebdaaDoorPtT
import Derived.Laws.BytesString
set_option linter.unusedVariables false
set_option linter.unusedSimpArgs false
namespace Go.Pt

variable {E : Env} {ks : List Item} {s : St} {Q : St → Prop}

/-! ### Several steps at once -/

structure Res where
  ks : List Item
  fr : List (Nat × V)
  mem : List MU
  conds : List Prop

def AllP : List Prop → Prop
  | [] => True
  | p :: r => p ∧ AllP r

/-- The log with some more ahead of it, its spine worked out first. -/
def apMem {β : Type} : List MU → List MU → (List MU → β) → β
  | [], m, k => k m
  | u :: r, m, k => apMem r m fun m' => k (u :: m')
theorem apMem_eq {β : Type} (l m : List MU) (k : List MU → β) : apMem l m k = k (l ++ m) := by
  induction l generalizing k with
  | nil => rfl
  | cons u r ih => simp [apMem, ih]

/-- A number without the list of which it is the length. -/
def forceN {β : Type} : Nat → (Nat → β) → β
  | 0, k => k 0
  | n + 1, k => forceN n fun m => k (m + 1)
theorem forceN_eq {β : Type} (n : Nat) (k : Nat → β) : forceN n k = k n := by
  induction n generalizing k with
  | zero => rfl
  | succ n ih => simp [forceN, ih]

/-- Operations one behind the other, till one that is a call, has a guard or is not known. -/
def execOps (E : Env) (n : Nat) (full : Array Oper) (ks : List Item) : List Oper → List (Nat × V) → List MU → List Prop → (List (Nat × V) → List MU → List Prop → Res) → Res
  | [], fr, mem, cs, k => k fr mem cs
  | o :: rest, fr, mem, cs, k => match o.guard, forceN mem.length (fun id => step E id fr mem o) with
    | none, some (p, _, ms, v) => match o.dst with
      | some d => bif Nat.blt d n then apMem ms mem fun mem => execOps E n full ks rest ((d, v) :: fr) mem (p :: cs) k else ⟨.ops full (o :: rest) :: ks, fr, mem, cs⟩
      | none => apMem ms mem fun mem => execOps E n full ks rest fr mem (p :: cs) k
    | _, _ => ⟨.ops full (o :: rest) :: ks, fr, mem, cs⟩

def exec (E : Env) (n : Nat) : Nat → List Item → List (Nat × V) → List MU → List Prop → Res
  | 0, ks, fr, mem, cs => ⟨ks, fr, mem, cs⟩
  | f + 1, ks, fr, mem, cs => match ks with
    | .code (.seq a b) :: ks => exec E n f (.code a :: .code b :: ks) fr mem cs
    | .code .skip :: ks => exec E n f ks fr mem cs
    | .code (.region _ ops false) :: ks => execOps E n ops ks ops.toList fr mem cs fun fr mem cs => exec E n f ks fr mem cs
    | .code (.block id c) :: ks => exec E n f (.code c :: .block id :: ks) fr mem cs
    | .code (.exit id) :: ks => match dropTo id ks with
      | some ks' => exec E n f ks' fr mem cs
      | none => ⟨.code (.exit id) :: ks, fr, mem, cs⟩
    | .ops full l :: ks => execOps E n full ks l fr mem cs fun fr mem cs => exec E n f ks fr mem cs
    | .block _ :: ks => exec E n f ks fr mem cs
    | ks => ⟨ks, fr, mem, cs⟩

theorem allP_mono {cs cs' : List Prop} (h : ∃ l, cs' = l ++ cs) (hp : AllP cs') : AllP cs := by
  obtain ⟨l, rfl⟩ := h
  induction l with
  | nil => exact hp
  | cons p r ih => exact ih hp.2

theorem execOps_sound {n : Nat} {full : Array Oper} {Q : St → Prop} {k : List (Nat × V) → List MU → List Prop → Res} :
    ∀ {l : List Oper} {fr : List (Nat × V)} {mem : List MU} {cs : List Prop},
      (∀ fr mem cs, (∃ l, (k fr mem cs).conds = l ++ cs) ∧ (AllP (k fr mem cs).conds → Run E (k fr mem cs).ks ⟨(k fr mem cs).fr, (k fr mem cs).mem, n⟩ Q → Run E ks ⟨fr, mem, n⟩ Q)) →
      (∃ l', (execOps E n full ks l fr mem cs k).conds = l' ++ cs) ∧ (AllP (execOps E n full ks l fr mem cs k).conds →
        Run E (execOps E n full ks l fr mem cs k).ks ⟨(execOps E n full ks l fr mem cs k).fr, (execOps E n full ks l fr mem cs k).mem, n⟩ Q → Run E (.ops full l :: ks) ⟨fr, mem, n⟩ Q)
  | [], fr, mem, cs, hk => ⟨(hk fr mem cs).1, fun hp hr => Run.nil ((hk fr mem cs).2 hp hr)⟩
  | o :: rest, fr, mem, cs, hk => by
    unfold execOps
    split
    · rename_i p R ms v hg hs
      rw [forceN_eq] at hs
      split
      · rename_i d hd
        cases hb : Nat.blt d n with
        | false => exact ⟨⟨[], rfl⟩, fun _ hr => hr⟩
        | true =>
          simp only [cond_true, apMem_eq]
          obtain ⟨⟨l', h1⟩, h2⟩ := execOps_sound (l := rest) (fr := (d, v) :: fr) (mem := ms ++ mem) (cs := p :: cs) hk
          refine ⟨⟨l' ++ [p], by rw [h1]; simp⟩, fun hp hr => ?_⟩
          have hpp := allP_mono ⟨l', h1⟩ hp
          refine Run.op (s := ⟨fr, mem, n⟩) hs hg (by rw [hd]; exact hb) hpp.1 ?_
          have := h2 hp hr
          unfold St.put
          rw [hd]
          exact this
      · rename_i hd
        simp only [apMem_eq]
        obtain ⟨⟨l', h1⟩, h2⟩ := execOps_sound (l := rest) (fr := fr) (mem := ms ++ mem) (cs := p :: cs) hk
        refine ⟨⟨l' ++ [p], by rw [h1]; simp⟩, fun hp hr => ?_⟩
        have hpp := allP_mono ⟨l', h1⟩ hp
        refine Run.op (s := ⟨fr, mem, n⟩) hs hg (by rw [hd]; rfl) hpp.1 ?_
        have := h2 hp hr
        unfold St.put
        rw [hd]
        exact this
    · exact ⟨⟨[], rfl⟩, fun _ hr => hr⟩

theorem exec_sound {n : Nat} {Q : St → Prop} : ∀ {f : Nat} {ks : List Item} {fr : List (Nat × V)} {mem : List MU} {cs : List Prop},
    (∃ l, (exec E n f ks fr mem cs).conds = l ++ cs) ∧ (AllP (exec E n f ks fr mem cs).conds →
      Run E (exec E n f ks fr mem cs).ks ⟨(exec E n f ks fr mem cs).fr, (exec E n f ks fr mem cs).mem, n⟩ Q → Run E ks ⟨fr, mem, n⟩ Q)
  | 0, ks, fr, mem, cs => ⟨⟨[], rfl⟩, fun _ h => h⟩
  | f + 1, ks, fr, mem, cs => by
    unfold exec
    split
    · exact ⟨(exec_sound (Q := Q) (f := f)).1, fun hp h => Run.seq ((exec_sound (f := f)).2 hp h)⟩
    · exact ⟨(exec_sound (Q := Q) (f := f)).1, fun hp h => Run.skip ((exec_sound (f := f)).2 hp h)⟩
    · rename_i ops ks
      have := execOps_sound (E := E) (n := n) (full := ops) (Q := Q) (ks := ks) (k := fun fr mem cs => exec E n f ks fr mem cs) (l := ops.toList) (fr := fr) (mem := mem) (cs := cs)
        (fun fr mem cs => exec_sound (f := f))
      exact ⟨this.1, fun hp h => Run.region (this.2 hp h)⟩
    · exact ⟨(exec_sound (Q := Q) (f := f)).1, fun hp h => Run.block ((exec_sound (f := f)).2 hp h)⟩
    · split
      · rename_i ks' hd
        exact ⟨(exec_sound (Q := Q) (f := f)).1, fun hp h => Run.exit hd ((exec_sound (f := f)).2 hp h)⟩
      · exact ⟨⟨[], rfl⟩, fun _ h => h⟩
    · rename_i full l ks
      exact execOps_sound (E := E) (n := n) (full := full) (Q := Q) (ks := ks) (k := fun fr mem cs => exec E n f ks fr mem cs) (l := l) (fr := fr) (mem := mem) (cs := cs) (fun fr mem cs => exec_sound (f := f))
    · exact ⟨(exec_sound (Q := Q) (f := f)).1, fun hp h => Run.inBlock ((exec_sound (f := f)).2 hp h)⟩
    · exact ⟨⟨[], rfl⟩, fun _ h => h⟩

theorem Run.auto {n : Nat} {fr fr' : List (Nat × V)} {mem mem' : List MU} {ks' : List Item} {cs : List Prop} (h : exec E n 1000 ks fr mem [] = ⟨ks', fr', mem', cs⟩) (hc : AllP cs)
    (k : Run E ks' ⟨fr', mem', n⟩ Q) : Run E ks ⟨fr, mem, n⟩ Q := by
  have := (exec_sound (E := E) (n := n) (Q := Q) (f := 1000) (ks := ks) (fr := fr) (mem := mem) (cs := [])).2
  rw [h] at this
  exact this hc k

theorem Run.here (h : Run E ks s Q) : Run E ks s Q := h

/-! ### Guards and choices by cases -/

theorem Run.gpass {n d j d' : Nat} {fr : List (Nat × V)} {mem : List MU} {full : Array Oper} {o : Oper} {rest : List Oper} {want b : Bool} (hg : o.guard = some (j, want))
    (hj : (full[j]?).bind (·.dst) = some d) (hd : getT d fr = some (.pv (.bool b))) (hb : b = !want) (hd' : o.dst = some d') (hn : Nat.blt d' n = true)
    (h : Run E (.ops full rest :: ks) ⟨(d', .pv (.tup [])) :: fr, mem, n⟩ Q) : Run E (.ops full (o :: rest) :: ks) ⟨fr, mem, n⟩ Q :=
  Run.passed hg hj hd hb (by rw [hd']; exact hn) (by unfold St.put; rw [hd']; exact h)

theorem Run.gpassU {n d j d' : Nat} {fr : List (Nat × V)} {mem : List MU} {full : Array Oper} {o : Oper} {rest : List Oper} {want : Bool} (hg : o.guard = some (j, want))
    (hj : (full[j]?).bind (·.dst) = some d) (hd : getT d fr = some (.pv (.tup []))) (hd' : o.dst = some d') (hn : Nat.blt d' n = true)
    (h : Run E (.ops full rest :: ks) ⟨(d', .pv (.tup [])) :: fr, mem, n⟩ Q) : Run E (.ops full (o :: rest) :: ks) ⟨fr, mem, n⟩ Q :=
  Run.passedU hg hj hd (by rw [hd']; exact hn) (by unfold St.put; rw [hd']; exact h)

theorem Run.gyes {n d j : Nat} {fr : List (Nat × V)} {mem : List MU} {full : Array Oper} {o : Oper} {rest : List Oper} {want b : Bool} (hg : o.guard = some (j, want))
    (hj : (full[j]?).bind (·.dst) = some d) (hd : getT d fr = some (.pv (.bool b))) (hb : b = want)
    (h : Run E (.ops full ({ o with guard := none } :: rest) :: ks) ⟨fr, mem, n⟩ Q) : Run E (.ops full (o :: rest) :: ks) ⟨fr, mem, n⟩ Q :=
  Run.guarded hg hj hd hb h

theorem Run.gsplit {n d j d' : Nat} {fr : List (Nat × V)} {mem : List MU} {full : Array Oper} {o : Oper} {rest : List Oper} {want b : Bool} (hg : o.guard = some (j, want))
    (hj : (full[j]?).bind (·.dst) = some d) (hd : getT d fr = some (.pv (.bool b))) (hd' : o.dst = some d') (hn : Nat.blt d' n = true)
    (h1 : b = want → Run E (.ops full ({ o with guard := none } :: rest) :: ks) ⟨fr, mem, n⟩ Q)
    (h2 : b = !want → Run E (.ops full rest :: ks) ⟨(d', .pv (.tup [])) :: fr, mem, n⟩ Q) : Run E (.ops full (o :: rest) :: ks) ⟨fr, mem, n⟩ Q := by
  by_cases h : b = want
  · exact Run.gyes hg hj hd h (h1 h)
  · have : b = !want := by cases b <;> cases want <;> simp_all
    exact Run.gpass hg hj hd this hd' hn (h2 this)

theorem Run.pick0 {full : Array Oper} {o : Oper} {rest : List Oper} {c x y : Operand} {b : Bool} {v : V} (hop : o.op = .pick c x y) (hg : o.guard = none) (hc : ev E s.fr c = some (.pv (.bool b)))
    (ho : okDst s.n o.dst = true) (hv : (b = true ∧ ev E s.fr x = some v) ∨ (b = false ∧ ev E s.fr y = some v)) (h : Run E (.ops full rest :: ks) (s.put o.dst v []) Q) :
    Run E (.ops full (o :: rest) :: ks) s Q := by
  intro base w0 D0 QQ hQ cks a w ⟨g, h1, h2, h3⟩
  replace h3 := relK_ops h3
  obtain ⟨cks', rfl, h3⟩ := h3
  have hb := rep_bool (pv_rel (ev_rel h1 h2.2.2 hc))
  have hval : VRel w g s.mem v (if b then a.eval x else a.eval y) := by
    rcases hv with ⟨rfl, hv⟩ | ⟨rfl, hv⟩
    · exact ev_rel h1 h2.2.2 hv
    · exact ev_rel h1 h2.2.2 hv
  have hfr := frame_put h2 ho (Keeps.refl w g s.mem) hval
  refine wpList_plain hg fun K hK => ?_
  unfold Oper.wp
  have : (execOp a.eval o).run E.P w = .ok (.value (if b then a.eval x else a.eval y)) w := by
    simp only [execOp, hop, hb, asBool, Sem.run_bind, Sem.run_pure, Result.andThen_ok]
  rw [this]
  exact hK _ _ (h base w0 D0 QQ hQ (.ops full rest :: cks') _ w ⟨g, h1, hfr, rfl, rfl, h3⟩)

theorem Run.pickT {n d : Nat} {fr : List (Nat × V)} {mem : List MU} {full : Array Oper} {o : Oper} {rest : List Oper} {c x y : Operand} {b : Bool} {v : V} (hop : o.op = .pick c x y) (hg : o.guard = none)
    (hc : ev E fr c = some (.pv (.bool b))) (hb : b = true) (hv : ev E fr x = some v) (hd : o.dst = some d) (hn : Nat.blt d n = true) (h : Run E (.ops full rest :: ks) ⟨(d, v) :: fr, mem, n⟩ Q) :
    Run E (.ops full (o :: rest) :: ks) ⟨fr, mem, n⟩ Q :=
  Run.pick0 hop hg hc (by rw [hd]; exact hn) (.inl ⟨hb, hv⟩) (by unfold St.put; rw [hd]; exact h)

theorem Run.pickF {n d : Nat} {fr : List (Nat × V)} {mem : List MU} {full : Array Oper} {o : Oper} {rest : List Oper} {c x y : Operand} {b : Bool} {v : V} (hop : o.op = .pick c x y) (hg : o.guard = none)
    (hc : ev E fr c = some (.pv (.bool b))) (hb : b = false) (hv : ev E fr y = some v) (hd : o.dst = some d) (hn : Nat.blt d n = true) (h : Run E (.ops full rest :: ks) ⟨(d, v) :: fr, mem, n⟩ Q) :
    Run E (.ops full (o :: rest) :: ks) ⟨fr, mem, n⟩ Q :=
  Run.pick0 hop hg hc (by rw [hd]; exact hn) (.inr ⟨hb, hv⟩) (by unfold St.put; rw [hd]; exact h)

theorem bytes_flat (t : List UInt8) : (bytes t).flatMap PV.cells = bytes t := by
  unfold bytes
  induction t with
  | nil => rfl
  | cons b r ih => simp only [List.map_cons, List.flatMap_cons, ih]; rfl

theorem foldl_push (t acc : List UInt8) : (t.map fun b => (b.toNat : Int)).foldl (fun r n => r.push (UInt8.ofNat n.toNat)) (ByteArray.mk ⟨acc⟩) = ⟨⟨acc ++ t⟩⟩ := by
  induction t generalizing acc with
  | nil => simp
  | cons b r ih =>
    simp only [List.map_cons, List.foldl_cons]
    have : (ByteArray.mk ⟨acc⟩).push (UInt8.ofNat ((b.toNat : Int)).toNat) = ⟨⟨acc ++ [b]⟩⟩ := by
      simp [ByteArray.push]
    rw [this, ih]
    simp

theorem bytesToString_run {P : Program} {w : World} {D} {t : List UInt8} {v : Value} (h : Rep w D (.sl 1 (bytes t)) v) : (Conv.bytesToString v).run P w = .ok (.string ⟨⟨t⟩⟩) w := by
  obtain ⟨vals, hf1, hf2⟩ := firstCells_run (P := P) (sz := 1) h (.inl rfl)
  obtain ⟨ad, cap, rfl, _, _⟩ := rep_sl_shape h
  rw [bytes_flat] at hf2
  have hvals : vals = (t.map fun b => (b.toNat : Int)).map (Value.int .u8) := by
    apply List.ext_getElem?
    intro i
    rw [List.map_map, List.getElem?_map]
    cases hb : t[i]? with
    | none =>
      have h1 := List.getElem?_eq_none_iff.1 hb
      rw [List.getElem?_eq_none (by rw [← hf2.len]; simpa [bytes] using h1)]
      rfl
    | some b =>
      have hp : (bytes t)[i]? = some (.int .u8 b.toNat) := by simp [bytes, hb]
      obtain ⟨u, hu1, hu2, _⟩ := hf2.get hp
      rw [hu1, rep_int hu2]
      rfl
  have hbl : (bytes t).length = t.length := by simp [bytes]
  have hfold := foldl_push t []
  rw [List.nil_append] at hfold
  cases ad with
  | none =>
    simp only [Builtin.firstCells, Sem.run_pure, Result.ok.injEq] at hf1
    have hv0 : vals = [] := by
      have := congrArg Array.toList hf1.1
      simpa using this.symm
    rw [hv0] at hvals
    have : t = [] := by
      have := congrArg List.length hvals
      simpa using this.symm
    subst this
    rfl
  | some ad =>
    simp only [Builtin.firstCells, Nat.mul_one] at hf1
    rw [hvals] at hf1
    have := run_bytesToString w ad (bytes t).length cap _ hf1
    rw [this, ← hfold]
    rfl

/-- Bytes as a text. -/
theorem Run.toStr {full : Array Oper} {o : Oper} {rest : List Oper} {src dst e : TypeId} {x : Operand} {ts td te : Ty} {v : V} (t : List UInt8) (hop : o.op = .convert src dst x) (hg : o.guard = none)
    (hs : E.T src = some ts) (hk1 : ts.k = .slice e) (hd : E.T dst = some td) (hk2 : td.k = .str) (he : E.T e = some te) (hk3 : te.k = .int .u8) (hx : ev E s.fr x = some v)
    (hv : slOf v = some (1, bytes t) ∨ v = .pv (.sl 0 []) ∧ t = []) (ho : okDst s.n o.dst = true)
    (h : Run E (.ops full rest :: ks) (s.put o.dst (.pv (.str t)) []) Q) : Run E (.ops full (o :: rest) :: ks) s Q := by
  intro base w0 D0 QQ hQ cks a w ⟨g, h1, h2, h3⟩
  replace h3 := relK_ops h3
  obtain ⟨cks', rfl, h3⟩ := h3
  obtain ⟨d1, e1, e2⟩ := run_underlying_ty (w := w) hs
  obtain ⟨d2, f1, f2⟩ := run_underlying_ty (w := w) hd
  obtain ⟨d3, q1, q2⟩ := run_underlying_ty (w := w) he
  rw [hk1] at e2
  rw [hk2] at f2
  rw [hk3] at q2
  cases kind_slice e2
  cases kind_str f2
  cases kind_int q2
  have hr := ev_rel h1 h2.2.2 hx
  have hrun : (convert src dst (a.eval x)).run E.P w = .ok (.string ⟨⟨t⟩⟩) w := by
    have hbs : (Conv.bytesToString (a.eval x)).run E.P w = .ok (.string ⟨⟨t⟩⟩) w := by
      rcases hv with hv | ⟨rfl, rfl⟩
      · exact bytesToString_run (slOf_rel hv hr)
      · have hr' := pv_rel hr
        generalize a.eval x = z at hr'
        cases hr' with
        | nil =>
          rename_i ad cap
          cases ad with
          | none => rfl
          | some ad => exact run_bytesToString w ad 0 cap [] rfl
        | sl _ _ _ _ _ _ hne => exact absurd rfl hne
    have hsh : ∃ ad n cap, a.eval x = .slice ad n cap := by
      rcases hv with hv | ⟨rfl, rfl⟩
      · obtain ⟨ad, cap, hval, _, _⟩ := rep_sl_shape (slOf_rel hv hr)
        exact ⟨ad, _, cap, hval⟩
      · obtain ⟨ad, cap, hval, _, _⟩ := rep_sl_shape (pv_rel hr)
        exact ⟨ad, _, cap, hval⟩
    obtain ⟨ad, n, cap, hval⟩ := hsh
    rw [hval] at hbs ⊢
    simp only [convert, Sem.run_bind, e1, f1, Result.andThen_ok, q1]
    exact hbs
  have hfr := frame_put h2 ho (Keeps.refl w g s.mem) (.pv _ _ (.str t) : VRel w g s.mem (.pv (.str t)) (.string ⟨⟨t⟩⟩))
  refine wpList_plain hg fun K hK => ?_
  unfold Oper.wp
  have : (execOp a.eval o).run E.P w = .ok (.value (.string ⟨⟨t⟩⟩)) w := by
    simp only [execOp, hop, Sem.run_bind, hrun, Result.andThen_ok, Sem.run_pure]
  rw [this]
  exact hK _ _ (h base w0 D0 QQ hQ (.ops full rest :: cks') _ w ⟨g, h1, hfr, rfl, rfl, h3⟩)

end Go.Pt
