/- Proved: that a call by a contract goes on in the caller. Conditions: none but those that stand in each lemma ahead of its colon. -/
import Derived.Test.YtkjikpcmbiebdaaDoorPtQ
set_option linter.unusedVariables false
set_option linter.unusedSimpArgs false
namespace Go.Pt

variable {E : Env} {ks : List Item} {s : St} {Q : St → Prop}

/-! ### Calls -/

theorem evs_args {C : Ctx} {w : World} {g : Gh} {m : List MU} {fr : List (Nat × V)} {a : Act} (hm : MemSim C w g m) (hf : FrameRel w g m fr a) :
    ∀ {xs : List Operand} {ps : List PV}, evs C.toEnv fr xs = some ps → RepArgs w g.D ps (xs.map a.eval)
  | [], ps, h => by simp only [evs, Option.some.injEq] at h; subst h; exact ⟨rfl, by simp⟩
  | x :: r, ps, h => by
    unfold evs at h
    split at h
    · rename_i v l hv hl
      split at h
      · rename_i p hp
        cases h
        have ih := evs_args hm hf hl
        refine ⟨by simp [ih.len], fun i q u hq hu => ?_⟩
        cases i with
        | zero =>
          simp at hq hu
          subst hq
          subst hu
          exact toPV_rel hp (ev_rel hm hf hv)
        | succ i => exact ih.at_ i q u (by simpa using hq) (by simpa using hu)
      · cases h
    · cases h

theorem start_of {C : Ctx} {w : World} {g : Gh} {m : List MU} (hm : MemSim C w g m) : Start C.toEnv w g.D := by
  refine ⟨hm.dLt, fun gl cells hg mu tau m' => ?_⟩
  have := hm.glob gl cells hg
  cases this with
  | ip _ _ _ vs h1 h2 => exact .ip _ _ _ vs h1 h2

theorem call_run {P : Program} {a : Act} {w : World} {o : Oper} {f : Operand} {args : Array Operand} {ats : Array TypeId} {k : FuncId} (ho : o.op = .call ⟨.value f, args, ats⟩) (hf : a.eval f = .func (.func k) #[] #[])
    (hk : Enters P k) : (execOp a.eval o).run P w = .ok (.enter k ⟨args.toList.map a.eval⟩) w := by
  obtain ⟨fn, h1, h2, h3⟩ := hk
  have ha : args.map a.eval = ⟨args.toList.map a.eval⟩ := by apply Array.ext'; simp
  simp only [execOp, ho, resolve, hf, Deferred.ofValue, Sem.run_bind, Sem.run_pure, Result.andThen_ok, invoke, callFunc, run_program, h1, ha]
  simp [h2, h3]

theorem wpCall {P : Program} {full : Array Oper} {K : Exit → Act → World → Prop} {a : Act} {w : World} {o : Oper} {rest : List Oper} {f : Operand} {args : Array Operand} {ats : Array TypeId} {k : FuncId}
    (hg : o.guard = none) (ho : o.op = .call ⟨.value f, args, ats⟩) (hf : a.eval f = .func (.func k) #[] #[]) (hk : Enters P k)
    (h : Calls P k ⟨args.toList.map a.eval⟩ w (backTo P K a o.dst full rest)) : wpList P full K (o :: rest) a w := by
  refine wpList_plain hg fun K' hK => ?_
  unfold Oper.wp
  rw [call_run ho hf hk]
  refine Calls.mono h fun e w' he => ?_
  cases e with
  | returned v => exact hK _ _ he
  | panicked ch => exact he
  | outgrown => exact he

theorem eval_fn {C : Ctx} {w : World} {g : Gh} {m : List MU} {fr : List (Nat × V)} {a : Act} (hm : MemSim C w g m) (hf : FrameRel w g m fr a) {x : Operand} {k : FuncId}
    (h : ev C.toEnv fr x = some (.pv (.fn k))) : a.eval x = .func (.func k) #[] #[] := by
  have := pv_rel (ev_rel hm hf h)
  generalize a.eval x = z at this
  cases this
  rfl

/-- A call of a function that changes nothing. -/
theorem Run.call {full : Array Oper} {o : Oper} {rest : List Oper} {f : Operand} {args : Array Operand} {ats : Array TypeId} {k : FuncId} {ps : List PV} {r : PV} (hs : Spec E k ps r)
    (ho : o.op = .call ⟨.value f, args, ats⟩) (hf : ev E s.fr f = some (.pv (.fn k))) (ha : evs E s.fr args.toList = some ps) (hg : o.guard = none) (hd : okDst s.n o.dst = true)
    (h : Run E (.ops full rest :: ks) (s.put o.dst (.pv r) []) Q) : Run E (.ops full (o :: rest) :: ks) s Q := by
  intro base w0 D0 QQ hQ cks a w ⟨g, h1, h2, h3⟩
  replace h3 := relK_ops h3
  obtain ⟨cks', rfl, h3⟩ := h3
  obtain ⟨hen, hsp⟩ := hs
  refine wpCall hg ho (eval_fn h1 h2.2.2 hf) hen ?_
  refine Calls.mono (hsp w g.D _ (start_of h1) (evs_args h1 h2.2.2 ha)) ?_
  rintro e w' ⟨v, D', rfl, hr, hgrew⟩
  obtain ⟨m1, m2⟩ := h1.grow hgrew.bel hgrew.old hgrew.new
  have hfr := frame_put h2 hd m2 (.pv _ _ hr : VRel w' ⟨D', g.mu, g.tau⟩ s.mem (.pv r) v)
  exact h base w0 D0 QQ hQ (.ops full rest :: cks') (a.put o.dst v) w' ⟨_, m1, hfr, rfl, rfl, h3.keep m2⟩

/-- The new token of a fresh result. -/
theorem fresh_tok {C : Ctx} {w w' : World} {g : Gh} {m : List MU} {D' : Nat → Nat → Prop} {t sz : Nat} {l : List PV} {v : Value} (h0 : MemSim C w g m) (hm : MemSim C w' ⟨D', g.mu, g.tau⟩ m)
    (hr : Rep w' D' (.sl sz l) v) (hv : FreshVal w w' D' sz l.length v) (ht : getK t m = none) :
    MemSim C w' ⟨D', g.mu, upd g.tau t v⟩ (.tok t sz l.length :: m) ∧ Keeps w' ⟨D', g.mu, g.tau⟩ m w' ⟨D', g.mu, upd g.tau t v⟩ (.tok t sz l.length :: m) ∧
      VRel w' ⟨D', g.mu, upd g.tau t v⟩ (.tok t sz l.length :: m) (.own t sz l) v := by
  have hne : ∀ t' sz n, getK t' m = some (sz, n) → t' ≠ t := by
    rintro t' sz n h1 rfl; rw [ht] at h1; cases h1
  have hk : Keeps w' ⟨D', g.mu, g.tau⟩ m w' ⟨D', g.mu, upd g.tau t v⟩ (.tok t sz l.length :: m) := by
    refine ⟨fun b o hd => ⟨hd, rfl⟩, fun b hb => ⟨hb, rfl⟩, fun t' sz' n hk => ?_⟩
    exact ⟨n, by rw [getK_ne _ _ _ (hne _ _ _ hk)]; exact hk, Nat.le_refl _, fun _ => upd_ne _ _ _ _ (hne _ _ _ hk)⟩
  obtain ⟨a, cap, rfl, hcap, hsp⟩ := hv
  refine ⟨⟨hm.below, hm.baseLe, hm.dLt, hm.dOld, hm.dNew, hm.d0Lt, fun gl cells hg => (hm.glob gl cells hg).keep hk, ?_, hm.inj, ?_⟩, hk, ?_⟩
  · intro b cells hb
    obtain ⟨vs, el, h1, h2, h3, h4, h5⟩ := hm.blk b cells hb
    exact ⟨vs, el, h1, h2, h3, fun i c hi => (h4 i c hi).keep hk, h5⟩
  · intro t' sz' n h1
    by_cases e : t' = t
    · subst e
      rw [getK_same] at h1
      cases h1
      refine ⟨a, cap, by simp [upd], hcap, hsp.imp (fun q => ⟨q.1, fun ad had => Nat.le_trans h0.baseLe (q.2 ad had)⟩) ?_⟩
      rintro ⟨b, off, vs, el, k1, k2, k3, k4, k5⟩
      refine ⟨b, off, vs, el, k1, by have := h0.baseLe; omega, k3, k4, k5, fun b' hb' he => ?_, fun t2 a' n' cap' hne2 hs htau hlt he => ?_⟩
      · obtain ⟨c, hc⟩ := Option.isSome_iff_exists.1 hb'
        rw [getB_tok] at hc
        have := h0.blkLt hc
        have : g.mu b' = b := he
        omega
      · rw [getK_ne _ _ _ hne2] at hs
        simp only [upd, hne2, if_false] at htau
        obtain ⟨⟨sz2, n2⟩, hk2⟩ := Option.isSome_iff_exists.1 hs
        obtain ⟨a2, cap2, e1, e2, e3⟩ := h0.tok t2 sz2 n2 hk2
        rw [e1] at htau
        cases htau
        obtain ⟨b3, off3, vs3, el3, q1, q2, ⟨fz3, q3, q3'⟩, _⟩ := e3.resolve_left (by omega)
        cases q1
        have := (Array.getElem?_eq_some_iff.1 q3).1
        have : b3 = b := he
        omega
    · rw [getK_ne _ _ _ e] at h1
      obtain ⟨a', cap', e1, e2, e3⟩ := hm.tok t' sz' n h1
      refine ⟨a', cap', by simp [upd, e]; exact e1, e2, ?_⟩
      by_cases hnc : n = cap'
      · refine .inl ?_
        rcases e3 with e3 | ⟨b, off, vs, el, k1, k2, _⟩
        · exact e3
        · exact ⟨hnc, fun ad had => by rw [k1] at had; cases had; exact k2⟩
      obtain ⟨b, off, vs, el, k1, k2, k3, k4, k5, k6, k7⟩ := e3.resolve_left (fun q => hnc q.1)
      refine .inr ⟨b, off, vs, el, k1, k2, k3, k4, k5, k6, fun t2 a2 n' cap2 hne2 hs htau hlt => ?_⟩
      by_cases e2 : t2 = t
      · subst e2
        simp only [upd, if_true] at htau
        cases htau
        obtain ⟨b4, off4, vs4, el4, q1, q2, _⟩ := hsp.resolve_left (by omega)
        cases q1
        obtain ⟨a0, cap0, z1, z2, z3⟩ := h0.tok t' sz' n h1
        have hz : g.tau t' = .slice a' n cap' := e1
        rw [z1] at hz
        cases hz
        obtain ⟨b5, off5, vs5, el5, y1, y2, ⟨fz5, y3, _⟩, _⟩ := z3.resolve_left (fun q => hnc q.1)
        cases k1
        cases y1
        have := (Array.getElem?_eq_some_iff.1 y3).1
        show b4 ≠ _
        omega
      · rw [getK_ne _ _ _ e2] at hs
        simp only [upd, e2, if_false] at htau
        exact k7 t2 a2 n' cap2 hne2 hs htau hlt
  · exact .own t sz l _ l.length (hr.mono hk.d) (getK_same _ _ _ _) (Nat.le_refl _) (fun _ => by simp [upd])

/-- A call of a function that makes the slice that it answers. -/
theorem Run.fresh {full : Array Oper} {o : Oper} {rest : List Oper} {f : Operand} {args : Array Operand} {ats : Array TypeId} {k sz : Nat} {ps l : List PV} (hs : Fresh E k ps sz l)
    (ho : o.op = .call ⟨.value f, args, ats⟩) (hf : ev E s.fr f = some (.pv (.fn k))) (ha : evs E s.fr args.toList = some ps) (hid : getK s.mem.length s.mem = none) (hg : o.guard = none)
    (hd : okDst s.n o.dst = true) (h : Run E (.ops full rest :: ks) (s.put o.dst (.own s.mem.length sz l) [.tok s.mem.length sz l.length]) Q) : Run E (.ops full (o :: rest) :: ks) s Q := by
  intro base w0 D0 QQ hQ cks a w ⟨g, h1, h2, h3⟩
  replace h3 := relK_ops h3
  obtain ⟨cks', rfl, h3⟩ := h3
  obtain ⟨hen, hsp⟩ := hs
  refine wpCall hg ho (eval_fn h1 h2.2.2 hf) hen ?_
  refine Calls.mono (hsp w g.D _ (start_of h1) (evs_args h1 h2.2.2 ha)) ?_
  rintro e w' ⟨v, D', rfl, hr, hgrew, hfv⟩
  obtain ⟨m1, m2⟩ := h1.grow hgrew.bel hgrew.old hgrew.new
  obtain ⟨n1, n2, n3⟩ := fresh_tok h1 m1 hr hfv hid
  have hfr := frame_put h2 hd (m2.trans n2) n3
  exact h base w0 D0 QQ hQ (.ops full rest :: cks') (a.put o.dst v) w' ⟨_, n1, hfr, rfl, rfl, (h3.keep m2).keep n2⟩

/-! ### Guards -/

theorem yielded_of {w : World} {g : Gh} {m : List MU} {fr : List (Nat × V)} {a : Act} (hf : FrameRel w g m fr a) {full : Array Oper} {j d : Nat} {b : Bool} (hj : (full[j]?).bind (·.dst) = some d)
    (hd : getT d fr = some (.pv (.bool b))) : yielded full a.tmps j = some b := by
  obtain ⟨h1, h2⟩ := hf d _ hd
  have := rep_bool (pv_rel h2)
  have hget : a.tmps[d]? = some (.bool b) := by
    rw [← this, Array.getD_eq_getD_getElem?]
    simp [h1]
  unfold yielded
  rw [hj]
  simp [hget]

/-- An operation whose guard says no. -/
theorem Run.passed {full : Array Oper} {o : Oper} {rest : List Oper} {j d : Nat} {want b : Bool} (hg : o.guard = some (j, want)) (hj : (full[j]?).bind (·.dst) = some d)
    (hd : getT d s.fr = some (.pv (.bool b))) (hb : b = !want) (ho : okDst s.n o.dst = true) (h : Run E (.ops full rest :: ks) (s.put o.dst (.pv (.tup [])) []) Q) : Run E (.ops full (o :: rest) :: ks) s Q := by
  intro base w0 D0 QQ hQ cks a w ⟨g, h1, h2, h3⟩
  replace h3 := relK_ops h3
  obtain ⟨cks', rfl, h3⟩ := h3
  have hy := yielded_of h2.2.2 hj hd
  have hw : Region.wanted o (yielded full a.tmps) = false := by
    unfold Region.wanted
    rw [hg]
    simp only [hy, hb]
    cases want <;> rfl
  have hfr := frame_put h2 ho (Keeps.refl w g s.mem) (.pv _ _ (.tup [] [] rfl (by simp)) : VRel w g s.mem (.pv (.tup [])) undef)
  refine wpList_step fun K hK => ?_
  rw [if_neg (by rw [hw]; simp)]
  exact hK _ _ (h base w0 D0 QQ hQ (.ops full rest :: cks') _ w ⟨g, h1, hfr, rfl, rfl, h3⟩)

/-- An operation whose guard says nothing, since it was passed itself. -/
theorem Run.passedU {full : Array Oper} {o : Oper} {rest : List Oper} {j d : Nat} {want : Bool} (hg : o.guard = some (j, want)) (hj : (full[j]?).bind (·.dst) = some d)
    (hd : getT d s.fr = some (.pv (.tup []))) (ho : okDst s.n o.dst = true) (h : Run E (.ops full rest :: ks) (s.put o.dst (.pv (.tup [])) []) Q) : Run E (.ops full (o :: rest) :: ks) s Q := by
  intro base w0 D0 QQ hQ cks a w ⟨g, h1, h2, h3⟩
  replace h3 := relK_ops h3
  obtain ⟨cks', rfl, h3⟩ := h3
  obtain ⟨q1, q2⟩ := h2.2.2 d _ hd
  obtain ⟨vs, hv, hl, _⟩ := rep_tup (pv_rel q2)
  have hvs : vs = [] := List.length_eq_zero_iff.1 (by simpa using hl.symm)
  subst hvs
  have hget : a.tmps[d]? = some (.tuple ⟨[]⟩) := by
    rw [← hv, Array.getD_eq_getD_getElem?]
    simp [q1]
  have hy : yielded full a.tmps j = none := by
    unfold yielded
    rw [hj]
    simp [hget]
  have hw : Region.wanted o (yielded full a.tmps) = false := by
    unfold Region.wanted
    rw [hg]
    simp only [hy]
    rfl
  have hfr := frame_put h2 ho (Keeps.refl w g s.mem) (.pv _ _ (.tup [] [] rfl (by simp)) : VRel w g s.mem (.pv (.tup [])) undef)
  refine wpList_step fun K hK => ?_
  rw [if_neg (by rw [hw]; simp)]
  exact hK _ _ (h base w0 D0 QQ hQ (.ops full rest :: cks') _ w ⟨g, h1, hfr, rfl, rfl, h3⟩)

/-- An operation whose guard says yes is one without a guard. -/
theorem Run.guarded {full : Array Oper} {o : Oper} {rest : List Oper} {j d : Nat} {want b : Bool} (hg : o.guard = some (j, want)) (hj : (full[j]?).bind (·.dst) = some d)
    (hd : getT d s.fr = some (.pv (.bool b))) (hb : b = want) (h : Run E (.ops full ({ o with guard := none } :: rest) :: ks) s Q) : Run E (.ops full (o :: rest) :: ks) s Q := by
  intro base w0 D0 QQ hQ cks a w ⟨g, h1, h2, h3⟩
  replace h3 := relK_ops h3
  obtain ⟨cks', rfl, h3⟩ := h3
  have hy := yielded_of h2.2.2 hj hd
  have hw : Region.wanted o (yielded full a.tmps) = true := by
    unfold Region.wanted
    rw [hg]
    simp [hy, hb]
  have := h base w0 D0 QQ hQ (.ops full ({ o with guard := none } :: rest) :: cks') a w ⟨g, h1, h2, rfl, rfl, h3⟩
  simp only [after, wpList] at this ⊢
  rw [if_pos hw]
  rw [if_pos (by simp [Region.wanted])] at this
  exact this

/-! ### Entering a function, and the contracts -/

def mkFr : Nat → List V → List (Nat × V)
  | _, [] => []
  | i, v :: r => (i, v) :: mkFr (i + 1) r

theorem mkFr_get : ∀ {vs : List V} {i n : Nat} {v : V}, getT n (mkFr i vs) = some v → i ≤ n ∧ vs[n - i]? = some v
  | [], i, n, v, h => by cases h
  | u :: r, i, n, v, h => by
    simp only [mkFr] at h
    by_cases e : n = i
    · subst e
      rw [getT_same] at h
      cases h
      exact ⟨Nat.le_refl _, by simp⟩
    · rw [getT_ne _ _ e] at h
      obtain ⟨h1, h2⟩ := mkFr_get h
      refine ⟨by omega, ?_⟩
      rw [show n - i = (n - (i + 1)) + 1 by omega]
      simpa using h2

/-- What a function answers in a state. -/
def resV (E : Env) (fn : Func) (s : St) : Option V :=
  match fn.results.toList with
  | [.tmp t] => getT t s.fr
  | [.cell t ty] => match getT t s.fr with
    | some (.ptr b off) => match getB b s.mem with
      | some cs => loadV E ty cs off
      | none => none
    | _ => none
  | rs => match resVs E s rs with
    | some ps => some (.pv (.tup ps))
    | none => none
where
  resVs (E : Env) (s : St) : List ResultVar → Option (List PV)
    | [] => some []
    | .tmp t :: r => match getT t s.fr, resVs E s r with
      | some v, some l => match v.toPV with
        | some p => some (p :: l)
        | none => none
      | _, _ => none
    | .cell t ty :: r => match getT t s.fr, resVs E s r with
      | some (.ptr b off), some l => match getB b s.mem with
        | some cs => match loadV E ty cs off with
          | some v => match v.toPV with
            | some p => some (p :: l)
            | none => none
          | none => none
        | none => none
      | _, _ => none

end Go.Pt
