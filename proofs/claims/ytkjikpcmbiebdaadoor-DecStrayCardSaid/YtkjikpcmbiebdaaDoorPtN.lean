/- Proved: how the elements of a literal are laid one behind the other. Conditions: none but those that stand in each lemma ahead of its colon. -/
import Derived.Test.YtkjikpcmbiebdaaDoorPtM
set_option linter.unusedVariables false
set_option linter.unusedSimpArgs false
namespace Go.Pt

theorem seqP_spec : ∀ {i sz : Nat} {l : List (Nat × PV)} {ps : List PV}, seqP i sz l = some ps →
    l = ps.zipIdx.map (fun (p, j) => (i + j, p)) ∧ (∀ e ∈ ps, e.cells.length = sz) ∧ ∀ e ∈ ps, ∀ c ∈ e.cells, c.one = true
  | i, sz, [], ps, h => by simp only [seqP, Option.some.injEq] at h; subst h; simp
  | i, sz, (j, p) :: r, ps, h => by
    unfold seqP at h
    cases hb : (i == j && p.cells.length == sz && p.cells.all PV.one) with
    | false => rw [hb] at h; cases h
    | true =>
      rw [hb] at h
      simp only [Bool.and_eq_true, beq_iff_eq, List.all_eq_true] at hb
      obtain ⟨⟨rfl, h2⟩, h3⟩ := hb
      simp only [cond_true] at h
      split at h
      · rename_i l' hl
        cases h
        obtain ⟨k1, k2, k3⟩ := seqP_spec hl
        refine ⟨?_, ?_, ?_⟩
        · rw [k1]
          simp only [List.zipIdx_cons, List.map_cons, Nat.add_zero, List.zipIdx_succ, List.map_map]
          congr 1
          apply List.map_congr_left
          intro x _
          simp [Nat.add_assoc, Nat.add_comm 1]
        · intro e he
          rcases List.mem_cons.1 he with rfl | he
          · exact h2
          · exact k2 e he
        · intro e he
          rcases List.mem_cons.1 he with rfl | he
          · exact h3
          · exact k3 e he
      · cases h

/-- The list of all elements laid one behind the other. -/
theorem fill_seq {w D} (place : Nat → Option (Nat × Nat)) {sz : Nat} (hpl : ∀ i, place i = some (i * sz, sz)) : ∀ (ps : List PV) (us : List Value) (k : Nat) (vs : Array Value), ps.length = us.length →
    (∀ e ∈ ps, e.cells.length = sz) → (∀ (i : Nat) p u, ps[i]? = some p → us[i]? = some u → RepL w D p.cells u.cells.toList) → vs.size = (k + ps.length) * sz →
    ∃ out, Instr.fill place vs (us.zipIdx.map fun (u, j) => (k + j, u)) = some out ∧ out.size = vs.size ∧ (∀ i, i < k * sz → out[i]? = vs[i]?) ∧
      ∀ i c, (ps.flatMap PV.cells)[i]? = some c → Rep w D c (out.getD (k * sz + i) undef)
  | [], us, k, vs, hl, _, _, hs => by
    have : us = [] := List.length_eq_zero_iff.1 (by simpa using hl.symm)
    subst this
    exact ⟨vs, rfl, rfl, fun _ _ => rfl, by simp⟩
  | p :: ps, us, k, vs, hl, hsz, hr, hs => by
    cases us with
    | nil => simp at hl
    | cons u us =>
      have hu := hr 0 p u rfl rfl
      have hpl' := hsz p List.mem_cons_self
      have hul : u.cells.size = sz := by have := hu.len; simp at this; omega
      simp only [List.length_cons] at hs
      have hms : (k + (ps.length + 1)) * sz = k * sz + sz + ps.length * sz := by rw [Nat.add_mul, Nat.add_mul, Nat.one_mul]; omega
      have hks : (k + 1) * sz = k * sz + sz := by rw [Nat.add_mul, Nat.one_mul]
      obtain ⟨out, h1, h2, h3, h4⟩ := fill_seq place hpl ps us (k + 1) (putArr vs (k * sz) u.cells.toList) (by simpa using hl) (fun e he => hsz e (List.mem_cons_of_mem _ he))
        (fun i p u hp hu => hr (i + 1) p u hp hu) (by rw [putArr_size, hs]; congr 1; omega)
      rw [putArr_size] at h2
      refine ⟨out, ?_, h2, fun i hi => ?_, fun i c hi => ?_⟩
      · simp only [List.zipIdx_cons, List.map_cons, Nat.add_zero, Instr.fill, hpl, Nat.zero_add]
        rw [if_neg (by simp [hul]; omega)]
        have := fold_put (k * sz) u.cells.toList vs 0
        rw [Nat.add_zero] at this
        have e2 : (u.cells.zipIdx.foldl (fun cs (x : Value × Nat) => cs.setIfInBounds (k * sz + x.2) x.1) vs) = putArr vs (k * sz) u.cells.toList := by
          rw [← this, ← Array.foldl_toList, Array.toList_zipIdx]
        have e3 : (us.zipIdx 1).map (fun (u, j) => (k + j, u)) = us.zipIdx.map (fun (u, j) => (k + 1 + j, u)) := by
          rw [List.zipIdx_succ, List.map_map]
          apply List.map_congr_left
          intro x _
          simp [Nat.add_assoc, Nat.add_comm 1]
        rw [e3, ← h1]
        congr 1
      · rw [h3 i (by omega), putArr_get, if_neg (by omega)]
      · rw [List.flatMap_cons] at hi
        rcases Nat.lt_or_ge i p.cells.length with hlt | hge
        · rw [List.getElem?_append_left hlt] at hi
          obtain ⟨v, hv1, hv2, _⟩ := hu.get hi
          have hlt' : i < u.cells.toList.length := (List.getElem?_eq_some_iff.1 hv1).1
          have : out[k * sz + i]? = some v := by
            rw [h3 _ (by simp at hlt'; omega), putArr_get, if_pos (by simp at hlt' ⊢; omega), Nat.add_sub_cancel_left, hv1]
          rw [Array.getD_eq_getD_getElem?, this]
          exact hv2
        · rw [List.getElem?_append_right hge] at hi
          have := h4 _ c hi
          rwa [hks, show k * sz + sz + (i - p.cells.length) = k * sz + i by omega] at this

theorem range_rep (z : Array Value) (n : Nat) : ((Array.range n).map (z[· % z.size]!)).size = n := by simp

theorem buildSlice_run {C : Ctx} {w : World} {g : Gh} {m : List MU} {fr : List (Nat × V)} {a : Act} (hm : MemSim C w g m) (hf : FrameRel w g m fr a) {t e id len : Nat} {ty te : Ty}
    {parts : Array (Nat × Operand)} {l : List (Nat × PV)} {ps : List PV} (hty : C.T t = some ty) (hk : ty.k = .slice e) (hte : C.T e = some te) (hl : partsOf C.toEnv fr parts.toList = some l)
    (hps : seqP 0 te.size l = some ps) (hlen : ps.length = len) (hpos : 0 < te.size) (hbig : len * te.size ≤ 16777216) (hid : getK id m = none) :
    ∃ w' g' val, (Instr.buildSlice t len (parts.map fun (i, x) => (i, a.eval x))).run C.P w = .ok val w' ∧ MemSim C w' g' (.tok id te.size ps.length :: m) ∧
      Keeps w g m w' g' (.tok id te.size ps.length :: m) ∧ VRel w' g' (.tok id te.size ps.length :: m) (.own id te.size ps) val := by
  obtain ⟨d1, e1, e2⟩ := run_underlying_ty (w := w) hty
  rw [hk] at e2
  cases kind_slice e2
  have hT := tyOK_is (C.hT e te hte)
  obtain ⟨z, hz1, hz2⟩ := hT.zero w
  obtain ⟨q1, q2⟩ := partsOf_rel hm hf hl
  obtain ⟨s1, s2, s3⟩ := seqP_spec hps
  have hts : parts.toList.length = parts.size := Array.length_toList
  have hparts : (parts.map fun (i, x) => (i, a.eval x)).toList = parts.toList.map fun z => (z.1, a.eval z.2) := by simp
  have hidx : ∀ (i : Nat) (y : Nat × Value), (parts.toList.map fun z => (z.1, a.eval z.2))[i]? = some y → y.1 = i ∧ ∃ p, ps[i]? = some p ∧ Rep w g.D p y.2 := by
    intro i y hy
    have hi : i < l.length := by
      have := (List.getElem?_eq_some_iff.1 hy).1
      simp at this
      omega
    obtain ⟨x, hx⟩ : ∃ x, l[i]? = some x := ⟨l[i], by simp [hi]⟩
    obtain ⟨r1, r2⟩ := q2 i x y hx hy
    rw [s1, List.getElem?_map, List.getElem?_zipIdx] at hx
    cases hp : ps[i]? with
    | none => rw [hp] at hx; cases hx
    | some p =>
      rw [hp] at hx
      simp only [Option.map_some, Nat.zero_add, Option.some.injEq] at hx
      subst hx
      exact ⟨r1.symm, p, rfl, r2⟩
  let us := parts.toList.map fun z => a.eval z.2
  have hus : us.length = ps.length := by
    have : l.length = ps.length := by rw [s1]; simp
    simp [us]; omega
  have hzip : (parts.toList.map fun z => (z.1, a.eval z.2)) = us.zipIdx.map fun (u, j) => (0 + j, u) := by
    apply List.ext_getElem?
    intro i
    cases hy : (parts.toList.map fun z => (z.1, a.eval z.2))[i]? with
    | none =>
      have h1 := List.getElem?_eq_none_iff.1 hy
      rw [List.getElem?_eq_none (by simp [us] at h1 ⊢; exact h1)]
    | some y =>
      obtain ⟨r1, _⟩ := hidx i y hy
      rw [List.getElem?_map] at hy
      simp only [List.getElem?_map, List.getElem?_zipIdx, us]
      cases hq : parts.toList[i]? with
      | none => rw [hq] at hy; cases hy
      | some q =>
        rw [hq] at hy
        simp only [Option.map_some, Option.some.injEq] at hy
        subst hy
        simp only at r1
        simp [r1]
  have hrep : ∀ (i : Nat) p u, ps[i]? = some p → us[i]? = some u → RepL w g.D p.cells u.cells.toList := by
    intro i p u hp hu
    simp only [us, List.getElem?_map] at hu
    cases hq : parts.toList[i]? with
    | none => rw [hq] at hu; cases hu
    | some q =>
      rw [hq] at hu
      simp only [Option.map_some, Option.some.injEq] at hu
      subst hu
      obtain ⟨_, p', hp', hr'⟩ := hidx i (q.1, a.eval q.2) (by rw [List.getElem?_map, hq]; rfl)
      rw [hp] at hp'
      cases hp'
      refine rep_cells hr' ?_
      rintro lt rfl
      have := s3 _ (List.mem_iff_getElem?.2 ⟨i, hp⟩) (.tup lt) (by simp [PV.cells])
      cases this
  obtain ⟨out, o1, o2, _, o4⟩ := fill_seq (w := w) (D := g.D) (fun i => some (i * te.size, te.size)) (fun _ => rfl) ps us 0
    ((Array.range (len * te.size)).map ((if len * te.size = 0 then (#[] : Array Value) else z.cells)[· % (if len * te.size = 0 then (#[] : Array Value) else z.cells).size]!)) hus.symm s2 hrep (by
      rw [range_rep, hlen]; simp)
  have hnew := hm.newSlice (t := id) (sz := te.size) (cap := ps.length) (l := ps) (el := e) (fz := (0, 0)) (vs := out) (.inl hid) hpos s2 s3 (Nat.le_refl _)
    (by rw [o2, range_rep, hlen]) (fun i c hi => by have := o4 i c hi; simpa using this) (by intro o ho h0; simp at h0)
  obtain ⟨h1, h2, h3⟩ := hnew
  refine ⟨_, _, _, ?_, h1, h2, h3⟩
  unfold Instr.buildSlice
  simp only [Sem.run_bind, e1, Result.andThen_ok, hT.sizeOf w]
  rw [Sem.run_ite, if_neg (by omega)]
  rw [hparts, hzip]
  by_cases h0 : len * te.size = 0
  · simp only [h0, if_true] at o1
    simp only [h0, if_true, Sem.run_bind, Sem.run_pure, Result.andThen_ok, o1, newRow, run_newObj, hlen]
    rfl
  · simp only [h0, if_false] at o1
    simp only [h0, if_false, Sem.run_bind, hz1, Sem.run_pure, Result.andThen_ok, o1, newRow, run_newObj, hlen]
    rfl

end Go.Pt
