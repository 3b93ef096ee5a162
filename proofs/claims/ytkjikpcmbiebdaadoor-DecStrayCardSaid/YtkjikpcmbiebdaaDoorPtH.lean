/- Proved: how the parts of a struct and of a tuple are laid into cells. Conditions: none but those that stand in each lemma ahead of its colon. -/
import Derived.Test.YtkjikpcmbiebdaaDoorPtG
set_option linter.unusedVariables false
set_option linter.unusedSimpArgs false
namespace Go.Pt

def Runs (P : Program) (o : Oper) (a : Act) (w : World) (w' : World) (val : Value) : Prop := (execOp a.eval o).run P w = .ok (.value val) w'

theorem partsOf_rel {C : Ctx} {w : World} {g : Gh} {m : List MU} {fr : List (Nat × V)} {a : Act} (hm : MemSim C w g m) (hf : FrameRel w g m fr a) :
    ∀ {ps : List (Nat × Operand)} {l : List (Nat × PV)}, partsOf C.toEnv fr ps = some l → l.length = ps.length ∧
      ∀ (i : Nat) x y, l[i]? = some x → (ps.map fun z => (z.1, a.eval z.2))[i]? = some y → x.1 = y.1 ∧ Rep w g.D x.2 y.2
  | [], l, h => by simp only [partsOf, Option.some.injEq] at h; subst h; simp
  | (i, x) :: r, l, h => by
    unfold partsOf at h
    split at h
    · rename_i v l' hv hl
      split at h
      · rename_i p hp
        cases h
        obtain ⟨h1, h2⟩ := partsOf_rel hm hf hl
        refine ⟨by simp [h1], fun j y z hy hz => ?_⟩
        cases j with
        | zero =>
          simp at hy hz
          subst hy
          subst hz
          exact ⟨rfl, toPV_rel hp (ev_rel hm hf hv)⟩
        | succ j => exact h2 j y z (by simpa using hy) (by simpa using hz)
      · cases h
    · cases h

theorem noTup_mem {l : List (Nat × PV)} (h : noTup l = true) {i : Nat} {x : Nat × PV} (hx : l[i]? = some x) : ∀ t, x.2 ≠ .tup t := by
  induction l generalizing i with
  | nil => simp at hx
  | cons y r ih =>
    obtain ⟨n, p⟩ := y
    have hr : noTup r = true ∧ ∀ t, p ≠ .tup t := by
      cases p <;> simp [noTup] at h ⊢ <;> exact h
    cases i with
    | zero => simp at hx; subst hx; exact hr.2
    | succ i => exact ih hr.1 (by simpa using hx)

/-- What stands in a cell of a struct is no tuple: fillC lays cells of a size, and a tuple has one cell; it is asked beside. -/
theorem fill_ok {w D} {place : Nat → Option (Nat × Nat)} {parts : List (Nat × PV)} {ps : List (Nat × Value)} {cells : List PV} {vs : Array Value} {cs : List PV}
    (h : fillC place cells parts = some cs) (hr : RepL w D cells vs.toList) (hl : parts.length = ps.length) (ht : noTup parts = true)
    (hp : ∀ (i : Nat) x y, parts[i]? = some x → ps[i]? = some y → x.1 = y.1 ∧ Rep w D x.2 y.2) :
    ∃ us, Instr.fill place vs ps = some us ∧ RepL w D cs us.toList :=
  fill_rep h hr hl fun i x y hx hy => ⟨(hp i x y hx hy).1, (hp i x y hx hy).2, noTup_mem ht hx⟩

theorem mapM_places {E : Env} {w : World} : ∀ {fl : List Field} {fs : List (Nat × TypeId)}, fl.map (fun f => (f.offset, f.type)) = fs → allT E fs = true →
    ∃ pl : List (Nat × Nat), (fl.mapM fun f : Field => (do pure (f.offset, ← Go.sizeOf f.type) : Sem (Nat × Nat))).run E.P w = .ok pl w ∧
      ∀ i : Nat, pl[i]? = placeF E fs i
  | [], fs, h, _ => by simp at h; subst h; exact ⟨[], rfl, by simp [placeF]⟩
  | f :: fl, fs, h, hs => by
    simp at h
    subst h
    simp only [allT] at hs
    split at hs
    case h_2 => cases hs
    rename_i ty hty
    have hsz : sizeT E f.type = some ty.size := by simp [sizeT, hty]
    obtain ⟨pl, h1, h2⟩ := mapM_places (w := w) (fl := fl) rfl hs
    refine ⟨(f.offset, ty.size) :: pl, ?_, fun i => ?_⟩
    · simp only [List.mapM_cons, Sem.run_bind, sizeT_run hsz w, Result.andThen_ok, Sem.run_pure, h1]
    · cases i with
      | zero => simp [placeF, hsz]
      | succ i => simpa [placeF] using h2 i

theorem build_run {C : Ctx} {w : World} {g : Gh} {m : List MU} {fr : List (Nat × V)} {a : Act} (hm : MemSim C w g m) (hf : FrameRel w g m fr a) {t : TypeId} {ty : Ty} {parts : Array (Nat × Operand)}
    {l : List (Nat × PV)} {cs : List PV} (hty : C.T t = some ty) (hl : partsOf C.toEnv fr parts.toList = some l) (ht : noTup l = true) {pl : Nat → Option (Nat × Nat)}
    (hfill : fillC pl ty.zero l = some cs)
    (hpl : (∃ fs, ty.k = .struct fs ∧ allT C.toEnv fs = true ∧ pl = placeF C.toEnv fs) ∨ ∃ n e sz, ty.k = .arr n e ∧ sizeT C.toEnv e = some sz ∧ pl = placeA sz) :
    ∃ v, (Instr.build t (parts.map fun (i, x) => (i, a.eval x))).run C.P w = .ok v w ∧ Rep w g.D (.agg cs) v := by
  have hT := tyOK_is (C.hT t ty hty)
  obtain ⟨z, hz1, hz2⟩ := hT.zero w
  obtain ⟨d, hd1, hd2, _⟩ := hT.under w
  obtain ⟨q1, q2⟩ := partsOf_rel hm hf hl
  have hps : (parts.map fun (i, x) => (i, a.eval x)).toList = parts.toList.map fun z => (z.1, a.eval z.2) := by simp
  obtain ⟨us, hu1, hu2⟩ := fill_ok (vs := z.cells) (ps := parts.toList.map fun z => (z.1, a.eval z.2)) hfill (zeroOK_rep hz2) (by simp [q1]) ht q2
  refine ⟨.agg us, ?_, ?_⟩
  · unfold Instr.build
    simp only [Sem.run_bind, hz1, Result.andThen_ok, hd1]
    rcases hpl with ⟨fs, hk, hs, rfl⟩ | ⟨n, e, sz, hk, hsz, rfl⟩
    · rw [hk] at hd2
      obtain ⟨fl, rfl, hfl⟩ := kind_struct hd2
      obtain ⟨pl', hp1, hp2⟩ := mapM_places (E := C.toEnv) (w := w) hfl hs
      have hpm : (fl.mapM fun f : Field => (do pure (f.offset, ← Go.sizeOf f.type) : Sem (Nat × Nat))).run C.P w = .ok pl'.toArray w := by
        rw [Array.mapM_eq_mapM_toList]
        simp only [Sem.run_map, hp1, Result.andThen_ok]
      simp only [Sem.run_bind, hpm, Result.andThen_ok]
      have hpl : (fun x => pl'.toArray[x]?) = placeF C.toEnv fs := by
        funext i
        simpa using hp2 i
      rw [hps, hpl, hu1]
      rfl
    · rw [hk] at hd2
      cases kind_arr hd2
      simp only [Sem.run_bind, sizeT_run hsz w, Result.andThen_ok]
      have e : (fun i => some (i * sz, sz)) = placeA sz := rfl
      rw [hps, e, hu1]
      rfl
  · exact RepL.agg (vs := us.toList) hu2

end Go.Pt
