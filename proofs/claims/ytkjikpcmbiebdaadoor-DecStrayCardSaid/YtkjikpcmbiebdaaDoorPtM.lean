/- Proved: what blocks of the own call hold behind a store. Conditions: none but those that stand in each lemma ahead of its colon. -/
import Derived.Test.YtkjikpcmbiebdaaDoorPtL
set_option linter.unusedVariables false
set_option linter.unusedSimpArgs false
namespace Go.Pt

structure Does (C : Ctx) (w : World) (g : Gh) (m : List MU) (o : Oper) (a : Act) (ms : List MU) (v : V) : Prop where
  ex : ∃ w' g' val, ((execOp a.eval o).run C.P w = .ok (.value val) w' ∨ (execOp a.eval o).run C.P w = .ok .skip w' ∧ val = undef) ∧ MemSim C w' g' (ms ++ m) ∧
    Keeps w g m w' g' (ms ++ m) ∧ VRel w' g' (ms ++ m) v val

theorem Does.ofPop {C : Ctx} {w : World} {g : Gh} {m : List MU} {fr : List (Nat × V)} {a : Act} (hm : MemSim C w g m) (hf : FrameRel w g m fr a) {o : Oper} {p : Prop} {v : V}
    (h : pop C.toEnv fr o = some (p, v)) (hp : p) : Does C w g m o a [] v := by
  obtain ⟨val, h1, h2⟩ := pop_sound hm hf h hp
  exact ⟨w, g, val, .inl h1, hm, Keeps.refl _ _ _, h2⟩

theorem Does.ofRun {C : Ctx} {w w' : World} {g g' : Gh} {m ms : List MU} {a : Act} {o : Oper} {s : Sem Value} {v : V} {val : Value} (he : execOp a.eval o = (do pure (Next.value (← s))))
    (hs : s.run C.P w = .ok val w') (h1 : MemSim C w' g' (ms ++ m)) (h2 : Keeps w g m w' g' (ms ++ m)) (h3 : VRel w' g' (ms ++ m) v val) : Does C w g m o a ms v :=
  ⟨w', g', val, .inl (by rw [he]; simp [hs]), h1, h2, h3⟩

/-- The cells of a block of the call's own. -/
theorem blk_get {C : Ctx} {w : World} {g : Gh} {m : List MU} (hm : MemSim C w g m) {b : Nat} {cs : List V} (hb : getB b m = some cs) {i : Nat} {c : V} (hi : cs[i]? = some c) :
    ∃ u, w.cell? ⟨g.mu b, i, none⟩ = some u ∧ VRel w g m c u := by
  obtain ⟨vs, el, h1, h2, h3, h4, h5⟩ := hm.blk b cs hb
  have hlt : i < vs.size := by rw [h3.1]; exact (List.getElem?_eq_some_iff.1 hi).1
  refine ⟨vs[i], by simp [World.cell?, h1, hlt], ?_⟩
  have := h4 i c hi
  rwa [show vs.getD i undef = vs[i] by simp [Array.getD, hlt]] at this

theorem toPVs_rel {w : World} {g : Gh} {m : List MU} : ∀ {cs : List V} {ps : List PV} {us : List Value}, toPVs cs = some ps → cs.length = us.length →
    (∀ (i : Nat) c u, cs[i]? = some c → us[i]? = some u → VRel w g m c u) → RepL w g.D ps us
  | [], ps, us, h, hl, _ => by
    simp only [toPVs, Option.some.injEq] at h
    subst h
    have : us = [] := List.length_eq_zero_iff.1 (by simpa using hl.symm)
    subst this
    exact .nil
  | c :: r, ps, us, h, hl, hr => by
    cases us with
    | nil => simp at hl
    | cons u us =>
      unfold toPVs at h
      split at h
      · rename_i p l hp hl'
        cases hb : p.one with
        | false => rw [hb] at h; cases h
        | true =>
          rw [hb] at h
          simp only [cond_true, Option.some.injEq] at h
          subst h
          have h1 := toPV_rel hp (hr 0 c u rfl rfl)
          exact (RepL.one_cell h1 hb).append (toPVs_rel hl' (by simpa using hl) (fun i c u hc hu => hr (i + 1) c u hc hu))
      · cases h

theorem load_run {C : Ctx} {w : World} {g : Gh} {m : List MU} (hm : MemSim C w g m) {b off : Nat} {cs : List V} (hb : getB b m = some cs) {t : TypeId} {v : V} (h : loadV C.toEnv t cs off = some v) :
    ∃ u, (Instr.loadAt t (.pointer (some ⟨g.mu b, off, none⟩))).run C.P w = .ok u w ∧ VRel w g m v u := by
  unfold loadV at h
  split at h
  · rename_i ty hty
    have ht := tyOK_is (C.hT t ty hty)
    have hagg := ht.isAgg w
    simp only [Instr.loadAt, Instr.sureAddr, Sem.run_bind, Sem.run_pure, Result.andThen_ok, loadVar, hagg, Sem.run_ite]
    cases hk : ty.k.agg with
    | true =>
      rw [hk] at h
      simp only [cond_true] at h
      cases hbl : Nat.ble (off + ty.size) cs.length with
      | false => rw [hbl] at h; cases h
      | true =>
        rw [hbl] at h
        simp only [cond_true] at h
        have hle : off + ty.size ≤ cs.length := by simpa using hbl
        split at h
        · rename_i ps hps
          simp only [forceL_eq, Option.some.injEq] at h
          subst h
          have hcell : ∀ j, j < ty.size → ∃ u, w.cell? ⟨g.mu b, off + j, none⟩ = some u ∧ ∀ c, cs[off + j]? = some c → VRel w g m c u := by
            intro j hj
            have hlt : off + j < cs.length := by omega
            obtain ⟨u, h1, h2⟩ := blk_get hm hb (i := off + j) (c := cs[off + j]) (by simp [hlt])
            exact ⟨u, h1, fun c hc => by rw [List.getElem?_eq_getElem hlt] at hc; cases hc; exact h2⟩
          let f : Nat → Value := fun j => (w.cell? ⟨g.mu b, off + j, none⟩).getD undef
          have hl := run_loadCells (P := C.P) w ⟨g.mu b, off, none⟩ ty.size f (fun j hj => by
            rw [add_none]
            obtain ⟨u, h1, _⟩ := hcell j hj
            simp [f, h1])
          have hrep := toPVs_rel (w := w) (g := g) (m := m) (us := (List.range ty.size).map f) hps (by simp; omega) (fun i c u hc hu => by
            have hi : i < ty.size := by
              have := (List.getElem?_eq_some_iff.1 hu).1
              simpa using this
            rw [List.getElem?_take, if_pos hi, List.getElem?_drop] at hc
            obtain ⟨u', h1, h2⟩ := hcell i hi
            simp [hi, f, h1] at hu
            subst hu
            exact h2 c hc)
          refine ⟨.agg ⟨(List.range ty.size).map f⟩, ?_, .pv _ _ hrep.agg⟩
          simp only [if_true, ht.sizeOf w, Result.andThen_ok, hl]
        · cases h
    | false =>
      rw [hk] at h
      simp only [cond_false] at h
      obtain ⟨u, h1, h2⟩ := blk_get hm hb h
      refine ⟨u, ?_, h2⟩
      simp [run_load, h1]
  · cases h

theorem cellsV_rel {w : World} {g : Gh} {m : List MU} {v : V} {vs : List V} {val : Value} (h : cellsV v = some vs) (hr : VRel w g m v val) :
    vs.length = val.cells.size ∧ (∀ u ∈ val.cells.toList, u.oneCell' = true) ∧ ∀ (i : Nat) c, vs[i]? = some c → VRel w g m c (val.cells.getD i undef) := by
  have one : ∀ (x : V), VRel w g m x val → val.cells = #[val] → val.oneCell' = true → [x].length = val.cells.size ∧ (∀ u ∈ val.cells.toList, u.oneCell' = true) ∧
      ∀ (i : Nat) c, [x][i]? = some c → VRel w g m c (val.cells.getD i undef) := by
    intro x hx hc ho
    rw [hc]
    refine ⟨rfl, by simpa using ho, fun i c hi => ?_⟩
    cases i with
    | zero => simp at hi; subst hi; exact hx
    | succ i => simp at hi
  cases v with
  | pv p =>
    cases p with
    | agg ps =>
      simp only [cellsV, forceL_eq, Option.some.injEq] at h
      subst h
      obtain ⟨us, rfl, hrep⟩ := rep_agg (pv_rel hr)
      refine ⟨by simp [Value.cells, hrep.len], by simpa [Value.cells] using hrep.oneCells, fun i c hi => ?_⟩
      rw [List.getElem?_map] at hi
      cases hp : ps[i]? with
      | none => rw [hp] at hi; cases hi
      | some p =>
        rw [hp] at hi
        cases hi
        obtain ⟨u, hu1, hu2, _⟩ := hrep.get hp
        have : (Value.cells (.agg ⟨us⟩)).getD i undef = u := by
          show (Array.mk us).getD i undef = u
          rw [Array.getD_eq_getD_getElem?]
          simp [hu1]
        rw [this]
        exact .pv _ _ hu2
    | tup l => cases h
    | _ =>
      simp only [cellsV, Option.some.injEq] at h
      subst h
      have hrep := pv_rel hr
      exact one _ hr (hrep.oneCell rfl).1 (rep_oneCell' hrep rfl)
  | undef => cases h
  | ptr b off => simp only [cellsV, Option.some.injEq] at h; subst h; cases hr with | ptr _ _ hb => exact one _ (.ptr b off hb) rfl rfl
  | ip cs =>
    simp only [cellsV, Option.some.injEq] at h
    subst h
    have hr' := hr
    cases hr with
    | ip _ b off us hc ho => exact one _ hr' rfl rfl
  | own t sz l =>
    simp only [cellsV, Option.some.injEq] at h
    subst h
    have hr' := hr
    cases hr with
    | own _ _ _ _ n h1 h2 h3 h4 =>
      obtain ⟨ad, cap, rfl, _, _⟩ := rep_sl_shape h1
      exact one _ hr' rfl rfl
  | clo f x y =>
    simp only [cellsV, Option.some.injEq] at h
    subst h
    have hr' := hr
    cases hr with
    | clo _ _ _ va vb h1 h2 h3 h4 => exact one _ hr' rfl rfl

/-- Some cells of a block of the call's own are written. -/
theorem store_cells {C : Ctx} (b : Nat) : ∀ (us : List Value) (vs : List V) (w : World) (g : Gh) (m : List MU) (off : Nat) (cs : List V), MemSim C w g m → getB b m = some cs → vs.length = us.length →
    off + vs.length ≤ cs.length → (∀ u ∈ us, u.oneCell' = true) → (∀ (i : Nat) c u, vs[i]? = some c → us[i]? = some u → VRel w g m c u) →
    ∃ w' m', (∀ base i, base + i = off → (storeCells ⟨g.mu b, base, none⟩ us i).run C.P w = .ok () w') ∧ MemSim C w' g m' ∧ Keeps w g m w' g m' ∧ getB b m' = some (cs.take off ++ (vs ++ cs.drop (off + vs.length))) ∧
      (∀ b', b' ≠ b → getB b' m' = getB b' m) ∧ ∀ t, getK t m' = getK t m
  | [], vs, w, g, m, off, cs, hm, hb, hl, hle, ho, hr => by
    have : vs = [] := List.length_eq_zero_iff.1 (by simpa using hl)
    subst this
    exact ⟨w, m, fun _ _ _ => rfl, hm, Keeps.refl _ _ _, by simpa using hb, fun _ _ => rfl, fun _ => rfl⟩
  | u :: us, vs, w, g, m, off, cs, hm, hb, hl, hle, ho, hr => by
    cases vs with
    | nil => simp at hl
    | cons c vs =>
      have hlt : off < cs.length := by simp at hle; omega
      obtain ⟨hm1, hk1, ⟨x, hx⟩, hf⟩ := hm.store hb hlt (hr 0 c u rfl rfl)
      obtain ⟨w', m', h1, h2, h3, h4, h5, h6⟩ := store_cells (C := C) b us vs _ g _ (off + 1) (cs.set off c) hm1 (getB_same _ _ _) (by simpa using hl) (by simp at hle ⊢; omega)
        (fun u hu => ho u (List.mem_cons_of_mem _ hu)) (fun i c u hc hu => (hr (i + 1) c u hc hu).keep hk1)
      refine ⟨w', m', fun base i e => ?_, h2, hk1.trans h3, ?_, fun b' hb' => (h5 b' hb').trans (getB_ne _ _ hb'), fun t => (h6 t).trans (getK_blk _ _ _ _)⟩
      · subst e
        have h1' := h1 base (i + 1) rfl
        simp only [storeCells, Sem.run_bind, add_none, run_store C.P w _ u .plain (ho u List.mem_cons_self), hx, hf, Bool.false_eq_true, if_false, Result.andThen_ok]
        exact h1'
      · rw [h4]
        congr 1
        rw [List.take_set, List.drop_set]
        have e1 : (cs.take (off + 1)).set off c = cs.take off ++ [c] := by
          rw [List.take_succ_eq_append_getElem hlt, List.set_append_right _ _ (by simp; omega)]
          simp [Nat.min_eq_left (Nat.le_of_lt hlt)]
        rw [e1, if_pos (by omega)]
        simp [Nat.add_assoc, Nat.add_comm 1]

end Go.Pt
