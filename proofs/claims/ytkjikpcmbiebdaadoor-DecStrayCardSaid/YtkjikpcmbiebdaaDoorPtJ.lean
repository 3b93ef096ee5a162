/- Proved: what slicing answers, and which cells a slice holds. Conditions: none but those that stand in each lemma ahead of its colon. -/
import Derived.Test.YtkjikpcmbiebdaaDoorPtI
set_option linter.unusedVariables false
set_option linter.unusedSimpArgs false
namespace Go.Pt

theorem rep_oneCell' {w D} {p : PV} {v : Value} (h : Rep w D p v) (ho : p.one = true) : v.oneCell' = true := by
  cases h <;> first | rfl | (simp [PV.one] at ho)

theorem RepL.oneCells {w D} {l : List PV} {vs : List Value} (h : RepL w D l vs) : ∀ v ∈ vs, v.oneCell' = true := by
  intro v hv
  obtain ⟨i, hi⟩ := List.mem_iff_getElem?.1 hv
  have hlt := (List.getElem?_eq_some_iff.1 hi).1
  have hl : i < l.length := by rw [h.len]; exact hlt
  have hp : l[i]? = some l[i] := by simp [hl]
  exact rep_oneCell' (h.at_ i _ v hp hi) (h.one _ (List.getElem_mem hl))

/-- The first cells of a slice. -/
theorem firstCells_run {P : Program} {w : World} {D} {sz sz' : Nat} {r : List PV} {v : Value} (h : Rep w D (.sl sz' r) v) (hs : sz' = sz ∨ r = []) :
    ∃ vals : List Value, (Builtin.firstCells sz r.length v).run P w = .ok vals.toArray w ∧ RepL w D (r.flatMap PV.cells) vals := by
  cases h with
  | nil =>
    refine ⟨[], ?_, RepL.nil⟩
    rename_i a cap
    cases a with
    | none => rfl
    | some a => simp [Builtin.firstCells, loadCells, loadCellsFrom]
  | sl _ _ b off _ vs hne hpos hsz hone hcap hc hr =>
    have : sz' = sz := hs.resolve_right hne
    subst this
    have hfl := flat_length r hsz
    refine ⟨(List.range (r.length * sz')).map vs, ?_, ?_, ?_, ?_⟩
    · simp only [Builtin.firstCells]
      exact run_loadCells w ⟨b, off, none⟩ _ vs (fun j hj => by
        rw [add_none]
        have hj' : j < (r.flatMap PV.cells).length := by omega
        exact (hc j _ (List.getElem?_eq_getElem hj')).2)
    · simp [hfl]
    · intro c hcm
      obtain ⟨e, he, hce⟩ := List.mem_flatMap.1 hcm
      exact hone e he c hce
    · intro i p u hp hu
      have hi := (List.getElem?_eq_some_iff.1 hp).1
      rw [hfl] at hi
      simp [hi] at hu
      subst hu
      exact hr i p hp

theorem firstCells_str {P : Program} {w : World} {D} (sz : Nat) (s : List UInt8) :
    ∃ vals : List Value, (Builtin.firstCells sz s.length (.string ⟨⟨s⟩⟩)).run P w = .ok vals.toArray w ∧ RepL w D ((bytes s).flatMap PV.cells) vals := by
  refine ⟨s.map fun b => .int .u8 b.toNat, ?_, ?_⟩
  · have e : (ByteArray.mk ⟨s⟩).extract 0 s.length = ⟨⟨s⟩⟩ := by
      apply ByteArray.ext
      apply Array.ext'
      simp
    simp [Builtin.firstCells, e]
  · have e : (bytes s).flatMap PV.cells = bytes s := by
      unfold bytes
      induction s with
      | nil => rfl
      | cons b r ih => simp only [List.map_cons, List.flatMap_cons, ih]; rfl
    rw [e]
    unfold bytes
    refine ⟨by simp, by simp [PV.one], fun i p v hp hv => ?_⟩
    rw [List.getElem?_map] at hp hv
    cases hs : s[i]? with
    | none => rw [hs] at hp; cases hp
    | some b => rw [hs] at hp hv; cases hp; cases hv; exact .int _ _

theorem storeCells_run {P : Program} (b o : Nat) : ∀ (vals : List Value) (i : Nat) (w : World) (vs : Array Value) (el : TypeId) (fz : Nat × Nat), w.heap[b]? = some (.cells vs el fz) →
    (∀ k, k < vs.size → ¬ (fz.1 ≤ k ∧ k < fz.2)) → o + i + vals.length ≤ vs.size → (∀ v ∈ vals, v.oneCell' = true) →
    (storeCells ⟨b, o, none⟩ vals i).run P w = .ok () (setCells w b (o + i) vals)
  | [], i, w, vs, el, fz, h, hf, hl, ho => rfl
  | v :: r, i, w, vs, el, fz, h, hf, hl, ho => by
    have hlt : o + i < vs.size := by simp at hl; omega
    have hcell : w.cell? ⟨b, o + i, none⟩ = some vs[o + i] := by simp [World.cell?, h, hlt]
    have hfr : w.frozen? ⟨b, o + i, none⟩ = false := by
      have := hf (o + i) hlt
      simp only [World.frozen?, h, decide_eq_false_iff_not, Bool.and_eq_false_imp, decide_eq_true_eq]
      omega
    have ih := storeCells_run (P := P) b o r (i + 1) (w.setCell ⟨b, o + i, none⟩ v) _ el fz (setCell_block w b (o + i) v vs el fz h) (by simpa using hf) (by simp at hl ⊢; omega)
      (fun u hu => ho u (List.mem_cons_of_mem _ hu))
    simp only [storeCells, Sem.run_bind, add_none, run_store P w _ v .plain (ho v List.mem_cons_self), hcell, hfr, Bool.false_eq_true, if_false, Result.andThen_ok, ih, setCells, Nat.add_assoc]

theorem growBy_le (n r : Nat) : ∀ c, c < n → Builtin.growBy n r c ≤ 2 * n + 768
  := by
  induction r with
  | zero => intro c h; simp [Builtin.growBy]; omega
  | succ r ih =>
    intro c h
    simp only [Builtin.growBy]
    split
    · omega
    · rcases Nat.lt_or_ge (c + (c + 768) / 4) n with h1 | h1
      · exact ih _ h1
      · cases r with
        | zero => simp [Builtin.growBy]; omega
        | succ r => simp only [Builtin.growBy]; rw [if_pos h1]; omega

theorem nextcap_le {n c : Nat} (h : c < n) : Builtin.nextslicecap n c ≤ 2 * n + 768 := by
  unfold Builtin.nextslicecap
  split
  · omega
  · split
    · omega
    · exact growBy_le n 4 c h

/-- What is appended, as cells. -/
def Adds (P : Program) (w : World) (D : Nat → Nat → Prop) (sz : Nat) (y : Value) (r : List PV) : Prop :=
  (Builtin.lenOf y).run P w = .ok r.length w ∧ (∀ d, ∃ vals : List Value, (Builtin.firstCells sz r.length y).run P { w with drawn := d } = .ok vals.toArray { w with drawn := d } ∧
    RepL w D (r.flatMap PV.cells) vals) ∧ (∀ e ∈ r, e.cells.length = sz) ∧ ∀ e ∈ r, ∀ c ∈ e.cells, c.one = true

theorem Rep.drawn {w : World} {D} {p : PV} {v : Value} {d : Nat} (h : Rep w D p v) : Rep { w with drawn := d } D p v :=
  Rep.mono (w := w) (w' := { w with drawn := d }) (D := D) (D' := D) (fun _ _ hd => ⟨hd, rfl⟩) h
theorem RepL.back {w : World} {D} {l : List PV} {vs : List Value} {d : Nat} (h : RepL { w with drawn := d } D l vs) : RepL w D l vs :=
  ⟨h.len, h.one, fun i p v hp hv => Rep.mono (w := { w with drawn := d }) (w' := w) (D := D) (D' := D) (fun _ _ hd => ⟨hd, rfl⟩) (h.at_ i p v hp hv)⟩

theorem adds_sl {P : Program} {w : World} {D} {sz sz' : Nat} {r : List PV} {v : Value} (h : Rep w D (.sl sz' r) v) (hs : sz' = sz ∨ r = []) : Adds P w D sz v r := by
  have hsz : (∀ e ∈ r, e.cells.length = sz) ∧ ∀ e ∈ r, ∀ c ∈ e.cells, c.one = true := by
    cases h with
    | nil => simp
    | sl _ _ b off _ vs hne hpos hsz hone hcap hc hr =>
      have : sz' = sz := hs.resolve_right hne
      subst this
      exact ⟨hsz, hone⟩
  refine ⟨?_, fun d => ?_, hsz⟩
  · obtain ⟨a, cap, rfl, _, _⟩ := rep_sl_shape h
    rfl
  · obtain ⟨vals, h1, h2⟩ := firstCells_run (P := P) (h.drawn (d := d)) hs
    exact ⟨vals, h1, h2.back⟩

theorem adds_str {P : Program} {w : World} {D} (s : List UInt8) : Adds P w D 1 (.string ⟨⟨s⟩⟩) (bytes s) := by
  have hl : (bytes s).length = s.length := by simp [bytes]
  refine ⟨by rw [hl]; rfl, fun d => ?_, ?_, ?_⟩
  · obtain ⟨vals, h1, h2⟩ := firstCells_str (P := P) (w := { w with drawn := d }) (D := D) 1 s
    exact ⟨vals, by rw [hl]; exact h1, h2.back⟩
  · intro e he
    obtain ⟨b, _, rfl⟩ := List.mem_map.1 he
    rfl
  · intro e he c hc
    obtain ⟨b, _, rfl⟩ := List.mem_map.1 he
    simp [PV.cells] at hc
    subst hc
    rfl

end Go.Pt
