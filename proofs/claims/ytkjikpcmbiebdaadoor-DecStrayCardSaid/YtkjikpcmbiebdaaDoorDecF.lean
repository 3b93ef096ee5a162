/- Proved: what dec.whole and dec.begins answer for every text. Conditions: none but those that stand in each lemma ahead of its colon. -/
import Derived.Test.YtkjikpcmbiebdaaDoorDecD
import Derived.Test.YtkjikpcmbiebdaaDoorDecM
set_option linter.unusedVariables false
set_option linter.unusedSimpArgs false
namespace Go.Pt
open Go.Proofs
set_option maxHeartbeats 8000000
theorem begins_spec (s : List UInt8) (hs : s.length ≤ 1073741824) : Spec E 26 [.str s] (.bool (beginsM s)) := by
  refine spec_of_run Tryd.func26 (by decide) rfl (Nat.le_of_ble_eq_true rfl) ?_
  refine Run.auto rfl (by and_intros <;> first | exact True.intro | (with_reducible rfl) | (with_reducible assumption) | omega | ((simp only [Inb, Cut, Small, List.length_map, List.length_cons, List.length_nil, bytes, decide_eq_true_eq, decide_eq_false_iff_not, Bool.not_true, Bool.not_false, beq_iff_eq, bne_iff_ne, ne_eq, beq_eq_false_iff_ne, bne_eq_false_iff_eq] at *) <;> omega) | (refine eta_map (fun _ => rfl) ?_; simp only [Inb, List.length_map]; omega)) ?_
  repeat' (first
    | (refine Run.hereOps ?_; refine Run.callA (full_spec s hs) rfl rfl rfl rfl rfl rfl ?_; refine Run.auto rfl (by and_intros <;> first | exact True.intro | (with_reducible rfl) | (with_reducible assumption) | omega | ((simp only [Inb, Cut, Small, List.length_map, List.length_cons, List.length_nil, bytes, decide_eq_true_eq, decide_eq_false_iff_not, Bool.not_true, Bool.not_false, beq_iff_eq, bne_iff_ne, ne_eq, beq_eq_false_iff_ne, bne_eq_false_iff_eq] at *) <;> omega) | (refine eta_map (fun _ => rfl) ?_; simp only [Inb, List.length_map]; omega)) ?_)
    | (refine Dr.here ?_; refine Dr.ruleB (Rule.call (full_spec s hs) rfl rfl rfl rfl rfl) rfl (Dr.auto rfl (by and_intros <;> first | exact True.intro | (with_reducible rfl) | (with_reducible assumption) | omega | ((simp only [Inb, Cut, Small, List.length_map, List.length_cons, List.length_nil, bytes, decide_eq_true_eq, decide_eq_false_iff_not, Bool.not_true, Bool.not_false, beq_iff_eq, bne_iff_ne, ne_eq, beq_eq_false_iff_ne, bne_eq_false_iff_eq] at *) <;> omega) | (refine eta_map (fun _ => rfl) ?_; simp only [Inb, List.length_map]; omega)) ?_))
    | (refine Dr.here ?_; refine Dr.gB rfl rfl rfl (by first | (with_reducible assumption) | (with_reducible rfl)) (Rule.call (full_spec s hs) rfl rfl rfl rfl rfl) rfl (Dr.auto rfl (by and_intros <;> first | exact True.intro | (with_reducible rfl) | (with_reducible assumption) | omega | ((simp only [Inb, Cut, Small, List.length_map, List.length_cons, List.length_nil, bytes, decide_eq_true_eq, decide_eq_false_iff_not, Bool.not_true, Bool.not_false, beq_iff_eq, bne_iff_ne, ne_eq, beq_eq_false_iff_ne, bne_eq_false_iff_eq] at *) <;> omega) | (refine eta_map (fun _ => rfl) ?_; simp only [Inb, List.length_map]; omega)) ?_))
    | (refine Run.hereCond ?_; refine Run.cond rfl (fun h => ?_) (fun h => ?_) <;> (try (with_reducible first | exact tf h | exact ft h)))
    | (refine Run.hereDraw ?_; refine Dr.start (Dr.auto rfl (by and_intros <;> first | exact True.intro | (with_reducible rfl) | (with_reducible assumption) | omega | ((simp only [Inb, Cut, Small, List.length_map, List.length_cons, List.length_nil, bytes, decide_eq_true_eq, decide_eq_false_iff_not, Bool.not_true, Bool.not_false, beq_iff_eq, bne_iff_ne, ne_eq, beq_eq_false_iff_ne, bne_eq_false_iff_eq] at *) <;> omega) | (refine eta_map (fun _ => rfl) ?_; simp only [Inb, List.length_map]; omega)) ?_))
    | (refine Dr.here ?_; first
    | refine Dr.done follows (by kernel_rfl) (by kernel_rfl) ?_
    | refine Dr.gB rfl rfl rfl (by first | (with_reducible assumption) | (with_reducible rfl)) (Rule.stepA rfl rfl rfl (by and_intros <;> first | exact True.intro | (with_reducible rfl) | (with_reducible assumption) | omega | ((simp only [Inb, Cut, Small, List.length_map, List.length_cons, List.length_nil, bytes, decide_eq_true_eq, decide_eq_false_iff_not, Bool.not_true, Bool.not_false, beq_iff_eq, bne_iff_ne, ne_eq, beq_eq_false_iff_ne, bne_eq_false_iff_eq] at *) <;> omega) | (refine eta_map (fun _ => rfl) ?_; simp only [Inb, List.length_map]; omega))) rfl (Dr.auto rfl (by and_intros <;> first | exact True.intro | (with_reducible rfl) | (with_reducible assumption) | omega | ((simp only [Inb, Cut, Small, List.length_map, List.length_cons, List.length_nil, bytes, decide_eq_true_eq, decide_eq_false_iff_not, Bool.not_true, Bool.not_false, beq_iff_eq, bne_iff_ne, ne_eq, beq_eq_false_iff_ne, bne_eq_false_iff_eq] at *) <;> omega) | (refine eta_map (fun _ => rfl) ?_; simp only [Inb, List.length_map]; omega)) ?_)
    | refine Dr.gA rfl rfl rfl (by first | (with_reducible assumption) | (with_reducible rfl)) (Rule.stepA rfl rfl rfl (by and_intros <;> first | exact True.intro | (with_reducible rfl) | (with_reducible assumption) | omega | ((simp only [Inb, Cut, Small, List.length_map, List.length_cons, List.length_nil, bytes, decide_eq_true_eq, decide_eq_false_iff_not, Bool.not_true, Bool.not_false, beq_iff_eq, bne_iff_ne, ne_eq, beq_eq_false_iff_ne, bne_eq_false_iff_eq] at *) <;> omega) | (refine eta_map (fun _ => rfl) ?_; simp only [Inb, List.length_map]; omega))) rfl (Dr.auto rfl (by and_intros <;> first | exact True.intro | (with_reducible rfl) | (with_reducible assumption) | omega | ((simp only [Inb, Cut, Small, List.length_map, List.length_cons, List.length_nil, bytes, decide_eq_true_eq, decide_eq_false_iff_not, Bool.not_true, Bool.not_false, beq_iff_eq, bne_iff_ne, ne_eq, beq_eq_false_iff_ne, bne_eq_false_iff_eq] at *) <;> omega) | (refine eta_map (fun _ => rfl) ?_; simp only [Inb, List.length_map]; omega)) ?_)
    | refine Dr.passT rfl rfl rfl (by first | (with_reducible assumption) | (with_reducible rfl)) rfl rfl (Dr.auto rfl (by and_intros <;> first | exact True.intro | (with_reducible rfl) | (with_reducible assumption) | omega | ((simp only [Inb, Cut, Small, List.length_map, List.length_cons, List.length_nil, bytes, decide_eq_true_eq, decide_eq_false_iff_not, Bool.not_true, Bool.not_false, beq_iff_eq, bne_iff_ne, ne_eq, beq_eq_false_iff_ne, bne_eq_false_iff_eq] at *) <;> omega) | (refine eta_map (fun _ => rfl) ?_; simp only [Inb, List.length_map]; omega)) ?_)
    | refine Dr.passF rfl rfl rfl (by first | (with_reducible assumption) | (with_reducible rfl)) rfl rfl (Dr.auto rfl (by and_intros <;> first | exact True.intro | (with_reducible rfl) | (with_reducible assumption) | omega | ((simp only [Inb, Cut, Small, List.length_map, List.length_cons, List.length_nil, bytes, decide_eq_true_eq, decide_eq_false_iff_not, Bool.not_true, Bool.not_false, beq_iff_eq, bne_iff_ne, ne_eq, beq_eq_false_iff_ne, bne_eq_false_iff_eq] at *) <;> omega) | (refine eta_map (fun _ => rfl) ?_; simp only [Inb, List.length_map]; omega)) ?_)
    | refine Dr.ruleB (Rule.pickT rfl rfl rfl (by first | (with_reducible assumption) | (with_reducible rfl)) rfl rfl) rfl (Dr.auto rfl (by and_intros <;> first | exact True.intro | (with_reducible rfl) | (with_reducible assumption) | omega | ((simp only [Inb, Cut, Small, List.length_map, List.length_cons, List.length_nil, bytes, decide_eq_true_eq, decide_eq_false_iff_not, Bool.not_true, Bool.not_false, beq_iff_eq, bne_iff_ne, ne_eq, beq_eq_false_iff_ne, bne_eq_false_iff_eq] at *) <;> omega) | (refine eta_map (fun _ => rfl) ?_; simp only [Inb, List.length_map]; omega)) ?_)
    | refine Dr.ruleB (Rule.pickF rfl rfl rfl (by first | (with_reducible assumption) | (with_reducible rfl)) rfl rfl) rfl (Dr.auto rfl (by and_intros <;> first | exact True.intro | (with_reducible rfl) | (with_reducible assumption) | omega | ((simp only [Inb, Cut, Small, List.length_map, List.length_cons, List.length_nil, bytes, decide_eq_true_eq, decide_eq_false_iff_not, Bool.not_true, Bool.not_false, beq_iff_eq, bne_iff_ne, ne_eq, beq_eq_false_iff_ne, bne_eq_false_iff_eq] at *) <;> omega) | (refine eta_map (fun _ => rfl) ?_; simp only [Inb, List.length_map]; omega)) ?_)
    | refine Dr.gB rfl rfl rfl (by first | (with_reducible assumption) | (with_reducible rfl)) (Rule.pickT rfl rfl rfl (by first | (with_reducible assumption) | (with_reducible rfl)) rfl rfl) rfl (Dr.auto rfl (by and_intros <;> first | exact True.intro | (with_reducible rfl) | (with_reducible assumption) | omega | ((simp only [Inb, Cut, Small, List.length_map, List.length_cons, List.length_nil, bytes, decide_eq_true_eq, decide_eq_false_iff_not, Bool.not_true, Bool.not_false, beq_iff_eq, bne_iff_ne, ne_eq, beq_eq_false_iff_ne, bne_eq_false_iff_eq] at *) <;> omega) | (refine eta_map (fun _ => rfl) ?_; simp only [Inb, List.length_map]; omega)) ?_)
    | refine Dr.gB rfl rfl rfl (by first | (with_reducible assumption) | (with_reducible rfl)) (Rule.pickF rfl rfl rfl (by first | (with_reducible assumption) | (with_reducible rfl)) rfl rfl) rfl (Dr.auto rfl (by and_intros <;> first | exact True.intro | (with_reducible rfl) | (with_reducible assumption) | omega | ((simp only [Inb, Cut, Small, List.length_map, List.length_cons, List.length_nil, bytes, decide_eq_true_eq, decide_eq_false_iff_not, Bool.not_true, Bool.not_false, beq_iff_eq, bne_iff_ne, ne_eq, beq_eq_false_iff_ne, bne_eq_false_iff_eq] at *) <;> omega) | (refine eta_map (fun _ => rfl) ?_; simp only [Inb, List.length_map]; omega)) ?_)
    | refine Dr.splitB rfl rfl rfl (fun h => ?_) (fun h => ?_))
    | (refine Run.hereOps ?_; first
    | refine Run.gyes rfl rfl rfl (by first | (with_reducible assumption) | (with_reducible rfl)) (Run.auto rfl (by and_intros <;> first | exact True.intro | (with_reducible rfl) | (with_reducible assumption) | omega | ((simp only [Inb, Cut, Small, List.length_map, List.length_cons, List.length_nil, bytes, decide_eq_true_eq, decide_eq_false_iff_not, Bool.not_true, Bool.not_false, beq_iff_eq, bne_iff_ne, ne_eq, beq_eq_false_iff_ne, bne_eq_false_iff_eq] at *) <;> omega) | (refine eta_map (fun _ => rfl) ?_; simp only [Inb, List.length_map]; omega)) ?_)
    | refine Run.gpassT rfl rfl rfl (by first | (with_reducible assumption) | (with_reducible rfl)) rfl rfl (Run.auto rfl (by and_intros <;> first | exact True.intro | (with_reducible rfl) | (with_reducible assumption) | omega | ((simp only [Inb, Cut, Small, List.length_map, List.length_cons, List.length_nil, bytes, decide_eq_true_eq, decide_eq_false_iff_not, Bool.not_true, Bool.not_false, beq_iff_eq, bne_iff_ne, ne_eq, beq_eq_false_iff_ne, bne_eq_false_iff_eq] at *) <;> omega) | (refine eta_map (fun _ => rfl) ?_; simp only [Inb, List.length_map]; omega)) ?_)
    | refine Run.gpassF rfl rfl rfl (by first | (with_reducible assumption) | (with_reducible rfl)) rfl rfl (Run.auto rfl (by and_intros <;> first | exact True.intro | (with_reducible rfl) | (with_reducible assumption) | omega | ((simp only [Inb, Cut, Small, List.length_map, List.length_cons, List.length_nil, bytes, decide_eq_true_eq, decide_eq_false_iff_not, Bool.not_true, Bool.not_false, beq_iff_eq, bne_iff_ne, ne_eq, beq_eq_false_iff_ne, bne_eq_false_iff_eq] at *) <;> omega) | (refine eta_map (fun _ => rfl) ?_; simp only [Inb, List.length_map]; omega)) ?_)
    | refine Run.gpassU rfl rfl rfl rfl rfl (Run.auto rfl (by and_intros <;> first | exact True.intro | (with_reducible rfl) | (with_reducible assumption) | omega | ((simp only [Inb, Cut, Small, List.length_map, List.length_cons, List.length_nil, bytes, decide_eq_true_eq, decide_eq_false_iff_not, Bool.not_true, Bool.not_false, beq_iff_eq, bne_iff_ne, ne_eq, beq_eq_false_iff_ne, bne_eq_false_iff_eq] at *) <;> omega) | (refine eta_map (fun _ => rfl) ?_; simp only [Inb, List.length_map]; omega)) ?_)
    | refine Run.pickT rfl rfl rfl (by first | (with_reducible assumption) | (with_reducible rfl)) rfl rfl rfl (Run.auto rfl (by and_intros <;> first | exact True.intro | (with_reducible rfl) | (with_reducible assumption) | omega | ((simp only [Inb, Cut, Small, List.length_map, List.length_cons, List.length_nil, bytes, decide_eq_true_eq, decide_eq_false_iff_not, Bool.not_true, Bool.not_false, beq_iff_eq, bne_iff_ne, ne_eq, beq_eq_false_iff_ne, bne_eq_false_iff_eq] at *) <;> omega) | (refine eta_map (fun _ => rfl) ?_; simp only [Inb, List.length_map]; omega)) ?_)
    | refine Run.pickF rfl rfl rfl (by first | (with_reducible assumption) | (with_reducible rfl)) rfl rfl rfl (Run.auto rfl (by and_intros <;> first | exact True.intro | (with_reducible rfl) | (with_reducible assumption) | omega | ((simp only [Inb, Cut, Small, List.length_map, List.length_cons, List.length_nil, bytes, decide_eq_true_eq, decide_eq_false_iff_not, Bool.not_true, Bool.not_false, beq_iff_eq, bne_iff_ne, ne_eq, beq_eq_false_iff_ne, bne_eq_false_iff_eq] at *) <;> omega) | (refine eta_map (fun _ => rfl) ?_; simp only [Inb, List.length_map]; omega)) ?_)
    | refine Run.gsplitB rfl rfl rfl (fun h => ?_) (fun h => ?_))
    | ((first | refine Run.hereSeq ?_ | refine Run.hereSkip ?_ | refine Run.hereReg ?_ | refine Run.hereBlock ?_ | refine Run.hereExit ?_ | refine Run.hereInBlock ?_ | refine Run.hereNil ?_); refine Run.auto rfl (by and_intros <;> first | exact True.intro | (with_reducible rfl) | (with_reducible assumption) | omega | ((simp only [Inb, Cut, Small, List.length_map, List.length_cons, List.length_nil, bytes, decide_eq_true_eq, decide_eq_false_iff_not, Bool.not_true, Bool.not_false, beq_iff_eq, bne_iff_ne, ne_eq, beq_eq_false_iff_ne, bne_eq_false_iff_eq] at *) <;> omega) | (refine eta_map (fun _ => rfl) ?_; simp only [Inb, List.length_map]; omega)) ?_))
  all_goals (refine Run.hereRet ?_; refine Run.ret rfl ⟨_, rfl, congrArg (some ∘ PV.bool) ?_⟩)
  · rename_i h1
    have h2 := h
    have h3 : (!(s == [])) = true := h1
    have h4 : s ≠ [] := by simpa using h3
    have h5 : s.length ≤ 3 := by simp at h2; omega
    simp [beginsM, h4, h5]
  · rename_i h1
    have h2 := h
    have h5 : ¬ s.length ≤ 3 := by simp at h2; omega
    simp [beginsM, h5]
  · have h3 : (!(s == [])) = false := h
    have h4 : s = [] := by simpa using h3
    subst h4
    rfl

theorem decM_lt (s : List UInt8) : (decM s).1 < 4194304 := by
  unfold decM
  (repeat' split) <;> try (simp; done)
  · rename_i a r _
    have := a.toNat_lt
    simp only
    omega
  · unfold valOf
    (repeat' split) <;> omega
theorem decM_fst (s : List UInt8) : IntKind.i64.wrap ((decM s).1 : Int) = ((decM s).1 : Int) := by
  have := decM_lt s
  exact wrap_i64_of (by omega) (by omega)
theorem okRest_lsize {a : UInt8} {r : List UInt8} (h : okRest a r = true) : 2 ≤ lsize a ∧ lsize a ≤ r.length + 1 := by
  unfold okRest at h
  split at h <;> simp_all
theorem whole_valid {a : UInt8} {r : List UInt8} (h : (decM (a :: r)).2 = (a :: r).length) : validM 4 (a :: r) = (wholeM (a :: r)).isSome := by
  simp only [decM] at h
  by_cases h1 : a.toNat < 128
  · rw [if_pos h1] at h
    obtain rfl : r = [] := by simpa using h.symm
    simp [validM, wholeM, h1]
  · rw [if_neg h1] at h
    by_cases h2 : okRest a r = true
    · rw [if_pos h2] at h
      have h3 : lsize a = r.length + 1 := by simpa using h
      simp [validM, wholeM, h1, h2, h3]
    · rw [if_neg h2] at h
      obtain rfl : r = [] := by simpa using h.symm
      simp [validM, wholeM, h1, h2]
theorem whole_len {a : UInt8} {r : List UInt8} (h : (decM (a :: r)).2 ≠ (a :: r).length) : wholeM (a :: r) = none := by
  simp only [decM] at h
  by_cases h1 : a.toNat < 128
  · rw [if_pos h1] at h
    have : r ≠ [] := by rintro rfl; simp at h
    simp [wholeM, h1, this]
  · rw [if_neg h1] at h
    by_cases h2 : okRest a r = true
    · rw [if_pos h2] at h
      have h3 : ¬ r.length + 1 = lsize a := fun e => h (by simp [e])
      simp [wholeM, h1, h3]
    · simp [wholeM, h1, h2]
theorem whole_fst {s : List UInt8} {v : Nat} (h : wholeM s = some v) : (decM s).1 = v := by
  match s, h with
  | a :: r, h =>
    simp only [wholeM] at h
    simp only [decM]
    by_cases h1 : a.toNat < 128
    · rw [if_pos h1] at h ⊢
      split at h <;> simp_all
    · rw [if_neg h1] at h ⊢
      split at h
      · rename_i h2
        rw [if_pos h2.1]
        simpa using h
      · cases h
theorem decM_pos (a : UInt8) (r : List UInt8) : 0 < (decM (a :: r)).2 := by
  simp only [decM]
  (repeat' split)
  · simp
  · rename_i h
    have := okRest_lsize h
    simp only
    omega
  · simp
theorem whole_spec (a : UInt8) (r : List UInt8) (hs : (a :: r).length ≤ 4) : Spec E 25 [.str (a :: r)] (.tup [.int .i64 (decM (a :: r)).1, .bool (wholeM (a :: r)).isSome]) := by
  refine spec_of_run Tryd.func25 (by decide) rfl (Nat.le_of_ble_eq_true rfl) ?_
  refine Run.auto rfl (by and_intros <;> first | exact True.intro | (with_reducible rfl) | (with_reducible assumption) | omega | ((simp only [Inb, Cut, Small, List.length_map, List.length_cons, List.length_nil, bytes, decide_eq_true_eq, decide_eq_false_iff_not, Bool.not_true, Bool.not_false, beq_iff_eq, bne_iff_ne, ne_eq, beq_eq_false_iff_ne, bne_eq_false_iff_eq] at *) <;> omega) | (refine eta_map (fun _ => rfl) ?_; simp only [Inb, List.length_map]; omega)) ?_
  repeat' (first
    | (refine Run.hereOps ?_; refine Run.callA (dec_spec a r (by omega)) rfl rfl rfl rfl rfl rfl ?_; refine Run.auto rfl (by and_intros <;> first | exact True.intro | (with_reducible rfl) | (with_reducible assumption) | omega | ((simp only [Inb, Cut, Small, List.length_map, List.length_cons, List.length_nil, bytes, decide_eq_true_eq, decide_eq_false_iff_not, Bool.not_true, Bool.not_false, beq_iff_eq, bne_iff_ne, ne_eq, beq_eq_false_iff_ne, bne_eq_false_iff_eq] at *) <;> omega) | (refine eta_map (fun _ => rfl) ?_; simp only [Inb, List.length_map]; omega)) ?_)
    | (refine Dr.here ?_; refine Dr.ruleB (Rule.call (dec_spec a r (by omega)) rfl rfl rfl rfl rfl) rfl (Dr.auto rfl (by and_intros <;> first | exact True.intro | (with_reducible rfl) | (with_reducible assumption) | omega | ((simp only [Inb, Cut, Small, List.length_map, List.length_cons, List.length_nil, bytes, decide_eq_true_eq, decide_eq_false_iff_not, Bool.not_true, Bool.not_false, beq_iff_eq, bne_iff_ne, ne_eq, beq_eq_false_iff_ne, bne_eq_false_iff_eq] at *) <;> omega) | (refine eta_map (fun _ => rfl) ?_; simp only [Inb, List.length_map]; omega)) ?_))
    | (refine Dr.here ?_; refine Dr.gB rfl rfl rfl (by first | (with_reducible assumption) | (with_reducible rfl)) (Rule.call (dec_spec a r (by omega)) rfl rfl rfl rfl rfl) rfl (Dr.auto rfl (by and_intros <;> first | exact True.intro | (with_reducible rfl) | (with_reducible assumption) | omega | ((simp only [Inb, Cut, Small, List.length_map, List.length_cons, List.length_nil, bytes, decide_eq_true_eq, decide_eq_false_iff_not, Bool.not_true, Bool.not_false, beq_iff_eq, bne_iff_ne, ne_eq, beq_eq_false_iff_ne, bne_eq_false_iff_eq] at *) <;> omega) | (refine eta_map (fun _ => rfl) ?_; simp only [Inb, List.length_map]; omega)) ?_))
    | (refine Run.hereOps ?_; refine Run.callA (valid_spec (a :: r) hs) rfl rfl rfl rfl rfl rfl ?_; refine Run.auto rfl (by and_intros <;> first | exact True.intro | (with_reducible rfl) | (with_reducible assumption) | omega | ((simp only [Inb, Cut, Small, List.length_map, List.length_cons, List.length_nil, bytes, decide_eq_true_eq, decide_eq_false_iff_not, Bool.not_true, Bool.not_false, beq_iff_eq, bne_iff_ne, ne_eq, beq_eq_false_iff_ne, bne_eq_false_iff_eq] at *) <;> omega) | (refine eta_map (fun _ => rfl) ?_; simp only [Inb, List.length_map]; omega)) ?_)
    | (refine Dr.here ?_; refine Dr.ruleB (Rule.call (valid_spec (a :: r) hs) rfl rfl rfl rfl rfl) rfl (Dr.auto rfl (by and_intros <;> first | exact True.intro | (with_reducible rfl) | (with_reducible assumption) | omega | ((simp only [Inb, Cut, Small, List.length_map, List.length_cons, List.length_nil, bytes, decide_eq_true_eq, decide_eq_false_iff_not, Bool.not_true, Bool.not_false, beq_iff_eq, bne_iff_ne, ne_eq, beq_eq_false_iff_ne, bne_eq_false_iff_eq] at *) <;> omega) | (refine eta_map (fun _ => rfl) ?_; simp only [Inb, List.length_map]; omega)) ?_))
    | (refine Dr.here ?_; refine Dr.gB rfl rfl rfl (by first | (with_reducible assumption) | (with_reducible rfl)) (Rule.call (valid_spec (a :: r) hs) rfl rfl rfl rfl rfl) rfl (Dr.auto rfl (by and_intros <;> first | exact True.intro | (with_reducible rfl) | (with_reducible assumption) | omega | ((simp only [Inb, Cut, Small, List.length_map, List.length_cons, List.length_nil, bytes, decide_eq_true_eq, decide_eq_false_iff_not, Bool.not_true, Bool.not_false, beq_iff_eq, bne_iff_ne, ne_eq, beq_eq_false_iff_ne, bne_eq_false_iff_eq] at *) <;> omega) | (refine eta_map (fun _ => rfl) ?_; simp only [Inb, List.length_map]; omega)) ?_))
    | (refine Run.hereCond ?_; refine Run.cond rfl (fun h => ?_) (fun h => ?_) <;> (try (with_reducible first | exact tf h | exact ft h)))
    | (refine Run.hereDraw ?_; refine Dr.start (Dr.auto rfl (by and_intros <;> first | exact True.intro | (with_reducible rfl) | (with_reducible assumption) | omega | ((simp only [Inb, Cut, Small, List.length_map, List.length_cons, List.length_nil, bytes, decide_eq_true_eq, decide_eq_false_iff_not, Bool.not_true, Bool.not_false, beq_iff_eq, bne_iff_ne, ne_eq, beq_eq_false_iff_ne, bne_eq_false_iff_eq] at *) <;> omega) | (refine eta_map (fun _ => rfl) ?_; simp only [Inb, List.length_map]; omega)) ?_))
    | (refine Dr.here ?_; first
    | refine Dr.done follows (by kernel_rfl) (by kernel_rfl) ?_
    | refine Dr.gB rfl rfl rfl (by first | (with_reducible assumption) | (with_reducible rfl)) (Rule.stepA rfl rfl rfl (by and_intros <;> first | exact True.intro | (with_reducible rfl) | (with_reducible assumption) | omega | ((simp only [Inb, Cut, Small, List.length_map, List.length_cons, List.length_nil, bytes, decide_eq_true_eq, decide_eq_false_iff_not, Bool.not_true, Bool.not_false, beq_iff_eq, bne_iff_ne, ne_eq, beq_eq_false_iff_ne, bne_eq_false_iff_eq] at *) <;> omega) | (refine eta_map (fun _ => rfl) ?_; simp only [Inb, List.length_map]; omega))) rfl (Dr.auto rfl (by and_intros <;> first | exact True.intro | (with_reducible rfl) | (with_reducible assumption) | omega | ((simp only [Inb, Cut, Small, List.length_map, List.length_cons, List.length_nil, bytes, decide_eq_true_eq, decide_eq_false_iff_not, Bool.not_true, Bool.not_false, beq_iff_eq, bne_iff_ne, ne_eq, beq_eq_false_iff_ne, bne_eq_false_iff_eq] at *) <;> omega) | (refine eta_map (fun _ => rfl) ?_; simp only [Inb, List.length_map]; omega)) ?_)
    | refine Dr.gA rfl rfl rfl (by first | (with_reducible assumption) | (with_reducible rfl)) (Rule.stepA rfl rfl rfl (by and_intros <;> first | exact True.intro | (with_reducible rfl) | (with_reducible assumption) | omega | ((simp only [Inb, Cut, Small, List.length_map, List.length_cons, List.length_nil, bytes, decide_eq_true_eq, decide_eq_false_iff_not, Bool.not_true, Bool.not_false, beq_iff_eq, bne_iff_ne, ne_eq, beq_eq_false_iff_ne, bne_eq_false_iff_eq] at *) <;> omega) | (refine eta_map (fun _ => rfl) ?_; simp only [Inb, List.length_map]; omega))) rfl (Dr.auto rfl (by and_intros <;> first | exact True.intro | (with_reducible rfl) | (with_reducible assumption) | omega | ((simp only [Inb, Cut, Small, List.length_map, List.length_cons, List.length_nil, bytes, decide_eq_true_eq, decide_eq_false_iff_not, Bool.not_true, Bool.not_false, beq_iff_eq, bne_iff_ne, ne_eq, beq_eq_false_iff_ne, bne_eq_false_iff_eq] at *) <;> omega) | (refine eta_map (fun _ => rfl) ?_; simp only [Inb, List.length_map]; omega)) ?_)
    | refine Dr.passT rfl rfl rfl (by first | (with_reducible assumption) | (with_reducible rfl)) rfl rfl (Dr.auto rfl (by and_intros <;> first | exact True.intro | (with_reducible rfl) | (with_reducible assumption) | omega | ((simp only [Inb, Cut, Small, List.length_map, List.length_cons, List.length_nil, bytes, decide_eq_true_eq, decide_eq_false_iff_not, Bool.not_true, Bool.not_false, beq_iff_eq, bne_iff_ne, ne_eq, beq_eq_false_iff_ne, bne_eq_false_iff_eq] at *) <;> omega) | (refine eta_map (fun _ => rfl) ?_; simp only [Inb, List.length_map]; omega)) ?_)
    | refine Dr.passF rfl rfl rfl (by first | (with_reducible assumption) | (with_reducible rfl)) rfl rfl (Dr.auto rfl (by and_intros <;> first | exact True.intro | (with_reducible rfl) | (with_reducible assumption) | omega | ((simp only [Inb, Cut, Small, List.length_map, List.length_cons, List.length_nil, bytes, decide_eq_true_eq, decide_eq_false_iff_not, Bool.not_true, Bool.not_false, beq_iff_eq, bne_iff_ne, ne_eq, beq_eq_false_iff_ne, bne_eq_false_iff_eq] at *) <;> omega) | (refine eta_map (fun _ => rfl) ?_; simp only [Inb, List.length_map]; omega)) ?_)
    | refine Dr.ruleB (Rule.pickT rfl rfl rfl (by first | (with_reducible assumption) | (with_reducible rfl)) rfl rfl) rfl (Dr.auto rfl (by and_intros <;> first | exact True.intro | (with_reducible rfl) | (with_reducible assumption) | omega | ((simp only [Inb, Cut, Small, List.length_map, List.length_cons, List.length_nil, bytes, decide_eq_true_eq, decide_eq_false_iff_not, Bool.not_true, Bool.not_false, beq_iff_eq, bne_iff_ne, ne_eq, beq_eq_false_iff_ne, bne_eq_false_iff_eq] at *) <;> omega) | (refine eta_map (fun _ => rfl) ?_; simp only [Inb, List.length_map]; omega)) ?_)
    | refine Dr.ruleB (Rule.pickF rfl rfl rfl (by first | (with_reducible assumption) | (with_reducible rfl)) rfl rfl) rfl (Dr.auto rfl (by and_intros <;> first | exact True.intro | (with_reducible rfl) | (with_reducible assumption) | omega | ((simp only [Inb, Cut, Small, List.length_map, List.length_cons, List.length_nil, bytes, decide_eq_true_eq, decide_eq_false_iff_not, Bool.not_true, Bool.not_false, beq_iff_eq, bne_iff_ne, ne_eq, beq_eq_false_iff_ne, bne_eq_false_iff_eq] at *) <;> omega) | (refine eta_map (fun _ => rfl) ?_; simp only [Inb, List.length_map]; omega)) ?_)
    | refine Dr.gB rfl rfl rfl (by first | (with_reducible assumption) | (with_reducible rfl)) (Rule.pickT rfl rfl rfl (by first | (with_reducible assumption) | (with_reducible rfl)) rfl rfl) rfl (Dr.auto rfl (by and_intros <;> first | exact True.intro | (with_reducible rfl) | (with_reducible assumption) | omega | ((simp only [Inb, Cut, Small, List.length_map, List.length_cons, List.length_nil, bytes, decide_eq_true_eq, decide_eq_false_iff_not, Bool.not_true, Bool.not_false, beq_iff_eq, bne_iff_ne, ne_eq, beq_eq_false_iff_ne, bne_eq_false_iff_eq] at *) <;> omega) | (refine eta_map (fun _ => rfl) ?_; simp only [Inb, List.length_map]; omega)) ?_)
    | refine Dr.gB rfl rfl rfl (by first | (with_reducible assumption) | (with_reducible rfl)) (Rule.pickF rfl rfl rfl (by first | (with_reducible assumption) | (with_reducible rfl)) rfl rfl) rfl (Dr.auto rfl (by and_intros <;> first | exact True.intro | (with_reducible rfl) | (with_reducible assumption) | omega | ((simp only [Inb, Cut, Small, List.length_map, List.length_cons, List.length_nil, bytes, decide_eq_true_eq, decide_eq_false_iff_not, Bool.not_true, Bool.not_false, beq_iff_eq, bne_iff_ne, ne_eq, beq_eq_false_iff_ne, bne_eq_false_iff_eq] at *) <;> omega) | (refine eta_map (fun _ => rfl) ?_; simp only [Inb, List.length_map]; omega)) ?_)
    | refine Dr.splitB rfl rfl rfl (fun h => ?_) (fun h => ?_))
    | (refine Run.hereOps ?_; first
    | refine Run.gyes rfl rfl rfl (by first | (with_reducible assumption) | (with_reducible rfl)) (Run.auto rfl (by and_intros <;> first | exact True.intro | (with_reducible rfl) | (with_reducible assumption) | omega | ((simp only [Inb, Cut, Small, List.length_map, List.length_cons, List.length_nil, bytes, decide_eq_true_eq, decide_eq_false_iff_not, Bool.not_true, Bool.not_false, beq_iff_eq, bne_iff_ne, ne_eq, beq_eq_false_iff_ne, bne_eq_false_iff_eq] at *) <;> omega) | (refine eta_map (fun _ => rfl) ?_; simp only [Inb, List.length_map]; omega)) ?_)
    | refine Run.gpassT rfl rfl rfl (by first | (with_reducible assumption) | (with_reducible rfl)) rfl rfl (Run.auto rfl (by and_intros <;> first | exact True.intro | (with_reducible rfl) | (with_reducible assumption) | omega | ((simp only [Inb, Cut, Small, List.length_map, List.length_cons, List.length_nil, bytes, decide_eq_true_eq, decide_eq_false_iff_not, Bool.not_true, Bool.not_false, beq_iff_eq, bne_iff_ne, ne_eq, beq_eq_false_iff_ne, bne_eq_false_iff_eq] at *) <;> omega) | (refine eta_map (fun _ => rfl) ?_; simp only [Inb, List.length_map]; omega)) ?_)
    | refine Run.gpassF rfl rfl rfl (by first | (with_reducible assumption) | (with_reducible rfl)) rfl rfl (Run.auto rfl (by and_intros <;> first | exact True.intro | (with_reducible rfl) | (with_reducible assumption) | omega | ((simp only [Inb, Cut, Small, List.length_map, List.length_cons, List.length_nil, bytes, decide_eq_true_eq, decide_eq_false_iff_not, Bool.not_true, Bool.not_false, beq_iff_eq, bne_iff_ne, ne_eq, beq_eq_false_iff_ne, bne_eq_false_iff_eq] at *) <;> omega) | (refine eta_map (fun _ => rfl) ?_; simp only [Inb, List.length_map]; omega)) ?_)
    | refine Run.gpassU rfl rfl rfl rfl rfl (Run.auto rfl (by and_intros <;> first | exact True.intro | (with_reducible rfl) | (with_reducible assumption) | omega | ((simp only [Inb, Cut, Small, List.length_map, List.length_cons, List.length_nil, bytes, decide_eq_true_eq, decide_eq_false_iff_not, Bool.not_true, Bool.not_false, beq_iff_eq, bne_iff_ne, ne_eq, beq_eq_false_iff_ne, bne_eq_false_iff_eq] at *) <;> omega) | (refine eta_map (fun _ => rfl) ?_; simp only [Inb, List.length_map]; omega)) ?_)
    | refine Run.pickT rfl rfl rfl (by first | (with_reducible assumption) | (with_reducible rfl)) rfl rfl rfl (Run.auto rfl (by and_intros <;> first | exact True.intro | (with_reducible rfl) | (with_reducible assumption) | omega | ((simp only [Inb, Cut, Small, List.length_map, List.length_cons, List.length_nil, bytes, decide_eq_true_eq, decide_eq_false_iff_not, Bool.not_true, Bool.not_false, beq_iff_eq, bne_iff_ne, ne_eq, beq_eq_false_iff_ne, bne_eq_false_iff_eq] at *) <;> omega) | (refine eta_map (fun _ => rfl) ?_; simp only [Inb, List.length_map]; omega)) ?_)
    | refine Run.pickF rfl rfl rfl (by first | (with_reducible assumption) | (with_reducible rfl)) rfl rfl rfl (Run.auto rfl (by and_intros <;> first | exact True.intro | (with_reducible rfl) | (with_reducible assumption) | omega | ((simp only [Inb, Cut, Small, List.length_map, List.length_cons, List.length_nil, bytes, decide_eq_true_eq, decide_eq_false_iff_not, Bool.not_true, Bool.not_false, beq_iff_eq, bne_iff_ne, ne_eq, beq_eq_false_iff_ne, bne_eq_false_iff_eq] at *) <;> omega) | (refine eta_map (fun _ => rfl) ?_; simp only [Inb, List.length_map]; omega)) ?_)
    | refine Run.gsplitB rfl rfl rfl (fun h => ?_) (fun h => ?_))
    | ((first | refine Run.hereSeq ?_ | refine Run.hereSkip ?_ | refine Run.hereReg ?_ | refine Run.hereBlock ?_ | refine Run.hereExit ?_ | refine Run.hereInBlock ?_ | refine Run.hereNil ?_); refine Run.auto rfl (by and_intros <;> first | exact True.intro | (with_reducible rfl) | (with_reducible assumption) | omega | ((simp only [Inb, Cut, Small, List.length_map, List.length_cons, List.length_nil, bytes, decide_eq_true_eq, decide_eq_false_iff_not, Bool.not_true, Bool.not_false, beq_iff_eq, bne_iff_ne, ne_eq, beq_eq_false_iff_ne, bne_eq_false_iff_eq] at *) <;> omega) | (refine eta_map (fun _ => rfl) ?_; simp only [Inb, List.length_map]; omega)) ?_))
  all_goals (refine Run.hereRet ?_; refine Run.ret rfl ⟨_, rfl, congrArg some ?_⟩; rw [decM_fst])
  · rename_i h1
    have h2 := h
    have h3 : (decM (a :: r)).2 = (a :: r).length := by
      have := eq_of_beq h1
      omega
    rw [whole_valid h3]
  · rename_i h1
    have h2 := h
    have := decM_pos a r
    simp at h2
    omega
  · have h3 : (decM (a :: r)).2 ≠ (a :: r).length := by
      intro e
      rw [e] at h
      simp at h
    rw [whole_len h3]
    rfl
end Go.Pt
