/- Proved: what decodeRuneInStringSlow answers for every text. Conditions: none but those that stand in each lemma ahead of its colon. -/
import Derived.Test.YtkjikpcmbiebdaaDoorDecN
set_option linter.unusedVariables false
set_option linter.unusedSimpArgs false
namespace Go.Pt
open Go.Proofs
theorem slow_spec (a : UInt8) (r : List UInt8) (hs : (a :: r).length ≤ 1073741824) (ha8 : 128 ≤ a.toNat) : Spec E 39 [.str (a :: r)] (decPV (a :: r)) := by
  refine spec_of_run Tryd.func39 (by decide) rfl (Nat.le_of_ble_eq_true rfl) ?_
  refine Run.auto rfl (by and_intros <;> first | exact True.intro | (with_reducible rfl) | (with_reducible assumption) | omega | ((simp only [Inb, Cut, Small, List.length_map, List.length_cons, List.length_nil, bytes, decide_eq_true_eq, decide_eq_false_iff_not, Bool.not_true, Bool.not_false, beq_iff_eq, bne_iff_ne, ne_eq, beq_eq_false_iff_ne, bne_eq_false_iff_eq] at *) <;> omega) | (refine eta_map (fun _ => rfl) ?_; simp only [Inb, List.length_map]; omega)) ?_
  refine Run.cond rfl (fun h => ?_) (fun h => ?_)
  · exact absurd h (by simp; omega)
  have ha := a.toNat_lt
  obtain ⟨f1, f2, f3⟩ := fx_facts a
  have hx := toI_first a
  refine Run.auto rfl (by and_intros <;> first | exact True.intro | exact eta_first _ ha | (simp; done) | (simp; omega) | exact Int.natCast_nonneg _ | omega) ?_
  refine Run.weak (s' := ⟨[(23, .pv (.bool (decide (fx a ≥ 240)))), (4, .pv (.int .i64 (a :: r).length)), (5, .pv (.int .u8 a.toNat)), (6, .pv (.int .u8 (fx a))), (0, .pv (.str (a :: r)))], [], Tryd.f39.ntmps⟩) ?_ ?_
  · refine Le.mk rfl ?_ ?_ rfl; all_goals (repeat' (first | exact LeMem.nil _ | refine LeMem.blk rfl ?_ | refine LeMem.tok rfl ?_ | refine LeMem.eq rfl ?_ ?_ | refine LeMem.tokEq rfl ?_ ?_ | exact LeFr.nil _ | refine LeFr.cons rfl ?_ | refine LeFr.pv rfl rfl ?_ | refine LeFr.eq rfl ?_ ?_)); all_goals (try dsimp only)
    · refine bool_eq ?_
      rw [← hx]
      rfl
    · exact int_eq hx
  refine Run.cond rfl (fun h => ?_) (fun h => ?_)
  · refine Run.auto rfl (by and_intros <;> first | exact True.intro | (with_reducible rfl) | (with_reducible assumption) | omega | ((simp only [Inb, Cut, Small, List.length_map, List.length_cons, List.length_nil, bytes, decide_eq_true_eq, decide_eq_false_iff_not, Bool.not_true, Bool.not_false, beq_iff_eq, bne_iff_ne, ne_eq, beq_eq_false_iff_ne, bne_eq_false_iff_eq] at *) <;> omega) | (refine eta_map (fun _ => rfl) ?_; simp only [Inb, List.length_map]; omega)) ?_
    refine Run.ret rfl ⟨_, rfl, congrArg some ?_⟩
    have h1 : 240 ≤ fx a := by simpa using h
    have h2 : fx a = 241 ∧ lsize a = 1 := by
      rcases fx_cases a with ⟨_, h2⟩ | ⟨_, h2⟩ | h2 | h2 | h2 | h2 | h2 | h2 | h2 <;> first | omega | (refine ⟨h2, ?_⟩; unfold lsize; (repeat' split) <;> omega)
    have hd : decM (a :: r) = (65533, 1) := by
      simp only [decM, okRest, h2.2]
      rw [if_neg (by omega)]
      simp
    unfold decPV
    rw [hd, h2.1]
    have hz : ~~~(BitVec.ofInt IntKind.i32.bits ((IntKind.i32.wrap (IntKind.i32.wrap 241 * 2 ^ min (Int.toNat 31) IntKind.i32.bits)).fdiv (2 ^ min (Int.toNat 31) IntKind.i32.bits))) = 0#IntKind.i32.bits := by decide
    rw [hz, BitVec.and_zero]
    rfl
  · refine Run.auto rfl (by and_intros <;> first | exact True.intro | (with_reducible rfl) | exact f2.1.1 | exact f2.1.2 | exact f2.2 | decide) ?_
    have hl : 2 ≤ lsize a := by
      have h1 : fx a < 240 := by simpa using h
      rcases fx_cases a with ⟨_, h2⟩ | ⟨_, h2⟩ | h2 | h2 | h2 | h2 | h2 | h2 | h2 <;> first | omega | (unfold lsize; (repeat' split) <;> omega)
    obtain ⟨f4, f5⟩ := f3 hl
    refine Run.weak (s' := ⟨[(45, .pv (.bool (decide (((a :: r).length : Int) < lsize a)))), (8, .pv (.int .i64 (lsize a))), (5, .pv (.int .u8 a.toNat)), (0, .pv (.str (a :: r))), (9, .ptr 0 0)], [.blk 0 [.pv (.int .u8 (lo2 a)), .pv (.int .u8 (hi2 a))]], Tryd.f39.ntmps⟩) ?_ ?_
    · refine Le.mk rfl ?_ ?_ rfl; all_goals (repeat' (first | exact LeMem.nil _ | refine LeMem.blk rfl ?_ | refine LeMem.tok rfl ?_ | refine LeMem.eq rfl ?_ ?_ | refine LeMem.tokEq rfl ?_ ?_ | exact LeFr.nil _ | refine LeFr.cons rfl ?_ | refine LeFr.pv rfl rfl ?_ | refine LeFr.eq rfl ?_ ?_)); all_goals (try dsimp only)
      · rw [← f4, ← f5]; rfl
      · refine bool_eq ?_
        rw [← f1]; rfl
      · refine int_eq ?_
        exact f1
    clear f1 f2 f3 f4 f5 hx
    repeat' (first
    | (refine Run.hereCond ?_; refine Run.cond rfl (fun h => ?_) (fun h => ?_) <;> (try (with_reducible first | exact tf h | exact ft h)))
    | (refine Run.hereDraw ?_; refine Dr.start (Dr.auto rfl (by and_intros <;> first | exact True.intro | (with_reducible rfl) | (with_reducible assumption) | omega | ((simp only [Inb, Cut, Small, List.length_map, List.length_cons, List.length_nil, bytes, decide_eq_true_eq, decide_eq_false_iff_not, Bool.not_true, Bool.not_false, beq_iff_eq, bne_iff_ne, ne_eq, beq_eq_false_iff_ne, bne_eq_false_iff_eq] at *) <;> omega) | (refine eta_map (fun _ => rfl) ?_; simp only [Inb, List.length_map]; omega)) ?_))
    | (refine Dr.here ?_; first
    | refine Dr.done follows (by kernel_rfl) (by kernel_rfl) ?_
    | refine Dr.gB rfl rfl rfl (by first | (with_reducible assumption) | (with_reducible rfl)) (Rule.stepA rfl rfl rfl (by and_intros <;> first | exact True.intro | (with_reducible rfl) | (with_reducible assumption) | omega | ((simp only [Inb, Cut, Small, List.length_map, List.length_cons, List.length_nil, bytes, decide_eq_true_eq, decide_eq_false_iff_not, Bool.not_true, Bool.not_false, beq_iff_eq, bne_iff_ne, ne_eq, beq_eq_false_iff_ne, bne_eq_false_iff_eq] at *) <;> omega) | (refine eta_map (fun _ => rfl) ?_; simp only [Inb, List.length_map]; omega))) rfl (Dr.auto rfl (by and_intros <;> first | exact True.intro | (with_reducible rfl) | (with_reducible assumption) | omega | ((simp only [Inb, Cut, Small, List.length_map, List.length_cons, List.length_nil, bytes, decide_eq_true_eq, decide_eq_false_iff_not, Bool.not_true, Bool.not_false, beq_iff_eq, bne_iff_ne, ne_eq, beq_eq_false_iff_ne, bne_eq_false_iff_eq] at *) <;> omega) | (refine eta_map (fun _ => rfl) ?_; simp only [Inb, List.length_map]; omega)) ?_)
    | refine Dr.gA rfl rfl rfl (by first | (with_reducible assumption) | (with_reducible rfl)) (Rule.stepA rfl rfl rfl (by and_intros <;> first | exact True.intro | (with_reducible rfl) | (with_reducible assumption) | omega | ((simp only [Inb, Cut, Small, List.length_map, List.length_cons, List.length_nil, bytes, decide_eq_true_eq, decide_eq_false_iff_not, Bool.not_true, Bool.not_false, beq_iff_eq, bne_iff_ne, ne_eq, beq_eq_false_iff_ne, bne_eq_false_iff_eq] at *) <;> omega) | (refine eta_map (fun _ => rfl) ?_; simp only [Inb, List.length_map]; omega))) rfl (Dr.auto rfl (by and_intros <;> first | exact True.intro | (with_reducible rfl) | (with_reducible assumption) | omega | ((simp only [Inb, Cut, Small, List.length_map, List.length_cons, List.length_nil, bytes, decide_eq_true_eq, decide_eq_false_iff_not, Bool.not_true, Bool.not_false, beq_iff_eq, bne_iff_ne, ne_eq, beq_eq_false_iff_ne, bne_eq_false_iff_eq] at *) <;> omega) | (refine eta_map (fun _ => rfl) ?_; simp only [Inb, List.length_map]; omega)) ?_)
    | refine Dr.passT rfl rfl rfl (by first | (with_reducible assumption) | (with_reducible rfl)) rfl rfl (Dr.auto rfl (by and_intros <;> first | exact True.intro | (with_reducible rfl) | (with_reducible assumption) | omega | ((simp only [Inb, Cut, Small, List.length_map, List.length_cons, List.length_nil, bytes, decide_eq_true_eq, decide_eq_false_iff_not, Bool.not_true, Bool.not_false, beq_iff_eq, bne_iff_ne, ne_eq, beq_eq_false_iff_ne, bne_eq_false_iff_eq] at *) <;> omega) | (refine eta_map (fun _ => rfl) ?_; simp only [Inb, List.length_map]; omega)) ?_)
    | refine Dr.passF rfl rfl rfl (by first | (with_reducible assumption) | (with_reducible rfl)) rfl rfl (Dr.auto rfl (by and_intros <;> first | exact True.intro | (with_reducible rfl) | (with_reducible assumption) | omega | ((simp only [Inb, Cut, Small, List.length_map, List.length_cons, List.length_nil, bytes, decide_eq_true_eq, decide_eq_false_iff_not, Bool.not_true, Bool.not_false, beq_iff_eq, bne_iff_ne, ne_eq, beq_eq_false_iff_ne, bne_eq_false_iff_eq] at *) <;> omega) | (refine eta_map (fun _ => rfl) ?_; simp only [Inb, List.length_map]; omega)) ?_)
    | refine Dr.ruleB (Rule.pickT rfl rfl rfl (by first | (with_reducible assumption) | (with_reducible rfl)) rfl rfl) rfl (Dr.auto rfl (by and_intros <;> first | exact True.intro | (with_reducible rfl) | (with_reducible assumption) | omega | ((simp only [Inb, Cut, Small, List.length_map, List.length_cons, List.length_nil, bytes, decide_eq_true_eq, decide_eq_false_iff_not, Bool.not_true, Bool.not_false, beq_iff_eq, bne_iff_ne, ne_eq, beq_eq_false_iff_ne, bne_eq_false_iff_eq] at *) <;> omega) | (refine eta_map (fun _ => rfl) ?_; simp only [Inb, List.length_map]; omega)) ?_)
    | refine Dr.ruleB (Rule.pickF rfl rfl rfl (by first | (with_reducible assumption) | (with_reducible rfl)) rfl rfl) rfl (Dr.auto rfl (by and_intros <;> first | exact True.intro | (with_reducible rfl) | (with_reducible assumption) | omega | ((simp only [Inb, Cut, Small, List.length_map, List.length_cons, List.length_nil, bytes, decide_eq_true_eq, decide_eq_false_iff_not, Bool.not_true, Bool.not_false, beq_iff_eq, bne_iff_ne, ne_eq, beq_eq_false_iff_ne, bne_eq_false_iff_eq] at *) <;> omega) | (refine eta_map (fun _ => rfl) ?_; simp only [Inb, List.length_map]; omega)) ?_)
    | refine Dr.gB rfl rfl rfl (by first | (with_reducible assumption) | (with_reducible rfl)) (Rule.pickT rfl rfl rfl (by first | (with_reducible assumption) | (with_reducible rfl)) rfl rfl) rfl (Dr.auto rfl (by and_intros <;> first | exact True.intro | (with_reducible rfl) | (with_reducible assumption) | omega | ((simp only [Inb, Cut, Small, List.length_map, List.length_cons, List.length_nil, bytes, decide_eq_true_eq, decide_eq_false_iff_not, Bool.not_true, Bool.not_false, beq_iff_eq, bne_iff_ne, ne_eq, beq_eq_false_iff_ne, bne_eq_false_iff_eq] at *) <;> omega) | (refine eta_map (fun _ => rfl) ?_; simp only [Inb, List.length_map]; omega)) ?_)
    | refine Dr.gB rfl rfl rfl (by first | (with_reducible assumption) | (with_reducible rfl)) (Rule.pickF rfl rfl rfl (by first | (with_reducible assumption) | (with_reducible rfl)) rfl rfl) rfl (Dr.auto rfl (by and_intros <;> first | exact True.intro | (with_reducible rfl) | (with_reducible assumption) | omega | ((simp only [Inb, Cut, Small, List.length_map, List.length_cons, List.length_nil, bytes, decide_eq_true_eq, decide_eq_false_iff_not, Bool.not_true, Bool.not_false, beq_iff_eq, bne_iff_ne, ne_eq, beq_eq_false_iff_ne, bne_eq_false_iff_eq] at *) <;> omega) | (refine eta_map (fun _ => rfl) ?_; simp only [Inb, List.length_map]; omega)) ?_)
    | refine Dr.splitB rfl rfl rfl (fun h => ?_) (fun h => ?_))
    | (refine Run.hereOps ?_; first
    | refine Run.gyes rfl rfl rfl (by first | (with_reducible assumption) | (with_reducible rfl)) (Run.auto rfl (by and_intros <;> first | exact True.intro | (with_reducible rfl) | (with_reducible assumption) | omega | ((simp only [Inb, Cut, Small, List.length_map, List.length_cons, List.length_nil, bytes, decide_eq_true_eq, decide_eq_false_iff_not, Bool.not_true, Bool.not_false, beq_iff_eq, bne_iff_ne, ne_eq, beq_eq_false_iff_ne, bne_eq_false_iff_eq] at *) <;> omega) | (refine eta_map (fun _ => rfl) ?_; simp only [Inb, List.length_map]; omega)) ?_)
    | refine Run.gpassT rfl rfl rfl (by first | (with_reducible assumption) | (with_reducible rfl)) rfl rfl (Run.auto rfl (by and_intros <;> first | exact True.intro | (with_reducible rfl) | (with_reducible assumption) | omega | ((simp only [Inb, Cut, Small, List.length_map, List.length_cons, List.length_nil, bytes, decide_eq_true_eq, decide_eq_false_iff_not, Bool.not_true, Bool.not_false, beq_iff_eq, bne_iff_ne, ne_eq, beq_eq_false_iff_ne, bne_eq_false_iff_eq] at *) <;> omega) | (refine eta_map (fun _ => rfl) ?_; simp only [Inb, List.length_map]; omega)) ?_)
    | refine Run.gpassF rfl rfl rfl (by first | (with_reducible assumption) | (with_reducible rfl)) rfl rfl (Run.auto rfl (by and_intros <;> first | exact True.intro | (with_reducible rfl) | (with_reducible assumption) | omega | ((simp only [Inb, Cut, Small, List.length_map, List.length_cons, List.length_nil, bytes, decide_eq_true_eq, decide_eq_false_iff_not, Bool.not_true, Bool.not_false, beq_iff_eq, bne_iff_ne, ne_eq, beq_eq_false_iff_ne, bne_eq_false_iff_eq] at *) <;> omega) | (refine eta_map (fun _ => rfl) ?_; simp only [Inb, List.length_map]; omega)) ?_)
    | refine Run.gpassU rfl rfl rfl rfl rfl (Run.auto rfl (by and_intros <;> first | exact True.intro | (with_reducible rfl) | (with_reducible assumption) | omega | ((simp only [Inb, Cut, Small, List.length_map, List.length_cons, List.length_nil, bytes, decide_eq_true_eq, decide_eq_false_iff_not, Bool.not_true, Bool.not_false, beq_iff_eq, bne_iff_ne, ne_eq, beq_eq_false_iff_ne, bne_eq_false_iff_eq] at *) <;> omega) | (refine eta_map (fun _ => rfl) ?_; simp only [Inb, List.length_map]; omega)) ?_)
    | refine Run.pickT rfl rfl rfl (by first | (with_reducible assumption) | (with_reducible rfl)) rfl rfl rfl (Run.auto rfl (by and_intros <;> first | exact True.intro | (with_reducible rfl) | (with_reducible assumption) | omega | ((simp only [Inb, Cut, Small, List.length_map, List.length_cons, List.length_nil, bytes, decide_eq_true_eq, decide_eq_false_iff_not, Bool.not_true, Bool.not_false, beq_iff_eq, bne_iff_ne, ne_eq, beq_eq_false_iff_ne, bne_eq_false_iff_eq] at *) <;> omega) | (refine eta_map (fun _ => rfl) ?_; simp only [Inb, List.length_map]; omega)) ?_)
    | refine Run.pickF rfl rfl rfl (by first | (with_reducible assumption) | (with_reducible rfl)) rfl rfl rfl (Run.auto rfl (by and_intros <;> first | exact True.intro | (with_reducible rfl) | (with_reducible assumption) | omega | ((simp only [Inb, Cut, Small, List.length_map, List.length_cons, List.length_nil, bytes, decide_eq_true_eq, decide_eq_false_iff_not, Bool.not_true, Bool.not_false, beq_iff_eq, bne_iff_ne, ne_eq, beq_eq_false_iff_ne, bne_eq_false_iff_eq] at *) <;> omega) | (refine eta_map (fun _ => rfl) ?_; simp only [Inb, List.length_map]; omega)) ?_)
    | refine Run.gsplitB rfl rfl rfl (fun h => ?_) (fun h => ?_))
    | ((first | refine Run.hereSeq ?_ | refine Run.hereSkip ?_ | refine Run.hereReg ?_ | refine Run.hereBlock ?_ | refine Run.hereExit ?_ | refine Run.hereInBlock ?_ | refine Run.hereNil ?_); refine Run.auto rfl (by and_intros <;> first | exact True.intro | (with_reducible rfl) | (with_reducible assumption) | omega | ((simp only [Inb, Cut, Small, List.length_map, List.length_cons, List.length_nil, bytes, decide_eq_true_eq, decide_eq_false_iff_not, Bool.not_true, Bool.not_false, beq_iff_eq, bne_iff_ne, ne_eq, beq_eq_false_iff_ne, bne_eq_false_iff_eq] at *) <;> omega) | (refine eta_map (fun _ => rfl) ?_; simp only [Inb, List.length_map]; omega)) ?_))
    all_goals (refine Run.ret rfl ⟨_, rfl, congrArg some ?_⟩)
    all_goals
      have h4 : lsize a ≤ 4 := by unfold lsize; (repeat' split) <;> omega
      have hn : ¬ a.toNat < 128 := by omega
      have hz : lsize a = 2 ∨ lsize a = 3 ∨ lsize a = 4 := by omega
      simp only [decide_eq_true_eq, decide_eq_false_iff_not] at *
      clear ha hs ha8 h4 hl
      generalize hL : lsize a = L at *
      rcases hz with rfl | rfl | rfl <;> rcases r with _ | ⟨b, _ | ⟨c, _ | ⟨d, r⟩⟩⟩
    all_goals first
      | (exfalso; simp at *; done)
      | (exfalso; simp at *; omega)
      | (refine (decPV_bad hn ?_).symm; simp at *; simp [okRest, hL, ok2, cont]; done)
      | (refine (decPV_bad hn ?_).symm; simp at *; simp [okRest, hL, ok2, cont]; omega)
      | (refine Eq.trans ?_ (decPV_ok hn (by simp at *; simp [okRest, hL, ok2, cont]; omega)).symm
         rw [hL]
         first
           | (show PV.tup [.int .i32 (orI (shl (u8and a 31) 6) (u8and b 63)), .int .i64 2] = _; rw [val2]; simp [valOf, hL]; done)
           | (show PV.tup [.int .i32 (orI (orI (shl (u8and a 15) 12) (shl (u8and b 63) 6)) (u8and c 63)), .int .i64 3] = _; rw [val3]; simp [valOf, hL]; done)
           | (show PV.tup [.int .i32 (orI (orI (orI (shl (u8and a 7) 18) (shl (u8and b 63) 12)) (shl (u8and c 63) 6)) (u8and d 63)), .int .i64 4] = _; rw [val4]; simp [valOf, hL]; done))
end Go.Pt
