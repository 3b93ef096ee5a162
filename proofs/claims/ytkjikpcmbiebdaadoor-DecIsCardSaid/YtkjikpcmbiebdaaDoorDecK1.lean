/- Proved: the card DecIsCardSaid, as it is given: of any state, byte, text and values the program and the reference tell the same. No condition beside those that the given statement holds. -/
import Derived.Test.YtkjikpcmbiebdaaDoorDecL1
import Derived.Test.YtkjikpcmbiebdaaDoorDecZ
import Derived.SevenTiedAt
set_option linter.unusedVariables false
set_option linter.unusedSimpArgs false
/-! DecIs: the row and the card. -/
namespace Go.Proofs.YtkjikpcmbiebdaaDoor
open Go.Pt
open Go.ChangeShapes Go.WideShapes Go.ChangeAt Go.RowKit
set_option maxRecDepth 100000
namespace DecIs
theorem laid_met (os : Os) : laidMet Tryd.prog Rows.decIsRow.laid ((laidWorld os).forCall (fun _ _ => 0) ⟨#[], #[.agg #[.string ⟨#[]⟩], .int .u8 0, .slice none 0 0, .slice none 0 0], []⟩).memory := laid_met_at os _
theorem witness_row (os : Os) {H : Type} (enc : TypeId × Value → H) :
    (OpenSpec.ofChange Rows.decIsSpec).preRow enc Tryd.prog Tryd.f3 Rows.decIsRow.domain false Rows.decIsRow.laid ((laidWorld os).forCall (fun _ _ => 0) ⟨#[], #[.agg #[.string ⟨#[]⟩], .int .u8 0, .slice none 0 0, .slice none 0 0], []⟩).memory #[.agg #[.string ⟨#[]⟩], .int .u8 0, .slice none 0 0, .slice none 0 0] := by
  have hw : (DataW.whole enc Tryd.prog ((laidWorld os).forCall (fun _ _ => 0) ⟨#[], #[.agg #[.string ⟨#[]⟩], .int .u8 0, .slice none 0 0, .slice none 0 0], []⟩).memory Tryd.f3.params.toList Rows.decIsSpec.vars false (#[.agg #[.string ⟨#[]⟩], .int .u8 0, .slice none 0 0, .slice none 0 0] : Array Value).toList 8).map (fun x => (x.1, x.2.1)) =
      some ([.agg [.lit (.string [])], .lit (.int .u8 0), .nil, .nil], []) := by kernel_rfl
  obtain ⟨⟨x1, x2, x3⟩, hx, hx1⟩ := Option.map_eq_some_iff.1 hw
  simp only [Prod.mk.injEq] at hx1
  obtain ⟨rfl, rfl⟩ := hx1
  exact OpenSpec.preRow_of_cond 8 hx (by kernel_rfl) (fun k hk => by cases hk) (by kernel_rfl) (laid_met os)
theorem lifted (os : Os) (started : os.Started) (H : Type) (enc : TypeId × Value → H) (F : Stop.Interp) :
    ReturnsInHanded {} Tryd.checked os 3 .any ((OpenSpec.ofChange Rows.decIsSpec).preRow enc Tryd.prog Tryd.f3 Rows.decIsRow.domain false Rows.decIsRow.laid) (((OpenSpec.ofChange Rows.decIsSpec).at F).post enc Tryd.prog Tryd.f3 false true false false) := by
  refine returnsInHanded_of_row (C := Tryd.checked) (s := OpenSpec.ofChange Rows.decIsSpec) own started (by kernel_rfl) Tryd.func3
    (witness_row_atRef (enc := enc) (C := Tryd.checked) false (laidWorld os) #[.agg #[.string ⟨#[]⟩], .int .u8 0, .slice none 0 0, .slice none 0 0] rfl (by kernel_rfl) (by kernel_rfl) (by kernel_rfl) (witness_row os enc)) ?_
  intro W base args ds gs before hval hW _ _ _ hL _ _
  have hW' := hW
  obtain ⟨p, q, hA, hV, _, _, _⟩ := hW
  rw [Tryd.params3] at hA hval
  obtain ⟨v0, vs0, d0, ds0, p0, q0, hargs0, hds0, hp0, h0, r0⟩ := trodAll_cons hA
  subst hds0
  obtain ⟨v1, vs1, d1, ds1, p1, q1, hargs1, hds1, hp1, h1, r1⟩ := trodAll_cons r0
  subst hds1
  obtain ⟨v2, vs2, d2, ds2, p2, q2, hargs2, hds2, hp2, h2, r2⟩ := trodAll_cons r1
  subst hds2
  obtain ⟨v3, vs3, d3, ds3, p3, q3, hargs3, hds3, hp3, h3, r3⟩ := trodAll_cons r2
  subst hds3
  obtain ⟨e1, e2, e3⟩ := trodAll_nil r3
  subst e1 e2
  subst hargs3
  subst hargs2
  subst hargs1
  obtain rfl : args = #[v0, v1, v2, v3] := by cases args; simp_all
  obtain ⟨s, g0⟩ := rep_state (hval 0 23 v0 rfl rfl) h0
  obtain ⟨c, g1⟩ := rep_byte (hval 1 5 v1 rfl rfl) h1
  obtain ⟨b, g2⟩ := rep_bytes (hval 2 24 v2 rfl rfl) h2
  obtain ⟨l, g3, w3⟩ := rep_listInt (hval 3 25 v3 rfl rfl) h3
  have hrep : RepArgs W (Old W) [.agg [.str s], .int .u8 c.toNat, .sl 1 (Go.Pt.bytes b), Go.Pt.ints l] [v0, v1, v2, v3] := by
    refine ⟨rfl, fun i p v hp hv => ?_⟩
    match i, hp, hv with
    | 0, hp, hv => cases hp; cases hv; exact g0
    | 1, hp, hv => cases hp; cases hv; exact g1
    | 2, hp, hv => cases hp; cases hv; exact g2
    | 3, hp, hv => cases hp; cases hv; exact g3
    | i + 4, hp, hv => simp at hp
  exact law_post (fn := Tryd.f3) (s := Rows.decIsSpec) (decIs_spec s c b l) (tabs_of hL) hrep rfl (by rw [Tryd.params3, types_size]; decide) (by kernel_rfl) rfl hW'
theorem said : Rows.DecIsSaid :=
  OpenClaim.holds_of_cond 3 Tryd.f3 rfl rfl rfl rfl rfl rfl rfl ⟨rfl, rfl, rfl, rfl, rfl⟩ rfl rfl rfl rfl rfl (by kernel_rfl) Tryd.func3 (by kernel_rfl)
    (of_decide_eq_true (by kernel_rfl)) (by unfold Func.isWrapper; first | (rw [if_pos (by decide +kernel)]; kernel_rfl) | (rw [if_neg (by decide +kernel)]; exact ⟨rfl, rfl⟩))
    (fun os started H enc _ F => by rw [OpenClaim.pre_eq_preRow]; exact lifted os started H enc F)
theorem plain (f : FuncId) (fn : Func) (hf : Tryd.pinned.checked.prog.funcNamed "pentrough/pentroughlaw01.DecIs" = some f) (hfn : Tryd.pinned.checked.prog.funcs[f]? = some fn) :
    false = Tryd.pinned.checked.prog.looks [] ∧ ∀ (j : Nat) t, fn.params[j]? = some t → Tryd.pinned.checked.prog.wantsStandIn t = false := by
  obtain rfl : f = 3 := Option.some.inj ((show Tryd.prog.funcNamed "pentrough/pentroughlaw01.DecIs" = some 3 by kernel_rfl).symm.trans hf) |>.symm
  obtain rfl : fn = Tryd.f3 := (Option.some.inj (Tryd.func3.symm.trans hfn)).symm
  refine ⟨by kernel_rfl, fun j t ht => ?_⟩
  rw [Tryd.params3] at ht
  have ht' : t = 23 ∨ t = 5 ∨ t = 24 ∨ t = 25 := by simpa using Array.mem_of_getElem? ht
  rcases ht' with rfl | rfl | rfl | rfl
  · exact (show Tryd.prog.wantsStandIn 23 = false by kernel_rfl)
  · exact (show Tryd.prog.wantsStandIn 5 = false by kernel_rfl)
  · exact (show Tryd.prog.wantsStandIn 24 = false by kernel_rfl)
  · exact (show Tryd.prog.wantsStandIn 25 = false by kernel_rfl)
/-- ████ THE CARD ████ -/
theorem card : Rows.DecIsCardSaid :=
  Claim7.holds_tied_plain_at .later [] _ _ _ _ said (fun _ h => by cases h) (by kernel_rfl) (fun _ h => by cases h) decIs_row_tie rfl ⟨rfl, rfl⟩ (by kernel_rfl) rfl plain (by kernel_rfl)
end DecIs
#print axioms DecIs.card
end Go.Proofs.YtkjikpcmbiebdaaDoor
