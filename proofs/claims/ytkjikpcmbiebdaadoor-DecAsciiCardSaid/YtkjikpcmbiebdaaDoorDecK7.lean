/- Proved: the card DecAsciiCardSaid, as it is given: what is below 80 hex is told as itself. No condition beside those that the given statement holds. -/
import Derived.Test.YtkjikpcmbiebdaaDoorDecL7
import Derived.Test.YtkjikpcmbiebdaaDoorDecZ
import Derived.SevenTiedAt
set_option linter.unusedVariables false
set_option linter.unusedSimpArgs false
/-! DecAscii: the row and the card. -/
namespace Go.Proofs.YtkjikpcmbiebdaaDoor
open Go.Pt
open Go.ChangeShapes Go.WideShapes Go.ChangeAt Go.RowKit
set_option maxRecDepth 100000
namespace DecAscii
theorem laid_met (os : Os) : laidMet Tryd.prog Rows.decAsciiRow.laid ((laidWorld os).forCall (fun _ _ => 0) ⟨#[], #[.slice none 0 0], []⟩).memory := laid_met_at os _
theorem witness_row (os : Os) {H : Type} (enc : TypeId × Value → H) :
    (OpenSpec.ofChange Rows.decAsciiSpec).preRow enc Tryd.prog Tryd.f9 Rows.decAsciiRow.domain false Rows.decAsciiRow.laid ((laidWorld os).forCall (fun _ _ => 0) ⟨#[], #[.slice none 0 0], []⟩).memory #[.slice none 0 0] := by
  have hw : (DataW.whole enc Tryd.prog ((laidWorld os).forCall (fun _ _ => 0) ⟨#[], #[.slice none 0 0], []⟩).memory Tryd.f9.params.toList Rows.decAsciiSpec.vars false (#[.slice none 0 0] : Array Value).toList 8).map (fun x => (x.1, x.2.1)) =
      some ([.nil], []) := by kernel_rfl
  obtain ⟨⟨x1, x2, x3⟩, hx, hx1⟩ := Option.map_eq_some_iff.1 hw
  simp only [Prod.mk.injEq] at hx1
  obtain ⟨rfl, rfl⟩ := hx1
  exact OpenSpec.preRow_of_cond 8 hx (by kernel_rfl) (fun k hk => by cases hk) (by kernel_rfl) (laid_met os)
theorem lifted (os : Os) (started : os.Started) (H : Type) (enc : TypeId × Value → H) (F : Stop.Interp) :
    ReturnsInHanded {} Tryd.checked os 9 .any ((OpenSpec.ofChange Rows.decAsciiSpec).preRow enc Tryd.prog Tryd.f9 Rows.decAsciiRow.domain false Rows.decAsciiRow.laid) (((OpenSpec.ofChange Rows.decAsciiSpec).at F).post enc Tryd.prog Tryd.f9 false true false false) := by
  refine returnsInHanded_of_row (C := Tryd.checked) (s := OpenSpec.ofChange Rows.decAsciiSpec) own started (by kernel_rfl) Tryd.func9
    (witness_row_atRef (enc := enc) (C := Tryd.checked) false (laidWorld os) #[.slice none 0 0] rfl (by kernel_rfl) (by kernel_rfl) (by kernel_rfl) (witness_row os enc)) ?_
  intro W base args ds gs before hval hW _ _ _ hL _ _
  have hW' := hW
  obtain ⟨p, q, hA, hV, _, _, _⟩ := hW
  rw [Tryd.params9] at hA hval
  obtain ⟨v0, vs0, d0, ds0, p0, q0, hargs0, hds0, hp0, h0, r0⟩ := trodAll_cons hA
  subst hds0
  obtain ⟨e1, e2, e3⟩ := trodAll_nil r0
  subst e1 e2
  obtain rfl : args = #[v0] := by cases args; simp_all
  obtain ⟨b, g0⟩ := rep_bytes (hval 0 24 v0 rfl rfl) h0
  have hrep : RepArgs W (Old W) [.sl 1 (Go.Pt.bytes b)] [v0] := by
    refine ⟨rfl, fun i p v hp hv => ?_⟩
    match i, hp, hv with
    | 0, hp, hv => cases hp; cases hv; exact g0
    | i + 1, hp, hv => simp at hp
  exact law_post (fn := Tryd.f9) (s := Rows.decAsciiSpec) (decAscii_spec b) (tabs_of hL) hrep rfl (by rw [Tryd.params9, types_size]; decide) (by kernel_rfl) rfl hW'
theorem said : Rows.DecAsciiSaid :=
  OpenClaim.holds_of_cond 9 Tryd.f9 rfl rfl rfl rfl rfl rfl rfl ⟨rfl, rfl, rfl, rfl, rfl⟩ rfl rfl rfl rfl rfl (by kernel_rfl) Tryd.func9 (by kernel_rfl)
    (of_decide_eq_true (by kernel_rfl)) (by unfold Func.isWrapper; first | (rw [if_pos (by decide +kernel)]; kernel_rfl) | (rw [if_neg (by decide +kernel)]; exact ⟨rfl, rfl⟩))
    (fun os started H enc _ F => by rw [OpenClaim.pre_eq_preRow]; exact lifted os started H enc F)
theorem plain (f : FuncId) (fn : Func) (hf : Tryd.pinned.checked.prog.funcNamed "pentrough/pentroughlaw01.DecAscii" = some f) (hfn : Tryd.pinned.checked.prog.funcs[f]? = some fn) :
    false = Tryd.pinned.checked.prog.looks [] ∧ ∀ (j : Nat) t, fn.params[j]? = some t → Tryd.pinned.checked.prog.wantsStandIn t = false := by
  obtain rfl : f = 9 := Option.some.inj ((show Tryd.prog.funcNamed "pentrough/pentroughlaw01.DecAscii" = some 9 by kernel_rfl).symm.trans hf) |>.symm
  obtain rfl : fn = Tryd.f9 := (Option.some.inj (Tryd.func9.symm.trans hfn)).symm
  refine ⟨by kernel_rfl, fun j t ht => ?_⟩
  rw [Tryd.params9] at ht
  have ht' : t = 24 := by simpa using Array.mem_of_getElem? ht
  rcases ht' with rfl
  · exact (show Tryd.prog.wantsStandIn 24 = false by kernel_rfl)
/-- ████ THE CARD ████ -/
theorem card : Rows.DecAsciiCardSaid :=
  Claim7.holds_tied_plain_at .later [] _ _ _ _ said (fun _ h => by cases h) (by kernel_rfl) (fun _ h => by cases h) decAscii_row_tie rfl ⟨rfl, rfl⟩ (by kernel_rfl) rfl plain (by kernel_rfl)
end DecAscii
#print axioms DecAscii.card
end Go.Proofs.YtkjikpcmbiebdaaDoor
