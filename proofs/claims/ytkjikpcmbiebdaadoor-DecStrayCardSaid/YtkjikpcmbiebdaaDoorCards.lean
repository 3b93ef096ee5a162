/-
  DERIVED. GIVEN WITH THE SEED: THE CARDS: each row of YtkjikpcmbiebdaaDoorRows.lean that lists a variable, with what it lists TIED to the program's text (the seventh form; the later family's looks); each row that meets fmt, with fmt's text TOLD by the authors' own Lean function (tested against real Go, not proved from fmt's source: count such statements apart). THE CARD IS WHAT COUNTS. Prove the row's statement (the work); the ties are given (YtkjikpcmbiebdaaDoorTie.lean); close each card by the builder's one call (the guide's Derived/Test/ToyasCard.lean, 'card_holds'). Laid BY PROGRAM, IN A SANDBOX (cutbox-door.mjs). By AI agents, Wed Nov 11 2026. No macro, syntax, notation, axiom, sorry.
-/
import Derived.Test.YtkjikpcmbiebdaaDoorRows
import GoSem.ClaimSeven
namespace Go.Proofs.YtkjikpcmbiebdaaDoor
namespace Rows

/-- THE TIED CARD OF 'pentroughlaw01.DecIs'. -/
def decIsCard : Claim7 := { stood := { row := decIsRow, standIns := [], harness := (true, "b5502099276e15ead6b65081aba31e51f1edb7918093c2e5a4dea676d228fa94"), looks := false }, kinds := [], alts := [], laidByText := true, laidKinds := [.data, .pinned], laidTests := true, laidLooks := .later }
def DecIsCardSaid : Prop := Claim7.holds Tryd.pinned (.plain (OpenSpec.ofChange decIsSpec)) decIsCard

/-- THE TIED CARD OF 'pentroughlaw01.DecBack'. -/
def decBackCard : Claim7 := { stood := { row := decBackRow, standIns := [], harness := (true, "b5502099276e15ead6b65081aba31e51f1edb7918093c2e5a4dea676d228fa94"), looks := false }, kinds := [], alts := [], laidByText := true, laidKinds := [.data, .pinned], laidTests := true, laidLooks := .later }
def DecBackCardSaid : Prop := Claim7.holds Tryd.pinned (.plain (OpenSpec.ofChange decBackSpec)) decBackCard

/-- THE TIED CARD OF 'pentroughlaw01.DecParts'. -/
def decPartsCard : Claim7 := { stood := { row := decPartsRow, standIns := [], harness := (true, "b5502099276e15ead6b65081aba31e51f1edb7918093c2e5a4dea676d228fa94"), looks := false }, kinds := [], alts := [], laidByText := true, laidKinds := [.data, .pinned], laidTests := true, laidLooks := .later }
def DecPartsCardSaid : Prop := Claim7.holds Tryd.pinned (.plain (OpenSpec.ofChange decPartsSpec)) decPartsCard

/-- THE TIED CARD OF 'pentroughlaw01.DecGood'. -/
def decGoodCard : Claim7 := { stood := { row := decGoodRow, standIns := [], harness := (true, "b5502099276e15ead6b65081aba31e51f1edb7918093c2e5a4dea676d228fa94"), looks := false }, kinds := [], alts := [], laidByText := true, laidKinds := [.data, .pinned], laidTests := true, laidLooks := .later }
def DecGoodCardSaid : Prop := Claim7.holds Tryd.pinned (.plain (OpenSpec.ofChange decGoodSpec)) decGoodCard

/-- THE TIED CARD OF 'pentroughlaw01.DecRows'. -/
def decRowsCard : Claim7 := { stood := { row := decRowsRow, standIns := [], harness := (true, "b5502099276e15ead6b65081aba31e51f1edb7918093c2e5a4dea676d228fa94"), looks := false }, kinds := [], alts := [], laidByText := true, laidKinds := [.data, .pinned], laidTests := true, laidLooks := .later }
def DecRowsCardSaid : Prop := Claim7.holds Tryd.pinned (.plain (OpenSpec.ofChange decRowsSpec)) decRowsCard

/-- THE TIED CARD OF 'pentroughlaw01.DecSizes'. -/
def decSizesCard : Claim7 := { stood := { row := decSizesRow, standIns := [], harness := (true, "b5502099276e15ead6b65081aba31e51f1edb7918093c2e5a4dea676d228fa94"), looks := false }, kinds := [], alts := [], laidByText := true, laidKinds := [.data, .pinned], laidTests := true, laidLooks := .later }
def DecSizesCardSaid : Prop := Claim7.holds Tryd.pinned (.plain (OpenSpec.ofChange decSizesSpec)) decSizesCard

/-- THE TIED CARD OF 'pentroughlaw01.DecAscii'. -/
def decAsciiCard : Claim7 := { stood := { row := decAsciiRow, standIns := [], harness := (true, "b5502099276e15ead6b65081aba31e51f1edb7918093c2e5a4dea676d228fa94"), looks := false }, kinds := [], alts := [], laidByText := true, laidKinds := [.data, .pinned], laidTests := true, laidLooks := .later }
def DecAsciiCardSaid : Prop := Claim7.holds Tryd.pinned (.plain (OpenSpec.ofChange decAsciiSpec)) decAsciiCard

/-- THE TIED CARD OF 'pentroughlaw01.DecStray'. -/
def decStrayCard : Claim7 := { stood := { row := decStrayRow, standIns := [], harness := (true, "b5502099276e15ead6b65081aba31e51f1edb7918093c2e5a4dea676d228fa94"), looks := false }, kinds := [], alts := [], laidByText := true, laidKinds := [.data, .pinned], laidTests := true, laidLooks := .later }
def DecStrayCardSaid : Prop := Claim7.holds Tryd.pinned (.plain (OpenSpec.ofChange decStraySpec)) decStrayCard

/-- THE SECOND FORM's CARD OF 'pentroughlaw01.DecIs'. -/
def decIsUptoCard : Claim7 := { stood := { row := decIsUptoRow, standIns := [], harness := (true, "b5502099276e15ead6b65081aba31e51f1edb7918093c2e5a4dea676d228fa94"), looks := false }, kinds := [], alts := [], laidByText := true, laidKinds := [.data, .pinned], laidTests := true, laidLooks := .later }
def DecIsUptoCardSaid : Prop := Claim7.holds Tryd.pinned (.plain (OpenSpec.upto decIsSpec)) decIsUptoCard

/-- THE SECOND FORM's CARD OF 'pentroughlaw01.DecBack'. -/
def decBackUptoCard : Claim7 := { stood := { row := decBackUptoRow, standIns := [], harness := (true, "b5502099276e15ead6b65081aba31e51f1edb7918093c2e5a4dea676d228fa94"), looks := false }, kinds := [], alts := [], laidByText := true, laidKinds := [.data, .pinned], laidTests := true, laidLooks := .later }
def DecBackUptoCardSaid : Prop := Claim7.holds Tryd.pinned (.plain (OpenSpec.upto decBackSpec)) decBackUptoCard

/-- THE SECOND FORM's CARD OF 'pentroughlaw01.DecParts'. -/
def decPartsUptoCard : Claim7 := { stood := { row := decPartsUptoRow, standIns := [], harness := (true, "b5502099276e15ead6b65081aba31e51f1edb7918093c2e5a4dea676d228fa94"), looks := false }, kinds := [], alts := [], laidByText := true, laidKinds := [.data, .pinned], laidTests := true, laidLooks := .later }
def DecPartsUptoCardSaid : Prop := Claim7.holds Tryd.pinned (.plain (OpenSpec.upto decPartsSpec)) decPartsUptoCard

/-- THE SECOND FORM's CARD OF 'pentroughlaw01.DecGood'. -/
def decGoodUptoCard : Claim7 := { stood := { row := decGoodUptoRow, standIns := [], harness := (true, "b5502099276e15ead6b65081aba31e51f1edb7918093c2e5a4dea676d228fa94"), looks := false }, kinds := [], alts := [], laidByText := true, laidKinds := [.data, .pinned], laidTests := true, laidLooks := .later }
def DecGoodUptoCardSaid : Prop := Claim7.holds Tryd.pinned (.plain (OpenSpec.upto decGoodSpec)) decGoodUptoCard

/-- THE SECOND FORM's CARD OF 'pentroughlaw01.DecRows'. -/
def decRowsUptoCard : Claim7 := { stood := { row := decRowsUptoRow, standIns := [], harness := (true, "b5502099276e15ead6b65081aba31e51f1edb7918093c2e5a4dea676d228fa94"), looks := false }, kinds := [], alts := [], laidByText := true, laidKinds := [.data, .pinned], laidTests := true, laidLooks := .later }
def DecRowsUptoCardSaid : Prop := Claim7.holds Tryd.pinned (.plain (OpenSpec.upto decRowsSpec)) decRowsUptoCard

/-- THE SECOND FORM's CARD OF 'pentroughlaw01.DecSizes'. -/
def decSizesUptoCard : Claim7 := { stood := { row := decSizesUptoRow, standIns := [], harness := (true, "b5502099276e15ead6b65081aba31e51f1edb7918093c2e5a4dea676d228fa94"), looks := false }, kinds := [], alts := [], laidByText := true, laidKinds := [.data, .pinned], laidTests := true, laidLooks := .later }
def DecSizesUptoCardSaid : Prop := Claim7.holds Tryd.pinned (.plain (OpenSpec.upto decSizesSpec)) decSizesUptoCard

/-- THE SECOND FORM's CARD OF 'pentroughlaw01.DecAscii'. -/
def decAsciiUptoCard : Claim7 := { stood := { row := decAsciiUptoRow, standIns := [], harness := (true, "b5502099276e15ead6b65081aba31e51f1edb7918093c2e5a4dea676d228fa94"), looks := false }, kinds := [], alts := [], laidByText := true, laidKinds := [.data, .pinned], laidTests := true, laidLooks := .later }
def DecAsciiUptoCardSaid : Prop := Claim7.holds Tryd.pinned (.plain (OpenSpec.upto decAsciiSpec)) decAsciiUptoCard

/-- THE SECOND FORM's CARD OF 'pentroughlaw01.DecStray'. -/
def decStrayUptoCard : Claim7 := { stood := { row := decStrayUptoRow, standIns := [], harness := (true, "b5502099276e15ead6b65081aba31e51f1edb7918093c2e5a4dea676d228fa94"), looks := false }, kinds := [], alts := [], laidByText := true, laidKinds := [.data, .pinned], laidTests := true, laidLooks := .later }
def DecStrayUptoCardSaid : Prop := Claim7.holds Tryd.pinned (.plain (OpenSpec.upto decStraySpec)) decStrayUptoCard
end Rows
end Go.Proofs.YtkjikpcmbiebdaaDoor
