/- Proved: the types and the two tables of package utf8, as this program has them. Conditions: none but those that stand in each lemma ahead of its colon. -/
import Derived.Test.YtkjikpcmbiebdaaDoorPtAA
import Derived.Test.YtkjikpcmbiebdaaDoorProg
import Derived.KernelRfl
set_option linter.unusedVariables false
set_option linter.unusedSimpArgs false
namespace Go.Pt
open Go.Proofs
def ty2 : Ty := ⟨.int .i64, 1, 8, [.int .i64 0]⟩
def ty3 : Ty := ⟨.int .i64, 1, 8, [.int .i64 0]⟩
def ty4 : Ty := ⟨.bool, 1, 1, [.bool false]⟩
def ty5 : Ty := ⟨.int .u8, 1, 1, [.int .u8 0]⟩
def ty6 : Ty := ⟨.int .u8, 1, 1, [.int .u8 0]⟩
def ty7 : Ty := ⟨.struct [(0, 2), (1, 3), (2, 4), (3, 6)], 4, 24, [.int .i64 0, .int .i64 0, .bool false, .int .u8 0]⟩
def ty8 : Ty := ⟨.struct [(0, 2), (1, 3), (2, 4), (3, 6)], 4, 24, [.int .i64 0, .int .i64 0, .bool false, .int .u8 0]⟩
def ty9 : Ty := ⟨.str, 1, 16, [.str []]⟩
def ty10 : Ty := ⟨.str, 1, 16, [.str []]⟩
def ty11 : Ty := ⟨.str, 1, 16, [.str []]⟩
def ty12 : Ty := ⟨.int .u64, 1, 8, [.int .u64 0]⟩
def ty13 : Ty := ⟨.struct [(0, 9), (1, 12)], 2, 24, [.str [], .int .u64 0]⟩
def ty14 : Ty := ⟨.struct [(0, 9), (1, 12)], 2, 24, [.str [], .int .u64 0]⟩
def ty15 : Ty := ⟨.other, 1, 8, [.nilp]⟩
def ty16 : Ty := ⟨.other, 1, 8, [.nilp]⟩
def ty17 : Ty := ⟨.other, 1, 8, [.nilp]⟩
def ty18 : Ty := ⟨.struct [(0, 17)], 1, 8, [.nilp]⟩
def ty19 : Ty := ⟨.struct [(0, 17)], 1, 8, [.nilp]⟩
def ty21 : Ty := ⟨.int .i32, 1, 4, [.int .i32 0]⟩
def ty22 : Ty := ⟨.struct [(0, 9)], 1, 16, [.str []]⟩
def ty23 : Ty := ⟨.struct [(0, 9)], 1, 16, [.str []]⟩
def ty24 : Ty := ⟨.slice 5, 1, 24, [.sl 1 []]⟩
def ty25 : Ty := ⟨.slice 3, 1, 24, [.sl 1 []]⟩
def ty28 : Ty := ⟨.struct [(0, 9)], 1, 16, [.str []]⟩
def ty49 : Ty := ⟨.other, 1, 8, [.nilp]⟩
def ty50 : Ty := ⟨.struct [(0, 49), (1, 24)], 2, 32, [.nilp, .sl 1 []]⟩
def ty51 : Ty := ⟨.struct [(0, 49), (1, 24)], 2, 32, [.nilp, .sl 1 []]⟩
def ty64 : Ty := ⟨.other, 1, 8, [.nilp]⟩
def ty66 : Ty := ⟨.arr 256 5, 256, 256, (List.replicate 256 (.int .u8 0))⟩
def ty67 : Ty := ⟨.struct [(0, 5), (1, 5)], 2, 2, [.int .u8 0, .int .u8 0]⟩
def ty68 : Ty := ⟨.struct [(0, 5), (1, 5)], 2, 2, [.int .u8 0, .int .u8 0]⟩
def ty69 : Ty := ⟨.arr 16 68, 32, 32, [.int .u8 0, .int .u8 0, .int .u8 0, .int .u8 0, .int .u8 0, .int .u8 0, .int .u8 0, .int .u8 0, .int .u8 0, .int .u8 0, .int .u8 0, .int .u8 0, .int .u8 0, .int .u8 0, .int .u8 0, .int .u8 0, .int .u8 0, .int .u8 0, .int .u8 0, .int .u8 0, .int .u8 0, .int .u8 0, .int .u8 0, .int .u8 0, .int .u8 0, .int .u8 0, .int .u8 0, .int .u8 0, .int .u8 0, .int .u8 0, .int .u8 0, .int .u8 0]⟩
def ty70 : Ty := ⟨.int .u64, 1, 8, [.int .u64 0]⟩
def ty71 : Ty := ⟨.other, 1, 8, [.nilp]⟩
def ty73 : Ty := ⟨.int .u32, 1, 4, [.int .u32 0]⟩
def ty74 : Ty := ⟨.int .u64, 1, 8, [.int .u64 0]⟩
def ty75 : Ty := ⟨.struct [(0, 17), (1, 17), (2, 17), (3, 9)], 4, 40, [.nilp, .nilp, .nilp, .str []]⟩
def ty76 : Ty := ⟨.struct [(0, 17), (1, 17), (2, 17), (3, 9)], 4, 40, [.nilp, .nilp, .nilp, .str []]⟩
def ty77 : Ty := ⟨.arr 0 16, 0, 0, []⟩
def ty78 : Ty := ⟨.struct [(0, 77)], 0, 0, []⟩
def ty79 : Ty := ⟨.struct [(0, 77)], 0, 0, []⟩
def ty81 : Ty := ⟨.int .u8, 1, 1, [.int .u8 0]⟩
def ty82 : Ty := ⟨.int .u8, 1, 1, [.int .u8 0]⟩
def ty83 : Ty := ⟨.other, 1, 8, [.nilfn]⟩
def ty84 : Ty := ⟨.int .i32, 1, 4, [.int .i32 0]⟩
def ty85 : Ty := ⟨.int .i32, 1, 4, [.int .i32 0]⟩
def ty86 : Ty := ⟨.struct [(0, 12), (1, 12), (2, 73), (3, 81), (4, 5), (5, 5), (6, 82), (7, 83), (8, 64), (9, 84), (10, 85)], 11, 48, [.int .u64 0, .int .u64 0, .int .u32 0, .int .u8 0, .int .u8 0, .int .u8 0, .int .u8 0, .nilfn, .nilp, .int .i32 0, .int .i32 0]⟩
def ty87 : Ty := ⟨.struct [(0, 12), (1, 12), (2, 73), (3, 81), (4, 5), (5, 5), (6, 82), (7, 83), (8, 64), (9, 84), (10, 85)], 11, 48, [.int .u64 0, .int .u64 0, .int .u32 0, .int .u8 0, .int .u8 0, .int .u8 0, .int .u8 0, .nilfn, .nilp, .int .i32 0, .int .i32 0]⟩
def tys : TyTree := (.node 49 ty49 (.node 14 ty14 (.node 8 ty8 (.node 5 ty5 (.node 3 ty3 (.node 2 ty2 .leaf .leaf) (.node 4 ty4 .leaf .leaf)) (.node 7 ty7 (.node 6 ty6 .leaf .leaf) .leaf)) (.node 11 ty11 (.node 10 ty10 (.node 9 ty9 .leaf .leaf) .leaf) (.node 13 ty13 (.node 12 ty12 .leaf .leaf) .leaf))) (.node 21 ty21 (.node 17 ty17 (.node 16 ty16 (.node 15 ty15 .leaf .leaf) .leaf) (.node 19 ty19 (.node 18 ty18 .leaf .leaf) .leaf)) (.node 24 ty24 (.node 23 ty23 (.node 22 ty22 .leaf .leaf) .leaf) (.node 28 ty28 (.node 25 ty25 .leaf .leaf) .leaf)))) (.node 75 ty75 (.node 68 ty68 (.node 64 ty64 (.node 51 ty51 (.node 50 ty50 .leaf .leaf) .leaf) (.node 67 ty67 (.node 66 ty66 .leaf .leaf) .leaf)) (.node 71 ty71 (.node 70 ty70 (.node 69 ty69 .leaf .leaf) .leaf) (.node 74 ty74 (.node 73 ty73 .leaf .leaf) .leaf))) (.node 82 ty82 (.node 78 ty78 (.node 77 ty77 (.node 76 ty76 .leaf .leaf) .leaf) (.node 81 ty81 (.node 79 ty79 .leaf .leaf) .leaf)) (.node 85 ty85 (.node 84 ty84 (.node 83 ty83 .leaf .leaf) .leaf) (.node 87 ty87 (.node 86 ty86 .leaf .leaf) .leaf)))))

@[irreducible] def firstL : List Int := [240, 240, 240, 240, 240, 240, 240, 240, 240, 240, 240, 240, 240, 240, 240, 240, 240, 240, 240, 240, 240, 240, 240, 240, 240, 240, 240, 240, 240, 240, 240, 240, 240, 240, 240, 240, 240, 240, 240, 240, 240, 240, 240, 240, 240, 240, 240, 240, 240, 240, 240, 240, 240, 240, 240, 240, 240, 240, 240, 240, 240, 240, 240, 240, 240, 240, 240, 240, 240, 240, 240, 240, 240, 240, 240, 240, 240, 240, 240, 240, 240, 240, 240, 240, 240, 240, 240, 240, 240, 240, 240, 240, 240, 240, 240, 240, 240, 240, 240, 240, 240, 240, 240, 240, 240, 240, 240, 240, 240, 240, 240, 240, 240, 240, 240, 240, 240, 240, 240, 240, 240, 240, 240, 240, 240, 240, 240, 240, 241, 241, 241, 241, 241, 241, 241, 241, 241, 241, 241, 241, 241, 241, 241, 241, 241, 241, 241, 241, 241, 241, 241, 241, 241, 241, 241, 241, 241, 241, 241, 241, 241, 241, 241, 241, 241, 241, 241, 241, 241, 241, 241, 241, 241, 241, 241, 241, 241, 241, 241, 241, 241, 241, 241, 241, 241, 241, 241, 241, 241, 241, 241, 241, 241, 241, 2, 2, 2, 2, 2, 2, 2, 2, 2, 2, 2, 2, 2, 2, 2, 2, 2, 2, 2, 2, 2, 2, 2, 2, 2, 2, 2, 2, 2, 2, 19, 3, 3, 3, 3, 3, 3, 3, 3, 3, 3, 3, 3, 35, 3, 3, 52, 4, 4, 4, 68, 241, 241, 241, 241, 241, 241, 241, 241, 241, 241, 241]
def accL : List (Int × Int) := [(128, 191), (160, 191), (128, 159), (144, 191), (128, 143), (0, 0), (0, 0), (0, 0), (0, 0), (0, 0), (0, 0), (0, 0), (0, 0), (0, 0), (0, 0), (0, 0)]
def accC : List PV := accL.flatMap fun x => [.int .u8 x.1, .int .u8 x.2]
def glob : Nat → Option (List PV)
  | 0 => some (firstL.map (.int .u8))
  | 1 => some accC
  | _ => none
theorem tys_ok : tys.ok Tryd.prog = true := by kernel_rfl
noncomputable def E : Env := { P := Tryd.prog, G := glob, T := tys.get, hT := TyTree.get_ok tys_ok }
theorem follows : E.P.follows .mixedOrders = true := by kernel_rfl
end Go.Pt
