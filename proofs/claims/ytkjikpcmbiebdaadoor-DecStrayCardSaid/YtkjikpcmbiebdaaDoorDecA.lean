/- Proved: what the row of a first byte in those tables says. Conditions: none but those that stand in each lemma ahead of its colon. -/
import Derived.Test.YtkjikpcmbiebdaaDoorDecEnv
set_option linter.unusedVariables false
set_option linter.unusedSimpArgs false
namespace Go.Pt
open Go.Proofs

/-! The first byte's row in the table. -/
def fx (a : UInt8) : Int := firstL.getD a.toNat 0

def fxOK (n : Nat) (x : Int) : Bool :=
  (Nat.blt n 128 && x == 240) || ((Nat.ble 128 n && Nat.blt n 194 || Nat.ble 245 n) && x == 241) || (Nat.ble 194 n && Nat.blt n 224 && x == 2) || (Nat.beq n 224 && x == 19) ||
    ((Nat.ble 225 n && Nat.blt n 237 || Nat.ble 238 n && Nat.blt n 240) && x == 3) || (Nat.beq n 237 && x == 35) || (Nat.beq n 240 && x == 52) || (Nat.ble 241 n && Nat.blt n 244 && x == 4) || (Nat.beq n 244 && x == 68)

theorem firstL_len : firstL.length = 256 := by kernel_rfl
theorem fx_all : ((List.range 256).all fun n => fxOK n (firstL.getD n 0)) = true := by kernel_rfl

theorem fx_ok (n : Nat) (h : n < 256) : fxOK n (firstL.getD n 0) = true := by
  have h1 := List.all_eq_true.1 fx_all n (List.mem_range.2 h)
  exact h1

theorem fx_cases (a : UInt8) : (a.toNat < 128 ∧ fx a = 240) ∨ ((128 ≤ a.toNat ∧ a.toNat < 194 ∨ 245 ≤ a.toNat) ∧ fx a = 241) ∨ (194 ≤ a.toNat ∧ a.toNat < 224 ∧ fx a = 2) ∨ (a.toNat = 224 ∧ fx a = 19) ∨
    ((225 ≤ a.toNat ∧ a.toNat < 237 ∨ 238 ≤ a.toNat ∧ a.toNat < 240) ∧ fx a = 3) ∨ (a.toNat = 237 ∧ fx a = 35) ∨ (a.toNat = 240 ∧ fx a = 52) ∨ (241 ≤ a.toNat ∧ a.toNat < 244 ∧ fx a = 4) ∨ (a.toNat = 244 ∧ fx a = 68) := by
  have h := fx_ok a.toNat a.toNat_lt
  unfold fx
  generalize firstL.getD a.toNat 0 = x at h ⊢
  simp only [fxOK, Nat.blt, Nat.ble_eq, Nat.beq_eq, Bool.or_eq_true, Bool.and_eq_true, beq_iff_eq] at h
  rcases h with (((((((h | h) | h) | h) | h) | h) | h) | h) | h
  · left; omega
  · right; left; omega
  · right; right; left; omega
  · right; right; right; left; omega
  · right; right; right; right; left; omega
  · right; right; right; right; right; left; omega
  · right; right; right; right; right; right; left; omega
  · right; right; right; right; right; right; right; left; omega
  · right; right; right; right; right; right; right; right; omega


def lsize (a : UInt8) : Nat := if a.toNat < 128 then 0 else if a.toNat < 194 then 1 else if a.toNat < 224 then 2 else if a.toNat < 240 then 3 else if a.toNat < 245 then 4 else 1
def lo2 (a : UInt8) : Nat := if a.toNat = 224 then 160 else if a.toNat = 240 then 144 else 128
def hi2 (a : UInt8) : Nat := if a.toNat = 237 then 159 else if a.toNat = 244 then 143 else 191
def ok2 (a b : UInt8) : Bool := decide (lo2 a ≤ b.toNat) && decide (b.toNat ≤ hi2 a)
def cont (b : UInt8) : Bool := decide (128 ≤ b.toNat) && decide (b.toNat ≤ 191)

def fullM : List UInt8 → Bool
  | [] => false
  | [a] => decide (lsize a ≤ 1)
  | [a, b] => decide (lsize a ≤ 2) || !ok2 a b
  | [a, b, c] => decide (lsize a ≤ 3) || !ok2 a b || !cont c
  | _ => true

theorem toI_first (a : UInt8) : toI ((firstL.map (PV.int .u8)).getD ((a.toNat : Int).toNat * 1) default) = fx a := by
  rw [toI_map]
  simp [fx]

def sz7 (x : Int) : Int := IntKind.i64.wrap (IntKind.u8.wrap ↑(BitVec.ofInt IntKind.u8.bits x &&& BitVec.ofInt IntKind.u8.bits 7).toNat)
def idx4 (x : Int) : Int := x.fdiv (2 ^ (min (4 : Int).toNat IntKind.u8.bits))

theorem fx_facts (a : UInt8) : sz7 (fx a) = lsize a ∧ (Inb (idx4 (fx a)) 16 ∧ (accC.drop ((idx4 (fx a)).toNat * 2)).take 2 = etaF [.int .u8 0, .int .u8 0] ((idx4 (fx a)).toNat * 2) accC) ∧
    (2 ≤ lsize a → toI (accC.getD ((idx4 (fx a)).toNat * 2) default) = lo2 a ∧ toI (accC.getD ((idx4 (fx a)).toNat * 2 + 1) default) = hi2 a) := by
  rcases fx_cases a with ⟨h, hx⟩ | ⟨h, hx⟩ | ⟨h, h', hx⟩ | ⟨h, hx⟩ | ⟨h, hx⟩ | ⟨h, hx⟩ | ⟨h, hx⟩ | ⟨h, h', hx⟩ | ⟨h, hx⟩
  · have e : lsize a = 0 := by unfold lsize; (repeat' split) <;> omega
    rw [hx, e]
    exact ⟨by decide, ⟨⟨by decide, by decide⟩, rfl⟩, fun hl => absurd hl (by decide)⟩
  · have e : lsize a = 1 := by unfold lsize; (repeat' split) <;> omega
    rw [hx, e]
    exact ⟨by decide, ⟨⟨by decide, by decide⟩, rfl⟩, fun hl => absurd hl (by decide)⟩
  · have e : lsize a = 2 := by unfold lsize; (repeat' split) <;> omega
    have e1 : lo2 a = 128 := by unfold lo2; (repeat' split) <;> omega
    have e2 : hi2 a = 191 := by unfold hi2; (repeat' split) <;> omega
    rw [hx, e, e1, e2]
    exact ⟨by decide, ⟨⟨by decide, by decide⟩, rfl⟩, fun _ => ⟨by decide, by decide⟩⟩
  · have e : lsize a = 3 := by unfold lsize; (repeat' split) <;> omega
    have e1 : lo2 a = 160 := by unfold lo2; (repeat' split) <;> omega
    have e2 : hi2 a = 191 := by unfold hi2; (repeat' split) <;> omega
    rw [hx, e, e1, e2]
    exact ⟨by decide, ⟨⟨by decide, by decide⟩, rfl⟩, fun _ => ⟨by decide, by decide⟩⟩
  · have e : lsize a = 3 := by unfold lsize; (repeat' split) <;> omega
    have e1 : lo2 a = 128 := by unfold lo2; (repeat' split) <;> omega
    have e2 : hi2 a = 191 := by unfold hi2; (repeat' split) <;> omega
    rw [hx, e, e1, e2]
    exact ⟨by decide, ⟨⟨by decide, by decide⟩, rfl⟩, fun _ => ⟨by decide, by decide⟩⟩
  · have e : lsize a = 3 := by unfold lsize; (repeat' split) <;> omega
    have e1 : lo2 a = 128 := by unfold lo2; (repeat' split) <;> omega
    have e2 : hi2 a = 159 := by unfold hi2; (repeat' split) <;> omega
    rw [hx, e, e1, e2]
    exact ⟨by decide, ⟨⟨by decide, by decide⟩, rfl⟩, fun _ => ⟨by decide, by decide⟩⟩
  · have e : lsize a = 4 := by unfold lsize; (repeat' split) <;> omega
    have e1 : lo2 a = 144 := by unfold lo2; (repeat' split) <;> omega
    have e2 : hi2 a = 191 := by unfold hi2; (repeat' split) <;> omega
    rw [hx, e, e1, e2]
    exact ⟨by decide, ⟨⟨by decide, by decide⟩, rfl⟩, fun _ => ⟨by decide, by decide⟩⟩
  · have e : lsize a = 4 := by unfold lsize; (repeat' split) <;> omega
    have e1 : lo2 a = 128 := by unfold lo2; (repeat' split) <;> omega
    have e2 : hi2 a = 191 := by unfold hi2; (repeat' split) <;> omega
    rw [hx, e, e1, e2]
    exact ⟨by decide, ⟨⟨by decide, by decide⟩, rfl⟩, fun _ => ⟨by decide, by decide⟩⟩
  · have e : lsize a = 4 := by unfold lsize; (repeat' split) <;> omega
    have e1 : lo2 a = 128 := by unfold lo2; (repeat' split) <;> omega
    have e2 : hi2 a = 143 := by unfold hi2; (repeat' split) <;> omega
    rw [hx, e, e1, e2]
    exact ⟨by decide, ⟨⟨by decide, by decide⟩, rfl⟩, fun _ => ⟨by decide, by decide⟩⟩

theorem eta_first (i : Nat) (h : i < 256) : ((firstL.map (PV.int .u8)).drop (i * 1)).take 1 = etaF [.int .u8 0] (i * 1) (firstL.map (PV.int .u8)) := by
  have hl : i < (firstL.map (PV.int .u8)).length := by rw [List.length_map, firstL_len]; exact h
  rw [Nat.mul_one]
  simp only [etaF]
  rw [List.drop_eq_getElem_cons hl]
  rw [List.length_map] at hl
  simp [List.getD_eq_getElem?_getD, hl, etaC, toI]

end Go.Pt
