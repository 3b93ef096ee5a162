/- Proved: how the bytes of a form are put together to its value. Conditions: none but those that stand in each lemma ahead of its colon. -/
import Derived.Test.YtkjikpcmbiebdaaDoorDecB
set_option linter.unusedVariables false
set_option linter.unusedSimpArgs false
namespace Go.Pt
open Go.Proofs

def and8OK (n : Nat) : Bool :=
  (IntKind.u8.wrap ↑(BitVec.ofInt 8 (n : Int) &&& BitVec.ofInt 8 63).toNat == ((n % 64 : Nat) : Int)) && (IntKind.u8.wrap ↑(BitVec.ofInt 8 (n : Int) &&& BitVec.ofInt 8 31).toNat == ((n % 32 : Nat) : Int)) &&
    (IntKind.u8.wrap ↑(BitVec.ofInt 8 (n : Int) &&& BitVec.ofInt 8 15).toNat == ((n % 16 : Nat) : Int)) && (IntKind.u8.wrap ↑(BitVec.ofInt 8 (n : Int) &&& BitVec.ofInt 8 7).toNat == ((n % 8 : Nat) : Int))
theorem and8_all : ((List.range 256).all and8OK) = true := by kernel_rfl
theorem and8 (a : UInt8) : IntKind.u8.wrap ↑(BitVec.ofInt 8 (a.toNat : Int) &&& BitVec.ofInt 8 63).toNat = ((a.toNat % 64 : Nat) : Int) ∧ IntKind.u8.wrap ↑(BitVec.ofInt 8 (a.toNat : Int) &&& BitVec.ofInt 8 31).toNat = ((a.toNat % 32 : Nat) : Int) ∧
    IntKind.u8.wrap ↑(BitVec.ofInt 8 (a.toNat : Int) &&& BitVec.ofInt 8 15).toNat = ((a.toNat % 16 : Nat) : Int) ∧ IntKind.u8.wrap ↑(BitVec.ofInt 8 (a.toNat : Int) &&& BitVec.ofInt 8 7).toNat = ((a.toNat % 8 : Nat) : Int) := by
  have h := List.all_eq_true.1 and8_all a.toNat (List.mem_range.2 a.toNat_lt)
  simp only [and8OK, Bool.and_eq_true, beq_iff_eq] at h
  exact ⟨h.1.1.1, h.1.1.2, h.1.2, h.2⟩

theorem wrap32 (n : Nat) (h : n < 2147483648) : IntKind.i32.wrap (n : Int) = n := by rw [IntKind.wrap_i32]; omega

theorem or32 (i x y : Nat) (hy : y < 2 ^ i) (hx : 2 ^ i * x + y < 2147483648) :
    IntKind.i32.wrap ↑(BitVec.ofInt 32 ((2 ^ i * x : Nat) : Int) ||| BitVec.ofInt 32 (y : Int)).toNat = ((2 ^ i * x + y : Nat) : Int) := by
  have h1 : (BitVec.ofInt 32 ((2 ^ i * x : Nat) : Int) ||| BitVec.ofInt 32 (y : Int)).toNat = 2 ^ i * x + y := by
    rw [BitVec.toNat_or, BitVec.ofInt_natCast, BitVec.ofInt_natCast, BitVec.toNat_ofNat, BitVec.toNat_ofNat, Nat.mod_eq_of_lt (by omega), Nat.mod_eq_of_lt (by omega), Nat.two_pow_add_eq_or_of_lt hy]
  rw [h1]
  exact wrap32 _ hx

theorem shl32 (i n : Nat) (hi : i ≤ 32) (h : 2 ^ i * n < 2147483648) : IntKind.i32.wrap ((n : Int) * 2 ^ (min ((i : Nat) : Int).toNat 32)) = ((2 ^ i * n : Nat) : Int) := by
  have : min ((i : Nat) : Int).toNat 32 = i := by omega
  rw [this]
  have e : (n : Int) * 2 ^ i = ((2 ^ i * n : Nat) : Int) := by push_cast; rw [Int.mul_comm]
  rw [e]
  exact wrap32 _ h
def u8and (a : UInt8) (m : Int) : Int := IntKind.i32.wrap (IntKind.u8.wrap ↑(BitVec.ofInt IntKind.u8.bits (a.toNat : Int) &&& BitVec.ofInt IntKind.u8.bits m).toNat)
def shl (x k : Int) : Int := IntKind.i32.wrap (x * 2 ^ min (Int.toNat k) IntKind.i32.bits)
def orI (x y : Int) : Int := IntKind.i32.wrap ↑(BitVec.ofInt IntKind.i32.bits x ||| BitVec.ofInt IntKind.i32.bits y).toNat

theorem u8and63 (a : UInt8) : u8and a 63 = ((a.toNat % 64 : Nat) : Int) := by
  show IntKind.i32.wrap (IntKind.u8.wrap ↑(BitVec.ofInt 8 (a.toNat : Int) &&& BitVec.ofInt 8 63).toNat) = _
  rw [(and8 a).1]; exact wrap32 _ (by omega)
theorem u8and31 (a : UInt8) : u8and a 31 = ((a.toNat % 32 : Nat) : Int) := by
  show IntKind.i32.wrap (IntKind.u8.wrap ↑(BitVec.ofInt 8 (a.toNat : Int) &&& BitVec.ofInt 8 31).toNat) = _
  rw [(and8 a).2.1]; exact wrap32 _ (by omega)
theorem u8and15 (a : UInt8) : u8and a 15 = ((a.toNat % 16 : Nat) : Int) := by
  show IntKind.i32.wrap (IntKind.u8.wrap ↑(BitVec.ofInt 8 (a.toNat : Int) &&& BitVec.ofInt 8 15).toNat) = _
  rw [(and8 a).2.2.1]; exact wrap32 _ (by omega)
theorem u8and7 (a : UInt8) : u8and a 7 = ((a.toNat % 8 : Nat) : Int) := by
  show IntKind.i32.wrap (IntKind.u8.wrap ↑(BitVec.ofInt 8 (a.toNat : Int) &&& BitVec.ofInt 8 7).toNat) = _
  rw [(and8 a).2.2.2]; exact wrap32 _ (by omega)
theorem shl_nat (i n : Nat) (hi : i ≤ 32) (h : 2 ^ i * n < 2147483648) : shl (n : Int) ((i : Nat) : Int) = ((2 ^ i * n : Nat) : Int) := shl32 i n hi h
theorem orI_nat (i x y : Nat) (hy : y < 2 ^ i) (hx : 2 ^ i * x + y < 2147483648) : orI ((2 ^ i * x : Nat) : Int) (y : Int) = ((2 ^ i * x + y : Nat) : Int) := or32 i x y hy hx

theorem val2 (a b : UInt8) : orI (shl (u8and a 31) 6) (u8and b 63) = ((a.toNat % 32 * 64 + b.toNat % 64 : Nat) : Int) := by
  rw [u8and31, u8and63]
  have h1 := shl_nat 6 (a.toNat % 32) (by omega) (by omega)
  have h2 := orI_nat 6 (a.toNat % 32) (b.toNat % 64) (by omega) (by omega)
  rw [show ((6 : Nat) : Int) = 6 from rfl] at h1
  rw [h1, h2]
  omega
theorem val3 (a b c : UInt8) : orI (orI (shl (u8and a 15) 12) (shl (u8and b 63) 6)) (u8and c 63) = ((a.toNat % 16 * 4096 + b.toNat % 64 * 64 + c.toNat % 64 : Nat) : Int) := by
  rw [u8and15, u8and63, u8and63]
  have h1 := shl_nat 12 (a.toNat % 16) (by omega) (by omega)
  have h2 := shl_nat 6 (b.toNat % 64) (by omega) (by omega)
  have h3 := orI_nat 12 (a.toNat % 16) (2 ^ 6 * (b.toNat % 64)) (by omega) (by omega)
  have h4 := orI_nat 6 (2 ^ 6 * (a.toNat % 16) + b.toNat % 64) (c.toNat % 64) (by omega) (by omega)
  rw [show ((6 : Nat) : Int) = 6 from rfl] at h2
  rw [show ((12 : Nat) : Int) = 12 from rfl] at h1
  rw [h1, h2, h3, show (2 ^ 12 * (a.toNat % 16) + 2 ^ 6 * (b.toNat % 64) : Nat) = 2 ^ 6 * (2 ^ 6 * (a.toNat % 16) + b.toNat % 64) by omega, h4]
  omega
theorem val4 (a b c d : UInt8) : orI (orI (orI (shl (u8and a 7) 18) (shl (u8and b 63) 12)) (shl (u8and c 63) 6)) (u8and d 63) =
    ((a.toNat % 8 * 262144 + b.toNat % 64 * 4096 + c.toNat % 64 * 64 + d.toNat % 64 : Nat) : Int) := by
  rw [u8and7, u8and63, u8and63, u8and63]
  have h1 := shl_nat 18 (a.toNat % 8) (by omega) (by omega)
  have h2 := shl_nat 12 (b.toNat % 64) (by omega) (by omega)
  have h2' := shl_nat 6 (c.toNat % 64) (by omega) (by omega)
  have h3 := orI_nat 18 (a.toNat % 8) (2 ^ 12 * (b.toNat % 64)) (by omega) (by omega)
  have h4 := orI_nat 12 (2 ^ 6 * (a.toNat % 8) + b.toNat % 64) (2 ^ 6 * (c.toNat % 64)) (by omega) (by omega)
  have h5 := orI_nat 6 (2 ^ 12 * (a.toNat % 8) + 2 ^ 6 * (b.toNat % 64) + c.toNat % 64) (d.toNat % 64) (by omega) (by omega)
  rw [show ((18 : Nat) : Int) = 18 from rfl] at h1
  rw [show ((12 : Nat) : Int) = 12 from rfl] at h2
  rw [show ((6 : Nat) : Int) = 6 from rfl] at h2'
  rw [h1, h2, h2', h3, show (2 ^ 18 * (a.toNat % 8) + 2 ^ 12 * (b.toNat % 64) : Nat) = 2 ^ 12 * (2 ^ 6 * (a.toNat % 8) + b.toNat % 64) by omega, h4,
    show (2 ^ 12 * (2 ^ 6 * (a.toNat % 8) + b.toNat % 64) + 2 ^ 6 * (c.toNat % 64) : Nat) = 2 ^ 6 * (2 ^ 12 * (a.toNat % 8) + 2 ^ 6 * (b.toNat % 64) + c.toNat % 64) by omega, h5]
  omega

/-! What the bytes tell. -/
def okRest (a : UInt8) (r : List UInt8) : Bool :=
  match lsize a, r with
  | 2, b :: _ => ok2 a b
  | 3, b :: c :: _ => ok2 a b && cont c
  | 4, b :: c :: d :: _ => ok2 a b && (cont c && cont d)
  | _, _ => false
def valOf (a : UInt8) (r : List UInt8) : Nat :=
  match lsize a, r with
  | 2, b :: _ => a.toNat % 32 * 64 + b.toNat % 64
  | 3, b :: c :: _ => a.toNat % 16 * 4096 + b.toNat % 64 * 64 + c.toNat % 64
  | 4, b :: c :: d :: _ => a.toNat % 8 * 262144 + b.toNat % 64 * 4096 + c.toNat % 64 * 64 + d.toNat % 64
  | _, _ => 65533
def decM : List UInt8 → Nat × Nat
  | [] => (65533, 0)
  | a :: r => if a.toNat < 128 then (a.toNat, 1) else if okRest a r = true then (valOf a r, lsize a) else (65533, 1)
def decPV (s : List UInt8) : PV := .tup [.int .i32 (decM s).1, .int .i64 (decM s).2]

theorem decPV_bad {a : UInt8} {r : List UInt8} (hn : ¬ a.toNat < 128) (h : okRest a r = false) : decPV (a :: r) = .tup [.int .i32 65533, .int .i64 1] := by
  unfold decPV decM
  simp only [if_neg hn, h]
  rfl
theorem decPV_ok {a : UInt8} {r : List UInt8} (hn : ¬ a.toNat < 128) (h : okRest a r = true) : decPV (a :: r) = .tup [.int .i32 (valOf a r), .int .i64 (lsize a)] := by
  unfold decPV decM
  simp only [if_neg hn, h]
  rfl

end Go.Pt
