/- Proved: how values and states are worked out by reckoning on lists alone. Conditions: none but those that stand in each lemma ahead of its colon. -/
import Derived.Test.YtkjikpcmbiebdaaDoorPtC
import Derived.Laws.StructEq
import Derived.Laws.Cells
set_option linter.unusedVariables false
set_option linter.unusedSimpArgs false
namespace Go.Pt

def constV : Value → Option V
  | .int k n => some (.pv (.int k n))
  | .bool b => some (.pv (.bool b))
  | .string s => some (.pv (.str s.data.toList))
  | .slice none 0 _ => some (.pv (.sl 0 []))
  | .pointer none => some (.pv .nilp)
  | .nilFunc => some (.pv .nilfn)
  | .nilIface => some (.pv .nili)
  | _ => none

def ev (E : Env) (fr : List (Nat × V)) : Operand → Option V
  | .tmp t => getT t fr
  | .const v => constV v
  | .global g => match E.G g with
    | some cells => some (.ip cells)
    | none => none
  | .func f => some (.pv (.fn f))

def V.toPV : V → Option PV
  | .pv p => some p
  | .own _ sz l => some (.sl sz l)
  | _ => none

def slOf : V → Option (Nat × List PV)
  | .pv (.sl sz l) => some (sz, l)
  | .own _ sz l => some (sz, l)
  | _ => none

/-- The list's spine is worked out first. -/
def forceL {α β : Type} : List α → (List α → β) → β
  | [], k => k []
  | a :: r, k => forceL r fun r' => k (a :: r')
theorem forceL_eq {α β : Type} (l : List α) (k : List α → β) : forceL l k = k l := by
  induction l generalizing k with
  | nil => rfl
  | cons a r ih => simp [forceL, ih]

def Inb (i : Int) (n : Nat) : Prop := 0 ≤ i ∧ i < n
def Cut (lo hi n : Int) : Prop := 0 ≤ lo ∧ lo ≤ hi ∧ hi ≤ n
/-- Lengths that are told of stay small. -/
def Small (n : Nat) : Prop := n ≤ 2 ^ 30

def bytes (s : List UInt8) : List PV := s.map fun b => .int .u8 b.toNat

/-! An element's cells, in the form that its type tells. -/
def toI : PV → Int
  | .int _ n => n
  | _ => 0
def toB : PV → Bool
  | .bool b => b
  | _ => false
def toS : PV → List UInt8
  | .str s => s
  | _ => []
def toL : PV → List PV
  | .sl _ l => l
  | _ => []
def etaC : PV → PV → PV
  | .int k _, q => .int k (toI q)
  | .bool _, q => .bool (toB q)
  | .str _, q => .str (toS q)
  | .sl sz _, q => .sl sz (toL q)
  | _, q => q
def etaF : List PV → Nat → List PV → List PV
  | [], _, _ => []
  | z :: r, j, cs => etaC z (cs.getD j default) :: etaF r (j + 1) cs
def etaE (te : Ty) (q : PV) : List PV :=
  match te.k.agg, te.zero with
  | false, [z] => [etaC z q]
  | _, zs => etaF zs 0 q.cells

def binPV (op : BinOp) : PV → PV → Option (Prop × PV)
  | .int k a, .int k2 b => match op with
    | .add => some (k = k2, .int k (k.wrap (a + b)))
    | .sub => some (k = k2, .int k (k.wrap (a - b)))
    | .mul => some (k = k2, .int k (k.wrap (a * b)))
    | .quo => some (k = k2 ∧ b ≠ 0, .int k (k.wrap (a.tdiv b)))
    | .rem => some (k = k2 ∧ b ≠ 0, .int k (a.tmod b))
    | .and => some (k = k2, .int k (k.wrap (BitVec.ofInt k.bits a &&& BitVec.ofInt k.bits b).toNat))
    | .or => some (k = k2, .int k (k.wrap (BitVec.ofInt k.bits a ||| BitVec.ofInt k.bits b).toNat))
    | .xor => some (k = k2, .int k (k.wrap (BitVec.ofInt k.bits a ^^^ BitVec.ofInt k.bits b).toNat))
    | .andNot => some (k = k2, .int k (k.wrap (BitVec.ofInt k.bits a &&& ~~~BitVec.ofInt k.bits b).toNat))
    | .shl => some (0 ≤ b, .int k (k.wrap (a * 2 ^ (min b.toNat k.bits))))
    | .shr => some (0 ≤ b, .int k (a.fdiv (2 ^ (min b.toNat k.bits))))
    | .eql => some (k = k2, .bool (a == b))
    | .neq => some (k = k2, .bool (a != b))
    | .lss => some (k = k2, .bool (decide (a < b)))
    | .leq => some (k = k2, .bool (decide (a ≤ b)))
    | .gtr => some (k = k2, .bool (decide (a > b)))
    | .geq => some (k = k2, .bool (decide (a ≥ b)))
  | .str a, .str b => match op with
    | .add => some (Small (a.length + b.length), .str (a ++ b))
    | .eql => some (True, .bool (a == b))
    | .neq => some (True, .bool (!(a == b)))
    | _ => none
  | _, _ => none

theorem bif_some {α : Type} {b : Bool} {x : Option α} {y : α} (h : (bif b then x else none) = some y) : b = true ∧ x = some y := by
  cases b with
  | true => exact ⟨rfl, h⟩
  | false => cases h

def fillC (place : Nat → Option (Nat × Nat)) (cells : List PV) : List (Nat × PV) → Option (List PV)
  | [] => some cells
  | (i, v) :: r => match place i with
    | none => none
    | some (off, size) => bif v.cells.length == size && Nat.ble (off + size) cells.length then
        forceL (cells.take off ++ (v.cells ++ cells.drop (off + size))) fun cs => fillC place cs r else none

def partsOf (E : Env) (fr : List (Nat × V)) : List (Nat × Operand) → Option (List (Nat × PV))
  | [] => some []
  | (i, x) :: r => match ev E fr x, partsOf E fr r with
    | some v, some l => match v.toPV with
      | some p => some ((i, p) :: l)
      | none => none
    | _, _ => none

def sizeT (E : Env) (t : TypeId) : Option Nat :=
  match E.T t with
  | some ty => some ty.size
  | none => none

def placeF (E : Env) (fs : List (Nat × TypeId)) (i : Nat) : Option (Nat × Nat) :=
  match fs[i]? with
  | some (off, ft) => match sizeT E ft with
    | some n => some (off, n)
    | none => none
  | none => none
def placeA (n : Nat) (i : Nat) : Option (Nat × Nat) := some (i * n, n)

def allT (E : Env) : List (Nat × TypeId) → Bool
  | [] => true
  | (_, t) :: r => match E.T t with
    | some _ => allT E r
    | none => false

def noTup : List (Nat × PV) → Bool
  | [] => true
  | (_, .tup _) :: _ => false
  | _ :: r => noTup r

/-- A part of some cells, of a type. -/
def partP (E : Env) (t : TypeId) (cells : List PV) (off : Nat) : Option PV :=
  match E.T t with
  | some ty => bif ty.k.agg then (bif Nat.ble (off + ty.size) cells.length then forceL ((cells.drop off).take ty.size) fun cs => some (.agg cs) else none)
      else cells[off]?
  | none => none

def lenOf (E : Env) (t : TypeId) (v : V) : Option Int :=
  match E.T t with
  | some ty => match ty.k, v with
    | .str, .pv (.str s) => some s.length
    | .slice _, .pv (.sl _ l) => some l.length
    | .slice _, .own _ _ l => some l.length
    | .arr n _, _ => some n
    | _, _ => none
  | none => none

def intOf : Option V → Option Int
  | some (.pv (.int _ i)) => some i
  | _ => none

def boundOf (E : Env) (fr : List (Nat × V)) (d : Int) : Option Operand → Option Int
  | none => some d
  | some x => intOf (ev E fr x)

/-- What an operation that touches no memory of the call's own answers, and on what condition. -/
def pop (E : Env) (fr : List (Nat × V)) (o : Oper) : Option (Prop × V) :=
  match o.op with
  | .move x | .assign x => match ev E fr x with
    | some v => some (True, v)
    | none => none
  | .nilCheck x => match ev E fr x with
    | some (.ptr b off) => some (True, .ptr b off)
    | some (.ip cs) => some (True, .ip cs)
    | some (.pv (.fn f)) => some (True, .pv (.fn f))
    | some (.clo f a c) => some (True, .clo f a c)
    | _ => none
  | .binOp op xt x y _ => match ev E fr x, ev E fr y with
    | some (.pv (.bool a)), some (.pv (.bool b)) => match E.T xt with
      | some ty => match ty.k, op with
        | .bool, .eql => some (True, .pv (.bool (a == b)))
        | .bool, .neq => some (True, .pv (.bool (!(a == b))))
        | _, _ => none
      | none => none
    | some (.pv a), some (.pv b) => match binPV op a b with
      | some (p, r) => some (p, .pv r)
      | none => none
    | _, _ => none
  | .unOp op _ x => match op, ev E fr x with
    | .not, some (.pv (.bool b)) => some (True, .pv (.bool (!b)))
    | .neg, some (.pv (.int k n)) => some (True, .pv (.int k (k.wrap (0 - n))))
    | _, _ => none
  | .convert src dst x => match ev E fr x, E.T src, E.T dst with
    | some (.pv (.int _ n)), some s, some d => match s.k, d.k with
      | .int _, .int k => some (True, .pv (.int k (k.wrap n)))
      | _, _ => none
    | some (.pv (.str s)), some st, some d => match st.k, d.k with
      | .str, .str => some (True, .pv (.str s))
      | _, _ => none
    | _, _, _ => none
  | .build t parts => match E.T t, partsOf E fr parts.toList with
    | some ty, some l => match ty.k with
      | .struct fs => bif allT E fs && noTup l then match fillC (placeF E fs) ty.zero l with
        | some cs => some (True, .pv (.agg cs))
        | none => none
        else none
      | .arr _ e => match sizeT E e with
        | some n => bif noTup l then match fillC (placeA n) ty.zero l with
          | some cs => some (True, .pv (.agg cs))
          | none => none
          else none
        | none => none
      | _ => none
    | _, _ => none
  | .field t x f => match E.T t, ev E fr x with
    | some ty, some (.pv (.agg cs)) => match ty.k with
      | .struct fs => match fs[f]? with
        | some (off, ft) => match partP E ft cs off with
          | some p => some (True, .pv p)
          | none => none
        | none => none
      | _ => none
    | _, _ => none
  | .extract x i => match ev E fr x with
    | some (.pv (.tup l)) => match l[i]? with
      | some p => some (True, .pv p)
      | none => none
    | _ => none
  | .index t x i => match E.T t, ev E fr x, ev E fr i with
    | some ty, some (.pv (.str s)), some (.pv (.int _ i)) => match ty.k with
      | .str => some (Inb i s.length, .pv (.int .u8 ((s.getD i.toNat 0).toNat : Int)))
      | _ => none
    | _, _, _ => none
  | .fieldAddr t x f => match E.T t, ev E fr x with
    | some ty, some v => match ty.k with
      | .struct fs => match fs[f]? with
        | some (off, ft) => match sizeT E ft with
          | some (_ + 1) => match v with
            | .ptr b o => some (True, .ptr b (o + off))
            | .ip cs => forceL (cs.drop off) fun cs => some (True, .ip cs)
            | _ => none
          | _ => none
        | none => none
      | _ => none
    | _, _ => none
  | .indexAddr t x i => match E.T t, ev E fr x, ev E fr i with
    | some ty, some v, some (.pv (.int _ i)) => match ty.k with
      | .slice e => match E.T e, slOf v with
        | some te, some (sz, l) => bif te.size == sz then
            some (Inb i l.length ∧ (l.getD i.toNat default).cells = etaE te (l.getD i.toNat default), .ip (etaE te (l.getD i.toNat default))) else none
        | _, _ => none
      | .arr n e => match E.T e, v with
        | some te, .ptr b o => some (Inb i n, .ptr b (o + i.toNat * te.size))
        | some te, .ip cs => some (Inb i n ∧ (cs.drop (i.toNat * te.size)).take te.zero.length = etaF te.zero (i.toNat * te.size) cs, .ip (etaF te.zero (i.toNat * te.size) cs))
        | _, _ => none
      | _ => none
    | _, _, _ => none
  | .load t x => match ev E fr x with
    | some (.ip cs) => match partP E t cs 0 with
      | some p => some (True, .pv p)
      | none => none
    | _ => none
  | .slice t x lo hi none => match E.T t, ev E fr x with
    | some ty, some v => match ty.k, v with
      | .str, .pv (.str s) => match boundOf E fr 0 lo, boundOf E fr s.length hi with
        | some l, some h => some (Cut l h s.length, .pv (.str ((s.take h.toNat).drop l.toNat)))
        | _, _ => none
      | .slice e, v => match sizeT E e, slOf v with
        | some n, some (sz, xs) => match boundOf E fr 0 lo, boundOf E fr xs.length hi with
          | some l, some h => bif n == sz then some (Cut l h xs.length, .pv (.sl sz ((xs.take h.toNat).drop l.toNat))) else none
          | _, _ => none
        | _, _ => none
      | _, _ => none
    | _, _ => none
  | .makeInterface t x => match ev E fr x, E.T t with
    | some v, some _ => match v.toPV with
      | some p => some (True, .pv (.iface t p))
      | none => none
    | _, _ => none
  | .call ⟨.builtin .len, args, ats⟩ => match args.toList, ats.toList with
    | [x], [t] => match ev E fr x with
      | some v => match lenOf E t v with
        | some n => some (True, .pv (.int .i64 n))
        | none => none
      | none => none
    | _, _ => none
  | .call ⟨.builtin .min, args, _⟩ => match args.toList with
    | [x, y] => match ev E fr x, ev E fr y with
      | some (.pv (.int k a)), some (.pv (.int _ b)) => some (True, .pv (.int k (if b < a then b else a)))
      | _, _ => none
    | _ => none
  | .call ⟨.builtin .max, args, _⟩ => match args.toList with
    | [x, y] => match ev E fr x, ev E fr y with
      | some (.pv (.int k a)), some (.pv (.int _ b)) => some (True, .pv (.int k (if b > a then b else a)))
      | _, _ => none
    | _ => none
  | _ => none

end Go.Pt
