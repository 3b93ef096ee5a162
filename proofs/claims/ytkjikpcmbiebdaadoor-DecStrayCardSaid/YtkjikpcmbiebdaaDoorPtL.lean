/- Proved: what a step of the run does to frame and memory. Conditions: none but those that stand in each lemma ahead of its colon. -/
import Derived.Test.YtkjikpcmbiebdaaDoorPtK
set_option linter.unusedVariables false
set_option linter.unusedSimpArgs false
namespace Go.Pt

inductive Key where
  | b (n : Nat)
  | k (n : Nat)
  deriving DecidableEq

def toPVs : List V → Option (List PV)
  | [] => some []
  | x :: r => match x.toPV, toPVs r with
    | some p, some l => bif p.one then some (p :: l) else none
    | _, _ => none

def loadV (E : Env) (t : TypeId) (cs : List V) (off : Nat) : Option V :=
  match E.T t with
  | some ty => bif ty.k.agg then (bif Nat.ble (off + ty.size) cs.length then match toPVs ((cs.drop off).take ty.size) with
      | some ps => forceL ps fun ps => some (.pv (.agg ps))
      | none => none
      else none)
    else cs[off]?
  | none => none

/-- A value's cells, to be stored. -/
def cellsV : V → Option (List V)
  | .pv (.agg ps) => forceL (ps.map V.pv) some
  | .pv (.tup _) => none
  | .undef => none
  | v => some [v]

def seqP : Nat → Nat → List (Nat × PV) → Option (List PV)
  | _, _, [] => some []
  | i, sz, (j, p) :: r => bif i == j && p.cells.length == sz && p.cells.all PV.one then match seqP (i + 1) sz r with
    | some l => some (p :: l)
    | none => none
    else none

/-- An element's zero value. -/
def zeroP (ty : Ty) : Option PV :=
  bif ty.k.agg then some (.agg ty.zero) else match ty.zero with
    | [p] => some p
    | _ => none

def isNil : Operand → Bool
  | .const (.slice none 0 0) => true
  | _ => false

/-- The type that a block must have. -/
def okB (E : Env) (id : Nat) (t : TypeId) : Bool :=
  match E.B id with
  | none => true
  | some u => t == u
theorem okB_spec {E : Env} {id : Nat} {t : TypeId} (h : okB E id t = true) : ∀ u, E.B id = some u → t = u := by
  intro u hu
  unfold okB at h
  rw [hu] at h
  simpa using h

abbrev Step := Option (Prop × List Key × List MU × V)

def mAppend (E : Env) (fr : List (Nat × V)) (t1 t2 : TypeId) (tk sz : Nat) (l : List PV) (y : Operand) (R : List Key) (P : Prop) : Step :=
  match E.T t1, E.T t2 with
  | some ty1, some ty2 => match ty1.k with
    | .slice e => match E.T e with
      | some te => bif te.size == sz && Nat.blt 0 sz && te.zero.length == sz && Nat.ble te.bytes 65536 then match ty2.k, ev E fr y with
        | .slice _, some v => match slOf v with
          | some (sz2, r) => some (P ∧ (sz2 = sz ∨ r = []) ∧ Small (l ++ r).length, R, [.tok tk sz (l ++ r).length], .own tk sz (l ++ r))
          | none => none
        | .str, some (.pv (.str s)) => bif sz == 1 then some (P ∧ Small (l ++ bytes s).length, R, [.tok tk 1 (l ++ bytes s).length], .own tk 1 (l ++ bytes s)) else none
        | _, _ => none
        else none
      | none => none
    | _ => none
  | _, _ => none

/-- Every operation but a call of a Go function: what it asks, what memory of the call's own it reads and writes, what it answers. -/
def step (E : Env) (id : Nat) (fr : List (Nat × V)) (m : List MU) (o : Oper) : Step :=
  match o.op with
  | .load t x => match ev E fr x with
    | some (.ptr b off) => match getB b m with
      | some cs => match loadV E t cs off with
        | some v => some (True, [.b b], [], v)
        | none => none
      | none => none
    | some (.ip cs) => match partP E t cs 0 with
      | some p => some (True, [], [], .pv p)
      | none => none
    | _ => none
  | .store t x y => match ev E fr x, ev E fr y, sizeT E t with
    | some (.ptr b off), some v, some sz => match getB b m, cellsV v with
      | some cs, some vs => bif vs.length == sz && Nat.ble (off + sz) cs.length then
          forceL (cs.take off ++ (vs ++ cs.drop (off + sz))) fun cs' => some (True, [.b b], [.blk b cs'], .undef) else none
      | _, _ => none
    | _, _, _ => none
  | .alloc t => match E.T t with
    | some ty => match getB id m, okB E id t with
      | none, true => forceL (ty.zero.map V.pv) fun cs => some (True, [.b id], [.blk id cs], .ptr id 0)
      | _, _ => none
    | none => none
  | .box t x => match ev E fr x, getB id m, okB E id t with
    | some v, none, true => match cellsV v with
      | some vs => some (True, [.b id], [.blk id vs], .ptr id 0)
      | none => none
    | _, _, _ => none
  | .buildSlice t len parts => match E.T t, partsOf E fr parts.toList, getK id m with
    | some ty, some l, none => match ty.k with
      | .slice e => match E.T e with
        | some te => match seqP 0 te.size l with
          | some ps => bif ps.length == len && te.zero.length == te.size && Nat.blt 0 te.size && Nat.ble (len * te.size) 16777216 then
              some (True, [.k id], [.tok id te.size ps.length], .own id te.size ps) else none
          | none => none
        | none => none
      | _ => none
    | _, _, _ => none
  | .makeSlice t n c => match E.T t, intOf (ev E fr n), intOf (ev E fr c), getK id m with
    | some ty, some n, some c, none => match ty.k with
      | .slice e => match E.T e with
        | some te => match zeroP te with
          | some z => bif te.zero.length == te.size && Nat.blt 0 te.size && Nat.ble te.bytes 65536 then
              some (0 ≤ n ∧ n ≤ c ∧ c ≤ 1073741824, [.k id], [.tok id te.size (List.replicate n.toNat z).length], .own id te.size (List.replicate n.toNat z)) else none
          | none => none
        | none => none
      | _ => none
    | _, _, _, _ => none
  | .move (.const (.slice none 0 0)) | .assign (.const (.slice none 0 0)) => match E.T o.type, getK id m with
    | some ty, none => match ty.k with
      | .slice e => match sizeT E e with
        | some sz => some (True, [.k id], [.tok id sz 0], .own id sz [])
        | none => none
      | _ => none
    | _, _ => none
  | .convert src dst x => match E.T src, E.T dst, ev E fr x with
    | some s, some d, some v => match s.k, d.k, v with
      | .str, .slice e, .pv (.str b) => match E.T e, getK id m with
        | some te, none => match te.k with
          | .int .u8 => some (Small b.length, [.k id], [.tok id 1 (bytes b).length], .own id 1 (bytes b))
          | _ => none
        | _, _ => none
      | _, _, _ => match pop E fr o with
        | some (p, v) => some (p, [], [], v)
        | none => none
    | _, _, _ => none
  | .call ⟨.builtin .append, args, ats⟩ => match args.toList, ats.toList with
    | [x, y], [t1, t2] => match ev E fr x with
      | some (.own tk sz l) => match getK tk m with
        | some (_, n) => mAppend E fr t1 t2 tk sz l y [.k tk] (l.length = n)
        | none => none
      | some _ => bif isNil x then (match E.T t1, getK id m with
        | some ty1, none => match ty1.k with
          | .slice e => match sizeT E e with
            | some sz => mAppend E fr t1 t2 id sz [] y [.k id] True
            | none => none
          | _ => none
        | _, _ => none) else none
      | none => none
    | _, _ => none
  | _ => match pop E fr o with
    | some (p, v) => some (p, [], [], v)
    | none => none

def Enters (P : Program) (k : FuncId) : Prop := ∃ fn, P.funcs[k]? = some fn ∧ (fn.name == "runtime.NumGoroutine") = false ∧ fn.body.isNone = false

structure Start (E : Env) (w : World) (D : Nat → Nat → Prop) : Prop where
  dLt : ∀ b o, D b o → b < w.heap.size
  glob : ∀ gl cells, E.G gl = some cells → ∀ mu tau m, VRel w ⟨D, mu, tau⟩ m (.ip cells) (.pointer (some ⟨gl, 0, none⟩))

structure RepArgs (w : World) (D : Nat → Nat → Prop) (ps : List PV) (vals : List Value) : Prop where
  len : ps.length = vals.length
  at_ : ∀ (i : Nat) (p : PV) (v : Value), ps[i]? = some p → vals[i]? = some v → Rep w D p v

structure Grew (w : World) (D : Nat → Nat → Prop) (w' : World) (D' : Nat → Nat → Prop) : Prop where
  old : ∀ b o, D b o → D' b o
  new : ∀ b o, D' b o → D b o ∨ (w.heap.size ≤ b ∧ b < w'.heap.size)
  bel : Bel w.heap.size w w'

/-- What a function answers, and that it changes nothing that was there. -/
def Spec (E : Env) (k : FuncId) (ps : List PV) (r : PV) : Prop :=
  Enters E.P k ∧ ∀ w D vals, Start E w D → RepArgs w D ps vals → Calls E.P k ⟨vals⟩ w fun e w' => ∃ v D', e = .returned v ∧ Rep w' D' r v ∧ Grew w D w' D'

/-- A slice that nobody else has. -/
def FreshVal (w w' : World) (D' : Nat → Nat → Prop) (sz n : Nat) (v : Value) : Prop :=
  ∃ a cap, v = .slice a n cap ∧ n ≤ cap ∧ ((n = cap ∧ ∀ ad, a = some ad → w.heap.size ≤ ad.block) ∨ ∃ b off vs el, a = some ⟨b, off, none⟩ ∧ w.heap.size ≤ b ∧
    (∃ fz : Nat × Nat, w'.heap[b]? = some (.cells vs el fz) ∧ ∀ o, o < vs.size → ¬ (fz.1 ≤ o ∧ o < fz.2)) ∧ off + cap * sz ≤ vs.size ∧ ∀ k, off + n * sz ≤ k → ¬ D' b k)

def Fresh (E : Env) (k : FuncId) (ps : List PV) (sz : Nat) (l : List PV) : Prop :=
  Enters E.P k ∧ ∀ w D vals, Start E w D → RepArgs w D ps vals → Calls E.P k ⟨vals⟩ w fun e w' =>
    ∃ v D', e = .returned v ∧ Rep w' D' (.sl sz l) v ∧ Grew w D w' D' ∧ FreshVal w w' D' sz l.length v

def evs (E : Env) (fr : List (Nat × V)) : List Operand → Option (List PV)
  | [] => some []
  | x :: r => match ev E fr x, evs E fr r with
    | some v, some l => match v.toPV with
      | some p => some (p :: l)
      | none => none
    | _, _ => none

end Go.Pt
