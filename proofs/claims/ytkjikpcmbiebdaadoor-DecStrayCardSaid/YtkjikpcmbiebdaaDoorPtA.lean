/- Proved: what a value without memory is, and which values of the machine stand for it. Conditions: none but those that stand in each lemma ahead of its colon. -/
import Derived.Tactics
set_option linter.unusedVariables false
set_option linter.unusedSimpArgs false
namespace Go.Pt

/-! Values without memory. -/
inductive PV where
  | int (k : IntKind) (n : Int)
  | bool (b : Bool)
  | str (s : List UInt8)
  | sl (sz : Nat) (l : List PV)
  | agg (l : List PV)
  | tup (l : List PV)
  | nilp
  | fn (f : FuncId)
  | nilfn
  | nili
  | iface (t : TypeId) (v : PV)
  deriving Inhabited

def PV.cells : PV → List PV
  | .agg l => l
  | p => [p]

def PV.one : PV → Bool
  | .agg _ => false
  | .tup _ => false
  | _ => true

/-- A value of the machine reads as one without memory; what it reaches in memory lies in cells that stay (D). -/
inductive Rep (w : World) (D : Nat → Nat → Prop) : PV → Value → Prop where
  | int (k : IntKind) (n : Int) : Rep w D (.int k n) (.int k n)
  | bool (b : Bool) : Rep w D (.bool b) (.bool b)
  | str (s : List UInt8) : Rep w D (.str s) (.string ⟨⟨s⟩⟩)
  | nil (sz : Nat) (a : Option Addr) (cap : Nat) : Rep w D (.sl sz []) (.slice a 0 cap)
  | sl (sz : Nat) (l : List PV) (b off cap : Nat) (vs : Nat → Value) (hne : l ≠ []) (hpos : 0 < sz) (hsz : ∀ e ∈ l, e.cells.length = sz)
      (hone : ∀ e ∈ l, ∀ c ∈ e.cells, c.one = true) (hcap : l.length ≤ cap)
      (hc : ∀ (i : Nat) (c : PV), (l.flatMap PV.cells)[i]? = some c → D b (off + i) ∧ w.cell? ⟨b, off + i, none⟩ = some (vs i))
      (hr : ∀ (i : Nat) (c : PV), (l.flatMap PV.cells)[i]? = some c → Rep w D c (vs i)) : Rep w D (.sl sz l) (.slice (some ⟨b, off, none⟩) l.length cap)
  | agg (l : List PV) (vs : List Value) (hl : l.length = vs.length) (hone : ∀ c ∈ l, c.one = true)
      (h : ∀ (i : Nat) (p : PV) (v : Value), l[i]? = some p → vs[i]? = some v → Rep w D p v) : Rep w D (.agg l) (.agg ⟨vs⟩)
  | tup (l : List PV) (vs : List Value) (hl : l.length = vs.length)
      (h : ∀ (i : Nat) (p : PV) (v : Value), l[i]? = some p → vs[i]? = some v → Rep w D p v) : Rep w D (.tup l) (.tuple ⟨vs⟩)
  | nilp : Rep w D .nilp (.pointer none)
  | fn (f : FuncId) : Rep w D (.fn f) (.func (.func f) #[] #[])
  | nilfn : Rep w D .nilfn .nilFunc
  | nili : Rep w D .nili .nilIface
  | iface (t : TypeId) (p : PV) (v : Value) (h : Rep w D p v) : Rep w D (.iface t p) (.iface t v)

theorem Rep.mono {w w' : World} {D D' : Nat → Nat → Prop} (h : ∀ b o, D b o → D' b o ∧ w'.cell? ⟨b, o, none⟩ = w.cell? ⟨b, o, none⟩) {p : PV} {v : Value}
    (r : Rep w D p v) : Rep w' D' p v := by
  induction r with
  | int k n => exact .int k n
  | bool b => exact .bool b
  | str s => exact .str s
  | nil sz a cap => exact .nil sz a cap
  | sl sz l b off cap vs hne hpos hsz hone hcap hc _ ih =>
    exact .sl sz l b off cap vs hne hpos hsz hone hcap (fun i c hi => ⟨(h _ _ (hc i c hi).1).1, by rw [(h _ _ (hc i c hi).1).2]; exact (hc i c hi).2⟩) ih
  | agg l vs hl hone _ ih => exact .agg l vs hl hone ih
  | tup l vs hl _ ih => exact .tup l vs hl ih
  | nilp => exact .nilp
  | fn f => exact .fn f
  | nilfn => exact .nilfn
  | nili => exact .nili
  | iface t p v _ ih => exact .iface t p v ih

theorem Rep.oneCell {w : World} {D : Nat → Nat → Prop} {p : PV} {v : Value} (r : Rep w D p v) (h : p.one = true) : v.cells = #[v] ∧ (∀ c, v ≠ .agg c) ∧ (∀ c, v ≠ .tuple c) := by
  cases r <;> first | (simp [PV.one] at h; done) | (refine ⟨rfl, ?_, ?_⟩ <;> intro c hc <;> cases hc)

/-! Values with memory. -/
inductive V where
  | pv (p : PV)
  | ptr (b off : Nat)
  | ip (cells : List PV)
  | own (t sz : Nat) (l : List PV)
  | clo (f : FuncId) (first caps : List V)
  | undef
  deriving Inhabited

inductive MU where
  | blk (b : Nat) (cells : List V)
  | tok (t sz n : Nat)

structure St where
  fr : List (Nat × V)
  mem : List MU
  n : Nat

def getT (n : Nat) : List (Nat × V) → Option V
  | [] => none
  | (m, v) :: r => bif n == m then some v else getT n r

def getB (b : Nat) : List MU → Option (List V)
  | [] => none
  | .blk c cs :: r => bif b == c then some cs else getB b r
  | .tok .. :: r => getB b r

def getK (t : Nat) : List MU → Option (Nat × Nat)
  | [] => none
  | .tok u sz n :: r => bif t == u then some (sz, n) else getK t r
  | .blk .. :: r => getK t r

structure Gh where
  D : Nat → Nat → Prop
  mu : Nat → Nat
  tau : Nat → Value

inductive VRel (w : World) (g : Gh) (m : List MU) : V → Value → Prop where
  | pv (p : PV) (v : Value) (h : Rep w g.D p v) : VRel w g m (.pv p) v
  | ptr (b off : Nat) (h : (getB b m).isSome = true) : VRel w g m (.ptr b off) (.pointer (some ⟨g.mu b, off, none⟩))
  | ip (cells : List PV) (b off : Nat) (vs : Nat → Value)
      (h : ∀ (i : Nat) (c : PV), cells[i]? = some c → g.D b (off + i) ∧ w.cell? ⟨b, off + i, none⟩ = some (vs i) ∧ Rep w g.D c (vs i)) (hone : ∀ c ∈ cells, c.one = true) :
      VRel w g m (.ip cells) (.pointer (some ⟨b, off, none⟩))
  | own (t sz : Nat) (l : List PV) (v : Value) (n : Nat) (hr : Rep w g.D (.sl sz l) v) (hk : getK t m = some (sz, n)) (hn : l.length ≤ n)
      (ht : l.length = n → g.tau t = v) : VRel w g m (.own t sz l) v
  | clo (f : FuncId) (first caps : List V) (va vb : List Value) (hla : first.length = va.length) (hlb : caps.length = vb.length)
      (ha : ∀ (i : Nat) (x : V) (v : Value), first[i]? = some x → va[i]? = some v → VRel w g m x v) (hb : ∀ (i : Nat) (x : V) (v : Value), caps[i]? = some x → vb[i]? = some v → VRel w g m x v) :
      VRel w g m (.clo f first caps) (.func (.func f) ⟨va⟩ ⟨vb⟩)
  | undef (v : Value) : VRel w g m .undef v

/-- What keeps every value as it was. -/
structure Keeps (w : World) (g : Gh) (m : List MU) (w' : World) (g' : Gh) (m' : List MU) : Prop where
  d : ∀ b o, g.D b o → g'.D b o ∧ w'.cell? ⟨b, o, none⟩ = w.cell? ⟨b, o, none⟩
  b : ∀ b, (getB b m).isSome = true → (getB b m').isSome = true ∧ g'.mu b = g.mu b
  k : ∀ t sz n, getK t m = some (sz, n) → ∃ n', getK t m' = some (sz, n') ∧ n ≤ n' ∧ (n = n' → g'.tau t = g.tau t)

theorem Keeps.refl (w : World) (g : Gh) (m : List MU) : Keeps w g m w g m :=
  ⟨fun _ _ h => ⟨h, rfl⟩, fun _ h => ⟨h, rfl⟩, fun _ _ n h => ⟨n, h, Nat.le_refl _, fun _ => rfl⟩⟩

theorem Keeps.trans {w w' w'' : World} {g g' g'' : Gh} {m m' m'' : List MU} (h : Keeps w g m w' g' m') (k : Keeps w' g' m' w'' g'' m'') : Keeps w g m w'' g'' m'' := by
  refine ⟨fun b o hd => ?_, fun b hb => ?_, fun t sz n hk => ?_⟩
  · obtain ⟨h1, h2⟩ := h.d b o hd
    obtain ⟨k1, k2⟩ := k.d b o h1
    exact ⟨k1, k2.trans h2⟩
  · obtain ⟨h1, h2⟩ := h.b b hb
    obtain ⟨k1, k2⟩ := k.b b h1
    exact ⟨k1, k2.trans h2⟩
  · obtain ⟨n', h1, h2, h3⟩ := h.k t sz n hk
    obtain ⟨n'', k1, k2, k3⟩ := k.k t sz n' h1
    exact ⟨n'', k1, by omega, fun e => (k3 (by omega)).trans (h3 (by omega))⟩

theorem VRel.keep {w w' : World} {g g' : Gh} {m m' : List MU} (h : Keeps w g m w' g' m') {x : V} {v : Value} (r : VRel w g m x v) : VRel w' g' m' x v := by
  induction r with
  | pv p v hr => exact .pv p v (hr.mono h.d)
  | ptr b off hb => rw [← (h.b b hb).2]; exact .ptr b off (h.b b hb).1
  | ip cells b off vs hc hone =>
    exact .ip cells b off vs (fun i c hi => by
      obtain ⟨h1, h2, h3⟩ := hc i c hi
      exact ⟨(h.d _ _ h1).1, by rw [(h.d _ _ h1).2]; exact h2, h3.mono h.d⟩) hone
  | own t sz l v n hr hk hn ht =>
    obtain ⟨n', h1, h2, h3⟩ := h.k t sz n hk
    exact .own t sz l v n' (hr.mono h.d) h1 (by omega) (fun e => by rw [h3 (by omega)]; exact ht (by omega))
  | clo f first caps va vb hla hlb _ _ iha ihb => exact .clo f first caps va vb hla hlb iha ihb
  | undef v => exact .undef v

/-- Below block number B the world is as it was. -/
structure Bel (B : Nat) (w w' : World) : Prop where
  os : w'.os = w.os
  tape : w'.tape = w.tape
  output : w'.output = w.output
  size : w.heap.size ≤ w'.heap.size
  block : ∀ k, k < B → w'.heap[k]? = w.heap[k]?

theorem Bel.refl (B : Nat) (w : World) : Bel B w w := ⟨rfl, rfl, rfl, Nat.le_refl _, fun _ _ => rfl⟩
theorem Bel.trans {B : Nat} {a b c : World} (h : Bel B a b) (k : Bel B b c) : Bel B a c :=
  ⟨k.os.trans h.os, k.tape.trans h.tape, k.output.trans h.output, Nat.le_trans h.size k.size, fun i hi => (k.block i hi).trans (h.block i hi)⟩
theorem Bel.mono {B B' : Nat} {w w' : World} (h : Bel B w w') (hB : B' ≤ B) : Bel B' w w' := ⟨h.os, h.tape, h.output, h.size, fun k hk => h.block k (Nat.lt_of_lt_of_le hk hB)⟩

theorem cell_of_block {w w' : World} {a : Addr} (h : w'.heap[a.block]? = w.heap[a.block]?) : w'.cell? a = w.cell? a := by
  unfold World.cell?; rw [h]

/-! Types, as far as the operations ask. -/
inductive TK where
  | int (k : IntKind)
  | str
  | bool
  | slice (e : TypeId)
  | struct (fs : List (Nat × TypeId))
  | arr (n : Nat) (e : TypeId)
  | other
  deriving DecidableEq

def TK.agg : TK → Bool
  | .struct _ => true
  | .arr _ _ => true
  | _ => false

structure Ty where
  k : TK
  size : Nat
  bytes : Nat
  zero : List PV

def zeroOK1 : PV → Value → Bool
  | .int k n, .int k' n' => decide (k = k') && decide (n = n')
  | .bool a, .bool b => a == b
  | .str [], .string b => b.data.toList.isEmpty
  | .sl _ [], .slice none 0 0 => true
  | .nilp, .pointer none => true
  | .nilfn, .nilFunc => true
  | .nili, .nilIface => true
  | _, _ => false

def zeroOK : List PV → List Value → Bool
  | [], [] => true
  | p :: r, v :: s => zeroOK1 p v && zeroOK r s
  | _, _ => false

def kindOK : TK → TypeDesc → Bool
  | .int k, .int k' => decide (k = k')
  | .str, .string => true
  | .bool, .bool => true
  | .slice e, .slice e' => e == e'
  | .struct fs, .struct fields => decide (fields.toList.map (fun f => (f.offset, f.type)) = fs)
  | .arr n e, .array n' e' => n == n' && e == e'
  | .other, .int _ => false
  | .other, .string => false
  | .other, .bool => false
  | .other, .slice _ => false
  | .other, .struct _ => false
  | .other, .array _ _ => false
  | .other, .interface _ => false
  | .other, _ => true
  | _, _ => false

def tyOK (P : Program) (t : TypeId) (ty : Ty) : Bool :=
  match P.info? t, P.underlying t with
  | some i, some d => i.size == ty.size && i.bytes == ty.bytes && kindOK ty.k d && (ty.k.agg || ty.size == 1) &&
      (match i.zero with
       | some z => zeroOK ty.zero z.cells.toList
       | none => false)
  | _, _ => false

structure Env where
  P : Program
  G : Nat → Option (List PV)
  T : TypeId → Option Ty
  hT : ∀ t ty, T t = some ty → tyOK P t ty = true
  B : Nat → Option TypeId := fun _ => none

/-- What holds while a call of its own runs: where its own memory begins, and the world that it began in. -/
structure Ctx extends Env where
  base : Nat
  w0 : World
  D0 : Nat → Nat → Prop

structure MemSim (C : Ctx) (w : World) (g : Gh) (m : List MU) : Prop where
  below : Bel C.base C.w0 w
  baseLe : C.base ≤ w.heap.size
  dLt : ∀ b o, g.D b o → b < w.heap.size
  dOld : ∀ b o, C.D0 b o → g.D b o
  dNew : ∀ b o, g.D b o → C.D0 b o ∨ C.base ≤ b
  d0Lt : ∀ b o, C.D0 b o → b < C.base
  glob : ∀ gl cells, C.G gl = some cells → VRel w g m (.ip cells) (.pointer (some ⟨gl, 0, none⟩))
  blk : ∀ b cells, getB b m = some cells → ∃ (vs : Array Value) (el : TypeId), w.heap[g.mu b]? = some (.cells vs el (0, 0)) ∧ C.base ≤ g.mu b ∧ (vs.size = cells.length ∧ ∀ t, C.B b = some t → el = t) ∧
    (∀ (i : Nat) (c : V), cells[i]? = some c → VRel w g m c (vs.getD i undef)) ∧ ∀ o, ¬ g.D (g.mu b) o
  inj : ∀ b b', (getB b m).isSome = true → (getB b' m).isSome = true → g.mu b = g.mu b' → b = b'
  tok : ∀ t sz n, getK t m = some (sz, n) → ∃ a cap, g.tau t = .slice a n cap ∧ n ≤ cap ∧ ((n = cap ∧ ∀ ad, a = some ad → C.base ≤ ad.block) ∨ ∃ b off vs el, a = some ⟨b, off, none⟩ ∧ C.base ≤ b ∧
    (∃ fz : Nat × Nat, w.heap[b]? = some (.cells vs el fz) ∧ ∀ o, o < vs.size → ¬ (fz.1 ≤ o ∧ o < fz.2)) ∧ off + cap * sz ≤ vs.size ∧ (∀ k, off + n * sz ≤ k → ¬ g.D b k) ∧ (∀ b', (getB b' m).isSome = true → g.mu b' ≠ b) ∧
    ∀ t' a' n' cap', t' ≠ t → (getK t' m).isSome = true → g.tau t' = .slice (some a') n' cap' → n' < cap' → a'.block ≠ b)

end Go.Pt
