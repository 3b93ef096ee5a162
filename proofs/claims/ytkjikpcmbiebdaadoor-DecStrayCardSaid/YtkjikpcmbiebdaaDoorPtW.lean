/- Proved: that operations whose order is drawn may be taken in the order of the text, by an argument on tables. Conditions: none but those that stand in each lemma ahead of its colon. -/
import Derived.Test.YtkjikpcmbiebdaaDoorPtW1
set_option linter.unusedVariables false
set_option linter.unusedSimpArgs false
namespace Go.Pt

/-! ### Operations whose order is drawn: an argument on tables alone -/

inductive K where
  | t (n : Nat)
  | b (n : Nat)
  | k (n : Nat)
  deriving DecidableEq

inductive Vl where
  | v (v : V)
  | c (cs : List V)
  | n (sz n : Nat)

/-- What an operation reads (and what it found there), and what it writes. -/
structure Evt where
  i : Nat
  R : List K
  rd : K → Option Vl
  W : List (K × Vl)

def updL (f : K → Option Vl) : List (K × Vl) → K → Option Vl
  | [], k => f k
  | (x, v) :: r, k => if k = x then some v else updL f r k

def keys (W : List (K × Vl)) : List K := W.map (·.1)

def valid : List Evt → (K → Option Vl) → Prop
  | [], _ => True
  | e :: r, f => (∀ x ∈ e.R, f x = e.rd x) ∧ valid r (updL f e.W)

def fin : List Evt → (K → Option Vl) → K → Option Vl
  | [], f => f
  | e :: r, f => fin r (updL f e.W)

/-- Neither of two operations writes what the other reads or writes. -/
def apart (e e' : Evt) : Bool :=
  (keys e.W).all (fun x => !(e'.R.contains x) && !((keys e'.W).contains x)) && (keys e'.W).all fun x => !(e.R.contains x)

theorem updL_not {f : K → Option Vl} {W : List (K × Vl)} {k : K} (h : k ∉ keys W) : updL f W k = f k := by
  induction W with
  | nil => rfl
  | cons x r ih =>
    obtain ⟨y, v⟩ := x
    simp only [keys, List.map_cons, List.mem_cons, not_or] at h
    simp only [updL, if_neg h.1]
    exact ih h.2

theorem updL_in {f g : K → Option Vl} {W : List (K × Vl)} {k : K} (h : k ∈ keys W) : updL f W k = updL g W k := by
  induction W with
  | nil => simp [keys] at h
  | cons x r ih =>
    obtain ⟨y, v⟩ := x
    simp only [updL]
    by_cases e : k = y
    · simp [e]
    · simp only [keys, List.map_cons, List.mem_cons] at h
      rw [if_neg e, if_neg e]
      exact ih (h.resolve_left e)

theorem apart_spec {e e' : Evt} (h : apart e e' = true) : (∀ x ∈ keys e.W, x ∉ e'.R ∧ x ∉ keys e'.W) ∧ ∀ x ∈ keys e'.W, x ∉ e.R := by
  simp only [apart, Bool.and_eq_true, List.all_eq_true, Bool.not_eq_true', List.contains_eq_mem, decide_eq_false_iff_not] at h
  exact h

theorem updL_comm {e e' : Evt} (h : apart e e' = true) (f : K → Option Vl) : updL (updL f e.W) e'.W = updL (updL f e'.W) e.W := by
  obtain ⟨h1, h2⟩ := apart_spec h
  funext k
  by_cases a : k ∈ keys e.W
  · have hn := (h1 k a).2
    rw [updL_not hn]
    exact updL_in a
  · rw [updL_not (f := updL f e'.W) a]
    by_cases b : k ∈ keys e'.W
    · exact updL_in b
    · rw [updL_not b, updL_not b, updL_not a]

theorem swap {e e' : Evt} {r : List Evt} {f : K → Option Vl} (h : apart e e' = true) (hv : valid (e :: e' :: r) f) : valid (e' :: e :: r) f ∧ fin (e' :: e :: r) f = fin (e :: e' :: r) f := by
  obtain ⟨h1, h2⟩ := apart_spec h
  obtain ⟨v1, v2, v3⟩ := hv
  refine ⟨⟨fun x hx => ?_, fun x hx => ?_, by rw [← updL_comm h]; exact v3⟩, by simp only [fin]; rw [updL_comm h]⟩
  · rw [← v2 x hx, updL_not]
    exact fun hk => (h1 x hk).1 hx
  · rw [updL_not]
    · exact v1 x hx
    · exact fun hk => h2 x hk hx

theorem valid_cons {e : Evt} {r r' : List Evt} {f : K → Option Vl} (h : ∀ f, valid r f → valid r' f ∧ fin r' f = fin r f) (hv : valid (e :: r) f) : valid (e :: r') f ∧ fin (e :: r') f = fin (e :: r) f := by
  obtain ⟨v1, v2⟩ := hv
  obtain ⟨k1, k2⟩ := h _ v2
  exact ⟨⟨v1, k1⟩, k2⟩

/-- An operation that is apart from all ahead of it may go first. -/
theorem bubble {e : Evt} {post : List Evt} : ∀ {pre : List Evt} {f : K → Option Vl}, (∀ x ∈ pre, apart x e = true) → valid (pre ++ e :: post) f →
    valid (e :: (pre ++ post)) f ∧ fin (e :: (pre ++ post)) f = fin (pre ++ e :: post) f
  | [], f, _, hv => ⟨hv, rfl⟩
  | x :: pre, f, hp, hv => by
    have h1 := valid_cons (e := x) (r' := e :: (pre ++ post)) (fun f hv => bubble (pre := pre) (fun y hy => hp y (List.mem_cons_of_mem _ hy)) hv) hv
    have h2 := swap (hp x List.mem_cons_self) h1.1
    exact ⟨h2.1, h2.2.trans h1.2⟩

/-! ### Which operations come ahead of which -/

def onMask : List Edge → Nat
  | [] => 0
  | e :: r => bif Region.binds .any e then Nat.lor (Nat.shiftLeft 1 e.on) (onMask r) else onMask r

def bitOf (m i : Nat) : Bool := Nat.beq (Nat.land (Nat.shiftRight m i) 1) 1

def upMask (acc : List Nat) : List Edge → Nat
  | [] => 0
  | e :: r => bif Region.binds .any e then Nat.lor (Nat.lor (Nat.shiftLeft 1 e.on) (acc.getD e.on 0)) (upMask acc r) else upMask acc r

/-- Every operation's ancestors, as bits. -/
def ancs : List Oper → List Nat → List Nat
  | [], acc => acc
  | o :: r, acc => ancs r (acc ++ [upMask acc o.after.toList])

structure Sk where
  i : Nat
  R : List K
  W : List K

def Evt.sk (e : Evt) : Sk := ⟨e.i, e.R, keys e.W⟩

def K.eq : K → K → Bool
  | .t x, .t y => Nat.beq x y
  | .b x, .b y => Nat.beq x y
  | .k x, .k y => Nat.beq x y
  | _, _ => false

def K.inn (x : K) : List K → Bool
  | [] => false
  | y :: r => x.eq y || x.inn r

def K.off : List K → List K → Bool
  | [], _ => true
  | x :: r, l => !x.inn l && K.off r l

theorem K.eq_iff (a b : K) : a.eq b = true ↔ a = b := by
  cases a <;> cases b <;> simp [K.eq]

theorem K.inn_iff (x : K) : ∀ l : List K, x.inn l = true ↔ x ∈ l
  | [] => by simp [K.inn]
  | y :: r => by simp [K.inn, K.eq_iff, K.inn_iff x r]

theorem K.off_iff : ∀ (a l : List K), K.off a l = true ↔ ∀ x ∈ a, x ∉ l
  | [], l => by simp [K.off]
  | x :: r, l => by
    have := K.inn_iff x l
    simp only [K.off, Bool.and_eq_true, Bool.not_eq_true', List.mem_cons, forall_eq_or_imp, K.off_iff r l]
    rw [← this]
    simp

def Sk.apart (x e : Sk) : Bool := K.off x.W e.R && (K.off x.W e.W && K.off e.W x.R)

theorem apart_sk {x e : Evt} : apart x e = Sk.apart x.sk e.sk := by
  rw [Bool.eq_iff_iff]
  simp only [apart, Sk.apart, Evt.sk, Bool.and_eq_true, List.all_eq_true, Bool.not_eq_true', List.contains_eq_mem, decide_eq_false_iff_not, K.off_iff]
  constructor
  · rintro ⟨h1, h2⟩
    exact ⟨fun k hk => (h1 k hk).1, fun k hk => (h1 k hk).2, h2⟩
  · rintro ⟨h1, h2, h3⟩
    exact ⟨fun k hk => ⟨h1 k hk, h2 k hk⟩, h3⟩

def pairsOK (an : Nat) (e : Sk) : List Sk → Bool
  | [] => true
  | x :: r => (bitOf an x.i || Sk.apart x e) && pairsOK an e r

/-- Every operation comes behind, or is apart from, each that stands ahead of it in the text (the list: the last first). -/
def allOK (an : List Nat) : List Sk → Bool
  | [] => true
  | e :: r => pairsOK (an.getD e.i 0) e r && allOK an r

/-- Each of the edges goes back. -/
def edgesOK (i : Nat) : List Edge → Bool
  | [] => true
  | e :: r => (!Region.binds .any e || Nat.blt e.on i) && edgesOK i r
def backOK : Nat → List Oper → Bool
  | _, [] => true
  | i, o :: r => edgesOK i o.after.toList && backOK (i + 1) r

theorem bitOf_iff (m i : Nat) : bitOf m i = m.testBit i := by
  unfold bitOf Nat.testBit
  show Nat.beq ((m >>> i) &&& 1) 1 = (1 &&& (m >>> i) != 0)
  rw [Nat.and_comm, Nat.one_and_eq_mod_two]
  rcases Nat.mod_two_eq_zero_or_one (m >>> i) with h | h <;> rw [h] <;> rfl

end Go.Pt
