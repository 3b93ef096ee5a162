/- Proved: the plain model of layer 1, and its laws in plain Lean. Conditions: none but those that stand in each lemma ahead of its colon. -/
import Derived.Test.YtkjikpcmbiebdaaDoorDecN
set_option linter.unusedVariables false
set_option linter.unusedSimpArgs false
/-! The plain model of layer 1: what is told of bytes. -/
namespace Go.Pt

def u8 (n : Nat) : UInt8 := UInt8.ofNat n
theorem u8_toNat {n : Nat} (h : n < 256) : (u8 n).toNat = n := by
  simp [u8, UInt8.toNat_ofNat']
  omega
theorem u8_of {a : UInt8} {n : Nat} (h : a.toNat = n) : u8 n = a := by
  subst h
  simp [u8]

def goodN (n : Nat) : Bool := decide (n ≤ 1114111) && (decide (n < 55296) || decide (n > 57343))

/-- A value's bytes. -/
def form (n : Nat) : List UInt8 :=
  if n < 128 then [u8 n]
  else if n < 2048 then [u8 (192 + n / 64), u8 (128 + n % 64)]
  else if n < 65536 then [u8 (224 + n / 4096), u8 (128 + n / 64 % 64), u8 (128 + n % 64)]
  else [u8 (240 + n / 262144), u8 (128 + n / 4096 % 64), u8 (128 + n / 64 % 64), u8 (128 + n % 64)]

theorem ok2_iff {a b : UInt8} : ok2 a b = true ↔ lo2 a ≤ b.toNat ∧ b.toNat ≤ hi2 a := by simp only [ok2, Bool.and_eq_true, decide_eq_true_eq]
theorem cont_iff {c : UInt8} : cont c = true ↔ 128 ≤ c.toNat ∧ c.toNat ≤ 191 := by simp only [cont, Bool.and_eq_true, decide_eq_true_eq]
theorem ok2_cont {a b : UInt8} (h : ok2 a b = true) : 128 ≤ b.toNat ∧ b.toNat ≤ 191 ∧ (a.toNat = 224 → 160 ≤ b.toNat) ∧ (a.toNat = 237 → b.toNat ≤ 159) ∧ (a.toNat = 240 → 144 ≤ b.toNat) ∧ (a.toNat = 244 → b.toNat ≤ 143) := by
  rw [ok2_iff] at h
  unfold lo2 hi2 at h
  obtain ⟨h1, h2⟩ := h
  (repeat' split at h1) <;> (repeat' split at h2) <;> omega
theorem lsize_eq (a : UInt8) : lsize a = if a.toNat < 128 then 0 else if a.toNat < 194 then 1 else if a.toNat < 224 then 2 else if a.toNat < 240 then 3 else if a.toNat < 245 then 4 else 1 := rfl

/-- Is it a whole form of more than one byte, and what is it? -/
def wholeM : List UInt8 → Option Nat
  | [] => none
  | a :: r => if a.toNat < 128 then (if r = [] then some a.toNat else none) else if okRest a r = true ∧ r.length + 1 = lsize a then some (valOf a r) else none

def beginsM (s : List UInt8) : Bool := !s.isEmpty && (decide (s.length ≤ 3) && !fullM s)
def saneM (s : List UInt8) : Bool := s.isEmpty || beginsM s

theorem form2 {a b : UInt8} (hl : lsize a = 2) (h : ok2 a b = true) : form (valOf a [b]) = [a, b] ∧ goodN (valOf a [b]) = true ∧ 128 ≤ valOf a [b] := by
  have ha : 194 ≤ a.toNat ∧ a.toNat < 224 := by rw [lsize_eq] at hl; (repeat' split at hl) <;> omega
  have hb := ok2_cont h
  have hv : valOf a [b] = a.toNat % 32 * 64 + b.toNat % 64 := by simp [valOf, hl]
  rw [hv]
  refine ⟨?_, by simp [goodN]; omega, by omega⟩
  unfold form
  rw [if_neg (by omega), if_pos (by omega), u8_of (a := a) (by omega), u8_of (a := b) (by omega)]

theorem form3 {a b c : UInt8} (hl : lsize a = 3) (h : ok2 a b = true) (h3 : cont c = true) : form (valOf a [b, c]) = [a, b, c] ∧ goodN (valOf a [b, c]) = true ∧ 128 ≤ valOf a [b, c] := by
  have ha : 224 ≤ a.toNat ∧ a.toNat < 240 := by rw [lsize_eq] at hl; (repeat' split at hl) <;> omega
  have hb := ok2_cont h
  have hc : 128 ≤ c.toNat ∧ c.toNat ≤ 191 := cont_iff.1 h3
  have hv : valOf a [b, c] = a.toNat % 16 * 4096 + b.toNat % 64 * 64 + c.toNat % 64 := by simp [valOf, hl]
  rw [hv]
  refine ⟨?_, by simp [goodN]; omega, by omega⟩
  unfold form
  rw [if_neg (by omega), if_neg (by omega), if_pos (by omega), u8_of (a := a) (by omega), u8_of (a := b) (by omega), u8_of (a := c) (by omega)]

theorem form4 {a b c d : UInt8} (hl : lsize a = 4) (h : ok2 a b = true) (h3 : cont c = true) (h4 : cont d = true) :
    form (valOf a [b, c, d]) = [a, b, c, d] ∧ goodN (valOf a [b, c, d]) = true ∧ 128 ≤ valOf a [b, c, d] := by
  have ha : 240 ≤ a.toNat ∧ a.toNat < 245 := by rw [lsize_eq] at hl; (repeat' split at hl) <;> omega
  have hb := ok2_cont h
  have hc : 128 ≤ c.toNat ∧ c.toNat ≤ 191 := cont_iff.1 h3
  have hd : 128 ≤ d.toNat ∧ d.toNat ≤ 191 := cont_iff.1 h4
  have hv : valOf a [b, c, d] = a.toNat % 8 * 262144 + b.toNat % 64 * 4096 + c.toNat % 64 * 64 + d.toNat % 64 := by simp [valOf, hl]
  rw [hv]
  refine ⟨?_, by simp [goodN]; omega, by omega⟩
  unfold form
  rw [if_neg (by omega), if_neg (by omega), if_neg (by omega), u8_of (a := a) (by omega), u8_of (a := b) (by omega), u8_of (a := c) (by omega), u8_of (a := d) (by omega)]

/-- What a good value's bytes are. -/
theorem form_cases {n : Nat} (hg : goodN n = true) :
    (∃ a, form n = [a] ∧ a.toNat = n ∧ n < 128) ∨ (∃ a b, form n = [a, b] ∧ lsize a = 2 ∧ ok2 a b = true ∧ valOf a [b] = n ∧ 128 ≤ n ∧ n < 2048) ∨
      (∃ a b c, form n = [a, b, c] ∧ lsize a = 3 ∧ ok2 a b = true ∧ cont c = true ∧ valOf a [b, c] = n ∧ 2048 ≤ n ∧ n < 65536) ∨
      (∃ a b c d, form n = [a, b, c, d] ∧ lsize a = 4 ∧ ok2 a b = true ∧ cont c = true ∧ cont d = true ∧ valOf a [b, c, d] = n ∧ 65536 ≤ n) := by
  simp only [goodN, Bool.and_eq_true, Bool.or_eq_true, decide_eq_true_eq] at hg
  by_cases h1 : n < 128
  · left
    exact ⟨u8 n, by rw [form, if_pos h1], u8_toNat (by omega), h1⟩
  by_cases h2 : n < 2048
  · right; left
    have ea := u8_toNat (n := 192 + n / 64) (by omega)
    have eb := u8_toNat (n := 128 + n % 64) (by omega)
    have hl : lsize (u8 (192 + n / 64)) = 2 := by rw [lsize_eq, ea]; (repeat' split) <;> omega
    refine ⟨u8 (192 + n / 64), u8 (128 + n % 64), by rw [form, if_neg h1, if_pos h2], hl, ?_, ?_, by omega, h2⟩
    · simp only [ok2, lo2, hi2, ea, eb, Bool.and_eq_true, decide_eq_true_eq]; (repeat' split) <;> omega
    · simp only [valOf, hl, ea, eb]; omega
  by_cases h3 : n < 65536
  · right; right; left
    have ea := u8_toNat (n := 224 + n / 4096) (by omega)
    have eb := u8_toNat (n := 128 + n / 64 % 64) (by omega)
    have ec := u8_toNat (n := 128 + n % 64) (by omega)
    have hl : lsize (u8 (224 + n / 4096)) = 3 := by rw [lsize_eq, ea]; (repeat' split) <;> omega
    refine ⟨u8 (224 + n / 4096), u8 (128 + n / 64 % 64), u8 (128 + n % 64), by rw [form, if_neg h1, if_neg h2, if_pos h3], hl, ?_, ?_, ?_, by omega, h3⟩
    · simp only [ok2, lo2, hi2, ea, eb, Bool.and_eq_true, decide_eq_true_eq]; (repeat' split) <;> omega
    · simp only [cont, ec, Bool.and_eq_true, decide_eq_true_eq]; omega
    · simp only [valOf, hl, ea, eb, ec]; omega
  · right; right; right
    have ea := u8_toNat (n := 240 + n / 262144) (by omega)
    have eb := u8_toNat (n := 128 + n / 4096 % 64) (by omega)
    have ec := u8_toNat (n := 128 + n / 64 % 64) (by omega)
    have ed := u8_toNat (n := 128 + n % 64) (by omega)
    have hl : lsize (u8 (240 + n / 262144)) = 4 := by rw [lsize_eq, ea]; (repeat' split) <;> omega
    refine ⟨u8 (240 + n / 262144), u8 (128 + n / 4096 % 64), u8 (128 + n / 64 % 64), u8 (128 + n % 64), by rw [form, if_neg h1, if_neg h2, if_neg h3], hl, ?_, ?_, ?_, ?_, by omega⟩
    · simp only [ok2, lo2, hi2, ea, eb, Bool.and_eq_true, decide_eq_true_eq]; (repeat' split) <;> omega
    · simp only [cont, ec, Bool.and_eq_true, decide_eq_true_eq]; omega
    · simp only [cont, ed, Bool.and_eq_true, decide_eq_true_eq]; omega
    · simp only [valOf, hl, ea, eb, ec, ed]; omega

theorem lsize_le (a : UInt8) : lsize a ≤ 4 := by rw [lsize_eq]; (repeat' split) <;> omega
theorem lsize_big {a : UInt8} (h : 2 ≤ lsize a) : ¬ a.toNat < 128 := by rw [lsize_eq] at h; (repeat' split at h) <;> omega

/-- What is whole is a good value's form. -/
theorem wholeM_some {s : List UInt8} {v : Nat} (h : wholeM s = some v) : goodN v = true ∧ form v = s ∧ (v < 128 → s = [u8 v]) := by
  match s, h with
  | a :: r, h =>
    simp only [wholeM] at h
    split at h
    · rename_i h1
      split at h
      · rename_i h2
        cases h; subst h2
        refine ⟨by simp [goodN]; omega, by rw [form, if_pos h1, u8_of rfl], fun _ => by rw [u8_of rfl]⟩
      · cases h
    · split at h
      · rename_i h1 h2
        cases h
        obtain ⟨h3, h4⟩ := h2
        have hle := lsize_le a
        match r, h3, h4 with
        | [], h3, h4 => simp [okRest, ← h4] at h3
        | [b], h3, h4 =>
          have hl : lsize a = 2 := h4.symm
          obtain ⟨f1, f2, f3⟩ := form2 hl (by simpa [okRest, hl] using h3)
          exact ⟨f2, f1, fun h => by omega⟩
        | [b, c], h3, h4 =>
          have hl : lsize a = 3 := h4.symm
          have h5 : ok2 a b = true ∧ cont c = true := by simpa [okRest, hl] using h3
          obtain ⟨f1, f2, f3⟩ := form3 hl h5.1 h5.2
          exact ⟨f2, f1, fun h => by omega⟩
        | [b, c, d], h3, h4 =>
          have hl : lsize a = 4 := h4.symm
          have h5 : ok2 a b = true ∧ cont c = true ∧ cont d = true := by simpa [okRest, hl] using h3
          obtain ⟨f1, f2, f3⟩ := form4 hl h5.1 h5.2.1 h5.2.2
          exact ⟨f2, f1, fun h => by omega⟩
        | b :: c :: d :: e :: r, h3, h4 => simp at h4; omega
      · cases h

theorem wholeM_form {n : Nat} (h : goodN n = true) : wholeM (form n) = some n := by
  rcases form_cases h with ⟨a, h1, h2, h3⟩ | ⟨a, b, h1, h2, h3, h4, h5, h6⟩ | ⟨a, b, c, h1, h2, h3, h4, h5, h6, h7⟩ | ⟨a, b, c, d, h1, h2, h3, h4, h5, h6, h7⟩
  · rw [h1]; simp [wholeM, h2, h3]
  · rw [h1]; simp [wholeM, lsize_big (by omega : 2 ≤ lsize a), okRest, h2, h3, h4]
  · rw [h1]; simp [wholeM, lsize_big (by omega : 2 ≤ lsize a), okRest, h2, h3, h4, h5]
  · rw [h1]; simp [wholeM, lsize_big (by omega : 2 ≤ lsize a), okRest, h2, h3, h4, h5, h6]

/-! Feeding. -/
def feed0 (c : UInt8) : List UInt8 × List Nat :=
  match wholeM [c] with
  | some v => ([], [v])
  | none => if beginsM [c] = true then ([c], []) else ([], [65533])
def feedS (s : List UInt8) (c : UInt8) : List UInt8 × List Nat :=
  match wholeM (s ++ [c]) with
  | some v => ([], [v])
  | none => if beginsM (s ++ [c]) = true then (s ++ [c], []) else if s = [] then ([], [65533]) else ((feed0 c).1, 65533 :: (feed0 c).2)
def feedM (s : List UInt8) (c : UInt8) : List UInt8 × List Nat := feedS (if saneM s = true then s else []) c
def endM (s : List UInt8) : List Nat := if s = [] ∨ saneM s = false then [] else [65533]
def goM : List UInt8 → List UInt8 → List UInt8 × List Nat
  | s, [] => (s, [])
  | s, c :: r => ((goM (feedM s c).1 r).1, (feedM s c).2 ++ (goM (feedM s c).1 r).2)
def allM (b : List UInt8) : List Nat := (goM [] b).2 ++ endM (goM [] b).1
def fix (r : Int) : Nat := if 0 ≤ r ∧ goodN r.toNat = true then r.toNat else 65533
def textM (l : List Int) : List UInt8 := l.flatMap fun r => form (fix r)

theorem fix_good (r : Int) : goodN (fix r) = true := by
  unfold fix
  split
  · rename_i h; exact h.2
  · decide

theorem goM_append (x y s : List UInt8) : goM s (x ++ y) = ((goM (goM s x).1 y).1, (goM s x).2 ++ (goM (goM s x).1 y).2) := by
  induction x generalizing s with
  | nil => simp [goM]
  | cons c r ih => simp [goM, ih]

theorem saneM_nil : saneM [] = true := rfl
theorem feedM_sane {s : List UInt8} (h : saneM s = true) (c : UInt8) : feedM s c = feedS s c := by rw [feedM, if_pos h]
theorem beginsM_1 (a : UInt8) : beginsM [a] = decide (2 ≤ lsize a) := by
  rw [Bool.eq_iff_iff]
  simp [beginsM, fullM]; omega
theorem beginsM_2 (a b : UInt8) : beginsM [a, b] = (decide (3 ≤ lsize a) && ok2 a b) := by
  have h : fullM [a, b] = (decide (lsize a ≤ 2) || !ok2 a b) := rfl
  simp only [beginsM, h, List.isEmpty_cons, List.length_cons, List.length_nil]
  rw [show decide (3 ≤ lsize a) = !decide (lsize a ≤ 2) by rw [Bool.eq_iff_iff]; simp; omega]
  simp
theorem beginsM_3 (a b c : UInt8) : beginsM [a, b, c] = (decide (4 ≤ lsize a) && (ok2 a b && cont c)) := by
  have h : fullM [a, b, c] = (decide (lsize a ≤ 3) || !ok2 a b || !cont c) := rfl
  simp only [beginsM, h, List.isEmpty_cons, List.length_cons, List.length_nil]
  rw [show decide (4 ≤ lsize a) = !decide (lsize a ≤ 3) by rw [Bool.eq_iff_iff]; simp; omega]
  simp [Bool.and_assoc]

theorem go_form {n : Nat} (h : goodN n = true) : goM [] (form n) = ([], [n]) := by
  have hw := wholeM_form h
  rcases form_cases h with ⟨a, h1, h2, h3⟩ | ⟨a, b, h1, h2, h3, h4, h5, h6⟩ | ⟨a, b, c, h1, h2, h3, h4, h5, h6, h7⟩ | ⟨a, b, c, d, h1, h2, h3, h4, h5, h6, h7⟩
  · rw [h1] at hw ⊢
    simp [goM, feedM, feedS, saneM, hw]
  · rw [h1] at hw ⊢
    have hn := lsize_big (by omega : 2 ≤ lsize a)
    have w1 : wholeM [a] = none := by simp [wholeM, hn, h2]
    have b1 : beginsM [a] = true := by rw [beginsM_1]; simp [h2]
    simp [goM, feedM, feedS, saneM, hw, w1, b1]
  · rw [h1] at hw ⊢
    have hn := lsize_big (by omega : 2 ≤ lsize a)
    have w1 : wholeM [a] = none := by simp [wholeM, hn, h2]
    have b1 : beginsM [a] = true := by rw [beginsM_1]; simp [h2]
    have w2 : wholeM [a, b] = none := by simp [wholeM, hn, h2]
    have b2 : beginsM [a, b] = true := by rw [beginsM_2]; simp [h2, h3]
    simp [goM, feedM, feedS, saneM, hw, w1, b1, w2, b2]
  · rw [h1] at hw ⊢
    have hn := lsize_big (by omega : 2 ≤ lsize a)
    have w1 : wholeM [a] = none := by simp [wholeM, hn, h2]
    have b1 : beginsM [a] = true := by rw [beginsM_1]; simp [h2]
    have w2 : wholeM [a, b] = none := by simp [wholeM, hn, h2]
    have b2 : beginsM [a, b] = true := by rw [beginsM_2]; simp [h2, h3]
    have w3 : wholeM [a, b, c] = none := by simp [wholeM, hn, h2]
    have b3 : beginsM [a, b, c] = true := by rw [beginsM_3]; simp [h2, h3, h4]
    simp [goM, feedM, feedS, saneM, hw, w1, b1, w2, b2, w3, b3]

theorem go_text (l : List Int) : goM [] (textM l) = ([], l.map fix) := by
  induction l with
  | nil => rfl
  | cons r l ih =>
    have e : textM (r :: l) = form (fix r) ++ textM l := rfl
    rw [e, goM_append, go_form (fix_good r)]
    simp [ih]

theorem all_text (l : List Int) : allM (textM l) = l.map fix := by
  rw [allM, go_text]; simp [endM]
theorem all_text_app (l : List Int) (b : List UInt8) : allM (textM l ++ b) = l.map fix ++ allM b := by
  rw [allM, goM_append, go_text, allM]; simp

/-! What a round keeps. -/
def nz : List UInt8 → Nat
  | [] => 0
  | _ => 1
theorem nz_le (s : List UInt8) : nz s ≤ 1 := by cases s <;> simp [nz]
theorem nz_ne {s : List UInt8} (h : s ≠ []) : nz s = 1 := by cases s <;> simp_all [nz]
theorem beginsM_len {s : List UInt8} (h : beginsM s = true) : s ≠ [] ∧ s.length ≤ 3 := by
  simp only [beginsM, Bool.and_eq_true, decide_eq_true_eq] at h
  refine ⟨?_, h.2.1⟩
  rintro rfl
  simp at h

structure Kept (s : List UInt8) (c : UInt8) (r : List UInt8 × List Nat) : Prop where
  sane : saneM r.1 = true
  len : r.1.length ≤ 3
  told : r.2.length ≤ 2
  count : r.2.length + nz r.1 ≤ nz s + 1
  good : ∀ v ∈ r.2, goodN v = true
  ascii : r.2.filter (fun v => decide (v < 128)) = if c.toNat < 128 then [c.toNat] else []

theorem wholeM_ascii {s : List UInt8} {c : UInt8} {v : Nat} (h : wholeM (s ++ [c]) = some v) : ([v].filter fun v => decide (v < 128)) = if c.toNat < 128 then [c.toNat] else [] := by
  obtain ⟨h1, h2, h3⟩ := wholeM_some h
  have hw := h
  by_cases hv : v < 128
  · have h4 := h3 hv
    have : s = [] := by
      have := congrArg List.length h4
      simp at this
      exact this
    subst this
    have h5 : c = u8 v := by simpa using h4
    have h6 : c.toNat = v := by rw [h5, u8_toNat (by omega)]
    simp [h6, hv]
  · have : ¬ c.toNat < 128 := by
      intro hc
      rcases form_cases h1 with ⟨a, g1, g2, g3⟩ | ⟨a, b, g1, g2, g3, g4, g5, g6⟩ | ⟨a, b, d, g1, g2, g3, g4, g5, g6, g7⟩ | ⟨a, b, d, e, g1, g2, g3, g4, g5, g6, g7⟩
      · exact hv g3
      · have hb : c = b := by
          have := congrArg List.getLast? (g1.symm.trans h2)
          simpa using this.symm
        subst hb
        have := ok2_cont g3; omega
      · have hb : c = d := by
          have := congrArg List.getLast? (g1.symm.trans h2)
          simpa using this.symm
        subst hb
        have := cont_iff.1 g4; omega
      · have hb : c = e := by
          have := congrArg List.getLast? (g1.symm.trans h2)
          simpa using this.symm
        subst hb
        have := cont_iff.1 g5; omega
    simp [this, hv]

theorem beginsM_ascii {s : List UInt8} {c : UInt8} (h : beginsM (s ++ [c]) = true) : ¬ c.toNat < 128 := by
  have hl := (beginsM_len h).2
  rcases s with _ | ⟨a, _ | ⟨b, _ | ⟨d, s⟩⟩⟩
  · have h' : beginsM [c] = true := h
    rw [beginsM_1] at h'
    exact lsize_big (by simpa using h')
  · have h' : beginsM [a, c] = true := h
    rw [beginsM_2] at h'
    simp only [Bool.and_eq_true] at h'
    have := ok2_cont h'.2; omega
  · have h' : beginsM [a, b, c] = true := h
    rw [beginsM_3] at h'
    simp only [Bool.and_eq_true] at h'
    have := cont_iff.1 h'.2.2; omega
  · simp at hl

theorem feed0_kept (c : UInt8) : Kept [] c (feed0 c) := by
  unfold feed0
  split
  · rename_i v hv
    exact ⟨rfl, by simp, by simp, by simp [nz], by simpa using (wholeM_some hv).1, wholeM_ascii (s := []) hv⟩
  · rename_i hv
    split
    · rename_i hb
      exact ⟨by simp [saneM, hb], by simp, by simp, by simp [nz], by simp, by simp [beginsM_ascii (s := []) hb]⟩
    · refine ⟨rfl, by simp, by simp, by simp [nz], by simp; decide, ?_⟩
      have : ¬ c.toNat < 128 := by
        intro hc
        simp [wholeM, hc] at hv
      simp [this]

theorem feedS_kept {s : List UInt8} (c : UInt8) : Kept s c (feedS s c) := by
  unfold feedS
  split
  · rename_i v hv
    exact ⟨rfl, by simp, by simp, by simp [nz], by simpa using (wholeM_some hv).1, wholeM_ascii hv⟩
  · rename_i hv
    split
    · rename_i hb
      exact ⟨by simp [saneM, hb], (beginsM_len hb).2, by simp, by have := nz_le (s ++ [c]); simp; omega, by simp, by simp [beginsM_ascii hb]⟩
    · split
      · rename_i hb hs
        subst hs
        refine ⟨rfl, by simp, by simp, by simp [nz], by simp; decide, ?_⟩
        have : ¬ c.toNat < 128 := by
          intro hc
          simp [wholeM, hc] at hv
        simp [this]
      · rename_i hb hs
        have k := feed0_kept c
        refine ⟨k.sane, k.len, ?_, ?_, ?_, ?_⟩
        · have := k.count
          simp [nz] at this ⊢
          omega
        · have := k.count
          rw [nz_ne hs]
          simp [nz] at this ⊢
          omega
        · intro v hv
          rcases List.mem_cons.1 hv with rfl | hv
          · decide
          · exact k.good v hv
        · simpa using k.ascii

theorem feedM_kept {s : List UInt8} (c : UInt8) : Kept (if saneM s = true then s else []) c (feedM s c) := feedS_kept c

structure KeptAll (s b : List UInt8) (r : List UInt8 × List Nat) : Prop where
  sane : saneM r.1 = true
  len : r.1.length ≤ 3
  count : r.2.length + nz r.1 ≤ nz s + b.length
  good : ∀ v ∈ r.2, goodN v = true
  ascii : r.2.filter (fun v => decide (v < 128)) = (b.filter (fun c => decide (c.toNat < 128))).map (·.toNat)

theorem saneM_len {s : List UInt8} (h : saneM s = true) : s.length ≤ 3 := by
  rcases s with _ | ⟨a, s⟩
  · simp
  · exact (beginsM_len (by simpa [saneM] using h)).2

theorem goM_kept (b : List UInt8) : ∀ {s : List UInt8}, saneM s = true → KeptAll s b (goM s b) := by
  induction b with
  | nil => intro s h; exact ⟨h, saneM_len h, by simp [goM, nz], by simp [goM], by simp [goM]⟩
  | cons c r ih =>
    intro s h
    have k := feedM_kept (s := s) c
    rw [if_pos h] at k
    have k' := ih k.sane
    refine ⟨k'.sane, k'.len, ?_, ?_, ?_⟩
    · have h1 := k.count
      have h2 := k'.count
      simp only [goM, List.length_append, List.length_cons] at h2 ⊢
      omega
    · intro v hv
      simp only [goM, List.mem_append] at hv
      rcases hv with hv | hv
      · exact k.good v hv
      · exact k'.good v hv
    · simp only [goM, List.filter_append, k.ascii, k'.ascii]
      by_cases hc : c.toNat < 128 <;> simp [hc]

theorem endM_len {s : List UInt8} (h : saneM s = true) : (endM s).length = nz s := by
  unfold endM
  by_cases hs : s = [] <;> simp [hs, h, nz, nz_ne]

theorem allM_len (b : List UInt8) : (allM b).length ≤ b.length := by
  have k := goM_kept b saneM_nil
  have h := endM_len k.sane
  have := k.count
  simp only [allM, List.length_append, h]
  simp [nz] at this ⊢
  omega
theorem endM_mem {s : List UInt8} {v : Nat} (h : v ∈ endM s) : v = 65533 := by
  unfold endM at h
  split at h
  · cases h
  · simpa using h
theorem allM_good {b : List UInt8} {v : Nat} (h : v ∈ allM b) : goodN v = true := by
  have k := goM_kept b saneM_nil
  simp only [allM, List.mem_append] at h
  rcases h with h | h
  · exact k.good v h
  · rw [endM_mem h]; decide
theorem allM_ascii (b : List UInt8) : (allM b).filter (fun v => decide (v < 128)) = (b.filter (fun c => decide (c.toNat < 128))).map (·.toNat) := by
  have k := goM_kept b saneM_nil
  rw [allM, List.filter_append, k.ascii]
  have : (endM (goM [] b).1).filter (fun v => decide (v < 128)) = [] := by
    rw [List.filter_eq_nil_iff]
    intro v hv
    rw [endM_mem hv]
    decide
  rw [this, List.append_nil]

theorem fix_nat {v : Nat} (h : goodN v = true) : fix (v : Int) = v := by
  unfold fix
  rw [if_pos ⟨by omega, by simpa using h⟩]
  simp
theorem all_text_all (b : List UInt8) : allM (textM ((allM b).map fun (v : Nat) => (v : Int))) = allM b := by
  rw [all_text, List.map_map]
  conv => rhs; rw [← List.map_id (allM b)]
  exact List.map_congr_left fun v hv => fix_nat (allM_good hv)

theorem stray {x : UInt8} (h : lsize x = 1) : feedM [] x = ([], [65533]) := by
  have hn : ¬ x.toNat < 128 := by rw [lsize_eq] at h; (repeat' split at h) <;> omega
  have hw : wholeM [x] = none := by simp [wholeM, hn, okRest, h]
  have hb : beginsM [x] = false := by rw [beginsM_1]; simp [h]
  simp [feedM, feedS, saneM, hw, hb]
theorem go_stray {x : UInt8} (h : lsize x = 1) (k : Nat) : goM [] (List.replicate k x) = ([], List.replicate k 65533) := by
  induction k with
  | zero => rfl
  | succ k ih => simp [List.replicate_succ, goM, stray h, ih]
theorem all_stray {x : UInt8} (h : lsize x = 1) (l : List Int) (k : Nat) : allM (textM l ++ List.replicate k x) = l.map fix ++ List.replicate k 65533 := by
  rw [all_text_app, allM, go_stray h]; simp [endM]

/-- A part of a form, not all of it. -/
theorem part_begins {n k : Nat} (h : goodN n = true) (h1 : 1 ≤ k) (h2 : k < (form n).length) : beginsM ((form n).take k) = true := by
  rcases form_cases h with ⟨a, g1, g2, g3⟩ | ⟨a, b, g1, g2, g3, g4, g5, g6⟩ | ⟨a, b, d, g1, g2, g3, g4, g5, g6, g7⟩ | ⟨a, b, d, e, g1, g2, g3, g4, g5, g6, g7⟩ <;> rw [g1] at h2 ⊢ <;> simp at h2
  · omega
  · obtain rfl : k = 1 := by omega
    show beginsM [a] = true
    rw [beginsM_1]; simp [g2]
  · have : k = 1 ∨ k = 2 := by omega
    rcases this with rfl | rfl
    · show beginsM [a] = true
      rw [beginsM_1]; simp [g2]
    · show beginsM [a, b] = true
      rw [beginsM_2]; simp [g2, g3]
  · have : k = 1 ∨ k = 2 ∨ k = 3 := by omega
    rcases this with rfl | rfl | rfl
    · show beginsM [a] = true
      rw [beginsM_1]; simp [g2]
    · show beginsM [a, b] = true
      rw [beginsM_2]; simp [g2, g3]
    · show beginsM [a, b, d] = true
      rw [beginsM_3]; simp [g2, g3, g4]
end Go.Pt
