/- Proved: that a form of the reference is whole or begun just where the plain model says so. Conditions: none but those that stand in each lemma ahead of its colon. -/
import Derived.Test.YtkjikpcmbiebdaaDoorDecR
set_option linter.unusedVariables false
set_option linter.unusedSimpArgs false
/-! The reference's whole and Begins are the model's. -/
namespace Go.Pt

theorem head1 {a : UInt8} (h : a.toNat < 128) : headM a.toNat = (1, a.toNat) := by simp [headM, h]
theorem head2 {a : UInt8} (h : lsize a = 2) : 194 ≤ a.toNat ∧ a.toNat < 224 ∧ headM a.toNat = (2, a.toNat - 192) := by
  rw [lsize_eq] at h
  have h1 : 194 ≤ a.toNat ∧ a.toNat < 224 := by (repeat' split at h) <;> omega
  refine ⟨h1.1, h1.2, ?_⟩
  unfold headM
  rw [if_neg (by omega), if_pos (by omega)]
theorem head3 {a : UInt8} (h : lsize a = 3) : 224 ≤ a.toNat ∧ a.toNat < 240 ∧ headM a.toNat = (3, a.toNat - 224) := by
  rw [lsize_eq] at h
  have h1 : 224 ≤ a.toNat ∧ a.toNat < 240 := by (repeat' split at h) <;> omega
  refine ⟨h1.1, h1.2, ?_⟩
  unfold headM
  rw [if_neg (by omega), if_neg (by omega), if_pos (by omega)]
theorem head4 {a : UInt8} (h : lsize a = 4) : 240 ≤ a.toNat ∧ a.toNat < 245 ∧ headM a.toNat = (4, a.toNat - 240) := by
  rw [lsize_eq] at h
  have h1 : 240 ≤ a.toNat ∧ a.toNat < 245 := by (repeat' split at h) <;> omega
  refine ⟨h1.1, h1.2, ?_⟩
  unfold headM
  rw [if_neg (by omega), if_neg (by omega), if_neg (by omega), if_pos (by omega)]

theorem whole_ref {a : UInt8} {r : List UInt8} {u : Nat} (h : wholeM (a :: r) = some u) : (headM a.toNat).1 = r.length + 1 ∧ valueM a r 0 = u := by
  simp only [wholeM] at h
  split at h
  · rename_i h1
    split at h
    · rename_i h2
      subst h2
      cases h
      rw [valueM, head1 h1]
      exact ⟨rfl, rfl⟩
    · cases h
  · split at h
    · rename_i h1 h2
      obtain ⟨h2, h3⟩ := h2
      cases h
      have hle := lsize_le a
      have h4 := okRest_lsize h2
      match r, h2, h3 with
      | [b], h2, h3 =>
        obtain ⟨g1, g2, g3⟩ := head2 h3.symm
        rw [valueM, g3]
        refine ⟨rfl, ?_⟩
        simp [valAt, valOf, ← h3]
        omega
      | [b, c], h2, h3 =>
        obtain ⟨g1, g2, g3⟩ := head3 h3.symm
        rw [valueM, g3]
        refine ⟨rfl, ?_⟩
        simp [valAt, valOf, ← h3]
        omega
      | [b, c, d], h2, h3 =>
        obtain ⟨g1, g2, g3⟩ := head4 h3.symm
        rw [valueM, g3]
        refine ⟨rfl, ?_⟩
        simp [valAt, valOf, ← h3]
        omega
      | [], h2, h3 => simp at h3; omega
      | b :: c :: d :: e :: r, h2, h3 => simp at h3; omega
    · cases h

theorem whole_ok {a : UInt8} {r : List UInt8} (hn : (headM a.toNat).1 = r.length + 1) : (goodN (valueM a r 0) && (form (valueM a r 0) == a :: r)) = (wholeM (a :: r)).isSome := by
  rw [Bool.eq_iff_iff, Bool.and_eq_true, beq_iff_eq]
  constructor
  · rintro ⟨h1, h2⟩
    have := wholeM_form h1
    rw [h2] at this
    rw [this]; rfl
  · intro h
    obtain ⟨u, hu⟩ := Option.isSome_iff_exists.1 h
    obtain ⟨h1, h2⟩ := whole_ref hu
    obtain ⟨h3, h4, _⟩ := wholeM_some hu
    rw [h2]; exact ⟨h3, h4⟩

def cands (a : UInt8) (r : List UInt8) : List Nat := [valueM a r 0, valueM a r 63, 128, 2048, 65536, 55295, 57344, 1114111]
def candT (a : UInt8) (r : List UInt8) (x : Nat) : Bool :=
  (decide (valueM a r 0 ≤ x) && decide (x ≤ valueM a r 63)) && (goodN x && (decide ((form x).length = (headM a.toNat).1) && ((form x).take (r.length + 1) == a :: r)))

theorem any_of {a : UInt8} {r : List UInt8} {x : Nat} (tail : List UInt8) (hx : x ∈ cands a r) (h1 : valueM a r 0 ≤ x) (h2 : x ≤ valueM a r 63) (hg : goodN x = true) (hf : form x = a :: (r ++ tail))
    (hl : r.length + 1 + tail.length = (headM a.toNat).1) : (cands a r).any (candT a r) = true := by
  refine List.any_eq_true.2 ⟨x, hx, ?_⟩
  have h3 : (form x).length = (headM a.toNat).1 := by rw [hf, ← hl]; simp; omega
  have h4 : (form x).take (r.length + 1) = a :: r := by rw [hf]; simp
  simp [candT, h1, h2, hg, h3, h4]

theorem begins_any {a : UInt8} {r : List UInt8} (h3 : r.length + 1 ≤ 3) (hn : r.length + 1 < (headM a.toNat).1) : (cands a r).any (candT a r) = beginsM (a :: r) := by
  rw [Bool.eq_iff_iff]
  constructor
  · intro h
    obtain ⟨x, _, hx⟩ := List.any_eq_true.1 h
    simp only [candT, Bool.and_eq_true, decide_eq_true_eq, beq_iff_eq] at hx
    obtain ⟨_, hg, hl, ht⟩ := hx
    have := part_begins (k := r.length + 1) hg (by omega) (by omega)
    rwa [ht] at this
  · intro h
    match r, h3, hn, h with
    | [], _, hn, h =>
      rw [beginsM_1, decide_eq_true_eq] at h
      have hle := lsize_le a
      have : lsize a = 2 ∨ lsize a = 3 ∨ lsize a = 4 := by omega
      rcases this with hz | hz | hz
      · obtain ⟨g1, g2, g3⟩ := head2 hz
        have hk : ok2 a (u8 128) = true := by rw [ok2_iff]; simp only [lo2, hi2, u8_toNat (show 128 < 256 by omega)]; (repeat' split) <;> omega
        obtain ⟨f1, f2, _⟩ := form2 hz hk
        have hv : valueM a [] 0 = valOf a [u8 128] := by
          rw [valueM, g3]; simp [valAt, valOf, hz, u8_toNat (show 128 < 256 by omega)]; omega
        refine any_of (x := valOf a [u8 128]) [u8 128] (by rw [← hv]; simp [cands]) (by omega) ?_ f2 f1 (by rw [g3]; rfl)
        rw [← hv, valueM, valueM, g3]; simp [valAt]
      · obtain ⟨g1, g2, g3⟩ := head3 hz
        by_cases ha : a.toNat = 224
        · have hk : ok2 a (u8 160) = true := by rw [ok2_iff]; simp only [lo2, hi2, u8_toNat (show 160 < 256 by omega)]; (repeat' split) <;> omega
          have hc : cont (u8 128) = true := by rw [cont_iff, u8_toNat (by omega)]; omega
          obtain ⟨f1, f2, _⟩ := form3 hz hk hc
          have hv : valOf a [u8 160, u8 128] = 2048 := by simp [valOf, hz, u8_toNat (show 128 < 256 by omega), u8_toNat (show 160 < 256 by omega), ha]
          refine any_of (x := valOf a [u8 160, u8 128]) [u8 160, u8 128] (by rw [hv]; simp [cands]) ?_ ?_ f2 f1 (by rw [g3]; rfl)
          · rw [hv, valueM, g3]; simp [valAt, ha]
          · rw [hv, valueM, g3]; simp [valAt, ha]
        · have hk : ok2 a (u8 128) = true := by rw [ok2_iff]; simp only [lo2, hi2, u8_toNat (show 128 < 256 by omega)]; (repeat' split) <;> omega
          have hc : cont (u8 128) = true := by rw [cont_iff, u8_toNat (by omega)]; omega
          obtain ⟨f1, f2, _⟩ := form3 hz hk hc
          have hv : valueM a [] 0 = valOf a [u8 128, u8 128] := by
            rw [valueM, g3]; simp [valAt, valOf, hz, u8_toNat (show 128 < 256 by omega)]; omega
          refine any_of (x := valOf a [u8 128, u8 128]) [u8 128, u8 128] (by rw [← hv]; simp [cands]) (by omega) ?_ f2 f1 (by rw [g3]; rfl)
          rw [← hv, valueM, valueM, g3]; simp [valAt]; omega
      · obtain ⟨g1, g2, g3⟩ := head4 hz
        have hc : cont (u8 128) = true := by rw [cont_iff, u8_toNat (by omega)]; omega
        by_cases ha : a.toNat = 240
        · have hk : ok2 a (u8 144) = true := by rw [ok2_iff]; simp only [lo2, hi2, u8_toNat (show 144 < 256 by omega)]; (repeat' split) <;> omega
          obtain ⟨f1, f2, _⟩ := form4 hz hk hc hc
          have hv : valOf a [u8 144, u8 128, u8 128] = 65536 := by simp [valOf, hz, u8_toNat (show 128 < 256 by omega), u8_toNat (show 144 < 256 by omega), ha]
          refine any_of (x := valOf a [u8 144, u8 128, u8 128]) [u8 144, u8 128, u8 128] (by rw [hv]; simp [cands]) ?_ ?_ f2 f1 (by rw [g3]; rfl)
          · rw [hv, valueM, g3]; simp [valAt, ha]
          · rw [hv, valueM, g3]; simp [valAt, ha]
        · have hk : ok2 a (u8 128) = true := by rw [ok2_iff]; simp only [lo2, hi2, u8_toNat (show 128 < 256 by omega)]; (repeat' split) <;> omega
          obtain ⟨f1, f2, _⟩ := form4 hz hk hc hc
          have hv : valueM a [] 0 = valOf a [u8 128, u8 128, u8 128] := by
            rw [valueM, g3]; simp [valAt, valOf, hz, u8_toNat (show 128 < 256 by omega)]; omega
          refine any_of (x := valOf a [u8 128, u8 128, u8 128]) [u8 128, u8 128, u8 128] (by rw [← hv]; simp [cands]) (by omega) ?_ f2 f1 (by rw [g3]; rfl)
          rw [← hv, valueM, valueM, g3]; simp [valAt]; omega
    | [b], _, hn, h =>
      rw [beginsM_2, Bool.and_eq_true, decide_eq_true_eq] at h
      have hle := lsize_le a
      have hc : cont (u8 128) = true := by rw [cont_iff, u8_toNat (by omega)]; omega
      have hb := ok2_cont h.2
      have : lsize a = 3 ∨ lsize a = 4 := by omega
      rcases this with hz | hz
      · obtain ⟨g1, g2, g3⟩ := head3 hz
        obtain ⟨f1, f2, _⟩ := form3 hz h.2 hc
        have hv : valueM a [b] 0 = valOf a [b, u8 128] := by
          rw [valueM, g3]; simp [valAt, valOf, hz, u8_toNat (show 128 < 256 by omega)]; omega
        refine any_of (x := valOf a [b, u8 128]) [u8 128] (by rw [← hv]; simp [cands]) (by omega) ?_ f2 f1 (by rw [g3]; rfl)
        rw [← hv, valueM, valueM, g3]; simp [valAt]
      · obtain ⟨g1, g2, g3⟩ := head4 hz
        obtain ⟨f1, f2, _⟩ := form4 hz h.2 hc hc
        have hv : valueM a [b] 0 = valOf a [b, u8 128, u8 128] := by
          rw [valueM, g3]; simp [valAt, valOf, hz, u8_toNat (show 128 < 256 by omega)]; omega
        refine any_of (x := valOf a [b, u8 128, u8 128]) [u8 128, u8 128] (by rw [← hv]; simp [cands]) (by omega) ?_ f2 f1 (by rw [g3]; rfl)
        rw [← hv, valueM, valueM, g3]; simp [valAt]; omega
    | [b, c], _, hn, h =>
      rw [beginsM_3, Bool.and_eq_true, Bool.and_eq_true, decide_eq_true_eq] at h
      have hle := lsize_le a
      have hc : cont (u8 128) = true := by rw [cont_iff, u8_toNat (by omega)]; omega
      have hb := ok2_cont h.2.1
      have hc2 := cont_iff.1 h.2.2
      have hz : lsize a = 4 := by omega
      obtain ⟨g1, g2, g3⟩ := head4 hz
      obtain ⟨f1, f2, _⟩ := form4 hz h.2.1 h.2.2 hc
      have hv : valueM a [b, c] 0 = valOf a [b, c, u8 128] := by
        rw [valueM, g3]; simp [valAt, valOf, hz, u8_toNat (show 128 < 256 by omega)]; omega
      refine any_of (x := valOf a [b, c, u8 128]) [u8 128] (by rw [← hv]; simp [cands]) (by omega) ?_ f2 f1 (by rw [g3]; rfl)
      rw [← hv, valueM, valueM, g3]; simp [valAt]
    | b :: c :: d :: r, h3, _, _ => simp at h3

/-- Where the first byte tells of no more bytes than there are nothing begins. -/
theorem begins_not {a : UInt8} {r : List UInt8} (hn : (headM a.toNat).1 ≤ r.length + 1) : beginsM (a :: r) = false := by
  cases h : beginsM (a :: r) with
  | false => rfl
  | true =>
    exfalso
    have h3 := (beginsM_len h).2
    have key : r.length + 2 ≤ lsize a := by
      match r, h, h3 with
      | [], h, _ => rw [beginsM_1, decide_eq_true_eq] at h; simpa using h
      | [b], h, _ => rw [beginsM_2, Bool.and_eq_true, decide_eq_true_eq] at h; simpa using h.1
      | [b, c], h, _ => rw [beginsM_3, Bool.and_eq_true, decide_eq_true_eq] at h; simpa using h.1
      | b :: c :: d :: r, _, h3 => simp at h3
    have hle := lsize_le a
    have : lsize a = 2 ∨ lsize a = 3 ∨ lsize a = 4 := by omega
    rcases this with hz | hz | hz
    · have := (head2 hz).2.2; rw [this] at hn; simp at hn; omega
    · have := (head3 hz).2.2; rw [this] at hn; simp at hn; omega
    · have := (head4 hz).2.2; rw [this] at hn; simp at hn; omega
end Go.Pt
