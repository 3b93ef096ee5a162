/- Proved: what dec.Text answers for every list of values. Conditions: none but those that stand in each lemma ahead of its colon. -/
import Derived.Test.YtkjikpcmbiebdaaDoorDecL
import Derived.Test.YtkjikpcmbiebdaaDoorDecM
import Derived.Test.YtkjikpcmbiebdaaDoorDecT1
import Derived.WalkKit
import Derived.BigCall
import Derived.LoopTactic
set_option linter.unusedVariables false
set_option linter.unusedSimpArgs false
/-! dec.Text: the walk, by the kit's contracts of strings.Builder. -/
namespace Go.Pt
open Go.Proofs Go.Shelf Go.RowKit
set_option maxRecDepth 1000000
set_option maxHeartbeats 4000000

theorem good_walk (r : Int) (w : World) : Calls Tryd.prog 12 #[.int .i64 r] w fun e w' => e = .returned (.bool (good r)) ∧ w' = w := by
  go_enter Tryd.func12, Tryd.ntmps12
  go_wp2
  all_goals go_ret
  all_goals refine ⟨?_, rfl⟩
  all_goals refine congrArg (Ending.returned ∘ Value.bool) ?_
  all_goals simp [good]
  all_goals omega

theorem wRune (B b : Nat) (bs : List Value) (r : Int) (h1 : -2147483648 ≤ r) (h2 : r ≤ 2147483647) (w : World) (h : Lib.IsBuilderF 51 5 B b bs w) (h3 : bs.length + 4 ≤ 140737488355328) (h4 : B ≤ w.heap.size) :
    Calls Tryd.prog 29 #[Value.pointer (some { block := b, off := 0 }), Value.int IntKind.i32 r] w fun e w' =>
      e = Ending.returned (Value.tuple #[Value.int IntKind.i64 ↑(Lib.runeCells r).length, Value.nilIface]) ∧ Lib.IsBuilderF 51 5 B b (bs ++ Lib.runeCells r) w' ∧ Below B w w' :=
  (Any.Builder_WriteRune_k lays168 layExtra B b bs r h1 h2 w h h3 h4).mono fun _ _ q => ⟨q.1, .inr q.2.1, q.2.2.1⟩
theorem bStr (B b : Nat) (l : List UInt8) (w : World) (h : Lib.IsBuilderF 51 5 B b (Lib.byteCells l) w) (h4 : B ≤ w.heap.size) :
    Calls Tryd.prog 30 #[Value.pointer (some { block := b, off := 0 })] w fun e w' => e = Ending.returned (Value.string { data := l.toArray }) ∧ Below B w w' :=
  (Any.Builder_String_any_k lays169 layExtra B b l w h h4).mono fun _ _ q => ⟨q.1, q.2.2.1⟩

theorem encode_form {n : Nat} (h : goodN n = true) : Lib.encodeRune (n : Int) = form n := by
  simp only [goodN, Bool.and_eq_true, Bool.or_eq_true, decide_eq_true_eq] at h
  unfold Lib.encodeRune Lib.encodeRuneZ form
  by_cases h1 : n < 128
  · rw [if_pos (by omega), if_pos h1]
    rfl
  rw [if_neg (by omega), if_neg h1]
  by_cases h2 : n < 2048
  · rw [if_pos (by omega), if_pos h2]
    show [u8 (192 + (n : Int) / 64).toNat, u8 (128 + (n : Int) % 64).toNat] = _
    rw [show (192 + (n : Int) / 64).toNat = 192 + n / 64 by omega, show (128 + (n : Int) % 64).toNat = 128 + n % 64 by omega]
  rw [if_neg (by omega), if_neg h2]
  by_cases h3 : n < 65536
  · rw [if_pos (by omega), if_pos h3]
    show [u8 (224 + (n : Int) / 4096).toNat, u8 (128 + (n : Int) / 64 % 64).toNat, u8 (128 + (n : Int) % 64).toNat] = _
    rw [show (224 + (n : Int) / 4096).toNat = 224 + n / 4096 by omega, show (128 + (n : Int) / 64 % 64).toNat = 128 + n / 64 % 64 by omega, show (128 + (n : Int) % 64).toNat = 128 + n % 64 by omega]
  rw [if_neg (by omega), if_neg h3, if_pos (by omega)]
  show [u8 (240 + (n : Int) / 262144).toNat, u8 (128 + (n : Int) / 4096 % 64).toNat, u8 (128 + (n : Int) / 64 % 64).toNat, u8 (128 + (n : Int) % 64).toNat] = _
  rw [show (240 + (n : Int) / 262144).toNat = 240 + n / 262144 by omega, show (128 + (n : Int) / 4096 % 64).toNat = 128 + n / 4096 % 64 by omega, show (128 + (n : Int) / 64 % 64).toNat = 128 + n / 64 % 64 by omega, show (128 + (n : Int) % 64).toNat = 128 + n % 64 by omega]

theorem form_len (n : Nat) : (form n).length ≤ 4 := by unfold form; (repeat' split) <;> simp
theorem textM_len (l : List Int) : (textM l).length ≤ 4 * l.length := by
  induction l with
  | nil => simp [textM]
  | cons r l ih =>
    have e : textM (r :: l) = form (fix r) ++ textM l := rfl
    have := form_len (fix r)
    rw [e, List.length_append, List.length_cons]; omega
theorem good_goodN (r : Int) : good r = true ↔ 0 ≤ r ∧ goodN r.toNat = true := by
  simp only [good, goodN, Bool.and_eq_true, Bool.or_eq_true, decide_eq_true_eq]
  omega
theorem textM_snoc (l : List Int) (i : Nat) (h : i < l.length) : textM (l.take (i + 1)) = textM (l.take i) ++ form (fix l[i]) := by
  rw [List.take_succ_eq_append_getElem h]
  simp only [textM, List.flatMap_append, List.flatMap_cons, List.flatMap_nil, List.append_nil]

theorem text_walk (l : List Int) (hl : l.length ≤ 1073741824) (b off cap : Nat) (w : World) (hb : b < w.heap.size) (hcell : ∀ j (h : j < l.length), w.cell? ⟨b, off + j, none⟩ = some (.int .i64 l[j])) :
    Calls Tryd.prog 23 #[.slice (some ⟨b, off, none⟩) l.length cap] w fun e w' => e = .returned (.string ⟨(textM l).toArray⟩) ∧ Below w.heap.size w w' := by
  go_enter Tryd.func23, Tryd.ntmps23
  go_wp2
  go_loopw [8] (fun v wr => ∃ i : Nat, v = .int .i64 i ∧ i ≤ l.length ∧ Lib.IsBuilderF 51 5 w.heap.size w.heap.size (Lib.byteCells (textM (l.take i))) wr ∧ Below w.heap.size w wr) (fun v _ => l.length - (Lib.intOf v).toNat)
  case atStart =>
    refine ⟨0, rfl, by omega, ?_, ?_⟩
    · exact Lib.IsBuilderF.of (Lib.fresh_isBuilder 51 5 w)
    · exact (Below.refl _ w).alloc (Nat.le_refl _) _
  case round =>
    obtain ⟨i, rfl, hi, hI, hbw⟩ := hrel
    have hsz := hbw.size
    by_cases hp : i < l.length
    · have c0 : wr.cell? ⟨b, off + i, none⟩ = some (.int .i64 l[i]) := by
        rw [← hcell i hp]
        exact cell_of_block (hbw.block b hb)
      have hlen : (Lib.byteCells (textM (l.take i))).length + 4 ≤ 140737488355328 := by
        have := textM_len (l.take i)
        rw [Lib.byteCells_length]
        rw [List.length_take] at this
        omega
      go_wp2_with (first | (go_at_call 12; refine (good_walk _ _).mono ?_; rintro e W1 ⟨rfl, rfl⟩))
      · rename_i hg _ _
        have hf : fix l[i] = 65533 := by
          unfold fix
          rw [if_neg]
          intro h
          rw [(good_goodN _).2 h] at hg
          cases hg
        refine (wRune _ _ _ _ (by omega) (by omega) _ hI hlen hsz).mono ?_
        rintro e W2 ⟨rfl, h1, b1⟩
        go_wp2
        go_roundw
        case rel =>
          refine ⟨i + 1, by simp, hp, ?_, hbw.trans b1⟩
          rw [textM_snoc l i hp, hf, Lib.byteCells_append]
          exact h1
        case measure => simp [Lib.intOf]; omega
      · rename_i hg _ _
        have hg' : good l[i] = true := by simpa using hg
        obtain ⟨g0, g1⟩ := (good_goodN _).1 hg'
        have hf : fix l[i] = l[i].toNat := by
          unfold fix
          rw [if_pos ⟨g0, g1⟩]
        have hr : 0 ≤ l[i] ∧ l[i] ≤ 1114111 := by
          simp only [good, Bool.and_eq_true, decide_eq_true_eq] at hg'
          exact hg'.1
        have hw : RowKit.wrap32 l[i] = l[i] := by unfold RowKit.wrap32; omega
        rw [hw]
        refine (wRune _ _ _ _ (by omega) (by omega) _ hI hlen hsz).mono ?_
        rintro e W2 ⟨rfl, h1, b1⟩
        go_wp2
        go_roundw
        case rel =>
          refine ⟨i + 1, by simp, hp, ?_, hbw.trans b1⟩
          rw [textM_snoc l i hp, hf, Lib.byteCells_append, ← encode_form g1, Lib.byteCells_encodeRune, Int.toNat_of_nonneg g0]
          exact h1
        case measure => simp [Lib.intOf]; omega
    · have hil : i = l.length := by omega
      subst hil
      rw [List.take_length] at hI
      go_wp2_with (go_at_call 30; refine (bStr _ _ _ _ hI hbw.size).mono ?_; rintro e W1 ⟨rfl, b1⟩)
      go_wp2
      go_ret
      exact ⟨rfl, hbw.trans b1⟩

theorem text_empty (a : Option Addr) (cap : Nat) (w : World) : Calls Tryd.prog 23 #[.slice a 0 cap] w fun e w' => e = .returned (.string ⟨#[]⟩) ∧ Below w.heap.size w w' := by
  go_enter Tryd.func23, Tryd.ntmps23
  go_wp2
  go_loopw [8] (fun v wr => v = .int .i64 0 ∧ Lib.IsBuilderF 51 5 w.heap.size w.heap.size (Lib.byteCells []) wr ∧ Below w.heap.size w wr) (fun _ _ => 0)
  case atStart =>
    exact ⟨rfl, Lib.IsBuilderF.of (Lib.fresh_isBuilder 51 5 w), (Below.refl _ w).alloc (Nat.le_refl _) _⟩
  case round =>
    obtain ⟨rfl, hI, hbw⟩ := hrel
    go_wp2_with (go_at_call 30; refine (bStr _ _ _ _ hI hbw.size).mono ?_; rintro e W1 ⟨rfl, b1⟩)
    go_wp2
    go_ret
    exact ⟨rfl, hbw.trans b1⟩

theorem bel_of {B : Nat} {w w' : World} (h : Below B w w') : Bel B w w' := ⟨h.os, h.tape, h.output, h.size, h.block⟩

theorem text_spec (l : List Int) (hl : l.length ≤ 1073741824) : Spec E 23 [.sl 1 (l.map (.int .i64))] (.str (textM l)) := by
  refine ⟨⟨Tryd.f23, Tryd.func23, by decide, rfl⟩, fun w D vals hs ha => ?_⟩
  obtain ⟨v, rfl⟩ : ∃ v, vals = [v] := by
    have := ha.len
    match vals, this with
    | [v], _ => exact ⟨v, rfl⟩
  have hr := ha.at_ 0 _ v rfl rfl
  have fin : ∀ e w', (e = Ending.returned (.string ⟨(textM l).toArray⟩) ∧ Below w.heap.size w w') → ∃ v D', e = .returned v ∧ Rep w' D' (.str (textM l)) v ∧ Grew w D w' D' :=
    fun e w' q => ⟨_, D, q.1, .str _, fun _ _ h => h, fun _ _ h => .inl h, bel_of q.2⟩
  generalize hm : l.map (PV.int .i64) = m at hr
  cases hr with
  | nil =>
    have : l = [] := by simpa using hm
    subst this
    exact (text_empty _ _ w).mono fin
  | sl _ _ b off cap vs hne hpos hsz hone hcap hc hr =>
    have hlen : m.length = l.length := by rw [← hm, List.length_map]
    rw [hlen]
    have hf : m.flatMap PV.cells = m := by
      rw [← hm]
      clear hm hne hsz hone hcap hc hr hlen fin hl ha
      induction l with
      | nil => rfl
      | cons x r ih => simp only [List.map_cons, List.flatMap_cons, ih]; rfl
    rw [hf] at hc hr
    have hl0 : 0 < l.length := by
      rw [← hlen]; exact List.length_pos_iff.2 hne
    have hm0 : ∀ j (h : j < l.length), m[j]? = some (.int .i64 l[j]) := by
      intro j h
      rw [← hm, List.getElem?_map]
      simp [h]
    refine (text_walk l hl b off cap w ?_ fun j h => ?_).mono fin
    · exact hs.dLt _ _ (hc 0 _ (hm0 0 hl0)).1
    · obtain ⟨_, h2⟩ := hc j _ (hm0 j h)
      have h3 := hr j _ (hm0 j h)
      rw [h2]
      generalize vs j = u at h3
      cases h3
      rfl
end Go.Pt
