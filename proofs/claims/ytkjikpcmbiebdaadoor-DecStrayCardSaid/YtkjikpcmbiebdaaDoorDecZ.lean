/- Proved: how the contract of a law becomes its row and its card. Conditions: none but those that stand in each lemma ahead of its colon. -/
import Derived.Test.YtkjikpcmbiebdaaDoorDecW
import Derived.Test.YtkjikpcmbiebdaaDoorCards
import Derived.Test.YtkjikpcmbiebdaaDoorTie
import Derived.WalkKit
import Derived.ProofKit
import Derived.OpenShut
import Derived.ReadAgain
import Derived.ChangeSame
import Derived.ChangeSlices
import Derived.ChangeStays
import Derived.Lib.LaidIn
import Derived.Lib.LaidU8T
import Derived.PinnedBridge
import Derived.Deep.DeepHandedRow
import Derived.Deep.DeepWitnessRowRef
import Derived.SizedLaws
set_option linter.unusedVariables false
set_option linter.unusedSimpArgs false
/-! From a contract to a card: what all laws of this program share. -/
namespace Go.Pt
open Go.Proofs Go.Shelf Go.Lib Go.ChangeShapes Go.WideShapes Go.ChangeAt Go.RowKit
open Go.Proofs.YtkjikpcmbiebdaaDoor
set_option maxRecDepth 100000

theorem own : ownKnob Tryd.prog.godebug = none := by kernel_rfl

/-! ### A world for the witness -/
noncomputable def laidWorld (os : Os) : World :=
  let w0 := World.holding Tryd.prog os ⟨#[], #[], []⟩
  let put (h : Array Obj) (g : Nat) (cs : Array Value) : Array Obj := h.modify g fun
    | .cells _ t frozen => .cells cs t frozen
    | o => o
  let h1 := put w0.heap 0 (Lib.firstTab.map fun z => Value.int .u8 z).toArray
  let h2 := put h1 1 ((List.range 16).flatMap fun i => [Value.int .u8 (Lib.accLo i), Value.int .u8 (Lib.accHi i)]).toArray
  { w0 with heap := h2 }
/-! ### The two tables -/
def u8Ren : Go.Shelf.Ren := ⟨fun n => n, fun | 119 => 66 | 138 => 68 | 139 => 69 | n => n, fun | 3 => 0 | 4 => 1 | n => n⟩
theorem u8Types : U8Types Tryd.prog u8Ren := ⟨Tryd.underlying5, Tryd.underlying66, Tryd.underlying68, Tryd.underlying69⟩
theorem accept_eq : Rows.laid_unicode_utf8_acceptRanges = acceptData := by kernel_rfl
theorem first_eq : Rows.laid_unicode_utf8_first = firstData := Pinned.utf8First_eq
theorem laid_eq : Rows.decIsRow.laid = [("unicode/utf8.acceptRanges", acceptData), ("unicode/utf8.first", firstData)] := by
  show [("unicode/utf8.acceptRanges", Rows.laid_unicode_utf8_acceptRanges), ("unicode/utf8.first", Rows.laid_unicode_utf8_first)] = _
  rw [accept_eq, first_eq]
theorem laid_met_at (os : Os) (args : Array Value) : laidMet Tryd.prog Rows.decIsRow.laid ((laidWorld os).forCall (fun _ _ => 0) ⟨#[], args, []⟩).memory := by
  rw [laid_eq]
  exact (LaidIn.of_run (l := [("unicode/utf8.acceptRanges", acceptData), ("unicode/utf8.first", firstData)]) [1, 0] 8 (by kernel_rfl) (by kernel_rfl) (by kernel_rfl) (by kernel_rfl)).met
theorem tabs_of {W : World} (hL : laidMetH Tryd.prog Rows.decIsRow.laid W) : Lib.Utf8Tabs 0 1 W := by
  have h3 : VarReads Tryd.prog W "unicode/utf8.first" firstData := by
    rw [← first_eq]; exact Lib.laidMet.reads hL (.tail _ (.head _))
  have h4 : VarReads Tryd.prog W "unicode/utf8.acceptRanges" acceptData := by
    rw [← accept_eq]; exact Lib.laidMet.reads hL (.head _)
  exact utf8Tabs_of_readsT u8Types ⟨by kernel_rfl, by kernel_rfl, by kernel_rfl, by kernel_rfl, by kernel_rfl, by kernel_rfl, by kernel_rfl⟩ h3 h4

def Old (W : World) : Nat → Nat → Prop := fun b _ => b < W.heap.size
theorem firstL_eq : firstL = (List.range 256).map fun c => (firstT c : Int) := by kernel_rfl
theorem accC_eq : accC = (List.range 16).flatMap fun i => [PV.int .u8 (accLo i), PV.int .u8 (accHi i)] := by kernel_rfl

theorem cell_lt {W : World} {b o : Nat} {v : Value} (h : W.cell? ⟨b, o, none⟩ = some v) : b < W.heap.size := World.block_lt_of_cell? W ⟨b, o, none⟩ (by rw [h])

theorem pairs_get (f : Nat → PV × PV) : ∀ (n i : Nat), ((List.range n).flatMap fun i => [(f i).1, (f i).2])[2 * i]? = (if i < n then some (f i).1 else none) ∧ ((List.range n).flatMap fun i => [(f i).1, (f i).2])[2 * i + 1]? = (if i < n then some (f i).2 else none)
  | 0, i => by simp
  | n + 1, i => by
    have ih := pairs_get f n
    have hl : ((List.range n).flatMap fun i => [(f i).1, (f i).2]).length = 2 * n := by
      clear ih
      induction n with
      | zero => rfl
      | succ n ih => rw [List.range_succ, List.flatMap_append, List.length_append, ih]; simp <;> omega
    rw [List.range_succ, List.flatMap_append]
    by_cases h : i < n
    · rw [List.getElem?_append_left (by omega), List.getElem?_append_left (by omega), (ih i).1, (ih i).2]
      simp [h, show i < n + 1 by omega]
    · rw [List.getElem?_append_right (by omega), List.getElem?_append_right (by omega), hl]
      by_cases h2 : i = n
      · subst h2; simp [show 2 * i + 1 - 2 * i = 1 by omega]
      · rw [show 2 * i - 2 * n = (2 * (i - n - 1)) + 2 by omega, show 2 * i + 1 - 2 * n = (2 * (i - n - 1) + 1) + 2 by omega]
        simp [show ¬ i < n + 1 by omega]

theorem start_tabs {W : World} (hT : Lib.Utf8Tabs 0 1 W) : Start E W (Old W) := by
  refine ⟨fun b o h => h, fun gl cells hg mu tau m => ?_⟩
  match gl, hg with
  | 0, hg =>
    cases hg
    refine .ip _ 0 0 (fun i => .int .u8 (firstT i)) (fun i c hi => ?_) (fun c hc => ?_)
    · rw [firstL_eq, List.map_map, List.getElem?_map] at hi
      obtain ⟨j, hj, rfl⟩ := Option.map_eq_some_iff.1 hi
      have hj' : i < 256 ∧ i = j := by
        have h1 := List.getElem?_eq_some_iff.1 hj
        obtain ⟨h2, h3⟩ := h1
        simp at h2 h3
        exact ⟨h2, h3⟩
      obtain ⟨h256, rfl⟩ := hj'
      have hc := hT.1 i h256
      rw [Nat.zero_add]
      exact ⟨cell_lt hc, hc, .int _ _⟩
    · rw [List.mem_map] at hc
      obtain ⟨x, _, rfl⟩ := hc
      rfl
  | 1, hg =>
    cases hg
    refine .ip _ 1 0 (fun i => if i % 2 = 0 then .int .u8 (accLo (i / 2)) else .int .u8 (accHi (i / 2))) (fun i c hi => ?_) (fun c hc => ?_)
    · rw [accC_eq] at hi
      have hp := pairs_get (fun i => (PV.int .u8 (accLo i), PV.int .u8 (accHi i))) 16 (i / 2)
      rw [Nat.zero_add]
      by_cases he : i % 2 = 0
      · have e : 2 * (i / 2) = i := by omega
        rw [e] at hp
        rw [hp.1] at hi
        split at hi
        · rename_i hlt
          cases hi
          have hc := (hT.2 (i / 2) hlt).1
          rw [e] at hc
          exact ⟨cell_lt hc, by rw [if_pos he]; exact hc, by rw [if_pos he]; exact .int _ _⟩
        · cases hi
      · have e : 2 * (i / 2) + 1 = i := by omega
        rw [e] at hp
        rw [hp.2] at hi
        split at hi
        · rename_i hlt
          cases hi
          have hc := (hT.2 (i / 2) hlt).2
          rw [e] at hc
          exact ⟨cell_lt hc, by rw [if_neg he]; exact hc, by rw [if_neg he]; exact .int _ _⟩
        · cases hi
    · rw [accC_eq, List.mem_flatMap] at hc
      obtain ⟨x, _, hx⟩ := hc
      simp at hx
      rcases hx with rfl | rfl <;> rfl

/-! ### The arguments -/
section
variable {H : Type} {enc : TypeId × Value → H} {W : World} {base : Nat}

theorem rep_ints {t e : TypeId} {k : IntKind} {v : Value} {d : DataW H} {p : List MemPlace} (ht : Tryd.prog.underlying t = some (.slice e)) (he : Tryd.prog.underlying e = some (.int k)) (hc : Tryd.prog.cellsOf e = 1)
    (hval : Value.okWide Tryd.prog W .any base t v) (h : DataW.Trod enc Tryd.prog W 0 (fun _ => true) true t v d p) : ∃ zs : List Int, Rep W (Old W) (.sl 1 (zs.map (.int k))) v ∧ ∀ n ∈ zs, (Lit.int k n).wf = true := by
  obtain ⟨a, len, cap, rfl⟩ := okWide_slice ht hval
  obtain ⟨fuel, hf⟩ := h
  rcases Go.ChangeShapes.open_ints ht he hc hf with ⟨h1, _⟩ | ⟨a', len', cap', zs, h1, _, hlc, _, hlen, _, hcell, hwf⟩
  · simp [Value.cells] at h1
    obtain ⟨rfl, rfl, rfl⟩ := h1
    exact ⟨[], .nil _ _ _, by simp⟩
  · simp [Value.cells] at h1
    obtain ⟨rfl, rfl, rfl⟩ := h1
    simp only [if_true] at hlen
    refine ⟨zs.take len, ?_, fun n hn => hwf n (List.mem_of_mem_take hn)⟩
    by_cases h0 : len = 0
    · subst h0
      exact .nil _ _ _
    · have hl : (zs.take len).length = len := by rw [List.length_take]; omega
      have hc0 := hcell 0 (by omega)
      have hsp : a'.spot = none := by
        unfold World.cell? at hc0
        split at hc0
        · split at hc0
          · cases hc0
          · rename_i h; simpa [Addr.add] using h
        · cases hc0
      obtain ⟨b, off, sp⟩ := a'
      simp only at hsp
      subst hsp
      have hfl : (((zs.take len).map (PV.int k)).flatMap PV.cells) = (zs.take len).map (PV.int k) := by
        generalize zs.take len = l
        induction l with
        | nil => rfl
        | cons x r ih => simp only [List.map_cons, List.flatMap_cons, ih]; rfl
      have := Rep.sl (w := W) (D := Old W) 1 ((zs.take len).map (PV.int k)) b off cap (fun i => .int k (zs.getD i 0)) (by intro h; apply h0; rw [← hl]; simpa using h) (by omega)
        (fun e he => by obtain ⟨x, _, rfl⟩ := List.mem_map.1 he; rfl) (fun e he c hc => by obtain ⟨x, _, rfl⟩ := List.mem_map.1 he; simp [PV.cells] at hc; subst hc; rfl) (by rw [List.length_map, hl]; exact hlc)
        (fun i c hi => by
          rw [hfl, List.getElem?_map] at hi
          obtain ⟨x, hx, rfl⟩ := Option.map_eq_some_iff.1 hi
          have hi' := (List.getElem?_eq_some_iff.1 hx).1
          rw [hl] at hi'
          have hcc := hcell i (by omega)
          have ea : (⟨b, off, none⟩ : Addr).add i = ⟨b, off + i, none⟩ := by
            unfold Addr.add
            by_cases hz : i = 0
            · subst hz; simp
            · simp [hz]
          rw [ea] at hcc
          exact ⟨cell_lt hcc, hcc⟩)
        (fun i c hi => by
          rw [hfl, List.getElem?_map] at hi
          obtain ⟨x, hx, rfl⟩ := Option.map_eq_some_iff.1 hi
          have hi' := (List.getElem?_eq_some_iff.1 hx).1
          rw [hl] at hi'
          have e1 : zs.getD i 0 = x := by
            rw [List.getElem?_take, if_pos hi'] at hx
            rw [List.getD_eq_getElem?_getD, hx]; rfl
          rw [e1]
          exact .int _ _)
      rwa [List.length_map, hl] at this

theorem rep_bytes {v : Value} {d : DataW H} {p : List MemPlace} (hval : Value.okWide Tryd.prog W .any base 24 v) (h : DataW.Trod enc Tryd.prog W 0 (fun _ => true) true 24 v d p) :
    ∃ b : List UInt8, Rep W (Old W) (.sl 1 (bytes b)) v := by
  obtain ⟨zs, h1, h2⟩ := rep_ints Tryd.underlying24 Tryd.underlying5 (by kernel_rfl) hval h
  refine ⟨zs.map fun n => UInt8.ofNat n.toNat, ?_⟩
  have e : bytes (zs.map fun n => UInt8.ofNat n.toNat) = zs.map (PV.int .u8) := by
    rw [bytes, List.map_map]
    refine List.map_congr_left fun n hn => ?_
    have hw := h2 n hn
    simp only [Lit.wf, Bool.and_eq_true, decide_eq_true_eq] at hw
    have h3 : 0 ≤ n ∧ n ≤ 255 := hw
    show PV.int .u8 ((UInt8.ofNat n.toNat).toNat : Int) = PV.int .u8 n
    congr 1
    have := u8_toNat (n := n.toNat) (by omega)
    unfold u8 at this
    rw [this]
    omega
  rw [e]
  exact h1

theorem rep_listInt {v : Value} {d : DataW H} {p : List MemPlace} (hval : Value.okWide Tryd.prog W .any base 25 v) (h : DataW.Trod enc Tryd.prog W 0 (fun _ => true) true 25 v d p) :
    ∃ l : List Int, Rep W (Old W) (ints l) v ∧ ∀ n ∈ l, (Lit.int .i64 n).wf = true := rep_ints Tryd.underlying25 Tryd.underlying3 (by kernel_rfl) hval h

theorem rep_i64 {v : Value} {d : DataW H} {p : List MemPlace} (hval : Value.okWide Tryd.prog W .any base 3 v) (h : DataW.Trod enc Tryd.prog W 0 (fun _ => true) true 3 v d p) :
    ∃ n : Int, Rep W (Old W) (.int .i64 n) v ∧ (Lit.int .i64 n).wf = true := by
  obtain ⟨n, rfl, _, _, hw⟩ := open_int Tryd.underlying3 hval h
  exact ⟨n, .int _ _, hw⟩

theorem rep_byte {v : Value} {d : DataW H} {p : List MemPlace} (hval : Value.okWide Tryd.prog W .any base 5 v) (h : DataW.Trod enc Tryd.prog W 0 (fun _ => true) true 5 v d p) :
    ∃ c : UInt8, Rep W (Old W) (.int .u8 c.toNat) v := by
  obtain ⟨n, rfl, _, _, hw⟩ := open_int Tryd.underlying5 hval h
  simp only [Lit.wf, Bool.and_eq_true, decide_eq_true_eq] at hw
  have h3 : 0 ≤ n ∧ n ≤ 255 := hw
  refine ⟨UInt8.ofNat n.toNat, ?_⟩
  have e := u8_toNat (n := n.toNat) (by omega)
  unfold u8 at e
  rw [e, Int.toNat_of_nonneg h3.1]
  exact .int _ _

theorem rep_state {v : Value} {d : DataW H} {p : List MemPlace} (hval : Value.okWide Tryd.prog W .any base 23 v) (h : DataW.Trod enc Tryd.prog W 0 (fun _ => true) true 23 v d p) :
    ∃ s : List UInt8, Rep W (Old W) (.agg [.str s]) v := by
  obtain ⟨cs, rfl, hsz⟩ := okWide_struct Tryd.underlying23 hval
  have hC : Tryd.prog.cellsOf 23 = 1 := by kernel_rfl
  rw [hC] at hsz
  obtain ⟨fuel, hf⟩ := h
  obtain ⟨y0, n, _, _, h0⟩ := trod_struct1 Tryd.underlying23 hf
  have h9 : Tryd.prog.cellsOf 9 = 1 := by kernel_rfl
  simp only [Value.cells, List.drop_zero, h9] at h0
  obtain ⟨s, hs, _, _⟩ := DataW.trod_string Tryd.underlying9 h0
  have e : cs.toList = [.string s] := by
    rw [List.take_of_length_le (by simp; omega)] at hs
    exact hs
  refine ⟨s.data.toList, .agg _ _ ?_ ?_ ?_⟩
  · rw [e]; rfl
  · intro c hc
    simp at hc
    subst hc
    rfl
  · intro i p u hp hu
    rw [e] at hu
    match i, hp, hu with
    | 0, hp, hu =>
      cases hp
      cases hu
      exact .str _
    | i + 1, hp, hu => simp at hp
end

theorem types_size : Tryd.prog.types.size = 88 := by kernel_rfl
/-! ### Behind the call -/
theorem kids : Kids Tryd.prog (· < Tryd.prog.types.size) := kids_rows (by kernel_rfl) (by kernel_rfl)
theorem full : ∀ t e, t < Tryd.prog.types.size → Tryd.prog.underlying t = some (.slice e) → 0 < Tryd.prog.cellsOf e := slices_full_of Tryd.prog (by kernel_rfl)

theorem trodAll_carry {H : Type} {enc : TypeId × Value → H} {P : Program} {w w' : World} {base : Nat} {sp : Nat → Bool} {held : Bool} :
    ∀ {ts : List TypeId} {vs : List Value} {ds : List (DataW H)} {ps : List MemPlace}, DataW.TrodAll enc P w base sp held ts vs ds ps → (∀ p ∈ ps, w.sameAt w' p) → DataW.TrodAll enc P w' base sp held ts vs ds ps
  | [], [], [], _, h, _ => h
  | _ :: _, _ :: _, _ :: _, _, ⟨a, b, ⟨n, h1⟩, h2, e⟩, hs => by
    subst e
    exact ⟨a, b, ⟨n, DataW.trod_carry n _ _ _ h1 fun p hp => hs p (List.mem_append_left _ hp)⟩, trodAll_carry h2 fun p hp => hs p (List.mem_append_right _ hp), rfl⟩

theorem same_below {W W' : World} (h : Bel W.heap.size W W') (p : MemPlace) (hp : p.block < W.heap.size) : W.sameAt W' p := by
  cases p with
  | cell b off => exact cell_of_block (h.block b hp)
  | map b => exact h.block b hp

theorem below_of {W W' : World} (h : Bel W.heap.size W W') : Below W.heap.size W W' := ⟨h.os, h.tape, h.output, h.size, h.block⟩

/-- WHAT A CONTRACT GIVES OF A LAW: true, and each argument reads as it did. -/
theorem law_post {H : Type} {enc : TypeId × Value → H} {W : World} {f : FuncId} {fn : Func} {s : ChangeSpec} {args : Array Value} {ds gs : List (DataW H)} {before : List MemPlace} {ps : List PV}
    (hspec : Spec E f ps (.bool true)) (hT : Lib.Utf8Tabs 0 1 W) (hrep : RepArgs W (Old W) ps args.toList) (hvars : s.vars = []) (hts : ∀ t ∈ fn.params.toList, t < Tryd.prog.types.size) (hres : fn.resultTypes = #[4])
    (hfn : s.fn H ds = { results := [.lit (.bool true)], args := ds })
    (hW : DataW.Whole enc Tryd.prog fn.params.toList s.vars false W args.toList ds gs before) :
    Calls Tryd.prog f args W fun e W' => ∃ v, e = .returned v ∧ s.post enc Tryd.prog fn false true false false W args v W' := by
  have hc := hspec.2 W (Old W) args.toList (start_tabs hT) hrep
  refine Calls.mono hc fun e W' ⟨v, D', he, hr, hg⟩ => ?_
  subst he
  have hv : v = .bool true := by cases hr; rfl
  subst hv
  obtain ⟨p, q, hA, hV, hb, hz, hn⟩ := hW
  rw [hvars] at hV
  obtain ⟨rfl, rfl⟩ := trodVars_none hV
  have hlt : ∀ x ∈ p, x.block < W.heap.size := hA.lt
  have hst : ∀ sp : Nat → Bool, (∀ x ∈ before, sp x.block = true) → DataW.TrodAll enc Tryd.prog W' 0 sp true fn.params.toList args.toList ds p := fun sp hsp =>
    trodAll_carry (hA.respare kids full hts fun x hx => hsp x (by rw [hb]; simpa using hx)) fun x hx => same_below hg.bel x (hlt x hx)
  refine ⟨_, rfl, ds, [], before, [], p, [], ?_, ?_, ?_, ?_, (below_of hg.bel).frame _, fun h => by cases h⟩
  · exact ⟨p, [], hA, by rw [hvars]; exact hV, hb, hz, hn⟩
  · simp only [List.append_nil, hfn, hres]
    exact trodAll_mk1 (shut_bool Tryd.underlying4 _)
  · simp only [List.append_nil, hfn]
    exact hst _ fun x hx => by simpa using hlt x (by rw [hb] at hx; simpa using hx)
  · rw [hvars, List.append_nil, hfn]; rfl
end Go.Pt
