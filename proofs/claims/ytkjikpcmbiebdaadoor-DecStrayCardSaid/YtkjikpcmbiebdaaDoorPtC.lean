/- Proved: how slices, full ones and ones of the own call, are held in such a world. Conditions: none but those that stand in each lemma ahead of its colon. -/
import Derived.Test.YtkjikpcmbiebdaaDoorPtB
set_option linter.unusedVariables false
set_option linter.unusedSimpArgs false
namespace Go.Pt

/-- A slice without spare places, under a token of its own. -/
theorem MemSim.capTok {C : Ctx} {w : World} {g : Gh} {m : List MU} {t sz : Nat} {l : List PV} {a : Option Addr} (h : MemSim C w g m) (ht : getK t m = none)
    (hr : Rep w g.D (.sl sz l) (.slice a l.length l.length)) (hown : ∀ ad, a = some ad → C.base ≤ ad.block) :
    MemSim C w ⟨g.D, g.mu, upd g.tau t (.slice a l.length l.length)⟩ (.tok t sz l.length :: m) ∧ Keeps w g m w ⟨g.D, g.mu, upd g.tau t (.slice a l.length l.length)⟩ (.tok t sz l.length :: m) ∧
    VRel w ⟨g.D, g.mu, upd g.tau t (.slice a l.length l.length)⟩ (.tok t sz l.length :: m) (.own t sz l) (.slice a l.length l.length) := by
  have hne : ∀ t' sz n, getK t' m = some (sz, n) → t' ≠ t := by
    rintro t' sz n h1 rfl; rw [ht] at h1; cases h1
  have hk : Keeps w g m w ⟨g.D, g.mu, upd g.tau t (.slice a l.length l.length)⟩ (.tok t sz l.length :: m) := by
    refine ⟨fun b o hd => ⟨hd, rfl⟩, fun b hb => ⟨hb, rfl⟩, fun t' sz' n hk => ?_⟩
    exact ⟨n, by rw [getK_ne _ _ _ (hne _ _ _ hk)]; exact hk, Nat.le_refl _, fun _ => upd_ne _ _ _ _ (hne _ _ _ hk)⟩
  refine ⟨⟨h.below, h.baseLe, h.dLt, h.dOld, h.dNew, h.d0Lt, fun gl cells hg => (h.glob gl cells hg).keep hk, ?_, h.inj, ?_⟩, hk, ?_⟩
  · intro b cells hb
    obtain ⟨vs, el, h1, h2, h3, h4, h5⟩ := h.blk b cells hb
    exact ⟨vs, el, h1, h2, h3, fun i c hi => (h4 i c hi).keep hk, h5⟩
  · intro t' sz' n h1
    by_cases e : t' = t
    · subst e
      rw [getK_same] at h1
      cases h1
      exact ⟨a, l.length, by simp [upd], Nat.le_refl _, .inl ⟨rfl, hown⟩⟩
    · rw [getK_ne _ _ _ e] at h1
      obtain ⟨a', cap, e1, e2, e3⟩ := h.tok t' sz' n h1
      refine ⟨a', cap, by simp [upd, e]; exact e1, e2, e3.imp id ?_⟩
      rintro ⟨b, off, vs, el, k1, k2, k3, k4, k5, k6, k7⟩
      refine ⟨b, off, vs, el, k1, k2, k3, k4, k5, k6, fun t2 a' n' cap' hne2 hs htau hlt => ?_⟩
      by_cases e2 : t2 = t
      · subst e2
        simp only [upd, if_true] at htau
        cases htau
        omega
      · rw [getK_ne _ _ _ e2] at hs
        simp only [upd, e2, if_false] at htau
        exact k7 t2 a' n' cap' hne2 hs htau hlt
  · exact .own t sz l _ l.length (hr.mono hk.d) (getK_same _ _ _ _) (Nat.le_refl _) (fun _ => by simp [upd])

/-- A nil slice under a token of its own. -/
theorem MemSim.nilTok {C : Ctx} {w : World} {g : Gh} {m : List MU} {t : Nat} (sz : Nat) (h : MemSim C w g m) (ht : getK t m = none) :
    MemSim C w ⟨g.D, g.mu, upd g.tau t (.slice none 0 0)⟩ (.tok t sz 0 :: m) ∧ Keeps w g m w ⟨g.D, g.mu, upd g.tau t (.slice none 0 0)⟩ (.tok t sz 0 :: m) ∧
    VRel w ⟨g.D, g.mu, upd g.tau t (.slice none 0 0)⟩ (.tok t sz 0 :: m) (.own t sz []) (.slice none 0 0) :=
  h.capTok (l := []) ht (.nil _ _ _) (fun _ h => by cases h)

theorem flat_length {sz : Nat} (l : List PV) (hsz : ∀ e ∈ l, e.cells.length = sz) : (l.flatMap PV.cells).length = l.length * sz := by
  induction l with
  | nil => simp
  | cons e r ih =>
    simp only [List.flatMap_cons, List.length_append, List.length_cons, ih fun e he => hsz e (List.mem_cons_of_mem _ he), hsz e List.mem_cons_self]
    rw [Nat.succ_mul]; omega

/-- A new block, of which the first cells stay as they are: a slice that can be lengthened. -/
theorem MemSim.newSlice {C : Ctx} {w : World} {g : Gh} {m : List MU} {t sz cap : Nat} {l : List PV} {vs : Array Value} {el : TypeId} {fz : Nat × Nat} (h : MemSim C w g m)
    (ht : getK t m = none ∨ ∃ n0, getK t m = some (sz, n0) ∧ n0 < l.length) (hpos : 0 < sz) (hsz : ∀ e ∈ l, e.cells.length = sz) (hone : ∀ e ∈ l, ∀ c ∈ e.cells, c.one = true)
    (hcap : l.length ≤ cap) (hvs : vs.size = cap * sz) (hv : ∀ i c, (l.flatMap PV.cells)[i]? = some c → Rep w g.D c (vs.getD i undef)) (hfz : ∀ o, o < vs.size → ¬ (fz.1 ≤ o ∧ o < fz.2)) :
    let w' := World.pushed w (.cells vs el fz)
    let v : Value := .slice (some ⟨w.heap.size, 0, none⟩) l.length cap
    let g' : Gh := ⟨fun b o => g.D b o ∨ (b = w.heap.size ∧ o < l.length * sz), g.mu, upd g.tau t v⟩
    MemSim C w' g' (.tok t sz l.length :: m) ∧ Keeps w g m w' g' (.tok t sz l.length :: m) ∧ VRel w' g' (.tok t sz l.length :: m) (.own t sz l) v := by
  intro w' v g'
  have hbel : Bel w.heap.size w w' := pushed_bel w _
  have hold : ∀ b o, b < w.heap.size → w'.cell? ⟨b, o, none⟩ = w.cell? ⟨b, o, none⟩ := fun b o hl => pushed_cell _ _ _ _ _ hl
  have hnewc : ∀ o u, vs[o]? = some u → w'.cell? ⟨w.heap.size, o, none⟩ = some u := by
    intro o u hu
    show (World.pushed w _).cell? _ = _
    simp [World.cell?, pushed_new, hu]
  have hk : Keeps w g m w' g' (.tok t sz l.length :: m) := by
    refine ⟨fun b o hd => ⟨.inl hd, hold b o (h.dLt b o hd)⟩, fun b hb => ⟨hb, rfl⟩, fun t' sz' n hk => ?_⟩
    by_cases e : t' = t
    · subst e
      rcases ht with ht | ⟨n0, ht, hlt⟩
      · rw [ht] at hk; cases hk
      · rw [ht] at hk; cases hk
        exact ⟨l.length, getK_same _ _ _ _, by omega, fun e => by omega⟩
    · exact ⟨n, by rw [getK_ne _ _ _ e]; exact hk, Nat.le_refl _, fun _ => upd_ne _ _ _ _ e⟩
  have hfl := flat_length l hsz
  have hrep : Rep w' g'.D (.sl sz l) v := by
    by_cases hl : l = []
    · subst hl; exact .nil _ _ _
    · refine .sl sz l w.heap.size 0 cap (fun i => vs.getD i undef) hl hpos hsz hone hcap (fun i c hi => ?_) (fun i c hi => ((hv i c hi).mono hk.d))
      have hi' : i < (l.flatMap PV.cells).length := (List.getElem?_eq_some_iff.1 hi).1
      rw [hfl] at hi'
      have : i < vs.size := by rw [hvs]; exact Nat.lt_of_lt_of_le hi' (Nat.mul_le_mul_right _ hcap)
      refine ⟨.inr ⟨rfl, by omega⟩, ?_⟩
      rw [Nat.zero_add]
      exact hnewc i _ (by simp [Array.getD, this])
  refine ⟨⟨h.below.trans (hbel.mono h.baseLe), by have := h.baseLe; have := hbel.size; omega, ?_, fun b o hd => .inl (h.dOld b o hd), ?_, h.d0Lt,
    fun gl cells hg => (h.glob gl cells hg).keep hk, ?_, h.inj, ?_⟩, hk, ?_⟩
  · rintro b o (hd | ⟨rfl, _⟩)
    · have := h.dLt b o hd; have := hbel.size; omega
    · show _ < (World.pushed w _).heap.size; rw [pushed_size]; omega
  · rintro b o (hd | ⟨rfl, _⟩)
    · exact h.dNew b o hd
    · exact .inr h.baseLe
  · intro b cells hcs
    rw [getB_tok] at hcs
    have hlt := h.blkLt hcs
    obtain ⟨vs', el', h1, h2, h3, h4, h5⟩ := h.blk b cells hcs
    refine ⟨vs', el', by rw [hbel.block _ hlt]; exact h1, h2, h3, fun i c hi => (h4 i c hi).keep hk, ?_⟩
    rintro o (hd | ⟨hd, _⟩)
    · exact h5 o hd
    · have : g.mu b = w.heap.size := hd
      omega
  · intro t' sz' n h1
    by_cases e : t' = t
    · subst e
      rw [getK_same] at h1
      cases h1
      refine ⟨some ⟨w.heap.size, 0, none⟩, cap, by simp [g', upd, v], hcap, .inr ⟨w.heap.size, 0, vs, el, rfl, h.baseLe, ⟨fz, pushed_new w _, hfz⟩, by omega, ?_, ?_, ?_⟩⟩
      · rintro k hk1 (hd | ⟨_, hd⟩)
        · have := h.dLt _ _ hd; omega
        · omega
      · intro b' hb' he
        obtain ⟨c, hc⟩ := Option.isSome_iff_exists.1 hb'
        rw [getB_tok] at hc
        have := h.blkLt hc
        have : g.mu b' = w.heap.size := he
        omega
      · intro t2 a' n' cap' hne hs htau
        rw [getK_ne _ _ _ hne] at hs
        simp only [g', upd, hne, if_false] at htau
        obtain ⟨⟨sz2, n2⟩, hk2⟩ := Option.isSome_iff_exists.1 hs
        obtain ⟨a2, cap2, e1, e2, e3⟩ := h.tok t2 sz2 n2 hk2
        rw [e1] at htau
        cases htau
        intro hlt2
        obtain ⟨b3, off3, vs3, el3, k1, k2, ⟨fz3, k3, k3'⟩, _⟩ := e3.resolve_left (by omega)
        cases k1
        have := (Array.getElem?_eq_some_iff.1 k3).1
        show b3 ≠ _
        omega
    · rw [getK_ne _ _ _ e] at h1
      obtain ⟨a, cap', e1, e2, e3⟩ := h.tok t' sz' n h1
      refine ⟨a, cap', by simp [g', upd, e]; exact e1, e2, e3.imp id ?_⟩
      rintro ⟨b, off, vs', el', k1, k2, ⟨fz', k3, k3'⟩, k4, k5, k6, k7⟩
      have hlt : b < w.heap.size := (Array.getElem?_eq_some_iff.1 k3).1
      refine ⟨b, off, vs', el', k1, k2, ⟨fz', by rw [hbel.block _ hlt]; exact k3, k3'⟩, k4, ?_, k6, ?_⟩
      · rintro k hk1 (hd | ⟨hd, _⟩)
        · exact k5 k hk1 hd
        · omega
      · intro t2 a' n' cap2 hne2 hs htau
        by_cases e2 : t2 = t
        · subst e2
          simp only [g', upd, if_true, v] at htau
          cases htau
          show _ → w.heap.size ≠ b
          omega
        · rw [getK_ne _ _ _ e2] at hs
          simp only [g', upd, e2, if_false] at htau
          exact k7 t2 a' n' cap2 hne2 hs htau
  · exact .own t sz l v l.length hrep (getK_same _ _ _ _) (Nat.le_refl _) (fun _ => by simp [g', upd])

/-- Several cells, one behind the other. -/
def setCells (w : World) (b : Nat) : Nat → List Value → World
  | _, [] => w
  | off, v :: r => setCells (w.setCell ⟨b, off, none⟩ v) b (off + 1) r

def putArr (vs : Array Value) : Nat → List Value → Array Value
  | _, [] => vs
  | off, v :: r => putArr (vs.setIfInBounds off v) (off + 1) r

theorem putArr_size (vs : Array Value) (off : Nat) (l : List Value) : (putArr vs off l).size = vs.size := by
  induction l generalizing vs off with
  | nil => rfl
  | cons v r ih => simp [putArr, ih]

theorem putArr_get (vs : Array Value) (off : Nat) (l : List Value) (k : Nat) :
    (putArr vs off l)[k]? = if off ≤ k ∧ k < off + l.length ∧ k < vs.size then l[k - off]? else vs[k]? := by
  induction l generalizing vs off with
  | nil => simp [putArr]; omega
  | cons v r ih =>
    simp only [putArr, ih, Array.size_setIfInBounds, List.length_cons]
    by_cases h1 : k = off
    · subst h1
      by_cases h2 : k < vs.size
      · rw [if_neg (by omega), if_pos (by omega)]; simp [h2]
      · rw [if_neg (by omega), if_neg (by omega), Array.getElem?_eq_none (by simp; omega), Array.getElem?_eq_none (by omega)]
    · by_cases h2 : off + 1 ≤ k ∧ k < off + 1 + r.length ∧ k < vs.size
      · rw [if_pos h2, if_pos (by omega)]
        obtain ⟨j, rfl⟩ : ∃ j, k = off + 1 + j := ⟨k - (off + 1), by omega⟩
        rw [show off + 1 + j - (off + 1) = j by omega, show off + 1 + j - off = j + 1 by omega]; simp
      · rw [if_neg h2, if_neg (by omega), Array.getElem?_setIfInBounds_ne (by omega)]

theorem setCells_block (w : World) (b off : Nat) (l : List Value) (vs : Array Value) (el : TypeId) (fz : Nat × Nat) (h : w.heap[b]? = some (.cells vs el fz)) :
    (setCells w b off l).heap[b]? = some (.cells (putArr vs off l) el fz) := by
  induction l generalizing w off vs with
  | nil => exact h
  | cons v r ih => exact ih _ _ _ (setCell_block w b off v vs el fz h)

theorem setCells_other (w : World) (b off : Nat) (l : List Value) (k : Nat) (h : k ≠ b) : (setCells w b off l).heap[k]? = w.heap[k]? := by
  induction l generalizing w off with
  | nil => rfl
  | cons v r ih => rw [setCells, ih]; exact setCell_other w ⟨b, off, none⟩ v k h

theorem setCells_size (w : World) (b off : Nat) (l : List Value) : (setCells w b off l).heap.size = w.heap.size := by
  induction l generalizing w off with
  | nil => rfl
  | cons v r ih => rw [setCells, ih, setCell_size]

theorem setCells_same (w : World) (b off : Nat) (l : List Value) : (setCells w b off l).os = w.os ∧ (setCells w b off l).tape = w.tape ∧ (setCells w b off l).output = w.output := by
  induction l generalizing w off with
  | nil => exact ⟨rfl, rfl, rfl⟩
  | cons v r ih => exact ih (w.setCell ⟨b, off, none⟩ v) (off + 1)

theorem flat_append (l r : List PV) : (l ++ r).flatMap PV.cells = l.flatMap PV.cells ++ r.flatMap PV.cells := by simp

/-- A slice is lengthened where it lies. -/
theorem MemSim.lengthen {C : Ctx} {w : World} {g : Gh} {m : List MU} {t sz b off cap : Nat} {l r : List PV} {vals : List Value} (h : MemSim C w g m)
    (ht : getK t m = some (sz, l.length)) (hv : VRel w g m (.own t sz l) (.slice (some ⟨b, off, none⟩) l.length cap)) (htau : g.tau t = .slice (some ⟨b, off, none⟩) l.length cap)
    (hpos : 0 < sz) (hr : r ≠ []) (hsz : ∀ e ∈ r, e.cells.length = sz) (hone : ∀ e ∈ r, ∀ c ∈ e.cells, c.one = true)
    (hcap : l.length + r.length ≤ cap) (hvals : vals.length = r.length * sz) (hrep : ∀ i c, (r.flatMap PV.cells)[i]? = some c → Rep w g.D c (vals.getD i undef)) :
    let w' := setCells w b (off + l.length * sz) vals
    let v : Value := .slice (some ⟨b, off, none⟩) (l.length + r.length) cap
    let g' : Gh := ⟨fun b' o => g.D b' o ∨ (b' = b ∧ off + l.length * sz ≤ o ∧ o < off + (l.length + r.length) * sz), g.mu, upd g.tau t v⟩
    (∃ vs el fz, w.heap[b]? = some (.cells vs el fz) ∧ off + cap * sz ≤ vs.size ∧ ∀ o, o < vs.size → ¬ (fz.1 ≤ o ∧ o < fz.2)) ∧
    MemSim C w' g' (.tok t sz (l.length + r.length) :: m) ∧ Keeps w g m w' g' (.tok t sz (l.length + r.length) :: m) ∧
    VRel w' g' (.tok t sz (l.length + r.length) :: m) (.own t sz (l ++ r)) v := by
  intro w' v g'
  have hrl : 0 < r.length := List.length_pos_iff.2 hr
  obtain ⟨a, cap2, e1, e2, e3⟩ := h.tok t sz l.length ht
  rw [htau] at e1
  cases e1
  obtain ⟨b2, off2, vs, el, q1, q2, ⟨fz, q3, q3'⟩, q4, q5, q6, q7⟩ := e3.resolve_left (by omega)
  cases q1
  have hlt : b < w.heap.size := (Array.getElem?_eq_some_iff.1 q3).1
  have hmul : (l.length + r.length) * sz ≤ cap * sz := Nat.mul_le_mul_right _ hcap
  have hadd : (l.length + r.length) * sz = l.length * sz + r.length * sz := Nat.add_mul _ _ _
  have hblk : w'.heap[b]? = some (.cells (putArr vs (off + l.length * sz) vals) el fz) := setCells_block w b _ vals vs el fz q3
  have hoth : ∀ k, k ≠ b → w'.heap[k]? = w.heap[k]? := fun k hk => setCells_other w b _ vals k hk
  have hold : ∀ b' o, g.D b' o → w'.cell? ⟨b', o, none⟩ = w.cell? ⟨b', o, none⟩ := by
    intro b' o hd
    by_cases e : b' = b
    · subst e
      have ho : o < off + l.length * sz := by
        rcases Nat.lt_or_ge o (off + l.length * sz) with h1 | h1
        · exact h1
        · exact absurd hd (q5 o h1)
      simp only [World.cell?, hblk, q3, Option.isSome_none, Bool.false_eq_true, if_false, putArr_get]
      rw [if_neg (by omega)]
    · exact cell_of_block (hoth b' e)
  have hsame := setCells_same w b (off + l.length * sz) vals
  have hsize : w'.heap.size = w.heap.size := setCells_size w b _ vals
  have hk : Keeps w g m w' g' (.tok t sz (l.length + r.length) :: m) := by
    refine ⟨fun b' o hd => ⟨.inl hd, hold b' o hd⟩, fun b' hb => ⟨hb, rfl⟩, fun t' sz' n hk => ?_⟩
    by_cases e : t' = t
    · subst e
      rw [ht] at hk; cases hk
      exact ⟨_, getK_same _ _ _ _, by omega, fun e => by omega⟩
    · exact ⟨n, by rw [getK_ne _ _ _ e]; exact hk, Nat.le_refl _, fun _ => upd_ne _ _ _ _ e⟩
  have hfl := flat_length r hsz
  have hrepl : Rep w' g'.D (.sl sz (l ++ r)) v := by
    have hlsz : (∀ e ∈ l, e.cells.length = sz) ∧ (∀ e ∈ l, ∀ c ∈ e.cells, c.one = true) ∧
        ∀ (i : Nat) (c : PV), (l.flatMap PV.cells)[i]? = some c → g.D b (off + i) ∧ ∃ u, w.cell? ⟨b, off + i, none⟩ = some u ∧ Rep w g.D c u := by
      by_cases hl : l = []
      · subst hl; simp
      · cases hv with
        | own _ _ _ _ n hr0 hk0 hn0 ht0 =>
          cases hr0 with
          | nil => exact absurd rfl hl
          | sl _ _ _ _ _ vs0 g1 g2 g3 g4 g5 g6 g7 =>
            exact ⟨g3, g4, fun i c hi => ⟨(g6 i c hi).1, vs0 i, (g6 i c hi).2, g7 i c hi⟩⟩
    obtain ⟨s1, s2, s3⟩ := hlsz
    have hfll := flat_length l s1
    have key : ∀ (i : Nat) (c : PV), ((l ++ r).flatMap PV.cells)[i]? = some c → g'.D b (off + i) ∧ ∃ u, w'.cell? ⟨b, off + i, none⟩ = some u ∧ Rep w' g'.D c u := by
      intro i c hi
      rw [flat_append] at hi
      rcases Nat.lt_or_ge i (l.flatMap PV.cells).length with h1 | h1
      · rw [List.getElem?_append_left h1] at hi
        obtain ⟨d1, u, d2, d3⟩ := s3 i c hi
        exact ⟨.inl d1, u, by rw [hold _ _ d1]; exact d2, d3.mono hk.d⟩
      · rw [List.getElem?_append_right h1] at hi
        have hi' := (List.getElem?_eq_some_iff.1 hi).1
        rw [hfl] at hi'
        rw [hfll] at h1 hi hi'
        refine ⟨.inr ⟨rfl, by omega, by omega⟩, vals.getD (i - l.length * sz) undef, ?_, (hrep _ c hi).mono hk.d⟩
        simp only [World.cell?, hblk, Option.isSome_none, Bool.false_eq_true, if_false, putArr_get]
        rw [if_pos (by omega), show off + i - (off + l.length * sz) = i - l.length * sz by omega]
        have hlt' : i - l.length * sz < vals.length := by omega
        simp [hlt', List.getD_eq_getElem?_getD]
    have hne : l ++ r ≠ [] := by simp [hr]
    have := Rep.sl (w := w') (D := g'.D) sz (l ++ r) b off cap (fun i => (w'.cell? ⟨b, off + i, none⟩).getD undef) hne hpos
      (fun e he => (List.mem_append.1 he).elim (s1 e) (hsz e)) (fun e he => (List.mem_append.1 he).elim (s2 e) (hone e)) (by simpa using hcap)
      (fun i c hi => by obtain ⟨d1, u, d2, d3⟩ := key i c hi; exact ⟨d1, by rw [d2]; rfl⟩) (fun i c hi => by obtain ⟨d1, u, d2, d3⟩ := key i c hi; rw [d2]; exact d3)
    simpa [v] using this
  refine ⟨⟨vs, el, fz, q3, q4, q3'⟩, ⟨?_, by rw [hsize]; exact h.baseLe, ?_, fun b o hd => .inl (h.dOld b o hd), ?_, h.d0Lt,
    fun gl cells hg => (h.glob gl cells hg).keep hk, ?_, h.inj, ?_⟩, hk, ?_⟩
  · refine ⟨hsame.1.trans h.below.os, hsame.2.1.trans h.below.tape, hsame.2.2.trans h.below.output, by rw [hsize]; exact h.below.size, fun k hk => ?_⟩
    rw [hoth k (by omega)]
    exact h.below.block k hk
  · rintro b' o (hd | ⟨rfl, _⟩)
    · rw [hsize]; exact h.dLt b' o hd
    · rw [hsize]; exact hlt
  · rintro b' o (hd | ⟨rfl, _⟩)
    · exact h.dNew b' o hd
    · exact .inr q2
  · intro b' cells hcs
    rw [getB_tok] at hcs
    obtain ⟨vs', el', h1, h2, h3, h4, h5⟩ := h.blk b' cells hcs
    have hne : g.mu b' ≠ b := q6 b' (by rw [hcs]; rfl)
    refine ⟨vs', el', by rw [hoth _ hne]; exact h1, h2, h3, fun i c hi => (h4 i c hi).keep hk, ?_⟩
    rintro o (hd | ⟨hd, _⟩)
    · exact h5 o hd
    · exact hne hd
  · intro t' sz' n h1
    by_cases e : t' = t
    · subst e
      rw [getK_same] at h1
      cases h1
      refine ⟨some ⟨b, off, none⟩, cap, by simp [g', upd, v], hcap,
        .inr ⟨b, off, _, el, rfl, q2, ⟨fz, hblk, by rw [putArr_size]; exact q3'⟩, by rw [putArr_size]; exact q4, ?_, q6, ?_⟩⟩
      · rintro k hk1 (hd | ⟨_, _, hd⟩)
        · exact q5 k (by omega) hd
        · omega
      · intro t2 a' n' cap' hne2 hs htau2
        rw [getK_ne _ _ _ hne2] at hs
        simp only [g', upd, hne2, if_false] at htau2
        exact q7 t2 a' n' cap' hne2 hs htau2
    · rw [getK_ne _ _ _ e] at h1
      obtain ⟨a, cap', e1, e2, e3'⟩ := h.tok t' sz' n h1
      refine ⟨a, cap', by simp [g', upd, e]; exact e1, e2, e3'.imp id ?_⟩
      rintro ⟨b3, off3, vs3, el3, k1, k2, ⟨fz3, k3, k3'⟩, k4, k5, k6, k7⟩
      have hne3 : b3 ≠ b := by
        have := k7 t ⟨b, off, none⟩ _ _ (fun h => e h.symm) (by rw [ht]; rfl) htau (by omega)
        exact fun hh => this hh.symm
      refine ⟨b3, off3, vs3, el3, k1, k2, ⟨fz3, by rw [hoth _ hne3]; exact k3, k3'⟩, k4, ?_, k6, ?_⟩
      · rintro k hk1 (hd | ⟨hd, _⟩)
        · exact k5 k hk1 hd
        · exact hne3 hd
      · intro t2 a' n' cap2 hne2 hs htau2
        by_cases e2 : t2 = t
        · subst e2
          simp only [g', upd, if_true, v] at htau2
          cases htau2
          exact fun _ hh => hne3 hh.symm
        · rw [getK_ne _ _ _ e2] at hs
          simp only [g', upd, e2, if_false] at htau2
          exact k7 t2 a' n' cap2 hne2 hs htau2
  · exact .own t sz (l ++ r) v _ hrepl (getK_same _ _ _ _) (by simp) (fun _ => by simp [g', upd])

end Go.Pt
