/- Proved: which worlds a list of memory parts stands for, and what leaves that be. Conditions: none but those that stand in each lemma ahead of its colon. -/
import Derived.Test.YtkjikpcmbiebdaaDoorPtA
set_option linter.unusedVariables false
set_option linter.unusedSimpArgs false
namespace Go.Pt

theorem MemSim.blkLt {C : Ctx} {w : World} {g : Gh} {m : List MU} (h : MemSim C w g m) {b : Nat} {cells : List V} (hb : getB b m = some cells) : g.mu b < w.heap.size := by
  obtain ⟨vs, el, h1, _⟩ := h.blk b cells hb
  exact (Array.getElem?_eq_some_iff.1 h1).1

/-- Only the heap counts. -/
theorem MemSim.heap {C : Ctx} {w w' : World} {g : Gh} {m : List MU} (h : MemSim C w g m) (hh : w'.heap = w.heap) (ho : w'.os = w.os) (ht : w'.tape = w.tape)
    (hout : w'.output = w.output) : MemSim C w' g m ∧ Keeps w g m w' g m := by
  have hc : ∀ a, w'.cell? a = w.cell? a := fun a => by unfold World.cell?; rw [hh]
  have hk : Keeps w g m w' g m := ⟨fun b o hd => ⟨hd, hc _⟩, fun b hb => ⟨hb, rfl⟩, fun t sz n hk => ⟨n, hk, Nat.le_refl _, fun _ => rfl⟩⟩
  refine ⟨⟨?_, by rw [hh]; exact h.baseLe, by rw [hh]; exact h.dLt, h.dOld, h.dNew, h.d0Lt, fun gl cells hg => (h.glob gl cells hg).keep hk, ?_, h.inj, ?_⟩, hk⟩
  · exact ⟨ho.trans h.below.os, ht.trans h.below.tape, hout.trans h.below.output, by rw [hh]; exact h.below.size, fun k hk => by rw [hh]; exact h.below.block k hk⟩
  · intro b cells hb
    obtain ⟨vs, el, h1, h2, h3, h4, h5⟩ := h.blk b cells hb
    exact ⟨vs, el, by rw [hh]; exact h1, h2, h3, fun i c hi => (h4 i c hi).keep hk, h5⟩
  · rw [hh]; exact h.tok

/-- What is looked up in the log is all that counts. -/
theorem MemSim.log {C : Ctx} {w : World} {g : Gh} {m m' : List MU} (h : MemSim C w g m) (hb : ∀ b, getB b m' = getB b m) (ht : ∀ t, getK t m' = getK t m) :
    MemSim C w g m' ∧ Keeps w g m w g m' := by
  have hk : Keeps w g m w g m' := ⟨fun b o hd => ⟨hd, rfl⟩, fun b h => ⟨by rw [hb]; exact h, rfl⟩, fun t sz n h => ⟨n, by rw [ht]; exact h, Nat.le_refl _, fun _ => rfl⟩⟩
  refine ⟨⟨h.below, h.baseLe, h.dLt, h.dOld, h.dNew, h.d0Lt, fun gl cells hg => (h.glob gl cells hg).keep hk, ?_, ?_, ?_⟩, hk⟩
  · intro b cells hc
    rw [hb] at hc
    obtain ⟨vs, el, h1, h2, h3, h4, h5⟩ := h.blk b cells hc
    exact ⟨vs, el, h1, h2, h3, fun i c hi => (h4 i c hi).keep hk, h5⟩
  · intro b b' h1 h2
    rw [hb] at h1 h2
    exact h.inj b b' h1 h2
  · intro t sz n h1
    rw [ht] at h1
    obtain ⟨a, cap, e1, e2, e3⟩ := h.tok t sz n h1
    refine ⟨a, cap, e1, e2, e3.imp id ?_⟩
    rintro ⟨b, off, vs, el, k1, k2, k3, k4, k5, k6, k7⟩
    exact ⟨b, off, vs, el, k1, k2, k3, k4, k5, fun b' hb' => k6 b' (by rw [hb] at hb'; exact hb'), fun t' a' n' cap' hne hs => k7 t' a' n' cap' hne (by rw [ht] at hs; exact hs)⟩

def upd {α : Type} (f : Nat → α) (n : Nat) (x : α) : Nat → α := fun k => if k = n then x else f k
@[simp] theorem upd_same {α : Type} (f : Nat → α) (n : Nat) (x : α) : upd f n x n = x := by simp [upd]
theorem upd_ne {α : Type} (f : Nat → α) (n : Nat) (x : α) (k : Nat) (h : k ≠ n) : upd f n x k = f k := by simp [upd, h]

def World.pushed (w : World) (o : Obj) : World := { w with heap := w.heap.push o }

theorem pushed_old (w : World) (o : Obj) (k : Nat) (h : k < w.heap.size) : (World.pushed w o).heap[k]? = w.heap[k]? := by
  show (w.heap.push o)[k]? = _
  rw [Array.getElem?_push, if_neg (by omega)]
theorem pushed_new (w : World) (o : Obj) : (World.pushed w o).heap[w.heap.size]? = some o := by
  show (w.heap.push o)[w.heap.size]? = _
  simp
theorem pushed_size (w : World) (o : Obj) : (World.pushed w o).heap.size = w.heap.size + 1 := by simp [World.pushed]
theorem pushed_cell (w : World) (o : Obj) (b off : Nat) (sp : Option Nat) (h : b < w.heap.size) : (World.pushed w o).cell? ⟨b, off, sp⟩ = w.cell? ⟨b, off, sp⟩ := by
  unfold World.cell?
  rw [pushed_old _ _ _ h]
theorem pushed_bel (w : World) (o : Obj) : Bel w.heap.size w (World.pushed w o) :=
  ⟨rfl, rfl, rfl, by rw [pushed_size]; omega, fun k hk => pushed_old w o k hk⟩

/-- The world grew, D grew into what is new; the log is as it was. -/
theorem MemSim.grow {C : Ctx} {w w' : World} {g : Gh} {m : List MU} {D' : Nat → Nat → Prop} (h : MemSim C w g m) (hb : Bel w.heap.size w w')
    (hD : ∀ b o, g.D b o → D' b o) (hN : ∀ b o, D' b o → g.D b o ∨ (w.heap.size ≤ b ∧ b < w'.heap.size)) :
    MemSim C w' ⟨D', g.mu, g.tau⟩ m ∧ Keeps w g m w' ⟨D', g.mu, g.tau⟩ m := by
  have hc : ∀ b o, b < w.heap.size → w'.cell? ⟨b, o, none⟩ = w.cell? ⟨b, o, none⟩ := fun b o hl => cell_of_block (hb.block b hl)
  have hk : Keeps w g m w' ⟨D', g.mu, g.tau⟩ m :=
    ⟨fun b o hd => ⟨hD b o hd, hc b o (h.dLt b o hd)⟩, fun b hb => ⟨hb, rfl⟩, fun t sz n hk => ⟨n, hk, Nat.le_refl _, fun _ => rfl⟩⟩
  refine ⟨⟨h.below.trans (hb.mono h.baseLe), by have := h.baseLe; have := hb.size; omega, ?_, fun b o hd => hD b o (h.dOld b o hd), ?_, h.d0Lt,
    fun gl cells hg => (h.glob gl cells hg).keep hk, ?_, h.inj, ?_⟩, hk⟩
  · intro b o hd
    rcases hN b o hd with h1 | h1
    · have := h.dLt b o h1; have := hb.size; omega
    · exact h1.2
  · intro b o hd
    rcases hN b o hd with h1 | h1
    · exact h.dNew b o h1
    · exact .inr (by have := h.baseLe; omega)
  · intro b cells hcs
    have hlt := h.blkLt hcs
    obtain ⟨vs, el, h1, h2, h3, h4, h5⟩ := h.blk b cells hcs
    refine ⟨vs, el, by rw [hb.block _ hlt]; exact h1, h2, h3, fun i c hi => (h4 i c hi).keep hk, fun o hd => ?_⟩
    rcases hN _ o hd with h6 | h6
    · exact h5 o h6
    · exact absurd h6.1 (by show ¬ _ ≤ g.mu b; omega)
  · intro t sz n h1
    obtain ⟨a, cap, e1, e2, e3⟩ := h.tok t sz n h1
    refine ⟨a, cap, e1, e2, e3.imp id ?_⟩
    rintro ⟨b, off, vs, el, k1, k2, k3, k4, k5, k6, k7⟩
    have hlt : b < w.heap.size := (Array.getElem?_eq_some_iff.1 k3.choose_spec.1).1
    refine ⟨b, off, vs, el, k1, k2, by simpa only [hb.block _ hlt] using k3, k4, fun k hk1 hd => ?_, k6, k7⟩
    rcases hN _ _ hd with h6 | h6
    · exact k5 k hk1 h6
    · omega

theorem getB_ne {b b' : Nat} (cs : List V) (m : List MU) (h : b' ≠ b) : getB b' (.blk b cs :: m) = getB b' m := by
  have : (b' == b) = false := by simpa using h
  simp [getB, this]
theorem getB_same (b : Nat) (cs : List V) (m : List MU) : getB b (.blk b cs :: m) = some cs := by simp [getB]
theorem getB_tok (b t sz n : Nat) (m : List MU) : getB b (.tok t sz n :: m) = getB b m := rfl
theorem getK_ne {t t' : Nat} (sz n : Nat) (m : List MU) (h : t' ≠ t) : getK t' (.tok t sz n :: m) = getK t' m := by
  have : (t' == t) = false := by simpa using h
  simp [getK, this]
theorem getK_same (t sz n : Nat) (m : List MU) : getK t (.tok t sz n :: m) = some (sz, n) := by simp [getK]
theorem getK_blk (b : Nat) (cs : List V) (t : Nat) (m : List MU) : getK t (.blk b cs :: m) = getK t m := rfl
theorem getT_ne {n n' : Nat} (v : V) (r : List (Nat × V)) (h : n' ≠ n) : getT n' ((n, v) :: r) = getT n' r := by
  have : (n' == n) = false := by simpa using h
  simp [getT, this]
theorem getT_same (n : Nat) (v : V) (r : List (Nat × V)) : getT n ((n, v) :: r) = some v := by simp [getT]

/-- A block of the call's own. -/
theorem MemSim.alloc {C : Ctx} {w : World} {g : Gh} {m : List MU} {b : Nat} {cs : List V} {vs : Array Value} {el : TypeId} (h : MemSim C w g m) (hb : getB b m = none)
    (hs : vs.size = cs.length) (hB : ∀ t, C.B b = some t → el = t) (hv : ∀ i c, cs[i]? = some c → VRel w g m c (vs.getD i undef)) :
    MemSim C (World.pushed w (.cells vs el)) ⟨g.D, upd g.mu b w.heap.size, g.tau⟩ (.blk b cs :: m) ∧
    Keeps w g m (World.pushed w (.cells vs el)) ⟨g.D, upd g.mu b w.heap.size, g.tau⟩ (.blk b cs :: m) := by
  have hne : ∀ b', (getB b' m).isSome = true → b' ≠ b := by
    rintro b' hb' rfl
    rw [hb] at hb'; cases hb'
  have hgb : ∀ b', b' ≠ b → getB b' (.blk b cs :: m) = getB b' m := by
    intro b' hb'
    exact getB_ne _ _ hb'
  have hk : Keeps w g m (World.pushed w (.cells vs el)) ⟨g.D, upd g.mu b w.heap.size, g.tau⟩ (.blk b cs :: m) := by
    refine ⟨fun b' o hd => ⟨hd, pushed_cell _ _ _ _ _ (h.dLt _ _ hd)⟩, fun b' hb' => ?_, fun t sz n hk => ⟨n, hk, Nat.le_refl _, fun _ => rfl⟩⟩
    exact ⟨by rw [hgb _ (hne b' hb')]; exact hb', upd_ne _ _ _ _ (hne b' hb')⟩
  have hbel := pushed_bel w (.cells vs el)
  refine ⟨⟨h.below.trans (hbel.mono h.baseLe), by rw [pushed_size]; have := h.baseLe; omega, fun b' o hd => by rw [pushed_size]; have := h.dLt b' o hd; omega,
    h.dOld, h.dNew, h.d0Lt, fun gl cells hg => (h.glob gl cells hg).keep hk, ?_, ?_, ?_⟩, hk⟩
  · intro b' cells hcs
    by_cases e : b' = b
    · subst e
      simp [getB] at hcs
      subst hcs
      refine ⟨vs, el, by simp [upd]; exact pushed_new w _, by simp [upd]; exact h.baseLe, ⟨hs, hB⟩, fun i c hi => (hv i c hi).keep hk, fun o hd => ?_⟩
      simp [upd] at hd
      have := h.dLt _ _ hd
      omega
    · rw [hgb _ e] at hcs
      have hlt := h.blkLt hcs
      obtain ⟨vs', el', h1, h2, h3, h4, h5⟩ := h.blk b' cells hcs
      simp only [upd_ne _ _ _ _ e]
      exact ⟨vs', el', by rw [pushed_old _ _ _ hlt]; exact h1, h2, h3, fun i c hi => (h4 i c hi).keep hk, h5⟩
  · intro b1 b2 h1 h2 he
    have lt : ∀ b', b' ≠ b → (getB b' (.blk b cs :: m)).isSome = true → g.mu b' < w.heap.size := by
      intro b' hb' hs'
      rw [hgb _ hb'] at hs'
      obtain ⟨c, hc⟩ := Option.isSome_iff_exists.1 hs'
      exact h.blkLt hc
    by_cases e1 : b1 = b <;> by_cases e2 : b2 = b
    · rw [e1, e2]
    · subst e1
      have := lt b2 e2 h2
      simp [upd, e2] at he
      omega
    · subst e2
      have := lt b1 e1 h1
      simp [upd, e1] at he
      omega
    · simp [upd, e1, e2] at he
      rw [hgb _ e1] at h1
      rw [hgb _ e2] at h2
      exact h.inj b1 b2 h1 h2 he
  · intro t sz n h1
    obtain ⟨a, cap, e1, e2, e3⟩ := h.tok t sz n h1
    refine ⟨a, cap, e1, e2, e3.imp id ?_⟩
    rintro ⟨b', off, vs', el', k1, k2, k3, k4, k5, k6, k7⟩
    have hlt : b' < w.heap.size := (Array.getElem?_eq_some_iff.1 k3.choose_spec.1).1
    refine ⟨b', off, vs', el', k1, k2, by simpa only [pushed_old _ _ _ hlt] using k3, k4, k5, fun b2 hb2 => ?_, k7⟩
    by_cases e : b2 = b
    · subst e; simp [upd]; omega
    · rw [hgb _ e] at hb2
      simp [upd, e]; exact k6 b2 hb2

theorem setCell_other (w : World) (a : Addr) (v : Value) (k : Nat) (h : k ≠ a.block) : (w.setCell a v).heap[k]? = w.heap[k]? := by
  simp only [World.setCell, Array.getElem?_modify]
  rw [if_neg (by omega)]

theorem setCell_block (w : World) (b off : Nat) (v : Value) (vs : Array Value) (el : TypeId) (fz : Nat × Nat) (h : w.heap[b]? = some (.cells vs el fz)) :
    (w.setCell ⟨b, off, none⟩ v).heap[b]? = some (.cells (vs.setIfInBounds off v) el fz) := by
  simp [World.setCell, Array.getElem?_modify, h]

theorem setCell_size (w : World) (a : Addr) (v : Value) : (w.setCell a v).heap.size = w.heap.size := by simp [World.setCell]

/-- A store of one cell into a block of the call's own. -/
theorem MemSim.store {C : Ctx} {w : World} {g : Gh} {m : List MU} {b off : Nat} {cs : List V} {c : V} {v : Value} (h : MemSim C w g m) (hb : getB b m = some cs)
    (ho : off < cs.length) (hv : VRel w g m c v) :
    MemSim C (w.setCell ⟨g.mu b, off, none⟩ v) g (.blk b (cs.set off c) :: m) ∧ Keeps w g m (w.setCell ⟨g.mu b, off, none⟩ v) g (.blk b (cs.set off c) :: m) ∧
    (∃ u, w.cell? ⟨g.mu b, off, none⟩ = some u) ∧ w.frozen? ⟨g.mu b, off, none⟩ = false := by
  have hlt := h.blkLt hb
  obtain ⟨vs, el, h1, h2, h3, h4, h5⟩ := h.blk b cs hb
  have hgb : ∀ b', b' ≠ b → getB b' (.blk b (cs.set off c) :: m) = getB b' m := by
    intro b' hb'
    exact getB_ne _ _ hb'
  have hiff : ∀ b', (getB b' (.blk b (cs.set off c) :: m)).isSome = (getB b' m).isSome := by
    intro b'
    by_cases e : b' = b
    · subst e; simp [getB, hb]
    · rw [hgb _ e]
  have hk : Keeps w g m (w.setCell ⟨g.mu b, off, none⟩ v) g (.blk b (cs.set off c) :: m) := by
    refine ⟨fun b' o hd => ⟨hd, ?_⟩, fun b' hb' => ⟨by rw [hiff]; exact hb', rfl⟩, fun t sz n hk => ⟨n, hk, Nat.le_refl _, fun _ => rfl⟩⟩
    have : b' ≠ g.mu b := by rintro rfl; exact h5 o hd
    exact cell_of_block (setCell_other w _ v b' this)
  refine ⟨⟨?_, by rw [setCell_size]; exact h.baseLe, by rw [setCell_size]; exact h.dLt, h.dOld, h.dNew, h.d0Lt, fun gl cells hg => (h.glob gl cells hg).keep hk, ?_, ?_, ?_⟩, hk, ?_, ?_⟩
  · refine ⟨h.below.os, h.below.tape, h.below.output, by rw [setCell_size]; exact h.below.size, fun k hk => ?_⟩
    rw [setCell_other _ _ _ _ (by show k ≠ g.mu b; omega)]
    exact h.below.block k hk
  · intro b' cells hcs
    by_cases e : b' = b
    · subst e
      simp [getB] at hcs
      subst hcs
      refine ⟨vs.setIfInBounds off v, el, setCell_block _ _ _ _ _ _ _ h1, h2, ⟨by simp [h3.1], h3.2⟩, fun i c' hi => ?_, h5⟩
      by_cases ei : i = off
      · subst ei
        rw [List.getElem?_set_self (by simpa using ho)] at hi
        cases hi
        have : (vs.setIfInBounds i v).getD i undef = v := by
          have : i < vs.size := by omega
          simp [Array.getD, this]
        rw [this]
        exact hv.keep hk
      · rw [List.getElem?_set_ne (by omega)] at hi
        have : (vs.setIfInBounds off v).getD i undef = vs.getD i undef := by
          simp [Array.getD_eq_getD_getElem?, Array.getElem?_setIfInBounds_ne (by omega : off ≠ i)]
        rw [this]
        exact (h4 i c' hi).keep hk
    · rw [hgb _ e] at hcs
      obtain ⟨vs', el', k1, k2, k3, k4, k5⟩ := h.blk b' cells hcs
      have hne : g.mu b' ≠ g.mu b := fun he => e (h.inj b' b (by rw [hcs]; rfl) (by rw [hb]; rfl) he)
      exact ⟨vs', el', by rw [setCell_other _ _ _ _ hne]; exact k1, k2, k3, fun i c hi => (k4 i c hi).keep hk, k5⟩
  · intro b1 b2 e1 e2
    rw [hiff] at e1 e2
    exact h.inj b1 b2 e1 e2
  · intro t sz n e1
    obtain ⟨a, cap, e1, e2, e3⟩ := h.tok t sz n e1
    refine ⟨a, cap, e1, e2, e3.imp id ?_⟩
    rintro ⟨b', off', vs', el', k1, k2, k3, k4, k5, k6, k7⟩
    have hne : b' ≠ g.mu b := fun he => k6 b (by rw [hb]; rfl) he.symm
    exact ⟨b', off', vs', el', k1, k2, by rw [setCell_other _ _ _ _ (show b' ≠ (⟨g.mu b, off, none⟩ : Addr).block from hne)]; exact k3, k4, k5, fun b2 hb2 => k6 b2 (by rw [hiff] at hb2; exact hb2), k7⟩
  · have : off < vs.size := by omega
    exact ⟨vs[off], by simp [World.cell?, h1, this]⟩
  · simp [World.frozen?, h1]

end Go.Pt
