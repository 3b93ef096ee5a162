/- Proved: that a run may go on from a state that says less, and round a loop. Conditions: none but those that stand in each lemma ahead of its colon. -/
import Derived.Test.YtkjikpcmbiebdaaDoorPtS
set_option linter.unusedVariables false
set_option linter.unusedSimpArgs false
namespace Go.Pt

inductive TyTree where
  | leaf
  | node (k : Nat) (v : Ty) (l r : TyTree)

def TyTree.get : TyTree → Nat → Option Ty
  | .leaf, _ => none
  | .node k v l r, n => bif n == k then some v else bif Nat.blt n k then l.get n else r.get n

def TyTree.ok (P : Program) : TyTree → Bool
  | .leaf => true
  | .node k v l r => tyOK P k v && (l.ok P && r.ok P)

theorem TyTree.get_ok {P : Program} : ∀ {t : TyTree}, t.ok P = true → ∀ n ty, t.get n = some ty → tyOK P n ty = true
  | .leaf, _, _, _, h => by cases h
  | .node k v l r, hok, n, ty, h => by
    simp only [TyTree.ok, Bool.and_eq_true] at hok
    unfold TyTree.get at h
    cases h1 : (n == k) with
    | true =>
      rw [h1] at h
      cases h
      have : n = k := by simpa using h1
      subst this
      exact hok.1
    | false =>
      rw [h1] at h
      simp only [cond_false] at h
      cases h2 : Nat.blt n k with
      | true => rw [h2] at h; exact TyTree.get_ok hok.2.1 n ty h
      | false => rw [h2] at h; exact TyTree.get_ok hok.2.2 n ty h

variable {E : Env} {ks : List Item} {s : St} {Q : St → Prop}

/-! ### A state that says less -/

mutual
def okV (m : List MU) : V → Bool
  | .pv _ => true
  | .ptr b _ => (getB b m).isSome
  | .ip _ => true
  | .own t _ _ => (getK t m).isSome
  | .clo _ a c => okVs m a && okVs m c
  | .undef => true
def okVs (m : List MU) : List V → Bool
  | [] => true
  | v :: r => okV m v && okVs m r
end

/-- Each value of a list is one that the other log knows of. -/
def okFr (m : List MU) : List (Nat × V) → Bool
  | [] => true
  | (_, v) :: r => okV m v && okFr m r
def okMem (m : List MU) : List MU → Bool
  | [] => true
  | .blk _ cs :: r => okVs m cs && okMem m r
  | .tok .. :: r => okMem m r
def okK (m : List MU) : List Item → Bool
  | [] => true
  | .ret _ fr _ _ _ _ :: ks => okFr m fr && okK m ks
  | _ :: ks => okK m ks

structure LeMem (m m' : List MU) : Prop where
  b : ∀ b cs, getB b m = some cs → getB b m' = some cs
  k : ∀ t x, getK t m = some x → getK t m' = some x

theorem LeMem.nil (m' : List MU) : LeMem [] m' := ⟨(by intro b cs h; cases h), (by intro t x h; cases h)⟩
theorem LeMem.blk {b : Nat} {cs : List V} {m m' : List MU} (h : getB b m' = some cs) (r : LeMem m m') : LeMem (.blk b cs :: m) m' := by
  refine ⟨fun b' cs' hb => ?_, r.k⟩
  by_cases e : b' = b
  · subst e; rw [getB_same] at hb; cases hb; exact h
  · rw [getB_ne _ _ e] at hb; exact r.b b' cs' hb
theorem LeMem.tok {t sz n : Nat} {m m' : List MU} (h : getK t m' = some (sz, n)) (r : LeMem m m') : LeMem (.tok t sz n :: m) m' := by
  refine ⟨r.b, fun t' x hx => ?_⟩
  by_cases e : t' = t
  · subst e; rw [getK_same] at hx; cases hx; exact h
  · rw [getK_ne _ _ _ e] at hx; exact r.k t' x hx

def LeFr (fr fr' : List (Nat × V)) : Prop := ∀ n v, getT n fr = some v → ∃ u, getT n fr' = some u ∧ (u = v ∨ ∃ p, u.toPV = some p ∧ v = .pv p)

theorem LeFr.nil (fr' : List (Nat × V)) : LeFr [] fr' := by intro n v h; cases h
theorem LeFr.cons {n : Nat} {v : V} {fr fr' : List (Nat × V)} (h : getT n fr' = some v) (r : LeFr fr fr') : LeFr ((n, v) :: fr) fr' := by
  intro n' v' hv
  by_cases e : n' = n
  · subst e; rw [getT_same] at hv; cases hv; exact ⟨v, h, .inl rfl⟩
  · rw [getT_ne _ _ e] at hv; exact r n' v' hv
theorem LeFr.pv {n : Nat} {u : V} {p : PV} {fr fr' : List (Nat × V)} (h : getT n fr' = some u) (hp : u.toPV = some p) (r : LeFr fr fr') : LeFr ((n, .pv p) :: fr) fr' := by
  intro n' v' hv
  by_cases e : n' = n
  · subst e; rw [getT_same] at hv; cases hv; exact ⟨u, h, .inr ⟨p, hp, rfl⟩⟩
  · rw [getT_ne _ _ e] at hv; exact r n' v' hv

theorem okVs_get {m : List MU} : ∀ {l : List V} {i : Nat} {v : V}, okVs m l = true → l[i]? = some v → okV m v = true
  | [], i, v, _, h => by simp at h
  | u :: r, i, v, hok, h => by
    simp only [okVs, Bool.and_eq_true] at hok
    cases i with
    | zero => simp at h; subst h; exact hok.1
    | succ i => exact okVs_get hok.2 (by simpa using h)

theorem VRel.less {w : World} {g : Gh} {m m' : List MU} (h : LeMem m m') {v : V} {val : Value} (r : VRel w g m' v val) (hok : okV m v = true) : VRel w g m v val := by
  induction r with
  | pv p v hr => exact .pv p v hr
  | ptr b off hb => exact .ptr b off (by simpa [okV] using hok)
  | ip cells b off vs hc ho => exact .ip cells b off vs hc ho
  | own t sz l v n hr hk hn ht =>
    simp only [okV] at hok
    obtain ⟨x, hx⟩ := Option.isSome_iff_exists.1 hok
    have := h.k t x hx
    rw [hk] at this
    cases this
    exact .own t sz l v n hr hx hn ht
  | clo f a c va vc h1 h2 h3 h4 ih3 ih4 =>
    simp only [okV, Bool.and_eq_true] at hok
    exact .clo f a c va vc h1 h2 (fun i x v hx hv => ih3 i x v hx hv (okVs_get hok.1 hx)) (fun i x v hx hv => ih4 i x v hx hv (okVs_get hok.2 hx))
  | undef v => exact .undef v

theorem okFr_get {m : List MU} : ∀ {fr : List (Nat × V)} {n : Nat} {v : V}, okFr m fr = true → getT n fr = some v → okV m v = true
  | [], n, v, _, h => by cases h
  | (k, u) :: r, n, v, hok, h => by
    simp only [okFr, Bool.and_eq_true] at hok
    by_cases e : n = k
    · subst e; rw [getT_same] at h; cases h; exact hok.1
    · rw [getT_ne _ _ e] at h; exact okFr_get hok.2 h

theorem okMem_get {m : List MU} : ∀ {l : List MU} {b : Nat} {cs : List V}, okMem m l = true → getB b l = some cs → okVs m cs = true
  | [], b, cs, _, h => by cases h
  | .blk k c :: r, b, cs, hok, h => by
    simp only [okMem, Bool.and_eq_true] at hok
    by_cases e : b = k
    · subst e; rw [getB_same] at h; cases h; exact hok.1
    · rw [getB_ne _ _ e] at h; exact okMem_get hok.2 h
  | .tok .. :: r, b, cs, hok, h => okMem_get (l := r) hok h

theorem MemSim.less {C : Ctx} {w : World} {g : Gh} {m m' : List MU} (h : LeMem m m') (hok : okMem m m = true) (hm : MemSim C w g m') : MemSim C w g m := by
  have hbs : ∀ b, (getB b m).isSome = true → (getB b m').isSome = true := by
    intro b hb
    obtain ⟨cs, hc⟩ := Option.isSome_iff_exists.1 hb
    rw [h.b b cs hc]; rfl
  have hks : ∀ t, (getK t m).isSome = true → (getK t m').isSome = true := by
    intro b hb
    obtain ⟨cs, hc⟩ := Option.isSome_iff_exists.1 hb
    rw [h.k b cs hc]; rfl
  refine ⟨hm.below, hm.baseLe, hm.dLt, hm.dOld, hm.dNew, hm.d0Lt, fun gl cells hg => (hm.glob gl cells hg).less h rfl, fun b cells hb => ?_, fun b b' h1 h2 => hm.inj b b' (hbs b h1) (hbs b' h2), fun t sz n hk => ?_⟩
  · obtain ⟨vs, el, h1, h2, h3, h4, h5⟩ := hm.blk b cells (h.b b cells hb)
    exact ⟨vs, el, h1, h2, h3, fun i c hi => (h4 i c hi).less h (okVs_get (okMem_get hok hb) hi), h5⟩
  · obtain ⟨a, cap, e1, e2, e3⟩ := hm.tok t sz n (h.k t _ hk)
    refine ⟨a, cap, e1, e2, e3.imp id ?_⟩
    rintro ⟨b, off, vs, el, k1, k2, k3, k4, k5, k6, k7⟩
    exact ⟨b, off, vs, el, k1, k2, k3, k4, k5, fun b' hb' => k6 b' (hbs b' hb'), fun t' a' n' cap' hne hs => k7 t' a' n' cap' hne (hks t' hs)⟩

theorem RelK.less {C : Ctx} {w : World} {g : Gh} {m m' : List MU} (h : LeMem m m') : ∀ {ks : List Item} {cks : List CItem}, okK m ks = true → RelK C ks cks w g m' → RelK C ks cks w g m
  | [], cks, _, hr => by cases cks <;> exact hr
  | .code c :: ks, cks, hok, hr => by
    replace hr := relK_code hr
    obtain ⟨cks', rfl, hr⟩ := hr
    exact ⟨rfl, RelK.less h hok hr⟩
  | .ops f l :: ks, cks, hok, hr => by
    replace hr := relK_ops hr
    obtain ⟨cks', rfl, hr⟩ := hr
    exact ⟨rfl, rfl, RelK.less h hok hr⟩
  | .block i :: ks, cks, hok, hr => by
    replace hr := relK_block hr
    obtain ⟨cks', rfl, hr⟩ := hr
    exact ⟨rfl, RelK.less h hok hr⟩
  | .again A :: ks, cks, hok, hr => by
    replace hr := relK_again hr
    obtain ⟨I, cks', rfl, hI, hr⟩ := hr
    exact ⟨hI, RelK.less h hok hr⟩
  | .ret fn fr n dst f l :: ks, cks, hok, hr => by
    replace hr := relK_ret hr
    obtain ⟨a0, cks', rfl, hfo, hr⟩ := hr
    simp only [okK, Bool.and_eq_true] at hok
    exact ⟨rfl, rfl, rfl, rfl, ⟨hfo.1, hfo.2.1, fun i v hv => ⟨(hfo.2.2 i v hv).1, (hfo.2.2 i v hv).2.less h (okFr_get hok.1 hv)⟩⟩, RelK.less h hok.2 hr⟩

structure Le (ks : List Item) (s' s : St) : Prop where
  n : s'.n = s.n
  mem : LeMem s'.mem s.mem
  fr : LeFr s'.fr s.fr
  ok : (okFr s'.mem s'.fr && (okMem s'.mem s'.mem && okK s'.mem ks)) = true

theorem Le.sim {C : Ctx} {ks : List Item} {s s' : St} {cks : List CItem} {a : Act} {w : World} (h : Le ks s' s) (hs : Sim C ks s cks a w) : Sim C ks s' cks a w := by
  obtain ⟨g, h1, h2, h3⟩ := hs
  have hok := h.ok
  simp only [Bool.and_eq_true] at hok
  obtain ⟨o1, o2, o3⟩ := hok
  refine ⟨g, h1.less h.mem o2, ⟨h2.1, by rw [h.n]; exact h2.2.1, fun i v hv => ?_⟩, h3.less h.mem o3⟩
  obtain ⟨u, hu, hc⟩ := h.fr i v hv
  obtain ⟨q1, q2⟩ := h2.2.2 i u hu
  refine ⟨q1, ?_⟩
  rcases hc with rfl | ⟨p, hp, rfl⟩
  · exact q2.less h.mem (okFr_get o1 hv)
  · exact .pv _ _ (toPV_rel hp q2)

theorem Run.weak {s' : St} (hle : Le ks s' s) (h : Run E ks s' Q) : Run E ks s Q := by
  intro base w0 D0 QQ hQ cks a w hs
  exact h base w0 D0 QQ hQ cks a w (hle.sim hs)

/-! ### Loops and cuts -/

theorem exists_min (p : Nat → Prop) (h : ∃ n, p n) : ∃ n, p n ∧ ∀ k, p k → n ≤ k := by
  obtain ⟨n, hn⟩ := h
  induction n using Nat.strongRecOn with
  | _ n ih =>
    by_cases hk : ∃ k, k < n ∧ p k
    · obtain ⟨k, h1, h2⟩ := hk
      exact ih k h1 h2
    · exact ⟨n, hn, fun k hp => Nat.le_of_not_lt fun hlt => hk ⟨k, hlt, hp⟩⟩

open Classical in
theorem Run.loop {α : Type} {body : Code} (S : α → St) (μ : α → Nat) (x0 : α) (h0 : Le ks (S x0) s)
    (round : ∀ x, Run E (.code body :: .again (fun s' => ∃ x', μ x' < μ x ∧ Le ks (S x') s') :: ks) (S x) Q) : Run E (.code (.loop body) :: ks) s Q := by
  intro base w0 D0 QQ hQ cks a w ⟨g, h1, h2, h3⟩
  replace h3 := relK_code h3
  obtain ⟨cks', rfl, h3⟩ := h3
  let I : Act → World → Nat → Prop := fun a w n => ∃ x, μ x = n ∧ Sim { toEnv := E, base := base, w0 := w0, D0 := D0 } ks (S x) cks' a w
  have hex : ∀ a w, (∃ n, I a w n) → ∃ n, I a w n ∧ ∀ k, I a w k → n ≤ k := by
    intro a w h
    exact exists_min _ h
  refine wp_loop (fun a w => ∃ n, I a w n) (fun a w => if h : ∃ n, I a w n then (hex a w h).choose else 0) ⟨μ x0, x0, rfl, h0.sim ⟨g, h1, h2, h3⟩⟩ ?_
  intro a w hI
  obtain ⟨⟨x, hx, hs⟩, hmin⟩ := (hex a w hI).choose_spec
  rw [dif_pos hI]
  obtain ⟨g', q1, q2, q3⟩ := hs
  have := round x base w0 D0 QQ hQ (.code body :: .again (fun a' w' => (∃ n, I a' w' n) ∧ (if h : ∃ n, I a' w' n then (hex a' w' h).choose else 0) < (hex a w hI).choose) :: cks') a w
    ⟨g', q1, q2, rfl, (by
      rintro s' a' w' g'' ⟨x', hlt, hle⟩ f1 f2 f3
      have hI' : ∃ n, I a' w' n := ⟨μ x', x', rfl, hle.sim ⟨g'', f2, f1, f3⟩⟩
      refine ⟨hI', ?_⟩
      rw [dif_pos hI']
      have := (hex a' w' hI').choose_spec.2 (μ x') ⟨x', rfl, hle.sim ⟨g'', f2, f1, f3⟩⟩
      omega), q3⟩
  exact wp_mono this fun e a' w' q => by cases e <;> exact q

/-- A piece of code with one state behind it. -/
theorem Run.cut {c : Code} (A : St → Prop) (h : Run E (.code c :: .again A :: ks) s Q) (k : ∀ s', A s' → Run E ks s' Q) : Run E (.code c :: ks) s Q := by
  intro base w0 D0 QQ hQ cks a w ⟨g, h1, h2, h3⟩
  replace h3 := relK_code h3
  obtain ⟨cks', rfl, h3⟩ := h3
  have := h base w0 D0 QQ hQ (.code c :: .again (after E.P QQ cks' .normal) :: cks') a w ⟨g, h1, h2, rfl, (fun s' a' w' g' hA f1 f2 f3 => k s' hA base w0 D0 QQ hQ cks' a' w' ⟨g', f2, f1, f3⟩), h3⟩
  exact wp_mono this fun e a' w' q => by cases e <;> exact q

end Go.Pt
