/- Proved: how cells stand for values, one by one. Conditions: none but those that stand in each lemma ahead of its colon. -/
import Derived.Test.YtkjikpcmbiebdaaDoorPtE
set_option linter.unusedVariables false
set_option linter.unusedSimpArgs false
namespace Go.Pt

/-- Cells, one by one. -/
structure RepL (w : World) (D : Nat → Nat → Prop) (l : List PV) (vs : List Value) : Prop where
  len : l.length = vs.length
  one : ∀ c ∈ l, c.one = true
  at_ : ∀ (i : Nat) (p : PV) (v : Value), l[i]? = some p → vs[i]? = some v → Rep w D p v

theorem RepL.nil {w D} : RepL w D [] [] := ⟨rfl, by simp, by simp⟩
theorem RepL.one_cell {w D} {p : PV} {v : Value} (h : Rep w D p v) (ho : p.one = true) : RepL w D [p] [v] :=
  ⟨rfl, by simpa using ho, fun i q u hq hu => by
    cases i with
    | zero => simp at hq hu; subst hq; subst hu; exact h
    | succ i => simp at hq⟩
theorem RepL.append {w D} {l r : List PV} {vs us : List Value} (h : RepL w D l vs) (k : RepL w D r us) : RepL w D (l ++ r) (vs ++ us) := by
  refine ⟨by simp [h.len, k.len], fun c hc => (List.mem_append.1 hc).elim (h.one c) (k.one c), fun i p v hp hv => ?_⟩
  rcases Nat.lt_or_ge i l.length with h1 | h1
  · rw [List.getElem?_append_left h1] at hp
    rw [List.getElem?_append_left (by rw [← h.len]; exact h1)] at hv
    exact h.at_ i p v hp hv
  · rw [List.getElem?_append_right h1] at hp
    rw [List.getElem?_append_right (by rw [← h.len]; exact h1), ← h.len] at hv
    exact k.at_ _ p v hp hv
theorem RepL.take {w D} {l : List PV} {vs : List Value} (h : RepL w D l vs) (n : Nat) : RepL w D (l.take n) (vs.take n) := by
  refine ⟨by simp [h.len], fun c hc => h.one c (List.mem_of_mem_take hc), fun i p v hp hv => ?_⟩
  rw [List.getElem?_take] at hp hv
  split at hp
  · rename_i hi
    rw [if_pos hi] at hv
    exact h.at_ i p v hp hv
  · cases hp
theorem RepL.drop {w D} {l : List PV} {vs : List Value} (h : RepL w D l vs) (n : Nat) : RepL w D (l.drop n) (vs.drop n) := by
  refine ⟨by simp [h.len], fun c hc => h.one c (List.mem_of_mem_drop hc), fun i p v hp hv => ?_⟩
  rw [List.getElem?_drop] at hp hv
  exact h.at_ _ p v hp hv
theorem RepL.get {w D} {l : List PV} {vs : List Value} (h : RepL w D l vs) {i : Nat} {p : PV} (hp : l[i]? = some p) : ∃ v, vs[i]? = some v ∧ Rep w D p v ∧ p.one = true := by
  have hi := (List.getElem?_eq_some_iff.1 hp).1
  have hi' : i < vs.length := by rw [← h.len]; exact hi
  refine ⟨vs[i], by simp [hi'], h.at_ i p _ hp (by simp [hi']), h.one p ?_⟩
  exact List.mem_iff_getElem?.2 ⟨i, hp⟩
theorem RepL.agg {w D} {l : List PV} {vs : List Value} (h : RepL w D l vs) : Rep w D (.agg l) (.agg ⟨vs⟩) := .agg l vs h.len h.one h.at_
theorem rep_agg {w D} {l : List PV} {v : Value} (h : Rep w D (.agg l) v) : ∃ vs, v = .agg ⟨vs⟩ ∧ RepL w D l vs := by
  cases h with
  | agg _ vs hl ho ha => exact ⟨vs, rfl, hl, ho, ha⟩
theorem rep_tup {w D} {l : List PV} {v : Value} (h : Rep w D (.tup l) v) : ∃ vs : List Value, v = .tuple ⟨vs⟩ ∧ l.length = vs.length ∧
    ∀ (i : Nat) (p : PV) (u : Value), l[i]? = some p → vs[i]? = some u → Rep w D p u := by
  cases h with
  | tup _ vs hl ha => exact ⟨vs, rfl, hl, ha⟩

/-- A value's cells (a tuple has none). -/
theorem rep_cells {w D} {p : PV} {v : Value} (h : Rep w D p v) (hp : ∀ l, p ≠ .tup l) : RepL w D p.cells v.cells.toList := by
  cases p with
  | agg l =>
    obtain ⟨vs, rfl, hr⟩ := rep_agg h
    exact hr
  | tup l => exact absurd rfl (hp l)
  | _ =>
    rw [(h.oneCell rfl).1]
    exact RepL.one_cell h rfl

theorem zeroOK1_rep {w D} {p : PV} {v : Value} (h : zeroOK1 p v = true) : Rep w D p v ∧ p.one = true := by
  unfold zeroOK1 at h
  split at h <;> simp at h
  · obtain ⟨rfl, rfl⟩ := h; exact ⟨.int _ _, rfl⟩
  · subst h; exact ⟨.bool _, rfl⟩
  · rename_i b
    obtain ⟨⟨l⟩⟩ := b
    simp at h
    subst h
    exact ⟨.str _, rfl⟩
  · exact ⟨.nil _ _ _, rfl⟩
  · exact ⟨.nilp, rfl⟩
  · exact ⟨.nilfn, rfl⟩
  · exact ⟨.nili, rfl⟩

theorem zeroOK_rep {w D} : ∀ {l : List PV} {vs : List Value}, zeroOK l vs = true → RepL w D l vs
  | [], [], _ => .nil
  | p :: r, v :: s, h => by
    simp only [zeroOK, Bool.and_eq_true] at h
    obtain ⟨h1, h2⟩ := zeroOK1_rep (w := w) (D := D) h.1
    exact (RepL.one_cell h1 h2).append (zeroOK_rep h.2)
  | [], _ :: _, h => by simp [zeroOK] at h
  | _ :: _, [], h => by simp [zeroOK] at h

theorem fold_put (off : Nat) (l : List Value) (vs : Array Value) (k : Nat) :
    ((l.zipIdx k).foldl (fun cs (c, j) => cs.setIfInBounds (off + j) c) vs) = putArr vs (off + k) l := by
  induction l generalizing vs k with
  | nil => rfl
  | cons v r ih => simp only [List.zipIdx_cons, List.foldl_cons, putArr]; rw [ih]; rfl

theorem putArr_list (vs : Array Value) (off : Nat) (l : List Value) (h : off + l.length ≤ vs.size) : (putArr vs off l).toList = vs.toList.take off ++ (l ++ vs.toList.drop (off + l.length)) := by
  apply List.ext_getElem?
  intro k
  rw [Array.getElem?_toList, putArr_get]
  rcases Nat.lt_or_ge k off with h1 | h1
  · rw [if_neg (by omega), List.getElem?_append_left (by simp; omega), List.getElem?_take, if_pos h1, Array.getElem?_toList]
  · rw [List.getElem?_append_right (by simp; omega)]
    have hl : (vs.toList.take off).length = off := by simp; omega
    rw [hl]
    rcases Nat.lt_or_ge k (off + l.length) with h2 | h2
    · rw [if_pos (by omega), List.getElem?_append_left (by omega)]
    · rw [if_neg (by omega), List.getElem?_append_right (by omega), List.getElem?_drop, Array.getElem?_toList]
      congr 1
      omega

/-- Parts are laid into cells. -/
theorem fill_rep {w D} {place : Nat → Option (Nat × Nat)} : ∀ {parts : List (Nat × PV)} {ps : List (Nat × Value)} {cells : List PV} {vs : Array Value} {cs : List PV},
    fillC place cells parts = some cs → RepL w D cells vs.toList → parts.length = ps.length →
    (∀ (i : Nat) x y, parts[i]? = some x → ps[i]? = some y → x.1 = y.1 ∧ Rep w D x.2 y.2 ∧ ∀ l, x.2 ≠ .tup l) →
    ∃ us, Instr.fill place vs ps = some us ∧ RepL w D cs us.toList
  | [], ps, cells, vs, cs, h, hr, hl, _ => by
    cases ps with
    | nil => simp only [fillC, Option.some.injEq] at h; subst h; exact ⟨vs, rfl, hr⟩
    | cons _ _ => simp at hl
  | (i, p) :: parts, ps, cells, vs, cs, h, hr, hl, hp => by
    cases ps with
    | nil => simp at hl
    | cons y ps =>
      obtain ⟨j, v⟩ := y
      obtain ⟨e, hv, ht⟩ := hp 0 _ _ rfl rfl
      simp only at e hv ht
      subst e
      unfold fillC at h
      split at h
      · cases h
      · rename_i off size hpl
        have hc := rep_cells hv ht
        cases hb : (p.cells.length == size && Nat.ble (off + size) cells.length) with
        | false => rw [hb] at h; cases h
        | true =>
          rw [hb] at h
          simp only [Bool.and_eq_true, beq_iff_eq, Nat.ble_eq] at hb
          obtain ⟨h1, h2⟩ := hb
          simp only [cond_true, forceL_eq] at h
          have hsz : v.cells.size = size := by have := hc.len; simp at this; omega
          have hvs : cells.length = vs.size := by have := hr.len; simpa using this
          have hput := putArr_list vs off v.cells.toList (by simp; omega)
          have hr' : RepL w D (cells.take off ++ (p.cells ++ cells.drop (off + size))) (putArr vs off v.cells.toList).toList := by
            rw [hput]
            have : v.cells.toList.length = size := by simpa using hsz
            rw [this]
            exact (hr.take off).append (hc.append (hr.drop _))
          obtain ⟨us, hu1, hu2⟩ := fill_rep (ps := ps) h hr' (by simpa using hl) (fun i x y hx hy => hp (i + 1) x y hx hy)
          refine ⟨us, ?_, hu2⟩
          simp only [Instr.fill, hpl]
          rw [if_neg (by simp; omega)]
          rw [← hu1]
          congr 1
          have := fold_put off v.cells.toList vs 0
          rw [Nat.add_zero] at this
          rw [← this, ← Array.foldl_toList, Array.toList_zipIdx]

/-- A part of an aggregate's cells. -/
theorem part_run {E : Env} {w : World} {D} {t : TypeId} {cells : List PV} {vs : List Value} {off : Nat} {p : PV} (h : partP E t cells off = some p) (hr : RepL w D cells vs) :
    ∃ v, (part t ⟨vs⟩ off).run E.P w = .ok v w ∧ Rep w D p v := by
  unfold partP at h
  split at h
  · rename_i ty hty
    have ht := tyOK_is (E.hT t ty hty)
    cases hk : ty.k.agg with
    | true =>
      rw [hk] at h
      simp only [cond_true] at h
      cases hb : Nat.ble (off + ty.size) cells.length with
      | false => rw [hb] at h; cases h
      | true =>
        rw [hb] at h
        simp only [cond_true, forceL_eq, Option.some.injEq] at h
        subst h
        refine ⟨.agg ⟨(vs.drop off).take ty.size⟩, ?_, ((hr.drop off).take ty.size).agg⟩
        have h1 := ht.isAgg w
        rw [hk] at h1
        have e : (Array.mk vs).extract off (off + ty.size) = ⟨(vs.drop off).take ty.size⟩ := by
          apply Array.ext'
          simp
        simp only [part, Sem.run_bind, h1, Result.andThen_ok, if_true, ht.sizeOf w, Sem.run_pure, e]
    | false =>
      rw [hk] at h
      simp only [cond_false] at h
      obtain ⟨v, hv1, hv2, _⟩ := hr.get h
      refine ⟨v, ?_, hv2⟩
      have h1 := ht.isAgg w
      rw [hk] at h1
      have : (Array.mk vs)[off]? = some v := by simpa using hv1
      simp [part, Sem.run_bind, h1, this]
  · cases h

end Go.Pt
