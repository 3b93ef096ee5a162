/- Proved: which operations go ahead of which in a region whose order is drawn. Conditions: none but those that stand in each lemma ahead of its colon. -/
import Derived.Test.YtkjikpcmbiebdaaDoorPtW
set_option linter.unusedVariables false
set_option linter.unusedSimpArgs false
namespace Go.Pt

theorem lor_testBit (a b i : Nat) : (Nat.lor a b).testBit i = (a.testBit i || b.testBit i) := Nat.testBit_or a b i

theorem shl_testBit (j i : Nat) (h : (Nat.shiftLeft 1 j).testBit i = true) : i = j := by
  have h' : (1 <<< j).testBit i = true := h
  rw [Nat.one_shiftLeft, Nat.testBit_two_pow] at h'
  simpa using (of_decide_eq_true h').symm

theorem upMask_listed {L : Nat → Prop} {acc : List Nat} (hacc : ∀ i x, L i → (acc.getD i 0).testBit x = true → L x) : ∀ {es : List Edge},
    (∀ e ∈ es, Region.binds .any e = true → L e.on) → ∀ x, (upMask acc es).testBit x = true → L x
  | [], _, x, h => by simp [upMask] at h
  | e :: r, he, x, h => by
    unfold upMask at h
    cases hb : Region.binds .any e with
    | true =>
      rw [hb] at h
      simp only [cond_true, lor_testBit, Bool.or_eq_true] at h
      have hL := he e List.mem_cons_self hb
      rcases h with (h | h) | h
      · rw [shl_testBit _ _ h]; exact hL
      · exact hacc _ _ hL h
      · exact upMask_listed hacc (fun e he' => he e (List.mem_cons_of_mem _ he')) x h
    | false =>
      rw [hb] at h
      exact upMask_listed hacc (fun e he' => he e (List.mem_cons_of_mem _ he')) x h

/-- Whoever is listed has its ancestors listed. -/
theorem ancs_listed {L : Nat → Prop} {ops : List Oper} (hL : ∀ i o, ops[i]? = some o → L i → ∀ e ∈ o.after.toList, Region.binds .any e = true → L e.on) :
    ∀ {rest done : List Oper} {acc : List Nat}, ops = done ++ rest → acc.length = done.length →
      (∀ i o, done[i]? = some o → (∀ e ∈ o.after.toList, Region.binds .any e = true → L e.on) → ∀ x, (acc.getD i 0).testBit x = true → L x) →
      ∀ i o, ops[i]? = some o → (∀ e ∈ o.after.toList, Region.binds .any e = true → L e.on) → ∀ x, ((ancs rest acc).getD i 0).testBit x = true → L x
  | [], done, acc, ho, hl, hd => by
    rw [List.append_nil] at ho
    subst ho
    exact hd
  | o :: rest, done, acc, ho, hl, hd => by
    unfold ancs
    refine ancs_listed hL (done := done ++ [o]) (by rw [ho]; simp) (by simp [hl]) ?_
    intro i q hq he x hx
    have hacc : ∀ i x, L i → (acc.getD i 0).testBit x = true → L x := by
      intro j y hj hy
      rcases Nat.lt_or_ge j done.length with hlt | hge
      · have hdj : done[j]? = some done[j] := by simp [hlt]
        exact hd j _ hdj (hL j _ (by rw [ho, List.getElem?_append_left hlt]; exact hdj) hj) y hy
      · rw [List.getD_eq_getElem?_getD, List.getElem?_eq_none (by omega)] at hy
        simp at hy
    rcases Nat.lt_or_ge i done.length with hlt | hge
    · rw [List.getElem?_append_left hlt] at hq
      rw [List.getD_eq_getElem?_getD, List.getElem?_append_left (by omega), ← List.getD_eq_getElem?_getD] at hx
      exact hd i q hq he x hx
    · rw [List.getElem?_append_right hge] at hq
      have hi : i - done.length = 0 := by
        have := (List.getElem?_eq_some_iff.1 hq).1
        simp at this
        omega
      have hi' : i = acc.length := by omega
      rw [hi] at hq
      simp at hq
      subst hq
      rw [hi', List.getD_eq_getElem?_getD, List.getElem?_append_right (Nat.le_refl _)] at hx
      simp at hx
      exact upMask_listed hacc he x hx

def look (fr : List (Nat × V)) (mem : List MU) : K → Option Vl
  | .t n => (getT n fr).map Vl.v
  | .b n => (getB n mem).map Vl.c
  | .k n => (getK n mem).map fun x => Vl.n x.1 x.2

theorem look_t {fr fr' : List (Nat × V)} {mem mem' : List MU} (h : look fr' mem' = look fr mem) (n : Nat) : getT n fr' = getT n fr := by
  have := congrFun h (.t n)
  simp only [look] at this
  cases h1 : getT n fr' <;> cases h2 : getT n fr <;> simp_all
theorem look_b {fr fr' : List (Nat × V)} {mem mem' : List MU} (h : look fr' mem' = look fr mem) (n : Nat) : getB n mem' = getB n mem := by
  have := congrFun h (.b n)
  simp only [look] at this
  cases h1 : getB n mem' <;> cases h2 : getB n mem <;> simp_all
theorem look_k {fr fr' : List (Nat × V)} {mem mem' : List MU} (h : look fr' mem' = look fr mem) (n : Nat) : getK n mem' = getK n mem := by
  have := congrFun h (.k n)
  simp only [look] at this
  cases h1 : getK n mem' <;> cases h2 : getK n mem <;> simp_all
  rename_i a b
  obtain ⟨a1, a2⟩ := a
  obtain ⟨b1, b2⟩ := b
  simp_all

theorem Sim.same {C : Ctx} {ks : List Item} {fr fr' : List (Nat × V)} {mem mem' : List MU} {n : Nat} {cks : List CItem} {a : Act} {w : World} (h : look fr' mem' = look fr mem)
    (hs : Sim C ks ⟨fr, mem, n⟩ cks a w) : Sim C ks ⟨fr', mem', n⟩ cks a w := by
  obtain ⟨g, h1, h2, h3⟩ := hs
  obtain ⟨m1, m2⟩ := h1.log (m' := mem') (look_b h) (look_k h)
  refine ⟨g, m1, ?_, h3.keep m2⟩
  have := h2.keep m2
  exact ⟨this.1, this.2.1, fun i v hv => this.2.2 i v (by rw [← look_t h]; exact hv)⟩

theorem Sim.drawn {C : Ctx} {ks : List Item} {s : St} {cks : List CItem} {a : Act} {w : World} (d : Nat) (hs : Sim C ks s cks a w) : Sim C ks s cks a { w with drawn := d } := by
  obtain ⟨g, h1, h2, h3⟩ := hs
  obtain ⟨m1, m2⟩ := h1.heap (w' := { w with drawn := d }) rfl rfl rfl rfl
  exact ⟨g, m1, h2.keep m2, h3.keep m2⟩

/-- What an operation does, whatever else there is. -/
def Acts (E : Env) (full : Array Oper) (n : Nat) (e : Evt) : Prop :=
  ∃ o, full[e.i]? = some o ∧ ∀ (ks : List Item) (Q A : St → Prop) (fr : List (Nat × V)) (mem : List MU), (∀ x ∈ e.R, look fr mem x = e.rd x) →
    (∀ fr' mem', look fr' mem' = updL (look fr mem) e.W → A ⟨fr', mem', n⟩) → Run E (.ops full [o] :: .again A :: ks) ⟨fr, mem, n⟩ Q

theorem upon_Q {P : Program} {o : Oper} {a : Act} {next : Act → World → Prop} {Q Q' : Exit → Act → World → Prop} {r : Result Next} (hp : ∀ ch a w, Q (.panic ch) a w → Q' (.panic ch) a w)
    (hl : LetsOut Q → LetsOut Q') (h : o.upon P a next Q r) : o.upon P a next Q' r := by
  cases r with
  | ok n w' =>
    cases n <;> simp only [Oper.upon] at h ⊢ <;> first
      | exact h
      | exact Calls.mono h (fun e w'' he => by
          cases e with
          | returned v => exact he
          | panicked ch => exact hp _ _ _ he
          | outgrown => exact hl he)
  | halt x w' => cases x <;> simp only [Oper.upon] at h ⊢ <;> first | exact h | exact hp _ _ _ h

theorem after_again {P : Program} {QQ : Act → World → Prop} {I : Act → World → Prop} {cks : List CItem} {e : Exit} (he : e ≠ .normal) (a : Act) (w : World) :
    after P QQ (.again I :: cks) e a w = after P QQ cks e a w := by
  cases e <;> first | exact absurd rfl he | rfl

theorem wpOp_of_list {P : Program} {QQ : Act → World → Prop} {I : Act → World → Prop} {cks : List CItem} {full : Array Oper} {i : Nat} {o : Oper} {a : Act} {w : World} (hi : full[i]? = some o)
    (h : wpList P full (after P QQ (.again I :: cks)) [o] a w) : wpOp P full (after P QQ cks) i I a w := by
  have hl : LetsOut (after P QQ (.again I :: cks)) → LetsOut (after P QQ cks) := by
    rintro ⟨a, w, h⟩
    exact ⟨a, w, by rw [after_again (by simp)] at h; exact h⟩
  unfold wpOp
  simp only [hi]
  simp only [wpList] at h
  by_cases hw : Region.wanted o (yielded full a.tmps) = true
  · rw [if_pos hw] at h ⊢
    rcases h with h | ⟨h1, h2⟩
    · exact .inl (upon_Q (fun ch a w h => by rw [after_again (by simp)] at h; exact h) hl h)
    · exact .inr ⟨h1, hl h2⟩
  · rw [if_neg hw] at h ⊢
    exact h

theorem edgesOK_all {i : Nat} : ∀ {es : List Edge}, edgesOK i es = true → ∀ e ∈ es, Region.binds .any e = true → e.on < i
  | [], _, e, he, _ => by simp at he
  | x :: r, h, e, he, hb => by
    simp only [edgesOK, Bool.and_eq_true, Bool.or_eq_true, Bool.not_eq_true'] at h
    rcases List.mem_cons.1 he with rfl | he
    · have := h.1.resolve_left (by simp [hb])
      simp only [Nat.blt, Nat.ble_eq] at this
      omega
    · exact edgesOK_all h.2 e he hb

theorem backOK_all : ∀ {l : List Oper} {k : Nat}, backOK k l = true → ∀ i o, l[i]? = some o → ∀ e ∈ o.after.toList, Region.binds .any e = true → e.on < k + i
  | [], k, _, i, o, h => by simp at h
  | x :: r, k, hb, i, o, h => by
    simp only [backOK, Bool.and_eq_true] at hb
    cases i with
    | zero => simp at h; subst h; exact edgesOK_all hb.1
    | succ i =>
      intro e he hbe
      have := backOK_all hb.2 i o (by simpa using h) e he hbe
      omega

section
variable {E : Env} {full : Array Oper} {n : Nat} {ks : List Item} {Q : St → Prop}

/-- The operations that are still to come, in whatever order. -/
theorem draw_any {base : Nat} {w0 : World} {D0 : Nat → Nat → Prop} {QQ : Act → World → Prop} {cks : List CItem} (hback : backOK 0 full.toList = true) (F : K → Option Vl)
    (hF : ∀ fr mem a w, look fr mem = F → Sim { toEnv := E, base := base, w0 := w0, D0 := D0 } ks ⟨fr, mem, n⟩ cks a w → after E.P QQ cks .normal a w)
    (hQ : ∀ s a w, Q s → Sim { toEnv := E, base := base, w0 := w0, D0 := D0 } [] s [] a w → QQ a w) :
    ∀ (todo : List Evt) (fr : List (Nat × V)) (mem : List MU) (listed : Array Bool) (a : Act) (w : World), listed.size = full.size →
      (∀ e ∈ todo, Acts E full n e) → (∀ i, i < full.size → (listed.getD i true = false ↔ ∃ e ∈ todo, e.i = i)) → (todo.map (·.i)).Pairwise (· < ·) →
      todo.Pairwise (fun x e => bitOf ((ancs full.toList []).getD e.i 0) x.i = true ∨ apart x e = true) →
      (∀ i o, full[i]? = some o → listed.getD i false = true → ∀ e ∈ o.after.toList, Region.binds .any e = true → listed.getD e.on false = true) →
      valid todo (look fr mem) → fin todo (look fr mem) = F → Sim { toEnv := E, base := base, w0 := w0, D0 := D0 } ks ⟨fr, mem, n⟩ cks a w →
      wpAny E.P .any full (after E.P QQ cks) todo.length listed a w
  | [], fr, mem, listed, a, w, hsz, hacts, hun, hsort, hpw, hcl, hv, hfin, hs => by
    refine ⟨?_, hF fr mem a w hfin hs⟩
    apply List.eq_nil_iff_forall_not_mem.2
    intro i hi
    obtain ⟨h0, o, ho, _⟩ := mem_ready.1 hi
    have := (hun i (Array.getElem?_eq_some_iff.1 ho).1).1 h0
    simp at this
  | e0 :: todo', fr, mem, listed, a, w, hsz, hacts, hun, hsort, hpw, hcl, hv, hfin, hs => by
    refine ⟨fun hr => ?_, fun i hi => ?_⟩
    · -- something is ready
      exfalso
      obtain ⟨o, ho, _⟩ := hacts e0 List.mem_cons_self
      have hlt := (Array.getElem?_eq_some_iff.1 ho).1
      have : e0.i ∈ Region.ready .any full listed := by
        refine mem_ready.2 ⟨(hun e0.i hlt).2 ⟨e0, List.mem_cons_self, rfl⟩, o, ho, fun e he hb => ?_⟩
        have hon : e.on < e0.i := by
          have := backOK_all hback e0.i o (by rw [Array.getElem?_toList]; exact ho) e (by simpa using he) hb
          omega
        cases hx : listed.getD e.on false with
        | true => rfl
        | false =>
          exfalso
          have hx' : listed.getD e.on true = false := by
            simp only [Array.getD_eq_getD_getElem?] at hx ⊢
            rw [Array.getElem?_eq_getElem (by omega)] at hx ⊢
            simpa using hx
          obtain ⟨x, hx1, hx2⟩ := (hun e.on (by omega)).1 hx'
          rcases List.mem_cons.1 hx1 with rfl | hx1
          · omega
          · have : e0.i < x.i := (List.pairwise_cons.1 hsort).1 x.i (List.mem_map.2 ⟨x, hx1, rfl⟩)
            omega
      rw [hr] at this
      simp at this
    · -- one that is ready goes first
      obtain ⟨h0, o, ho, hed⟩ := mem_ready.1 hi
      have hlt := (Array.getElem?_eq_some_iff.1 ho).1
      obtain ⟨e, he, hei⟩ := (hun i hlt).1 h0
      obtain ⟨pre, post, hsplit⟩ := List.append_of_mem he
      have hL : ∀ x, (((ancs full.toList []).getD i 0).testBit x = true) → listed.getD x false = true := by
        refine ancs_listed (L := fun j => listed.getD j false = true) (ops := full.toList) (fun j q hq => hcl j q (by rw [← Array.getElem?_toList]; exact hq)) (done := []) rfl rfl ?_ i o
          (by rw [Array.getElem?_toList]; exact ho) (fun e he hb => hed e (by simpa using he) hb)
        intro j q hq
        simp at hq
      have hap : ∀ x ∈ pre, apart x e = true := by
        intro x hx
        have hmem : x ∈ e0 :: todo' := by rw [hsplit]; exact List.mem_append_left _ hx
        have hp := hpw
        rw [hsplit] at hp
        have h1 := (List.pairwise_append.1 hp).2.2 x hx e List.mem_cons_self
        rcases h1 with h1 | h1
        · exfalso
          rw [bitOf_iff, hei] at h1
          have h2 := hL x.i h1
          obtain ⟨q, hq, _⟩ := hacts x hmem
          have hxlt := (Array.getElem?_eq_some_iff.1 hq).1
          have h3 := (hun x.i hxlt).2 ⟨x, hmem, rfl⟩
          simp only [Array.getD_eq_getD_getElem?] at h2 h3
          rw [Array.getElem?_eq_getElem (by omega)] at h2 h3
          simp only [Option.getD_some] at h2 h3
          rw [h2] at h3
          cases h3
        · exact h1
      rw [hsplit] at hv hfin hpw hsort hun hacts
      obtain ⟨v1, v2⟩ := bubble hap hv
      rw [← v2] at hfin
      obtain ⟨o', ho', hact⟩ := hacts e (by simp)
      rw [hei, ho] at ho'
      cases ho'
      have hlen : (e0 :: todo').length = (pre ++ post).length + 1 := by rw [hsplit]; simp; omega
      have hlen' : todo'.length = (pre ++ post).length := by simpa using hlen
      have hnd : ∀ x ∈ pre ++ post, x.i ≠ i := by
        intro x hx hxi
        rw [List.map_append, List.map_cons, List.pairwise_append] at hsort
        obtain ⟨s1, s2, s3⟩ := hsort
        rcases List.mem_append.1 hx with hx | hx
        · have := s3 x.i (List.mem_map.2 ⟨x, hx, rfl⟩) e.i List.mem_cons_self
          omega
        · have := (List.pairwise_cons.1 s2).1 x.i (List.mem_map.2 ⟨x, hx, rfl⟩)
          omega
      rw [hlen']
      refine wpOp_of_list ho ?_
      let I : Act → World → Prop := wpAny E.P .any full (after E.P QQ cks) (pre ++ post).length (listed.setIfInBounds i true)
      have hrun := hact ks Q (fun s => s.n = n ∧ look s.fr s.mem = updL (look fr mem) e.W) fr mem v1.1 (fun fr' mem' h => ⟨rfl, h⟩)
      obtain ⟨g, g1, g2, g3⟩ := hs
      refine hrun base w0 D0 QQ hQ (.ops full [o] :: .again I :: cks) a w ⟨g, g1, g2, rfl, rfl, ?_, g3⟩
      rintro ⟨fr', mem', n'⟩ a' w' g' ⟨hn', hlook⟩ f1 f2 f3
      have hn2 : n' = n := hn'
      subst n'
      refine draw_any hback F hF hQ (pre ++ post) fr' mem' (listed.setIfInBounds i true) a' w' (by simpa using hsz) (fun x hx => hacts x (by
        rcases List.mem_append.1 hx with hx | hx
        · exact List.mem_append_left _ hx
        · exact List.mem_append_right _ (List.mem_cons_of_mem _ hx))) ?_ ?_ ?_ ?_ ?_ ?_ ⟨g', f2, f1, f3⟩
      · intro j hj
        by_cases hji : j = i
        · subst hji
          constructor
          · intro hc
            simp [Array.getD_eq_getD_getElem?, hsz, hj] at hc
          · rintro ⟨x, hx, hxi⟩
            exact absurd hxi (hnd x hx)
        · have hget : (listed.setIfInBounds i true).getD j true = listed.getD j true := by
            simp [Array.getD_eq_getD_getElem?, Array.getElem?_setIfInBounds_ne (Ne.symm hji)]
          rw [hget, hun j hj]
          constructor
          · rintro ⟨x, hx, hxi⟩
            refine ⟨x, ?_, hxi⟩
            rcases List.mem_append.1 hx with hx | hx
            · exact List.mem_append_left _ hx
            · rcases List.mem_cons.1 hx with rfl | hx
              · exact absurd (hxi.symm.trans hei) hji
              · exact List.mem_append_right _ hx
          · rintro ⟨x, hx, hxi⟩
            refine ⟨x, ?_, hxi⟩
            rcases List.mem_append.1 hx with hx | hx
            · exact List.mem_append_left _ hx
            · exact List.mem_append_right _ (List.mem_cons_of_mem _ hx)
      · have : ((pre ++ post).map (·.i)).Sublist ((pre ++ e :: post).map (·.i)) := (List.Sublist.append_left (List.sublist_cons_self e post) pre).map _
        exact hsort.sublist this
      · exact hpw.sublist (List.Sublist.append_left (List.sublist_cons_self e post) pre)
      · intro j q hq hj e' he' hb'
        have hj' : j = i ∨ listed.getD j false = true := by
          by_cases hji : j = i
          · exact .inl hji
          · refine .inr ?_
            simpa [Array.getD_eq_getD_getElem?, Array.getElem?_setIfInBounds_ne (Ne.symm hji)] using hj
        have hon : listed.getD e'.on false = true := by
          rcases hj' with rfl | hj'
          · rw [ho] at hq
            cases hq
            exact hed e' (by simpa using he') hb'
          · exact hcl j q hq hj' e' he' hb'
        by_cases hoi : e'.on = i
        · rw [hoi]
          simp [Array.getD_eq_getD_getElem?, hsz, hlt]
        · simpa [Array.getD_eq_getD_getElem?, Array.getElem?_setIfInBounds_ne (Ne.symm hoi)] using hon
      · have := v1.2
        rw [← hlook] at this
        exact this
      · rw [← hfin]
        simp only [fin]
        rw [hlook]
  termination_by todo => todo.length
  decreasing_by
    rw [hsplit]; simp

end

end Go.Pt
