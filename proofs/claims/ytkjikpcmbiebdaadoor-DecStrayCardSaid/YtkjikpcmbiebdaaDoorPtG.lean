/- Proved: what a load and a field answer. Conditions: none but those that stand in each lemma ahead of its colon. -/
import Derived.Test.YtkjikpcmbiebdaaDoorPtF
set_option linter.unusedVariables false
set_option linter.unusedSimpArgs false
namespace Go.Pt

theorem run_underlying_ty {E : Env} {w : World} {t : TypeId} {ty : Ty} (h : E.T t = some ty) : ∃ d, (underlying t).run E.P w = .ok d w ∧ kindOK ty.k d = true :=
  let ⟨d, h1, h2, _⟩ := (tyOK_is (E.hT t ty h)).under w; ⟨d, h1, h2⟩

theorem kind_int {k : IntKind} {d : TypeDesc} (h : kindOK (.int k) d = true) : d = .int k := by cases d <;> simp [kindOK] at h; subst h; rfl
theorem kind_str {d : TypeDesc} (h : kindOK .str d = true) : d = .string := by cases d <;> simp [kindOK] at h; rfl
theorem kind_bool {d : TypeDesc} (h : kindOK .bool d = true) : d = .bool := by cases d <;> simp [kindOK] at h; rfl
theorem kind_slice {e : TypeId} {d : TypeDesc} (h : kindOK (.slice e) d = true) : d = .slice e := by cases d <;> simp [kindOK] at h; subst h; rfl
theorem kind_arr {n : Nat} {e : TypeId} {d : TypeDesc} (h : kindOK (.arr n e) d = true) : d = .array n e := by
  cases d <;> simp [kindOK] at h
  obtain ⟨rfl, rfl⟩ := h; rfl
theorem kind_struct {fs : List (Nat × TypeId)} {d : TypeDesc} (h : kindOK (.struct fs) d = true) : ∃ f : Array Field, d = .struct f ∧ f.toList.map (fun f => (f.offset, f.type)) = fs := by
  cases d <;> simp [kindOK] at h
  exact ⟨_, rfl, by simpa using h⟩
theorem field_of {fs : List (Nat × TypeId)} {f : Array Field} (h : f.toList.map (fun f => (f.offset, f.type)) = fs) {i off ft : Nat} (hi : fs[i]? = some (off, ft)) :
    ∃ x, f[i]? = some x ∧ x.offset = off ∧ x.type = ft := by
  rw [← h, List.getElem?_map] at hi
  cases hx : f.toList[i]? with
  | none => rw [hx] at hi; cases hi
  | some x =>
    rw [hx] at hi
    simp only [Option.map_some, Option.some.injEq, Prod.mk.injEq] at hi
    exact ⟨x, by simpa using hx, hi.1, hi.2⟩

theorem sizeT_run {E : Env} {t n : Nat} (h : sizeT E t = some n) (w : World) : (Go.sizeOf t).run E.P w = .ok n w := by
  unfold sizeT at h
  split at h
  · rename_i ty hty
    cases h
    exact (tyOK_is (E.hT t ty hty)).sizeOf w
  · cases h

/-- A load through a pointer to cells that stay. -/
theorem load_ip {E : Env} {w : World} {g : Gh} {m : List MU} {t : TypeId} {cs : List PV} {p : PV} {val : Value} (hp : partP E t cs 0 = some p) (hv : VRel w g m (.ip cs) val) :
    ∃ v, (Instr.loadAt t val).run E.P w = .ok v w ∧ Rep w g.D p v := by
  cases hv with
  | ip _ b off vs hc hone =>
    have hr : RepL w g.D cs ((List.range cs.length).map vs) := by
      refine ⟨by simp, hone, fun i q v hq hv => ?_⟩
      have hi := (List.getElem?_eq_some_iff.1 hq).1
      simp [hi] at hv
      subst hv
      exact (hc i q hq).2.2
    have hcell : ∀ i, i < cs.length → w.cell? ⟨b, off + i, none⟩ = some (vs i) := fun i hi => (hc i cs[i] (by simp [hi])).2.1
    unfold partP at hp
    split at hp
    · rename_i ty hty
      have ht := tyOK_is (E.hT t ty hty)
      have hagg := ht.isAgg w
      simp only [Instr.loadAt, Instr.sureAddr, Sem.run_bind, Sem.run_pure, Result.andThen_ok, loadVar, hagg, Sem.run_ite]
      cases hk : ty.k.agg with
      | true =>
        rw [hk] at hp
        simp only [cond_true] at hp
        cases hb : Nat.ble (0 + ty.size) cs.length with
        | false => rw [hb] at hp; cases hp
        | true =>
          rw [hb] at hp
          simp only [cond_true, forceL_eq, Option.some.injEq, List.drop_zero] at hp
          subst hp
          have hle : ty.size ≤ cs.length := by simpa using hb
          refine ⟨.agg ⟨((List.range cs.length).map vs).take ty.size⟩, ?_, (hr.take ty.size).agg⟩
          have hl := run_loadCells (P := E.P) w ⟨b, off, none⟩ ty.size vs (fun j hj => by rw [add_none]; exact hcell j (by omega))
          simp only [if_true, ht.sizeOf w, Result.andThen_ok, hl]
          congr 2
          apply Array.ext'
          show List.map vs (List.range ty.size) = List.take ty.size (List.map vs (List.range cs.length))
          rw [← List.map_take, List.take_range, Nat.min_eq_left hle]
      | false =>
        rw [hk] at hp
        simp only [cond_false] at hp
        obtain ⟨v, hv1, hv2, _⟩ := hr.get hp
        have hi := (List.getElem?_eq_some_iff.1 hp).1
        simp [hi] at hv1
        subst hv1
        refine ⟨_, ?_, hv2⟩
        have := hcell 0 hi
        rw [Nat.add_zero] at this
        simp [run_load, this]
    · cases hp

theorem lenOf_run {E : Env} {w : World} {g : Gh} {m : List MU} {t : TypeId} {v : V} {n : Int} {val : Value} (h : lenOf E t v = some n) (hv : VRel w g m v val) (ty : TypeId) :
    (Builtin.len_ #[t] ty #[val]).run E.P w = .ok (.int .i64 n) w := by
  unfold lenOf at h
  split at h
  · rename_i y hty
    obtain ⟨d, h1, h2⟩ := run_underlying_ty (w := w) hty
    simp only [Builtin.len_, List.getElem?_toArray, List.getElem?_cons_zero, Sem.run_bind, h1, Result.andThen_ok]
    split at h
    · rename_i hk
      rw [hk] at h2
      cases kind_str h2
      cases rep_str (pv_rel hv)
      simp only [Option.some.injEq] at h
      subst h
      rfl
    · rename_i hk
      rw [hk] at h2
      cases kind_slice h2
      simp only [Option.some.injEq] at h
      subst h
      cases pv_rel hv with
      | nil => rfl
      | sl => rfl
    · rename_i hk
      rw [hk] at h2
      cases kind_slice h2
      simp only [Option.some.injEq] at h
      subst h
      cases hv with
      | own _ _ _ _ n hr _ _ _ =>
        cases hr with
        | nil => rfl
        | sl => rfl
    · rename_i hk
      rw [hk] at h2
      cases kind_arr h2
      simp only [Option.some.injEq] at h
      subst h
      rfl
    · cases h
  · cases h

theorem intOf_run {C : Ctx} {w : World} {g : Gh} {m : List MU} {fr : List (Nat × V)} {a : Act} (hm : MemSim C w g m) (hf : FrameRel w g m fr a) {x : Operand} {n : Int}
    (h : intOf (ev C.toEnv fr x) = some n) : ∃ k, a.eval x = .int k n := by
  cases he : ev C.toEnv fr x with
  | none => rw [he] at h; cases h
  | some v =>
    rw [he] at h
    have hv := ev_rel hm hf he
    cases v with
    | pv p =>
      cases p with
      | int k i => cases h; exact ⟨k, rep_int (pv_rel hv)⟩
      | _ => cases h
    | _ => cases h

theorem sliceBound_run {P : Program} {w : World} {k : IntKind} {i : Int} {y : Nat} {code : BoundsCode} (h0 : 0 ≤ i) (h1 : i ≤ y) :
    (Instr.sliceBound (.int k i) y code).run P w = .ok i.toNat w := by
  simp [Instr.sliceBound, asIntOf, h0, h1]

/-- The bounds of a slice expression without the third one. -/
theorem bounds_run {C : Ctx} {w : World} {g : Gh} {m : List MU} {fr : List (Nat × V)} {a : Act} (hm : MemSim C w g m) (hf : FrameRel w g m fr a) {lo hi : Option Operand} {l h : Int} {n cap : Nat}
    (isS : Bool) (hlo : boundOf C.toEnv fr 0 lo = some l) (hhi : boundOf C.toEnv fr n hi = some h) (hc : Cut l h n) (hcap : n ≤ cap) :
    (Instr.sliceBounds isS n cap (lo.map a.eval) (hi.map a.eval) none).run C.P w = .ok (l.toNat, h.toNat, cap) w := by
  obtain ⟨c1, c2, c3⟩ := hc
  unfold Instr.sliceBounds
  cases hi with
  | none =>
    simp only [boundOf, Option.some.injEq] at hhi
    subst hhi
    cases lo with
    | none => simp only [boundOf, Option.some.injEq] at hlo; subst hlo; simp
    | some x =>
      obtain ⟨k, he⟩ := intOf_run hm hf hlo
      simp only [Option.map_some, Option.map_none, he, Option.isSome_none, Bool.false_eq_true, if_false, Sem.run_bind, Sem.run_pure, Result.andThen_ok]
      rw [sliceBound_run c1 c2]
      simp
  | some y =>
    obtain ⟨k', he'⟩ := intOf_run hm hf hhi
    cases lo with
    | none =>
      simp only [boundOf, Option.some.injEq] at hlo; subst hlo
      simp only [Option.map_some, Option.map_none, he', Sem.run_bind, Sem.run_pure, Result.andThen_ok]
      rw [sliceBound_run c2 (by omega)]
      simp
    | some x =>
      obtain ⟨k, he⟩ := intOf_run hm hf hlo
      simp only [Option.map_some, he, he', Option.isSome_none, Bool.false_eq_true, if_false, Sem.run_bind, Sem.run_pure, Result.andThen_ok]
      rw [sliceBound_run (by omega) (by omega)]
      simp only [Result.andThen_ok]
      rw [sliceBound_run c1 (by omega)]
      simp

theorem take_drop_mem {α : Type} {l : List α} {a b : Nat} {x : α} (h : x ∈ (l.take b).drop a) : x ∈ l := List.mem_of_mem_take (List.mem_of_mem_drop h)

/-- A part of a slice reads as the part of the list. -/
theorem subslice_rep {w : World} {D} {sz : Nat} {xs : List PV} {a : Option Addr} {len cap lo hi : Nat} (h : Rep w D (.sl sz xs) (.slice a len cap)) (h1 : lo ≤ hi) (h2 : hi ≤ xs.length) :
    len = xs.length ∧ xs.length ≤ cap ∨ xs = [] ∧ len = 0 → Rep w D (.sl sz ((xs.take hi).drop lo)) (.slice (if cap = lo then a else a.map (·.add (lo * sz))) (hi - lo) (cap - lo)) := by
  intro hlen
  by_cases he : hi = lo
  · subst he
    have e1 : (xs.take hi).drop hi = [] := by apply List.drop_eq_nil_of_le; simp; omega
    rw [e1, Nat.sub_self]
    exact .nil _ _ _
  · cases h with
    | nil => simp at h2; omega
    | sl _ _ b off _ vs hne hpos hsz hone hcap hc hr =>
      have hlt : lo < xs.length := by omega
      rw [if_neg (by omega)]
      simp only [Option.map_some, add_none]
      have hl : ((xs.take hi).drop lo).length = hi - lo := by simp; omega
      rw [← hl]
      have hflat : ∀ (i : Nat) (c : PV), (((xs.take hi).drop lo).flatMap PV.cells)[i]? = some c → (xs.flatMap PV.cells)[lo * sz + i]? = some c := by
        intro i c hi'
        have e : xs = xs.take lo ++ ((xs.take hi).drop lo ++ xs.drop hi) := by
          rw [← List.append_assoc]
          have : xs.take lo = (xs.take hi).take lo := by rw [List.take_take]; congr 1; omega
          rw [this, List.take_append_drop, List.take_append_drop]
        have hf : ((xs.take lo).flatMap PV.cells).length = lo * sz := by
          rw [flat_length (sz := sz) _ (fun e he => hsz e (List.mem_of_mem_take he))]
          congr 1
          simp; omega
        rw [e, List.flatMap_append, List.getElem?_append_right (by omega), List.flatMap_append, hf, Nat.add_sub_cancel_left,
          List.getElem?_append_left (List.getElem?_eq_some_iff.1 hi').1]
        exact hi'
      refine .sl sz _ b (off + lo * sz) (cap - lo) (fun i => vs (lo * sz + i)) (by intro h0; rw [h0] at hl; simp at hl; omega) hpos (fun e he => hsz e (take_drop_mem he))
        (fun e he => hone e (take_drop_mem he)) (by omega) (fun i c hi' => ?_) (fun i c hi' => hr _ c (hflat i c hi'))
      have := hc _ c (hflat i c hi')
      rw [Nat.add_assoc]
      exact this

theorem rep_sl_shape {w : World} {D} {sz : Nat} {xs : List PV} {v : Value} (h : Rep w D (.sl sz xs) v) : ∃ a cap, v = .slice a xs.length cap ∧ xs.length ≤ cap ∧ (xs ≠ [] → ∃ b off, a = some ⟨b, off, none⟩) := by
  cases h with
  | nil => exact ⟨_, _, rfl, Nat.zero_le _, fun h => absurd rfl h⟩
  | sl _ _ b off _ vs hne hpos hsz hone hcap hc hr => exact ⟨_, _, rfl, hcap, fun _ => ⟨b, off, rfl⟩⟩

/-- A pointer to an element of a slice. -/
theorem elem_ip {w : World} {g : Gh} {m : List MU} {sz : Nat} {xs : List PV} {b off len cap : Nat} (h : Rep w g.D (.sl sz xs) (.slice (some ⟨b, off, none⟩) len cap)) {i : Nat} (hi : i < xs.length) :
    VRel w g m (.ip ((xs.getD i default).cells)) (.pointer (some ⟨b, off + i * sz, none⟩)) := by
  cases h with
  | nil => simp at hi
  | sl _ _ _ _ _ vs hne hpos hsz hone hcap hc hr =>
    have hx : xs.getD i default = xs[i] := by simp [List.getD, hi]
    have hmem : xs[i] ∈ xs := List.getElem_mem hi
    rw [hx]
    have hflat : ∀ (j : Nat) (c : PV), (xs[i]).cells[j]? = some c → (xs.flatMap PV.cells)[i * sz + j]? = some c := by
      intro j c hj
      have e : xs = xs.take i ++ (xs[i] :: xs.drop (i + 1)) := by simp
      have hf : ((xs.take i).flatMap PV.cells).length = i * sz := by
        rw [flat_length (sz := sz) _ (fun e he => hsz e (List.mem_of_mem_take he))]
        congr 1
        simp; omega
      generalize hxi : xs[i] = x at *
      rw [e, List.flatMap_append, List.getElem?_append_right (by omega), hf, Nat.add_sub_cancel_left, List.flatMap_cons, List.getElem?_append_left (List.getElem?_eq_some_iff.1 hj).1]
      exact hj
    refine .ip _ b (off + i * sz) (fun j => vs (i * sz + j)) (fun j c hj => ?_) (hone _ hmem)
    have := hc _ c (hflat j c hj)
    rw [Nat.add_assoc]
    exact ⟨this.1, this.2, hr _ c (hflat j c hj)⟩

end Go.Pt
