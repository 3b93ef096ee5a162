/- Proved: what an operation looks at. Conditions: none but those that stand in each lemma ahead of its colon. -/
import Derived.Test.YtkjikpcmbiebdaaDoorPtV
import Derived.Orders
set_option linter.unusedVariables false
set_option linter.unusedSimpArgs false
namespace Go.Pt

/-! ### What an operation looks at -/

theorem partsOf_congr {E : Env} {fr fr' : List (Nat × V)} : ∀ {l : List (Nat × Operand)}, (∀ p ∈ l, ev E fr p.2 = ev E fr' p.2) → partsOf E fr l = partsOf E fr' l
  | [], _ => rfl
  | (i, x) :: r, h => by
    unfold partsOf
    rw [h (i, x) List.mem_cons_self, partsOf_congr (fun p hp => h p (List.mem_cons_of_mem _ hp))]

theorem boundOf_congr {E : Env} {fr fr' : List (Nat × V)} {d : Int} {x : Option Operand} (h : ∀ y, x = some y → ev E fr y = ev E fr' y) : boundOf E fr d x = boundOf E fr' d x := by
  cases x with
  | none => rfl
  | some y => show intOf (ev E fr y) = intOf (ev E fr' y); rw [h y rfl]

theorem evs_congr {E : Env} {fr fr' : List (Nat × V)} : ∀ {l : List Operand}, (∀ x ∈ l, ev E fr x = ev E fr' x) → evs E fr l = evs E fr' l
  | [], _ => rfl
  | x :: r, h => by
    unfold evs
    rw [h x List.mem_cons_self, evs_congr (fun p hp => h p (List.mem_cons_of_mem _ hp))]

theorem pop_congr {E : Env} {fr fr' : List (Nat × V)} {o : Oper} (h : ∀ x ∈ o.op.operands, ev E fr x = ev E fr' x) : pop E fr o = pop E fr' o := by
  obtain ⟨dst, op, type, pos, after, guard⟩ := o
  have parts : ∀ ps : Array (Nat × Operand), (∀ x ∈ ps.map (·.2), ev E fr x = ev E fr' x) → partsOf E fr ps.toList = partsOf E fr' ps.toList := fun ps hp =>
    partsOf_congr fun p hm => hp p.2 (Array.mem_map.2 ⟨p, by simpa using hm, rfl⟩)
  dsimp only at h
  unfold pop
  cases op <;> dsimp only
  case build t ps => rw [parts ps fun x hx => h x (by simpa [Op.operands] using hx)]
  case call c =>
    obtain ⟨callee, args, ats⟩ := c
    cases callee with
    | builtin b =>
      have ha : ∀ x ∈ args.toList, ev E fr x = ev E fr' x := fun x hx => h x (by simp [Op.operands, Call.operands]; simpa using hx)
      cases b <;> try rfl
      all_goals
        dsimp only
        generalize args.toList = l at ha
        rcases l with _ | ⟨x, _ | ⟨y, _ | ⟨z, r⟩⟩⟩ <;> simp only [List.mem_cons, List.not_mem_nil, or_false, forall_eq_or_imp, forall_eq] at ha <;>
          first | rfl | (simp only [ha]; done) | (generalize ats.toList = q; rcases q with _ | ⟨q, _ | ⟨q', qs⟩⟩ <;> first | rfl | (simp only [ha]; done))
    | value f => rfl
    | invoke r m => rfl
  case slice t x lo hi mx =>
    have h1 : ev E fr x = ev E fr' x := h x (by simp [Op.operands])
    have h2 : ∀ d, boundOf E fr d lo = boundOf E fr' d lo := fun d => boundOf_congr fun y hy => h y (by subst hy; simp [Op.operands])
    have h3 : ∀ d, boundOf E fr d hi = boundOf E fr' d hi := fun d => boundOf_congr fun y hy => h y (by subst hy; simp [Op.operands])
    cases mx with
    | none => dsimp only; simp only [h1, h2, h3]
    | some m => rfl
  all_goals (simp [Op.operands] at h; first | rfl | simp only [h])

theorem mAppend_congr {E : Env} {fr fr' : List (Nat × V)} {t1 t2 tk sz : Nat} {l : List PV} {y : Operand} {R : List Key} {P : Prop} (h : ev E fr y = ev E fr' y) :
    mAppend E fr t1 t2 tk sz l y R P = mAppend E fr' t1 t2 tk sz l y R P := by
  unfold mAppend; rw [h]

theorem step_congr_fr {E : Env} {id : Nat} {fr fr' : List (Nat × V)} {m : List MU} {o : Oper} (h : ∀ x ∈ o.op.operands, ev E fr x = ev E fr' x) : step E id fr m o = step E id fr' m o := by
  have hp := pop_congr (E := E) h
  obtain ⟨dst, op, type, pos, after, guard⟩ := o
  have parts : ∀ ps : Array (Nat × Operand), (∀ x ∈ ps.map (·.2), ev E fr x = ev E fr' x) → partsOf E fr ps.toList = partsOf E fr' ps.toList := fun ps hp =>
    partsOf_congr fun p hm => hp p.2 (Array.mem_map.2 ⟨p, by simpa using hm, rfl⟩)
  dsimp only at h
  cases op
  case load t x =>
    unfold step; dsimp only
    rw [h x (by simp [Op.operands])]
  case store t x y =>
    unfold step; dsimp only
    rw [h x (by simp [Op.operands]), h y (by simp [Op.operands])]
  case alloc t => rfl
  case box t x =>
    unfold step; dsimp only
    rw [h x (by simp [Op.operands])]
  case buildSlice t len ps =>
    unfold step; dsimp only
    rw [parts ps fun x hx => h x (by simpa [Op.operands] using hx)]
  case makeSlice t n c =>
    unfold step; dsimp only
    rw [h n (by simp [Op.operands]), h c (by simp [Op.operands])]
  case move x =>
    unfold step
    rw [hp]
    dsimp only
    rcases x with t | v | g | f
    case const =>
      rcases v
      case slice a n c =>
        rcases a with _ | a
        · rcases n with _ | n
          · rcases c with _ | c <;> rfl
          · rfl
        · rfl
      all_goals rfl
    all_goals rfl
  case assign x =>
    unfold step
    rw [hp]
    dsimp only
    rcases x with t | v | g | f
    case const =>
      rcases v
      case slice a n c =>
        rcases a with _ | a
        · rcases n with _ | n
          · rcases c with _ | c <;> rfl
          · rfl
        · rfl
      all_goals rfl
    all_goals rfl
  case convert src dst x =>
    unfold step; dsimp only
    rw [h x (by simp [Op.operands]), hp]
  case slice t x lo hi mx =>
    have h1 : ev E fr x = ev E fr' x := h x (by simp [Op.operands])
    have h2 : ∀ d, boundOf E fr d lo = boundOf E fr' d lo := fun d => boundOf_congr fun y hy => h y (by subst hy; simp [Op.operands])
    have h3 : ∀ d, boundOf E fr d hi = boundOf E fr' d hi := fun d => boundOf_congr fun y hy => h y (by subst hy; simp [Op.operands])
    cases mx with
    | none => unfold step; dsimp only; rw [hp]
    | some k => unfold step; dsimp only; rw [hp]
  case call c =>
    obtain ⟨callee, args, ats⟩ := c
    cases callee with
    | value f => unfold step; dsimp only; rw [hp]
    | invoke r k => unfold step; dsimp only; rw [hp]
    | builtin b =>
      have ha : ∀ x ∈ args.toList, ev E fr x = ev E fr' x := fun x hx => h x (by simp [Op.operands, Call.operands]; simpa using hx)
      cases b
      case append =>
        unfold step; dsimp only
        generalize args.toList = l at ha
        rcases l with _ | ⟨x, _ | ⟨y, _ | ⟨z, r⟩⟩⟩ <;> simp only [List.mem_cons, List.not_mem_nil, or_false, forall_eq_or_imp, forall_eq] at ha <;> try rfl
        generalize ats.toList = q
        rcases q with _ | ⟨q, _ | ⟨q', _ | ⟨q'', qs⟩⟩⟩ <;> try rfl
        dsimp only
        simp only [ha.1, mAppend_congr ha.2]
      all_goals (unfold step; dsimp only; rw [hp])
  all_goals (unfold step; dsimp only; rw [hp])

def sameK (m m' : List MU) : Key → Prop
  | .b n => getB n m = getB n m'
  | .k n => getK n m = getK n m'

theorem mAppend_keys {E : Env} {fr : List (Nat × V)} {t1 t2 tk sz : Nat} {l : List PV} {y : Operand} {R R' : List Key} {P p : Prop} {ms : List MU} {v : V}
    (h : mAppend E fr t1 t2 tk sz l y R P = some (p, R', ms, v)) : R' = R := by
  unfold mAppend at h
  split at h
  · split at h
    · split at h
      · obtain ⟨_, h⟩ := bif_some h
        split at h
        · split at h
          · cases h; rfl
          · cases h
        · obtain ⟨_, h⟩ := bif_some h
          cases h; rfl
        · cases h
      · cases h
    · cases h
  · cases h

theorem step_congr_m {E : Env} {id : Nat} {fr : List (Nat × V)} {m m' : List MU} {o : Oper} {p : Prop} {R : List Key} {ms : List MU} {v : V} (h : step E id fr m o = some (p, R, ms, v))
    (hR : ∀ k ∈ R, sameK m m' k) : step E id fr m' o = some (p, R, ms, v) := by
  have keyB : ∀ n, Key.b n ∈ R → getB n m' = getB n m := fun n hn => (hR _ hn).symm
  have keyK : ∀ n, Key.k n ∈ R → getK n m' = getK n m := fun n hn => (hR _ hn).symm
  clear hR
  unfold step at h ⊢
  split at h
  · -- load
    split at h
    · split at h
      · split at h
        · cases h
          rw [keyB _ (List.mem_singleton.2 rfl)]
          simp only [*]
        · cases h
      · cases h
    · exact h
    · cases h
  · -- store
    split at h
    · split at h
      · obtain ⟨_, h⟩ := bif_some h
        rw [forceL_eq] at h
        cases h
        simp only [*, keyB _ (List.mem_singleton.2 rfl)]
        first | rfl | (rw [cond_true, forceL_eq])
      · cases h
    · cases h
  · -- alloc
    split at h
    · split at h
      · rw [forceL_eq] at h
        cases h
        simp only [*, keyB _ (List.mem_singleton.2 rfl)]
        rw [forceL_eq]
      · cases h
    · cases h
  · -- box
    split at h
    · split at h
      · cases h
        simp only [*, keyB _ (List.mem_singleton.2 rfl)]
      · cases h
    · cases h
  · -- buildSlice
    split at h
    · split at h
      · split at h
        · split at h
          · obtain ⟨_, h⟩ := bif_some h
            cases h
            simp only [*, keyK _ (List.mem_singleton.2 rfl)]
            first | rfl | (rw [cond_true, forceL_eq])
          · cases h
        · cases h
      · cases h
    · cases h
  · -- makeSlice
    split at h
    · split at h
      · split at h
        · split at h
          · obtain ⟨_, h⟩ := bif_some h
            cases h
            simp only [*, keyK _ (List.mem_singleton.2 rfl)]
            first | rfl | (rw [cond_true, forceL_eq])
          · cases h
        · cases h
      · cases h
    · cases h
  · -- move nil
    split at h
    · split at h
      · split at h
        · cases h
          simp only [*, keyK _ (List.mem_singleton.2 rfl)]
        · cases h
      · cases h
    · cases h
  · -- assign nil
    split at h
    · split at h
      · split at h
        · cases h
          simp only [*, keyK _ (List.mem_singleton.2 rfl)]
        · cases h
      · cases h
    · cases h
  · -- convert
    split at h
    · split at h
      · split at h
        · split at h
          · cases h
            simp only [*, keyK _ (List.mem_singleton.2 rfl)]
          · cases h
        · cases h
      · split at h
        · cases h
          simp only [*]
        · cases h
    · cases h
  · -- append
    split at h
    · split at h
      · split at h
        · have hk := mAppend_keys h
          subst hk
          simp only [*, keyK _ (List.mem_singleton.2 rfl)]
        · cases h
      · obtain ⟨_, h⟩ := bif_some h
        split at h
        · split at h
          · split at h
            · have hk := mAppend_keys h
              subst hk
              simp only [*, keyK _ (List.mem_singleton.2 rfl)]
              rfl
            · cases h
          · cases h
        · cases h
      · cases h
    · cases h
  · split at h
    · cases h
      rfl
    · cases h

end Go.Pt
