/- Proved: what holds behind a call, in the caller. Conditions: none but those that stand in each lemma ahead of its colon. -/
import Derived.Test.YtkjikpcmbiebdaaDoorPtP
set_option linter.unusedVariables false
set_option linter.unusedSimpArgs false
namespace Go.Pt

inductive Item where
  | code (c : Code)
  | ops (full : Array Oper) (l : List Oper)
  | block (id : Nat)
  | again (A : St → Prop)
  | ret (fn : Func) (fr : List (Nat × V)) (n : Nat) (dst : Option Tmp) (full : Array Oper) (rest : List Oper)

inductive CItem where
  | code (c : Code)
  | ops (full : Array Oper) (l : List Oper)
  | block (id : Nat)
  | again (I : Act → World → Prop)
  | ret (fn : Func) (a0 : Act) (dst : Option Tmp) (full : Array Oper) (rest : List Oper)

/-- What holds behind a call, in the caller. -/
def backTo (P : Program) (K : Exit → Act → World → Prop) (a0 : Act) (dst : Option Tmp) (full : Array Oper) (rest : List Oper) : Ending → World → Prop
  | .returned v, w => wpList P full K rest (a0.put dst v) w
  | .panicked ch, w => K (.panic ch) a0 w
  | .outgrown, _ => LetsOut K

/-- What holds where a piece of code has been left, and some others are still to come. -/
def after (P : Program) (QQ : Act → World → Prop) : List CItem → Exit → Act → World → Prop
  | [], .normal, a, w => QQ a w
  | [], .ret, a, w => QQ a w
  | [], _, _, _ => False
  | .code c :: ks, .normal, a, w => c.wp P (after P QQ ks) a w
  | .code _ :: ks, e, a, w => after P QQ ks e a w
  | .ops full l :: ks, .normal, a, w => wpList P full (after P QQ ks) l a w
  | .ops _ _ :: ks, e, a, w => after P QQ ks e a w
  | .block id :: ks, .exit id', a, w => if id' = id then after P QQ ks .normal a w else after P QQ ks (.exit id') a w
  | .block _ :: ks, e, a, w => after P QQ ks e a w
  | .again I :: _, .normal, a, w => I a w
  | .again _ :: ks, e, a, w => after P QQ ks e a w
  | .ret fn a0 dst full rest :: ks, e, a, w => bodyPost P fn (backTo P (after P QQ ks) a0 dst full rest) e a w

def FrameOK (w : World) (g : Gh) (m : List MU) (fr : List (Nat × V)) (n : Nat) (a : Act) : Prop := a.defers = [] ∧ a.tmps.size = n ∧ FrameRel w g m fr a

def RelK (C : Ctx) : List Item → List CItem → World → Gh → List MU → Prop
  | [], [], _, _, _ => True
  | .code c :: ks, .code c' :: cks, w, g, m => c = c' ∧ RelK C ks cks w g m
  | .ops f l :: ks, .ops f' l' :: cks, w, g, m => f = f' ∧ l = l' ∧ RelK C ks cks w g m
  | .block i :: ks, .block j :: cks, w, g, m => i = j ∧ RelK C ks cks w g m
  | .again A :: ks, .again I :: cks, w, g, m => (∀ s a w' g', A s → FrameOK w' g' s.mem s.fr s.n a → MemSim C w' g' s.mem → RelK C ks cks w' g' s.mem → I a w') ∧ RelK C ks cks w g m
  | .ret fn fr n dst f l :: ks, .ret fn' a0 dst' f' l' :: cks, w, g, m => fn = fn' ∧ dst = dst' ∧ f = f' ∧ l = l' ∧ FrameOK w g m fr n a0 ∧ RelK C ks cks w g m
  | _, _, _, _, _ => False

theorem FrameOK.keep {w w' : World} {g g' : Gh} {m m' : List MU} (hk : Keeps w g m w' g' m') {fr : List (Nat × V)} {n : Nat} {a : Act} (h : FrameOK w g m fr n a) : FrameOK w' g' m' fr n a :=
  ⟨h.1, h.2.1, fun i v hv => ⟨(h.2.2 i v hv).1, (h.2.2 i v hv).2.keep hk⟩⟩

theorem RelK.keep {C : Ctx} {w w' : World} {g g' : Gh} {m m' : List MU} (hk : Keeps w g m w' g' m') : ∀ {ks : List Item} {cks : List CItem}, RelK C ks cks w g m → RelK C ks cks w' g' m'
  | [], [], _ => trivial
  | .code _ :: _, .code _ :: _, h => ⟨h.1, RelK.keep hk h.2⟩
  | .ops _ _ :: _, .ops _ _ :: _, h => ⟨h.1, h.2.1, RelK.keep hk h.2.2⟩
  | .block _ :: _, .block _ :: _, h => ⟨h.1, RelK.keep hk h.2⟩
  | .again _ :: _, .again _ :: _, h => ⟨h.1, RelK.keep hk h.2⟩
  | .ret .. :: _, .ret .. :: _, h => ⟨h.1, h.2.1, h.2.2.1, h.2.2.2.1, h.2.2.2.2.1.keep hk, RelK.keep hk h.2.2.2.2.2⟩
  | [], _ :: _, h => (by simp [RelK] at h)
  | .code _ :: _, [], h => (by simp [RelK] at h)
  | .ops _ _ :: _, [], h => (by simp [RelK] at h)
  | .block _ :: _, [], h => (by simp [RelK] at h)
  | .again _ :: _, [], h => (by simp [RelK] at h)
  | .ret .. :: _, [], h => (by simp [RelK] at h)
  | .code _ :: _, .ops _ _ :: _, h => (by simp [RelK] at h)
  | .code _ :: _, .block _ :: _, h => (by simp [RelK] at h)
  | .code _ :: _, .again _ :: _, h => (by simp [RelK] at h)
  | .code _ :: _, .ret .. :: _, h => (by simp [RelK] at h)
  | .ops _ _ :: _, .code _ :: _, h => (by simp [RelK] at h)
  | .ops _ _ :: _, .block _ :: _, h => (by simp [RelK] at h)
  | .ops _ _ :: _, .again _ :: _, h => (by simp [RelK] at h)
  | .ops _ _ :: _, .ret .. :: _, h => (by simp [RelK] at h)
  | .block _ :: _, .code _ :: _, h => (by simp [RelK] at h)
  | .block _ :: _, .ops _ _ :: _, h => (by simp [RelK] at h)
  | .block _ :: _, .again _ :: _, h => (by simp [RelK] at h)
  | .block _ :: _, .ret .. :: _, h => (by simp [RelK] at h)
  | .again _ :: _, .code _ :: _, h => (by simp [RelK] at h)
  | .again _ :: _, .ops _ _ :: _, h => (by simp [RelK] at h)
  | .again _ :: _, .block _ :: _, h => (by simp [RelK] at h)
  | .again _ :: _, .ret .. :: _, h => (by simp [RelK] at h)
  | .ret .. :: _, .code _ :: _, h => (by simp [RelK] at h)
  | .ret .. :: _, .ops _ _ :: _, h => (by simp [RelK] at h)
  | .ret .. :: _, .block _ :: _, h => (by simp [RelK] at h)
  | .ret .. :: _, .again _ :: _, h => (by simp [RelK] at h)

def Sim (C : Ctx) (ks : List Item) (s : St) (cks : List CItem) (a : Act) (w : World) : Prop :=
  ∃ g, MemSim C w g s.mem ∧ FrameOK w g s.mem s.fr s.n a ∧ RelK C ks cks w g s.mem

/-- From a state on, with some code still to come, the call ends in a state of which Q holds. -/
def Run (E : Env) (ks : List Item) (s : St) (Q : St → Prop) : Prop :=
  ∀ (base : Nat) (w0 : World) (D0 : Nat → Nat → Prop) (QQ : Act → World → Prop),
    (∀ s a w, Q s → Sim { toEnv := E, base := base, w0 := w0, D0 := D0 } [] s [] a w → QQ a w) →
    ∀ cks a w, Sim { toEnv := E, base := base, w0 := w0, D0 := D0 } ks s cks a w → after E.P QQ cks .normal a w

theorem relK_code {C : Ctx} {c : Code} {ks : List Item} {cks : List CItem} {w : World} {g : Gh} {m : List MU} (h : RelK C (.code c :: ks) cks w g m) :
    ∃ cks', cks = .code c :: cks' ∧ RelK C ks cks' w g m := by
  cases cks with
  | nil => simp [RelK] at h
  | cons x cks =>
    cases x with
    | code c' => obtain ⟨rfl, h⟩ := h; exact ⟨cks, rfl, h⟩
    | _ => simp [RelK] at h
theorem relK_ops {C : Ctx} {f : Array Oper} {l : List Oper} {ks : List Item} {cks : List CItem} {w : World} {g : Gh} {m : List MU} (h : RelK C (.ops f l :: ks) cks w g m) :
    ∃ cks', cks = .ops f l :: cks' ∧ RelK C ks cks' w g m := by
  cases cks with
  | nil => simp [RelK] at h
  | cons x cks =>
    cases x with
    | ops f' l' => obtain ⟨rfl, rfl, h⟩ := h; exact ⟨cks, rfl, h⟩
    | _ => simp [RelK] at h
theorem relK_block {C : Ctx} {i : Nat} {ks : List Item} {cks : List CItem} {w : World} {g : Gh} {m : List MU} (h : RelK C (.block i :: ks) cks w g m) :
    ∃ cks', cks = .block i :: cks' ∧ RelK C ks cks' w g m := by
  cases cks with
  | nil => simp [RelK] at h
  | cons x cks =>
    cases x with
    | block i' => obtain ⟨rfl, h⟩ := h; exact ⟨cks, rfl, h⟩
    | _ => simp [RelK] at h
theorem relK_again {C : Ctx} {A : St → Prop} {ks : List Item} {cks : List CItem} {w : World} {g : Gh} {m : List MU} (h : RelK C (.again A :: ks) cks w g m) :
    ∃ I cks', cks = .again I :: cks' ∧ (∀ s a w' g', A s → FrameOK w' g' s.mem s.fr s.n a → MemSim C w' g' s.mem → RelK C ks cks' w' g' s.mem → I a w') ∧ RelK C ks cks' w g m := by
  cases cks with
  | nil => simp [RelK] at h
  | cons x cks =>
    cases x with
    | again I => exact ⟨I, cks, rfl, h.1, h.2⟩
    | _ => simp [RelK] at h
theorem relK_ret {C : Ctx} {fn : Func} {fr : List (Nat × V)} {n : Nat} {dst : Option Tmp} {f : Array Oper} {l : List Oper} {ks : List Item} {cks : List CItem} {w : World} {g : Gh} {m : List MU}
    (h : RelK C (.ret fn fr n dst f l :: ks) cks w g m) : ∃ a0 cks', cks = .ret fn a0 dst f l :: cks' ∧ FrameOK w g m fr n a0 ∧ RelK C ks cks' w g m := by
  cases cks with
  | nil => simp [RelK] at h
  | cons x cks =>
    cases x with
    | ret fn' a0 dst' f' l' => obtain ⟨rfl, rfl, rfl, rfl, h1, h2⟩ := h; exact ⟨a0, cks, rfl, h1, h2⟩
    | _ => simp [RelK] at h

variable {E : Env} {ks : List Item} {s : St} {Q : St → Prop}

theorem Run.done (h : Q s) : Run E [] s Q := by
  intro base w0 D0 QQ hQ cks a w hs
  cases cks with
  | nil => exact hQ s a w h hs
  | cons x cks => obtain ⟨g, _, _, hr⟩ := hs; simp [RelK] at hr

theorem Run.seq {x y : Code} (h : Run E (.code x :: .code y :: ks) s Q) : Run E (.code (.seq x y) :: ks) s Q := by
  intro base w0 D0 QQ hQ cks a w ⟨g, h1, h2, h3⟩
  replace h3 := relK_code h3
  obtain ⟨cks', rfl, h3⟩ := h3
  have := h base w0 D0 QQ hQ (.code x :: .code y :: cks') a w ⟨g, h1, h2, rfl, rfl, h3⟩
  exact wp_seq (wp_mono this fun e a w q => by cases e <;> exact q)

theorem Run.skip (h : Run E ks s Q) : Run E (.code .skip :: ks) s Q := by
  intro base w0 D0 QQ hQ cks a w ⟨g, h1, h2, h3⟩
  replace h3 := relK_code h3
  obtain ⟨cks', rfl, h3⟩ := h3
  exact wp_skip (h base w0 D0 QQ hQ cks' a w ⟨g, h1, h2, h3⟩)

theorem Run.region {id : Nat} {ops : Array Oper} (h : Run E (.ops ops ops.toList :: ks) s Q) : Run E (.code (.region id ops false) :: ks) s Q := by
  intro base w0 D0 QQ hQ cks a w ⟨g, h1, h2, h3⟩
  replace h3 := relK_code h3
  obtain ⟨cks', rfl, h3⟩ := h3
  exact wp_region_list (h base w0 D0 QQ hQ (.ops ops ops.toList :: cks') a w ⟨g, h1, h2, rfl, rfl, h3⟩)

theorem Run.nil {f : Array Oper} (h : Run E ks s Q) : Run E (.ops f [] :: ks) s Q := by
  intro base w0 D0 QQ hQ cks a w ⟨g, h1, h2, h3⟩
  replace h3 := relK_ops h3
  obtain ⟨cks', rfl, h3⟩ := h3
  exact wpList_nil (h base w0 D0 QQ hQ cks' a w ⟨g, h1, h2, h3⟩)

theorem Run.block {id : Nat} {c : Code} (h : Run E (.code c :: .block id :: ks) s Q) : Run E (.code (.block id c) :: ks) s Q := by
  intro base w0 D0 QQ hQ cks a w ⟨g, h1, h2, h3⟩
  replace h3 := relK_code h3
  obtain ⟨cks', rfl, h3⟩ := h3
  have := h base w0 D0 QQ hQ (.code c :: .block id :: cks') a w ⟨g, h1, h2, rfl, rfl, h3⟩
  exact wp_block (wp_mono this fun e a w q => by cases e <;> exact q)

theorem Run.inBlock {id : Nat} (h : Run E ks s Q) : Run E (.block id :: ks) s Q := by
  intro base w0 D0 QQ hQ cks a w ⟨g, h1, h2, h3⟩
  replace h3 := relK_block h3
  obtain ⟨cks', rfl, h3⟩ := h3
  exact h base w0 D0 QQ hQ cks' a w ⟨g, h1, h2, h3⟩

def dropTo (id : Nat) : List Item → Option (List Item)
  | [] => none
  | .block j :: ks => bif id == j then some ks else dropTo id ks
  | .ret .. :: _ => none
  | _ :: ks => dropTo id ks

theorem after_exit {P : Program} {QQ : Act → World → Prop} {C : Ctx} {id : Nat} : ∀ {ks ks' : List Item} {cks : List CItem} {w : World} {g : Gh} {m : List MU} {a : Act}, dropTo id ks = some ks' →
    RelK C ks cks w g m → (∀ cks', RelK C ks' cks' w g m → after P QQ cks' .normal a w) → after P QQ cks (.exit id) a w
  | [], _, _, _, _, _, _, h, _, _ => by cases h
  | .block j :: ks, ks', cks, w, g, m, a, h, hr, hk => by
    replace hr := relK_block hr
    obtain ⟨cks', rfl, hr⟩ := hr
    unfold dropTo at h
    cases hb : (id == j) with
    | true =>
      rw [hb] at h
      cases h
      have : id = j := by simpa using hb
      subst this
      simp only [after, if_true]
      exact hk _ hr
    | false =>
      rw [hb] at h
      have hne : id ≠ j := by simpa using hb
      simp only [after, if_neg hne]
      exact after_exit h hr hk
  | .code c :: ks, ks', cks, w, g, m, a, h, hr, hk => by
    replace hr := relK_code hr
    obtain ⟨cks', rfl, hr⟩ := hr
    show after P QQ cks' (.exit id) a w
    exact after_exit (ks := ks) h hr hk
  | .ops f l :: ks, ks', cks, w, g, m, a, h, hr, hk => by
    replace hr := relK_ops hr
    obtain ⟨cks', rfl, hr⟩ := hr
    show after P QQ cks' (.exit id) a w
    exact after_exit (ks := ks) h hr hk
  | .again A :: ks, ks', cks, w, g, m, a, h, hr, hk => by
    replace hr := relK_again hr
    obtain ⟨I, cks', rfl, _, hr⟩ := hr
    show after P QQ cks' (.exit id) a w
    exact after_exit (ks := ks) h hr hk
  | .ret .. :: _, _, _, _, _, _, _, h, _, _ => by cases h

theorem Run.exit {id : Nat} {ks' : List Item} (hd : dropTo id ks = some ks') (h : Run E ks' s Q) : Run E (.code (.exit id) :: ks) s Q := by
  intro base w0 D0 QQ hQ cks a w ⟨g, h1, h2, h3⟩
  replace h3 := relK_code h3
  obtain ⟨cks', rfl, h3⟩ := h3
  exact wp_exit (after_exit hd h3 fun cks'' hr => h base w0 D0 QQ hQ cks'' a w ⟨g, h1, h2, hr⟩)

/-- The frame that a return leaves, if one was entered. -/
def toRet : List Item → Option (Func × List (Nat × V) × Nat × Option Tmp × Array Oper × List Oper × List Item)
  | [] => none
  | .ret fn fr n dst f l :: ks => some (fn, fr, n, dst, f, l, ks)
  | _ :: ks => toRet ks

theorem after_ret {P : Program} {QQ : Act → World → Prop} {C : Ctx} : ∀ {ks : List Item} {cks : List CItem} {w : World} {g : Gh} {m : List MU} {a : Act}, toRet ks = none → RelK C ks cks w g m → QQ a w →
    after P QQ cks .ret a w
  | [], cks, w, g, m, a, _, hr, hq => by
    cases cks with
    | nil => exact hq
    | cons x cks => simp [RelK] at hr
  | .block j :: ks, cks, w, g, m, a, h, hr, hq => by
    replace hr := relK_block hr
    obtain ⟨cks', rfl, hr⟩ := hr
    show after P QQ cks' .ret a w
    exact after_ret (ks := ks) h hr hq
  | .code c :: ks, cks, w, g, m, a, h, hr, hq => by
    replace hr := relK_code hr
    obtain ⟨cks', rfl, hr⟩ := hr
    show after P QQ cks' .ret a w
    exact after_ret (ks := ks) h hr hq
  | .ops f l :: ks, cks, w, g, m, a, h, hr, hq => by
    replace hr := relK_ops hr
    obtain ⟨cks', rfl, hr⟩ := hr
    show after P QQ cks' .ret a w
    exact after_ret (ks := ks) h hr hq
  | .again A :: ks, cks, w, g, m, a, h, hr, hq => by
    replace hr := relK_again hr
    obtain ⟨I, cks', rfl, _, hr⟩ := hr
    show after P QQ cks' .ret a w
    exact after_ret (ks := ks) h hr hq
  | .ret .. :: _, _, _, _, _, _, h, _, _ => by cases h

theorem Run.ret (hn : toRet ks = none) (h : Q s) : Run E (.code .ret :: ks) s Q := by
  intro base w0 D0 QQ hQ cks a w ⟨g, h1, h2, h3⟩
  replace h3 := relK_code h3
  obtain ⟨cks', rfl, h3⟩ := h3
  exact wp_ret (after_ret hn h3 (hQ s a w h ⟨g, h1, h2, trivial⟩))

theorem Run.again {A : St → Prop} (h : A s) : Run E (.again A :: ks) s Q := by
  intro base w0 D0 QQ hQ cks a w ⟨g, h1, h2, h3⟩
  replace h3 := relK_again h3
  obtain ⟨I, cks', rfl, hI, h3⟩ := h3
  exact hI s a w g h h2 h1 h3

theorem Run.cond {c : Operand} {x y : Code} {b : Bool} (hc : ev E s.fr c = some (.pv (.bool b))) (ht : b = true → Run E (.code x :: ks) s Q) (hf : b = false → Run E (.code y :: ks) s Q) :
    Run E (.code (.cond c x y) :: ks) s Q := by
  intro base w0 D0 QQ hQ cks a w ⟨g, h1, h2, h3⟩
  replace h3 := relK_code h3
  obtain ⟨cks', rfl, h3⟩ := h3
  have hb := rep_bool (pv_rel (ev_rel h1 h2.2.2 hc))
  refine wp_cond hb ?_
  cases b with
  | true => exact ht rfl base w0 D0 QQ hQ (.code x :: cks') a w ⟨g, h1, h2, rfl, h3⟩
  | false => exact hf rfl base w0 D0 QQ hQ (.code y :: cks') a w ⟨g, h1, h2, rfl, h3⟩

def okDst (n : Nat) : Option Tmp → Bool
  | none => true
  | some d => Nat.blt d n

def putFr : Option Tmp → V → List (Nat × V) → List (Nat × V)
  | some d, v, fr => (d, v) :: fr
  | none, _, fr => fr

def St.put (s : St) (dst : Option Tmp) (v : V) (ms : List MU) : St := ⟨putFr dst v s.fr, ms ++ s.mem, s.n⟩

theorem frame_put {w w' : World} {g g' : Gh} {m m' : List MU} {fr : List (Nat × V)} {n : Nat} {a : Act} {dst : Option Tmp} {v : V} {val : Value} (h : FrameOK w g m fr n a) (hd : okDst n dst = true)
    (hk : Keeps w g m w' g' m') (hv : VRel w' g' m' v val) : FrameOK w' g' m' (putFr dst v fr) n (a.put dst val) := by
  obtain ⟨h1, h2, h3⟩ := h
  cases dst with
  | none => exact ⟨h1, h2, fun i u hu => ⟨(h3 i u hu).1, (h3 i u hu).2.keep hk⟩⟩
  | some d =>
    have hlt : d < n := by
      have h := hd
      simp only [okDst, Nat.blt, Nat.ble_eq] at h
      exact h
    refine ⟨h1, by simp [Act.put, h2], fun i u hu => ?_⟩
    simp only [putFr] at hu
    by_cases e : i = d
    · subst e
      rw [getT_same] at hu
      cases hu
      refine ⟨by simp [Act.put, h2, hlt], ?_⟩
      have : (a.put (some i) val).tmps.getD i undef = val := by
        simp [Act.put, Array.getD_eq_getD_getElem?, h2, hlt]
      rw [this]
      exact hv
    · rw [getT_ne _ _ e] at hu
      obtain ⟨q1, q2⟩ := h3 i u hu
      refine ⟨by simp [Act.put]; exact q1, ?_⟩
      have : (a.put (some d) val).tmps.getD i undef = a.tmps.getD i undef := by
        simp [Act.put, Array.getD_eq_getD_getElem?, Array.getElem?_setIfInBounds_ne (Ne.symm e)]
      rw [this]
      exact q2.keep hk

/-- One operation that is no call. -/
theorem Run.op {f : Array Oper} {o : Oper} {rest : List Oper} {p : Prop} {R : List Key} {ms : List MU} {v : V} (h : step E s.mem.length s.fr s.mem o = some (p, R, ms, v)) (hg : o.guard = none)
    (hd : okDst s.n o.dst = true) (hp : p) (k : Run E (.ops f rest :: ks) (s.put o.dst v ms) Q) : Run E (.ops f (o :: rest) :: ks) s Q := by
  intro base w0 D0 QQ hQ cks a w ⟨g, h1, h2, h3⟩
  replace h3 := relK_ops h3
  obtain ⟨cks', rfl, h3⟩ := h3
  obtain ⟨w', g', val, hrun, m1, m2, m3⟩ := (step_sound (C := { toEnv := E, base := base, w0 := w0, D0 := D0 }) h1 h2.2.2 h hp).ex
  have hfr := frame_put h2 hd m2 m3
  have hk := k base w0 D0 QQ hQ (.ops f rest :: cks') (a.put o.dst val) w' ⟨g', m1, hfr, rfl, rfl, h3.keep m2⟩
  refine wpList_plain hg fun K hK => ?_
  unfold Oper.wp
  rcases hrun with hrun | ⟨hrun, rfl⟩
  · rw [hrun]; exact hK _ _ hk
  · rw [hrun]; exact hK _ _ hk

end Go.Pt
