/- Proved: how calls are taken in a state that is written out. Conditions: none but those that stand in each lemma ahead of its colon. -/
import Derived.Test.YtkjikpcmbiebdaaDoorPtU
set_option linter.unusedVariables false
set_option linter.unusedSimpArgs false
namespace Go.Pt

variable {E : Env} {ks : List Item} {Q : St → Prop} {n : Nat} {fr : List (Nat × V)} {mem : List MU} {full : Array Oper} {o : Oper} {rest : List Oper}

/-! ### Calls, in a state that is written out -/

theorem Run.callA {f : Operand} {args : Array Operand} {ats : Array TypeId} {k : FuncId} {ps : List PV} {r : PV} {d : Nat} (hs : Spec E k ps r) (ho : o.op = .call ⟨.value f, args, ats⟩)
    (hf : ev E fr f = some (.pv (.fn k))) (ha : evs E fr args.toList = some ps) (hg : o.guard = none) (hd : o.dst = some d) (hn : Nat.blt d n = true)
    (h : Run E (.ops full rest :: ks) ⟨(d, .pv r) :: fr, mem, n⟩ Q) : Run E (.ops full (o :: rest) :: ks) ⟨fr, mem, n⟩ Q :=
  Run.call (s := ⟨fr, mem, n⟩) hs ho hf ha hg (by rw [hd]; exact hn) (by unfold St.put; rw [hd]; exact h)

theorem Run.freshA {f : Operand} {args : Array Operand} {ats : Array TypeId} {k sz : Nat} {ps l : List PV} {d : Nat} (hs : Fresh E k ps sz l) (ho : o.op = .call ⟨.value f, args, ats⟩)
    (hf : ev E fr f = some (.pv (.fn k))) (ha : evs E fr args.toList = some ps) (hid : getK mem.length mem = none) (hg : o.guard = none) (hd : o.dst = some d) (hn : Nat.blt d n = true)
    (h : Run E (.ops full rest :: ks) ⟨(d, .own mem.length sz l) :: fr, .tok mem.length sz l.length :: mem, n⟩ Q) : Run E (.ops full (o :: rest) :: ks) ⟨fr, mem, n⟩ Q :=
  Run.fresh (s := ⟨fr, mem, n⟩) hs ho hf ha hid hg (by rw [hd]; exact hn) (by unfold St.put; rw [hd]; exact h)

/-! ### Functions that are gone through where they are called -/

def fnOf : V → Option (FuncId × List V × List V)
  | .pv (.fn k) => some (k, [], [])
  | .clo k a c => some (k, a, c)
  | _ => none

def evV (E : Env) (fr : List (Nat × V)) : List Operand → Option (List V)
  | [] => some []
  | x :: r => match ev E fr x, evV E fr r with
    | some v, some l => some (v :: l)
    | _, _ => none

structure RelL (w : World) (g : Gh) (m : List MU) (vs : List V) (us : List Value) : Prop where
  len : vs.length = us.length
  at_ : ∀ (i : Nat) v u, vs[i]? = some v → us[i]? = some u → VRel w g m v u

theorem RelL.append {w : World} {g : Gh} {m : List MU} {vs vs' : List V} {us us' : List Value} (h : RelL w g m vs us) (k : RelL w g m vs' us') : RelL w g m (vs ++ vs') (us ++ us') := by
  refine ⟨by simp [h.len, k.len], fun i v u hv hu => ?_⟩
  rcases Nat.lt_or_ge i vs.length with h1 | h1
  · rw [List.getElem?_append_left h1] at hv
    rw [List.getElem?_append_left (by rw [← h.len]; exact h1)] at hu
    exact h.at_ i v u hv hu
  · rw [List.getElem?_append_right h1] at hv
    rw [List.getElem?_append_right (by rw [← h.len]; exact h1), ← h.len] at hu
    exact k.at_ _ v u hv hu

theorem evV_rel {C : Ctx} {w : World} {g : Gh} {m : List MU} {a : Act} (hm : MemSim C w g m) (hf : FrameRel w g m fr a) :
    ∀ {xs : List Operand} {vs : List V}, evV C.toEnv fr xs = some vs → RelL w g m vs (xs.map a.eval)
  | [], vs, h => by simp only [evV, Option.some.injEq] at h; subst h; exact ⟨rfl, by simp⟩
  | x :: r, vs, h => by
    unfold evV at h
    split at h
    · rename_i v l hv hl
      cases h
      have ih := evV_rel hm hf hl
      refine ⟨by simp [ih.len], fun i q u hq hu => ?_⟩
      cases i with
      | zero => simp at hq hu; subst hq; subst hu; exact ev_rel hm hf hv
      | succ i => exact ih.at_ i q u (by simpa using hq) (by simpa using hu)
    · cases h

theorem fnOf_rel {w : World} {g : Gh} {m : List MU} {v : V} {k : FuncId} {fs cs : List V} {val : Value} (h : fnOf v = some (k, fs, cs)) (hr : VRel w g m v val) :
    ∃ va vc, val = .func (.func k) ⟨va⟩ ⟨vc⟩ ∧ RelL w g m fs va ∧ RelL w g m cs vc := by
  unfold fnOf at h
  split at h <;> cases h
  · cases pv_rel hr
    exact ⟨[], [], rfl, ⟨rfl, by simp⟩, ⟨rfl, by simp⟩⟩
  · cases hr with
    | clo _ _ _ va vc h1 h2 h3 h4 => exact ⟨va, vc, rfl, ⟨h1, h3⟩, ⟨h2, h4⟩⟩

theorem Run.inl {f : Operand} {args : Array Operand} {ats : Array TypeId} {k : FuncId} {v : V} {fs vs cs : List V} {fn : Func} {c : Code} {fr' : List (Nat × V)} (ho : o.op = .call ⟨.value f, args, ats⟩)
    (hv : ev E fr f = some v) (hk : fnOf v = some (k, fs, cs)) (ha : evV E fr args.toList = some vs) (hfn : E.P.funcs[k]? = some fn) (hnm : (fn.name == "runtime.NumGoroutine") = false)
    (hb : fn.body = some c) (hle : Nat.ble (fs ++ (vs ++ cs)).length fn.ntmps = true) (hfr : forceL (mkFr 0 (fs ++ (vs ++ cs))) some = some fr') (hg : o.guard = none)
    (h : Run E (.code c :: .ret fn fr n o.dst full rest :: ks) ⟨fr', mem, fn.ntmps⟩ Q) : Run E (.ops full (o :: rest) :: ks) ⟨fr, mem, n⟩ Q := by
  intro base w0 D0 QQ hQ cks a w ⟨g, h1, h2, h3⟩
  replace h3 := relK_ops h3
  obtain ⟨cks', rfl, h3⟩ := h3
  obtain ⟨va, vc, hval, ra, rc⟩ := fnOf_rel hk (ev_rel h1 h2.2.2 hv)
  have rv := evV_rel h1 h2.2.2 ha
  have hall := ra.append (rv.append rc)
  have hle' : (fs ++ (vs ++ cs)).length ≤ fn.ntmps := Nat.le_of_ble_eq_true hle
  rw [forceL_eq, Option.some.injEq] at hfr
  subst hfr
  have hframe := frame_args (n := fn.ntmps) hall.len hle' hall.at_
  have hrun : (execOp a.eval o).run E.P w = .ok (.enter k ⟨va ++ (args.toList.map a.eval ++ vc)⟩) w := by
    have ha' : args.map a.eval = ⟨args.toList.map a.eval⟩ := by apply Array.ext'; simp
    have hbn : fn.body.isNone = false := by rw [hb]; rfl
    have e1 : (#[] ++ (Array.mk va ++ Array.mk (args.toList.map a.eval)) ++ Array.mk vc) = ⟨va ++ (args.toList.map a.eval ++ vc)⟩ := by apply Array.ext'; simp
    have e2 : (Array.mk va ++ Array.mk (args.toList.map a.eval) ++ Array.mk vc) = ⟨va ++ (args.toList.map a.eval ++ vc)⟩ := by apply Array.ext'; simp
    simp only [execOp, ho, resolve, hval, Deferred.ofValue, Sem.run_bind, Sem.run_pure, Result.andThen_ok, invoke, callFunc, run_program, hfn, ha', hnm, hbn, Bool.false_eq_true, if_false, e2]
  refine wpList_plain hg fun K' hK => ?_
  unfold Oper.wp
  rw [hrun]
  refine Calls.mono (R := backTo E.P (after E.P QQ cks') a o.dst full rest) ?_ (fun e w' he => by
    cases e with
    | returned v => exact hK _ _ he
    | panicked ch => exact he
    | outgrown => exact he)
  refine calls_of_wp hfn hb ?_
  exact h base w0 D0 QQ hQ (.code c :: .ret fn a o.dst full rest :: cks') _ w ⟨g, h1, hframe, rfl, rfl, rfl, rfl, rfl, h2, h3⟩

theorem after_retI {P : Program} {QQ : Act → World → Prop} {C : Ctx} {fn : Func} {fr0 : List (Nat × V)} {n0 : Nat} {dst : Option Tmp} {ks' : List Item} :
    ∀ {ks : List Item} {cks : List CItem} {w : World} {g : Gh} {m : List MU} {a : Act}, toRet ks = some (fn, fr0, n0, dst, full, rest, ks') → RelK C ks cks w g m →
    (∀ a0 cks', FrameOK w g m fr0 n0 a0 → RelK C ks' cks' w g m → bodyPost P fn (backTo P (after P QQ cks') a0 dst full rest) .ret a w) → after P QQ cks .ret a w
  | [], cks, w, g, m, a, h, _, _ => by cases h
  | .block j :: ks, cks, w, g, m, a, h, hr, hq => by
    replace hr := relK_block hr
    obtain ⟨cks', rfl, hr⟩ := hr
    show after P QQ cks' .ret a w
    exact after_retI (ks := ks) h hr hq
  | .code c :: ks, cks, w, g, m, a, h, hr, hq => by
    replace hr := relK_code hr
    obtain ⟨cks', rfl, hr⟩ := hr
    show after P QQ cks' .ret a w
    exact after_retI (ks := ks) h hr hq
  | .ops f l :: ks, cks, w, g, m, a, h, hr, hq => by
    replace hr := relK_ops hr
    obtain ⟨cks', rfl, hr⟩ := hr
    show after P QQ cks' .ret a w
    exact after_retI (ks := ks) h hr hq
  | .again A :: ks, cks, w, g, m, a, h, hr, hq => by
    replace hr := relK_again hr
    obtain ⟨I, cks', rfl, _, hr⟩ := hr
    show after P QQ cks' .ret a w
    exact after_retI (ks := ks) h hr hq
  | .ret fn' fr' n' dst' f' l' :: ks, cks, w, g, m, a, h, hr, hq => by
    cases h
    replace hr := relK_ret hr
    obtain ⟨a0, cks', rfl, hfo, hr⟩ := hr
    exact hq a0 cks' hfo hr

theorem retI_aux {base : Nat} {w0 : World} {D0 : Nat → Nat → Prop} {QQ : Act → World → Prop} {fn : Func} {fr0 : List (Nat × V)} {n0 : Nat} {dst : Option Tmp} {ks' : List Item} {v : V}
    (hv : resV E fn ⟨fr, mem, n⟩ = some v) (hd : okDst n0 dst = true) (h : Run E (.ops full rest :: ks') ⟨putFr dst v fr0, mem, n0⟩ Q)
    (hQ : ∀ s a w, Q s → Sim { toEnv := E, base := base, w0 := w0, D0 := D0 } [] s [] a w → QQ a w) {a a0 : Act} {w : World} {g : Gh} {cks' : List CItem}
    (h1 : MemSim { toEnv := E, base := base, w0 := w0, D0 := D0 } w g mem) (h2 : FrameOK w g mem fr n a) (hfo : FrameOK w g mem fr0 n0 a0) (hr : RelK { toEnv := E, base := base, w0 := w0, D0 := D0 } ks' cks' w g mem) :
    a.defers = [] ∧ ∃ v, (results fn a.tmps).run E.P w = .ok v w ∧ backTo E.P (after E.P QQ cks') a0 dst full rest (.returned v) w := by
  obtain ⟨val, r1, r2⟩ := results_run (C := { toEnv := E, base := base, w0 := w0, D0 := D0 }) (s := ⟨fr, mem, n⟩) h1 h2.2.2 hv
  refine ⟨h2.1, val, r1, ?_⟩
  have hfr := frame_put hfo hd (Keeps.refl w g mem) r2
  exact h base w0 D0 QQ hQ (.ops full rest :: cks') _ w ⟨g, h1, hfr, rfl, rfl, hr⟩

theorem Run.retI {fn : Func} {fr0 : List (Nat × V)} {n0 d : Nat} {ks' : List Item} {v : V} (ht : toRet ks = some (fn, fr0, n0, some d, full, rest, ks')) (hv : resV E fn ⟨fr, mem, n⟩ = some v)
    (hd : Nat.blt d n0 = true) (h : Run E (.ops full rest :: ks') ⟨(d, v) :: fr0, mem, n0⟩ Q) : Run E (.code .ret :: ks) ⟨fr, mem, n⟩ Q := by
  intro base w0 D0 QQ hQ cks a w ⟨g, h1, h2, h3⟩
  replace h3 := relK_code h3
  obtain ⟨cks', rfl, h3⟩ := h3
  refine wp_ret (after_retI ht h3 fun a0 cks'' hfo hr => ?_)
  exact retI_aux (dst := some d) hv hd h hQ h1 h2 hfo hr

theorem Run.endI {fn : Func} {fr0 : List (Nat × V)} {n0 : Nat} {dst : Option Tmp} {v : V} (hv : resV E fn ⟨fr, mem, n⟩ = some v) (hd : okDst n0 dst = true)
    (h : Run E (.ops full rest :: ks) ⟨putFr dst v fr0, mem, n0⟩ Q) : Run E (.ret fn fr0 n0 dst full rest :: ks) ⟨fr, mem, n⟩ Q := by
  intro base w0 D0 QQ hQ cks a w ⟨g, h1, h2, h3⟩
  replace h3 := relK_ret h3
  obtain ⟨a0, cks', rfl, hfo, hr⟩ := h3
  exact retI_aux hv hd h hQ h1 h2 hfo hr

end Go.Pt
