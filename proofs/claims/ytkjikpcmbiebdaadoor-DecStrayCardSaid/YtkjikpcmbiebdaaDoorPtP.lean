/- Proved: that a step of the run is a step of the machine. Conditions: none but those that stand in each lemma ahead of its colon. -/
import Derived.Test.YtkjikpcmbiebdaaDoorPtO
set_option linter.unusedVariables false
set_option linter.unusedSimpArgs false
namespace Go.Pt

theorem blt_pos {n : Nat} (h : Nat.blt 0 n = true) : 0 < n := by
  have : 1 ≤ n := by simpa [Nat.blt] using h
  omega

theorem mAppend_sound {C : Ctx} {w : World} {g : Gh} {m : List MU} {fr : List (Nat × V)} {a : Act} (hm : MemSim C w g m) (hf : FrameRel w g m fr a) {t1 t2 tk sz : Nat} {l : List PV} {y : Operand}
    {R R' : List Key} {P p : Prop} {ms : List MU} {v : V} {xv : Value} (h : mAppend C.toEnv fr t1 t2 tk sz l y R P = some (p, R', ms, v)) (hp : p) (hx : P → VRel w g m (.own tk sz l) xv ∧ getK tk m = some (sz, l.length))
    (ty : TypeId) : ∃ w' g' val, (Builtin.append_ #[t1, t2] ty #[xv, a.eval y]).run C.P w = .ok val w' ∧ MemSim C w' g' (ms ++ m) ∧ Keeps w g m w' g' (ms ++ m) ∧ VRel w' g' (ms ++ m) v val := by
  unfold mAppend at h
  split at h
  · rename_i ty1 ty2 h1 h2
    split at h
    · rename_i e hk1
      split at h
      · rename_i te hte
        cases hb : (te.size == sz && Nat.blt 0 sz && te.zero.length == sz && Nat.ble te.bytes 65536) with
        | false => rw [hb] at h; cases h
        | true =>
          rw [hb] at h
          simp only [Bool.and_eq_true, beq_iff_eq, Nat.ble_eq] at hb
          obtain ⟨⟨⟨b1, b2⟩, b3⟩, b4⟩ := hb
          have b2' : 0 < sz := blt_pos b2
          simp only [cond_true] at h
          split at h
          · rename_i e2 u hk2 hy
            split at h
            · rename_i sz2 r hsl
              cases h
              obtain ⟨p1, p2, p3⟩ := hp
              obtain ⟨x1, x2⟩ := hx p1
              exact append_run hm x1 x2 (adds_sl (slOf_rel hsl (ev_rel hm hf hy)) p2) h1 hk1 h2 (.inl ⟨_, hk2⟩) hte b1 b2' b3 b4 p3 ty
            · cases h
          · rename_i s hk2 hy
            cases hb1 : (sz == 1) with
            | false => rw [hb1] at h; cases h
            | true =>
              rw [hb1] at h
              cases h
              obtain ⟨p1, p3⟩ := hp
              have : sz = 1 := by simpa using hb1
              subst this
              obtain ⟨x1, x2⟩ := hx p1
              have hr := rep_str (pv_rel (ev_rel hm hf hy))
              rw [hr]
              exact append_run hm x1 x2 (adds_str s) h1 hk1 h2 (.inr hk2) hte b1 b2' b3 b4 p3 ty
          · cases h
      · cases h
    · cases h
  · cases h

theorem mAppend_ms {E : Env} {fr : List (Nat × V)} {t1 t2 tk sz : Nat} {l : List PV} {y : Operand} {R R' : List Key} {P p : Prop} {ms : List MU} {v : V}
    (h : mAppend E fr t1 t2 tk sz l y R P = some (p, R', ms, v)) : ∃ n, ms = [.tok tk sz n] := by
  unfold mAppend at h
  split at h
  · split at h
    · split at h
      · rename_i te hte
        cases hb : (te.size == sz && Nat.blt 0 sz && te.zero.length == sz && Nat.ble te.bytes 65536) with
        | false => rw [hb] at h; cases h
        | true =>
          rw [hb] at h
          simp only [cond_true] at h
          split at h
          · split at h
            · cases h; exact ⟨_, rfl⟩
            · cases h
          · cases hb1 : (sz == 1) with
            | false => rw [hb1] at h; cases h
            | true =>
              rw [hb1] at h
              cases h
              have : sz = 1 := by simpa using hb1
              subst this
              exact ⟨_, rfl⟩
          · cases h
      · cases h
    · cases h
  · cases h

theorem Rep.recap {w : World} {D} {sz n cap : Nat} {l : List PV} {a : Option Addr} (h : Rep w D (.sl sz l) (.slice a n cap)) : Rep w D (.sl sz l) (.slice a n n) := by
  cases h with
  | nil => exact .nil _ _ _
  | sl _ _ b off _ vs g1 g2 g3 g4 g5 g6 g7 => exact .sl sz l b off _ vs g1 g2 g3 g4 (Nat.le_refl _) g6 g7

theorem isNil_eval {x : Operand} {a : Act} (h : isNil x = true) : a.eval x = .slice none 0 0 := by
  unfold isNil at h
  split at h
  · rfl
  · cases h

set_option maxHeartbeats 1000000 in
theorem step_sound {C : Ctx} {w : World} {g : Gh} {m : List MU} {fr : List (Nat × V)} {a : Act} (hm : MemSim C w g m) (hf : FrameRel w g m fr a) {id : Nat} {o : Oper} {p : Prop} {R : List Key}
    {ms : List MU} {v : V} (h : step C.toEnv id fr m o = some (p, R, ms, v)) (hp : p) : Does C w g m o a ms v := by
  unfold step at h
  split at h
  -- load
  · rename_i t x hop
    split at h
    · rename_i b off hx
      split at h
      · rename_i cs hb
        split at h
        · rename_i u hu
          cases h
          have hr := ev_rel hm hf hx
          generalize hz : a.eval x = val at hr
          cases hr with
          | ptr _ _ hbs =>
            obtain ⟨q, h1, h2⟩ := load_run hm hb hu
            exact Does.ofRun (s := Instr.loadAt t (a.eval x)) (by simp only [execOp, hop]) (by rw [hz]; exact h1) hm (Keeps.refl _ _ _) h2
        · cases h
      · cases h
    · rename_i cs hx
      split at h
      · rename_i q hq
        cases h
        obtain ⟨u, h1, h2⟩ := load_ip (E := C.toEnv) hq (ev_rel hm hf hx)
        exact Does.ofRun (s := Instr.loadAt t (a.eval x)) (by simp only [execOp, hop]) h1 hm (Keeps.refl _ _ _) (.pv _ _ h2)
      · cases h
    · cases h
  -- store
  · rename_i t x y hop
    split at h
    · rename_i b off u sz hx hy hsz
      split at h
      · rename_i cs vs hb hvs
        cases hbb : (vs.length == sz && Nat.ble (off + sz) cs.length) with
        | false => rw [hbb] at h; cases h
        | true =>
          rw [hbb] at h
          simp only [Bool.and_eq_true, beq_iff_eq, Nat.ble_eq] at hbb
          obtain ⟨b1, b2⟩ := hbb
          simp only [cond_true, forceL_eq, Option.some.injEq, Prod.mk.injEq] at h
          obtain ⟨_, _, rfl, rfl⟩ := h
          have hr := ev_rel hm hf hx
          have hv := ev_rel hm hf hy
          obtain ⟨c1, c2, c3⟩ := cellsV_rel hvs hv
          generalize hz : a.eval x = val at hr
          cases hr with
          | ptr _ _ hbs =>
            obtain ⟨w', m', h1, h2, h3, h4, h5, h6⟩ := store_cells (C := C) b (a.eval y).cells.toList vs w g m off cs hm hb (by simp [c1]) (by omega) c2
              (fun i c u hc hu => by
                have := c3 i c hc
                rwa [Array.getD_eq_getD_getElem?, ← Array.getElem?_toList, hu] at this)
            have hlog1 : ∀ b', getB b' (.blk b (cs.take off ++ (vs ++ cs.drop (off + sz))) :: m) = getB b' m' := by
              intro b'
              by_cases e : b' = b
              · subst e; rw [getB_same, h4, b1]
              · rw [getB_ne _ _ e, h5 b' e]
            obtain ⟨k1, k2⟩ := h2.log hlog1 (fun t => by rw [getK_blk]; exact (h6 t).symm)
            refine ⟨w', g, undef, .inr ⟨?_, rfl⟩, k1, h3.trans k2, .undef _⟩
            have hst := h1 off 0 (by omega)
            have hszr := sizeT_run hsz w
            simp only [execOp, hop, hz, Instr.storeAt, Instr.sureAddr, Sem.run_bind, Sem.run_pure, Result.andThen_ok, storeVar, hszr]
            rw [Sem.run_ite, if_neg (by omega)]
            simp only [hst, Result.andThen_ok]
      · cases h
    · cases h
  -- alloc
  · rename_i t hop
    split at h
    · rename_i ty hty
      split at h
      · rename_i hid hokb
        simp only [forceL_eq, Option.some.injEq, Prod.mk.injEq] at h
        obtain ⟨_, _, rfl, rfl⟩ := h
        obtain ⟨w', g', h1, h2, h3⟩ := alloc_run hm hty hid (okB_spec hokb)
        exact Does.ofRun (s := Instr.alloc t true (.tuple #[])) (by simp only [execOp, hop]) h1 h2 h3 (.ptr _ _ (by simp [getB_same]))
      · cases h
    · cases h
  -- box
  · rename_i t x hop
    split at h
    · rename_i u hx hid hokb
      split at h
      · rename_i vs hvs
        cases h
        obtain ⟨w', g', h1, h2, h3⟩ := box_run (t := t) hm (ev_rel hm hf hx) hvs hid (okB_spec hokb)
        exact Does.ofRun (s := Instr.box t (a.eval x)) (by simp only [execOp, hop]) h1 h2 h3 (.ptr _ _ (by simp [getB_same]))
      · cases h
    · cases h
  -- buildSlice
  · rename_i t len parts hop
    split at h
    · rename_i ty l hty hl hid
      split at h
      · rename_i e hk
        split at h
        · rename_i te hte
          split at h
          · rename_i ps hps
            cases hbb : (ps.length == len && te.zero.length == te.size && Nat.blt 0 te.size && Nat.ble (len * te.size) 16777216) with
            | false => rw [hbb] at h; cases h
            | true =>
              rw [hbb] at h
              simp only [Bool.and_eq_true, beq_iff_eq, Nat.ble_eq] at hbb
              obtain ⟨⟨⟨b1, b2⟩, b3⟩, b4⟩ := hbb
              simp only [cond_true, Option.some.injEq, Prod.mk.injEq] at h
              obtain ⟨_, _, rfl, rfl⟩ := h
              obtain ⟨w', g', val, h1, h2, h3, h4⟩ := buildSlice_run hm hf hty hk hte hl hps b1 (blt_pos b3) b4 hid
              exact Does.ofRun (s := Instr.buildSlice t len (parts.map fun (i, x) => (i, a.eval x))) (by simp only [execOp, hop]) h1 h2 h3 h4
          · cases h
        · cases h
      · cases h
    · cases h
  -- makeSlice
  · rename_i t n c hop
    split at h
    · rename_i ty n' c' hty hn hc hid
      split at h
      · rename_i e hk
        split at h
        · rename_i te hte
          split at h
          · rename_i z hz
            cases hbb : (te.zero.length == te.size && Nat.blt 0 te.size && Nat.ble te.bytes 65536) with
            | false => rw [hbb] at h; cases h
            | true =>
              rw [hbb] at h
              simp only [Bool.and_eq_true, beq_iff_eq, Nat.ble_eq] at hbb
              obtain ⟨⟨b1, b2⟩, b3⟩ := hbb
              simp only [cond_true, Option.some.injEq, Prod.mk.injEq] at h
              obtain ⟨rfl, _, rfl, rfl⟩ := h
              obtain ⟨p1, p2, p3⟩ := hp
              obtain ⟨k1, e1⟩ := intOf_run hm hf hn
              obtain ⟨k2, e2⟩ := intOf_run hm hf hc
              obtain ⟨w', g', val, h1, h2, h3, h4⟩ := makeSlice_run (kn := k1) (kc := k2) hm hty hk hte hz b1 (blt_pos b2) b3 p1 p2 p3 hid
              exact Does.ofRun (s := Instr.makeSlice t (a.eval n) (a.eval c)) (by simp only [execOp, hop]) (by rw [e1, e2]; exact h1) h2 h3 h4
          · cases h
        · cases h
      · cases h
    · cases h
  -- nil
  · rename_i hop
    split at h
    · rename_i ty hty hid
      split at h
      · rename_i e hk
        split at h
        · rename_i sz hsz
          cases h
          obtain ⟨h1, h2, h3⟩ := hm.nilTok sz hid
          exact ⟨w, _, .slice none 0 0, .inl (by simp only [execOp, hop]; rfl), h1, h2, h3⟩
        · cases h
      · cases h
    · cases h
  · rename_i hop
    split at h
    · rename_i ty hty hid
      split at h
      · rename_i e hk
        split at h
        · rename_i sz hsz
          cases h
          obtain ⟨h1, h2, h3⟩ := hm.nilTok sz hid
          exact ⟨w, _, .slice none 0 0, .inl (by simp only [execOp, hop]; rfl), h1, h2, h3⟩
        · cases h
      · cases h
    · cases h
  -- convert
  · rename_i src dst x hop
    split at h
    · rename_i s d u hs hd hx
      split at h
      · rename_i e b hk1 hk2
        split at h
        · rename_i te hte hid
          split at h
          · rename_i hk3
            cases h
            obtain ⟨d1, e1, e2⟩ := run_underlying_ty (w := w) hs
            obtain ⟨d2, f1, f2⟩ := run_underlying_ty (w := w) hd
            obtain ⟨d3, q1, q2⟩ := run_underlying_ty (w := w) hte
            rw [hk1] at e2
            rw [hk2] at f2
            rw [hk3] at q2
            cases kind_str e2
            cases kind_slice f2
            cases kind_int q2
            obtain ⟨w', g', val, h1, h2, h3, h4⟩ := toBytes_run (e := e) hm b hid
            have hr := rep_str (pv_rel (ev_rel hm hf hx))
            exact Does.ofRun (s := convert src dst (a.eval x)) (by simp only [execOp, hop]) (by rw [hr]; simp only [convert, Sem.run_bind, e1, f1, Result.andThen_ok, q1]; exact h1) h2 h3 h4
          · cases h
        · cases h
      · split at h
        · rename_i q u' hpop
          cases h
          exact Does.ofPop hm hf hpop hp
        · cases h
    · cases h
  -- append
  · rename_i args ats hop
    split at h
    · rename_i x y t1 t2 ha hats
      have e1 : args = #[x, y] := by apply Array.ext'; exact ha
      have e2 : ats = #[t1, t2] := by apply Array.ext'; exact hats
      have hex : execOp a.eval o = (do pure (Next.value (← Builtin.append_ #[t1, t2] o.type #[a.eval x, a.eval y]))) := by
        subst e1
        subst e2
        simp only [execOp, hop, resolve, List.map_toArray, List.map_cons, List.map_nil]
        rfl
      split at h
      · rename_i tk sz l hx
        split at h
        · rename_i sz' n hk
          have hr := ev_rel hm hf hx
          obtain ⟨w', g', val, h1, h2, h3, h4⟩ := mAppend_sound hm hf h hp (xv := a.eval x) (fun hn => ⟨hr, by
            cases hr with
            | own _ _ _ _ n' q1 q2 q3 q4 =>
              rw [q2] at hk
              cases hk
              rw [q2, hn]⟩) o.type
          exact Does.ofRun hex h1 h2 h3 h4
        · cases h
      · rename_i u hu hx
        cases hni : isNil x with
        | false => rw [hni] at h; cases h
        | true =>
          rw [hni] at h
          simp only [cond_true] at h
          split at h
          · rename_i ty1 hty1 hid
            split at h
            · rename_i e hk
              split at h
              · rename_i sz hsz
                obtain ⟨n1, n2, n3⟩ := hm.nilTok (t := id) sz hid
                have hf' : FrameRel w ⟨g.D, g.mu, Go.Pt.upd g.tau id (.slice none 0 0)⟩ (.tok id sz 0 :: m) fr a := fun i v hv => ⟨(hf i v hv).1, (hf i v hv).2.keep n2⟩
                obtain ⟨w', g', val, h1, h2, h3, h4⟩ := mAppend_sound n1 hf' h hp (xv := a.eval x) (fun _ => ⟨by rw [isNil_eval hni]; exact n3, getK_same _ _ _ _⟩) o.type
                obtain ⟨n, rfl⟩ := mAppend_ms h
                have hb : ∀ b, getB b ([.tok id sz n] ++ m) = getB b ([.tok id sz n] ++ (.tok id sz 0 :: m)) := fun b => rfl
                have ht : ∀ t, getK t ([.tok id sz n] ++ m) = getK t ([.tok id sz n] ++ (.tok id sz 0 :: m)) := by
                  intro t
                  by_cases e : t = id
                  · subst e; rw [List.singleton_append, List.singleton_append, getK_same, getK_same]
                  · rw [List.singleton_append, List.singleton_append, getK_ne _ _ _ e, getK_ne _ _ _ e, getK_ne _ _ _ e]
                obtain ⟨k1, k2⟩ := h2.log hb ht
                exact Does.ofRun hex h1 k1 ((n2.trans h3).trans k2) (h4.keep k2)
              · cases h
            · cases h
          · cases h
      · cases h
    · cases h
  -- the rest
  · split at h
    · rename_i q u hpop
      cases h
      exact Does.ofPop hm hf hpop hp
    · cases h

end Go.Pt
