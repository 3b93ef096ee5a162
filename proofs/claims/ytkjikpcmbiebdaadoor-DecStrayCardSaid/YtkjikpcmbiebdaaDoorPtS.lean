/- Proved: that a run through a text gives the function its contract. Conditions: none but those that stand in each lemma ahead of its colon. -/
import Derived.Test.YtkjikpcmbiebdaaDoorPtR
set_option linter.unusedVariables false
set_option linter.unusedSimpArgs false
namespace Go.Pt

def resSem (tmps : Array Value) : ResultVar → Sem Value
  | .tmp t => pure (tmps.getD t undef)
  | .cell a t => do loadVar t (← asAddr (tmps.getD a undef))

theorem results_eq (fn : Func) (tmps : Array Value) : results fn tmps = (do
    let vs ← fn.results.mapM (resSem tmps)
    pure (if h : vs.size = 1 then vs[0] else .tuple vs)) := by
  unfold results
  congr 2

theorem cell_run {C : Ctx} {w : World} {g : Gh} {m : List MU} {fr : List (Nat × V)} {a : Act} (hm : MemSim C w g m) (hf : FrameRel w g m fr a) {t ty b off : Nat} {cs : List V} {v : V}
    (h1 : getT t fr = some (.ptr b off)) (h2 : getB b m = some cs) (h3 : loadV C.toEnv ty cs off = some v) : ∃ val, (resSem a.tmps (.cell t ty)).run C.P w = .ok val w ∧ VRel w g m v val := by
  obtain ⟨_, hr⟩ := hf t _ h1
  generalize hz : a.tmps.getD t undef = z at hr
  cases hr with
  | ptr _ _ hb =>
    obtain ⟨u, h4, h5⟩ := load_run hm h2 h3
    refine ⟨u, ?_, h5⟩
    simp only [resSem, hz, asAddr, Sem.run_bind, Sem.run_pure, Result.andThen_ok]
    simpa [Instr.loadAt, Instr.sureAddr] using h4

theorem resVs_run {C : Ctx} {w : World} {g : Gh} {m : List MU} {s : St} {a : Act} (hm : MemSim C w g m) (hs : s.mem = m) (hf : FrameRel w g m s.fr a) :
    ∀ {rs : List ResultVar} {ps : List PV}, resV.resVs C.toEnv s rs = some ps → ∃ vals : List Value, (rs.mapM (resSem a.tmps)).run C.P w = .ok vals w ∧ RepArgs w g.D ps vals
  | [], ps, h => by simp only [resV.resVs, Option.some.injEq] at h; subst h; exact ⟨[], rfl, rfl, by simp⟩
  | .tmp t :: r, ps, h => by
    unfold resV.resVs at h
    split at h
    · rename_i v l hv hl
      split at h
      · rename_i p hp
        cases h
        obtain ⟨vals, h1, h2⟩ := resVs_run hm hs hf hl
        refine ⟨a.tmps.getD t undef :: vals, ?_, ?_, fun i q u hq hu => ?_⟩
        · simp only [List.mapM_cons, resSem, Sem.run_bind, Sem.run_pure, Result.andThen_ok, h1]
        · simp [h2.len]
        · cases i with
          | zero =>
            simp at hq hu
            subst hq
            subst hu
            have := toPV_rel hp (hf t _ hv).2
            simpa using this
          | succ i => exact h2.at_ i q u (by simpa using hq) (by simpa using hu)
      · cases h
    · cases h
  | .cell t ty :: r, ps, h => by
    unfold resV.resVs at h
    split at h
    · rename_i b off l hv hl
      split at h
      · rename_i cs hb
        split at h
        · rename_i v hld
          split at h
          · rename_i p hp
            cases h
            obtain ⟨vals, h1, h2⟩ := resVs_run hm hs hf hl
            obtain ⟨val, h3, h4⟩ := cell_run hm hf hv (by rw [← hs]; exact hb) hld
            refine ⟨val :: vals, ?_, ?_, fun i q u hq hu => ?_⟩
            · simp only [List.mapM_cons, Sem.run_bind, h3, Sem.run_pure, Result.andThen_ok, h1]
            · simp [h2.len]
            · cases i with
              | zero =>
                simp at hq hu
                subst hq
                subst hu
                exact toPV_rel hp h4
              | succ i => exact h2.at_ i q u (by simpa using hq) (by simpa using hu)
          · cases h
        · cases h
      · cases h
    · cases h

theorem results_run {C : Ctx} {w : World} {g : Gh} {s : St} {a : Act} {fn : Func} {v : V} (hm : MemSim C w g s.mem) (hf : FrameRel w g s.mem s.fr a) (h : resV C.toEnv fn s = some v) :
    ∃ val, (results fn a.tmps).run C.P w = .ok val w ∧ VRel w g s.mem v val := by
  rw [results_eq]
  have hlist : ∀ (vals : List Value), (fn.results.toList.mapM (resSem a.tmps)).run C.P w = .ok vals w → (fn.results.mapM (resSem a.tmps)).run C.P w = .ok ⟨vals⟩ w := by
    intro vals hv
    rw [Array.mapM_eq_mapM_toList]
    simp only [Sem.run_map, hv, Result.andThen_ok]
  unfold resV at h
  split at h
  · rename_i t hr
    refine ⟨a.tmps.getD t undef, ?_, (hf t v h).2⟩
    have := hlist [a.tmps.getD t undef] (by rw [hr]; rfl)
    simp only [Sem.run_bind, this, Result.andThen_ok]
    rfl
  · rename_i t ty hr
    split at h
    · rename_i b off hv
      split at h
      · rename_i cs hb
        obtain ⟨val, h3, h4⟩ := cell_run hm hf hv hb h
        refine ⟨val, ?_, h4⟩
        have := hlist [val] (by
          rw [hr]
          simp only [List.mapM_cons, List.mapM_nil, Sem.run_bind, h3, Sem.run_pure, Result.andThen_ok])
        simp only [Sem.run_bind, this, Result.andThen_ok]
        rfl
      · cases h
    · cases h
  · rename_i h1 h2
    split at h
    · rename_i ps hps
      cases h
      obtain ⟨vals, h3, h4⟩ := resVs_run hm rfl hf hps
      have hl := hlist vals h3
      have hne : ¬ vals.length = 1 := by
        intro h1'
        rw [← h4.len] at h1'
        have hrl : fn.results.toList.length = ps.length := by
          clear hl h4 h3 hlist
          generalize fn.results.toList = rs at hps
          clear h1 h2 h1'
          induction rs generalizing ps with
          | nil => simp only [resV.resVs, Option.some.injEq] at hps; subst hps; rfl
          | cons x r ih =>
            cases x with
            | tmp t =>
              unfold resV.resVs at hps
              split at hps
              · split at hps
                · cases hps; simp; exact ih _ ‹_›
                · cases hps
              · cases hps
            | cell t ty =>
              unfold resV.resVs at hps
              split at hps
              · split at hps
                · split at hps
                  · split at hps
                    · cases hps; simp; exact ih _ ‹_›
                    · cases hps
                  · cases hps
                · cases hps
              · cases hps
        rw [h1'] at hrl
        obtain ⟨x, hx⟩ := List.length_eq_one_iff.1 hrl
        cases x with
        | tmp t => exact h1 t hx
        | cell t ty => exact h2 t ty hx
      refine ⟨.tuple ⟨vals⟩, ?_, .pv _ _ (.tup ps vals h4.len h4.at_)⟩
      simp only [Sem.run_bind, hl, Result.andThen_ok, Sem.run_pure]
      rw [dif_neg (by simpa using hne)]
    · cases h

theorem initial {E : Env} {w : World} {D : Nat → Nat → Prop} (hs : Start E w D) :
    MemSim { toEnv := E, base := w.heap.size, w0 := w, D0 := D } w ⟨D, fun _ => 0, fun _ => undef⟩ [] where
  below := Bel.refl _ _
  baseLe := Nat.le_refl _
  dLt := hs.dLt
  dOld := fun _ _ h => h
  dNew := fun _ _ h => .inl h
  d0Lt := hs.dLt
  glob := fun gl cells hg => hs.glob gl cells hg _ _ _
  blk := fun b cells h => by cases h
  inj := fun b b' h => by cases h
  tok := fun t sz n h => by cases h

theorem frame_args {w : World} {g : Gh} {m : List MU} {vs : List V} {vals : List Value} {n : Nat} (hl : vs.length = vals.length) (hn : vs.length ≤ n)
    (hr : ∀ (i : Nat) v u, vs[i]? = some v → vals[i]? = some u → VRel w g m v u) :
    FrameOK w g m (mkFr 0 vs) n { tmps := (⟨vals⟩ : Array Value) ++ Array.replicate (n - (⟨vals⟩ : Array Value).size) undef, defers := [] } := by
  refine ⟨rfl, by simp; omega, fun i v hv => ?_⟩
  obtain ⟨_, h⟩ := mkFr_get hv
  rw [Nat.sub_zero] at h
  have hi : i < vals.length := by rw [← hl]; exact (List.getElem?_eq_some_iff.1 h).1
  refine ⟨by simp; omega, ?_⟩
  have hu : vals[i]? = some vals[i] := by simp [hi]
  have := hr i v _ h hu
  have e : ((⟨vals⟩ : Array Value) ++ Array.replicate (n - (⟨vals⟩ : Array Value).size) undef).getD i undef = vals[i] := by
    rw [Array.getD_eq_getD_getElem?, Array.getElem?_append_left (by simpa using hi)]
    simp [hi]
  rw [e]
  exact this

theorem repArgs_pv {w : World} {g : Gh} {m : List MU} {ps : List PV} {vals : List Value} (h : RepArgs w g.D ps vals) :
    (ps.map V.pv).length = vals.length ∧ ∀ (i : Nat) v u, (ps.map V.pv)[i]? = some v → vals[i]? = some u → VRel w g m v u := by
  refine ⟨by simp [h.len], fun i v u hv hu => ?_⟩
  rw [List.getElem?_map] at hv
  cases hp : ps[i]? with
  | none => rw [hp] at hv; cases hv
  | some p => rw [hp] at hv; cases hv; exact .pv _ _ (h.at_ i p u hp hu)

theorem calls_of_run {E : Env} {k : FuncId} {fn : Func} {c : Code} {ps : List PV} {Q : St → Prop} (hf : E.P.funcs[k]? = some fn) (hb : fn.body = some c) (hnt : ps.length ≤ fn.ntmps)
    (h : Run E [.code c] ⟨mkFr 0 (ps.map .pv), [], fn.ntmps⟩ Q) {w : World} {D : Nat → Nat → Prop} {vals : List Value} (hs : Start E w D) (ha : RepArgs w D ps vals) {R : Ending → World → Prop}
    (hR : ∀ s a w', Q s → Sim { toEnv := E, base := w.heap.size, w0 := w, D0 := D } [] s [] a w' → ∃ val, (results fn a.tmps).run E.P w' = .ok val w' ∧ R (.returned val) w') :
    Calls E.P k ⟨vals⟩ w R := by
  refine calls_of_wp hf hb ?_
  obtain ⟨h1, h2⟩ := repArgs_pv (w := w) (g := ⟨D, fun _ => 0, fun _ => undef⟩) (m := []) ha
  have hfr := frame_args (w := w) (g := ⟨D, fun _ => 0, fun _ => undef⟩) (m := []) (n := fn.ntmps) h1 (by simpa using hnt) h2
  have := h w.heap.size w D (fun a w' => bodyPost E.P fn R .ret a w') (fun s a w' hq hsim => by
    obtain ⟨val, r1, r2⟩ := hR s a w' hq hsim
    obtain ⟨g, _, hfo, _⟩ := hsim
    exact ⟨hfo.1, val, r1, r2⟩) [.code c] _ w ⟨_, initial hs, hfr, rfl, trivial⟩
  refine wp_mono this fun e a w' q => ?_
  cases e <;> first | exact q | exact q.elim

theorem grew_of {E : Env} {w w' : World} {D : Nat → Nat → Prop} {g : Gh} {m : List MU} (h : MemSim { toEnv := E, base := w.heap.size, w0 := w, D0 := D } w' g m) : Grew w D w' g.D where
  old := h.dOld
  new := fun b o hd => (h.dNew b o hd).imp id fun h1 => ⟨h1, h.dLt b o hd⟩
  bel := h.below

/-- THE CONTRACT OF A FUNCTION, out of a run through its text. -/
theorem spec_of_run {E : Env} {k : FuncId} {fn : Func} {c : Code} {ps : List PV} {r : PV} (hf : E.P.funcs[k]? = some fn) (hn : (fn.name == "runtime.NumGoroutine") = false) (hb : fn.body = some c)
    (hnt : ps.length ≤ fn.ntmps) (h : Run E [.code c] ⟨mkFr 0 (ps.map .pv), [], fn.ntmps⟩ (fun s => ∃ v, resV E fn s = some v ∧ v.toPV = some r)) : Spec E k ps r := by
  refine ⟨⟨fn, hf, hn, by rw [hb]; rfl⟩, fun w D vals hs ha => ?_⟩
  refine calls_of_run hf hb hnt h hs ha ?_
  rintro s a w' ⟨v, hv, hp⟩ ⟨g, hm, hfo, _⟩
  obtain ⟨val, h1, h2⟩ := results_run hm hfo.2.2 hv
  exact ⟨val, h1, val, g.D, rfl, toPV_rel hp h2, grew_of hm⟩

theorem fresh_of_run {E : Env} {k : FuncId} {fn : Func} {c : Code} {ps l : List PV} {sz : Nat} (hf : E.P.funcs[k]? = some fn) (hn : (fn.name == "runtime.NumGoroutine") = false) (hb : fn.body = some c)
    (hnt : ps.length ≤ fn.ntmps) (h : Run E [.code c] ⟨mkFr 0 (ps.map .pv), [], fn.ntmps⟩ (fun s => ∃ t, resV E fn s = some (.own t sz l) ∧ getK t s.mem = some (sz, l.length))) : Fresh E k ps sz l := by
  refine ⟨⟨fn, hf, hn, by rw [hb]; rfl⟩, fun w D vals hs ha => ?_⟩
  refine calls_of_run hf hb hnt h hs ha ?_
  rintro s a w' ⟨t, hv, hk⟩ ⟨g, hm, hfo, _⟩
  obtain ⟨val, h1, h2⟩ := results_run hm hfo.2.2 hv
  refine ⟨val, h1, val, g.D, rfl, toPV_rel rfl h2, grew_of hm, ?_⟩
  cases h2 with
  | own _ _ _ _ n q1 q2 q3 q4 =>
    rw [hk] at q2
    cases q2
    have htau := q4 rfl
    obtain ⟨a', cap, e1, e2, e3⟩ := hm.tok t sz l.length hk
    rw [htau] at e1
    refine ⟨a', cap, e1, e2, e3.imp id ?_⟩
    rintro ⟨b, off, vs, el, k1, k2, k3, k4, k5, k6, k7⟩
    exact ⟨b, off, vs, el, k1, k2, k3, k4, k5⟩

theorem Spec.of_fresh {E : Env} {k sz : Nat} {ps l : List PV} (h : Fresh E k ps sz l) : Spec E k ps (.sl sz l) :=
  ⟨h.1, fun w D vals hs ha => Calls.mono (h.2 w D vals hs ha) fun _ _ ⟨v, D', h1, h2, h3, _⟩ => ⟨v, D', h1, h2, h3⟩⟩

end Go.Pt
