/- Proved: what append does in every such world. Conditions: none but those that stand in each lemma ahead of its colon. -/
import Derived.Test.YtkjikpcmbiebdaaDoorPtJ
set_option linter.unusedVariables false
set_option linter.unusedSimpArgs false
namespace Go.Pt

theorem zeroCells_size (z : Array Value) (n : Nat) : (Builtin.zeroCells z n).size = n * z.size := by simp [Builtin.zeroCells]

theorem VRel.log {w : World} {g : Gh} {m m' : List MU} (hb : ∀ b, getB b m' = getB b m) (ht : ∀ t, getK t m' = getK t m) {v : V} {val : Value} (h : VRel w g m v val) : VRel w g m' v val :=
  h.keep ⟨fun _ _ hd => ⟨hd, rfl⟩, fun b h => ⟨by rw [hb]; exact h, rfl⟩, fun t sz n h => ⟨n, by rw [ht]; exact h, Nat.le_refl _, fun _ => rfl⟩⟩

def tailStore (base : Option Addr) (off : Nat) (vals : List Value) : Sem Unit :=
  match base with
  | some a => storeCells (a.add off) vals
  | none => pure ()
theorem tailStore_nil {P : Program} {w : World} (base : Option Addr) (off : Nat) : (tailStore base off []).run P w = .ok () w := by cases base <;> rfl

section
variable {P : Program} {w : World} {t1 t2 ty e sz n cap k : Nat} {base : Option Addr} {yv : Value} {d2 : TypeDesc}

theorem append_fits (e1 : (underlying t1).run P w = .ok (.slice e) w) (hse : (Go.sizeOf e).run P w = .ok sz w) (f1 : (underlying t2).run P w = .ok d2 w)
    (hd : (∃ e2, d2 = .slice e2) ∨ d2 = .string) (hlen : (Builtin.lenOf yv).run P w = .ok k w) (hn : n + k ≤ cap) :
    (Builtin.append_ #[t1, t2] ty #[.slice base n cap, yv]).run P w = ((Builtin.firstCells sz k yv).run P w).andThen fun new w' =>
      ((tailStore base (n * sz) new.toList).run P w').andThen fun _ w' => .ok (.slice base (n + k) cap) w' := by
  unfold Builtin.append_
  rcases hd with ⟨e2, rfl⟩ | rfl
  all_goals
    simp only [List.getElem?_toArray, List.getElem?_cons_zero, List.getElem?_cons_succ, Sem.run_bind, e1, hse, Result.andThen_ok, f1, Sem.run_pure, Bool.false_eq_true, if_false, Sem.run_ite, hlen, hn, if_true,
      Bool.not_false]
    congr 1
    funext new w'
    cases base <;> simp [tailStore]

theorem append_grows {inf : TypeInfo} (e1 : (underlying t1).run P w = .ok (.slice e) w) (hse : (Go.sizeOf e).run P w = .ok sz w) (f1 : (underlying t2).run P w = .ok d2 w)
    (hd : (∃ e2, d2 = .slice e2) ∨ d2 = .string) (hlen : (Builtin.lenOf yv).run P w = .ok k w) (hn : ¬ n + k ≤ cap) (hi : (typeInfo e).run P w = .ok inf w) (hb : inf.bytes ≤ 2 ^ 16)
    (hs : n + k ≤ 2 ^ 30) (hz : ¬ ((n + k : Nat) : Int) > IntKind.i64.max) :
    ∃ nc d, n + k ≤ nc ∧ (Builtin.append_ #[t1, t2] ty #[.slice base n cap, yv]).run P w =
      (do let old ← Builtin.firstCells sz n (.slice base n cap)
          let new ← Builtin.firstCells sz k yv
          let z ← zeroValue e
          let a ← newRow e (old ++ new ++ Builtin.zeroCells z.cells (nc - (n + k)))
          pure (.slice (some a) (n + k) nc) : Sem Value).run P { w with drawn := d } := by
  have hnc := nextcap_le (n := n + k) (c := cap) (by omega)
  have hroom : ¬ Builtin.nextslicecap (n + k) cap * inf.bytes > 2 ^ 48 := by
    have : Builtin.nextslicecap (n + k) cap * inf.bytes ≤ (2 * 2 ^ 30 + 768) * 2 ^ 16 := Nat.mul_le_mul (by omega) hb
    omega
  refine ⟨(n + k) + (w.tape w.drawn (.appendCap (n + k) cap e)) % (2 ^ 63 - (n + k)), w.drawn + 1, by omega, ?_⟩
  unfold Builtin.append_
  have hi' : (typeInfo e).run P { w with drawn := w.drawn + 1 } = .ok inf { w with drawn := w.drawn + 1 } := by
    unfold typeInfo at hi ⊢
    simp only [Sem.run_bind, run_program, Result.andThen_ok] at hi ⊢
    split at hi
    · rename_i i hpi
      simp only [Sem.run_pure, Result.ok.injEq] at hi
      obtain ⟨rfl, _⟩ := hi
      simp
    · simp at hi
  rcases hd with ⟨e2, rfl⟩ | rfl
  all_goals
    simp only [List.getElem?_toArray, List.getElem?_cons_zero, List.getElem?_cons_succ, Sem.run_bind, e1, hse, Result.andThen_ok, f1, Sem.run_pure, Bool.false_eq_true, if_false, Sem.run_ite, hlen, hn, if_true,
      Bool.not_false, hi, hz, false_and, hroom, run_choose, Question.forced, Question.cut, hi', run_askRoom]

end

theorem append_run {C : Ctx} {w : World} {g : Gh} {m : List MU} {t sz t1 t2 e : Nat} {l r : List PV} {xv yv : Value} {ty1 ty2 te : Ty} (hm : MemSim C w g m)
    (hx : VRel w g m (.own t sz l) xv) (ht : getK t m = some (sz, l.length)) (hy : Adds C.P w g.D sz yv r)
    (h1 : C.T t1 = some ty1) (hk1 : ty1.k = .slice e) (h2 : C.T t2 = some ty2) (hk2 : (∃ e, ty2.k = .slice e) ∨ ty2.k = .str) (he : C.T e = some te) (hsz : te.size = sz) (hpos : 0 < sz)
    (hzl : te.zero.length = sz) (hby : te.bytes ≤ 2 ^ 16) (hs : Small (l ++ r).length) (ty : TypeId) :
    ∃ w' g' val, (Builtin.append_ #[t1, t2] ty #[xv, yv]).run C.P w = .ok val w' ∧ MemSim C w' g' (.tok t sz (l ++ r).length :: m) ∧ Keeps w g m w' g' (.tok t sz (l ++ r).length :: m) ∧
      VRel w' g' (.tok t sz (l ++ r).length :: m) (.own t sz (l ++ r)) val := by
  have hx' := hx
  cases hx with
  | own _ _ _ _ n hr0 hk0 hn0 ht0 =>
  rw [ht] at hk0
  cases hk0
  have htau := ht0 rfl
  obtain ⟨base, cap, rfl, hcap, hbase⟩ := rep_sl_shape hr0
  obtain ⟨d1, e1, e2⟩ := run_underlying_ty (w := w) h1
  rw [hk1] at e2
  cases kind_slice e2
  obtain ⟨d2, f1, f2⟩ := run_underlying_ty (w := w) h2
  have hd2 : (∃ e2, d2 = .slice e2) ∨ d2 = .string := by
    rcases hk2 with ⟨e', hk⟩ | hk
    · rw [hk] at f2; exact .inl ⟨e', kind_slice f2⟩
    · rw [hk] at f2; exact .inr (kind_str f2)
  have hse := sizeT_run (E := C.toEnv) (t := e) (n := sz) (by simp [sizeT, he, hsz])
  obtain ⟨hlen, hvals, hrsz, hrone⟩ := hy
  have hadd : (l ++ r).length = l.length + r.length := List.length_append
  rw [hadd] at hs ⊢
  by_cases hn : l.length + r.length ≤ cap
  · obtain ⟨vals, hfirst, hrepl⟩ := hvals w.drawn
    have hvl : vals.length = r.length * sz := by rw [← hrepl.len, flat_length r hrsz]
    have hrun := append_fits (ty := ty) (base := base) e1 (hse w) f1 hd2 hlen hn
    rw [hfirst, Result.andThen_ok] at hrun
    by_cases hr : r = []
    · subst hr
      have hv0 : vals = [] := List.length_eq_zero_iff.1 (by simpa using hvl)
      subst hv0
      rw [show ([] : List Value).toArray.toList = [] from rfl, tailStore_nil, Result.andThen_ok] at hrun
      have hb' : ∀ b, getB b (.tok t sz (l.length + 0) :: m) = getB b m := fun b => rfl
      have ht' : ∀ t', getK t' (.tok t sz (l.length + 0) :: m) = getK t' m := by
        intro t'
        by_cases e : t' = t
        · subst e; rw [getK_same]; exact ht.symm
        · rw [getK_ne _ _ _ e]
      obtain ⟨hm', hk'⟩ := hm.log hb' ht'
      refine ⟨w, g, _, hrun, hm', hk', ?_⟩
      rw [List.append_nil]
      exact hx'.keep hk'
    · have hrl : 0 < r.length := List.length_pos_iff.2 hr
      obtain ⟨a0, cap0, q1, q2, q3⟩ := hm.tok t sz l.length ht
      rw [htau] at q1
      cases q1
      obtain ⟨b, off, vs, el, rfl, _⟩ := q3.resolve_left (by omega)
      obtain ⟨⟨vs', el', fz, g1, g2, g3⟩, hm', hk', hv'⟩ := hm.lengthen ht hx' htau hpos hr hrsz hrone hn hvl (fun i c hi => by
        obtain ⟨v, hv1, hv2, _⟩ := hrepl.get hi
        rw [List.getD_eq_getElem?_getD, hv1]
        exact hv2)
      have hmul : (l.length + r.length) * sz ≤ cap * sz := Nat.mul_le_mul_right _ hn
      have hadd2 : (l.length + r.length) * sz = l.length * sz + r.length * sz := Nat.add_mul _ _ _
      have hst := storeCells_run (P := C.P) b (off + l.length * sz) vals 0 w vs' el' fz g1 g3 (by omega) hrepl.oneCells
      simp only [tailStore, add_none] at hrun
      rw [hst, Result.andThen_ok] at hrun
      exact ⟨_, _, _, hrun, hm', hk', hv'⟩
  · obtain ⟨inf, hi1, hi2, hi3⟩ := (tyOK_is (C.hT e te he)).info w
    obtain ⟨nc, d, hnc, hrun⟩ := append_grows (ty := ty) (base := base) e1 (hse w) f1 hd2 hlen hn hi1 (by omega) hs (by
      have : IntKind.i64.max = 9223372036854775807 := rfl
      unfold Small at hs
      omega)
    obtain ⟨hm1, hk1'⟩ := hm.heap (w' := { w with drawn := d }) rfl rfl rfl rfl
    have hr1 := hr0.mono hk1'.d
    obtain ⟨olds, ho1, ho2⟩ := firstCells_run (P := C.P) (sz := sz) hr1 (.inl rfl)
    have hlsz : (∀ e ∈ l, e.cells.length = sz) ∧ ∀ e ∈ l, ∀ c ∈ e.cells, c.one = true := by
      cases hr0 with
      | nil => simp
      | sl _ _ b off _ vs hne hpos hsz hone hcap hc hr => exact ⟨hsz, hone⟩
    have hol : olds.length = l.length * sz := by rw [← ho2.len, flat_length l hlsz.1]
    obtain ⟨z, hz1, hz2⟩ := (tyOK_is (C.hT e te he)).zero { w with drawn := d }
    have hzs : z.cells.size = sz := by
      have := (zeroOK_rep (w := w) (D := g.D) hz2).len
      simp at this
      omega
    obtain ⟨vals, hfirst', hrepl⟩ := hvals d
    have hvl : vals.length = r.length * sz := by rw [← hrepl.len, flat_length r hrsz]
    simp only [Sem.run_bind, ho1, Result.andThen_ok, hfirst', hz1, newRow, run_newObj, Sem.run_pure] at hrun
    have hrep2 : RepL { w with drawn := d } g.D ((l ++ r).flatMap PV.cells) (olds ++ vals) := by
      rw [flat_append]
      exact ho2.append ⟨hrepl.len, hrepl.one, fun i p v hp hv => (hrepl.at_ i p v hp hv).mono hk1'.d⟩
    have hnew := hm1.newSlice (t := t) (sz := sz) (cap := nc) (l := l ++ r) (el := e) (fz := (0, 0)) (vs := olds.toArray ++ vals.toArray ++ Builtin.zeroCells z.cells (nc - (l.length + r.length)))
      (.inr ⟨l.length, ht, by rw [hadd]; omega⟩) hpos
      (fun e he => (List.mem_append.1 he).elim (hlsz.1 e) (hrsz e)) (fun e he => (List.mem_append.1 he).elim (hlsz.2 e) (hrone e)) (by rw [hadd]; exact hnc)
      (by
        simp only [Array.size_append, List.size_toArray, zeroCells_size, hol, hvl, hzs]
        rw [← Nat.add_mul, ← Nat.add_mul]
        congr 1
        omega)
      (fun i c hi => by
        obtain ⟨v, hv1, hv2, _⟩ := hrep2.get hi
        have hlt := (List.getElem?_eq_some_iff.1 hv1).1
        have : (olds.toArray ++ vals.toArray ++ Builtin.zeroCells z.cells (nc - (l.length + r.length))).getD i undef = v := by
          rw [Array.getD_eq_getD_getElem?, Array.getElem?_append_left (by simpa using hlt)]
          have : (olds.toArray ++ vals.toArray)[i]? = some v := by
            rw [← hv1]; simp
          rw [this]; rfl
        rw [this]
        exact hv2)
      (by intro o ho h0; simp at h0)
    rw [hadd] at hnew
    obtain ⟨hm', hk', hv'⟩ := hnew
    exact ⟨_, _, _, hrun, hm', hk1'.trans hk', hv'⟩

end Go.Pt
