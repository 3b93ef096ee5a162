/- Proved: what operations that make memory do in every such world. Conditions: none but those that stand in each lemma ahead of its colon. -/
import Derived.Test.YtkjikpcmbiebdaaDoorPtN
import Derived.IntWalk
set_option linter.unusedVariables false
set_option linter.unusedSimpArgs false
namespace Go.Pt

theorem zeroOK_cells {l : List PV} {vs : List Value} (h : zeroOK l vs = true) : l.length = vs.length := (zeroOK_rep (w := default) (D := fun _ _ => False) h).len

theorem alloc_run {C : Ctx} {w : World} {g : Gh} {m : List MU} (hm : MemSim C w g m) {t id : Nat} {ty : Ty} (hty : C.T t = some ty) (hid : getB id m = none) (hB : ∀ u, C.B id = some u → t = u) :
    ∃ w' g', (Instr.alloc t true (.tuple #[])).run C.P w = .ok (.pointer (some ⟨g'.mu id, 0, none⟩)) w' ∧ MemSim C w' g' (.blk id (ty.zero.map V.pv) :: m) ∧ Keeps w g m w' g' (.blk id (ty.zero.map V.pv) :: m) := by
  obtain ⟨z, hz1, hz2⟩ := (tyOK_is (C.hT t ty hty)).zero w
  have hrep := zeroOK_rep (w := w) (D := g.D) hz2
  have hal := hm.alloc (b := id) (cs := ty.zero.map V.pv) (vs := z.cells) (el := t) hid (by have := hrep.len; simpa using this.symm) hB (fun i c hi => by
    rw [List.getElem?_map] at hi
    cases hp : ty.zero[i]? with
    | none => rw [hp] at hi; cases hi
    | some p =>
      rw [hp] at hi
      cases hi
      obtain ⟨u, hu1, hu2, _⟩ := hrep.get hp
      rw [Array.getD_eq_getD_getElem?, ← Array.getElem?_toList, hu1]
      exact .pv _ _ hu2)
  refine ⟨_, _, ?_, hal⟩
  simp only [Instr.alloc, Sem.run_bind, hz1, Result.andThen_ok, newVar, newRow, run_newObj, Sem.run_pure, upd_same]
  rfl

theorem box_run {C : Ctx} {w : World} {g : Gh} {m : List MU} (hm : MemSim C w g m) {t id : Nat} {v : V} {vs : List V} {val : Value} (hv : VRel w g m v val) (hc : cellsV v = some vs) (hid : getB id m = none) (hB : ∀ u, C.B id = some u → t = u) :
    ∃ w' g', (Instr.box t val).run C.P w = .ok (.pointer (some ⟨g'.mu id, 0, none⟩)) w' ∧ MemSim C w' g' (.blk id vs :: m) ∧ Keeps w g m w' g' (.blk id vs :: m) := by
  obtain ⟨h1, h2, h3⟩ := cellsV_rel hc hv
  have hal := hm.alloc (b := id) (cs := vs) (vs := val.cells) (el := t) hid h1.symm hB h3
  refine ⟨_, _, ?_, hal⟩
  simp only [Instr.box, Sem.run_bind, Result.andThen_ok, newVar, newRow, run_newObj, Sem.run_pure, upd_same]
  rfl

theorem makeSlice_run {C : Ctx} {w : World} {g : Gh} {m : List MU} (hm : MemSim C w g m) {t e id : Nat} {ty te : Ty} {z : PV} {kn kc : IntKind} {n c : Int} (hty : C.T t = some ty) (hk : ty.k = .slice e)
    (hte : C.T e = some te) (hz : zeroP te = some z) (hzl : te.zero.length = te.size) (hpos : 0 < te.size) (hby : te.bytes ≤ 65536) (h0 : 0 ≤ n) (h1 : n ≤ c) (h2 : c ≤ 1073741824) (hid : getK id m = none) :
    ∃ w' g' val, (Instr.makeSlice t (.int kn n) (.int kc c)).run C.P w = .ok val w' ∧ MemSim C w' g' (.tok id te.size (List.replicate n.toNat z).length :: m) ∧
      Keeps w g m w' g' (.tok id te.size (List.replicate n.toNat z).length :: m) ∧ VRel w' g' (.tok id te.size (List.replicate n.toNat z).length :: m) (.own id te.size (List.replicate n.toNat z)) val := by
  obtain ⟨d1, e1, e2⟩ := run_underlying_ty (w := w) hty
  rw [hk] at e2
  cases kind_slice e2
  have hT := tyOK_is (C.hT e te hte)
  obtain ⟨zv, hz1, hz2⟩ := hT.zero w
  obtain ⟨inf, hi1, hi2, hi3⟩ := hT.info w
  have hrep := zeroOK_rep (w := w) (D := g.D) hz2
  have hzs : zv.cells.size = te.size := by have := hrep.len; simp at this; omega
  have hzc : z.cells = te.zero := by
    unfold zeroP at hz
    cases hk : te.k.agg with
    | true => rw [hk] at hz; simp only [cond_true, Option.some.injEq] at hz; subst hz; rfl
    | false =>
      rw [hk] at hz
      simp only [cond_false] at hz
      split at hz
      · rename_i p hp
        have hpz : p = z := by simpa using hz
        have h1 : p.one = true := hrep.one p (by rw [hp]; simp)
        rw [hp, ← hpz]
        cases p <;> first | rfl | (simp [PV.one] at h1)
      · cases hz
  have hwn := IntWalk.i64_in n (by omega)
  have hwc := IntWalk.i64_in c (by omega)
  have hmod : ∀ (k i : Nat) (d : PV), ((List.replicate k z).flatMap PV.cells)[i]? = some d → te.zero[i % te.size]? = some d := by
    intro k
    induction k with
    | zero => simp
    | succ k ih =>
      intro i d hi
      rw [List.replicate_succ, List.flatMap_cons, hzc] at hi
      rcases Nat.lt_or_ge i te.zero.length with hlt | hge
      · rw [List.getElem?_append_left hlt] at hi
        rwa [Nat.mod_eq_of_lt (by omega)]
      · rw [List.getElem?_append_right hge, hzl] at hi
        have := ih _ d hi
        rwa [← Nat.mod_eq_sub_mod (by omega)] at this
  have hnew := hm.newSlice (t := id) (sz := te.size) (cap := c.toNat) (l := List.replicate n.toNat z) (el := e) (fz := (0, 0)) (vs := (Array.range (c.toNat * te.size)).map (zv.cells[· % zv.cells.size]!)) (.inl hid) hpos
    (fun x hx => by rw [List.eq_of_mem_replicate hx, hzc, hzl]) (fun x hx d hd => by rw [List.eq_of_mem_replicate hx, hzc] at hd; exact hrep.one d hd) (by simp; omega) (by simp)
    (fun i d hi => by
      have hlt := (List.getElem?_eq_some_iff.1 hi).1
      rw [flat_length (sz := te.size) _ (fun x hx => by rw [List.eq_of_mem_replicate hx, hzc, hzl])] at hlt
      have hlt2 : i < c.toNat * te.size := Nat.lt_of_lt_of_le hlt (Nat.mul_le_mul_right _ (by simp; omega))
      obtain ⟨u, hu1, hu2, _⟩ := hrep.get (hmod _ i d hi)
      have hu3 : zv.cells[i % zv.cells.size]? = some u := by rw [hzs, ← Array.getElem?_toList, hu1]
      have : ((Array.range (c.toNat * te.size)).map (zv.cells[· % zv.cells.size]!)).getD i undef = u := by
        rw [Array.getD_eq_getD_getElem?, Array.getElem?_map]
        simp only [Array.getElem?_range, hlt2, if_true, Option.map_some, Option.getD_some]
        rw [getElem!_def, hu3]
      rw [this]
      exact hu2) (by intro o ho h0; simp at h0)
  obtain ⟨r1, r2, r3⟩ := hnew
  refine ⟨_, _, _, ?_, r1, r2, r3⟩
  unfold Instr.makeSlice
  have hby2 : ¬ ((inf.bytes : Int) * c > 2 ^ 48) := by
    have : (inf.bytes : Int) * c ≤ 65536 * 1073741824 := Int.mul_le_mul (by omega) h2 (by omega) (by omega)
    omega
  simp only [Sem.run_bind, e1, Result.andThen_ok, asInt, asIntOf, Sem.run_pure, hi1, hwn, hwc]
  rw [Sem.run_ite, if_neg (by
    simp only [Bool.or_eq_true, decide_eq_true_eq]
    omega)]
  simp only [Sem.run_bind, run_askRoom, Result.andThen_ok, hT.sizeOf w, Sem.run_ite, Sem.run_pure, hz1, newRow, run_newObj, List.length_replicate]
  by_cases hc : c.toNat * te.size = 0
  · have hr0 : ∀ f : Nat → Value, Array.map f (Array.range 0) = #[] := fun f => by simp [Array.range]
    simp only [hc, if_true, hr0]
    rfl
  · simp only [hc, if_false]
    rfl

theorem modify_push {α : Type} (a : Array α) (x : α) (f : α → α) : (a.push x).modify a.size f = a.push (f x) := by
  apply Array.ext
  · simp
  · intro i h1 h2
    rw [Array.getElem_modify]
    by_cases hi : i = a.size
    · subst hi; simp
    · rw [if_neg (fun h => hi h.symm)]
      simp at h1
      rw [Array.getElem_push_lt (by omega), Array.getElem_push_lt (by omega)]

theorem toBytes_run {C : Ctx} {w : World} {g : Gh} {m : List MU} (hm : MemSim C w g m) {e id : Nat} (s : List UInt8) (hid : getK id m = none) :
    ∃ w' g' val, (Conv.stringToBytes e ⟨⟨s⟩⟩).run C.P w = .ok val w' ∧ MemSim C w' g' (.tok id 1 (bytes s).length :: m) ∧
      Keeps w g m w' g' (.tok id 1 (bytes s).length :: m) ∧ VRel w' g' (.tok id 1 (bytes s).length :: m) (.own id 1 (bytes s)) val := by
  have hl : (bytes s).length = s.length := by simp [bytes]
  obtain ⟨hm1, hk1⟩ := hm.heap (w' := { w with drawn := w.drawn + 1 }) rfl rfl rfl rfl
  let cap := s.length + (w.tape w.drawn (.appendCap s.length 0 e)) % (2 ^ 63 - s.length)
  let vs : Array Value := (Array.mk s).map (fun b : UInt8 => Value.int .u8 b.toNat) ++ Array.replicate (cap - s.length) (.int .u8 0)
  have hcap : s.length ≤ cap := Nat.le_add_right _ _
  have hvs : vs.size = cap := by simp [vs]; omega
  have hflat : (bytes s).flatMap PV.cells = bytes s := by
    unfold bytes
    clear hl hcap hvs vs cap
    induction s with
    | nil => rfl
    | cons b r ih => simp only [List.map_cons, List.flatMap_cons, ih]; rfl
  have hnew := hm1.newSlice (t := id) (sz := 1) (cap := cap) (l := bytes s) (el := e) (fz := (cap, cap + 1)) (vs := vs) (.inl hid) (by omega)
    (fun x hx => by obtain ⟨b, _, rfl⟩ := List.mem_map.1 hx; rfl) (fun x hx c hc => by obtain ⟨b, _, rfl⟩ := List.mem_map.1 hx; simp [PV.cells] at hc; subst hc; rfl) (by rw [hl]; exact hcap) (by rw [hvs]; simp)
    (fun i c hi => by
      rw [hflat] at hi
      unfold bytes at hi
      rw [List.getElem?_map] at hi
      cases hb : s[i]? with
      | none => rw [hb] at hi; cases hi
      | some b =>
        rw [hb] at hi
        cases hi
        have hlt := (List.getElem?_eq_some_iff.1 hb).1
        have hb2 : s[i] = b := by simpa [hlt] using hb
        have : vs.getD i undef = .int .u8 b.toNat := by
          rw [Array.getD_eq_getD_getElem?, Array.getElem?_append_left (by simpa using hlt)]
          simp [hlt, hb2]
        rw [this]
        exact .int _ _) (by rw [hvs]; intro o ho h0; simp only at h0; omega)
  obtain ⟨r1, r2, r3⟩ := hnew
  refine ⟨_, _, _, ?_, r1, hk1.trans r2, r3⟩
  have hsz : (ByteArray.mk ⟨s⟩).size = s.length := rfl
  have hf : (Question.appendCap s.length 0 e).forced = false := rfl
  unfold Conv.stringToBytes
  have hsh : World.shape? { w with heap := w.heap.push (.cells vs e), drawn := w.drawn + 1 } w.heap.size = some (e, cap) := by simp [World.shape?, hvs]
  have hfz : World.freeze { w with heap := w.heap.push (.cells vs e), drawn := w.drawn + 1 } ⟨w.heap.size, cap, none⟩ 1 = World.pushed { w with drawn := w.drawn + 1 } (.cells vs e (cap, cap + 1)) := by
    unfold World.freeze World.pushed
    rw [if_neg (by omega)]
    simp only [modify_push]
    rfl
  simp only [hsz, Sem.run_bind, run_choose, hf, Bool.false_eq_true, if_false, Result.andThen_ok, newRow, run_newObj, Sem.run_pure, markStringish, run_shape, Question.cut]
  rw [show (s.length + w.tape w.drawn (.appendCap s.length 0 e) % (2 ^ 63 - s.length)) = cap from rfl]
  rw [show (Array.mk s).map (fun b : UInt8 => Value.int .u8 b.toNat) ++ Array.replicate (cap - s.length) (.int .u8 0) = vs from rfl]
  rw [hsh]
  simp only [run_freeze, hfz, Result.andThen_ok]
  rw [hl]

end Go.Pt
