/- Proved: what quiet operations answer in every such world. Conditions: none but those that stand in each lemma ahead of its colon. -/
import Derived.Test.YtkjikpcmbiebdaaDoorPtH
set_option linter.unusedVariables false
set_option linter.unusedSimpArgs false
namespace Go.Pt

theorem eval_map {P : Program} {a : Act} {w : World} {o : Oper} {s : Sem Value} {v : Value} (he : execOp a.eval o = (do pure (Next.value (← s)))) (hs : s.run P w = .ok v w) : Runs P o a w w v := by
  unfold Runs
  rw [he]
  simp [hs]

theorem eqGuard_run {P : Program} {w : World} {op : BinOp} {t : TypeId} {x y : Operand} {a b : Value} (hn : a ≠ .nilIface) (hg : ∀ c, a ≠ .agg c) :
    (eqGuard op t x y a b).run P w = .ok () w := by
  unfold eqGuard
  cases a with
  | nilIface => exact absurd rfl hn
  | agg c => exact absurd rfl (hg c)
  | _ => cases op <;> rfl

theorem equalIn_bool {P : Program} {w : World} {t : TypeId} {d : Nat} {a b : Bool} (h : (underlying t).run P w = .ok .bool w) :
    (Op.equalIn (d + 1) t (.bool a) (.bool b)).run P w = .ok (a == b) w := by
  unfold Op.equalIn
  simp only [Sem.run_bind, h, Result.andThen_ok, Sem.run_pure]

theorem equal_bool {P : Program} {w : World} {t : TypeId} {a b : Bool} (h : (underlying t).run P w = .ok .bool w) :
    (Op.equal t (.bool a) (.bool b)).run P w = .ok (a == b) w := equalIn_bool (d := 9999) h

theorem eql_bool {P : Program} {w : World} {t : TypeId} {a b : Bool} (h : (underlying t).run P w = .ok .bool w) :
    (binOp .eql t (.bool a) (.bool b)).run P w = .ok (.bool (a == b)) w ∧ (binOp .neq t (.bool a) (.bool b)).run P w = .ok (.bool (!(a == b))) w := by
  have h1 := equal_bool (a := a) (b := b) h
  constructor
  · show ((do pure (.bool (← Op.equal t (.bool a) (.bool b))) : Sem Value)).run P w = _
    simp only [Sem.run_bind, h1, Result.andThen_ok, Sem.run_pure]
  · show ((do pure (.bool (!(← Op.equal t (.bool a) (.bool b)))) : Sem Value)).run P w = _
    simp only [Sem.run_bind, h1, Result.andThen_ok, Sem.run_pure]

set_option maxHeartbeats 2000000 in
theorem pop_sound {C : Ctx} {w : World} {g : Gh} {m : List MU} {fr : List (Nat × V)} {a : Act} (hm : MemSim C w g m) (hf : FrameRel w g m fr a) {o : Oper} {p : Prop} {v : V}
    (h : pop C.toEnv fr o = some (p, v)) (hp : p) : ∃ val, Runs C.P o a w w val ∧ VRel w g m v val := by
  obtain ⟨dst, op, type, pos, after, guard⟩ := o
  unfold pop at h
  split at h
  -- move
  · rename_i x hop
    subst hop
    split at h
    · rename_i u hu
      cases h
      exact ⟨a.eval x, rfl, ev_rel hm hf hu⟩
    · cases h
  · rename_i x hop
    subst hop
    split at h
    · rename_i u hu
      cases h
      exact ⟨a.eval x, rfl, ev_rel hm hf hu⟩
    · cases h
  -- nilCheck
  · rename_i x hop
    subst hop
    split at h <;> (try (cases h; done))
    all_goals (rename_i hu; cases h; have hr := ev_rel hm hf hu; refine ⟨a.eval x, ?_, hr⟩; unfold Runs; simp only [execOp])
    · generalize a.eval x = z at hr
      cases hr; rfl
    · generalize a.eval x = z at hr
      cases hr; rfl
    · generalize a.eval x = z at hr
      cases pv_rel hr; rfl
    · generalize a.eval x = z at hr
      cases hr; rfl
  -- binOp
  · rename_i bop xt x y yt hop
    subst hop
    split at h
    · rename_i b1 b2 h1 h2
      have r1 := rep_bool (pv_rel (ev_rel hm hf h1))
      have r2 := rep_bool (pv_rel (ev_rel hm hf h2))
      split at h
      · rename_i ty hty
        obtain ⟨d, hd1, hd2⟩ := run_underlying_ty (w := w) hty
        split at h <;> (try (cases h; done))
        all_goals (rename_i hk; cases h; rw [hk] at hd2; cases kind_bool hd2)
        · refine ⟨.bool (b1 == b2), ?_, .pv _ _ (.bool _)⟩
          refine eval_map rfl ?_
          simp only [Sem.run_bind]
          rw [r1, r2, eqGuard_run (by simp) (by simp)]
          exact (eql_bool hd1).1
        · refine ⟨.bool (!(b1 == b2)), ?_, .pv _ _ (.bool _)⟩
          refine eval_map rfl ?_
          simp only [Sem.run_bind]
          rw [r1, r2, eqGuard_run (by simp) (by simp)]
          exact (eql_bool hd1).2
      · cases h
    · rename_i p1 p2 hnb h1 h2
      split at h
      · rename_i q r hb
        cases h
        have r1 := pv_rel (ev_rel hm hf h1)
        have r2 := pv_rel (ev_rel hm hf h2)
        obtain ⟨u, hu1, hu2⟩ := binPV_run (P := C.P) hb hp r1 r2 xt
        refine ⟨u, ?_, .pv _ _ hu2⟩
        refine eval_map rfl ?_
        have hg : (eqGuard bop xt x y (a.eval x) (a.eval y)).run C.P w = .ok () w := by
          refine eqGuard_run ?_ ?_
          all_goals (cases p1 <;> first | (simp [binPV] at hb; done) | skip)
          · rw [rep_int r1]; simp
          · rw [rep_str r1]; simp
          · rw [rep_int r1]; simp
          · rw [rep_str r1]; simp
        simp only [Sem.run_bind, hg, Result.andThen_ok, hu1]
      · cases h
    · cases h
  -- unOp
  · rename_i uop t x hop
    subst hop
    split at h <;> (try (cases h; done))
    · rename_i b hu
      cases h
      have r := rep_bool (pv_rel (ev_rel hm hf hu))
      exact ⟨.bool (!b), eval_map rfl (by rw [r]; rfl), .pv _ _ (.bool _)⟩
    · rename_i k n hu
      cases h
      have r := rep_int (pv_rel (ev_rel hm hf hu))
      exact ⟨.int k _, eval_map rfl (by rw [r]; rfl), .pv _ _ (.int _ _)⟩
  -- convert
  · rename_i src dst' x hop
    subst hop
    split at h
    · rename_i k n s d hu hs hd
      split at h
      · rename_i k1 k2 hk1 hk2
        cases h
        have r := rep_int (pv_rel (ev_rel hm hf hu))
        obtain ⟨d1, e1, e2⟩ := run_underlying_ty (w := w) hs
        obtain ⟨d2, f1, f2⟩ := run_underlying_ty (w := w) hd
        rw [hk1] at e2
        rw [hk2] at f2
        cases kind_int e2
        cases kind_int f2
        exact ⟨.int k2 _, eval_map rfl (by simp only [convert, Sem.run_bind, e1, f1, Result.andThen_ok, r]; rfl), .pv _ _ (.int _ _)⟩
      · cases h
    · rename_i s st d hu hs hd
      split at h
      · rename_i hk1 hk2
        cases h
        have r := rep_str (pv_rel (ev_rel hm hf hu))
        obtain ⟨d1, e1, e2⟩ := run_underlying_ty (w := w) hs
        obtain ⟨d2, f1, f2⟩ := run_underlying_ty (w := w) hd
        rw [hk1] at e2
        rw [hk2] at f2
        cases kind_str e2
        cases kind_str f2
        exact ⟨_, eval_map rfl (by simp only [convert, Sem.run_bind, e1, f1, Result.andThen_ok, r]; rfl), .pv _ _ (.str _)⟩
      · cases h
    · cases h
  -- build
  · rename_i t parts hop
    subst hop
    split at h
    · rename_i ty l hty hl
      split at h
      · rename_i fs hk
        cases hb : (allT C.toEnv fs && noTup l) with
        | false => rw [hb] at h; cases h
        | true =>
          rw [hb] at h
          simp only [Bool.and_eq_true] at hb
          simp only [cond_true] at h
          split at h
          · rename_i cs hfill
            cases h
            obtain ⟨v, h1, h2⟩ := build_run hm hf hty hl hb.2 hfill (.inl ⟨fs, hk, hb.1, rfl⟩)
            exact ⟨v, eval_map rfl h1, .pv _ _ h2⟩
          · cases h
      · rename_i n e hk
        split at h
        · rename_i sz hsz
          cases hb : noTup l with
          | false => rw [hb] at h; cases h
          | true =>
            rw [hb] at h
            simp only [cond_true] at h
            split at h
            · rename_i cs hfill
              cases h
              obtain ⟨v, h1, h2⟩ := build_run hm hf hty hl hb hfill (.inr ⟨n, e, sz, hk, hsz, rfl⟩)
              exact ⟨v, eval_map rfl h1, .pv _ _ h2⟩
            · cases h
        · cases h
      · cases h
    · cases h
  -- field
  · rename_i t x f hop
    subst hop
    split at h
    · rename_i ty cs hty hu
      split at h
      · rename_i fs hk
        split at h
        · rename_i off ft hfs
          split at h
          · rename_i q hq
            cases h
            obtain ⟨vs, hv, hr⟩ := rep_agg (pv_rel (ev_rel hm hf hu))
            obtain ⟨u, hu1, hu2⟩ := part_run (w := w) hq hr
            obtain ⟨d1, e1, e2⟩ := run_underlying_ty (w := w) hty
            rw [hk] at e2
            obtain ⟨fl, rfl, hfl⟩ := kind_struct e2
            obtain ⟨z, hz1, hz2, hz3⟩ := field_of hfl hfs
            refine ⟨u, eval_map rfl ?_, .pv _ _ hu2⟩
            simp only [Instr.field, Sem.run_bind, e1, Result.andThen_ok, hz1, hv, asAgg, Sem.run_pure, hz2, hz3, hu1]
          · cases h
        · cases h
      · cases h
    · cases h
  -- extract
  · rename_i x i hop
    subst hop
    split at h
    · rename_i l hu
      split at h
      · rename_i q hq
        cases h
        obtain ⟨vs, hv, hl, hr⟩ := rep_tup (pv_rel (ev_rel hm hf hu))
        have hi : i < vs.length := by rw [← hl]; exact (List.getElem?_eq_some_iff.1 hq).1
        have hvi : vs[i]? = some vs[i] := by simp [hi]
        refine ⟨vs[i], eval_map rfl ?_, .pv _ _ (hr i q _ hq hvi)⟩
        rw [hv]
        simp [Instr.extract, hi]
      · cases h
    · cases h
  -- index
  · rename_i t x i hop
    subst hop
    split at h
    · rename_i ty s k n hty hu hi
      split at h
      · rename_i hk
        cases h
        have r := rep_str (pv_rel (ev_rel hm hf hu))
        have r2 := rep_int (pv_rel (ev_rel hm hf hi))
        obtain ⟨d1, e1, e2⟩ := run_underlying_ty (w := w) hty
        rw [hk] at e2
        cases kind_str e2
        obtain ⟨p1, p2⟩ := hp
        have hlt : n.toNat < s.length := by omega
        have hb : (ByteArray.mk ⟨s⟩)[n.toNat]? = some s[n.toNat] := by
          rw [getElem?_pos (ByteArray.mk ⟨s⟩) n.toNat (show n.toNat < (ByteArray.mk ⟨s⟩).size from hlt)]
          rfl
        refine ⟨.int .u8 _, eval_map rfl ?_, .pv _ _ (.int _ _)⟩
        rw [r, r2]
        simp only [Instr.index, asIntOf, Sem.run_bind, Sem.run_pure, Result.andThen_ok, e1, p1, if_true, hb]
        simp [List.getD, hlt]
      · cases h
    · cases h
  -- fieldAddr
  · rename_i t x f hop
    subst hop
    split at h
    · rename_i ty u hty hu
      split at h
      · rename_i fs hk
        split at h
        · rename_i off ft hfs
          split at h
          · rename_i n hsz
            obtain ⟨d1, e1, e2⟩ := run_underlying_ty (w := w) hty
            rw [hk] at e2
            obtain ⟨fl, rfl, hfl⟩ := kind_struct e2
            obtain ⟨z, hz1, hz2, hz3⟩ := field_of hfl hfs
            have hr := ev_rel hm hf hu
            have hrun : ∀ b o', a.eval x = .pointer (some ⟨b, o', none⟩) → Runs C.P ⟨dst, .fieldAddr t x f, type, pos, after, guard⟩ a w w (.pointer (some ⟨b, o' + off, none⟩)) := by
              intro b o' he
              refine eval_map rfl ?_
              simp only [Instr.fieldAt, Sem.run_bind, e1, Result.andThen_ok, hz1, he, Instr.sureAddr, Sem.run_pure, fieldPlace, hz3, sizeT_run hsz w]
              simp [hz2, add_none]
            split at h
            · rename_i b o'
              cases h
              generalize hz : a.eval x = val at hr
              cases hr with
              | ptr _ _ hb => exact ⟨_, hrun _ _ hz, .ptr b (o' + off) hb⟩
            · rename_i cs
              simp only [forceL_eq, Option.some.injEq, Prod.mk.injEq] at h
              obtain ⟨_, rfl⟩ := h
              generalize hz : a.eval x = val at hr
              cases hr with
              | ip _ b o' vs hc hone =>
                refine ⟨_, hrun _ _ hz, .ip _ b (o' + off) (fun i => vs (off + i)) (fun i c hi => ?_) (fun c hc' => hone c (List.mem_of_mem_drop hc'))⟩
                rw [List.getElem?_drop] at hi
                rw [Nat.add_assoc]
                exact hc _ c hi
            · cases h
          · cases h
        · cases h
      · cases h
    · cases h
  -- indexAddr
  · rename_i t x i hop
    subst hop
    split at h
    · rename_i ty u k n hty hu hi
      have r2 := rep_int (pv_rel (ev_rel hm hf hi))
      obtain ⟨d1, e1, e2⟩ := run_underlying_ty (w := w) hty
      have hr := ev_rel hm hf hu
      split at h
      · rename_i e hk
        rw [hk] at e2
        cases kind_slice e2
        split at h
        · rename_i te sz l hte hsl
          obtain ⟨hb, h⟩ := bif_some h
          cases h
          have hsz : sizeT C.toEnv e = some te.size := by unfold sizeT; rw [hte]
          have : te.size = sz := by simpa using hb
          subst this
          obtain ⟨⟨p1, p2⟩, p3⟩ := hp
          have hlt : n.toNat < l.length := by omega
          have hrep := slOf_rel hsl hr
          obtain ⟨ad, cap, hv, hcap, hne⟩ := rep_sl_shape hrep
          obtain ⟨b, off, rfl⟩ := hne (by intro h0; rw [h0] at hlt; simp at hlt)
          rw [hv] at hrep
          rw [← p3]
          refine ⟨_, eval_map rfl ?_, elem_ip hrep hlt⟩
          rw [r2, hv]
          simp [Instr.indexAt, asIntOf, e1, p1, p2, sizeT_run hsz w, add_none]
        · cases h
      · rename_i len e hk
        rw [hk] at e2
        cases kind_arr e2
        have hrun : ∀ b o' sz, Inb n len → sizeT C.toEnv e = some sz → a.eval x = .pointer (some ⟨b, o', none⟩) →
            Runs C.P ⟨dst, .indexAddr t x i, type, pos, after, guard⟩ a w w (.pointer (some ⟨b, o' + n.toNat * sz, none⟩)) := by
          intro b o' sz hin hsz he
          obtain ⟨p1, p2⟩ := hin
          refine eval_map rfl ?_
          rw [r2, he]
          simp [Instr.indexAt, Instr.sureAddr, asIntOf, e1, p1, p2, sizeT_run hsz w, add_none]
        split at h
        · rename_i te b o' hte
          cases h
          have hsz : sizeT C.toEnv e = some te.size := by unfold sizeT; rw [hte]
          generalize hz : a.eval x = val at hr
          cases hr with
          | ptr _ _ hb => exact ⟨_, hrun _ _ _ hp hsz hz, .ptr b _ hb⟩
        · rename_i te cs hte
          cases h
          have hsz : sizeT C.toEnv e = some te.size := by unfold sizeT; rw [hte]
          obtain ⟨hp, p3⟩ := hp
          generalize hz : a.eval x = val at hr
          rw [← p3]
          cases hr with
          | ip _ b o' vs hc hone =>
            refine ⟨_, hrun _ _ _ hp hsz hz, .ip _ b (o' + n.toNat * te.size) (fun i => vs (n.toNat * te.size + i)) (fun i c hi => ?_) (fun c hc' => hone c (List.mem_of_mem_drop (List.mem_of_mem_take hc')))⟩
            rw [List.getElem?_take] at hi
            split at hi
            · rw [List.getElem?_drop] at hi
              rw [Nat.add_assoc]
              exact hc _ c hi
            · cases hi
        · cases h
      · cases h
    · cases h
  -- load
  · rename_i t x hop
    subst hop
    split at h
    · rename_i cs hu
      split at h
      · rename_i q hq
        cases h
        obtain ⟨v, h1, h2⟩ := load_ip (E := C.toEnv) hq (ev_rel hm hf hu)
        exact ⟨v, eval_map rfl h1, .pv _ _ h2⟩
      · cases h
    · cases h
  -- slice
  · rename_i t x lo hi hop
    subst hop
    split at h
    · rename_i ty u hty hu
      obtain ⟨d1, e1, e2⟩ := run_underlying_ty (w := w) hty
      have hr := ev_rel hm hf hu
      split at h
      · rename_i s hk
        rw [hk] at e2
        cases kind_str e2
        split at h
        · rename_i l hh hl hh'
          cases h
          have r := rep_str (pv_rel hr)
          have hb := bounds_run hm hf false hl hh' hp (Nat.le_refl s.length)
          refine ⟨.string ⟨⟨(s.take hh.toNat).drop l.toNat⟩⟩, eval_map rfl ?_, .pv _ _ (.str _)⟩
          have e : (ByteArray.mk ⟨s⟩).extract l.toNat hh.toNat = ⟨⟨(s.take hh.toNat).drop l.toNat⟩⟩ := by
            apply ByteArray.ext
            apply Array.ext'
            simp [List.drop_take]
          have hs : (ByteArray.mk ⟨s⟩).size = s.length := rfl
          rw [r]
          simp only [Instr.sliceAt, Instr.slice, Sem.run_bind, e1, Result.andThen_ok, Option.map_none, Option.isSome_none, Bool.false_eq_true, if_false, Sem.run_pure, hs, hb, e]
        · cases h
      · rename_i e hk
        rw [hk] at e2
        cases kind_slice e2
        split at h
        · rename_i n' sz xs hsz hsl
          split at h
          · rename_i l hh hl hh'
            cases hb : (n' == sz) with
            | false => rw [hb] at h; cases h
            | true =>
              rw [hb] at h
              cases h
              have : n' = sz := by simpa using hb
              subst this
              have hrep := slOf_rel hsl hr
              obtain ⟨ad, cap, hv, hcap, hne⟩ := rep_sl_shape hrep
              have hbd := bounds_run hm hf true hl hh' hp hcap
              rw [hv] at hrep
              have hsub := subslice_rep hrep (lo := l.toNat) (hi := hh.toNat) (by have := hp.2.1; omega) (by have := hp.2.2; omega) (.inl ⟨rfl, hcap⟩)
              refine ⟨_, eval_map rfl ?_, .pv _ _ hsub⟩
              rw [hv]
              simp only [Instr.sliceAt, Instr.slice, Sem.run_bind, e1, Result.andThen_ok, Option.map_none, hbd, sizeT_run hsz w, Sem.run_pure]
          · cases h
        · cases h
      · cases h
    · cases h
  -- makeInterface
  · rename_i t x hop
    subst hop
    split at h
    · rename_i u ty hu hty
      split at h
      · rename_i q hq
        cases h
        obtain ⟨d1, e1, e2⟩ := run_underlying_ty (w := w) hty
        refine ⟨.iface t (a.eval x), eval_map rfl ?_, .pv _ _ (.iface t q _ (toPV_rel hq (ev_rel hm hf hu)))⟩
        simp only [Instr.makeInterface, Sem.run_bind, e1, Result.andThen_ok]
        cases d1 <;> first | rfl | (exfalso; cases hk : ty.k <;> rw [hk] at e2 <;> simp [kindOK] at e2)
      · cases h
    · cases h
  -- len
  · rename_i args ats hop
    subst hop
    split at h
    · rename_i x t ha hats
      split at h
      · rename_i u hu
        split at h
        · rename_i n hn
          cases h
          have hlen := lenOf_run hn (ev_rel hm hf hu) type
          refine ⟨.int .i64 n, ?_, .pv _ _ (.int _ _)⟩
          unfold Runs
          have e1 : args = #[x] := by apply Array.ext'; exact ha
          have e2 : ats = #[t] := by apply Array.ext'; exact hats
          subst e1
          subst e2
          simp only [execOp, resolve, Sem.run_bind, Sem.run_pure, Result.andThen_ok, invoke, builtin, List.map_toArray, List.map_cons, List.map_nil, hlen]
        · cases h
      · cases h
    · cases h
  -- min
  · rename_i args ats hop
    subst hop
    split at h
    · rename_i x y ha
      split at h
      · rename_i k1 a1 k2 b1 hu1 hu2
        cases h
        have r1 := rep_int (pv_rel (ev_rel hm hf hu1))
        have r2 := rep_int (pv_rel (ev_rel hm hf hu2))
        have e1 : args = #[x, y] := by apply Array.ext'; exact ha
        subst e1
        refine ⟨.int k1 _, ?_, .pv _ _ (.int _ _)⟩
        unfold Runs
        simp only [execOp, resolve, Sem.run_bind, Sem.run_pure, Result.andThen_ok, invoke, builtin, List.map_toArray, List.map_cons, List.map_nil, r1, r2]
        rfl
      · cases h
    · cases h
  -- max
  · rename_i args ats hop
    subst hop
    split at h
    · rename_i x y ha
      split at h
      · rename_i k1 a1 k2 b1 hu1 hu2
        cases h
        have r1 := rep_int (pv_rel (ev_rel hm hf hu1))
        have r2 := rep_int (pv_rel (ev_rel hm hf hu2))
        have e1 : args = #[x, y] := by apply Array.ext'; exact ha
        subst e1
        refine ⟨.int k1 _, ?_, .pv _ _ (.int _ _)⟩
        unfold Runs
        simp only [execOp, resolve, Sem.run_bind, Sem.run_pure, Result.andThen_ok, invoke, builtin, List.map_toArray, List.map_cons, List.map_nil, r1, r2]
        rfl
      · cases h
    · cases h
  · cases h

end Go.Pt
