/- Proved: how a frame of slots stands for a call of the machine. Conditions: none but those that stand in each lemma ahead of its colon. -/
import Derived.Test.YtkjikpcmbiebdaaDoorPtD
set_option linter.unusedVariables false
set_option linter.unusedSimpArgs false
namespace Go.Pt

structure TyIs (P : Program) (t : TypeId) (ty : Ty) : Prop where
  ex : ∃ i d z, P.info? t = some i ∧ P.underlying t = some d ∧ i.size = ty.size ∧ i.bytes = ty.bytes ∧ kindOK ty.k d = true ∧ i.zero = some z ∧ zeroOK ty.zero z.cells.toList = true
  one : ty.k.agg = false → ty.size = 1

theorem tyOK_is {P : Program} {t : TypeId} {ty : Ty} (h : tyOK P t ty = true) : TyIs P t ty := by
  unfold tyOK at h
  split at h
  · rename_i i d hi hd
    simp only [Bool.and_eq_true, beq_iff_eq, Bool.or_eq_true] at h
    obtain ⟨⟨⟨⟨h1, h2⟩, h3⟩, h4⟩, h5⟩ := h
    split at h5
    · rename_i z hz
      exact ⟨⟨i, d, z, hi, hd, h1, h2, h3, hz, h5⟩, fun ha => by rcases h4 with h4 | h4; · rw [ha] at h4; cases h4
                                                                 · exact h4⟩
    · cases h5
  · cases h

section
variable {P : Program} {t : TypeId} {ty : Ty} (w : World)

theorem TyIs.under (h : TyIs P t ty) : ∃ d, (underlying t).run P w = .ok d w ∧ kindOK ty.k d = true ∧ P.underlying t = some d := by
  obtain ⟨i, d, z, h1, h2, h3, h4, h5, h6, h7⟩ := h.ex
  exact ⟨d, run_underlying h2 w, h5, h2⟩

theorem TyIs.sizeOf (h : TyIs P t ty) : (Go.sizeOf t).run P w = .ok ty.size w := by
  obtain ⟨i, d, z, h1, h2, h3, h4, h5, h6, h7⟩ := h.ex
  simp [Go.sizeOf, typeInfo, h1, h3]

theorem TyIs.info (h : TyIs P t ty) : ∃ i, (typeInfo t).run P w = .ok i w ∧ i.bytes = ty.bytes ∧ i.size = ty.size := by
  obtain ⟨i, d, z, h1, h2, h3, h4, h5, h6, h7⟩ := h.ex
  exact ⟨i, by simp [typeInfo, h1], h4, h3⟩

theorem TyIs.zero (h : TyIs P t ty) : ∃ z, (zeroValue t).run P w = .ok z w ∧ zeroOK ty.zero z.cells.toList = true := by
  obtain ⟨i, d, z, h1, h2, h3, h4, h5, h6, h7⟩ := h.ex
  exact ⟨z, by simp [zeroValue, typeInfo, h1, h6], h7⟩

theorem TyIs.isAgg (h : TyIs P t ty) : (Go.isAgg t).run P w = .ok ty.k.agg w := by
  obtain ⟨d, h1, h2, h3⟩ := h.under w
  simp only [Go.isAgg, Sem.run_bind, h1, Result.andThen_ok]
  cases hk : ty.k <;> rw [hk] at h2 <;> cases d <;> first | (simp [kindOK] at h2; done) | rfl
end

/-- What a slot reads as. -/
def FrameRel (w : World) (g : Gh) (m : List MU) (fr : List (Nat × V)) (a : Act) : Prop :=
  ∀ n v, getT n fr = some v → n < a.tmps.size ∧ VRel w g m v (a.tmps.getD n undef)

theorem constV_rel {w : World} {g : Gh} {m : List MU} {c : Value} {v : V} (h : constV c = some v) : VRel w g m v c := by
  unfold constV at h
  split at h <;> cases h
  · exact .pv _ _ (.int _ _)
  · exact .pv _ _ (.bool _)
  · rename_i s
    obtain ⟨⟨l⟩⟩ := s
    exact .pv _ _ (.str l)
  · exact .pv _ _ (.nil _ _ _)
  · exact .pv _ _ .nilp
  · exact .pv _ _ .nilfn
  · exact .pv _ _ .nili

theorem ev_rel {C : Ctx} {w : World} {g : Gh} {m : List MU} {fr : List (Nat × V)} {a : Act} (hm : MemSim C w g m) (hf : FrameRel w g m fr a) {x : Operand} {v : V}
    (h : ev C.toEnv fr x = some v) : VRel w g m v (a.eval x) := by
  cases x with
  | tmp t => exact (hf t v h).2
  | const c => exact constV_rel h
  | global gl =>
    simp only [ev] at h
    split at h
    · rename_i cells hc
      cases h
      exact hm.glob gl cells hc
    · cases h
  | func f => cases h; exact .pv _ _ (.fn f)

theorem toPV_rel {w : World} {g : Gh} {m : List MU} {v : V} {p : PV} {val : Value} (h : v.toPV = some p) (r : VRel w g m v val) : Rep w g.D p val := by
  cases r with
  | pv p' val hr => cases h; exact hr
  | own t sz l v n hr _ _ _ => cases h; exact hr
  | ptr b off hb => cases h
  | ip cells b off vs hc ho => cases h
  | clo f a b va vb _ _ _ _ => cases h
  | undef v => cases h

theorem slOf_rel {w : World} {g : Gh} {m : List MU} {v : V} {sz : Nat} {l : List PV} {val : Value} (h : slOf v = some (sz, l)) (r : VRel w g m v val) : Rep w g.D (.sl sz l) val := by
  refine toPV_rel (p := .sl sz l) ?_ r
  cases v with
  | pv p => cases p <;> simp [slOf, V.toPV] at h ⊢; exact h
  | own t sz' l' => simp [slOf, V.toPV] at h ⊢; exact h
  | _ => simp [slOf] at h

theorem pv_rel {w : World} {g : Gh} {m : List MU} {p : PV} {val : Value} (r : VRel w g m (.pv p) val) : Rep w g.D p val := toPV_rel rfl r

theorem add_none (b off n : Nat) : (⟨b, off, none⟩ : Addr).add n = ⟨b, off + n, none⟩ := by
  unfold Addr.add
  split
  · subst_vars; rfl
  · rfl

theorem rep_int {w : World} {D} {k : IntKind} {n : Int} {v : Value} (h : Rep w D (.int k n) v) : v = .int k n := by cases h; rfl
theorem rep_bool {w : World} {D} {b : Bool} {v : Value} (h : Rep w D (.bool b) v) : v = .bool b := by cases h; rfl
theorem rep_str {w : World} {D} {s : List UInt8} {v : Value} (h : Rep w D (.str s) v) : v = .string ⟨⟨s⟩⟩ := by cases h; rfl

theorem toList_mk (s : List UInt8) : (ByteArray.mk ⟨s⟩).toList = s := by rw [ByteArray.toList_eq]

/-- The two-place operations on numbers and texts. -/
theorem binPV_run {P : Program} {w : World} {D} {op : BinOp} {x y r : PV} {p : Prop} {a b : Value} (h : binPV op x y = some (p, r)) (hp : p) (ha : Rep w D x a) (hb : Rep w D y b)
    (t : TypeId) : ∃ v, (binOp op t a b).run P w = .ok v w ∧ Rep w D r v := by
  unfold binPV at h
  split at h
  · rename_i k a k2 b
    cases rep_int ha
    cases rep_int hb
    cases op <;> simp only [Option.some.injEq, Prod.mk.injEq] at h <;> obtain ⟨rfl, rfl⟩ := h
    all_goals first
      | (subst hp; refine ⟨_, ?_, by first | exact .int _ _ | exact .bool _⟩; simp [binOp, Op.intArith, Op.intBits, Op.intCmp]; done)
      | skip
    · obtain ⟨rfl, h0⟩ := hp
      exact ⟨_, by simp [binOp, Op.intDiv, h0], .int _ _⟩
    · obtain ⟨rfl, h0⟩ := hp
      exact ⟨_, by simp [binOp, Op.intDiv, h0], .int _ _⟩
    · exact ⟨_, by simp [binOp, Op.shift, Int.not_lt.2 hp], .int _ _⟩
    · exact ⟨_, by simp [binOp, Op.shift, Int.not_lt.2 hp], .int _ _⟩
  · rename_i a b
    cases rep_str ha
    cases rep_str hb
    cases op <;> simp only [Option.some.injEq, Prod.mk.injEq, reduceCtorEq] at h <;> obtain ⟨rfl, rfl⟩ := h
    · refine ⟨.string ⟨⟨a ++ b⟩⟩, ?_, .str _⟩
      have h2 : ¬ (((ByteArray.mk ⟨a⟩).size + (ByteArray.mk ⟨b⟩).size : Nat) : Int) > IntKind.i64.max := by
        show ¬ ((a.length + b.length : Nat) : Int) > 9223372036854775807
        unfold Small at hp
        omega
      simp only [binOp, Op.stringOp, h2, if_false, Sem.run_pure]
      have e : (ByteArray.mk ⟨a⟩ ++ ByteArray.mk ⟨b⟩) = ⟨⟨a ++ b⟩⟩ := by apply ByteArray.ext; simp
      rw [e]
    · exact ⟨_, by simp [binOp, Op.stringOp], .bool _⟩
    · exact ⟨_, by simp [binOp, Op.stringOp], .bool _⟩
  · cases h

end Go.Pt
