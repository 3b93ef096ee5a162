/- Proved: that bytes become a text, and what elements of a list read as. Conditions: none but those that stand in each lemma ahead of its colon. -/
import Derived.Test.YtkjikpcmbiebdaaDoorPtZ
set_option linter.unusedVariables false
set_option linter.unusedSimpArgs false
namespace Go.Pt

theorem Run.hereOps {E : Env} {ks : List Item} {s : St} {Q : St → Prop} {full : Array Oper} {o : Oper} {rest : List Oper} (h : Run E (.ops full (o :: rest) :: ks) s Q) : Run E (.ops full (o :: rest) :: ks) s Q := h
theorem tf {P : Prop} (h : true = false) : P := nomatch h
theorem ft {P : Prop} (h : false = true) : P := nomatch h
theorem Run.hereSeq {E : Env} {ks : List Item} {s : St} {Q : St → Prop} {a b : Code} (h : Run E (.code (.seq a b) :: ks) s Q) : Run E (.code (.seq a b) :: ks) s Q := h
theorem Run.hereSkip {E : Env} {ks : List Item} {s : St} {Q : St → Prop} (h : Run E (.code .skip :: ks) s Q) : Run E (.code .skip :: ks) s Q := h
theorem Run.hereReg {E : Env} {ks : List Item} {s : St} {Q : St → Prop} {id : Nat} {ops : Array Oper} (h : Run E (.code (.region id ops false) :: ks) s Q) : Run E (.code (.region id ops false) :: ks) s Q := h
theorem Run.hereDraw {E : Env} {ks : List Item} {s : St} {Q : St → Prop} {id : Nat} {ops : Array Oper} (h : Run E (.code (.region id ops true) :: ks) s Q) : Run E (.code (.region id ops true) :: ks) s Q := h
theorem Run.hereBlock {E : Env} {ks : List Item} {s : St} {Q : St → Prop} {id : Nat} {c : Code} (h : Run E (.code (.block id c) :: ks) s Q) : Run E (.code (.block id c) :: ks) s Q := h
theorem Run.hereExit {E : Env} {ks : List Item} {s : St} {Q : St → Prop} {id : Nat} (h : Run E (.code (.exit id) :: ks) s Q) : Run E (.code (.exit id) :: ks) s Q := h
theorem Run.hereInBlock {E : Env} {ks : List Item} {s : St} {Q : St → Prop} {id : Nat} (h : Run E (.block id :: ks) s Q) : Run E (.block id :: ks) s Q := h
theorem Run.hereNil {E : Env} {ks : List Item} {s : St} {Q : St → Prop} {full : Array Oper} (h : Run E (.ops full [] :: ks) s Q) : Run E (.ops full [] :: ks) s Q := h
theorem Run.hereLoop {E : Env} {ks : List Item} {s : St} {Q : St → Prop} {c : Code} (h : Run E (.code (.loop c) :: ks) s Q) : Run E (.code (.loop c) :: ks) s Q := h
theorem Run.hereCond {E : Env} {ks : List Item} {s : St} {Q : St → Prop} {c : Operand} {x y : Code} (h : Run E (.code (.cond c x y) :: ks) s Q) : Run E (.code (.cond c x y) :: ks) s Q := h
theorem Run.hereRet {E : Env} {ks : List Item} {s : St} {Q : St → Prop} (h : Run E (.code .ret :: ks) s Q) : Run E (.code .ret :: ks) s Q := h

theorem Run.gpassT {E : Env} {ks : List Item} {Q : St → Prop} {n d j d' : Nat} {fr : List (Nat × V)} {mem : List MU} {full : Array Oper} {o : Oper} {rest : List Oper} {b : Bool} (hg : o.guard = some (j, true))
    (hj : (full[j]?).bind (·.dst) = some d) (hd : getT d fr = some (.pv (.bool b))) (hb : b = false) (hd' : o.dst = some d') (hn : Nat.blt d' n = true)
    (h : Run E (.ops full rest :: ks) ⟨(d', .pv (.tup [])) :: fr, mem, n⟩ Q) : Run E (.ops full (o :: rest) :: ks) ⟨fr, mem, n⟩ Q := Run.gpass hg hj hd hb hd' hn h
theorem Run.gpassF {E : Env} {ks : List Item} {Q : St → Prop} {n d j d' : Nat} {fr : List (Nat × V)} {mem : List MU} {full : Array Oper} {o : Oper} {rest : List Oper} {b : Bool} (hg : o.guard = some (j, false))
    (hj : (full[j]?).bind (·.dst) = some d) (hd : getT d fr = some (.pv (.bool b))) (hb : b = true) (hd' : o.dst = some d') (hn : Nat.blt d' n = true)
    (h : Run E (.ops full rest :: ks) ⟨(d', .pv (.tup [])) :: fr, mem, n⟩ Q) : Run E (.ops full (o :: rest) :: ks) ⟨fr, mem, n⟩ Q := Run.gpass hg hj hd hb hd' hn h
theorem Run.gsplitB {E : Env} {ks : List Item} {Q : St → Prop} {n d j : Nat} {fr : List (Nat × V)} {mem : List MU} {full : Array Oper} {o : Oper} {rest : List Oper} {want b : Bool} (_hg : o.guard = some (j, want))
    (_hj : (full[j]?).bind (·.dst) = some d) (_hd : getT d fr = some (.pv (.bool b))) (h1 : b = true → Run E (.ops full (o :: rest) :: ks) ⟨fr, mem, n⟩ Q) (h2 : b = false → Run E (.ops full (o :: rest) :: ks) ⟨fr, mem, n⟩ Q) :
    Run E (.ops full (o :: rest) :: ks) ⟨fr, mem, n⟩ Q := by
  cases b
  · exact h2 rfl
  · exact h1 rfl

theorem eta_all {te : Ty} {l : List PV} {i : Int} (h : ∀ q ∈ l, q.cells = etaE te q) (hi : Inb i l.length) : (l.getD i.toNat default).cells = etaE te (l.getD i.toNat default) := by
  obtain ⟨h1, h2⟩ := hi
  have hlt : i.toNat < l.length := by omega
  rw [List.getD_eq_getElem?_getD, List.getElem?_eq_getElem hlt, Option.getD_some]
  exact h _ (List.getElem_mem hlt)

theorem eta_map {α : Type} {te : Ty} {l : List α} {f : α → PV} {i : Int} (h : ∀ x, (f x).cells = etaE te (f x)) (hi : Inb i (l.map f).length) :
    ((l.map f).getD i.toNat default).cells = etaE te ((l.map f).getD i.toNat default) :=
  eta_all (fun q hq => by obtain ⟨x, _, rfl⟩ := List.mem_map.1 hq; exact h x) hi

@[simp] theorem toI_int (k : IntKind) (n : Int) : toI (.int k n) = n := rfl
@[simp] theorem toB_bool (b : Bool) : toB (.bool b) = b := rfl
@[simp] theorem toS_str (s : List UInt8) : toS (.str s) = s := rfl
@[simp] theorem toL_sl (sz : Nat) (l : List PV) : toL (.sl sz l) = l := rfl

theorem toI_map {k : IntKind} (l : List Int) (i : Nat) : toI ((l.map (PV.int k)).getD i default) = l.getD i 0 := by
  simp only [List.getD_eq_getElem?_getD, List.getElem?_map]
  cases l[i]? <;> rfl

theorem toI_bytes (l : List UInt8) (i : Nat) : toI ((bytes l).getD i default) = ((l.getD i 0).toNat : Int) := by
  simp only [bytes, List.getD_eq_getElem?_getD, List.getElem?_map]
  cases l[i]? <;> rfl

theorem toS_map (l : List (List UInt8)) (i : Nat) : toS ((l.map PV.str).getD i default) = l.getD i [] := by
  simp only [List.getD_eq_getElem?_getD, List.getElem?_map]
  cases l[i]? <;> rfl

theorem toL_map {α : Type} {sz : Nat} {f : α → List PV} (l : List α) (i : Nat) (h : i < l.length) : toL ((l.map fun x => PV.sl sz (f x)).getD i default) = f l[i] := by
  simp [List.getD_eq_getElem?_getD, h, toL]

theorem wrap_i64_of {n : Int} (h1 : -9223372036854775808 ≤ n) (h2 : n < 9223372036854775808) : IntKind.i64.wrap n = n := by
  rw [IntKind.wrap_i64]; omega

theorem LeFr.eq {n : Nat} {u v : V} {fr fr' : List (Nat × V)} (h : getT n fr' = some u) (e : u = v) (r : LeFr fr fr') : LeFr ((n, v) :: fr) fr' := LeFr.cons (h.trans (by rw [e])) r
theorem LeMem.eq {b : Nat} {cs cs' : List V} {m m' : List MU} (h : getB b m' = some cs') (e : cs' = cs) (r : LeMem m m') : LeMem (.blk b cs :: m) m' := LeMem.blk (h.trans (by rw [e])) r
theorem LeMem.tokEq {t sz n k : Nat} {m m' : List MU} (h : getK t m' = some (sz, k)) (e : k = n) (r : LeMem m m') : LeMem (.tok t sz n :: m) m' := LeMem.tok (h.trans (by rw [e])) r

theorem int_eq {k : IntKind} {a b : Int} (h : a = b) : V.pv (.int k a) = V.pv (.int k b) := by rw [h]
theorem bool_eq {a b : Bool} (h : a = b) : V.pv (.bool a) = V.pv (.bool b) := by rw [h]
theorem sl_eq {sz : Nat} {a b : List PV} (h : a = b) : V.pv (.sl sz a) = V.pv (.sl sz b) := by rw [h]
theorem own_eq {t sz : Nat} {a b : List PV} (h : a = b) : V.own t sz a = V.own t sz b := by rw [h]
theorem str_eq {a b : List UInt8} (h : a = b) : V.pv (.str a) = V.pv (.str b) := by rw [h]

/-- Bytes as a text, in a state that is written out. -/
theorem Run.toStrA {E : Env} {ks : List Item} {Q : St → Prop} {n d : Nat} {fr : List (Nat × V)} {mem : List MU} {full : Array Oper} {o : Oper} {rest : List Oper} {src dst e : TypeId} {x : Operand} {ts td te : Ty} {v : V}
    (t : List UInt8) (hop : o.op = .convert src dst x) (hg : o.guard = none)
    (hs : E.T src = some ts) (hk1 : ts.k = .slice e) (hd : E.T dst = some td) (hk2 : td.k = .str) (he : E.T e = some te) (hk3 : te.k = .int .u8) (hx : ev E fr x = some v)
    (hv : slOf v = some (1, bytes t)) (ho : o.dst = some d) (hn : Nat.blt d n = true)
    (h : Run E (.ops full rest :: ks) ⟨(d, .pv (.str t)) :: fr, mem, n⟩ Q) : Run E (.ops full (o :: rest) :: ks) ⟨fr, mem, n⟩ Q :=
  Run.toStr (s := ⟨fr, mem, n⟩) t hop hg hs hk1 hd hk2 he hk3 hx (.inl hv) (by rw [ho]; exact hn) (by unfold St.put; rw [ho]; exact h)

end Go.Pt
