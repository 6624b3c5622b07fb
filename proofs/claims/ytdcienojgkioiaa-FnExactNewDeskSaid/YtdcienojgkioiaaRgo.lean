import Derived.Test.YtdcienojgkioiaaRgd
import Derived.Test.YtdcienojgkioiaaFl
namespace Go.Rg
open Go Go.RowKit Go.Fl

section
variable {P : Program} {ops : Array Oper} {K : Sig → World → Prop} {σ : Sig} {w : World} {rest : List Oper}
  {dst : Option Tmp} {ty : TypeId} {pos : String} {after : Array Edge} {g : Option (Nat × Bool)} {ρ : Operand → Value} {R : Value → World → Prop}

theorem da_nil (h : K σ w) : doAll P ops K [] σ w := h
theorem da_op {o : Oper} (hg : o.guard = none) (h : Does P o (ev σ) w fun v w' => doAll P ops K rest (up σ o.dst v) w') : doAll P ops K (o :: rest) σ w := by
  show DoesG _ _ _ _ _ _
  unfold DoesG
  rw [if_pos (by simp [Region.wanted, hg])]
  exact h
/-- An operation whose guard holds. -/
theorem da_on {o : Oper} {j : Nat} {b : Bool} (hg : o.guard = some (j, b)) (hy : sl ops σ j = .bool b) (h : Does P o (ev σ) w fun v w' => doAll P ops K rest (up σ o.dst v) w') : doAll P ops K (o :: rest) σ w := by
  show DoesG _ _ _ _ _ _
  unfold DoesG
  have e : yl ops σ j = some b := by
    unfold sl at hy; unfold yl
    cases hj : (ops[j]?).bind (·.dst) with
    | none => rw [hj] at hy; cases hy
    | some t => rw [hj] at hy; simp only at hy ⊢; rw [hy]
  rw [if_pos (by simp [Region.wanted, hg, e])]
  exact h
theorem da_off {o : Oper} {j : Nat} {b c : Bool} (hg : o.guard = some (j, b)) (hy : sl ops σ j = .bool c) (hne : b ≠ c) (h : doAll P ops K rest (up σ o.dst undef) w) : doAll P ops K (o :: rest) σ w := by
  show DoesG _ _ _ _ _ _
  unfold DoesG
  have e : yl ops σ j = some c := by
    unfold sl at hy; unfold yl
    cases hj : (ops[j]?).bind (·.dst) with
    | none => rw [hj] at hy; cases hy
    | some t => rw [hj] at hy; simp only at hy ⊢; rw [hy]
  rw [if_neg (by simp [Region.wanted, hg, e]; exact fun h => hne h.symm)]
  exact h
/-- One whose guard stands on what was passed over. -/
theorem da_undef {o : Oper} {j : Nat} {b : Bool} (hg : o.guard = some (j, b)) (hy : sl ops σ j = undef) (h : doAll P ops K rest (up σ o.dst undef) w) : doAll P ops K (o :: rest) σ w := by
  show DoesG _ _ _ _ _ _
  unfold DoesG
  have e : yl ops σ j = none := by
    unfold sl at hy; unfold yl
    cases hj : (ops[j]?).bind (·.dst) with
    | none => rfl
    | some t => rw [hj] at hy; simp only at hy ⊢; rw [hy]; rfl
  rw [if_neg (by simp [Region.wanted, hg, e])]
  exact h

theorem dg_op {o : Oper} (hg : o.guard = none) (h : Does P o (ev σ) w R) : DoesG P ops o σ w R := by
  unfold DoesG
  rw [if_pos (by simp [Region.wanted, hg])]
  exact h

theorem d_run {o : Oper} {v : Value} {w' : World} (hr : (execOp ρ o).run P w = .ok (.value v) w') (h : R v w') : Does P o ρ w R := by
  unfold Does; rw [hr]; exact h
theorem d_skip {o : Oper} {w' : World} (hr : (execOp ρ o).run P w = .ok .skip w') (h : R undef w') : Does P o ρ w R := by
  unfold Does; rw [hr]; exact h

theorem d_move {x : Operand} (h : R (ρ x) w) : Does P ⟨dst, .move x, ty, pos, after, g⟩ ρ w R := h
theorem d_assign {x : Operand} (h : R (ρ x) w) : Does P ⟨dst, .assign x, ty, pos, after, g⟩ ρ w R := h

theorem d_pick {c x y : Operand} {b : Bool} (hc : ρ c = .bool b) (h : R (if b then ρ x else ρ y) w) : Does P ⟨dst, .pick c x y, ty, pos, after, g⟩ ρ w R :=
  d_run (v := if b then ρ x else ρ y) (w' := w) (by simp only [execOp]; rw [hc]; cases b <;> rfl) h

theorem d_not {x : Operand} {t : TypeId} {b : Bool} (hx : ρ x = .bool b) (h : R (.bool !b) w) : Does P ⟨dst, .unOp .not t x, ty, pos, after, g⟩ ρ w R :=
  d_run (v := .bool !b) (w' := w) (by simp only [execOp]; rw [hx]; rfl) h

/-- A box: a new block. -/
theorem d_box {x : Operand} {T : TypeId} {cs : Array Value} (hx : (ρ x).cells = cs)
    (h : ∀ w', w'.heap[w.heap.size]? = some (.cells cs T (0, 0)) → Ext w w' → R (.pointer (some ⟨w.heap.size, 0, none⟩)) w') : Does P ⟨dst, .box T x, ty, pos, after, g⟩ ρ w R := by
  refine d_run (v := .pointer (some ⟨w.heap.size, 0, none⟩)) (w' := w.alloc (.cells cs T)) ?_ (h _ (heap_alloc_new w _) (Ext.alloc _ _))
  simp only [execOp, Instr.box, newVar, newRow, hx]
  go_simp

theorem d_alloc {T : TypeId} {z : Value} {cs : Array Value} (hz : ∀ w, (zeroValue T).run P w = .ok z w) (hc : z.cells = cs)
    (h : ∀ w', w'.heap[w.heap.size]? = some (.cells cs T (0, 0)) → Ext w w' → R (.pointer (some ⟨w.heap.size, 0, none⟩)) w') : Does P ⟨dst, .alloc T, ty, pos, after, g⟩ ρ w R := by
  subst hc
  refine d_run (v := .pointer (some ⟨w.heap.size, 0, none⟩)) (w' := w.alloc (.cells z.cells T)) ?_ (h _ (heap_alloc_new w _) (Ext.alloc _ _))
  simp only [execOp, Instr.alloc, newVar, newRow]
  simp [Sem.run_bind, hz]

theorem d_fieldAddr {S f : Nat} {x : Operand} {b o o' : Nat} (hx : ρ x = .pointer (some ⟨b, o, none⟩))
    (hf : ∀ w, (Instr.fieldAt S (.pointer (some ⟨b, o, none⟩)) f).run P w = .ok (.pointer (some ⟨b, o', none⟩)) w)
    (h : R (.pointer (some ⟨b, o', none⟩)) w) : Does P ⟨dst, .fieldAddr S x f, ty, pos, after, g⟩ ρ w R :=
  d_run (by simp only [execOp, hx]; simp [hf]) h

/-- A load of one cell. -/
theorem d_load {T : TypeId} {x : Operand} {b o : Nat} {cs : Array Value} {fr : Nat × Nat} {E : TypeId} {v : Value} (hx : ρ x = .pointer (some ⟨b, o, none⟩))
    (hT : ∀ w, (isAgg T).run P w = .ok false w) (hb : w.heap[b]? = some (.cells cs E fr)) (hv : cs[o]? = some v) (h : R v w) : Does P ⟨dst, .load T x, ty, pos, after, g⟩ ρ w R := by
  refine d_run (v := v) (w' := w) ?_ h
  have hc : w.cell? ⟨b, o, none⟩ = some v := by rw [cell_of_row w b o cs E fr hb]; exact hv
  simp [execOp, Instr.loadAt, Instr.sureAddr, hx, Sem.run_bind, loadVar, hT, hc]

theorem run_loadCells_at (w : World) (b o : Nat) (cs vs : Array Value) (fr : Nat × Nat) (E : TypeId) (hb : w.heap[b]? = some (.cells cs E fr)) (hv : (cs.toList.drop o).take vs.size = vs.toList) :
    (loadCells ⟨b, o, none⟩ vs.size).run P w = .ok vs w := by
  have h := run_loadCells_list (P := P) w ⟨b, o, none⟩ vs.toList (fun j v hj => by
    have hadd : (⟨b, o, none⟩ : Addr).add j = ⟨b, o + j, none⟩ := by unfold Addr.add; split <;> simp_all
    rw [hadd, cell_of_row w b (o + j) cs E fr hb]
    have h1 : (cs.toList.drop o)[j]? = some v := by
      rw [← hv] at hj
      rw [List.getElem?_take] at hj
      split at hj
      · exact hj
      · cases hj
    rw [List.getElem?_drop] at h1
    simpa using h1)
  simpa using h

/-- A load of several cells. -/
theorem d_loads {T : TypeId} {x : Operand} {b o : Nat} {cs vs : Array Value} {fr : Nat × Nat} {E : TypeId} (hx : ρ x = .pointer (some ⟨b, o, none⟩))
    (hT : ∀ w, (isAgg T).run P w = .ok true w) (hn : ∀ w, (sizeOf T).run P w = .ok vs.size w) (hb : w.heap[b]? = some (.cells cs E fr)) (hv : (cs.toList.drop o).take vs.size = vs.toList)
    (h : R (.agg vs) w) : Does P ⟨dst, .load T x, ty, pos, after, g⟩ ρ w R := by
  refine d_run (v := .agg vs) (w' := w) ?_ h
  simp only [execOp, Instr.loadAt, Instr.sureAddr, hx]
  simp [Sem.run_bind, loadVar, hT, hn, run_loadCells_at w b o cs vs fr E hb hv]

/-- What a block holds when vs is laid at o. -/
def splice (cs : Array Value) (o : Nat) (vs : Array Value) : Array Value := (cs.toList.take o ++ vs.toList ++ cs.toList.drop (o + vs.size)).toArray

theorem splice_step (L : List Value) (n : Nat) (v : Value) (rest : List Value) (h : n < L.length) :
    (L.set n v).take (n + 1) ++ rest ++ (L.set n v).drop (n + 1 + rest.length) = L.take n ++ (v :: rest) ++ L.drop (n + (rest.length + 1)) := by
  have e : L.set n v = L.take n ++ v :: L.drop (n + 1) := by rw [List.set_eq_take_append_cons_drop, if_pos h]
  have hl : (L.take n).length = n := by rw [List.length_take]; omega
  have h1 : (L.set n v).take (n + 1) = L.take n ++ [v] := by
    rw [e, List.take_append, List.take_of_length_le (by omega), hl, show n + 1 - n = 1 by omega]; rfl
  have h2 : (L.set n v).drop (n + 1 + rest.length) = L.drop (n + (rest.length + 1)) := by
    rw [List.drop_set_of_lt (by omega), show n + 1 + rest.length = n + (rest.length + 1) by omega]
  rw [h1, h2]
  simp

theorem run_storeCells_splice (b : Nat) (E : TypeId) : ∀ (vs : List Value) (i o : Nat) (cur : Array Value) (w : World), w.heap[b]? = some (.cells cur E (0, 0)) → o + i + vs.length ≤ cur.size → (∀ v ∈ vs, v.oneCell' = true) →
    (storeCells ⟨b, o, none⟩ vs i).run P w = .ok () (w.setRow b (cur.toList.take (o + i) ++ vs ++ cur.toList.drop (o + i + vs.length)).toArray)
  | [], i, o, cur, w, hg, hl, _ => by
    have hlt : b < w.heap.size := (Array.getElem?_eq_some_iff.1 hg).1
    have hv : w.heap[b] = .cells cur E (0, 0) := (Array.getElem?_eq_some_iff.1 hg).2
    simp only [storeCells, List.append_nil, List.length_nil, Nat.add_zero, List.take_append_drop, Array.toArray_toList]
    show Result.ok () w = _
    congr 1
    unfold World.setRow
    cases w with
    | mk heap tape drawn os output =>
      congr 1
      apply Array.ext
      · simp
      · intro k h1 h2
        simp only [Array.getElem_modify]
        split
        · rename_i hk; subst hk; simp at hv; simp [hv]
        · rfl
  | v :: rest, i, o, cur, w, hg, hl, h1 => by
    have hi : o + i < cur.size := by simp at hl; omega
    have hadd : (⟨b, o, none⟩ : Addr).add i = ⟨b, o + i, none⟩ := by unfold Addr.add; split <;> simp_all
    have hcell : w.cell? ⟨b, o + i, none⟩ = some cur[o + i] := by simp [World.cell?, hg, hi]
    have hfro : w.frozen? ⟨b, o + i, none⟩ = false := by simp [World.frozen?, hg]
    have hst : (store ((⟨b, o, none⟩ : Addr).add i) v).run P w = .ok () (w.setRow b (cur.setIfInBounds (o + i) v)) := by
      rw [hadd, run_store P w _ v _ (h1 v (by simp)), hcell]
      simp [hfro, setCell_eq_setRow w b (o + i) cur E (0, 0) v hg]
    have ih := run_storeCells_splice b E rest (i + 1) o (cur.setIfInBounds (o + i) v) (w.setRow b (cur.setIfInBounds (o + i) v)) (setRow_heap w b cur _ E _ hg) (by simp at hl ⊢; omega) (fun x hx => h1 x (by simp [hx]))
    simp only [storeCells, Sem.run_bind, hst, Result.andThen_ok, ih, setRow_setRow]
    congr 3
    rw [Array.toList_setIfInBounds, show o + (i + 1) = o + i + 1 by omega, splice_step _ _ _ _ (by simpa using hi)]
    rfl

theorem run_storeVar_splice {T E : TypeId} (w : World) (b o : Nat) (cur : Array Value) (v : Value) (hb : w.heap[b]? = some (.cells cur E (0, 0))) (hn : ∀ w, (sizeOf T).run P w = .ok v.cells.size w)
    (hl : o + v.cells.size ≤ cur.size) (h1 : v.cells.toList.all (·.oneCell') = true) : (storeVar T ⟨b, o, none⟩ v).run P w = .ok () (w.setRow b (splice cur o v.cells)) := by
  have h := run_storeCells_splice (P := P) b E v.cells.toList 0 o cur w hb (by simpa using hl) (fun x hx => List.all_eq_true.1 h1 x hx)
  simp only [Nat.add_zero, Array.length_toList] at h
  simp [storeVar, Sem.run_bind, hn, h, splice]

theorem run_store_op {T E : TypeId} {x y : Operand} {b o : Nat} {cur vs : Array Value} (hx : ρ x = .pointer (some ⟨b, o, none⟩)) (hy : (ρ y).cells = vs)
    (hb : w.heap[b]? = some (.cells cur E (0, 0))) (hn : ∀ w, (sizeOf T).run P w = .ok vs.size w) (hl : o + vs.size ≤ cur.size) (h1 : vs.toList.all (·.oneCell') = true) :
    (execOp ρ ⟨dst, .store T x y, ty, pos, after, g⟩).run P w = .ok .skip (w.setRow b (splice cur o vs)) := by
  subst hy
  simp only [execOp, Instr.storeAt, Instr.sureAddr, hx]
  simp [run_storeVar_splice w b o cur (ρ y) hb hn hl h1]

/-- The world after a store: the block is as told, the others as they were. -/
structure Put (w w' : World) (b : Nat) (cs : Array Value) (E : TypeId) : Prop where
  old : ∃ cur, w.heap[b]? = some (.cells cur E (0, 0)) ∧ cs.size = cur.size
  here : w'.heap[b]? = some (.cells cs E (0, 0))
  there : ∀ k, k ≠ b → w'.heap[k]? = w.heap[k]?
  size : w'.heap.size = w.heap.size
  os : w'.os = w.os
  tape : w'.tape = w.tape
  output : w'.output = w.output

theorem Put.setRow {b : Nat} {cur : Array Value} {E : TypeId} (hb : w.heap[b]? = some (.cells cur E (0, 0))) (cs : Array Value) (hs : cs.size = cur.size) : Put w (w.setRow b cs) b cs E :=
  ⟨⟨cur, hb, hs⟩, setRow_heap w b cur cs E _ hb, fun k hk => by simp only [World.setRow, Array.getElem?_modify]; rw [if_neg (fun e => hk e.symm)], by simp, rfl, rfl, rfl⟩
theorem size_splice {cs vs : Array Value} {o : Nat} (h : o + vs.size ≤ cs.size) : (splice cs o vs).size = cs.size := by
  unfold splice
  simp only [List.size_toArray, List.length_append, List.length_take, List.length_drop, Array.length_toList]
  omega

/-- A store into a block of the call's own keeps what was there when it began. -/
theorem Ext.put {w0 w w' : World} {b : Nat} {cs : Array Value} {E : TypeId} (h : Ext w0 w) (hp : Put w w' b cs E) (hb : w0.heap.size ≤ b) : Ext w0 w' :=
  ⟨hp.os.trans h.os, hp.tape.trans h.tape, hp.output.trans h.output, by rw [hp.size]; exact h.size, fun k hk => by rw [hp.there k (by omega)]; exact h.block k hk⟩

theorem d_store {T E : TypeId} {x y : Operand} {b o : Nat} {cur vs : Array Value} (hx : ρ x = .pointer (some ⟨b, o, none⟩)) (hy : (ρ y).cells = vs)
    (hb : w.heap[b]? = some (.cells cur E (0, 0))) (hn : ∀ w, (sizeOf T).run P w = .ok vs.size w) (hl : o + vs.size ≤ cur.size) (h1 : vs.toList.all (·.oneCell') = true)
    (h : ∀ w', Put w w' b (splice cur o vs) E → R undef w') : Does P ⟨dst, .store T x y, ty, pos, after, g⟩ ρ w R :=
  d_skip (run_store_op hx hy hb hn hl h1) (h _ (Put.setRow hb _ (size_splice hl)))

theorem d_build {t : TypeId} {parts : Array (Nat × Operand)} {vs : List (Nat × Value)} {cs : Array Value} (hp : (parts.map fun (i, x) => (i, ρ x)).toList = vs) (hb : P.built t vs = some cs) (h : R (.agg cs) w) :
    Does P ⟨dst, .build t parts, ty, pos, after, g⟩ ρ w R := by
  subst hp
  refine d_run (v := .agg cs) (w' := w) ?_ h
  simp only [execOp]
  simp [run_build w t _ cs hb]

/-- A float's + - * /. -/
theorem d_fop {op : BinOp} {x y : Operand} {t t2 : TypeId} {k : FloatKind} {u v a b : Nat} (hop : op = .add ∨ op = .sub ∨ op = .mul ∨ op = .quo) (hx : ρ x = .float k u) (hy : ρ y = .float k v) (ha : cn k u = a) (hb : cn k v = b)
    (h : ∀ r w', cn k r = fop op k a b → r < 2 ^ k.format.width → Ext w w' → R (.float k r) w') : Does P ⟨dst, .binOp op t x y t2, ty, pos, after, g⟩ ρ w R := by
  obtain ⟨r, n, hr, hc, hl⟩ := run_farith (P := P) w op hop t k u v
  refine d_run (v := .float k r) (w' := w.drewN n) ?_ (h r _ (by rw [hc, ← fop_cn, ha, hb]) hl (Ext.drewN _ _))
  have hg : eqGuard op t x y (ρ x) (ρ y) = pure () := by rcases hop with rfl | rfl | rfl | rfl <;> rfl
  simp only [execOp, hx, hy] at *
  rw [hg]
  simp [hr]

/-- A comparison of floats, a not-a-number being one. -/
def fcmp (op : BinOp) (k : FloatKind) (x y : Nat) : Bool :=
  let c := k.format.order x y
  match op with
  | .eql => c == some .eq
  | .neq => c != some .eq
  | .lss => c == some .lt
  | .leq => c == some .lt || c == some .eq
  | .gtr => c == some .gt
  | .geq => c == some .gt || c == some .eq
  | _ => false

theorem order_nan_left {k : FloatKind} {x y : Nat} (h : isNaN k x = true) : k.format.order x y = none := by
  unfold isNaN at h
  unfold Ieee.Format.order
  generalize k.format.read x = d at *
  cases d <;> simp_all [Ieee.Datum.isNaN, Ieee.Datum.order]
theorem order_nan_right {k : FloatKind} {x y : Nat} (h : isNaN k y = true) : k.format.order x y = none := by
  unfold isNaN at h
  unfold Ieee.Format.order
  generalize k.format.read y = d at *
  generalize k.format.read x = c at *
  cases d <;> cases c <;> simp_all [Ieee.Datum.isNaN, Ieee.Datum.order]
theorem order_cn (k : FloatKind) (x y : Nat) : k.format.order (cn k x) (cn k y) = k.format.order x y := by
  cases hx : isNaN k x
  · cases hy : isNaN k y
    · rw [cn_num hx, cn_num hy]
    · rw [order_nan_right hy, order_nan_right (by rw [isNaN_cn, hy])]
  · rw [order_nan_left hx, order_nan_left (by rw [isNaN_cn, hx])]

theorem d_fcmp {op : BinOp} {x y : Operand} {t t2 : TypeId} {k : FloatKind} {u v a b : Nat} (hop : op = .eql ∨ op = .neq ∨ op = .lss ∨ op = .leq ∨ op = .gtr ∨ op = .geq) (hx : ρ x = .float k u) (hy : ρ y = .float k v) (ha : cn k u = a) (hb : cn k v = b)
    (h : R (.bool (fcmp op k a b)) w) : Does P ⟨dst, .binOp op t x y t2, ty, pos, after, g⟩ ρ w R := by
  subst ha; subst hb
  refine d_run (v := .bool (fcmp op k (cn k u) (cn k v))) (w' := w) ?_ h
  unfold fcmp
  rw [order_cn]
  simp only [execOp, hx, hy]
  rcases hop with rfl | rfl | rfl | rfl | rfl | rfl <;> simp [binOp, eqGuard, Op.floatCmp]

/-- The sign turned. -/
def fneg (k : FloatKind) (x : Nat) : Nat := cn k (Op.negFloat k x)

theorem isNaN_neg (k : FloatKind) (x : Nat) : isNaN k (Op.negFloat k x) = isNaN k x := by
  rw [isNaN_iff, isNaN_iff]
  congr 2
  unfold Op.negFloat
  have : k.format.signWeight = 2 ^ (k.format.exponentBits + k.format.fractionBits) := rfl
  rw [this]
  generalize k.format.exponentBits + k.format.fractionBits = e
  apply Nat.eq_of_testBit_eq
  intro i
  simp only [Nat.testBit_mod_two_pow, Nat.testBit_xor, Nat.testBit_two_pow]
  by_cases h : i < e
  · have : ¬ e = i := by omega
    simp [h, this]
  · simp [h]

theorem fneg_cn (k : FloatKind) (x : Nat) : fneg k (cn k x) = fneg k x := by
  unfold fneg
  cases h : isNaN k x
  · rw [cn_num h]
  · rw [cn_nan (x := Op.negFloat k (cn k x)) (by rw [isNaN_neg, isNaN_cn, h]), cn_nan (x := Op.negFloat k x) (by rw [isNaN_neg, h])]

theorem d_fneg {x : Operand} {t : TypeId} {k : FloatKind} {u a : Nat} (hx : ρ x = .float k u) (ha : cn k u = a)
    (h : ∀ r, cn k r = fneg k a → r = Op.negFloat k u → R (.float k r) w) : Does P ⟨dst, .unOp .neg t x, ty, pos, after, g⟩ ρ w R := by
  refine d_run (v := .float k (Op.negFloat k u)) (w' := w) (by simp only [execOp]; rw [hx]; rfl) (h _ ?_ rfl)
  rw [← ha, fneg_cn]; rfl

theorem d_iarith {op : BinOp} {x y : Operand} {t t2 : TypeId} {k : IntKind} {u v r : Int} (hx : ρ x = .int k u) (hy : ρ y = .int k v)
    (hr : (op = .add ∧ r = k.wrap (u + v)) ∨ (op = .sub ∧ r = k.wrap (u - v)) ∨ (op = .mul ∧ r = k.wrap (u * v))) (h : R (.int k r) w) : Does P ⟨dst, .binOp op t x y t2, ty, pos, after, g⟩ ρ w R := by
  refine d_run (v := .int k r) (w' := w) ?_ h
  simp only [execOp, hx, hy]
  rcases hr with ⟨rfl, rfl⟩ | ⟨rfl, rfl⟩ | ⟨rfl, rfl⟩ <;> simp [binOp, eqGuard, Op.intArith]

/-- A comparison of integers. -/
def icmp (op : BinOp) (x y : Int) : Bool :=
  match op with
  | .eql => x == y
  | .neq => x != y
  | .lss => decide (x < y)
  | .leq => decide (x ≤ y)
  | .gtr => decide (x > y)
  | .geq => decide (x ≥ y)
  | _ => false

theorem d_icmp {op : BinOp} {x y : Operand} {t t2 : TypeId} {k : IntKind} {u v : Int} (hop : op = .eql ∨ op = .neq ∨ op = .lss ∨ op = .leq ∨ op = .gtr ∨ op = .geq) (hx : ρ x = .int k u) (hy : ρ y = .int k v)
    (h : R (.bool (icmp op u v)) w) : Does P ⟨dst, .binOp op t x y t2, ty, pos, after, g⟩ ρ w R := by
  refine d_run (v := .bool (icmp op u v)) (w' := w) ?_ h
  simp only [execOp, hx, hy]
  rcases hop with rfl | rfl | rfl | rfl | rfl | rfl <;> simp [binOp, eqGuard, Op.intCmp, icmp]

theorem d_extract {x : Operand} {i : Nat} {vs : Array Value} {v : Value} (hx : ρ x = .tuple vs) (hv : vs[i]? = some v) (h : R v w) : Does P ⟨dst, .extract x i, ty, pos, after, g⟩ ρ w R :=
  d_run (v := v) (w' := w) (by simp only [execOp, hx]; simp [Instr.extract, hv]) h

/-- A function that is entered. -/
def Enters (P : Program) (f : FuncId) : Prop := ∀ args w, (callFunc f args).run P w = .ok (.enter f args) w

theorem enters {f : FuncId} {fn : Func} (hf : P.funcs[f]? = some fn) (hn : (fn.name == "runtime.NumGoroutine") = false) (hb : fn.body.isNone = false) : Enters P f := by
  intro args w
  have hn' : ¬ fn.name = "runtime.NumGoroutine" := by simpa using hn
  have hb' : ¬ fn.body = none := by intro e; rw [e] at hb; cases hb
  simp [callFunc, hf, hn', hb']

theorem d_call {f : FuncId} {args : Array Operand} {ats : Array TypeId} {vs : Array Value} (he : Enters P f) (hv : args.map ρ = vs) (hfn : ρ (.func f) = .func (.func f) #[] #[])
    (h : Calls P f vs w fun e w' => ∃ v, e = .returned v ∧ R v w') : Does P ⟨dst, .call { callee := .value (.func f), args := args, argTypes := ats }, ty, pos, after, g⟩ ρ w R := by
  unfold Does
  have : (execOp ρ ⟨dst, .call { callee := .value (.func f), args := args, argTypes := ats }, ty, pos, after, g⟩).run P w = .ok (.enter f vs) w := by
    simp only [execOp, resolve, hfn, Deferred.ofValue]
    simp [invoke, hv, he vs w]
  rw [this]
  exact h

/-- A function value is called: what it captured comes behind the arguments. -/
theorem d_callv {x : Operand} {f : FuncId} {cap : Array Value} {args : Array Operand} {ats : Array TypeId} {vs : Array Value} (he : Enters P f) (hx : ρ x = .func (.func f) #[] cap) (hv : args.map ρ ++ cap = vs)
    (h : Calls P f vs w fun e w' => ∃ v, e = .returned v ∧ R v w') : Does P ⟨dst, .call { callee := .value x, args := args, argTypes := ats }, ty, pos, after, g⟩ ρ w R := by
  unfold Does
  have : (execOp ρ ⟨dst, .call { callee := .value x, args := args, argTypes := ats }, ty, pos, after, g⟩).run P w = .ok (.enter f vs) w := by
    simp only [execOp, resolve, hx, Deferred.ofValue]
    simp [invoke, hv, he vs w]
  rw [this]
  exact h

/-- One result. -/
def rvS (σ : Sig) : ResultVar → Sem Value
  | .tmp t => pure (σ t)
  | .cell a t => do loadVar t (← asAddr (σ a))

theorem rv_tmp {t : Nat} {v : Value} (h : σ t = v) : (rvS σ (.tmp t)).run P w = .ok v w := by simp [rvS, h]
theorem rv_cell {t : Nat} {T : TypeId} {b o : Nat} {cs : Array Value} {fr : Nat × Nat} {E : TypeId} {v : Value} (hx : σ t = .pointer (some ⟨b, o, none⟩))
    (hT : ∀ w, (isAgg T).run P w = .ok false w) (hb : w.heap[b]? = some (.cells cs E fr)) (hv : cs[o]? = some v) : (rvS σ (.cell t T)).run P w = .ok v w := by
  have hc : w.cell? ⟨b, o, none⟩ = some v := by rw [cell_of_row w b o cs E fr hb]; exact hv
  simp [rvS, hx, asAddr, loadVar, hT, hc]
theorem rv_cells {t : Nat} {T : TypeId} {b o : Nat} {cs vs : Array Value} {fr : Nat × Nat} {E : TypeId} (hx : σ t = .pointer (some ⟨b, o, none⟩))
    (hT : ∀ w, (isAgg T).run P w = .ok true w) (hn : ∀ w, (sizeOf T).run P w = .ok vs.size w) (hb : w.heap[b]? = some (.cells cs E fr)) (hv : (cs.toList.drop o).take vs.size = vs.toList) :
    (rvS σ (.cell t T)).run P w = .ok (.agg vs) w := by
  simp only [rvS, hx]
  simp [asAddr, loadVar, hT, hn, run_loadCells_at w b o cs vs fr E hb hv]

theorem resS_eq (rs : Array ResultVar) (σ : Sig) : resS rs σ = (do let vs ← rs.mapM (rvS σ); pure (if h : vs.size = 1 then vs[0] else .tuple vs)) := by
  unfold resS rvS
  rfl

theorem res0 : (resS #[] σ).run P w = .ok (.tuple #[]) w := by rw [resS_eq]; simp
theorem res1 {r : ResultVar} {v : Value} (h : (rvS σ r).run P w = .ok v w) : (resS #[r] σ).run P w = .ok v w := by rw [resS_eq]; simp [h]
theorem res2 {r1 r2 : ResultVar} {v1 v2 : Value} (h1 : (rvS σ r1).run P w = .ok v1 w) (h2 : (rvS σ r2).run P w = .ok v2 w) : (resS #[r1, r2] σ).run P w = .ok (.tuple #[v1, v2]) w := by rw [resS_eq]; simp [h1, h2]
theorem res3 {r1 r2 r3 : ResultVar} {v1 v2 v3 : Value} (h1 : (rvS σ r1).run P w = .ok v1 w) (h2 : (rvS σ r2).run P w = .ok v2 w) (h3 : (rvS σ r3).run P w = .ok v3 w) : (resS #[r1, r2, r3] σ).run P w = .ok (.tuple #[v1, v2, v3]) w := by rw [resS_eq]; simp [h1, h2, h3]
theorem res4 {r1 r2 r3 r4 : ResultVar} {v1 v2 v3 v4 : Value} (h1 : (rvS σ r1).run P w = .ok v1 w) (h2 : (rvS σ r2).run P w = .ok v2 w) (h3 : (rvS σ r3).run P w = .ok v3 w) (h4 : (rvS σ r4).run P w = .ok v4 w) :
    (resS #[r1, r2, r3, r4] σ).run P w = .ok (.tuple #[v1, v2, v3, v4]) w := by rw [resS_eq]; simp [h1, h2, h3, h4]

end
end Go.Rg
