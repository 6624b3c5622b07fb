import Derived.Test.YtdcienojgkioiaaSt
import Derived.Test.YtdcienojgkioiaaFb
import Derived.Lib.Bytealg
/- Rows made; whole numbers' further arithmetic; externs of strings and bits. -/
namespace Go.Rg
open Go Go.RowKit Go.Fl

/-- So many zeros; none where no memory bears them. -/
def mkl {α : Type} (bytes : Nat) (n c : Int) (z : α) : Option (List α) := if 0 ≤ n ∧ n ≤ c ∧ (bytes : Int) * c ≤ 140737488355328 then some (List.replicate n.toNat z) else none
def iquo (k : IntKind) (x y : Int) : Option Int := if y = 0 then none else some (k.wrap (x.tdiv y))
def irem (x y : Int) : Option Int := if y = 0 then none else some (x.tmod y)
def ishl (k : IntKind) (x y : Int) : Option Int := if y < 0 then none else some (k.wrap (x * 2 ^ (min y.toNat k.bits)))
def ishr (k : IntKind) (x y : Int) : Option Int := if y < 0 then none else some (x.fdiv (2 ^ (min y.toNat k.bits)))
def iand (k : IntKind) (x y : Int) : Int := k.wrap ((BitVec.ofInt k.bits x &&& BitVec.ofInt k.bits y).toNat)
def ior (k : IntKind) (x y : Int) : Int := k.wrap ((BitVec.ofInt k.bits x ||| BitVec.ofInt k.bits y).toNat)
def ixor (k : IntKind) (x y : Int) : Int := k.wrap ((BitVec.ofInt k.bits x ^^^ BitVec.ofInt k.bits y).toNat)
def iandn (k : IntKind) (x y : Int) : Int := k.wrap ((BitVec.ofInt k.bits x &&& ~~~BitVec.ofInt k.bits y).toNat)
def imin (x y : Int) : Int := if y < x then y else x
def imax (x y : Int) : Int := if y > x then y else x
/-- Where a byte stands first; minus 1 where it does not. -/
def sfind (l : List UInt8) (c : Int) : Int := Lib.indexByte l c.toNat.toUInt8
/-- How often a byte stands. -/
def scount (l : List UInt8) (c : Int) : Int := (Lib.countByte l c.toNat.toUInt8 : Nat)

theorem madeCells_list (zc : Array Value) (s : Nat) (hs : zc.size = s) : ∀ c, (List.range (c * s)).map (fun i => zc[i % s]!) = (List.replicate c zc.toList).flatten := by
  have one : (List.range s).map (fun j => zc[j]!) = zc.toList := by
    apply List.ext_getElem
    · simp [hs]
    · intro i h1 h2
      have : i < zc.size := by simpa using h2
      simp [getElem!_pos zc i this]
  intro c
  induction c with
  | zero => simp
  | succ c ih =>
    rw [Nat.add_mul, Nat.one_mul, List.range_add, List.map_append, ih, List.replicate_succ', List.flatten_append, List.map_map]
    congr 1
    simp only [List.flatten_cons, List.flatten_nil, List.append_nil]
    rw [← one]
    apply List.map_congr_left
    intro j hj
    have hj' : j < s := by simpa using hj
    simp [Nat.mul_add_mod_self_right, Nat.mod_eq_of_lt hj']

section
variable {P : Program} {ops : Array Oper} {K : Sig → World → Prop} {σ : Sig} {w : World} {rest : List Oper}
  {dst : Option Tmp} {ty : TypeId} {pos : String} {after : Array Edge} {g : Option (Nat × Bool)} {ρ : Operand → Value} {R : Value → World → Prop}

theorem d_make {E : Type} {e : Enc E} {z0 : E} {xs : List E} {x y : Operand} {t T : TypeId} {i : TypeInfo} {z : Value} {kl kc : IntKind} {n c : Int} (ht : P.underlying t = some (.slice T)) (hi : P.info? T = some i) (hz : i.zero = some z)
    (hs : i.size = e.size) (hzc : z.cells.toList.map cnv = e.f z0) (_hpos : 0 < e.size) (hby : 0 < i.bytes) (hx : ρ x = .int kl n) (hy : ρ y = .int kc c) (hm : mkl i.bytes n c z0 = some xs)
    (h : ∀ v w', OS w' T e v xs → Ext w w' → (∀ k, v.ownBlock = some k → w.heap.size ≤ k) → R v w') : Does P ⟨dst, .makeSlice t x y, ty, pos, after, g⟩ ρ w R := by
  unfold mkl at hm
  split at hm
  case isFalse => cases hm
  rename_i hc
  obtain ⟨h0, h1, h2⟩ := hc
  cases hm
  have hb1 : (1 : Int) * c ≤ (i.bytes : Int) * c := Int.mul_le_mul_of_nonneg_right (by omega) (by omega)
  have hzs : z.cells.size = e.size := by
    have := congrArg List.length hzc
    rw [List.length_map, e.len] at this
    simpa using this
  refine d_run (v := .slice (some ⟨w.heap.size, 0, none⟩) n.toNat c.toNat) (w' := w.alloc (.cells (madeCells z.cells (c.toNat * i.size)) T)) ?_ (h _ _ ?_ (Ext.alloc _ _) (fun k hk => by cases hk; exact Nat.le_refl _))
  · simp only [execOp, hx, hy]
    simp [run_make (P := P) w t T i z ht hi hz kl kc n c h0 h1 (by omega) (by omega)]
  · have hmc : (madeCells z.cells (c.toNat * e.size)).toList = (List.replicate c.toNat z.cells.toList).flatten := by
      rw [← madeCells_list z.cells e.size hzs]
      simp [madeCells, hzs]
    have hflen : ∀ m : Nat, ((List.replicate m z.cells.toList).flatten).length = m * e.size := by
      intro m
      induction m with
      | zero => simp
      | succ m ih => rw [List.replicate_succ, List.flatten_cons, List.length_append, ih, Array.length_toList, hzs, Nat.add_mul, Nat.one_mul, Nat.add_comm]
    have htake : ((List.replicate c.toNat z.cells.toList).flatten).take (n.toNat * e.size) = (List.replicate n.toNat z.cells.toList).flatten := by
      have : List.replicate c.toNat z.cells.toList = List.replicate n.toNat z.cells.toList ++ List.replicate (c.toNat - n.toNat) z.cells.toList := by
        rw [List.replicate_append_replicate]; congr 1; omega
      rw [this, List.flatten_append, List.take_left' (hflen _)]
    have hmap : ∀ m : Nat, ((List.replicate m z.cells.toList).flatten).map cnv = (List.replicate m z0).flatMap e.f := by
      intro m
      induction m with
      | zero => rfl
      | succ m ih => rw [List.replicate_succ, List.flatten_cons, List.map_append, ih, hzc, List.replicate_succ, List.flatMap_cons]
    refine ⟨(List.replicate n.toNat z.cells.toList).flatten, hmap _, ?_, ?_⟩
    · rw [hflen, List.length_replicate]
    · refine .inr ⟨w.heap.size, c.toNat, madeCells z.cells (c.toNat * i.size), by rw [List.length_replicate], Nat.zero_le _, heap_alloc_new w _, by rw [List.length_replicate]; omega, by unfold maxLen; omega, ?_, ?_⟩
      · rw [size_madeCells, hs]
      · rw [List.length_replicate, hs, hmc, htake]

theorem d_quo {x y : Operand} {t t2 : TypeId} {k : IntKind} {u v r : Int} (hx : ρ x = .int k u) (hy : ρ y = .int k v) (hr : iquo k u v = some r) (h : R (.int k r) w) : Does P ⟨dst, .binOp .quo t x y t2, ty, pos, after, g⟩ ρ w R := by
  unfold iquo at hr
  split at hr
  · cases hr
  rename_i hv
  cases hr
  refine d_run (v := .int k (k.wrap (u.tdiv v))) (w' := w) ?_ h
  simp only [execOp, hx, hy]
  simp [binOp, eqGuard, Op.intDiv, hv]
theorem d_rem {x y : Operand} {t t2 : TypeId} {k : IntKind} {u v r : Int} (hx : ρ x = .int k u) (hy : ρ y = .int k v) (hr : irem u v = some r) (h : R (.int k r) w) : Does P ⟨dst, .binOp .rem t x y t2, ty, pos, after, g⟩ ρ w R := by
  unfold irem at hr
  split at hr
  · cases hr
  rename_i hv
  cases hr
  refine d_run (v := .int k (u.tmod v)) (w' := w) ?_ h
  simp only [execOp, hx, hy]
  simp [binOp, eqGuard, Op.intDiv, hv]
theorem d_shl {x y : Operand} {t t2 : TypeId} {k k2 : IntKind} {u v r : Int} (hx : ρ x = .int k u) (hy : ρ y = .int k2 v) (hr : ishl k u v = some r) (h : R (.int k r) w) : Does P ⟨dst, .binOp .shl t x y t2, ty, pos, after, g⟩ ρ w R := by
  unfold ishl at hr
  split at hr
  · cases hr
  rename_i hv
  cases hr
  refine d_run (v := .int k (k.wrap (u * 2 ^ (min v.toNat k.bits)))) (w' := w) ?_ h
  simp only [execOp, hx, hy]
  simp [binOp, eqGuard, Op.shift, hv]
theorem d_shr {x y : Operand} {t t2 : TypeId} {k k2 : IntKind} {u v r : Int} (hx : ρ x = .int k u) (hy : ρ y = .int k2 v) (hr : ishr k u v = some r) (h : R (.int k r) w) : Does P ⟨dst, .binOp .shr t x y t2, ty, pos, after, g⟩ ρ w R := by
  unfold ishr at hr
  split at hr
  · cases hr
  rename_i hv
  cases hr
  refine d_run (v := .int k (u.fdiv (2 ^ (min v.toNat k.bits)))) (w' := w) ?_ h
  simp only [execOp, hx, hy]
  simp [binOp, eqGuard, Op.shift, hv]
theorem d_and {x y : Operand} {t t2 : TypeId} {k : IntKind} {u v : Int} (hx : ρ x = .int k u) (hy : ρ y = .int k v) (h : R (.int k (iand k u v)) w) : Does P ⟨dst, .binOp .and t x y t2, ty, pos, after, g⟩ ρ w R := by
  refine d_run (v := .int k (iand k u v)) (w' := w) ?_ h
  simp only [execOp, hx, hy]
  simp [binOp, eqGuard, Op.intBits, iand]
theorem d_or {x y : Operand} {t t2 : TypeId} {k : IntKind} {u v : Int} (hx : ρ x = .int k u) (hy : ρ y = .int k v) (h : R (.int k (ior k u v)) w) : Does P ⟨dst, .binOp .or t x y t2, ty, pos, after, g⟩ ρ w R := by
  refine d_run (v := .int k (ior k u v)) (w' := w) ?_ h
  simp only [execOp, hx, hy]
  simp [binOp, eqGuard, Op.intBits, ior]
theorem d_xor {x y : Operand} {t t2 : TypeId} {k : IntKind} {u v : Int} (hx : ρ x = .int k u) (hy : ρ y = .int k v) (h : R (.int k (ixor k u v)) w) : Does P ⟨dst, .binOp .xor t x y t2, ty, pos, after, g⟩ ρ w R := by
  refine d_run (v := .int k (ixor k u v)) (w' := w) ?_ h
  simp only [execOp, hx, hy]
  simp [binOp, eqGuard, Op.intBits, ixor]
theorem d_andNot {x y : Operand} {t t2 : TypeId} {k : IntKind} {u v : Int} (hx : ρ x = .int k u) (hy : ρ y = .int k v) (h : R (.int k (iandn k u v)) w) : Does P ⟨dst, .binOp .andNot t x y t2, ty, pos, after, g⟩ ρ w R := by
  refine d_run (v := .int k (iandn k u v)) (w' := w) ?_ h
  simp only [execOp, hx, hy]
  simp [binOp, eqGuard, Op.intBits, iandn]
theorem d_iconv {src dt : TypeId} {x : Operand} {k ik : IntKind} {u : Int} (hs : P.underlying src = some (.int ik)) (hd : P.underlying dt = some (.int k)) (hx : ρ x = .int ik u)
    (h : R (.int k (k.wrap u)) w) : Does P ⟨dst, .convert src dt x, ty, pos, after, g⟩ ρ w R := by
  refine d_run (v := .int k (k.wrap u)) (w' := w) ?_ h
  simp only [execOp, hx]
  simp [convert, run_underlying hs, run_underlying hd, Conv.intToInt]
theorem d_min {x y : Operand} {ats : Array TypeId} {k : IntKind} {u v : Int} (hx : ρ x = .int k u) (hy : ρ y = .int k v) (h : R (.int k (imin u v)) w) :
    Does P ⟨dst, .call { callee := .builtin .min, args := #[x, y], argTypes := ats }, ty, pos, after, g⟩ ρ w R := by
  refine d_run (v := .int k (imin u v)) (w' := w) ?_ h
  simp only [execOp, resolve, invoke, builtin, Sem.run_bind, Sem.run_pure, Result.andThen_ok, List.map_toArray, List.map_cons, List.map_nil, hx, hy]
  simp [Builtin.min_, Builtin.min2, imin]

theorem d_f32bits {f : FuncId} {fn : Func} {x : Operand} {ats : Array TypeId} {u a : Nat} (hf : P.funcs[f]? = some fn) (hname : (fn.name == "runtime.NumGoroutine") = false) (hb : fn.body.isNone = true) (hn : Extern.findNext fn = none) (he : Extern.find fn = some Extern.MathFloatBits.float32bits)
    (hfn : ρ (.func f) = .func (.func f) #[] #[]) (hx : ρ x = .float .f32 u) (ha : cn .f32 u = a) (hna : isNaN .f32 a = false) (h : R (.int .u32 a) w) : Does P ⟨dst, .call { callee := .value (.func f), args := #[x], argTypes := ats }, ty, pos, after, g⟩ ρ w R := by
  have hu : u = a := by
    rw [← ha, isNaN_cn] at hna
    rw [← ha, cn_num hna]
  subst hu
  refine d_run (v := .int .u32 u) (w' := w) ?_ h
  simp only [execOp, resolve, hfn, Deferred.ofValue]
  have e : (Extern.MathFloatBits.float32bits #[.float .f32 u]).run P w = .ok (.int .u32 u) w := rfl
  simp [invoke, run_callFunc_extern hf hname hb hn he, hx, e]
theorem d_f32from {f : FuncId} {fn : Func} {x : Operand} {ats : Array TypeId} {n : Int} (hf : P.funcs[f]? = some fn) (hname : (fn.name == "runtime.NumGoroutine") = false) (hb : fn.body.isNone = true) (hn : Extern.findNext fn = none) (he : Extern.find fn = some Extern.MathFloatBits.float32frombits)
    (hfn : ρ (.func f) = .func (.func f) #[] #[]) (hx : ρ x = .int .u32 n) (h : R (.float .f32 n.toNat) w) : Does P ⟨dst, .call { callee := .value (.func f), args := #[x], argTypes := ats }, ty, pos, after, g⟩ ρ w R := by
  refine d_run (v := .float .f32 n.toNat) (w' := w) ?_ h
  simp only [execOp, resolve, hfn, Deferred.ofValue]
  have e : (Extern.MathFloatBits.float32frombits #[.int .u32 n]).run P w = .ok (.float .f32 n.toNat) w := rfl
  simp [invoke, run_callFunc_extern hf hname hb hn he, hx, e]
theorem d_sfind {f : FuncId} {fn : Func} {x y : Operand} {ats : Array TypeId} {s : List UInt8} {c : Int} (hf : P.funcs[f]? = some fn) (hname : (fn.name == "runtime.NumGoroutine") = false) (hb : fn.body.isNone = true) (hn : Extern.findNext fn = none) (he : Extern.find fn = some Extern.BytealgIndexByte.indexByte)
    (hfn : ρ (.func f) = .func (.func f) #[] #[]) (hx : ρ x = .string (bs s)) (hy : ρ y = .int .u8 c) (h : R (.int .i64 (sfind s c)) w) : Does P ⟨dst, .call { callee := .value (.func f), args := #[x, y], argTypes := ats }, ty, pos, after, g⟩ ρ w R := by
  refine d_run (v := .int .i64 (sfind s c)) (w' := w) ?_ h
  have e : (Extern.BytealgIndexByte.indexByte #[.string (bs s), .int .u8 c]).run P w = .ok (.int .i64 (sfind s c)) w := by
    rw [Lib.run_indexByteString]; simp [bs, sfind]
  simp only [execOp, resolve, hfn, Deferred.ofValue]
  simp [invoke, run_callFunc_extern hf hname hb hn he, hx, hy, e]

theorem d_scount {f : FuncId} {fn : Func} {x y : Operand} {ats : Array TypeId} {s : List UInt8} {c : Int} (hf : P.funcs[f]? = some fn) (hname : (fn.name == "runtime.NumGoroutine") = false) (hb : fn.body.isNone = true) (hn : Extern.findNext fn = none) (he : Extern.find fn = some Extern.BytealgCount.count)
    (hfn : ρ (.func f) = .func (.func f) #[] #[]) (hx : ρ x = .string (bs s)) (hy : ρ y = .int .u8 c) (h : R (.int .i64 (scount s c)) w) : Does P ⟨dst, .call { callee := .value (.func f), args := #[x, y], argTypes := ats }, ty, pos, after, g⟩ ρ w R := by
  refine d_run (v := .int .i64 (scount s c)) (w' := w) ?_ h
  have e : (Extern.BytealgCount.count #[.string (bs s), .int .u8 c]).run P w = .ok (.int .i64 (scount s c)) w := by
    rw [Lib.run_countString]; simp [bs, scount]
  simp only [execOp, resolve, hfn, Deferred.ofValue]
  simp [invoke, run_callFunc_extern hf hname hb hn he, hx, hy, e]


theorem d_seqL {x y : Operand} {t t2 : TypeId} {s u : List UInt8} {b : Bool} (hx : ρ x = .string (bs s)) (hy : ρ y = .string (bs u)) (hb : (s == u) = b) (h : R (.bool b) w) : Does P ⟨dst, .binOp .eql t x y t2, ty, pos, after, g⟩ ρ w R := d_seq hx hy (by rw [hb]; exact h)
theorem d_sneL {x y : Operand} {t t2 : TypeId} {s u : List UInt8} {b : Bool} (hx : ρ x = .string (bs s)) (hy : ρ y = .string (bs u)) (hb : (!(s == u)) = b) (h : R (.bool b) w) : Does P ⟨dst, .binOp .neq t x y t2, ty, pos, after, g⟩ ρ w R := d_sne hx hy (by rw [hb]; exact h)
theorem d_quoL {x y : Operand} {t t2 : TypeId} {k : IntKind} {u v : Int} (hx : ρ x = .int k u) (hy : ρ y = .int k v) (hv : v ≠ 0) (h : R (.int k (k.wrap (u.tdiv v))) w) : Does P ⟨dst, .binOp .quo t x y t2, ty, pos, after, g⟩ ρ w R := d_quo hx hy (if_neg hv) h
theorem d_remL {x y : Operand} {t t2 : TypeId} {k : IntKind} {u v : Int} (hx : ρ x = .int k u) (hy : ρ y = .int k v) (hv : v ≠ 0) (h : R (.int k (u.tmod v)) w) : Does P ⟨dst, .binOp .rem t x y t2, ty, pos, after, g⟩ ρ w R := d_rem hx hy (if_neg hv) h
theorem d_shlL {x y : Operand} {t t2 : TypeId} {k k2 : IntKind} {u v : Int} {n : Nat} (hx : ρ x = .int k u) (hy : ρ y = .int k2 v) (hv : ¬ v < 0 ∧ min v.toNat k.bits = n) (h : R (.int k (k.wrap (u * 2 ^ n))) w) : Does P ⟨dst, .binOp .shl t x y t2, ty, pos, after, g⟩ ρ w R :=
  d_shl hx hy (by unfold ishl; rw [if_neg hv.1, hv.2]) h
theorem d_shrL {x y : Operand} {t t2 : TypeId} {k k2 : IntKind} {u v : Int} {n : Nat} (hx : ρ x = .int k u) (hy : ρ y = .int k2 v) (hv : ¬ v < 0 ∧ min v.toNat k.bits = n) (h : R (.int k (u.fdiv (2 ^ n))) w) : Does P ⟨dst, .binOp .shr t x y t2, ty, pos, after, g⟩ ρ w R :=
  d_shr hx hy (by unfold ishr; rw [if_neg hv.1, hv.2]) h
theorem d_iconvL {src dt : TypeId} {x : Operand} {k ik : IntKind} {u r : Int} (hs : P.underlying src = some (.int ik)) (hd : P.underlying dt = some (.int k)) (hx : ρ x = .int ik u) (hr : k.wrap u = r)
    (h : R (.int k r) w) : Does P ⟨dst, .convert src dt x, ty, pos, after, g⟩ ρ w R := d_iconv hs hd hx (by rw [hr]; exact h)
theorem d_slenL {x : Operand} {t : TypeId} {s : List UInt8} {n : Int} (ht : P.underlying t = some .string) (hx : ρ x = .string (bs s)) (hn : (s.length : Int) = n) (hR : R (.int .i64 n) w) :
    Does P ⟨dst, .call { callee := .builtin .len, args := #[x], argTypes := #[t] }, ty, pos, after, g⟩ ρ w R := d_slen ht hx (by rw [hn]; exact hR)
theorem d_max {x y : Operand} {ats : Array TypeId} {k : IntKind} {u v : Int} (hx : ρ x = .int k u) (hy : ρ y = .int k v) (h : R (.int k (imax u v)) w) :
    Does P ⟨dst, .call { callee := .builtin .max, args := #[x, y], argTypes := ats }, ty, pos, after, g⟩ ρ w R := by
  refine d_run (v := .int k (imax u v)) (w' := w) ?_ h
  simp only [execOp, resolve, invoke, builtin, Sem.run_bind, Sem.run_pure, Result.andThen_ok, List.map_toArray, List.map_cons, List.map_nil, hx, hy]
  simp [Builtin.max_, Builtin.max2, imax]
theorem nn_ne {k : FloatKind} {x : Nat} (h : fcmp .neq k x x = false) : isNaN k x = false := by rw [ne_self] at h; exact h

variable {w' : World} {E E2 : Type} {e : Enc E} {e2 : Enc E2} {v x y : Value} {xs : List E} {xs2 : List E2}
theorem RS.ne_new (h : RS w e v xs) {b : Nat} (hb : w.heap.size ≤ b) : ¬ v.ownBlock = some b := fun he => Nat.lt_irrefl _ (Nat.lt_of_lt_of_le (h.lt b he) hb)
theorem apart_freshR {v2 : Value} (h : RS w e2 v2 xs2) (hf : ∀ k, v.ownBlock = some k → w.heap.size ≤ k) : ∀ k, v2.ownBlock = some k → ¬ v.ownBlock = some k :=
  fun k h2 h1 => Nat.lt_irrefl _ (Nat.lt_of_lt_of_le (h.lt k h2) (hf k h1))
theorem app_nrR (ha : v.ownBlock = x.ownBlock ∨ v.ownBlock = some w.heap.size) (hx : ∀ k, y.ownBlock = some k → ¬ x.ownBlock = some k) (hy : RS w e y xs) : ∀ k, y.ownBlock = some k → ¬ v.ownBlock = some k := fun k hk hv => by
  rcases ha with h | h
  · exact hx k hk (by rw [← h, hv])
  · rw [h] at hv; cases hv; exact Nat.lt_irrefl _ (hy.lt _ hk)
theorem app_nr2R (ha : ∀ k, v.ownBlock = some k → x.ownBlock = some k ∨ w.heap.size ≤ k) (hx : ∀ k, y.ownBlock = some k → ¬ x.ownBlock = some k) (hy : RS w e y xs) : ∀ k, y.ownBlock = some k → ¬ v.ownBlock = some k := fun k hk hv => by
  rcases ha k hv with h | h
  · exact hx k hk h
  · exact Nat.lt_irrefl _ (Nat.lt_of_lt_of_le (hy.lt _ hk) h)
theorem old_ltb {b0 : Nat} (h : ∀ k, v.ownBlock = some k → k < w.heap.size) (h0 : w.heap.size ≤ b0) : ∀ k, v.ownBlock = some k → ¬ k = b0 := fun k hk => Nat.ne_of_lt (Nat.lt_of_lt_of_le (h k hk) h0)
theorem old_ltr {u : Value} (h : ∀ k, v.ownBlock = some k → k < w.heap.size) (h0 : ∀ k, u.ownBlock = some k → w.heap.size ≤ k) : ∀ k, v.ownBlock = some k → ¬ u.ownBlock = some k := fun k hk hu => Nat.lt_irrefl _ (Nat.lt_of_lt_of_le (h k hk) (h0 k hu))
end
end Go.Rg
