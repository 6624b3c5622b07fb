import Derived.Test.YtdcienojgkioiaaRz
import Derived.Test.YtdcienojgkioiaaFb
/- Floats' further operations: a sign taken away, the greater and the less of two, narrowing where it is known not to overflow. -/
namespace Go.Rg
open Go Go.RowKit Go.Fl

/-- The absolute value. -/
def fabs (k : FloatKind) (x : Nat) : Nat := cn k (x % k.format.signWeight)
theorem isNaN_mod (k : FloatKind) (x : Nat) : isNaN k (x % k.format.signWeight) = isNaN k x := by
  rw [isNaN_iff, isNaN_iff, Nat.mod_mod]
theorem fabs_raw {k : FloatKind} {r e : Nat} (h : cn k r = e) : cn k (r % k.format.signWeight) = fabs k e := by
  subst h
  unfold fabs
  cases hn : isNaN k r
  · rw [cn_num hn]
  · rw [cn_nan hn, cn_nan (by rw [isNaN_mod]; exact hn), cn_nan (by rw [isNaN_mod]; exact isNaN_qnan k)]
theorem andn32 (r : Nat) : (iandn .u32 (r : Int) 2147483648).toNat = r % 2147483648 := by
  unfold iandn
  have e : (BitVec.ofInt IntKind.u32.bits (r : Int) &&& ~~~BitVec.ofInt IntKind.u32.bits 2147483648).toNat = r % 2147483648 := by
    have h1 : (BitVec.ofInt IntKind.u32.bits (r : Int)).toNat = r % 4294967296 := by
      rw [BitVec.toNat_ofInt]
      have : IntKind.u32.bits = 32 := rfl
      rw [this]
      omega
    have h2 : (~~~BitVec.ofInt IntKind.u32.bits 2147483648).toNat = 2 ^ 31 - 1 := by decide
    rw [BitVec.toNat_and, h1, h2, Nat.and_two_pow_sub_one_eq_mod]
    omega
  rw [e, IntKind.wrap_u32]
  omega
theorem andn64 (r : Nat) : (iandn .u64 (r : Int) 9223372036854775808).toNat = r % 9223372036854775808 := by
  unfold iandn
  have e : (BitVec.ofInt IntKind.u64.bits (r : Int) &&& ~~~BitVec.ofInt IntKind.u64.bits 9223372036854775808).toNat = r % 9223372036854775808 := by
    have h1 : (BitVec.ofInt IntKind.u64.bits (r : Int)).toNat = r % 18446744073709551616 := by
      rw [BitVec.toNat_ofInt]
      have : IntKind.u64.bits = 64 := rfl
      rw [this]
      omega
    have h2 : (~~~BitVec.ofInt IntKind.u64.bits 9223372036854775808).toNat = 2 ^ 63 - 1 := by decide
    rw [BitVec.toNat_and, h1, h2, Nat.and_two_pow_sub_one_eq_mod]
    omega
  rw [e, IntKind.wrap_u64]
  omega
theorem fabs_of32 {r e : Nat} (h : cn .f32 r = e) : cn .f32 ((iandn .u32 (r : Int) 2147483648).toNat) = fabs .f32 e := by
  rw [andn32]
  exact fabs_raw (k := .f32) h
theorem fabs_of64 {r e : Nat} (h : cn .f64 r = e) : cn .f64 ((iandn .u64 (r : Int) 9223372036854775808).toNat) = fabs .f64 e := by
  rw [andn64]
  exact fabs_raw (k := .f64) h

/-- Narrowing, where it does not overflow. -/
def narrowP (x : Nat) : Option Nat := if isNaN .f64 x = true ∨ (floatToFloatBits .f64 x .f32).isSome = true then some (narrow x) else none
theorem narrowP_out {x y : Nat} (h : narrowP x = some y) : Nar x ∧ narrow x = y := by
  unfold narrowP at h
  split at h
  · rename_i hn; exact ⟨hn, Option.some.inj h⟩
  · cases h
theorem narrowP_in {x : Nat} (h : Nar x) : narrowP x = some (narrow x) := if_pos h

/-- The greater of two. -/
def fmaxf (k : FloatKind) (x y : Nat) : Nat := match k.format.order x y with
  | none => qnan k
  | some .lt => y
  | some .gt => x
  | some .eq => if (k.decode x).neg then y else x
def fminf (k : FloatKind) (x y : Nat) : Nat := match k.format.order x y with
  | none => qnan k
  | some .lt => x
  | some .gt => y
  | some .eq => if (k.decode x).neg then x else y
theorem order_nan {k : FloatKind} {x y : Nat} (h : k.format.order x y = none) : isNaN k x = true ∨ isNaN k y = true := by
  unfold Ieee.Format.order at h
  unfold isNaN
  generalize k.format.read x = a at *
  generalize k.format.read y = b at *
  cases a <;> cases b <;> simp_all [Ieee.Datum.order, Ieee.Datum.isNaN]
theorem order_num {k : FloatKind} {x y : Nat} {o : Ordering} (h : k.format.order x y = some o) : isNaN k x = false ∧ isNaN k y = false := by
  unfold Ieee.Format.order at h
  unfold isNaN
  generalize k.format.read x = a at *
  generalize k.format.read y = b at *
  cases a <;> cases b <;> simp_all [Ieee.Datum.order, Ieee.Datum.isNaN]
theorem nmm_nan (k : FloatKind) (m : Bool) (x y t : Nat) : isNaN k ((Question.nanMinMax k m x y).cut t) = true ∧ (Question.nanMinMax k m x y).cut t < 2 ^ k.format.width := by
  have := isNaN_picked k x y t
  cases k
  · exact this
  · exact this
/-- A float made whole. -/
def fwhole (way : Ieee.Toward) (x : Nat) : Nat := if isNaN .f64 x = true then qnan .f64 else cn .f64 (FloatKind.f64.format.write ((FloatKind.f64.format.read x).integral way))
theorem quiet_nan (s : Bool) (t : Nat) : isNaN .f64 (FloatKind.f64.format.write (.nan s (FloatKind.f64.format.quiet t))) = true := by
  have hb : FloatKind.f64.format.quiet t % FloatKind.f64.format.binade ≠ 0 := by
    have h1 : FloatKind.f64.format.binade = 2 ^ 52 := rfl
    have h2 : FloatKind.f64.format.quiet t = t ||| 2 ^ 51 := rfl
    rw [h1, h2]
    intro h
    have h3 := Nat.testBit_mod_two_pow (t ||| 2 ^ 51) 52 51
    rw [h, Nat.testBit_or, Nat.testBit_two_pow_self, Bool.or_true, Nat.zero_testBit] at h3
    revert h3
    decide
  have hlt : FloatKind.f64.format.quiet t % FloatKind.f64.format.binade < 4503599627370496 := Nat.mod_lt _ (by decide)
  rw [isNaN_iff]
  show decide (_ < FloatKind.f64.format.word s (FloatKind.f64.format.infRung + FloatKind.f64.format.quiet t % FloatKind.f64.format.binade) % FloatKind.f64.format.signWeight) = true
  rw [word_mod _ _ _ (by rw [ir64, sw64]; omega), decide_eq_true_iff]
  omega
section
variable {P : Program} {w : World} {dst : Option Tmp} {ty : TypeId} {pos : String} {after : Array Edge} {g : Option (Nat × Bool)} {ρ : Operand → Value} {R : Value → World → Prop}
theorem d_fmax {k : FloatKind} {x y : Operand} {u v a b : Nat} {ats : Array TypeId} (hx : ρ x = .float k u) (ha : cn k u = a) (hy : ρ y = .float k v) (hb : cn k v = b) (h : ∀ r w', cn k r = fmaxf k a b → Ext w w' → R (.float k r) w') :
    Does P ⟨dst, .call { callee := .builtin .max, args := #[x, y], argTypes := ats }, ty, pos, after, g⟩ ρ w R := by
  subst ha hb
  have key : ∃ r n, (Builtin.max2 (.float k u) (.float k v)).run P w = .ok (.float k r) (w.drewN n) ∧ cn k r = fmaxf k (cn k u) (cn k v) := by
    unfold fmaxf
    rw [order_cn]
    cases ho : k.format.order u v with
    | none =>
      refine ⟨(Question.nanMinMax k true u v).cut (w.tape w.drawn (.nanMinMax k true u v)), 1, ?_, cn_nan (nmm_nan _ _ _ _ _).1⟩
      simp [Builtin.max2, ho, choose, Sem.run, Question.forced, World.drewN]
    | some o =>
      obtain ⟨h1, h2⟩ := order_num ho
      rw [cn_num h1, cn_num h2]
      cases o with
      | lt => exact ⟨v, 0, by simp [Builtin.max2, ho, World.drewN], cn_num h2⟩
      | gt => exact ⟨u, 0, by simp [Builtin.max2, ho, World.drewN], cn_num h1⟩
      | eq =>
        cases hd : (k.decode u).neg with
        | true => exact ⟨v, 0, by simp [Builtin.max2, ho, hd, World.drewN], by simpa using cn_num h2⟩
        | false => exact ⟨u, 0, by simp [Builtin.max2, ho, hd, World.drewN], by simpa using cn_num h1⟩
  obtain ⟨r, n, hr, hc⟩ := key
  refine d_run (v := .float k r) (w' := w.drewN n) ?_ (h r _ hc (Ext.drewN w n))
  simp only [execOp, resolve, invoke, builtin, Sem.run_bind, Sem.run_pure, Result.andThen_ok, List.map_toArray, List.map_cons, List.map_nil, hx, hy]
  simp [Builtin.max_, hr]
theorem d_f32bitsR {f : FuncId} {fn : Func} {x : Operand} {ats : Array TypeId} {u : Nat} (hf : P.funcs[f]? = some fn) (hname : (fn.name == "runtime.NumGoroutine") = false) (hb : fn.body.isNone = true) (hn : Extern.findNext fn = none) (he : Extern.find fn = some Extern.MathFloatBits.float32bits)
    (hfn : ρ (.func f) = .func (.func f) #[] #[]) (hx : ρ x = .float .f32 u) (h : R (.int .u32 u) w) : Does P ⟨dst, .call { callee := .value (.func f), args := #[x], argTypes := ats }, ty, pos, after, g⟩ ρ w R := by
  refine d_run (v := .int .u32 u) (w' := w) ?_ h
  simp only [execOp, resolve, hfn, Deferred.ofValue]
  have e : (Extern.MathFloatBits.float32bits #[.float .f32 u]).run P w = .ok (.int .u32 u) w := rfl
  simp [invoke, run_callFunc_extern hf hname hb hn he, hx, e]
theorem d_f64bitsR {f : FuncId} {fn : Func} {x : Operand} {ats : Array TypeId} {u : Nat} (hf : P.funcs[f]? = some fn) (hname : (fn.name == "runtime.NumGoroutine") = false) (hb : fn.body.isNone = true) (hn : Extern.findNext fn = none) (he : Extern.find fn = some Extern.MathFloatBits.float64bits)
    (hfn : ρ (.func f) = .func (.func f) #[] #[]) (hx : ρ x = .float .f64 u) (h : R (.int .u64 u) w) : Does P ⟨dst, .call { callee := .value (.func f), args := #[x], argTypes := ats }, ty, pos, after, g⟩ ρ w R := by
  refine d_run (v := .int .u64 u) (w' := w) ?_ h
  simp only [execOp, resolve, hfn, Deferred.ofValue]
  have e : (Extern.MathFloatBits.float64bits #[.float .f64 u]).run P w = .ok (.int .u64 u) w := rfl
  simp [invoke, run_callFunc_extern hf hname hb hn he, hx, e]
theorem d_f64bits {f : FuncId} {fn : Func} {x : Operand} {ats : Array TypeId} {u a : Nat} (hf : P.funcs[f]? = some fn) (hname : (fn.name == "runtime.NumGoroutine") = false) (hb : fn.body.isNone = true) (hn : Extern.findNext fn = none) (he : Extern.find fn = some Extern.MathFloatBits.float64bits)
    (hfn : ρ (.func f) = .func (.func f) #[] #[]) (hx : ρ x = .float .f64 u) (ha : cn .f64 u = a) (hna : isNaN .f64 a = false) (h : R (.int .u64 a) w) : Does P ⟨dst, .call { callee := .value (.func f), args := #[x], argTypes := ats }, ty, pos, after, g⟩ ρ w R := by
  have hu : u = a := by
    rw [← ha, isNaN_cn] at hna
    rw [← ha, cn_num hna]
  subst hu
  exact d_f64bitsR hf hname hb hn he hfn hx h
theorem d_f64from {f : FuncId} {fn : Func} {x : Operand} {ats : Array TypeId} {n : Int} (hf : P.funcs[f]? = some fn) (hname : (fn.name == "runtime.NumGoroutine") = false) (hb : fn.body.isNone = true) (hn : Extern.findNext fn = none) (he : Extern.find fn = some Extern.MathFloatBits.float64frombits)
    (hfn : ρ (.func f) = .func (.func f) #[] #[]) (hx : ρ x = .int .u64 n) (h : R (.float .f64 n.toNat) w) : Does P ⟨dst, .call { callee := .value (.func f), args := #[x], argTypes := ats }, ty, pos, after, g⟩ ρ w R := by
  refine d_run (v := .float .f64 n.toNat) (w' := w) ?_ h
  simp only [execOp, resolve, hfn, Deferred.ofValue]
  have e : (Extern.MathFloatBits.float64frombits #[.int .u64 n]).run P w = .ok (.float .f64 n.toNat) w := rfl
  simp [invoke, run_callFunc_extern hf hname hb hn he, hx, e]
def whSem (way : Ieee.Toward) (u : Nat) (d : Ieee.Datum) : Sem Value := match d with
  | .nan s t =>
    if FloatKind.f64.format.quiet t = t then pure (.float .f64 u) else do
    let kept ← choose (.extern "math.Floor,Ceil,Trunc,RoundToEven.signallingNaN kept" 2)
    pure (.float .f64 (if kept == 1 then u else FloatKind.f64.encode (.nan s (FloatKind.f64.format.quiet t))))
  | d => pure (.float .f64 (FloatKind.f64.encode (d.integral way)))
theorem wh_eq (nm : String) (way : Ieee.Toward) (u : Nat) : Extern.MathFloor.toIntegral nm way #[.float .f64 u] = whSem way u (FloatKind.f64.format.read u) := rfl
theorem d_whole {way : Ieee.Toward} {nm : String} {f : FuncId} {fn : Func} {x : Operand} {ats : Array TypeId} {u a : Nat} (hf : P.funcs[f]? = some fn) (hname : (fn.name == "runtime.NumGoroutine") = false) (hb : fn.body.isNone = true) (hn : Extern.findNext fn = none) (he : Extern.find fn = some (Extern.MathFloor.toIntegral nm way))
    (hfn : ρ (.func f) = .func (.func f) #[] #[]) (hx : ρ x = .float .f64 u) (ha : cn .f64 u = a) (h : ∀ r w', cn .f64 r = fwhole way a → Ext w w' → R (.float .f64 r) w') : Does P ⟨dst, .call { callee := .value (.func f), args := #[x], argTypes := ats }, ty, pos, after, g⟩ ρ w R := by
  subst ha
  have key : ∃ r n, (Extern.MathFloor.toIntegral nm way #[.float .f64 u]).run P w = .ok (.float .f64 r) (w.drewN n) ∧ cn .f64 r = fwhole way (cn .f64 u) := by
    unfold fwhole
    rw [isNaN_cn]
    rw [wh_eq]
    cases hr : FloatKind.f64.format.read u with
    | nan s t =>
      have hN : isNaN .f64 u = true := by unfold isNaN; rw [hr]; rfl
      rw [if_pos hN]
      unfold whSem
      simp only
      by_cases hq : FloatKind.f64.format.quiet t = t
      · rw [if_pos hq]
        exact ⟨u, 0, by simp [World.drewN], cn_nan hN⟩
      · rw [if_neg hq]
        refine ⟨_, 1, by simp [choose, Sem.run, Question.forced, World.drewN]; rfl, ?_⟩
        split
        · exact cn_nan hN
        · exact cn_nan (quiet_nan s t)
    | infinity s =>
      have hN : isNaN .f64 u = false := by unfold isNaN; rw [hr]; rfl
      rw [if_neg (by rw [hN]; simp), cn_num hN, hr]
      exact ⟨_, 0, rfl, rfl⟩
    | number s m p =>
      have hN : isNaN .f64 u = false := by unfold isNaN; rw [hr]; rfl
      rw [if_neg (by rw [hN]; simp), cn_num hN, hr]
      exact ⟨_, 0, rfl, rfl⟩
  obtain ⟨r, n, hr, hc⟩ := key
  refine d_run (v := .float .f64 r) (w' := w.drewN n) ?_ (h r _ hc (Ext.drewN w n))
  simp only [execOp, resolve, hfn, Deferred.ofValue]
  simp [invoke, run_callFunc_extern hf hname hb hn he, hx, hr]
end
end Go.Rg
