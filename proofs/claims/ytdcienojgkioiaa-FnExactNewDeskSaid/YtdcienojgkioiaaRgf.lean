import Derived.Test.YtdcienojgkioiaaFa
namespace Go.Rg
open Go Go.RowKit Go.Fl

section
variable {P : Program} {n : Nat} {ops : Array Oper} {K : Sig → World → Prop} {Q : Exit → Sig → World → Prop} {σ : Sig} {w : World} {rest : List Oper}
  {dst : Option Tmp} {ty : TypeId} {pos : String} {after : Array Edge} {g : Option (Nat × Bool)} {ρ : Operand → Value} {R : Value → World → Prop}

theorem isNaN_conv (k : FloatKind) (b t : Nat) : isNaN k ((Question.nanConv k b).cut t) = true ∧ (Question.nanConv k b).cut t < 2 ^ k.format.width := by
  cases k
  · exact isNaN_picked .f32 0 0 t
  · exact isNaN_picked .f64 0 0 t

theorem widen_cn (x : Nat) : widen (cn .f32 x) = widen x := by
  cases h : isNaN .f32 x
  · rw [cn_num h]
  · rw [widen_nan h, widen_nan (by rw [isNaN_cn, h])]

theorem toF_nan {s d : FloatKind} (hne : s ≠ d) {x : Nat} (h : isNaN s x = true) (w : World) : ∃ r n, (Conv.floatToFloat s x d).run P w = .ok (.float d r) (w.drewN n) ∧ cn d r = qnan d ∧ r < 2 ^ d.format.width := by
  obtain ⟨h1, h2⟩ := isNaN_conv d x (w.tape w.drawn (.nanConv d x))
  refine ⟨_, 1, ?_, cn_nan h1, h2⟩
  have h3 : ∃ sg t, s.decode x = .nan sg t := by
    unfold isNaN at h
    show ∃ sg t, s.format.read x = .nan sg t
    cases hd : s.format.read x <;> rw [hd] at h <;> simp [Ieee.Datum.isNaN] at h
    exact ⟨_, _, rfl⟩
  obtain ⟨sg, t, h3⟩ := h3
  simp [Conv.floatToFloat, hne, h3, choose, Sem.run, Question.forced, World.drewN]

theorem d_widen {src dt : TypeId} {x : Operand} {u a : Nat} (hs : P.underlying src = some (.float .f32)) (hd : P.underlying dt = some (.float .f64)) (hx : ρ x = .float .f32 u) (ha : cn .f32 u = a)
    (h : ∀ r w', cn .f64 r = widen a → r < 2 ^ FloatKind.f64.format.width → Ext w w' → R (.float .f64 r) w') : Does P ⟨dst, .convert src dt x, ty, pos, after, g⟩ ρ w R := by
  subst ha
  rw [widen_cn] at h
  cases hn : isNaN .f32 u
  · have h1 : floatToFloatBits .f32 u .f64 = some (widen u) := by
      cases hr : FloatKind.f32.format.read u with
      | nan s t => unfold isNaN at hn; rw [hr] at hn; cases hn
      | infinity s =>
        rw [widen_inf hr]
        unfold floatToFloatBits
        rw [if_neg (by decide)]
        have hd : FloatKind.f32.decode u = .infinity s := hr
        rw [hd]; rfl
      | number s m p =>
        obtain ⟨h2, s', m', p', h3, _⟩ := widen_num hr
        rw [h2] at h3 ⊢
        unfold floatToFloatBits
        rw [if_neg (by decide)]
        have hd : FloatKind.f32.decode u = .number s m p := hr
        rw [hd]
        dsimp only
        have h4 : FloatKind.f64.decode (FloatKind.f64.encode (.number s m p)) = .number s' m' p' := h3
        rw [h4]; rfl
    have hw : isNaN .f64 (widen u) = false ∨ True := .inr trivial
    have hl : widen u < 2 ^ FloatKind.f64.format.width := by
      have := floatToFloatBits_wf (src := .f32) (bits := u) (dst := .f64) (r := widen u)
      cases hr : FloatKind.f32.format.read u with
      | nan s t => unfold isNaN at hn; rw [hr] at hn; cases hn
      | infinity s => rw [widen_inf hr, wd64]; cases s <;> decide
      | number s m p => rw [(widen_num hr).1]; exact FloatKind.f64.format.nearest_lt s m p
    refine d_run (v := .float .f64 (widen u)) (w' := w) ?_ (h _ w ?_ hl (Ext.refl _))
    · simp only [execOp, hx]
      simp [run_convert_float_float w src dt .f32 .f64 u (widen u) (by rw [hs]; rfl) hd h1]
    · unfold widen; exact cn_cn _ _
  · obtain ⟨r, n, hr, hc, hl⟩ := toF_nan (P := P) (s := .f32) (d := .f64) (by decide) hn w
    refine d_run (v := .float .f64 r) (w' := w.drewN n) ?_ (h r _ (by rw [hc, widen_nan hn]) hl (Ext.drewN _ _))
    simp only [execOp, hx]
    simp [convert, run_underlying hs, run_underlying hd, hr]

/-- A 64-bit number made narrow. -/
def narrow (x : Nat) : Nat := cn .f32 ((floatToFloatBits .f64 x .f32).getD (qnan .f32))

theorem toF_none {x : Nat} (h : isNaN .f64 x = true) : floatToFloatBits .f64 x .f32 = none := by
  unfold floatToFloatBits
  rw [if_neg (by decide)]
  unfold isNaN at h
  show (match FloatKind.f64.format.read x with | .nan _ _ => _ | .infinity s => _ | .number s m e => _) = _
  generalize FloatKind.f64.format.read x = d at *
  cases d <;> simp [Ieee.Datum.isNaN] at h ⊢

theorem narrow_nan {x : Nat} (h : isNaN .f64 x = true) : narrow x = qnan .f32 := by
  unfold narrow
  rw [toF_none h]
  exact cn_nan (isNaN_qnan _)

theorem narrow_cn (x : Nat) : narrow (cn .f64 x) = narrow x := by
  cases h : isNaN .f64 x
  · rw [cn_num h]
  · rw [narrow_nan h, narrow_nan (by rw [isNaN_cn, h])]

theorem d_narrow {src dt : TypeId} {x : Operand} {u a : Nat} (hs : P.underlying src = some (.float .f64)) (hd : P.underlying dt = some (.float .f32)) (hx : ρ x = .float .f64 u) (ha : cn .f64 u = a) (hN : Nar a)
    (h : ∀ r w', cn .f32 r = narrow a → r < 2 ^ FloatKind.f32.format.width → Ext w w' → R (.float .f32 r) w') : Does P ⟨dst, .convert src dt x, ty, pos, after, g⟩ ρ w R := by
  subst ha
  rw [narrow_cn] at h
  cases hn : isNaN .f64 u
  · rw [cn_num hn] at hN
    have h1 := hN.resolve_left (by rw [hn]; simp)
    obtain ⟨r, hr⟩ := Option.isSome_iff_exists.1 h1
    have hl : r < 2 ^ FloatKind.f32.format.width := by
      unfold floatToFloatBits at hr
      rw [if_neg (by decide)] at hr
      split at hr
      · cases hr
      · cases hr; exact FloatKind.f32.format.write_lt _
      · split at hr
        · cases hr
        · cases hr; exact FloatKind.f32.format.write_lt _
    refine d_run (v := .float .f32 r) (w' := w) ?_ (h _ w ?_ hl (Ext.refl _))
    · simp only [execOp, hx]
      simp [run_convert_float_float w src dt .f64 .f32 u r (by rw [hs]; rfl) hd hr]
    · unfold narrow; rw [hr]; rfl
  · obtain ⟨r, n, hr, hc, hl⟩ := toF_nan (P := P) (s := .f64) (d := .f32) (by decide) hn w
    refine d_run (v := .float .f32 r) (w' := w.drewN n) ?_ (h r _ (by rw [hc, narrow_nan hn]) hl (Ext.drewN _ _))
    simp only [execOp, hx]
    simp [convert, run_underlying hs, run_underlying hd, hr]

/-- A whole number as a float. -/
def fint (k : FloatKind) (n : Int) : Nat := k.nearest n

theorem isNaN_word {k : FloatKind} {s : Bool} {r : Nat} (h : r ≤ k.format.infRung) : isNaN k (k.format.word s r) = false := by
  rw [isNaN_iff, word_mod _ _ _ (Nat.lt_of_le_of_lt h (infRung_lt k))]
  simp only [decide_eq_false_iff_not]
  omega

theorem isNaN_nearest (k : FloatKind) (s : Bool) (m : Nat) (p : Int) : isNaN k (k.format.nearest s m p) = false := by
  by_cases h : m = 0
  · subst h
    have : k.format.nearest s 0 p = k.format.word s 0 := by unfold Ieee.Format.nearest; rw [if_pos rfl]
    rw [this]; exact isNaN_word (Nat.zero_le _)
  · rw [nearest_eq _ _ _ _ h]; exact isNaN_word (Nat.min_le_right _ _)

theorem cn_fint (k : FloatKind) (n : Int) : cn k (fint k n) = fint k n := cn_num (isNaN_nearest k _ _ _)
theorem fint_lt (k : FloatKind) (n : Int) : fint k n < 2 ^ k.format.width := k.format.nearest_lt _ _ _

theorem d_ofInt {src dt : TypeId} {x : Operand} {k : FloatKind} {ik : IntKind} {u : Int} (hs : P.underlying src = some (.int ik)) (hd : P.underlying dt = some (.float k)) (hx : ρ x = .int ik u)
    (h : R (.float k (fint k u)) w) : Does P ⟨dst, .convert src dt x, ty, pos, after, g⟩ ρ w R := by
  refine d_run (v := .float k (fint k u)) (w' := w) ?_ h
  simp only [execOp, hx]
  simp [convert, run_underlying hs, run_underlying hd, Conv.intToFloat, fint]

theorem floatSqrt_nan {x : Nat} (h : isNaN .f64 x = true) : FloatKind.f64.format.sqrt x = none := by
  unfold isNaN at h
  unfold Ieee.Format.sqrt
  generalize FloatKind.f64.format.read x = d at *
  cases d <;> simp [Ieee.Datum.isNaN] at h ⊢
  rfl

theorem fsqrt_cn (x : Nat) : fsqrt (cn .f64 x) = fsqrt x := by
  cases h : isNaN .f64 x
  · rw [cn_num h]
  · unfold fsqrt
    rw [floatSqrt_nan h, floatSqrt_nan (by rw [isNaN_cn, h])]

theorem sqrt_eq (u : Nat) : Extern.MathSqrt.sqrt #[.float .f64 u] = (match FloatKind.f64.format.sqrt u with | some r => pure (.float .f64 r) | none => do pure (.float .f64 (← choose (.nanBits .f64 u u)))) := rfl

theorem run_sqrt (u : Nat) (w : World) : ∃ r n, (Extern.MathSqrt.sqrt #[.float .f64 u]).run P w = .ok (.float .f64 r) (w.drewN n) ∧ cn .f64 r = fsqrt u ∧ r < 2 ^ FloatKind.f64.format.width := by
  rw [sqrt_eq]
  cases h : FloatKind.f64.format.sqrt u with
  | some r => exact ⟨r, 0, rfl, by unfold fsqrt; rw [h]; rfl, FloatKind.f64.format.sqrt_lt h⟩
  | none =>
    obtain ⟨hn, hl⟩ := isNaN_picked .f64 u u (w.tape w.drawn (.nanBits .f64 u u))
    refine ⟨_, 1, by simp [choose, Sem.run, Question.forced, World.drewN], ?_, hl⟩
    unfold fsqrt; rw [h, cn_nan hn]; exact (cn_nan (isNaN_qnan _)).symm

/-- math.sqrt is called. -/
theorem d_sqrt {f : FuncId} {fn : Func} {x : Operand} {ats : Array TypeId} {u a : Nat} (hf : P.funcs[f]? = some fn) (hname : (fn.name == "runtime.NumGoroutine") = false) (hb : fn.body.isNone = true) (hn : Extern.findNext fn = none) (he : Extern.find fn = some Extern.MathSqrt.sqrt)
    (hfn : ρ (.func f) = .func (.func f) #[] #[]) (hx : ρ x = .float .f64 u) (ha : cn .f64 u = a)
    (h : ∀ r w', cn .f64 r = fsqrt a → r < 2 ^ FloatKind.f64.format.width → Ext w w' → R (.float .f64 r) w') : Does P ⟨dst, .call { callee := .value (.func f), args := #[x], argTypes := ats }, ty, pos, after, g⟩ ρ w R := by
  obtain ⟨r, n, hr, hc, hl⟩ := run_sqrt (P := P) u w
  refine d_run (v := .float .f64 r) (w' := w.drewN n) ?_ (h r _ (by rw [hc, ← ha, fsqrt_cn]) hl (Ext.drewN _ _))
  simp only [execOp, resolve, hfn, Deferred.ofValue]
  simp [invoke, run_callFunc_extern hf hname hb hn he, hx, hr]

/-- Two bools are compared. -/
theorem run_equal_bool {t : TypeId} {a b : Bool} (ht : P.underlying t = some .bool) (w : World) : (Op.equal t (.bool a) (.bool b)).run P w = .ok (a == b) w := by
  unfold Op.equal Op.maxDepth
  rw [show (10000 : Nat) = 9999 + 1 from rfl, Op.equalIn]
  simp only [Sem.run_bind, run_underlying ht, Result.andThen_ok, Sem.run_pure]
theorem d_beq {x y : Operand} {t t2 : TypeId} {a b : Bool} (ht : P.underlying t = some .bool) (hx : ρ x = .bool a) (hy : ρ y = .bool b) (h : R (.bool (a == b)) w) : Does P ⟨dst, .binOp .eql t x y t2, ty, pos, after, g⟩ ρ w R := by
  refine d_run (v := .bool (a == b)) (w' := w) ?_ h
  simp only [execOp, hx, hy]
  have e : binOp .eql t (.bool a) (.bool b) = (do pure (.bool (← Op.equal t (.bool a) (.bool b)))) := rfl
  rw [e]
  simp [eqGuard, run_equal_bool ht]
theorem d_bne {x y : Operand} {t t2 : TypeId} {a b : Bool} (ht : P.underlying t = some .bool) (hx : ρ x = .bool a) (hy : ρ y = .bool b) (h : R (.bool (!(a == b))) w) : Does P ⟨dst, .binOp .neq t x y t2, ty, pos, after, g⟩ ρ w R := by
  refine d_run (v := .bool (!(a == b))) (w' := w) ?_ h
  simp only [execOp, hx, hy]
  have e : binOp .neq t (.bool a) (.bool b) = (do pure (.bool (!(← Op.equal t (.bool a) (.bool b))))) := rfl
  rw [e]
  simp [eqGuard, run_equal_bool ht]

/-- A piece of a row. -/
theorem sub_get {cs vs : Array Value} {o i : Nat} {v : Value} (h : (cs.toList.drop o).take vs.size = vs.toList) (hv : vs[i]? = some v) : cs[o + i]? = some v := by
  have h1 : vs.toList[i]? = some v := by simpa using hv
  rw [← h, List.getElem?_take] at h1
  split at h1
  · rw [List.getElem?_drop] at h1; simpa using h1
  · cases h1
theorem sub_take {cs vs us : Array Value} {o i : Nat} (h : (cs.toList.drop o).take vs.size = vs.toList) (hv : (vs.toList.drop i).take us.size = us.toList) (hl : i + us.size ≤ vs.size) : (cs.toList.drop (o + i)).take us.size = us.toList := by
  rw [← hv, ← h, List.drop_take, List.drop_drop, List.take_take, Nat.min_eq_left (by omega)]
end
end Go.Rg
