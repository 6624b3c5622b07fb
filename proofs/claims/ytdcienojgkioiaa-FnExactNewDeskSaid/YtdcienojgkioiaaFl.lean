import Derived.WalkKit
import Derived.WalkLawsBesides
import Derived.WalkSpells
import Derived.Deep.Draws
namespace Go.Fl
open Go

/-- Is a word not a number? -/
def isNaN (k : FloatKind) (x : Nat) : Bool := (k.format.read x).isNaN

def qnan : FloatKind → Nat
  | .f32 => 2143289344
  | .f64 => 9221120237041090560

/-- A word, every not-a-number being one. -/
def cn (k : FloatKind) (x : Nat) : Nat := if isNaN k x then qnan k else x

theorem isNaN_qnan (k : FloatKind) : isNaN k (qnan k) = true := by cases k <;> decide +kernel

theorem cn_nan {k : FloatKind} {x : Nat} (h : isNaN k x = true) : cn k x = qnan k := by simp [cn, h]
theorem cn_num {k : FloatKind} {x : Nat} (h : isNaN k x = false) : cn k x = x := by simp [cn, h]

theorem cn_cn (k : FloatKind) (x : Nat) : cn k (cn k x) = cn k x := by
  cases h : isNaN k x
  · rw [cn_num h, cn_num h]
  · rw [cn_nan h, cn_nan (isNaN_qnan k)]

theorem isNaN_cn (k : FloatKind) (x : Nat) : isNaN k (cn k x) = isNaN k x := by
  cases h : isNaN k x
  · rw [cn_num h, h]
  · rw [cn_nan h, isNaN_qnan]

/-- The operation on words, with one not-a-number. -/
def fop (op : BinOp) (k : FloatKind) (x y : Nat) : Nat := cn k ((floatBits op k x y).getD (qnan k))

theorem cn_fop (op : BinOp) (k : FloatKind) (x y : Nat) : cn k (fop op k x y) = fop op k x y := cn_cn _ _

theorem floatBits_nan_left (op : BinOp) (k : FloatKind) (x y : Nat) (h : isNaN k x = true) : floatBits op k x y = none := by
  unfold isNaN at h
  unfold floatBits
  cases op <;> simp only [Ieee.Format.add, Ieee.Format.sub, Ieee.Format.mul, Ieee.Format.div] <;>
  (generalize k.format.read x = d at *; cases d <;> simp_all [Ieee.Datum.isNaN, Ieee.Datum.sum, Ieee.Datum.product, Ieee.Datum.quotient])

theorem floatBits_nan_right (op : BinOp) (k : FloatKind) (x y : Nat) (h : isNaN k y = true) : floatBits op k x y = none := by
  unfold isNaN at h
  unfold floatBits
  cases op <;> simp only [Ieee.Format.add, Ieee.Format.sub, Ieee.Format.mul, Ieee.Format.div] <;>
  (generalize k.format.read y = d at *; generalize k.format.read x = c at *; cases d <;> cases c <;> simp_all [Ieee.Datum.isNaN, Ieee.Datum.opposite, Ieee.Datum.sum, Ieee.Datum.product, Ieee.Datum.quotient])

theorem fop_cn (op : BinOp) (k : FloatKind) (x y : Nat) : fop op k (cn k x) (cn k y) = fop op k x y := by
  unfold fop
  cases hx : isNaN k x
  · cases hy : isNaN k y
    · rw [cn_num hx, cn_num hy]
    · rw [floatBits_nan_right op k _ _ hy, floatBits_nan_right op k _ _ (by rw [isNaN_cn, hy])]
  · rw [floatBits_nan_left op k _ _ hx, floatBits_nan_left op k _ _ (by rw [isNaN_cn, hx])]

theorem isNaN_iff (k : FloatKind) (x : Nat) : isNaN k x = decide (k.format.infRung < x % k.format.signWeight) := by
  unfold isNaN Ieee.Format.read
  dsimp only
  have hb : k.format.binade ≤ k.format.infRung := by cases k <;> decide
  generalize x % k.format.signWeight = m
  split
  · rename_i h; simp only [Ieee.Datum.isNaN]; symm; rw [decide_eq_false_iff_not]; omega
  · split
    · rename_i h; simp only [Ieee.Datum.isNaN]; symm; rw [decide_eq_false_iff_not]; omega
    · split
      · rename_i h; simp only [Ieee.Datum.isNaN]; symm; rw [decide_eq_false_iff_not]; omega
      · simp only [Ieee.Datum.isNaN]; symm; rw [decide_eq_true_iff]; omega

theorem sw32 : FloatKind.f32.format.signWeight = 2147483648 := by decide
theorem sw64 : FloatKind.f64.format.signWeight = 9223372036854775808 := by decide
theorem ir32 : FloatKind.f32.format.infRung = 2139095040 := by decide
theorem ir64 : FloatKind.f64.format.infRung = 9218868437227405312 := by decide
theorem wd32 : (2 : Nat) ^ FloatKind.f32.format.width = 4294967296 := by decide
theorem wd64 : (2 : Nat) ^ FloatKind.f64.format.width = 18446744073709551616 := by decide

/-- What the model picks for a not-a-number is one, and fits. -/
theorem isNaN_picked (k : FloatKind) (x y t : Nat) : isNaN k ((Question.nanBits k x y).cut t) = true ∧ (Question.nanBits k x y).cut t < 2 ^ k.format.width := by
  rw [isNaN_iff]
  cases k
  · have e : (Question.nanBits FloatKind.f32 x y).cut t = (t % 2) * 2147483648 + 2139095040 + 1 + (t / 2) % 8388607 := rfl
    rw [e, wd32, ir32, sw32, decide_eq_true_iff]
    have h1 : (t / 2) % 8388607 < 8388607 := Nat.mod_lt _ (by decide)
    generalize (t / 2) % 8388607 = m at *
    rcases Nat.mod_two_eq_zero_or_one t with h | h <;> rw [h] <;> omega
  · have e : (Question.nanBits FloatKind.f64 x y).cut t = (t % 2) * 9223372036854775808 + 9218868437227405312 + 1 + (t / 2) % 4503599627370495 := rfl
    rw [e, wd64, ir64, sw64, decide_eq_true_iff]
    have h1 : (t / 2) % 4503599627370495 < 4503599627370495 := Nat.mod_lt _ (by decide)
    generalize (t / 2) % 4503599627370495 = m at *
    rcases Nat.mod_two_eq_zero_or_one t with h | h <;> rw [h] <;> omega

theorem run_farith {P : Program} (w : World) (op : BinOp) (hop : op = .add ∨ op = .sub ∨ op = .mul ∨ op = .quo) (t : TypeId) (k : FloatKind) (x y : Nat) :
    ∃ r n, (binOp op t (.float k x) (.float k y)).run P w = .ok (.float k r) (w.drewN n) ∧ cn k r = fop op k x y ∧ r < 2 ^ k.format.width := by
  cases h : floatBits op k x y with
  | some r =>
    refine ⟨r, 0, run_float_arith w op t k x y r h, ?_, ?_⟩
    · simp [fop, h]
    · unfold floatBits at h
      split at h
      · exact k.format.add_lt h
      · exact k.format.sub_lt h
      · exact k.format.mul_lt h
      · exact k.format.div_lt h
      · cases h
  | none =>
    obtain ⟨hn, hl⟩ := isNaN_picked k x y (w.tape w.drawn (.nanBits k x y))
    refine ⟨(Question.nanBits k x y).cut (w.tape w.drawn (.nanBits k x y)), 1, ?_, ?_, hl⟩
    · unfold floatBits at h
      rcases hop with rfl | rfl | rfl | rfl <;> simp only at h <;>
        simp [binOp, Op.floatArith, h, choose, Sem.run, Question.forced, World.drewN]
    · simp [fop, h, cn_nan hn, cn_nan (isNaN_qnan k)]

/-- THE WALK's LAW at a float's + - * /: whatever the bits of a not-a-number. -/
theorem wpList_farith {P : Program} {ops : Array Oper} {Q : Exit → Act → World → Prop} {a : Act} {w : World} {rest : List Oper}
    {dst : Option Tmp} {op : BinOp} {t t2 ty : TypeId} {x y : Operand} {pos : String} {after : Array Edge} (k : FloatKind) (u v : Nat)
    (hop : op = .add ∨ op = .sub ∨ op = .mul ∨ op = .quo) (hx : a.eval x = .float k u) (hy : a.eval y = .float k v)
    (h : ∀ r n, cn k r = fop op k u v → r < 2 ^ k.format.width → wpList P ops Q rest (a.put dst (.float k r)) (w.drewN n)) :
    wpList P ops Q (⟨dst, .binOp op t x y t2, ty, pos, after, none⟩ :: rest) a w := by
  refine wpList_plain rfl fun K hK => ?_
  obtain ⟨r, n, hr, hc, hl⟩ := run_farith (P := P) w op hop t k u v
  unfold Oper.wp
  have he : (execOp a.eval ⟨dst, .binOp op t x y t2, ty, pos, after, none⟩).run P w = .ok (.value (.float k r)) (w.drewN n) := by
    have hg : eqGuard op t x y (a.eval x) (a.eval y) = pure () := by
      rcases hop with rfl | rfl | rfl | rfl <;> rfl
    simp only [execOp, hx, hy] at *
    rw [hg]
    simp [hr]
  rw [he]
  exact hK _ _ (h r n hc hl)

end Go.Fl
