import Derived.Test.YtodohnoicfmneaaDoorFb
/- Small whole numbers in single precision: sums and products are exact. Nothing of a program. -/
namespace Go.Fl
open Go Go.Rg Ieee

/-- A word that stands for a whole number. -/
def IsI (x : Nat) (n : Int) : Prop := ∃ (s : Bool) (k : Nat), FloatKind.f32.format.read x = .number s (n.natAbs <<< k) (-(k : Int)) ∧ (n < 0 → s = true) ∧ (0 < n → s = false)

theorem read_small (s : Bool) (N : Nat) (h : N < 16777216) : ∃ k : Nat, FloatKind.f32.format.read (FloatKind.f32.format.nearest s N 0) = .number s (N <<< k) (-(k : Int)) := by
  by_cases h0 : N = 0
  · subst h0
    refine ⟨149, ?_⟩
    cases s <;> decide +kernel
  · have hL : N.log2 < 24 := log2_lt_of (by omega) h0
    have h1 : 2 ^ N.log2 ≤ N := Nat.log2_self_le h0
    have h2 : N < 2 ^ (N.log2 + 1) := Nat.lt_log2_self
    obtain ⟨j, hj⟩ : ∃ j, 23 = N.log2 + j := ⟨23 - N.log2, by omega⟩
    refine ⟨j, ?_⟩
    have hM1 : 8388608 ≤ N <<< j := by
      rw [Nat.shiftLeft_eq]
      have : 2 ^ N.log2 * 2 ^ j ≤ N * 2 ^ j := Nat.mul_le_mul_right _ h1
      rw [← Nat.pow_add, ← hj] at this
      exact this
    have hM2 : N <<< j < 16777216 := by
      rw [Nat.shiftLeft_eq]
      have : N * 2 ^ j < 2 ^ (N.log2 + 1) * 2 ^ j := Nat.mul_lt_mul_of_pos_right h2 (Nat.two_pow_pos j)
      rw [← Nat.pow_add, show N.log2 + 1 + j = 24 by omega] at this
      exact this
    have hn : FloatKind.f32.format.nearest s N 0 = FloatKind.f32.format.word s ((N.log2 + 126) * 8388608 + N <<< j) := by
      unfold Format.nearest
      rw [if_neg h0, lp32, bn32, fb32]
      have hlast : max ((0 : Int) + (N.log2 : Int) - ((23 : Nat) : Int)) (-149) = -(j : Int) := by omega
      simp only [hlast]
      have e1 : ((0 : Int) - -(j : Int)).toNat = j := by omega
      have e2 : (-(j : Int) - 0).toNat = 0 := by omega
      have e3 : (-(j : Int) - -149).toNat = N.log2 + 126 := by omega
      rw [e1, e2, e3, cut_zero, ir32, Nat.min_eq_left (by omega)]
    rw [hn]
    generalize N <<< j = M at *
    have hw : ∀ r, r < 2147483648 → FloatKind.f32.format.word s r % 2147483648 = r ∧ (FloatKind.f32.format.word s r / 2147483648 % 2 == 1) = s := by
      intro r hr
      unfold Format.word
      rw [sw32]
      cases s with
      | true =>
        simp only [if_true]
        constructor
        · omega
        · have : (2147483648 + r) / 2147483648 = 1 := by omega
          rw [this]; rfl
      | false =>
        simp only [Bool.false_eq_true, if_false]
        constructor
        · omega
        · have : r / 2147483648 = 0 := by omega
          rw [this]; rfl
    obtain ⟨w1, w2⟩ := hw ((N.log2 + 126) * 8388608 + M) (by omega)
    unfold Format.read
    rw [sw32, bn32, ir32, lp32]
    simp only [w1, w2]
    rw [if_neg (by omega), if_pos (by omega)]
    congr 1
    · omega
    · omega

theorem isI_of {s : Bool} {N : Nat} {n : Int} (hN : N = n.natAbs) (h : N < 16777216) (h1 : n < 0 → s = true) (h2 : 0 < n → s = false) : IsI (FloatKind.f32.format.nearest s N 0) n := by
  obtain ⟨k, hk⟩ := read_small s N h
  exact ⟨s, k, by rw [← hN]; exact hk, h1, h2⟩
theorem IsI.num {x : Nat} {n : Int} (h : IsI x n) : isNaN .f32 x = false := by
  obtain ⟨s, k, h, _⟩ := h
  unfold isNaN
  rw [h]; rfl
theorem isI_fint {n : Int} (h : -16777216 < n ∧ n < 16777216) : IsI (fint .f32 n) n := by
  have e : fint .f32 n = FloatKind.f32.format.nearest (decide (n < 0)) n.natAbs 0 := rfl
  rw [e]
  exact isI_of rfl (by omega) (fun h => decide_eq_true h) (fun h => decide_eq_false (by omega))

theorem signed_eq {s : Bool} {n : Int} (h1 : n < 0 → s = true) (h2 : 0 < n → s = false) (k K : Nat) (hk : k ≤ K) : signed s (n.natAbs <<< k) (K - k) = n * 2 ^ K := by
  have e : n.natAbs <<< k <<< (K - k) = n.natAbs * 2 ^ K := by
    rw [← Nat.shiftLeft_add, Nat.shiftLeft_eq, show k + (K - k) = K by omega]
  unfold signed
  rw [e]
  have hc : ((n.natAbs * 2 ^ K : Nat) : Int) = (n.natAbs : Int) * 2 ^ K := by rw [Int.natCast_mul, Int.natCast_pow]; rfl
  rw [hc]
  by_cases hn : n = 0
  · subst hn; cases s <;> simp
  · rcases Int.lt_or_gt_of_ne hn with h | h
    · rw [h1 h, if_pos rfl, ← Int.neg_mul]
      congr 1; omega
    · rw [h2 h]
      simp only [Bool.false_eq_true, if_false]
      congr 1; omega
theorem base_eq (k1 k2 : Nat) : min (-(k1 : Int)) (-(k2 : Int)) = -((max k1 k2 : Nat) : Int) := by omega
/-- The sum of two whole numbers. -/
theorem sum_eq {s1 s2 : Bool} {a b : Int} {k1 k2 : Nat} (a1 : a < 0 → s1 = true) (a2 : 0 < a → s1 = false) (b1 : b < 0 → s2 = true) (b2 : 0 < b → s2 = false) :
    ∃ s K, (Datum.number s1 (a.natAbs <<< k1) (-(k1 : Int))).sum (.number s2 (b.natAbs <<< k2) (-(k2 : Int))) = some (.number s ((a + b).natAbs <<< K) (-(K : Nat) : Int)) ∧ (a + b < 0 → s = true) ∧ (0 < a + b → s = false) := by
  refine ⟨if (a + b) * 2 ^ (max k1 k2) = 0 then s1 && s2 else (a + b) * 2 ^ (max k1 k2) < 0, max k1 k2, ?_, ?_, ?_⟩
  · unfold Datum.sum
    simp only [base_eq]
    have e1 : (-(k1 : Int) - -((max k1 k2 : Nat) : Int)).toNat = max k1 k2 - k1 := by omega
    have e2 : (-(k2 : Int) - -((max k1 k2 : Nat) : Int)).toNat = max k1 k2 - k2 := by omega
    rw [e1, e2, signed_eq a1 a2 _ _ (by omega), signed_eq b1 b2 _ _ (by omega), ← Int.add_mul]
    congr 2
    rw [Int.natAbs_mul, Nat.shiftLeft_eq, Int.natAbs_pow]; rfl
  · intro h
    have hp : (0 : Int) < 2 ^ (max k1 k2) := Int.pow_pos (by omega)
    have hm : (a + b) * 2 ^ (max k1 k2) < 0 := Int.mul_neg_of_neg_of_pos h hp
    rw [if_neg (by omega)]
    exact decide_eq_true hm
  · intro h
    have hp : (0 : Int) < 2 ^ (max k1 k2) := Int.pow_pos (by omega)
    have hm : 0 < (a + b) * 2 ^ (max k1 k2) := Int.mul_pos h hp
    rw [if_neg (by omega)]
    exact decide_eq_false (by omega)
theorem write_small {s : Bool} {n : Int} {K : Nat} (h : n.natAbs < 16777216) (h1 : n < 0 → s = true) (h2 : 0 < n → s = false) : IsI (FloatKind.f32.format.write (.number s (n.natAbs <<< K) (-(K : Int)))) n := by
  have e : FloatKind.f32.format.write (.number s (n.natAbs <<< K) (-(K : Int))) = FloatKind.f32.format.nearest s n.natAbs 0 := by
    show FloatKind.f32.format.nearest s (n.natAbs <<< K) (-(K : Int)) = _
    have := nearest_scale FloatKind.f32.format s n.natAbs 0 K
    rw [Int.zero_sub] at this
    exact this
  rw [e]
  exact isI_of rfl h h1 h2
theorem isI_cn {x : Nat} {n : Int} (h : IsI x n) : IsI (cn .f32 x) n := by rw [cn_num h.num]; exact h
theorem isI_add {x y : Nat} {a b : Int} (hx : IsI x a) (hy : IsI y b) (h : (a + b).natAbs < 16777216) : IsI (fop .add .f32 x y) (a + b) := by
  obtain ⟨s1, k1, r1, a1, a2⟩ := hx
  obtain ⟨s2, k2, r2, b1, b2⟩ := hy
  obtain ⟨s, K, e, c1, c2⟩ := sum_eq (k1 := k1) (k2 := k2) a1 a2 b1 b2
  unfold fop floatBits
  simp only [Format.add, r1, r2, e, Option.map_some, Option.getD_some]
  exact isI_cn (write_small h c1 c2)
theorem isI_sub {x y : Nat} {a b : Int} (hx : IsI x a) (hy : IsI y b) (h : (a - b).natAbs < 16777216) : IsI (fop .sub .f32 x y) (a - b) := by
  obtain ⟨s1, k1, r1, a1, a2⟩ := hx
  obtain ⟨s2, k2, r2, b1, b2⟩ := hy
  obtain ⟨s, K, e, c1, c2⟩ := sum_eq (s2 := !s2) (b := -b) (k1 := k1) (k2 := k2) a1 a2 (fun h => by rw [b2 (by omega)]; rfl) (fun h => by rw [b1 (by omega)]; rfl)
  rw [Int.natAbs_neg] at e
  rw [← Int.sub_eq_add_neg] at e c1 c2
  unfold fop floatBits
  simp only [Format.sub, r1, r2, Datum.opposite, e, Option.map_some, Option.getD_some]
  exact isI_cn (write_small h c1 c2)
theorem isI_mul {x y : Nat} {a b : Int} (hx : IsI x a) (hy : IsI y b) (h : (a * b).natAbs < 16777216) : IsI (fop .mul .f32 x y) (a * b) := by
  obtain ⟨s1, k1, r1, a1, a2⟩ := hx
  obtain ⟨s2, k2, r2, b1, b2⟩ := hy
  have e : (Datum.number s1 (a.natAbs <<< k1) (-(k1 : Int))).product (.number s2 (b.natAbs <<< k2) (-(k2 : Int))) = some (.number (s1 ^^ s2) ((a * b).natAbs <<< (k1 + k2)) (-((k1 + k2 : Nat) : Int))) := by
    unfold Datum.product
    simp only [Option.some.injEq]
    congr 1
    · rw [Int.natAbs_mul, Nat.shiftLeft_eq, Nat.shiftLeft_eq, Nat.shiftLeft_eq, Nat.pow_add]
      rw [Nat.mul_assoc, Nat.mul_left_comm (2 ^ k1), ← Nat.mul_assoc]
    · omega
  unfold fop floatBits
  simp only [Format.mul, r1, r2, e, Option.map_some, Option.getD_some]
  refine isI_cn (write_small h ?_ ?_)
  · intro hn
    rcases Int.lt_trichotomy a 0 with ha | ha | ha
    · have hb : 0 < b := by
        rcases Int.lt_trichotomy b 0 with hb | hb | hb
        · have := Int.mul_pos_of_neg_of_neg ha hb; omega
        · subst hb; simp at hn
        · exact hb
      rw [a1 ha, b2 hb]; rfl
    · subst ha; simp at hn
    · have hb : b < 0 := by
        rcases Int.lt_trichotomy b 0 with hb | hb | hb
        · exact hb
        · subst hb; simp at hn
        · have := Int.mul_pos ha hb; omega
      rw [a2 ha, b1 hb]; rfl
  · intro hn
    rcases Int.lt_trichotomy a 0 with ha | ha | ha
    · have hb : b < 0 := by
        rcases Int.lt_trichotomy b 0 with hb | hb | hb
        · exact hb
        · subst hb; simp at hn
        · have := Int.mul_neg_of_neg_of_pos ha hb; omega
      rw [a1 ha, b1 hb]; rfl
    · subst ha; simp at hn
    · have hb : 0 < b := by
        rcases Int.lt_trichotomy b 0 with hb | hb | hb
        · have := Int.mul_neg_of_pos_of_neg ha hb; omega
        · subst hb; simp at hn
        · exact hb
      rw [a2 ha, b2 hb]; rfl
theorem isI_order {x y : Nat} {a b : Int} (hx : IsI x a) (hy : IsI y b) : FloatKind.f32.format.order x y = some (compare a b) := by
  obtain ⟨s1, k1, r1, a1, a2⟩ := hx
  obtain ⟨s2, k2, r2, b1, b2⟩ := hy
  unfold Format.order
  rw [r1, r2]
  unfold Datum.order
  simp only [base_eq]
  have e1 : (-(k1 : Int) - -((max k1 k2 : Nat) : Int)).toNat = max k1 k2 - k1 := by omega
  have e2 : (-(k2 : Int) - -((max k1 k2 : Nat) : Int)).toNat = max k1 k2 - k2 := by omega
  rw [e1, e2, signed_eq a1 a2 _ _ (by omega), signed_eq b1 b2 _ _ (by omega)]
  congr 1
  have hp : (0 : Int) < 2 ^ (max k1 k2) := Int.pow_pos (by omega)
  generalize (2 : Int) ^ (max k1 k2) = c at hp
  rcases Int.lt_trichotomy a b with h | h | h
  · have : a * c < b * c := Int.mul_lt_mul_of_pos_right h hp
    rw [Int.compare_eq_lt.2 h, Int.compare_eq_lt.2 this]
  · subst h
    rw [Int.compare_eq_eq.2 rfl, Int.compare_eq_eq.2 rfl]
  · have : b * c < a * c := Int.mul_lt_mul_of_pos_right h hp
    rw [Int.compare_eq_gt.2 h, Int.compare_eq_gt.2 this]
theorem isI_eq {x y : Nat} {a : Int} (hx : IsI x a) (hy : IsI y a) : fcmp .eql .f32 x y = true := by
  unfold fcmp
  rw [isI_order hx hy, Int.compare_eq_eq.2 rfl]; rfl
theorem isI_ne {x y : Nat} {a : Int} (hx : IsI x a) (hy : IsI y a) : fcmp .neq .f32 x y = false := by
  unfold fcmp
  rw [isI_order hx hy, Int.compare_eq_eq.2 rfl]; rfl
theorem isI_zero : IsI 0 0 := ⟨false, 149, by decide +kernel, fun h => by omega, fun h => by omega⟩
theorem isI_one : IsI 1065353216 1 := ⟨false, 23, by decide +kernel, fun h => by omega, fun h => rfl⟩
theorem isI_two : IsI 1073741824 2 := ⟨false, 22, by decide +kernel, fun h => by omega, fun h => rfl⟩
theorem isI_mone : IsI 3212836864 (-1) := ⟨true, 23, by decide +kernel, fun h => rfl, fun h => by omega⟩
end Go.Fl
