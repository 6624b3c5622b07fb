import Derived.Test.YtdcienojgkioiaaRgf
namespace Go.Fl
open Go Go.Rg Ieee

theorem cut_zero (neg : Bool) (n : Nat) : Toward.even.cut neg n 0 = n := by
  unfold Toward.cut
  simp only [Nat.zero_min, Nat.shiftLeft_zero, Nat.div_one, Nat.mod_one]
  simp

/-- What is a whole number of units is cut to it. -/
theorem cut_exact (neg : Bool) (q d : Nat) (hq : q ≠ 0) : Toward.even.cut neg (q <<< d) d = q := by
  have hm : min d ((q <<< d).log2 + 2) = d := by rw [log2_shift q d hq]; omega
  unfold Toward.cut
  rw [hm]
  have h1 : 1 <<< d = 2 ^ d := by rw [Nat.one_shiftLeft]
  have h2 : 0 < 2 ^ d := Nat.two_pow_pos d
  simp only [h1, Nat.shiftLeft_eq, Nat.mul_div_cancel _ h2, Nat.mul_mod_left]
  simp

theorem cut_scale (neg : Bool) (m d k : Nat) (hm : m ≠ 0) : Toward.even.cut neg (m <<< k) (d + k) = Toward.even.cut neg m d := by
  have hmin : min (d + k) ((m <<< k).log2 + 2) = min d (m.log2 + 2) + k := by rw [log2_shift m k hm]; omega
  unfold Toward.cut
  rw [hmin]
  generalize min d (m.log2 + 2) = g
  have h2 : 0 < 2 ^ k := Nat.two_pow_pos k
  have e1 : 1 <<< (g + k) = 2 ^ g * 2 ^ k := by rw [Nat.one_shiftLeft, Nat.pow_add]
  have e2 : 1 <<< g = 2 ^ g := by rw [Nat.one_shiftLeft]
  have e3 : m <<< k / (2 ^ g * 2 ^ k) = m / 2 ^ g := by rw [Nat.shiftLeft_eq, Nat.mul_div_mul_right _ _ h2]
  have e4 : m <<< k % (2 ^ g * 2 ^ k) = m % 2 ^ g * 2 ^ k := by rw [Nat.shiftLeft_eq, Nat.mul_mod_mul_right]
  simp only [e1, e2, e3, e4]
  have e5 : decide (2 ^ g * 2 ^ k < 2 * (m % 2 ^ g * 2 ^ k)) = decide (2 ^ g < 2 * (m % 2 ^ g)) := by
    rw [← Nat.mul_assoc]
    exact decide_eq_decide.2 ⟨fun h => Nat.lt_of_mul_lt_mul_right h, fun h => Nat.mul_lt_mul_of_pos_right h h2⟩
  have e6 : (2 ^ g * 2 ^ k == 2 * (m % 2 ^ g * 2 ^ k)) = (2 ^ g == 2 * (m % 2 ^ g)) := by
    rw [← Nat.mul_assoc]
    by_cases h : 2 ^ g = 2 * (m % 2 ^ g)
    · rw [← h]; simp
    · have : ¬ 2 ^ g * 2 ^ k = 2 * (m % 2 ^ g) * 2 ^ k := fun e => h (Nat.eq_of_mul_eq_mul_right h2 e)
      rw [beq_eq_false_iff_ne.2 h, beq_eq_false_iff_ne.2 this]
  rw [e5, e6]

/-- The word nearest to a number hangs on its value alone. -/
theorem nearest_scale (f : Format) (neg : Bool) (m : Nat) (p : Int) (k : Nat) : f.nearest neg (m <<< k) (p - k) = f.nearest neg m p := by
  by_cases hm : m = 0
  · subst hm; unfold Format.nearest; simp
  have hs : m <<< k ≠ 0 := by rw [Nat.shiftLeft_eq]; exact Nat.mul_ne_zero hm (Nat.pos_iff_ne_zero.1 (Nat.two_pow_pos k))
  unfold Format.nearest
  rw [if_neg hm, if_neg hs, log2_shift m k hm]
  have hl : (p - (k : Int) + ((m.log2 + k : Nat) : Int) - f.fractionBits) = p + m.log2 - f.fractionBits := by omega
  simp only [hl]
  generalize max (p + (m.log2 : Int) - f.fractionBits) f.leastPlace = last
  have key : Toward.even.cut neg (m <<< k <<< (p - k - last).toNat) (last - (p - k)).toNat = Toward.even.cut neg (m <<< (p - last).toNat) (last - p).toNat := by
    rcases Int.le_total last p with h | h
    · have h0 : (last - p).toNat = 0 := by omega
      rw [h0, cut_zero]
      rcases Int.le_total last (p - k) with h1 | h1
      · have : (last - (p - k)).toNat = 0 := by omega
        rw [this, cut_zero, ← Nat.shiftLeft_add]
        congr 1; omega
      · have h2 : (p - k - last).toNat = 0 := by omega
        obtain ⟨d, hd⟩ : ∃ d : Nat, (last - (p - k)).toNat = d := ⟨_, rfl⟩
        rw [h2, Nat.shiftLeft_zero, hd]
        have e : k = (p - last).toNat + d := by omega
        conv => lhs; rw [e, Nat.shiftLeft_add]
        exact cut_exact _ _ _ (by rw [Nat.shiftLeft_eq]; exact Nat.mul_ne_zero hm (Nat.pos_iff_ne_zero.1 (Nat.two_pow_pos _)))
    · have h0 : (p - last).toNat = 0 := by omega
      have h1 : (p - k - last).toNat = 0 := by omega
      rw [h0, h1, Nat.shiftLeft_zero, Nat.shiftLeft_zero]
      have e : (last - (p - k)).toNat = (last - p).toNat + k := by omega
      rw [e, cut_scale _ _ _ _ hm]
  rw [key]

theorem split_word (k : FloatKind) (x : Nat) (hx : x < 2 ^ k.format.width) : k.format.word (x / k.format.signWeight % 2 == 1) (x % k.format.signWeight) = x := by
  unfold Format.word
  cases k
  · rw [sw32]; rw [wd32] at hx
    have h1 : x / 2147483648 = 0 ∨ x / 2147483648 = 1 := by omega
    rcases h1 with h | h <;> rw [h] <;> simp <;> omega
  · rw [sw64]; rw [wd64] at hx
    have h1 : x / 9223372036854775808 = 0 ∨ x / 9223372036854775808 = 1 := by omega
    rcases h1 with h | h <;> rw [h] <;> simp <;> omega

theorem log2_lt_of {m e : Nat} (h : m < 2 ^ e) (hm : m ≠ 0) : m.log2 < e := (Nat.log2_lt hm).2 h
theorem log2_eq_of {m e : Nat} (h1 : 2 ^ e ≤ m) (h2 : m < 2 ^ (e + 1)) : m.log2 = e := by
  have hm : m ≠ 0 := by have := Nat.two_pow_pos e; omega
  have a := (Nat.log2_lt hm).2 h2
  have b := (Nat.le_log2 hm).2 h1
  omega

/-- A word that stands for a number is the one nearest to it. -/
theorem nearest_read (k : FloatKind) (x : Nat) (hx : x < 2 ^ k.format.width) {s : Bool} {m : Nat} {p : Int} (h : k.format.read x = .number s m p) : k.format.nearest s m p = x := by
  have hw := split_word k x hx
  unfold Format.read at h
  dsimp only at h
  generalize hr : x % k.format.signWeight = r at *
  generalize (x / k.format.signWeight % 2 == 1) = sg at *
  have hb : k.format.binade = 2 ^ k.format.fractionBits := rfl
  have hbp : 0 < k.format.binade := by rw [hb]; exact Nat.two_pow_pos _
  split at h
  · rename_i hlt
    cases h
    by_cases h0 : m = 0
    · subst h0; unfold Format.nearest; rw [if_pos rfl]; exact hw
    · unfold Format.nearest
      rw [if_neg h0]
      have hl : m.log2 < k.format.fractionBits := log2_lt_of (by rw [← hb]; exact hlt) h0
      have hlast : max (k.format.leastPlace + (m.log2 : Int) - k.format.fractionBits) k.format.leastPlace = k.format.leastPlace := by omega
      simp only [hlast, Int.sub_self, Int.toNat_zero, Nat.shiftLeft_zero, cut_zero, Nat.zero_mul, Nat.zero_add]
      rw [Nat.min_eq_left, hw]
      have : k.format.binade ≤ k.format.infRung := by cases k <;> decide
      omega
  · rename_i hge
    split at h
    · rename_i hlt
      cases h
      have hmod : r % k.format.binade < k.format.binade := Nat.mod_lt _ hbp
      have hne : k.format.binade + r % k.format.binade ≠ 0 := by omega
      unfold Format.nearest
      rw [if_neg hne]
      have hl : (k.format.binade + r % k.format.binade).log2 = k.format.fractionBits := log2_eq_of (by rw [← hb]; omega) (by rw [Nat.pow_succ, ← hb]; omega)
      have hq : 1 ≤ r / k.format.binade := (Nat.le_div_iff_mul_le hbp).2 (by omega)
      rw [hl]
      have hlast : max (k.format.leastPlace + ((r / k.format.binade - 1 : Nat) : Int) + (k.format.fractionBits : Int) - k.format.fractionBits) k.format.leastPlace = k.format.leastPlace + ((r / k.format.binade - 1 : Nat) : Int) := by omega
      simp only [hlast, Int.sub_self, Int.toNat_zero, Nat.shiftLeft_zero, cut_zero]
      have e1 : (k.format.leastPlace + ((r / k.format.binade - 1 : Nat) : Int) - k.format.leastPlace).toNat = r / k.format.binade - 1 := by omega
      rw [e1]
      have e2 : (r / k.format.binade - 1) * k.format.binade + (k.format.binade + r % k.format.binade) = r := by
        have h3 := Nat.div_add_mod r k.format.binade
        have h4 : (r / k.format.binade - 1) * k.format.binade + k.format.binade = r / k.format.binade * k.format.binade := by
          rw [← Nat.succ_mul]; congr 1; omega
        rw [Nat.mul_comm] at h3
        omega
      rw [e2, Nat.min_eq_left (by omega), hw]
    · split at h <;> cases h

/-- A canonical word of the format. -/
def Can (k : FloatKind) (x : Nat) : Prop := cn k x = x ∧ x < 2 ^ k.format.width
theorem qnan_lt (k : FloatKind) : qnan k < 2 ^ k.format.width := by cases k <;> decide
theorem can_cn {k : FloatKind} {x : Nat} (h : x < 2 ^ k.format.width) : Can k (cn k x) := ⟨cn_cn _ _, by
  unfold cn; split
  · exact qnan_lt k
  · exact h⟩
theorem can_fop (op : BinOp) (k : FloatKind) (x y : Nat) : Can k (fop op k x y) := by
  unfold fop
  refine can_cn ?_
  cases h : floatBits op k x y with
  | none => exact qnan_lt k
  | some r =>
    unfold floatBits at h
    split at h
    · exact k.format.add_lt h
    · exact k.format.sub_lt h
    · exact k.format.mul_lt h
    · exact k.format.div_lt h
    · cases h

/-- What a canonical word is. -/
theorem can_cases {k : FloatKind} {x : Nat} (h : Can k x) : x = qnan k ∨ (∃ s, x = k.format.word s k.format.infRung ∧ k.format.read x = .infinity s) ∨ (∃ s m p, k.format.read x = .number s m p ∧ k.format.nearest s m p = x) := by
  cases hd : k.format.read x with
  | nan s t =>
    refine .inl ?_
    have : isNaN k x = true := by unfold isNaN; rw [hd]; rfl
    rw [← h.1, cn_nan this]
  | infinity s =>
    refine .inr (.inl ⟨s, ?_, rfl⟩)
    have hw := split_word k x h.2
    unfold Format.read at hd
    dsimp only at hd
    split at hd
    · cases hd
    · split at hd
      · cases hd
      · split at hd
        · rename_i e; cases hd; rw [e] at hw; exact hw.symm
        · cases hd
  | number s m p => exact .inr (.inr ⟨s, m, p, rfl, nearest_read k x h.2 hd⟩)

theorem read_one : FloatKind.f32.format.read 1065353216 = .number false 8388608 (-23) := by decide +kernel
theorem read_mone : FloatKind.f32.format.read 3212836864 = .number true 8388608 (-23) := by decide +kernel
theorem read_half : FloatKind.f32.format.read 1056964608 = .number false 8388608 (-24) := by decide +kernel
theorem read_two : FloatKind.f32.format.read 1073741824 = .number false 8388608 (-22) := by decide +kernel
theorem read_qnan (k : FloatKind) : ∃ s t, k.format.read (qnan k) = .nan s t := by cases k <;> exact ⟨_, _, rfl⟩

theorem two23 (n : Nat) : 8388608 * n = n <<< 23 := by rw [Nat.shiftLeft_eq, Nat.mul_comm]

/-- Once a number is the number. -/
theorem mul_one32 {y : Nat} (h : Can .f32 y) : fop .mul .f32 1065353216 y = y := by
  have hy := h.1
  rcases can_cases h with e | ⟨s, e, hr⟩ | ⟨s, m, p, hr, hn⟩
  · subst e; decide +kernel
  · cases s <;> subst e <;> decide +kernel
  · have : floatBits .mul .f32 1065353216 y = some y := by
      show FloatKind.f32.format.mul _ _ = _
      unfold Format.mul
      rw [read_one, hr]
      simp only [Datum.product, Option.map_some, Format.write, Bool.false_xor, two23]
      rw [show (-23 : Int) + p = p - (23 : Nat) by omega, nearest_scale, hn]
    unfold fop
    rw [this]
    exact hy

theorem read_word (k : FloatKind) (s : Bool) (R : Nat) (hR : R < k.format.signWeight) : k.format.read (k.format.word s R) =
    (if R < k.format.binade then .number s R k.format.leastPlace
     else if R < k.format.infRung then .number s (k.format.binade + R % k.format.binade) (k.format.leastPlace + (R / k.format.binade - 1 : Nat))
     else if R = k.format.infRung then .infinity s else .nan s (R - k.format.infRung)) := by
  have h1 : k.format.word s R % k.format.signWeight = R := word_mod _ _ _ hR
  have h2 : (k.format.word s R / k.format.signWeight % 2 == 1) = s := by
    unfold Format.word
    have hp : 0 < k.format.signWeight := by omega
    cases s
    · simp only [Bool.false_eq_true, if_false]
      rw [Nat.div_eq_of_lt hR]; rfl
    · simp only [if_true]
      rw [Nat.add_comm, Nat.add_div_right _ hp, Nat.div_eq_of_lt hR]; rfl
  unfold Format.read
  simp only [h1, h2]

/-- The sign of a number turned. -/
theorem read_flip {k : FloatKind} {x : Nat} (hx : x < 2 ^ k.format.width) {s : Bool} {m : Nat} {p : Int} (h : k.format.read x = .number s m p) (t : Bool) : k.format.read (k.format.nearest t m p) = .number t m p := by
  have hn := nearest_read k x hx h
  have hR : ∃ R, R < k.format.signWeight ∧ ∀ t, k.format.nearest t m p = k.format.word t R := by
    by_cases hm : m = 0
    · exact ⟨0, by cases k <;> decide, fun t => by unfold Format.nearest; rw [if_pos hm]⟩
    · refine ⟨min (rung k.format false m p) k.format.infRung, Nat.lt_of_le_of_lt (Nat.min_le_right _ _) (infRung_lt k), fun t => ?_⟩
      rw [nearest_eq _ _ _ _ hm]
      rfl
  obtain ⟨R, hR, hw⟩ := hR
  rw [hw s] at hn
  rw [← hn, read_word _ _ _ hR] at h
  rw [hw t, read_word _ _ _ hR]
  split at h
  · rename_i h1; rw [if_pos h1]; cases h; rfl
  · rename_i h1
    rw [if_neg h1]
    split at h
    · rename_i h2; rw [if_pos h2]; cases h; rfl
    · split at h <;> cases h

theorem isNaN_num {k : FloatKind} {x : Nat} {s : Bool} {m : Nat} {p : Int} (h : k.format.read x = .number s m p) : isNaN k x = false := by unfold isNaN; rw [h]; rfl
theorem fop_some {op : BinOp} {k : FloatKind} {x y r : Nat} (h : floatBits op k x y = some r) : fop op k x y = cn k r := by unfold fop; rw [h]; rfl
theorem fop_none {op : BinOp} {k : FloatKind} {x y : Nat} (h : floatBits op k x y = none) : fop op k x y = qnan k := by unfold fop; rw [h]; exact cn_nan (isNaN_qnan k)

/-- What is read of minus once a word. -/
theorem mul_mone32 {y : Nat} (h : Can .f32 y) : (y = qnan .f32 ∧ fop .mul .f32 3212836864 y = qnan .f32) ∨ FloatKind.f32.format.read (fop .mul .f32 3212836864 y) = (FloatKind.f32.format.read y).opposite := by
  rcases can_cases h with e | ⟨s, e, hr⟩ | ⟨s, m, p, hr, hn⟩
  · subst e; exact .inl ⟨rfl, by decide +kernel⟩
  · right; cases s <;> subst e <;> decide +kernel
  · right
    have : floatBits .mul .f32 3212836864 y = some (FloatKind.f32.format.nearest (!s) m p) := by
      show FloatKind.f32.format.mul _ _ = _
      unfold Format.mul
      rw [read_mone, hr]
      simp only [Datum.product, Option.map_some, Format.write, Bool.true_xor, two23]
      rw [show (-23 : Int) + p = p - (23 : Nat) by omega, nearest_scale]
    rw [fop_some this, cn_num (isNaN_num (read_flip h.2 hr (!s))), read_flip h.2 hr, hr]
    rfl

theorem sum_nan_right (d : Datum) {e : Datum} (h : e.isNaN = true) : d.sum e = none := by
  cases e <;> cases d <;> simp_all [Datum.isNaN, Datum.sum]

/-- Minus once a number added is the number taken away. -/
theorem add_mone32 {x y : Nat} (h : Can .f32 y) : fop .add .f32 x (fop .mul .f32 3212836864 y) = fop .sub .f32 x y := by
  rcases mul_mone32 h with ⟨h1, h2⟩ | h1
  · rw [h2, h1]
    rw [fop_none (op := .add) (floatBits_nan_right _ _ _ _ (isNaN_qnan _)), fop_none (op := .sub) (floatBits_nan_right _ _ _ _ (isNaN_qnan _))]
  · have : floatBits .add .f32 x (fop .mul .f32 3212836864 y) = floatBits .sub .f32 x y := by
      show FloatKind.f32.format.add _ _ = FloatKind.f32.format.sub _ _
      unfold Format.add Format.sub
      rw [h1]
    unfold fop at this ⊢
    rw [this]

/-- Half of a number. -/
theorem half32 {x : Nat} (h : Can .f32 x) : fop .quo .f32 x 1073741824 = fop .mul .f32 1056964608 x := by
  rcases can_cases h with e | ⟨s, e, hr⟩ | ⟨s, m, p, hr, hn⟩
  · subst e; decide +kernel
  · cases s <;> subst e <;> decide +kernel
  · have h1 : floatBits .mul .f32 1056964608 x = some (FloatKind.f32.format.nearest s m (p - 1)) := by
      show FloatKind.f32.format.mul _ _ = _
      unfold Format.mul
      rw [read_half, hr]
      simp only [Datum.product, Option.map_some, Format.write, Bool.false_xor, two23]
      rw [show (-24 : Int) + p = (p - 1) - (23 : Nat) by omega, nearest_scale]
    have h2 : floatBits .quo .f32 x 1073741824 = some (FloatKind.f32.format.nearest s m (p - 1)) := by
      show FloatKind.f32.format.div _ _ = _
      unfold Format.div
      rw [read_two, hr]
      have hl : (8388608 : Nat).log2 = 23 := by decide +kernel
      simp only [Datum.quotient, hl, fb32]
      rw [if_neg (by decide)]
      simp only [Option.map_some, Format.write, Bool.xor_false]
      by_cases hm : m = 0
      · subst hm
        unfold Format.nearest
        simp
      · have hlog : m.log2 ≤ 24 := by
          by_cases hle : m.log2 ≤ 24
          · exact hle
          · exfalso
            unfold Format.read at hr
            dsimp only at hr
            split at hr
            · rename_i h9; cases hr
              have := (Nat.log2_lt hm).2 (show x % FloatKind.f32.format.signWeight < 2 ^ 25 by rw [bn32] at h9; omega)
              omega
            · split at hr
              · cases hr
                have h3 := Nat.mod_lt (x % FloatKind.f32.format.signWeight) (show 0 < FloatKind.f32.format.binade by decide)
                have := (Nat.log2_lt hm).2 (show FloatKind.f32.format.binade + x % FloatKind.f32.format.signWeight % FloatKind.f32.format.binade < 2 ^ 25 by rw [bn32] at h3 ⊢; omega)
                omega
              · split at hr <;> cases hr
        obtain ⟨q, hq⟩ : ∃ q, 25 + 23 - m.log2 = q + 23 := ⟨25 - m.log2, by omega⟩
        have hq' : 23 + 2 + 23 - m.log2 = q + 23 := by omega
        rw [hq']
        have e1 : m <<< (q + 23) = (m <<< q) * 8388608 := by rw [Nat.shiftLeft_add, Nat.shiftLeft_eq]
        rw [e1, Nat.mul_div_cancel _ (by decide), Nat.mul_mod_left]
        have e2 : 2 * (m <<< q) + (((0 : Nat) != 0) : Bool).toNat = m <<< (q + 1) := by
          rw [Nat.shiftLeft_eq, Nat.shiftLeft_eq, Nat.pow_succ]; simp; rw [Nat.mul_comm 2, Nat.mul_assoc]
        rw [e2, show p - (-22 : Int) - ((q + 23 : Nat) : Int) - 1 = (p - 1) - ((q + 1 : Nat) : Int) by omega, nearest_scale]
    rw [fop_some h1, fop_some h2]

/-- A word that stands for a number. -/
def Fin (k : FloatKind) (x : Nat) : Prop := ∃ s m p, k.format.read x = .number s m p
theorem not_fin_qnan (k : FloatKind) : ¬ Fin k (qnan k) := fun ⟨_, _, _, h⟩ => by
  obtain ⟨s, t, h2⟩ := read_qnan k
  rw [h2] at h; cases h
theorem read_winf (k : FloatKind) (s : Bool) : k.format.read (k.format.word s k.format.infRung) = .infinity s := by cases k <;> cases s <;> decide +kernel
theorem fop_inf {op : BinOp} {k : FloatKind} {x y : Nat} {s : Bool} (h : floatBits op k x y = some (k.format.word s k.format.infRung)) : ¬ Fin k (fop op k x y) := fun ⟨_, _, _, h2⟩ => by
  rw [fop_some h, cn_num (isNaN_word_inf k s), read_winf] at h2; cases h2
theorem fop_nan {op : BinOp} {k : FloatKind} {x y : Nat} (h : floatBits op k x y = none) : ¬ Fin k (fop op k x y) := by rw [fop_none h]; exact not_fin_qnan k

theorem fin_add {k : FloatKind} {x y : Nat} (h : Fin k (fop .add k x y)) : Fin k x ∧ Fin k y := by
  have hf : floatBits .add k x y = ((k.format.read x).sum (k.format.read y)).map k.format.write := rfl
  cases hx : k.format.read x with
  | number s m p => cases hy : k.format.read y with
    | number t n q => exact ⟨⟨_, _, _, hx⟩, ⟨_, _, _, hy⟩⟩
    | infinity t => rw [hx, hy] at hf; exact absurd h (fop_inf hf)
    | nan t q => rw [hx, hy] at hf; exact absurd h (fop_nan hf)
  | infinity s => cases hy : k.format.read y with
    | number t n q => rw [hx, hy] at hf; exact absurd h (fop_inf hf)
    | infinity t =>
      rw [hx, hy] at hf
      by_cases e : s = t
      · subst e; simp only [Datum.sum, if_true, Option.map_some] at hf; exact absurd h (fop_inf hf)
      · simp only [Datum.sum, if_neg e, Option.map_none] at hf; exact absurd h (fop_nan hf)
    | nan t q => rw [hx, hy] at hf; exact absurd h (fop_nan hf)
  | nan s q => rw [hx] at hf; cases hy : k.format.read y <;> rw [hy] at hf <;> exact absurd h (fop_nan hf)

theorem fin_sub {k : FloatKind} {x y : Nat} (h : Fin k (fop .sub k x y)) : Fin k x ∧ Fin k y := by
  have hf : floatBits .sub k x y = ((k.format.read x).sum (k.format.read y).opposite).map k.format.write := rfl
  cases hx : k.format.read x with
  | number s m p => cases hy : k.format.read y with
    | number t n q => exact ⟨⟨_, _, _, hx⟩, ⟨_, _, _, hy⟩⟩
    | infinity t => rw [hx, hy] at hf; exact absurd h (fop_inf hf)
    | nan t q => rw [hx, hy] at hf; exact absurd h (fop_nan hf)
  | infinity s => cases hy : k.format.read y with
    | number t n q => rw [hx, hy] at hf; exact absurd h (fop_inf hf)
    | infinity t =>
      rw [hx, hy] at hf
      by_cases e : s = !t
      · subst e; simp only [Datum.opposite, Datum.sum, if_true, Option.map_some] at hf; exact absurd h (fop_inf hf)
      · simp only [Datum.opposite, Datum.sum, if_neg e, Option.map_none] at hf; exact absurd h (fop_nan hf)
    | nan t q => rw [hx, hy] at hf; exact absurd h (fop_nan hf)
  | nan s q => rw [hx] at hf; cases hy : k.format.read y <;> rw [hy] at hf <;> exact absurd h (fop_nan hf)

theorem fin_mul {k : FloatKind} {x y : Nat} (h : Fin k (fop .mul k x y)) : Fin k x ∧ Fin k y := by
  have hf : floatBits .mul k x y = ((k.format.read x).product (k.format.read y)).map k.format.write := rfl
  cases hx : k.format.read x with
  | number s m p => cases hy : k.format.read y with
    | number t n q => exact ⟨⟨_, _, _, hx⟩, ⟨_, _, _, hy⟩⟩
    | infinity t =>
      rw [hx, hy] at hf
      by_cases e : m = 0
      · simp only [Datum.product, if_pos e, Option.map_none] at hf; exact absurd h (fop_nan hf)
      · simp only [Datum.product, if_neg e, Option.map_some] at hf; exact absurd h (fop_inf hf)
    | nan t q => rw [hx, hy] at hf; exact absurd h (fop_nan hf)
  | infinity s => cases hy : k.format.read y with
    | number t n q =>
      rw [hx, hy] at hf
      by_cases e : n = 0
      · simp only [Datum.product, if_pos e, Option.map_none] at hf; exact absurd h (fop_nan hf)
      · simp only [Datum.product, if_neg e, Option.map_some] at hf; exact absurd h (fop_inf hf)
    | infinity t => rw [hx, hy] at hf; exact absurd h (fop_inf hf)
    | nan t q => rw [hx, hy] at hf; exact absurd h (fop_nan hf)
  | nan s q => rw [hx] at hf; cases hy : k.format.read y <;> rw [hy] at hf <;> exact absurd h (fop_nan hf)

/-- What a program asks to tell a number: x - x == 0. -/
theorem fin_iff {k : FloatKind} {x : Nat} : fcmp .eql k (fop .sub k x x) 0 = true ↔ Fin k x := by
  constructor
  · intro h
    refine Classical.byContradiction fun hn => ?_
    have h1 : ¬ Fin k (fop .sub k x x) := fun h2 => hn (fin_sub h2).1
    have h2 : fop .sub k x x = qnan k := by
      have hf : floatBits .sub k x x = ((k.format.read x).sum (k.format.read x).opposite).map k.format.write := rfl
      cases hx : k.format.read x with
      | number s m p => exact absurd ⟨_, _, _, hx⟩ hn
      | infinity s =>
        rw [hx] at hf
        simp only [Datum.opposite, Datum.sum] at hf
        rw [if_neg (by cases s <;> decide)] at hf
        exact fop_none hf
      | nan s q => rw [hx] at hf; exact fop_none hf
    rw [h2] at h
    revert h; cases k <;> decide +kernel
  · rintro ⟨s, m, p, hx⟩
    have hf : floatBits .sub k x x = some 0 := by
      show k.format.sub x x = some 0
      unfold Format.sub
      rw [hx]
      have h0 : signed s m (p - p).toNat + signed (!s) m (p - p).toNat = 0 := by
        unfold signed; cases s <;> simp <;> omega
      simp only [Datum.opposite, Datum.sum, Int.min_self]
      rw [h0]
      simp only [if_true, Int.natAbs_zero, Option.map_some, Format.write]
      unfold Format.nearest
      rw [if_pos rfl]
      have : (s && !s) = false := by cases s <;> rfl
      rw [this]
      cases k <;> rfl
    rw [fop_some hf]
    cases k <;> decide +kernel

/-- A float is the same as itself, as the laws ask it (over 64 bits). -/
theorem eq_self {k : FloatKind} {x : Nat} (h : isNaN k x = false) : fcmp .eql k x x = true := by
  unfold fcmp
  have : k.format.order x x = some .eq := by
    unfold Format.order
    unfold isNaN at h
    cases hx : k.format.read x with
    | number s m p => simp [Datum.order]
    | infinity s => simp [Datum.order]
    | nan s q => rw [hx] at h; cases h
  simp [this]
theorem ne_self {k : FloatKind} {x : Nat} : fcmp .neq k x x = isNaN k x := by
  cases h : isNaN k x
  · have := eq_self h
    unfold fcmp at this ⊢
    simp only [beq_iff_eq] at this
    simp [this]
  · unfold fcmp
    rw [order_nan_left h]; rfl

end Go.Fl
