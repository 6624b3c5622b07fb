import Derived.Test.YtdcienojgkioiaaRge
namespace Go.Fl
open Go Go.Rg Ieee

/-- The exponent of a number's leading digit. -/
def ex (m : Nat) (p : Int) : Int := p + m.log2

theorem fb32 : FloatKind.f32.format.fractionBits = 23 := rfl
theorem fb64 : FloatKind.f64.format.fractionBits = 52 := rfl
theorem lp32 : FloatKind.f32.format.leastPlace = -149 := by decide
theorem lp64 : FloatKind.f64.format.leastPlace = -1074 := by decide
theorem bn32 : FloatKind.f32.format.binade = 8388608 := by decide
theorem bn64 : FloatKind.f64.format.binade = 4503599627370496 := by decide

/-- A cut to the nearest is at most one above the floor. -/
theorem cut_le (neg : Bool) (n drop : Nat) : Toward.even.cut neg n drop ≤ n / 2 ^ (min drop (n.log2 + 2)) + 1 := by
  unfold Toward.cut
  dsimp only
  rw [Nat.one_shiftLeft]
  generalize (decide (2 ^ min drop (n.log2 + 2) < 2 * (n % 2 ^ min drop (n.log2 + 2))) || _) = b
  cases b <;> simp

theorem log2_shift (m k : Nat) (h : m ≠ 0) : (m <<< k).log2 = m.log2 + k := by
  have h0 : m <<< k ≠ 0 := by
    rw [Nat.shiftLeft_eq]
    exact Nat.mul_ne_zero h (Nat.ne_of_gt (Nat.two_pow_pos k))
  rw [Nat.log2_eq_iff h0, Nat.shiftLeft_eq]
  have h1 := Nat.log2_self_le h
  have h2 := Nat.lt_log2_self (n := m)
  refine ⟨by rw [Nat.pow_add]; exact Nat.mul_le_mul_right _ h1, ?_⟩
  rw [show m.log2 + k + 1 = (m.log2 + 1) + k by omega, Nat.pow_add]
  exact Nat.mul_lt_mul_of_pos_right h2 (Nat.two_pow_pos k)

/-- How great the digits that are kept are. -/
theorem kept_le (f : Format) (neg : Bool) (mag : Nat) (place : Int) (h : mag ≠ 0) :
    let last := max (place + mag.log2 - f.fractionBits) f.leastPlace
    Toward.even.cut neg (mag <<< (place - last).toNat) (last - place).toNat ≤ 2 ^ (f.fractionBits + 1) := by
  intro last
  refine Nat.le_trans (cut_le _ _ _) ?_
  have hl : place + mag.log2 - f.fractionBits ≤ last := Int.le_max_left _ _
  rw [log2_shift _ _ h]
  have hlt := Nat.lt_log2_self (n := mag)
  rw [Nat.shiftLeft_eq]
  by_cases hc : last ≤ place
  · -- nothing is dropped
    have e1 : (last - place).toNat = 0 := by omega
    rw [e1]
    simp only [Nat.zero_min, Nat.pow_zero, Nat.div_one]
    have e2 : mag.log2 + 1 + (place - last).toNat ≤ f.fractionBits + 1 := by omega
    have h1 : mag * 2 ^ (place - last).toNat < 2 ^ (mag.log2 + 1) * 2 ^ (place - last).toNat := Nat.mul_lt_mul_of_pos_right hlt (Nat.two_pow_pos _)
    rw [← Nat.pow_add] at h1
    have h2 := Nat.pow_le_pow_right (n := 2) (by omega) e2
    omega
  · have e1 : (place - last).toNat = 0 := by omega
    rw [e1]
    simp only [Nat.pow_zero, Nat.mul_one, Nat.add_zero]
    by_cases hd : (last - place).toNat ≤ mag.log2 + 2
    · rw [Nat.min_eq_left hd]
      have h1 : mag / 2 ^ (last - place).toNat < 2 ^ (f.fractionBits + 1) := by
        rw [Nat.div_lt_iff_lt_mul (Nat.two_pow_pos _), ← Nat.pow_add]
        exact Nat.lt_of_lt_of_le hlt (Nat.pow_le_pow_right (by omega) (by omega))
      omega
    · rw [Nat.min_eq_right (by omega)]
      have h1 : mag / 2 ^ (mag.log2 + 2) = 0 := Nat.div_eq_of_lt (Nat.lt_of_lt_of_le hlt (Nat.pow_le_pow_right (by omega) (by omega)))
      rw [h1]
      simpa using Nat.one_le_two_pow (n := f.fractionBits + 1)


/-- The rung to which a number is rounded. -/
def rung (f : Format) (neg : Bool) (mag : Nat) (place : Int) : Nat :=
  let last := max (place + mag.log2 - f.fractionBits) f.leastPlace
  (last - f.leastPlace).toNat * f.binade + Toward.even.cut neg (mag <<< (place - last).toNat) (last - place).toNat

theorem nearest_eq (f : Format) (neg : Bool) (mag : Nat) (place : Int) (h : mag ≠ 0) : f.nearest neg mag place = f.word neg (min (rung f neg mag place) f.infRung) := by
  unfold Format.nearest rung
  rw [if_neg h]

theorem word_mod (f : Format) (neg : Bool) (r : Nat) (h : r < f.signWeight) : f.word neg r % f.signWeight = r := by
  unfold Format.word
  split
  · rw [Nat.add_mod_left, Nat.mod_eq_of_lt h]
  · exact Nat.mod_eq_of_lt h

theorem rung_le (f : Format) (neg : Bool) (mag : Nat) (place : Int) (h : mag ≠ 0) (E : Int) (hE : ex mag place ≤ E) (hl : f.leastPlace + f.fractionBits ≤ E) :
    rung f neg mag place ≤ (E - f.fractionBits - f.leastPlace).toNat * f.binade + 2 * f.binade := by
  unfold rung
  dsimp only
  have hk := kept_le f neg mag place h
  dsimp only at hk
  have e : 2 ^ (f.fractionBits + 1) = 2 * f.binade := by unfold Format.binade; rw [Nat.pow_succ, Nat.mul_comm]
  rw [e] at hk
  refine Nat.add_le_add (Nat.mul_le_mul_right _ ?_) hk
  unfold ex at hE
  omega

/-- A word whose rung is below infinity's is finite. -/
theorem read_finite (k : FloatKind) (x : Nat) (h : x % k.format.signWeight < k.format.infRung) : ∃ s m p, k.format.read x = .number s m p := by
  unfold Format.read
  dsimp only
  split
  · exact ⟨_, _, _, rfl⟩
  · exact ⟨_, _, _, rfl⟩

/-- The leading digit of a word of rung r. -/
theorem read_ex (k : FloatKind) (x : Nat) {s : Bool} {m : Nat} {p : Int} (h : k.format.read x = .number s m p) (hm : m ≠ 0) (N : Nat) (hr : x % k.format.signWeight ≤ N * k.format.binade + 2 * k.format.binade) :
    ex m p ≤ k.format.leastPlace + N + k.format.fractionBits + 1 := by
  have hb : 0 < k.format.binade := Nat.two_pow_pos _
  have key : ∀ a, a < k.format.binade → a ≠ 0 → a.log2 < k.format.fractionBits := fun a ha h0 => (Nat.log2_lt h0).2 ha
  unfold Format.read at h
  dsimp only at h
  generalize x % k.format.signWeight = r at h hr
  split at h
  · rename_i hlt
    cases h
    have := key _ hlt hm
    unfold ex; omega
  · split at h
    · cases h
      have h1 : (k.format.binade + r % k.format.binade).log2 < k.format.fractionBits + 1 := by
        rw [Nat.log2_lt (by omega)]
        have := Nat.mod_lt r hb
        have e : 2 ^ (k.format.fractionBits + 1) = 2 * k.format.binade := by unfold Format.binade; rw [Nat.pow_succ, Nat.mul_comm]
        omega
      have h2 : r / k.format.binade ≤ N + 2 := by
        have : r ≤ (N + 2) * k.format.binade := by rw [Nat.add_mul]; exact hr
        exact Nat.div_le_of_le_mul (by rw [Nat.mul_comm]; exact this)
      unfold ex
      omega
    · split at h <;> cases h

theorem infRung_lt (k : FloatKind) : k.format.infRung < k.format.signWeight := by cases k <;> decide

/-- A number of exponent E at most is rounded to a finite one of exponent E + 1 at most. -/
theorem nearest_ex (k : FloatKind) (neg : Bool) (mag : Nat) (place : Int) (h : mag ≠ 0) (E : Int) (hE : ex mag place ≤ E) (hl : k.format.leastPlace + k.format.fractionBits ≤ E)
    (hi : (E - k.format.fractionBits - k.format.leastPlace).toNat * k.format.binade + 2 * k.format.binade < k.format.infRung) :
    ∃ s m p, k.format.read (k.format.nearest neg mag place) = .number s m p ∧ (m = 0 ∨ ex m p ≤ E + 1) := by
  have hr := rung_le k.format neg mag place h E hE hl
  rw [nearest_eq _ _ _ _ h]
  have hlt : min (rung k.format neg mag place) k.format.infRung < k.format.infRung := by omega
  have hmod : k.format.word neg (min (rung k.format neg mag place) k.format.infRung) % k.format.signWeight = min (rung k.format neg mag place) k.format.infRung :=
    word_mod _ _ _ (Nat.lt_trans hlt (infRung_lt k))
  obtain ⟨s, m, p, hread⟩ := read_finite k (k.format.word neg (min (rung k.format neg mag place) k.format.infRung)) (by rw [hmod]; exact hlt)
  refine ⟨s, m, p, hread, ?_⟩
  by_cases hm : m = 0
  · exact .inl hm
  · right
    have := read_ex k _ hread hm ((E - k.format.fractionBits - k.format.leastPlace).toNat) (by rw [hmod]; omega)
    omega

theorem nearest_zero (k : FloatKind) (neg : Bool) (place : Int) : ∃ s p, k.format.read (k.format.nearest neg 0 place) = .number s 0 p := by
  have : k.format.nearest neg 0 place = k.format.word neg 0 := by unfold Format.nearest; rw [if_pos rfl]
  rw [this]
  cases k <;> cases neg <;> refine ⟨_, _, by first | exact (by decide +kernel : FloatKind.f32.format.read (FloatKind.f32.format.word false 0) = .number false 0 (-149)) | exact (by decide +kernel : FloatKind.f32.format.read (FloatKind.f32.format.word true 0) = .number true 0 (-149)) | exact (by decide +kernel : FloatKind.f64.format.read (FloatKind.f64.format.word false 0) = .number false 0 (-1074)) | exact (by decide +kernel : FloatKind.f64.format.read (FloatKind.f64.format.word true 0) = .number true 0 (-1074))⟩

/-- A 64-bit number that is narrowed to a number (or is none). -/
def Nar (x : Nat) : Prop := isNaN .f64 x = true ∨ (floatToFloatBits .f64 x .f32).isSome = true

theorem nar_of_ex {x : Nat} {s : Bool} {m : Nat} {p : Int} (h : FloatKind.f64.format.read x = .number s m p) (he : m = 0 ∨ ex m p ≤ 125) : Nar x := by
  right
  unfold floatToFloatBits
  rw [if_neg (by decide)]
  have hd : FloatKind.f64.decode x = .number s m p := h
  rw [hd]
  dsimp only
  have key : ∃ s' m' p', FloatKind.f32.decode (FloatKind.f32.encode (.number s m p)) = .number s' m' p' := by
    show ∃ s' m' p', FloatKind.f32.format.read (FloatKind.f32.format.nearest s m p) = .number s' m' p'
    by_cases hm : m = 0
    · subst hm
      obtain ⟨s', p', h'⟩ := nearest_zero .f32 s p
      exact ⟨s', 0, p', h'⟩
    · have he' : ex m p ≤ 125 := he.resolve_left hm
      obtain ⟨s', m', p', h', _⟩ := nearest_ex .f32 s m p hm 125 he' (by rw [lp32, fb32]; decide) (by rw [lp32, fb32, bn32, ir32]; decide)
      exact ⟨s', m', p', h'⟩
  obtain ⟨s', m', p', hk⟩ := key
  rw [hk]
  rfl

/-- A 32-bit number's exponent. -/
theorem ex32 {x : Nat} {s : Bool} {m : Nat} {p : Int} (h : FloatKind.f32.format.read x = .number s m p) (hm : m ≠ 0) : ex m p ≤ 128 := by
  have hlt : x % FloatKind.f32.format.signWeight < FloatKind.f32.format.infRung := by
    have h1 := h
    unfold Format.read at h1
    dsimp only at h1
    have hb : FloatKind.f32.format.binade ≤ FloatKind.f32.format.infRung := by decide
    split at h1
    · omega
    · split at h1
      · assumption
      · split at h1 <;> cases h1
  have := read_ex .f32 x h hm 253 (by rw [ir32] at hlt; rw [bn32]; omega)
  rw [lp32, fb32] at this
  omega

/-- The root, one not-a-number. -/
def fsqrt (x : Nat) : Nat := cn .f64 ((FloatKind.f64.format.sqrt x).getD (qnan .f64))

theorem rootFrom_sq (n : Nat) : ∀ todo root, root * root ≤ n → Datum.rootFrom n todo root * Datum.rootFrom n todo root ≤ n
  | 0, root, h => h
  | todo + 1, root, h => by
    unfold Datum.rootFrom
    dsimp only
    refine rootFrom_sq n todo _ ?_
    split
    · assumption
    · exact h

theorem root_ex {d : Nat} {s : Bool} {m : Nat} {p : Int} {r : Datum} (hm : m ≠ 0) (hr : (Datum.number s m p).root d = some r) : ∃ R q, r = .number false R q ∧ (R = 0 ∨ 2 * ex R q ≤ ex m p + 1) := by
  unfold Datum.root at hr
  dsimp only at hr
  rw [if_neg hm] at hr
  split at hr
  · cases hr
  · generalize hmore : 2 * d - m.log2 + ((p - ((2 * d - m.log2 : Nat) : Int)) % 2).toNat = more at hr
    have heven : (p - (more : Int)) % 2 = 0 := by omega
    generalize hn : m <<< more = n at hr
    have hsq := rootFrom_sq n (n.log2 / 2 + 1) 0 (by simp)
    generalize Datum.rootFrom n (n.log2 / 2 + 1) 0 = whole at hr hsq
    cases hr
    refine ⟨_, _, rfl, ?_⟩
    by_cases h0 : 2 * whole + (whole * whole != n).toNat = 0
    · exact .inl h0
    · right
      have hlog : n.log2 = m.log2 + more := by rw [← hn]; exact log2_shift m more hm
      unfold ex
      by_cases hw : whole = 0
      · subst hw
        have h1 : (2 * 0 + (0 * 0 != n).toNat).log2 = 0 := by
          cases (0 * 0 != n) <;> decide
        rw [h1]
        omega
      · have h1 : (2 * whole + (whole * whole != n).toNat).log2 = whole.log2 + 1 := by
          rw [Nat.log2_eq_iff h0]
          have h2 := Nat.log2_self_le hw
          have h3 := Nat.lt_log2_self (n := whole)
          have h4 : (whole * whole != n).toNat ≤ 1 := by cases (whole * whole != n) <;> decide
          rw [Nat.pow_succ] at h3 ⊢
          rw [Nat.pow_succ, Nat.pow_succ]
          constructor <;> omega
        rw [h1]
        have h5 : 2 * whole.log2 ≤ n.log2 := by
          have h2 := Nat.log2_self_le hw
          have hn0 : n ≠ 0 := by
            intro e; rw [e] at hsq
            have := Nat.mul_pos (Nat.pos_of_ne_zero hw) (Nat.pos_of_ne_zero hw)
            omega
          rw [Nat.le_log2 hn0, Nat.two_mul, Nat.pow_add]
          exact Nat.le_trans (Nat.mul_le_mul h2 h2) hsq
        omega

theorem nan_qnan64 : isNaN .f64 (qnan .f64) = true := isNaN_qnan _

theorem nar_cn {x : Nat} (h : Nar x) : Nar (cn .f64 x) := by
  cases hx : isNaN .f64 x
  · rw [cn_num hx]; exact h
  · rw [cn_nan hx]; exact .inl nan_qnan64

theorem isNaN_word_inf (k : FloatKind) (s : Bool) : isNaN k (k.format.word s k.format.infRung) = false := by cases k <;> cases s <;> decide +kernel

/-- A 32-bit number made wide: a number again. -/
theorem widen_num {x : Nat} {s : Bool} {m : Nat} {p : Int} (h : FloatKind.f32.format.read x = .number s m p) :
    widen x = FloatKind.f64.format.nearest s m p ∧ ∃ s' m' p', FloatKind.f64.format.read (widen x) = .number s' m' p' ∧ (m' = 0 ∨ ex m' p' ≤ 129) := by
  have key : ∃ s' m' p', FloatKind.f64.format.read (FloatKind.f64.format.nearest s m p) = .number s' m' p' ∧ (m' = 0 ∨ ex m' p' ≤ 129) := by
    by_cases hm : m = 0
    · subst hm
      obtain ⟨s', p', h'⟩ := nearest_zero .f64 s p
      exact ⟨s', 0, p', h', .inl rfl⟩
    · exact nearest_ex .f64 s m p hm 128 (ex32 h hm) (by rw [lp64, fb64]; decide) (by rw [lp64, fb64, bn64, ir64]; decide)
  obtain ⟨s', m', p', hr, he⟩ := key
  have h1 : floatToFloatBits .f32 x .f64 = some (FloatKind.f64.format.nearest s m p) := by
    unfold floatToFloatBits
    rw [if_neg (by decide)]
    have hd : FloatKind.f32.decode x = .number s m p := h
    rw [hd]
    dsimp only
    have h2 : FloatKind.f64.decode (FloatKind.f64.encode (.number s m p)) = .number s' m' p' := hr
    rw [h2]
    rfl
  have h3 : widen x = FloatKind.f64.format.nearest s m p := by
    unfold widen
    rw [h1]
    refine cn_num ?_
    unfold isNaN
    show (FloatKind.f64.format.read (FloatKind.f64.format.nearest s m p)).isNaN = false
    rw [hr]; rfl
  exact ⟨h3, s', m', p', by rw [h3]; exact hr, he⟩

theorem widen_inf {x : Nat} {s : Bool} (h : FloatKind.f32.format.read x = .infinity s) : widen x = FloatKind.f64.format.word s FloatKind.f64.format.infRung := by
  unfold widen
  have h1 : floatToFloatBits .f32 x .f64 = some (FloatKind.f64.format.word s FloatKind.f64.format.infRung) := by
    unfold floatToFloatBits
    rw [if_neg (by decide)]
    have hd : FloatKind.f32.decode x = .infinity s := h
    rw [hd]
    rfl
  rw [h1]
  exact cn_num (isNaN_word_inf _ _)

theorem widen_nan {x : Nat} (h : isNaN .f32 x = true) : widen x = qnan .f64 := by
  unfold widen
  have h1 : floatToFloatBits .f32 x .f64 = none := by
    unfold floatToFloatBits
    rw [if_neg (by decide)]
    unfold isNaN at h
    show (match FloatKind.f32.format.read x with | .nan _ _ => _ | .infinity s => _ | .number s m e => _) = _
    generalize FloatKind.f32.format.read x = d at *
    cases d <;> simp [Datum.isNaN] at h ⊢
  rw [h1]
  exact cn_nan nan_qnan64

/-- The root of a 32-bit number, taken in 64 bits, is narrowed to a number. -/
theorem nar_sqrt (x : Nat) : Nar (fsqrt (widen x)) := by
  unfold fsqrt
  refine nar_cn ?_
  have qn : Nar ((none : Option Nat).getD (qnan .f64)) := .inl nan_qnan64
  cases hd : FloatKind.f32.format.read x with
  | nan s t =>
    have hn : isNaN .f32 x = true := by unfold isNaN; rw [hd]; rfl
    rw [widen_nan hn]
    have : FloatKind.f64.format.sqrt (qnan .f64) = none := by decide +kernel
    rw [this]; exact qn
  | infinity s =>
    rw [widen_inf hd]
    cases s
    · have : FloatKind.f64.format.sqrt (FloatKind.f64.format.word false FloatKind.f64.format.infRung) = some (FloatKind.f64.format.word false FloatKind.f64.format.infRung) := by decide +kernel
      rw [this]
      right
      decide +kernel
    · have : FloatKind.f64.format.sqrt (FloatKind.f64.format.word true FloatKind.f64.format.infRung) = none := by decide +kernel
      rw [this]; exact qn
  | number s m p =>
    obtain ⟨_, s', m', p', hr, he⟩ := widen_num hd
    unfold Format.sqrt
    rw [hr]
    by_cases hm : m' = 0
    · subst hm
      have : (Datum.number s' 0 p').root (FloatKind.f64.format.fractionBits + 2) = some (.number s' 0 p') := by unfold Datum.root; dsimp only; rw [if_pos rfl]
      rw [this]
      obtain ⟨s2, p2, h2⟩ := nearest_zero .f64 s' p'
      exact nar_of_ex (s := s2) (m := 0) (p := p2) h2 (.inl rfl)
    · cases hroot : (Datum.number s' m' p').root (FloatKind.f64.format.fractionBits + 2) with
      | none => exact qn
      | some r =>
        obtain ⟨R, q, rfl, hR⟩ := root_ex hm hroot
        show Nar (FloatKind.f64.format.nearest false R q)
        by_cases hR0 : R = 0
        · subst hR0
          obtain ⟨s2, p2, h2⟩ := nearest_zero .f64 false q
          exact nar_of_ex h2 (.inl rfl)
        · have h5 := he.resolve_left hm
          have h6 := hR.resolve_left hR0
          obtain ⟨s2, m2, p2, h7, h8⟩ := nearest_ex .f64 false R q hR0 66 (by omega) (by rw [lp64, fb64]; decide) (by rw [lp64, fb64, bn64, ir64]; decide)
          exact nar_of_ex h7 (h8.imp id (fun h => by omega))

end Go.Fl
