import Derived.Test.YtodohnoicfmneaaDoorL1
/- Vectors of small whole numbers; texts of vectors. The law of FnVectors. No program in sight. -/
namespace Go.Proofs
open Go Go.Fl Go.RowKit Go.Rg
attribute [local irreducible] fint fcmp fop fneg widen narrow fsqrt cn

/-- A vector that stands for whole numbers. -/
def VI (v : SVector) (a b c : Int) : Prop := IsI v.x a ∧ IsI v.y b ∧ IsI v.z c
def sml (a b c m : Int) : Prop := (-m ≤ a ∧ a ≤ m) ∧ (-m ≤ b ∧ b ≤ m) ∧ (-m ≤ c ∧ c ≤ m)
theorem b10_vector {p : List Int} (hp : byt p) : ∃ v a b c, M.spec_B10Vector p 50 = some v ∧ VI v a b c ∧ sml a b c 50 := by
  unfold M.spec_B10Vector M.spec_l00From
  have w0 : IntKind.i64.wrap (IntKind.i64.wrap (2 * 50) + 1) = 101 := by decide
  simp only [letv, w0]
  obtain ⟨x, s1, e1, x0, x1, i1⟩ := pick_ok hp (s := ⟨p, 0, 0⟩) (b := 0) ⟨rfl, by simp only; omega, by simp only; omega⟩ (by omega) (n := 101) (by omega)
  have t1 : (⟨p, s1.at_, s1.seed⟩ : Sl00Src) = s1 := by rw [← i1.1]
  obtain ⟨y, s2, e2, y0, y1, i2⟩ := pick_ok hp i1 (by omega) (n := 101) (by omega)
  have t2 : (⟨p, s2.at_, s2.seed⟩ : Sl00Src) = s2 := by rw [← i2.1]
  obtain ⟨z, s3, e3, z0, z1, i3⟩ := pick_ok hp i2 (by omega) (n := 101) (by omega)
  rw [e1, Option.bind_some]
  simp only [t1]
  rw [e2, Option.bind_some]
  simp only [t2]
  rw [e3, Option.bind_some]
  have wx : IntKind.i64.wrap (x - 50) = x - 50 := wrap_in (by omega)
  have wy : IntKind.i64.wrap (y - 50) = y - 50 := wrap_in (by omega)
  have wz : IntKind.i64.wrap (z - 50) = z - 50 := wrap_in (by omega)
  rw [wx, wy, wz]
  exact ⟨_, x - 50, y - 50, z - 50, rfl, ⟨isI_fint (by omega), isI_fint (by omega), isI_fint (by omega)⟩, by unfold sml; omega⟩

theorem mul_b {a b m n : Int} (ha : -m ≤ a ∧ a ≤ m) (hb : -n ≤ b ∧ b ≤ n) (hm : 0 ≤ m) (hn : 0 ≤ n) : -(m * n) ≤ a * b ∧ a * b ≤ m * n := by
  have h1 : (a * b).natAbs ≤ (m * n).natAbs := by
    rw [Int.natAbs_mul, Int.natAbs_mul]
    exact Nat.mul_le_mul (by omega) (by omega)
  have h2 : 0 ≤ m * n := Int.mul_nonneg hm hn
  omega
theorem small_ok {p : List Int} {s : Sl00Src} {b : Nat} (hp : byt p) (h : SI p s b) (hb : b ≤ 99980) : ∃ v s', M.spec_l01DrawSmall s = some (v, s') ∧ Go.Fl.Can .f32 v ∧ SI p s' (b + 2) := by
  unfold M.spec_l01DrawSmall
  obtain ⟨v, s1, e1, _, _, i1⟩ := pick_ok hp h (by omega) (n := 33) (by omega)
  have eta1 : (⟨s.code, s1.at_, s1.seed⟩ : Sl00Src) = s1 := by rw [h.1, ← i1.1]
  rw [e1, Option.bind_some]
  simp only [eta1]
  exact ⟨_, s1, rfl, can_fop _ _ _ _, i1⟩
theorem any_vec {p : List Int} (hp : byt p) : ∃ v, M.spec_B10Any p = some v ∧ Go.Fl.Can .f32 v.x ∧ Go.Fl.Can .f32 v.y ∧ Go.Fl.Can .f32 v.z := by
  unfold M.spec_B10Any M.spec_l00From M.spec_l01DrawVector
  simp only [letv]
  obtain ⟨q, s1, e1, i1⟩ := one_ok hp (s := ⟨p, 0, 0⟩) (b := 0) ⟨rfl, by simp only; omega, by simp only; omega⟩ (by omega) (n := 10) (by omega)
  have eta : ∀ {s' : Sl00Src} {a : Nat}, SI p s' a → (⟨p, s'.at_, s'.seed⟩ : Sl00Src) = s' := fun i => by rw [← i.1]
  rw [e1, Option.bind_some]
  simp only [eta i1]
  obtain ⟨x, s2, e2, cx, i2⟩ := small_ok hp i1 (by omega)
  rw [e2, Option.bind_some]
  simp only [eta i2]
  obtain ⟨y, s3, e3, cy, i3⟩ := small_ok hp i2 (by omega)
  rw [e3, Option.bind_some]
  simp only [eta i3]
  obtain ⟨z, s4, e4, cz, i4⟩ := small_ok hp i3 (by omega)
  rw [e4, Option.bind_some]
  simp only [eta i4]
  cases q with
  | false => exact ⟨_, rfl, cx, cy, cz⟩
  | true =>
    obtain ⟨u, s5, e5, cu, i5⟩ := float_ok hp i4 (by omega)
    rw [cond_true, e5, Option.bind_some, Option.bind_some]
    exact ⟨_, rfl, cx, cu, cz⟩
theorem isame (x : Nat) : M.impl_SameNumber x x = true := by
  unfold M.impl_SameNumber M.impl_isNaN
  simp only [letv, icmp_eql, beq_self_eq_true]
  cases fcmp .neq .f32 x x <;> rfl
theorem isameV (v : SVector) : M.impl_SameVector v v = some true := by
  unfold M.impl_SameVector M.impl_Vector_numbers M.impl_sameList M.slices_EqualFunc___float32___float32_float32_float32__f45
  simp only [letv]
  rw [neq_self, cond_false, eqLoop [v.x, v.y, v.z] _ ?_ ?_]
  · rfl
  · intro k x hx
    have hlt := (List.getElem?_eq_some_iff.1 hx).1
    have hk : k < 3 := hlt
    rw [lss_lt hlt, cond_true, idx_nat, hx, Option.bind_some, Option.bind_some]
    simp only [isame, Bool.not_true, cond_false, succ_wrap (show k ≤ 9223372036854775806 by omega)]
  · rw [lss_self, cond_false]
theorem veq {u v : SVector} {a b c : Int} (h : VI u a b c) (k : VI v a b c) : M.laws_b10VEqual u v = true := by
  unfold M.laws_b10VEqual
  simp only [letv, isI_eq h.1 k.1, isI_eq h.2.1 k.2.1, isI_eq h.2.2 k.2.2, cond_true]

/-- The law of FnVectors. -/
theorem law_FnVectors (p0 p1 : List Int) (h0 : byt p0) (h1 : byt p1) : M.laws_FnVectors p0 p1 = some true := by
  unfold M.laws_FnVectors
  simp only [letv]
  cases M.laws_b10Long p0 p1 with
  | true => rfl
  | false =>
    obtain ⟨u, a, b, c, e1, hu, su⟩ := b10_vector h0
    obtain ⟨v, d, e, f, e2, hv, sv⟩ := b10_vector h1
    obtain ⟨sa, sb, sc⟩ := su
    obtain ⟨sd, se, sf⟩ := sv
    obtain ⟨ua, ub, uc⟩ := hu
    obtain ⟨va, vb, vc⟩ := hv
    rw [cond_false, e1, Option.bind_some, e2, Option.bind_some]
    have etau : (⟨u.x, u.y, u.z⟩ : SVector) = u := rfl
    have etav : (⟨v.x, v.y, v.z⟩ : SVector) = v := rfl
    -- products
    have p50 : ∀ {x y : Int}, (-50 ≤ x ∧ x ≤ 50) → (-50 ≤ y ∧ y ≤ 50) → -2500 ≤ x * y ∧ x * y ≤ 2500 := fun hx hy => mul_b (m := 50) (n := 50) hx hy (by omega) (by omega)
    have q50 : ∀ {x y : Int}, (-5000 ≤ x ∧ x ≤ 5000) → (-50 ≤ y ∧ y ≤ 50) → -250000 ≤ x * y ∧ x * y ≤ 250000 := fun hx hy => mul_b (m := 5000) (n := 50) hx hy (by omega) (by omega)
    have mul : ∀ {x y : Nat} {k l : Int}, IsI x k → IsI y l → (-50 ≤ k ∧ k ≤ 50) → (-50 ≤ l ∧ l ≤ 50) → IsI (fop .mul .f32 x y) (k * l) := fun hx hy hk hl => isI_mul hx hy (by have := p50 hk hl; omega)
    have crossed : ∀ {x y z t : Nat} {k l m n : Int}, IsI x k → IsI y l → IsI z m → IsI t n → (-50 ≤ k ∧ k ≤ 50) → (-50 ≤ l ∧ l ≤ 50) → (-50 ≤ m ∧ m ≤ 50) → (-50 ≤ n ∧ n ≤ 50) → IsI (M.impl_crossed x y z t) (k * l - m * n) ∧ -5000 ≤ k * l - m * n ∧ k * l - m * n ≤ 5000 := by
      intro x y z t k l m n hx hy hz ht hk hl hm hn
      have h1 := p50 hk hl
      have h2 := p50 hm hn
      unfold M.impl_crossed
      exact ⟨isI_sub (mul hx hy hk hl) (mul hz ht hm hn) (by omega), by omega, by omega⟩
    have cross : ∀ {x y : SVector} {k l m n o q : Int}, VI x k l m → VI y n o q → (-50 ≤ k ∧ k ≤ 50) → (-50 ≤ l ∧ l ≤ 50) → (-50 ≤ m ∧ m ≤ 50) → (-50 ≤ n ∧ n ≤ 50) → (-50 ≤ o ∧ o ≤ 50) → (-50 ≤ q ∧ q ≤ 50) → VI (M.impl_CrossOf x y) (l * q - m * o) (m * n - k * q) (k * o - l * n) ∧ (-5000 ≤ l * q - m * o ∧ l * q - m * o ≤ 5000) ∧ (-5000 ≤ m * n - k * q ∧ m * n - k * q ≤ 5000) ∧ (-5000 ≤ k * o - l * n ∧ k * o - l * n ≤ 5000) := by
      intro x y k l m n o q hx hy hk hl hm hn ho hq
      have c1 := crossed hx.2.1 hy.2.2 hx.2.2 hy.2.1 hl hq hm ho
      have c2 := crossed hx.2.2 hy.1 hx.1 hy.2.2 hm hn hk hq
      have c3 := crossed hx.1 hy.2.1 hx.2.1 hy.1 hk ho hl hn
      exact ⟨⟨c1.1, c2.1, c3.1⟩, c1.2, c2.2, c3.2⟩
    have inner : ∀ {x y : SVector} {k l m n o q : Int}, VI x k l m → VI y n o q → (-5000 ≤ k ∧ k ≤ 5000) → (-5000 ≤ l ∧ l ≤ 5000) → (-5000 ≤ m ∧ m ≤ 5000) → (-50 ≤ n ∧ n ≤ 50) → (-50 ≤ o ∧ o ≤ 50) → (-50 ≤ q ∧ q ≤ 50) → IsI (M.impl_InnerOf x y) (k * n + l * o + m * q) := by
      intro x y k l m n o q hx hy hk hl hm hn ho hq
      have h1 := q50 hk hn
      have h2 := q50 hl ho
      have h3 := q50 hm hq
      unfold M.impl_InnerOf
      exact isI_add (isI_add (isI_mul hx.1 hy.1 (by omega)) (isI_mul hx.2.1 hy.2.1 (by omega)) (by omega)) (isI_mul hx.2.2 hy.2.2 (by omega)) (by omega)
    have hU : VI u a b c := ⟨ua, ub, uc⟩
    have hV : VI v d e f := ⟨va, vb, vc⟩
    obtain ⟨k1, k2, k3, k4⟩ := cross hU hV sa sb sc sd se sf
    obtain ⟨l1, l2, l3, l4⟩ := cross hV hU sd se sf sa sb sc
    -- back
    have hback : VI (M.impl_AddVectors v (M.impl_LessVectors u v)) a b c := by
      have r1 := isI_add va (isI_sub ua va (by omega)) (by omega)
      have r2 := isI_add vb (isI_sub ub vb (by omega)) (by omega)
      have r3 := isI_add vc (isI_sub uc vc (by omega)) (by omega)
      rw [show d + (a - d) = a by omega] at r1
      rw [show e + (b - e) = b by omega] at r2
      rw [show f + (c - f) = c by omega] at r3
      exact ⟨r1, r2, r3⟩
    have htwice : VI (M.impl_ScaleVector u 1073741824) (a * 2) (b * 2) (c * 2) := ⟨isI_mul ua isI_two (by omega), isI_mul ub isI_two (by omega), isI_mul uc isI_two (by omega)⟩
    have hsum : VI (M.impl_AddVectors u u) (a * 2) (b * 2) (c * 2) := by
      have r1 := isI_add ua ua (by omega)
      have r2 := isI_add ub ub (by omega)
      have r3 := isI_add uc uc (by omega)
      rw [show a + a = a * 2 by omega] at r1
      rw [show b + b = b * 2 by omega] at r2
      rw [show c + c = c * 2 by omega] at r3
      exact ⟨r1, r2, r3⟩
    have hneg : VI (M.impl_ScaleVector (M.impl_CrossOf v u) 3212836864) (b * f - c * e) (c * d - a * f) (a * e - b * d) := by
      have r1 := isI_mul l1.1 isI_mone (by omega)
      have r2 := isI_mul l1.2.1 isI_mone (by omega)
      have r3 := isI_mul l1.2.2 isI_mone (by omega)
      rw [show (e * c - f * b) * -1 = b * f - c * e by rw [Int.mul_comm e c, Int.mul_comm f b]; omega] at r1
      rw [show (f * a - d * c) * -1 = c * d - a * f by rw [Int.mul_comm f a, Int.mul_comm d c]; omega] at r2
      rw [show (d * b - e * a) * -1 = a * e - b * d by rw [Int.mul_comm d b, Int.mul_comm e a]; omega] at r3
      exact ⟨r1, r2, r3⟩
    have i1 := inner k1 hU k2 k3 k4 sa sb sc
    have i2 := inner k1 hV k2 k3 k4 sd se sf
    have z1 : (b * f - c * e) * a + (c * d - a * f) * b + (a * e - b * d) * c = 0 := by
      simp only [Int.sub_mul, Int.mul_assoc]
      rw [Int.mul_left_comm b f a, Int.mul_comm b a, Int.mul_left_comm f a b, Int.mul_left_comm c e a, Int.mul_comm c a, Int.mul_left_comm e a c, Int.mul_left_comm c d b, Int.mul_comm c b, Int.mul_left_comm d b c, Int.mul_comm f b]
      omega
    have z2 : (b * f - c * e) * d + (c * d - a * f) * e + (a * e - b * d) * f = 0 := by
      simp only [Int.sub_mul, Int.mul_assoc]
      rw [Int.mul_comm f d, Int.mul_comm e d, Int.mul_comm f e]
      omega
    rw [z1] at i1
    rw [z2] at i2
    have isq := inner hU hU (by omega) (by omega) (by omega) sa sb sc
    have hsq : M.impl_InnerOf u u = M.laws_b10Square u := rfl
    have hroot : M.impl_LongOf u = M.spec_RootNumber (M.laws_b10Square u) := rfl
    have hb0 : VI (M.impl_BetweenVectors u v 0) a b c := by
      have r1 := isI_add ua (isI_mul (isI_sub va ua (by omega)) isI_zero (by rw [Int.mul_zero]; decide)) (by omega)
      have r2 := isI_add ub (isI_mul (isI_sub vb ub (by omega)) isI_zero (by rw [Int.mul_zero]; decide)) (by omega)
      have r3 := isI_add uc (isI_mul (isI_sub vc uc (by omega)) isI_zero (by rw [Int.mul_zero]; decide)) (by omega)
      rw [Int.mul_zero, Int.add_zero] at r1 r2 r3
      exact ⟨r1, r2, r3⟩
    have hb1 : VI (M.impl_BetweenVectors u v 1065353216) d e f := by
      have r1 := isI_add ua (isI_mul (isI_sub va ua (by omega)) isI_one (by omega)) (by omega)
      have r2 := isI_add ub (isI_mul (isI_sub vb ub (by omega)) isI_one (by omega)) (by omega)
      have r3 := isI_add uc (isI_mul (isI_sub vc uc (by omega)) isI_one (by omega)) (by omega)
      rw [show a + (d - a) * 1 = d by omega] at r1
      rw [show b + (e - b) * 1 = e by omega] at r2
      rw [show c + (f - c) * 1 = f by omega] at r3
      exact ⟨r1, r2, r3⟩
    have t1 := veq hback hU
    have t2 := isI_ne i1 isI_zero
    have t3 := isI_ne i2 isI_zero
    have t4 := veq k1 hneg
    have t5 := veq htwice hsum
    have t6 := isI_ne isq isq
    have t7 := veq hb0 hU
    have t8 := veq hb1 hV
    rw [hsq] at t6
    have etac : (⟨(M.impl_CrossOf u v).x, (M.impl_CrossOf u v).y, (M.impl_CrossOf u v).z⟩ : SVector) = M.impl_CrossOf u v := rfl
    have etad : (⟨(M.impl_CrossOf v u).x, (M.impl_CrossOf v u).y, (M.impl_CrossOf v u).z⟩ : SVector) = M.impl_CrossOf v u := rfl
    have etab : (⟨(M.impl_AddVectors v (M.impl_LessVectors u v)).x, (M.impl_AddVectors v (M.impl_LessVectors u v)).y, (M.impl_AddVectors v (M.impl_LessVectors u v)).z⟩ : SVector) = M.impl_AddVectors v (M.impl_LessVectors u v) := rfl
    have etat : (⟨(M.impl_ScaleVector u 1073741824).x, (M.impl_ScaleVector u 1073741824).y, (M.impl_ScaleVector u 1073741824).z⟩ : SVector) = M.impl_ScaleVector u 1073741824 := rfl
    rw [etau, etav, etac, etad, etab, etat, t1, t2, t3, t4, t5, hroot, same_num, hsq, t6, t7, t8]
    simp only [Bool.not_true, cond_false]
    obtain ⟨w, e3, cx, cy, cz⟩ := any_vec h0
    have etaw : (⟨w.x, w.y, w.z⟩ : SVector) = w := rfl
    have hcan : ∀ x ∈ [w.x, w.y, w.z], Go.Fl.Can .f32 x := by
      intro x hx
      have : x = w.x ∨ x = w.y ∨ x = w.z := by simpa using hx
      rcases this with rfl | rfl | rfl <;> assumption
    have hlen := ntext_len_eq [w.x, w.y, w.z] (by simp)
    have hl26 : (ntext [w.x, w.y, w.z]).length = 26 := hlen
    have htext : M.impl_VectorText w = some (ntext [w.x, w.y, w.z]) := by
      unfold M.impl_VectorText M.impl_Vector_numbers
      simp only [letv]
      rw [intext _ (by simp)]; rfl
    have hread : M.impl_ReadVector (ntext [w.x, w.y, w.z]) = some (w, true) := by
      rw [ivec _ (by omega)]
      unfold vread
      rw [rdnums_ntext _ hcan (by simp)]
      rfl
    rw [e3, Option.bind_some, etaw, htext, Option.bind_some, hread, Option.bind_some]
    simp only [cond_true]
    rw [etaw, isameV, Option.bind_some, cond_true, hl26]
    rfl
end Go.Proofs
