import Derived.Test.YtdcienojgkioiaaDoorL4
/- The law of ReadTop. No program in sight. -/
namespace Go.Proofs
open Go Go.Fl Go.RowKit Go.Rg
attribute [local irreducible] fint fcmp fop fneg widen narrow fsqrt cn

theorem index_eq59 (l : List UInt8) : M.strings_Index_s3b l = some (Lib.indexByte l 59) := by
  unfold M.strings_Index_s3b M.internal_stringslite_Index_s3b M.internal_stringslite_IndexByte
  have e : sidx ([59] : List UInt8) 0 = some 59 := by decide
  have e2 : sfind l 59 = Lib.indexByte l 59 := rfl
  rw [e]
  simp only [letv, Option.bind_some, e2]
  by_cases h : ([59] : List UInt8) = l
  · subst h; rfl
  · have : (([59] : List UInt8) == l) = false := by simpa using h
    rw [this]; rfl

theorem split_eq59 (l : List UInt8) (hl : l.length ≤ 1048576) : M.strings_Split_s3b l = some (splitB 59 l) := by
  unfold M.strings_Split_s3b M.strings_genSplit_s3b_i64n0_i64m1 M.strings_Count_s3b
  have e : sidx ([59] : List UInt8) 0 = some 59 := by decide
  have e2 : scount l 59 = ((l.count 59 : Nat) : Int) := rfl
  have hc : l.count 59 ≤ l.length := List.count_le_length
  generalize hcc : l.count 59 = cnt at *
  rw [e]
  simp only [Option.bind_some, e2]
  have w1 : IntKind.i64.wrap ((cnt : Int) + 1) = ((cnt + 1 : Nat) : Int) := by rw [wrap_in (by omega)]; rfl
  have w2 : IntKind.i64.wrap ((l.length : Int) + 1) = ((l.length + 1 : Nat) : Int) := by rw [wrap_in (by omega)]; rfl
  have w3 : imin ((cnt + 1 : Nat) : Int) ((l.length + 1 : Nat) : Int) = ((cnt + 1 : Nat) : Int) := by unfold imin; rw [if_neg (by omega)]
  have w4 : IntKind.i64.wrap (((cnt + 1 : Nat) : Int) - 1) = (cnt : Int) := by rw [wrap_in (by omega)]; omega
  rw [w1, w2, w3, w4, mkl_ok (by omega), Option.bind_some]
  have key := loopM_one (B := fun (s7 : List UInt8 × Int × List (List UInt8)) =>
      bif (icmp .lss s7.2.1 (cnt : Int)) then
        (M.strings_Index_s3b s7.1).bind fun m9 =>
        bif (icmp .lss m9 0) then
          some (.inr (s7.1, s7.2.1, s7.2.2))
        else
          (ssub s7.1 0 (IntKind.i64.wrap (m9 + 0))).bind fun m14 =>
          (idx s7.2.2 s7.2.1).bind fun m15 =>
          (ssub s7.1 (IntKind.i64.wrap (m9 + 1)) ((s7.1).length : Int)).bind fun m21 =>
          some (.inl (m21, (IntKind.i64.wrap (s7.2.1 + 1)), (s7.2.2.set s7.2.1.toNat m14)))
      else
        some (.inr (s7.1, s7.2.1, s7.2.2)))
    (fun n s => ∃ i : Nat, s.2.1 = i ∧ n = cnt - i ∧ i + s.1.count 59 = cnt ∧ s.1.length ≤ 1048576 ∧ s.2.2.length = cnt + 1 ∧ s.2.2.take i ++ splitB 59 s.1 = splitB 59 l)
    (fun r => r.2.1 = (cnt : Int) ∧ r.2.2.length = cnt + 1 ∧ r.2.2.take cnt ++ [r.1] = splitB 59 l) ?_ cnt (l, 0, List.replicate (cnt + 1) []) ⟨0, rfl, rfl, by simp [hcc], hl, by simp, by simp⟩
  · obtain ⟨r, hr, h1, h2, h3⟩ := key
    rw [hr, Option.bind_some, h1]
    rw [idx_nat, List.getElem?_eq_getElem (by omega), Option.bind_some]
    have w5 : IntKind.i64.wrap ((cnt : Int) + 1) = ((cnt + 1 : Nat) : Int) := by rw [wrap_in (by omega)]; rfl
    have z : (0 : Int) = ((0 : Nat) : Int) := rfl
    rw [w5, z, ssub_nat _ (by omega) (by rw [List.length_set]; omega)]
    simp only [Option.bind_some, Int.toNat_natCast, List.drop_zero, Nat.sub_zero]
    rw [take_set _ _ _ (by omega), h3]
  · rintro n ⟨s, i0, a⟩ ⟨i, h1, rfl, h2, h3, h4, h5⟩
    simp only at h1 h2 h3 h4 h5
    subst h1
    dsimp only
    by_cases hlt : i < cnt
    · have e1 : icmp .lss (i : Int) (cnt : Int) = true := by rw [icmp_lss]; exact decide_eq_true (by omega)
      have hge := Lib.indexByte_ge s 59
      have hne : Lib.indexByte s 59 ≠ -1 := fun h => by have := count_miss h; omega
      obtain ⟨m, hm⟩ : ∃ m : Nat, Lib.indexByte s 59 = m := ⟨(Lib.indexByte s 59).toNat, by omega⟩
      obtain ⟨c1, c2⟩ := count_hit hm
      have e2 : icmp .lss (m : Int) 0 = false := by rw [icmp_lss]; exact decide_eq_false (by omega)
      have w6 : IntKind.i64.wrap ((m : Int) + 0) = (m : Int) := by rw [wrap_in (by omega)]; omega
      have w7 : IntKind.i64.wrap ((m : Int) + 1) = ((m + 1 : Nat) : Int) := by rw [wrap_in (by omega)]; rfl
      have w8 : IntKind.i64.wrap ((i : Int) + 1) = ((i + 1 : Nat) : Int) := by rw [wrap_in (by omega)]; rfl
      have z : (0 : Int) = ((0 : Nat) : Int) := rfl
      rw [e1, cond_true, index_eq59, Option.bind_some, hm, e2, cond_false, w6, z, ssub_nat s (Nat.zero_le _) (by omega), Option.bind_some, idx_nat, List.getElem?_eq_getElem (by omega), Option.bind_some, w7, ssub_nat s (by omega) (Nat.le_refl _), Option.bind_some, w8]
      refine .inr ⟨_, cnt - (i + 1), rfl, by omega, i + 1, rfl, rfl, ?_, ?_, ?_, ?_⟩
      · simp only
        rw [List.take_of_length_le (by rw [List.length_drop]; exact Nat.le_refl _)]
        omega
      · simp only [List.length_take, List.length_drop]; omega
      · simp only [List.length_set]; exact h4
      · simp only [Int.toNat_natCast, List.drop_zero, Nat.sub_zero]
        rw [take_set _ _ _ (by omega), List.take_of_length_le (l := s.drop (m + 1)) (by rw [List.length_drop]; exact Nat.le_refl _)]
        rw [splitB_hit hm] at h5
        rw [List.append_assoc]
        exact h5
    · have hi : i = cnt := by omega
      subst hi
      have e1 : icmp .lss (i : Int) (i : Int) = false := by rw [icmp_lss]; exact decide_eq_false (by omega)
      rw [e1, cond_false]
      refine .inl ⟨_, rfl, rfl, h4, ?_⟩
      have hmiss : Lib.indexByte s 59 = -1 := by
        have hge := Lib.indexByte_ge s 59
        by_cases hh : Lib.indexByte s 59 = -1
        · exact hh
        · obtain ⟨m, hm⟩ : ∃ m : Nat, Lib.indexByte s 59 = m := ⟨(Lib.indexByte s 59).toNat, by omega⟩
          have := (count_hit hm).1
          omega
      rw [splitB_miss hmiss] at h5
      exact h5


theorem eta_v (v : SVector) : (⟨v.x, v.y, v.z⟩ : SVector) = v := rfl
theorem eta_s (s : SSpin) : (⟨s.w, s.x, s.y, s.z⟩ : SSpin) = s := rfl
theorem eta_t (t : STop) : (⟨⟨t.moments.x, t.moments.y, t.moments.z⟩, ⟨t.turn.w, t.turn.x, t.turn.y, t.turn.z⟩, ⟨t.speed.x, t.speed.y, t.speed.z⟩⟩ : STop) = t := rfl
theorem ifinV (v : SVector) : M.impl_finiteVector v = some (M.spec_l01VFinite v) := by
  unfold M.impl_finiteVector M.spec_l01VFinite
  rw [fin_scan _ (by simp)]
  simp only [letv, sfin, Option.bind_some, List.all_cons, List.all_nil, Bool.and_true]
  cases fin v.x <;> cases fin v.y <;> rfl
theorem ispin (s : SSpin) : M.impl_IsSpin s = some (M.spec_l04Spin s) := by
  unfold M.impl_IsSpin M.spec_l04Spin M.impl_Spin_numbers
  simp only [letv, sfin]
  rw [fin_scan _ (by simp)]
  simp only [Option.bind_some, List.all_cons, List.all_nil, Bool.and_true]
  cases fin s.w <;> cases fin s.x <;> cases fin s.y <;> cases fin s.z <;> simp only [Bool.and_true, Bool.and_false, cond_true, cond_false, Bool.not_true, Bool.not_false, Option.bind_some]
  cases fcmp .neq .f32 s.w 0 <;> cases fcmp .neq .f32 s.x 0 <;> cases fcmp .neq .f32 s.y 0 <;> rfl
theorem ivalidTop (t : STop) : M.impl_ValidTop t = some (M.spec_l04Is t) := by
  unfold M.impl_ValidTop M.spec_l04Is
  have e : ∀ x, M.impl_lengthOk x = M.spec_l02Above x := fun _ => rfl
  simp only [letv, e, ispin, ifinV, eta_s, eta_v, Option.bind_some]
  cases M.spec_l02Above t.moments.x <;> cases M.spec_l02Above t.moments.y <;> cases M.spec_l02Above t.moments.z <;> cases M.spec_l04Spin t.turn <;> rfl

/-- Three numbers with a text; else none. -/
def vread (l : List UInt8) : SVector × Bool := if (rdnums l).2 = true ∧ (rdnums l).1.length = 3 then (⟨(rdnums l).1.getD 0 0, (rdnums l).1.getD 1 0, (rdnums l).1.getD 2 0⟩, true) else (⟨0, 0, 0⟩, false)
theorem vec_of (r : List Nat × Bool) : (letv (bif r.2 then icmp .neq (r.1.length : Int) 3 else true) fun m9 =>
    bif m9 then some ((⟨0, 0, 0⟩ : SVector), false) else (idx r.1 0).bind fun m21 => (idx r.1 1).bind fun m22 => (idx r.1 2).bind fun m23 => some ((⟨m21, m22, m23⟩ : SVector), true))
    = some (if r.2 = true ∧ r.1.length = 3 then (⟨r.1.getD 0 0, r.1.getD 1 0, r.1.getD 2 0⟩, true) else (⟨0, 0, 0⟩, false)) := by
  have i0 : ∀ xs : List Nat, idx xs 0 = xs[0]? := fun xs => idx_nat xs 0
  have i1 : ∀ xs : List Nat, idx xs 1 = xs[1]? := fun xs => idx_nat xs 1
  have i2 : ∀ xs : List Nat, idx xs 2 = xs[2]? := fun xs => idx_nat xs 2
  simp only [letv, i0, i1, i2]
  by_cases h : r.2 = true ∧ r.1.length = 3
  · rw [if_pos h]
    obtain ⟨h1, h2⟩ := h
    obtain ⟨a, b, c, habc⟩ := len3 h2
    simp only [h1, habc, cond_true, List.length_cons, List.length_nil, List.getElem?_cons_zero, List.getElem?_cons_succ, Option.bind_some, List.getD_cons_zero, List.getD_cons_succ]
    rfl
  · rw [if_neg h]
    have e : (bif r.2 then icmp .neq (r.1.length : Int) 3 else true) = true := by
      cases hr : r.2 with
      | false => rfl
      | true =>
        rw [cond_true]
        simp only [icmp_neq, bne_iff_ne, ne_eq]
        intro h3
        exact h ⟨hr, by omega⟩
    rw [e, cond_true]
theorem svec (l : List UInt8) (hl : l.length ≤ 1048576) : M.spec_l01VRead l = some (vread l) := by
  unfold M.spec_l01VRead vread
  rw [snums l hl, Option.bind_some]
  exact vec_of _
theorem ivec (l : List UInt8) (hl : l.length ≤ 1048576) : M.impl_ReadVector l = some (vread l) := by
  unfold M.impl_ReadVector vread
  rw [inums l hl, Option.bind_some]
  exact vec_of _
theorem len4 {l : List Nat} (h : l.length = 4) : ∃ a b c d, l = [a, b, c, d] := by
  match l, h with
  | [a, b, c, d], _ => exact ⟨a, b, c, d, rfl⟩
theorem len3s {l : List (List UInt8)} (h : l.length = 3) : ∃ a b c, l = [a, b, c] := by
  match l, h with
  | [a, b, c], _ => exact ⟨a, b, c, rfl⟩

theorem readTop (l : List UInt8) (hl : l.length ≤ 1048576) : ∃ r, M.spec_ReadTop l = some r ∧ M.impl_ReadTop l = some r := by
  unfold M.spec_ReadTop M.spec_l08ReadTop M.impl_ReadTop
  have hc : M.spec_l01Cut l 59 = some (splitB 59 l) := cut_eq 59 l hl
  rw [hc, split_eq59 l hl]
  simp only [Option.bind_some]
  by_cases h3 : (splitB 59 l).length = 3
  · have e : icmp .neq ((splitB 59 l).length : Int) 3 = false := by simp [icmp_neq, h3]
    have hm : ∀ p ∈ splitB 59 l, p.length ≤ 1048576 := fun p hp => Nat.le_trans (splitB_mem hp) hl
    obtain ⟨a, b, c, habc⟩ := len3s h3
    rw [e]
    rw [habc] at hm ⊢
    have ha := hm a (by simp); have hb := hm b (by simp); have hcc := hm c (by simp)
    have i0 : idx [a, b, c] 0 = some a := idx_nat _ 0
    have i1 : idx [a, b, c] 1 = some b := idx_nat _ 1
    have i2 : idx [a, b, c] 2 = some c := idx_nat _ 2
    have e4 : M.impl_exactly b 4 = some (exn b 4) := iexactly b 4 (by omega) hb
    simp only [cond_false, i0, i1, i2, Option.bind_some, svec a ha, svec c hcc, ivec a ha, ivec c hcc, snums b hb, e4, letv, eta_v]
    have j0 : ∀ xs : List Nat, idx xs 0 = xs[0]? := fun xs => idx_nat xs 0
    have j1 : ∀ xs : List Nat, idx xs 1 = xs[1]? := fun xs => idx_nat xs 1
    have j2 : ∀ xs : List Nat, idx xs 2 = xs[2]? := fun xs => idx_nat xs 2
    have j3 : ∀ xs : List Nat, idx xs 3 = xs[3]? := fun xs => idx_nat xs 3
    simp only [j0, j1, j2, j3]
    unfold exn
    by_cases h : (rdnums b).2 = true ∧ (rdnums b).1.length = 4
    · rw [if_pos h]
      obtain ⟨h1, h2⟩ := h
      obtain ⟨w, x, y, z, hw⟩ := len4 h2
      have e2 : icmp .neq ((4 : Nat) : Int) 4 = false := rfl
      simp only [h1, hw, cond_true, List.length_cons, List.length_nil, List.getElem?_cons_zero, List.getElem?_cons_succ, Option.bind_some, ivalidTop]
      rw [show (((0 + 1 + 1 + 1 + 1 : Nat) : Int)) = ((4 : Nat) : Int) from rfl, e2]
      cases (vread a).2 <;> cases (vread c).2 <;> simp only [cond_true, cond_false, Option.bind_some] <;> first | exact ⟨_, rfl, rfl⟩ | skip
      cases M.spec_l04Is ⟨(vread a).1, ⟨w, x, y, z⟩, (vread c).1⟩ with
      | true => exact ⟨_, rfl, rfl⟩
      | false => exact ⟨_, rfl, rfl⟩
    · rw [if_neg h]
      have e5 : (bif (vread a).2 then bif (rdnums b).2 then bif (vread c).2 then icmp .neq ((rdnums b).1.length : Int) 4 else true else true else true) = true := by
        cases (vread a).2 <;> cases hr : (rdnums b).2 <;> cases (vread c).2 <;> simp only [cond_true, cond_false]
        simp only [icmp_neq, bne_iff_ne, ne_eq]
        intro h4
        exact h ⟨hr, by omega⟩
      rw [e5]
      refine ⟨_, rfl, ?_⟩
      have e6 : List.replicate 4 (0 : Nat) = [0, 0, 0, 0] := rfl
      simp only [e6, List.getElem?_cons_zero, List.getElem?_cons_succ, Option.bind_some, cond_false]
      cases (vread a).2 <;> rfl
  · have e : icmp .neq ((splitB 59 l).length : Int) 3 = true := by simp only [icmp_neq, bne_iff_ne, ne_eq]; omega
    rw [e]
    exact ⟨_, rfl, rfl⟩

theorem eqV_self (v : SVector) : M.laws_eqVector v v = true := by
  unfold M.laws_eqVector; simp only [letv, same_self]; rfl
theorem eqS_self (v : SSpin) : M.laws_eqSpin v v = true := by
  unfold M.laws_eqSpin; simp only [letv, same_self]; rfl
theorem eqT_self (v : STop) : M.laws_eqTop v v = true := by
  unfold M.laws_eqTop; simp only [letv, eqV_self, eqS_self]; rfl

/-- The law of ReadTop. -/
theorem law_ReadTop (l : List UInt8) : M.laws_FnExactReadTop l = some true := by
  unfold M.laws_FnExactReadTop
  by_cases hl : l.length ≤ 1048576
  · obtain ⟨r, h1, h2⟩ := readTop l hl
    have e : icmp .gtr (l.length : Int) 1048576 = false := by rw [icmp_gtr]; exact decide_eq_false (by omega)
    rw [e, cond_false, h1, h2]
    simp only [Option.bind_some, letv, eta_t, eqT_self, cond_true, beq_self_eq_true, Bool.not_true, cond_false]
  · have e : icmp .gtr (l.length : Int) 1048576 = true := by rw [icmp_gtr]; exact decide_eq_true (by omega)
    rw [e, cond_true]

end Go.Proofs
