import Derived.Test.YtdcienojgkioiaaGreatDoorL4
/- Texts cut at strokes and colons; whole numbers and lists of them out of texts. No program in sight. -/
namespace Go.Proofs
open Go Go.Fl Go.RowKit Go.Rg
attribute [local irreducible] fint fcmp fop fneg widen narrow fsqrt cn

theorem index_eq47 (l : List UInt8) : M.strings_Index_s2f l = some (Lib.indexByte l 47) := by
  unfold M.strings_Index_s2f M.internal_stringslite_Index_s2f M.internal_stringslite_IndexByte
  have e : sidx ([47] : List UInt8) 0 = some 47 := by decide
  have e2 : sfind l 47 = Lib.indexByte l 47 := rfl
  rw [e]
  simp only [letv, Option.bind_some, e2]
  by_cases h : ([47] : List UInt8) = l
  · subst h; rfl
  · have : (([47] : List UInt8) == l) = false := by simpa using h
    rw [this]; rfl
theorem split_eq47 (l : List UInt8) (hl : l.length ≤ 1048576) : M.strings_Split_s2f l = some (splitB 47 l) := by
  unfold M.strings_Split_s2f M.strings_genSplit_s2f_i64n0_i64m1 M.strings_Count_s2f
  have e : sidx ([47] : List UInt8) 0 = some 47 := by decide
  have e2 : scount l 47 = ((l.count 47 : Nat) : Int) := rfl
  have hc : l.count 47 ≤ l.length := List.count_le_length
  generalize hcc : l.count 47 = cnt at *
  rw [e]
  simp only [Option.bind_some, e2]
  have w1 : IntKind.i64.wrap ((cnt : Int) + 1) = ((cnt + 1 : Nat) : Int) := by rw [wrap_in (by omega)]; rfl
  have w2 : IntKind.i64.wrap ((l.length : Int) + 1) = ((l.length + 1 : Nat) : Int) := by rw [wrap_in (by omega)]; rfl
  have w3 : imin ((cnt + 1 : Nat) : Int) ((l.length + 1 : Nat) : Int) = ((cnt + 1 : Nat) : Int) := by unfold imin; rw [if_neg (by omega)]
  have w4 : IntKind.i64.wrap (((cnt + 1 : Nat) : Int) - 1) = (cnt : Int) := by rw [wrap_in (by omega)]; omega
  rw [w1, w2, w3, w4, mkl_ok (by omega), Option.bind_some]
  have key := loopM_one (B := fun (s7 : List UInt8 × Int × List (List UInt8)) =>
      bif (icmp .lss s7.2.1 (cnt : Int)) then
        (M.strings_Index_s2f s7.1).bind fun m9 =>
        bif (icmp .lss m9 0) then
          some (.inr (s7.1, s7.2.1, s7.2.2))
        else
          (ssub s7.1 0 (IntKind.i64.wrap (m9 + 0))).bind fun m14 =>
          (idx s7.2.2 s7.2.1).bind fun m15 =>
          (ssub s7.1 (IntKind.i64.wrap (m9 + 1)) ((s7.1).length : Int)).bind fun m21 =>
          some (.inl (m21, (IntKind.i64.wrap (s7.2.1 + 1)), (s7.2.2.set s7.2.1.toNat m14)))
      else
        some (.inr (s7.1, s7.2.1, s7.2.2)))
    (fun n s => ∃ i : Nat, s.2.1 = i ∧ n = cnt - i ∧ i + s.1.count 47 = cnt ∧ s.1.length ≤ 1048576 ∧ s.2.2.length = cnt + 1 ∧ s.2.2.take i ++ splitB 47 s.1 = splitB 47 l)
    (fun r => r.2.1 = (cnt : Int) ∧ r.2.2.length = cnt + 1 ∧ r.2.2.take cnt ++ [r.1] = splitB 47 l) ?_ cnt (l, 0, List.replicate (cnt + 1) []) ⟨0, rfl, rfl, by simp [hcc], hl, by simp, by simp⟩
  · obtain ⟨r, hr, h1, h2, h3⟩ := key
    rw [hr, Option.bind_some, h1]
    rw [idx_nat, List.getElem?_eq_getElem (by omega), Option.bind_some]
    have w5 : IntKind.i64.wrap ((cnt : Int) + 1) = ((cnt + 1 : Nat) : Int) := by rw [wrap_in (by omega)]; rfl
    have z : (0 : Int) = ((0 : Nat) : Int) := rfl
    rw [w5, z, ssub_nat _ (by omega) (by rw [List.length_set]; omega)]
    simp only [Option.bind_some, Int.toNat_natCast, List.drop_zero, Nat.sub_zero]
    rw [take_set _ _ _ (by omega), h3]
  · rintro n ⟨s, i0, a⟩ ⟨i, h1, rfl, h2, h3, h4, h5⟩
    simp only at h1 h2 h3 h4 h5
    subst h1
    dsimp only
    by_cases hlt : i < cnt
    · have e1 : icmp .lss (i : Int) (cnt : Int) = true := by rw [icmp_lss]; exact decide_eq_true (by omega)
      have hge := Lib.indexByte_ge s 47
      have hne : Lib.indexByte s 47 ≠ -1 := fun h => by have := count_miss h; omega
      obtain ⟨m, hm⟩ : ∃ m : Nat, Lib.indexByte s 47 = m := ⟨(Lib.indexByte s 47).toNat, by omega⟩
      obtain ⟨c1, c2⟩ := count_hit hm
      have e2 : icmp .lss (m : Int) 0 = false := by rw [icmp_lss]; exact decide_eq_false (by omega)
      have w6 : IntKind.i64.wrap ((m : Int) + 0) = (m : Int) := by rw [wrap_in (by omega)]; omega
      have w7 : IntKind.i64.wrap ((m : Int) + 1) = ((m + 1 : Nat) : Int) := by rw [wrap_in (by omega)]; rfl
      have w8 : IntKind.i64.wrap ((i : Int) + 1) = ((i + 1 : Nat) : Int) := by rw [wrap_in (by omega)]; rfl
      have z : (0 : Int) = ((0 : Nat) : Int) := rfl
      rw [e1, cond_true, index_eq47, Option.bind_some, hm, e2, cond_false, w6, z, ssub_nat s (Nat.zero_le _) (by omega), Option.bind_some, idx_nat, List.getElem?_eq_getElem (by omega), Option.bind_some, w7, ssub_nat s (by omega) (Nat.le_refl _), Option.bind_some, w8]
      refine .inr ⟨_, cnt - (i + 1), rfl, by omega, i + 1, rfl, rfl, ?_, ?_, ?_, ?_⟩
      · simp only
        rw [List.take_of_length_le (by rw [List.length_drop]; exact Nat.le_refl _)]
        omega
      · simp only [List.length_take, List.length_drop]; omega
      · simp only [List.length_set]; exact h4
      · simp only [Int.toNat_natCast, List.drop_zero, Nat.sub_zero]
        rw [take_set _ _ _ (by omega), List.take_of_length_le (l := s.drop (m + 1)) (by rw [List.length_drop]; exact Nat.le_refl _)]
        rw [splitB_hit hm] at h5
        rw [List.append_assoc]
        exact h5
    · have hi : i = cnt := by omega
      subst hi
      have e1 : icmp .lss (i : Int) (i : Int) = false := by rw [icmp_lss]; exact decide_eq_false (by omega)
      rw [e1, cond_false]
      refine .inl ⟨_, rfl, rfl, h4, ?_⟩
      have hmiss : Lib.indexByte s 47 = -1 := by
        have hge := Lib.indexByte_ge s 47
        by_cases hh : Lib.indexByte s 47 = -1
        · exact hh
        · obtain ⟨m, hm⟩ : ∃ m : Nat, Lib.indexByte s 47 = m := ⟨(Lib.indexByte s 47).toNat, by omega⟩
          have := (count_hit hm).1
          omega
      rw [splitB_miss hmiss] at h5
      exact h5
theorem cut58 (l : List UInt8) (hl : l.length ≤ 1048576) : M.strings_Cut_s3a l = some (if Lib.indexByte l 58 = -1 then (l, [], false) else (l.take (Lib.indexByte l 58).toNat, l.drop ((Lib.indexByte l 58).toNat + 1), true)) := by
  unfold M.strings_Cut_s3a M.internal_stringslite_Cut_s3a
  have e0 : M.internal_stringslite_Index_s3a l = some (Lib.indexByte l 58) := by
    unfold M.internal_stringslite_Index_s3a M.internal_stringslite_IndexByte
    have e : sidx ([58] : List UInt8) 0 = some 58 := by decide
    have e2 : sfind l 58 = Lib.indexByte l 58 := rfl
    rw [e]
    simp only [letv, Option.bind_some, e2]
    by_cases h : ([58] : List UInt8) = l
    · subst h; rfl
    · have : (([58] : List UInt8) == l) = false := by simpa using h
      rw [this]; rfl
  rw [e0, Option.bind_some]
  by_cases h : Lib.indexByte l 58 = -1
  · rw [h, if_pos rfl]; rfl
  · have hge := Lib.indexByte_ge l 58
    obtain ⟨m, hm⟩ : ∃ m : Nat, Lib.indexByte l 58 = m := ⟨(Lib.indexByte l 58).toNat, by omega⟩
    have hml := (count_hit hm).2
    have e1 : icmp .geq (m : Int) 0 = true := by rw [icmp_geq]; exact decide_eq_true (by omega)
    have wm : IntKind.i64.wrap ((m : Int) + 1) = ((m + 1 : Nat) : Int) := by rw [wrap_in (by omega)]; rfl
    have z : (0 : Int) = ((0 : Nat) : Int) := rfl
    rw [if_neg h, hm, e1, cond_true, z, ssub_nat l (Nat.zero_le _) (by omega), Option.bind_some, wm, ssub_nat l (by omega) (Nat.le_refl _), Option.bind_some, Option.bind_some, Int.toNat_natCast, List.drop_zero, Nat.sub_zero,
      List.take_of_length_le (l := l.drop (m + 1)) (by rw [List.length_drop]; exact Nat.le_refl _)]
/-- A whole number out of its text; nothing where the text is none. -/
def decv (s : List UInt8) : Option Int := match Lib.parseIntB 64 s with
  | .ok v => if -1000000000000000 ≤ v ∧ v ≤ 1000000000000000 ∧ Lib.itoa v = s then some v else none
  | _ => none
theorem decv_some {s : List UInt8} {v : Int} (h : decv s = some v) : (-1000000000000000 ≤ v ∧ v ≤ 1000000000000000) ∧ s = Lib.itoa v := by
  unfold decv at h
  split at h
  · split at h
    · rename_i hc
      cases h
      exact ⟨⟨hc.1, hc.2.1⟩, hc.2.2.symm⟩
    · cases h
  · cases h
theorem decv_itoa {v : Int} (h : -1000000000000000 ≤ v ∧ v ≤ 1000000000000000) : decv (Lib.itoa v) = some v := by
  unfold decv
  rw [parse_itoa v h]
  exact if_pos ⟨h.1, h.2, rfl⟩
theorem in_not {n : Int} (h : ¬ (-1000000000000000 ≤ n ∧ n ≤ 1000000000000000)) : M.impl_in n (-1000000000000000) 1000000000000000 = false := by
  unfold M.impl_in
  simp only [letv, icmp_geq, icmp_leq]
  by_cases h1 : n ≥ -1000000000000000
  · rw [decide_eq_true h1, cond_true]; exact decide_eq_false (fun h2 => h ⟨h1, h2⟩)
  · rw [decide_eq_false h1, cond_false]
theorem irdec (s : List UInt8) (hl : s.length ≤ 1048576) : M.impl_ReadDecimal s = some (match decv s with | some v => (v, true) | none => (0, false)) := by
  unfold M.impl_ReadDecimal pint
  rw [if_pos (by omega), Option.bind_some]
  unfold decv
  cases hp : Lib.parseIntB 64 s with
  | ok v =>
    by_cases hr : -1000000000000000 ≤ v ∧ v ≤ 1000000000000000
    · simp only [in_big hr, letv, cond_true]
      rw [idec v (by omega) (by omega), Option.bind_some]
      by_cases he : Lib.itoa v = s
      · have e1 : (Lib.itoa v == s) = true := by simpa using he
        rw [e1, if_pos ⟨hr.1, hr.2, he⟩]; rfl
      · have e1 : (Lib.itoa v == s) = false := by simpa using he
        rw [e1, if_neg (fun h => he h.2.2)]; rfl
    · simp only [in_not hr, letv, cond_true, cond_false]
      rw [if_neg (fun h => hr ⟨h.1, h.2.1⟩)]; rfl
  | range => rfl
  | _ => rfl

/-- What the digits of a text come to. -/
def vstep (n : Int) (b : UInt8) : Int := if 48 ≤ b.toNat ∧ b.toNat ≤ 57 then 10 * n + ((b.toNat : Int) - 48) else n
def vnum (n : Int) (s : List UInt8) : Int := s.foldl vstep n
theorem vstep_bound {n m : Int} (b : UInt8) (h : 0 ≤ n ∧ n < m) : 0 ≤ vstep n b ∧ vstep n b < 10 * m := by
  unfold vstep
  split <;> omega
theorem vnum_bound : ∀ (s : List UInt8) {n m : Int}, 0 ≤ n ∧ n < m → 0 ≤ vnum n s ∧ vnum n s < 10 ^ s.length * m := by
  intro s
  induction s with
  | nil => intro n m h; simpa [vnum] using h
  | cons b s ih =>
    intro n m h
    have := ih (vstep_bound b h)
    unfold vnum at this ⊢
    rw [List.foldl_cons, List.length_cons, Int.pow_succ, Int.mul_assoc]
    exact this
theorem vnum_dig (u : Nat) : vnum 0 (Lib.decDigits u) = u := by
  induction u using Nat.strongRecOn with
  | ind u ih =>
    rw [Lib.decDigits]
    split
    · rename_i h
      simp only [vnum, List.foldl_cons, List.foldl_nil, vstep, digByte h]
      rw [if_pos (by omega)]
      omega
    · rename_i h
      have := ih (u / 10) (by omega)
      unfold vnum at this ⊢
      rw [List.foldl_append, this]
      simp only [List.foldl_cons, List.foldl_nil, vstep, digByte (show u % 10 < 10 by omega)]
      rw [if_pos (by omega)]
      omega
theorem nd_le : ∀ (k u : Nat), 1 ≤ k → u < 10 ^ k → Lib.nDigits u ≤ k := by
  intro k
  induction k with
  | zero => intro u hk; omega
  | succ k ih =>
    intro u _ hu
    by_cases h10 : u < 10
    · rw [Lib.nDigits_small h10]; omega
    · rw [Lib.nDigits_big h10]
      have hd : u / 10 < 10 ^ k := by
        rw [Nat.pow_succ] at hu
        exact Nat.div_lt_of_lt_mul (by rw [Nat.mul_comm]; exact hu)
      have hk1 : 1 ≤ k := by
        rcases Nat.eq_zero_or_pos k with rfl | h
        · simp at hd; omega
        · exact h
      have := ih _ hk1 hd
      omega
theorem itoa_17 {v : Int} (h : -1000000000000000 ≤ v ∧ v ≤ 1000000000000000) : 1 ≤ (Lib.itoa v).length ∧ (Lib.itoa v).length ≤ 17 := by
  have key : ∀ u : Nat, u ≤ 1000000000000000 → 1 ≤ (Lib.decDigits u).length ∧ (Lib.decDigits u).length ≤ 16 := by
    intro u hu
    rw [Lib.decDigits_length]
    exact ⟨Lib.nDigits_pos u, nd_le 16 u (by omega) (by omega)⟩
  unfold Lib.itoa
  split
  · have := key v.natAbs (by omega)
    rw [List.length_cons]; omega
  · have := key v.toNat (by omega)
    omega
theorem valueLoop (s : List UInt8) (hl : s.length ≤ 17) : loopM (fun (s5 : Int × Int) =>
        bif (icmp .lss s5.2 ((s).length : Int)) then
          (Option.bind (
              (sidx s s5.2).bind fun m8 =>
              bif (icmp .geq m8 48) then
                (sidx s s5.2).bind fun m10 =>
                some (icmp .leq m10 57)
              else
                some false) fun m7 =>
          bif m7 then
            (sidx s s5.2).bind fun m13 =>
            some (.inl ((IntKind.i64.wrap ((IntKind.i64.wrap (10 * s5.1)) + (IntKind.i64.wrap (IntKind.u8.wrap (m13 - 48))))), (IntKind.i64.wrap (s5.2 + 1))))
          else
            some (.inl (s5.1, (IntKind.i64.wrap (s5.2 + 1)))))
        else
          some (.inr s5.1)) ((0, 0) : Int × Int) = some (vnum 0 s) := by
  rw [loopM_list (s0 := ((0, 0) : Int × Int)) s (fun (a : Int) k => (a, (k : Int))) (fun a b => .inl (vstep a b)) (fun a => a) (fun k a => 0 ≤ a ∧ a < 10 ^ k) ?_ ?_ 0 ⟨by omega, by simp⟩ rfl]
  · congr 1
    have key : ∀ (l : List UInt8) (a : Int), foldE (fun (a : Int) (b : UInt8) => (.inl (vstep a b) : Int ⊕ Int)) (fun a => a) a l = vnum a l := by
      intro l
      induction l with
      | nil => intro a; rfl
      | cons b l ih => intro a; rw [foldE_inl rfl, ih]; rfl
    exact key s 0
  · rintro k a b hb ⟨h0, h1⟩
    have hlt := (List.getElem?_eq_some_iff.1 hb).1
    have hp : (10 : Int) ^ k ≤ 10 ^ 16 := by
      have := Nat.pow_le_pow_right (n := 10) (by omega) (show k ≤ 16 by omega)
      have e1 : ((10 ^ k : Nat) : Int) = (10 : Int) ^ k := by simp
      have e2 : ((10 ^ 16 : Nat) : Int) = (10 : Int) ^ 16 := by simp
      rw [← e1, ← e2]; omega
    have hp16 : (10 : Int) ^ 16 = 10000000000000000 := by decide
    have hs : sidx s (k : Int) = some (b.toNat : Int) := by rw [sidx_nat, hb]; rfl
    have hb8 := b.toNat_lt
    have hnext : 0 ≤ vstep a b ∧ vstep a b < 10 ^ (k + 1) := by
      have := vstep_bound b ⟨h0, h1⟩
      rw [Int.pow_succ, Int.mul_comm]
      exact this
    dsimp only
    rw [lss_lt hlt, cond_true, hs, Option.bind_some, icmp_geq, succ_wrap (by omega)]
    refine ⟨?_, hnext⟩
    unfold vstep
    by_cases c1 : (b.toNat : Int) ≥ 48
    · rw [decide_eq_true c1, cond_true, Option.bind_some, Option.bind_some, icmp_leq]
      by_cases c2 : (b.toNat : Int) ≤ 57
      · have w0 : IntKind.u8.wrap ((b.toNat : Int) - 48) = (b.toNat : Int) - 48 := by rw [IntKind.wrap_u8]; omega
        have w1 : IntKind.i64.wrap ((b.toNat : Int) - 48) = (b.toNat : Int) - 48 := wrap_in (by omega)
        have w2 : IntKind.i64.wrap (10 * a) = 10 * a := wrap_in (by omega)
        have w3 : IntKind.i64.wrap (10 * a + ((b.toNat : Int) - 48)) = 10 * a + ((b.toNat : Int) - 48) := wrap_in (by omega)
        rw [decide_eq_true c2, cond_true, Option.bind_some, w0, w1, w2, w3, if_pos (by omega)]
      · rw [decide_eq_false c2, cond_false, if_neg (by omega)]
    · rw [decide_eq_false c1, cond_false, Option.bind_some, cond_false, if_neg (by omega)]
  · rintro a _
    dsimp only
    rw [lss_self, cond_false]
theorem sin_dec (n : Int) : M.spec_l00In n (-1000000000000000) 1000000000000000 = decide (-1000000000000000 ≤ n ∧ n ≤ 1000000000000000) := by
  unfold M.spec_l00In
  simp only [letv, icmp_geq, icmp_leq]
  by_cases h1 : n ≥ -1000000000000000
  · rw [decide_eq_true h1, cond_true]
    by_cases h2 : n ≤ 1000000000000000
    · rw [decide_eq_true h2, decide_eq_true (p := -1000000000000000 ≤ n ∧ n ≤ 1000000000000000) ⟨h1, h2⟩]
    · rw [decide_eq_false h2, decide_eq_false (p := -1000000000000000 ≤ n ∧ n ≤ 1000000000000000) (fun h => h2 h.2)]
  · rw [decide_eq_false h1, cond_false, decide_eq_false (p := -1000000000000000 ≤ n ∧ n ≤ 1000000000000000) (fun h => h1 h.1)]
theorem valueEnd (s : List UInt8) (v : Int) (hv : -100000000000000000 ≤ v ∧ v ≤ 100000000000000000) (h : ∀ w, decv s = some w → w = v) : (Option.bind (
          letv (M.spec_l00In v (-1000000000000000) 1000000000000000) fun m17 =>
          bif m17 then
            (M.spec_l01Dec v).bind fun m21 =>
            some (!(m21 == s))
          else
            some true) fun m16 =>
      bif m16 then
        some (0, false)
      else
        some (v, true)) = some (match decv s with | some v => (v, true) | none => (0, false)) := by
  simp only [letv, sin_dec]
  by_cases hr : -1000000000000000 ≤ v ∧ v ≤ 1000000000000000
  · rw [decide_eq_true hr, cond_true, sdec v (by omega) (by omega), Option.bind_some, Option.bind_some]
    by_cases he : Lib.itoa v = s
    · have e1 : (Lib.itoa v == s) = true := by simpa using he
      have e2 : decv s = some v := by rw [← he]; exact decv_itoa hr
      rw [e1, e2]; rfl
    · have e1 : (Lib.itoa v == s) = false := by simpa using he
      have e2 : decv s = none := by
        cases hd : decv s with
        | none => rfl
        | some w =>
          have hw := h w hd
          subst hw
          exact absurd (decv_some hd).2.symm he
      rw [e1, e2]; rfl
  · have e2 : decv s = none := by
      cases hd : decv s with
      | none => rfl
      | some w =>
        have hw := h w hd
        subst hw
        exact absurd (decv_some hd).1 hr
    rw [decide_eq_false hr, e2]; rfl
theorem sval (s : List UInt8) : M.spec_l01Value s = some (match decv s with | some v => (v, true) | none => (0, false)) := by
  unfold M.spec_l01Value
  by_cases hs : 1 ≤ s.length ∧ s.length ≤ 17
  · have e : (bif icmp .lss (s.length : Int) 1 then true else icmp .gtr (s.length : Int) 17) = false := by
      rw [icmp_lss, icmp_gtr, decide_eq_false (by omega), cond_false]
      exact decide_eq_false (by omega)
    simp only [letv] 
    rw [e, cond_false, valueLoop s hs.2, Option.bind_some]
    obtain ⟨b, r, rfl⟩ : ∃ b r, s = b :: r := by
      cases s with
      | nil => simp at hs
      | cons b r => exact ⟨b, r, rfl⟩
    have i0 : sidx (b :: r) 0 = some (b.toNat : Int) := rfl
    have hb := vnum_bound (b :: r) (n := 0) (m := 1) (by omega)
    have hb2 : vnum 0 (b :: r) < 100000000000000000 := by
      have h1 := Nat.pow_le_pow_right (n := 10) (by omega) hs.2
      have e1 : ((10 ^ (b :: r).length : Nat) : Int) = (10 : Int) ^ (b :: r).length := by simp
      have e2 : (10 : Nat) ^ 17 = 100000000000000000 := by decide
      rw [Int.mul_one, ← e1] at hb
      omega
    have w0 : IntKind.i64.wrap (0 - vnum 0 (b :: r)) = 0 - vnum 0 (b :: r) := wrap_in (by omega)
    rw [i0, Option.bind_some, w0, icmp_eql]
    have key : ∀ w, decv (b :: r) = some w → w = if (b.toNat : Int) = 45 then 0 - vnum 0 (b :: r) else vnum 0 (b :: r) := by
      intro w hw
      have h2 := (decv_some hw).2
      unfold Lib.itoa at h2
      split at h2
      · obtain ⟨rfl, h3⟩ := List.cons.inj h2
        rw [if_pos (show ((45 : UInt8).toNat : Int) = 45 from rfl), h3]
        have e3 : vnum 0 (45 :: Lib.decDigits w.natAbs) = vnum 0 (Lib.decDigits w.natAbs) := rfl
        rw [e3, vnum_dig]
        omega
      · have hm := decDigits_mem w.toNat b (by rw [← h2]; simp)
        rw [if_neg (by omega), h2, vnum_dig]
        omega
    by_cases h45 : (b.toNat : Int) = 45
    · have e1 : ((b.toNat : Int) == 45) = true := by simpa using h45
      rw [e1, cond_true]
      refine valueEnd (b :: r) _ (by omega) ?_
      intro w hw
      rw [key w hw, if_pos h45]
    · have e1 : ((b.toNat : Int) == 45) = false := by simpa using h45
      rw [e1, cond_false]
      refine valueEnd (b :: r) _ (by omega) ?_
      intro w hw
      rw [key w hw, if_neg h45]
  · have e : (bif icmp .lss (s.length : Int) 1 then true else icmp .gtr (s.length : Int) 17) = true := by
      rw [icmp_lss, icmp_gtr]
      by_cases h1 : (s.length : Int) < 1
      · rw [decide_eq_true h1]; rfl
      · rw [decide_eq_false h1, cond_false]; exact decide_eq_true (by omega)
    have e2 : decv s = none := by
      cases hd : decv s with
      | none => rfl
      | some w =>
        obtain ⟨h1, h2⟩ := decv_some hd
        have := itoa_17 h1
        rw [← h2] at this
        exact absurd this hs
    simp only [letv]
    rw [e, cond_true, e2]

/-- Pieces that are read one after another until one fails. -/
theorem loopS {β : Type} (f : List UInt8 → Option β) (ps : List (List UInt8)) (B : List β × Int → Option ((List β × Int) ⊕ (List β ⊕ (List β × Bool))))
    (h1 : ∀ (k : Nat) (out : List β) p, ps[k]? = some p → out.length = k → B (out, (k : Int)) = match f p with | some x => some (.inl (out ++ [x], ((k + 1 : Nat) : Int))) | none => some (.inr (.inr ([], false))))
    (h2 : ∀ out, B (out, (ps.length : Int)) = some (.inr (.inl out))) : loopM B ([], 0) = some ((match ps.mapM f with | some xs => .inl xs | none => .inr ([], false)) : List β ⊕ (List β × Bool)) := by
  rw [loopM_list (s0 := (([], 0) : List β × Int)) ps (fun (a : List β) k => (a, (k : Int))) (fun a p => match f p with | some x => .inl (a ++ [x]) | none => .inr (.inr ([], false))) (fun a => .inl a) (fun k a => a.length = k) ?_ ?_ [] rfl rfl]
  · congr 1
    have key : ∀ (l : List (List UInt8)) (a : List β), foldE (fun (a : List β) (p : List UInt8) => ((match f p with | some x => .inl (a ++ [x]) | none => .inr (.inr ([], false))) : List β ⊕ (List β ⊕ (List β × Bool)))) (fun a => .inl a) a l = ((match l.mapM f with | some xs => .inl (a ++ xs) | none => .inr ([], false)) : List β ⊕ (List β × Bool)) := by
      intro l
      induction l with
      | nil => intro a; simp [foldE_nil]
      | cons p l ih =>
        intro a
        cases hp : f p with
        | none => rw [foldE_inr (e := .inr ([], false)) (by rw [hp]), mapM_cons_none hp]
        | some x =>
          rw [foldE_inl (a' := a ++ [x]) (by rw [hp]), ih]
          cases h : l.mapM f with
          | none => rw [mapM_cons_none2 hp h]
          | some xs => rw [mapM_cons_some hp h]; simp
    rw [key]
    cases ps.mapM f with
    | none => rfl
    | some xs => simp only [List.nil_append]
  · rintro k a p hp hk
    rw [h1 k a p hp hk]
    cases f p with
    | none => rfl
    | some x => exact ⟨rfl, by rw [List.length_append, List.length_singleton, hk]⟩
  · rintro a _
    exact h2 a
/-- The same; so many at most. -/
theorem loopQ {β : Type} (N : Nat) (f : List UInt8 → Option β) (ps : List (List UInt8)) (B : List β × Int → Option ((List β × Int) ⊕ (List β ⊕ (List β × Bool))))
    (h1 : ∀ (k : Nat) (out : List β) p, ps[k]? = some p → out.length = k → k ≤ N → B (out, (k : Int)) = match f p with | some x => if k = N then some (.inr (.inr ([], false))) else some (.inl (out ++ [x], ((k + 1 : Nat) : Int))) | none => some (.inr (.inr ([], false))))
    (h2 : ∀ out, B (out, (ps.length : Int)) = some (.inr (.inl out))) : loopM B ([], 0) = some ((match ps.mapM f with | some xs => if ps.length ≤ N then .inl xs else .inr ([], false) | none => .inr ([], false)) : List β ⊕ (List β × Bool)) := by
  rw [loopM_list (s0 := (([], 0) : List β × Int)) ps (fun (a : List β) k => (a, (k : Int))) (fun a p => match f p with | some x => if a.length = N then .inr (.inr ([], false)) else .inl (a ++ [x]) | none => .inr (.inr ([], false))) (fun a => .inl a) (fun k a => a.length = k ∧ k ≤ N) ?_ ?_ [] ⟨rfl, Nat.zero_le _⟩ rfl]
  · congr 1
    have key : ∀ (l : List (List UInt8)) (a : List β), a.length ≤ N → foldE (fun (a : List β) (p : List UInt8) => ((match f p with | some x => if a.length = N then .inr (.inr ([], false)) else .inl (a ++ [x]) | none => .inr (.inr ([], false))) : List β ⊕ (List β ⊕ (List β × Bool)))) (fun a => .inl a) a l = ((match l.mapM f with | some xs => if a.length + l.length ≤ N then .inl (a ++ xs) else .inr ([], false) | none => .inr ([], false)) : List β ⊕ (List β × Bool)) := by
      intro l
      induction l with
      | nil => intro a h; simp [foldE_nil, h]
      | cons p l ih =>
        intro a hl
        cases hp : f p with
        | none => rw [foldE_inr (e := .inr ([], false)) (by rw [hp]), mapM_cons_none hp]
        | some x =>
          by_cases hN : a.length = N
          · rw [foldE_inr (e := .inr ([], false)) (by rw [hp]; simp only [if_pos hN])]
            cases h : l.mapM f with
            | none => rw [mapM_cons_none2 hp h]
            | some xs =>
              rw [mapM_cons_some hp h]
              simp only [List.length_cons]
              rw [if_neg (by omega)]
          · rw [foldE_inl (a' := a ++ [x]) (by rw [hp]; simp only [if_neg hN]), ih _ (by rw [List.length_append, List.length_singleton]; omega)]
            cases h : l.mapM f with
            | none => rw [mapM_cons_none2 hp h]
            | some xs =>
              rw [mapM_cons_some hp h]
              simp only [List.length_append, List.length_cons, List.length_nil, Nat.zero_add, List.append_assoc, List.singleton_append]
              rw [show a.length + 1 + l.length = a.length + (l.length + 1) by omega]
    rw [key _ _ (Nat.zero_le _)]
    cases ps.mapM f with
    | none => rfl
    | some xs => simp only [List.length_nil, Nat.zero_add, List.nil_append]
  · rintro k a p hp ⟨rfl, hk⟩
    rw [h1 a.length a p hp rfl hk]
    cases f p with
    | none => rfl
    | some x =>
      by_cases hN : a.length = N
      · simp only [if_pos hN]
      · simp only [if_neg hN]
        exact ⟨trivial, by rw [List.length_append, List.length_singleton], by omega⟩
  · rintro a _
    exact h2 a
theorem none_eq {l : List UInt8} : (l == ([110, 111, 110, 101] : List UInt8)) = decide (l = [110, 111, 110, 101]) := by
  by_cases h : l = [110, 111, 110, 101]
  · rw [decide_eq_true h]; simpa using h
  · rw [decide_eq_false h]; simpa using h
/-- A list of whole numbers out of its text. -/
def rdlist (l : List UInt8) : List Int × Bool := if l = [110, 111, 110, 101] then ([], true) else match (splitB 44 l).mapM decv with
  | some xs => if (splitB 44 l).length ≤ 64 then (xs, true) else ([], false)
  | none => ([], false)
theorem ilst (l : List UInt8) (hl : l.length ≤ 1048576) : M.impl_ReadList l = some (rdlist l) := by
  have key : ∀ (ps : List (List UInt8)), ps.length ≤ 1048577 → (∀ p ∈ ps, p.length ≤ 1048576) → (loopM (fun (s8 : List Int × Int) =>
      bif (icmp .lss s8.2 ((ps).length : Int)) then
        (idx ps s8.2).bind fun m11 =>
        (M.impl_ReadDecimal m11).bind fun m13 =>
        letv (
            bif m13.2 then
              (icmp .eql ((s8.1).length : Int) 64)
            else
              true) fun m16 =>
        bif m16 then
          some (.inr (.inr ([], false)))
        else
          (app 8 s8.1 ([m13.1])).bind fun m28 =>
          some (.inl (m28, (IntKind.i64.wrap (s8.2 + 1))))
      else
        some (.inr (.inl s8.1))) ((([] : List Int), 0) : List Int × Int)) = some ((match ps.mapM decv with
        | some xs => if ps.length ≤ 64 then .inl xs else .inr ([], false)
        | none => .inr ([], false)) : List Int ⊕ (List Int × Bool)) := by
    intro ps hps hp8
    refine (loopQ 64 decv ps _ ?_ ?_).trans ?_
    · intro k out p hp hk hk64
      have hlt := (List.getElem?_eq_some_iff.1 hp).1
      dsimp only
      rw [lss_lt hlt, cond_true, idx_nat, hp, Option.bind_some, irdec p (hp8 p (List.mem_of_getElem? hp)), Option.bind_some]
      cases decv p with
      | none => rfl
      | some x =>
        simp only [letv, cond_true, icmp_eql]
        by_cases h6 : k = 64
        · have f2 : ((out.length : Int) == 64) = true := by rw [beq_iff_eq]; omega
          rw [f2, cond_true, if_pos h6]
        · have f2 : ((out.length : Int) == 64) = false := by rw [beq_eq_false_iff_ne]; omega
          rw [f2, cond_false, app_small (by simp only [List.length_singleton]; omega), Option.bind_some, succ_wrap (by omega), if_neg h6]
    · intro out
      dsimp only
      rw [lss_self, cond_false]
    · cases ps.mapM decv <;> rfl
  unfold M.impl_ReadList M.impl_parted rdlist
  rw [none_eq]
  by_cases hn : l = [110, 111, 110, 101]
  · rw [decide_eq_true hn, cond_true, if_pos hn, Option.bind_some, key [] (by simp) (by simp)]
    rfl
  · rw [decide_eq_false hn, cond_false, if_neg hn, split_eq l hl, Option.bind_some, Option.bind_some, key _ (by have := splitB_le 44 l; omega) (fun p hp => Nat.le_trans (splitB_mem hp) hl), Option.bind_some]
    cases (splitB 44 l).mapM decv with
    | none => rfl
    | some xs =>
      simp only
      split <;> rfl
theorem slst (l : List UInt8) (hl : l.length ≤ 1048576) : M.spec_l01Numbers l = some (rdlist l) := by
  unfold M.spec_l01Numbers rdlist
  rw [none_eq]
  by_cases hn : l = [110, 111, 110, 101]
  · rw [decide_eq_true hn, cond_true, if_pos hn]
  · have hc := cut_eq 44 l hl
    have e44 : ((44 : UInt8).toNat : Int) = 44 := rfl
    rw [e44] at hc
    rw [decide_eq_false hn, cond_false, if_neg hn, hc, Option.bind_some]
    generalize splitB 44 l = ps
    by_cases h64 : ps.length ≤ 64
    · have e1 : icmp .gtr (ps.length : Int) 64 = false := by rw [icmp_gtr]; exact decide_eq_false (by omega)
      rw [e1, cond_false, loopS decv ps _ ?_ ?_, Option.bind_some]
      · cases ps.mapM decv with
        | none => rfl
        | some xs => simp only [if_pos h64]
      · intro k out p hp hk
        have hlt := (List.getElem?_eq_some_iff.1 hp).1
        dsimp only
        rw [lss_lt hlt, cond_true, idx_nat, hp, Option.bind_some, sval p, Option.bind_some]
        cases decv p with
        | none => rfl
        | some x =>
          simp only [Bool.not_true, cond_false]
          rw [app_small (by simp only [List.length_singleton]; omega), Option.bind_some, succ_wrap (by omega)]
      · intro out
        dsimp only
        rw [lss_self, cond_false]
    · have e1 : icmp .gtr (ps.length : Int) 64 = true := by rw [icmp_gtr]; exact decide_eq_true (by omega)
      rw [e1, cond_true]
      cases ps.mapM decv with
      | none => rfl
      | some xs => simp only [if_neg h64]
end Go.Proofs
