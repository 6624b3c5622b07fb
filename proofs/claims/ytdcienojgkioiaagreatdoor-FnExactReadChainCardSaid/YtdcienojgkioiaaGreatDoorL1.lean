import Derived.Test.YtdcienojgkioiaaGreatDoorBMd
import Derived.Test.YtdcienojgkioiaaGreatDoorPs
/- What the program and the reference make of texts: pieces between letters, numbers in hexadecimal. No program in sight. -/
namespace Go.Proofs
open Go Go.Fl Go.RowKit Go.Rg
attribute [local irreducible] fint fcmp fop fneg widen narrow fsqrt cn

theorem cut_eq (c : UInt8) (l : List UInt8) (hl : l.length ≤ 1048576) : M.spec_l01Cut l (c.toNat : Int) = some (splitB c l) := by
  unfold M.spec_l01Cut
  have key := loopM_one (B := fun (s3 : List (List UInt8) × Int × Int) =>
      bif (icmp .leq s3.2.2 ((l).length : Int)) then
        (Option.bind (
            bif (icmp .eql s3.2.2 ((l).length : Int)) then
              some true
            else
              (sidx l s3.2.2).bind fun m7 =>
              some (icmp .eql m7 (c.toNat : Int))) fun m5 =>
        bif m5 then
          (ssub l s3.2.1 s3.2.2).bind fun m10 =>
          (app 16 s3.1 ([m10])).bind fun m15 =>
          some (.inl (m15, (IntKind.i64.wrap (s3.2.2 + 1)), (IntKind.i64.wrap (s3.2.2 + 1))))
        else
          some (.inl (s3.1, s3.2.1, (IntKind.i64.wrap (s3.2.2 + 1)))))
      else
        some (.inr s3.1))
    (fun n s => ∃ f i : Nat, s.2.1 = f ∧ s.2.2 = i ∧ n = l.length + 1 - i ∧ s.1.length ≤ i ∧ ((i = l.length + 1 ∧ s.1 = splitB c l) ∨ (i ≤ l.length ∧ f ≤ i ∧ s.1 ++ splitA c ((l.drop f).take (i - f)) (l.drop i) = splitB c l)))
    (fun e => e = splitB c l) ?_ (l.length + 1) ([], 0, 0) ⟨0, 0, rfl, rfl, rfl, Nat.le_refl _, .inr ⟨Nat.zero_le _, Nat.le_refl _, by simp [splitB]⟩⟩
  · obtain ⟨e, he, rfl⟩ := key
    rw [he]; rfl
  · rintro n ⟨out, f0, i0⟩ ⟨f, i, h1, h2, rfl, h3, h4⟩
    simp only at h1 h2 h3 h4
    subst h1 h2
    dsimp only
    rcases h4 with ⟨rfl, h4⟩ | ⟨hi, hf, h4⟩
    · have hlt : icmp .leq ((l.length + 1 : Nat) : Int) (l.length : Int) = false := by rw [icmp_leq]; exact decide_eq_false (by omega)
      rw [hlt, cond_false]
      exact .inl ⟨_, rfl, h4⟩
    · have hlt : icmp .leq (i : Int) (l.length : Int) = true := by rw [icmp_leq]; exact decide_eq_true (by omega)
      rw [hlt, cond_true]
      have hw : IntKind.i64.wrap ((i : Int) + 1) = ((i + 1 : Nat) : Int) := by rw [wrap_in (by omega)]; rfl
      have happ : ∀ p, app 16 out [p] = some (out ++ [p]) := fun p => app_small (by simp only [List.length_singleton]; omega)
      by_cases he : i = l.length
      · subst he
        have e1 : icmp .eql (l.length : Int) (l.length : Int) = true := by simp [icmp_eql]
        rw [e1, cond_true, Option.bind_some, cond_true, ssub_nat l hf (Nat.le_refl _), Option.bind_some, happ, Option.bind_some, hw]
        refine .inr ⟨_, 0, rfl, by omega, l.length + 1, l.length + 1, rfl, rfl, by omega, by simp only [List.length_append, List.length_singleton]; omega, .inl ⟨rfl, ?_⟩⟩
        rw [List.drop_length] at h4
        exact h4
      · have hlt2 : i < l.length := by omega
        have e1 : icmp .eql (i : Int) (l.length : Int) = false := by simp only [icmp_eql, beq_eq_false_iff_ne]; omega
        rw [e1, cond_false, sidx_lt hlt2, Option.bind_some, Option.bind_some]
        have hd : l.drop i = l[i] :: l.drop (i + 1) := List.drop_eq_getElem_cons hlt2
        by_cases hb : l[i] = c
        · have e2 : icmp .eql ((l[i].toNat : Int)) (c.toNat : Int) = true := by simp [icmp_eql, hb]
          rw [e2, cond_true, ssub_nat l hf hi, Option.bind_some, happ, Option.bind_some, hw]
          refine .inr ⟨_, l.length + 1 - (i + 1), rfl, by omega, i + 1, i + 1, rfl, rfl, rfl, by simp only [List.length_append, List.length_singleton]; omega, .inr ⟨hlt2, Nat.le_refl _, ?_⟩⟩
          rw [hd, splitA, if_pos hb] at h4
          simp only [Nat.sub_self, List.take_zero, List.append_assoc, List.singleton_append]
          exact h4
        · have e2 : icmp .eql ((l[i].toNat : Int)) (c.toNat : Int) = false := by
            simp only [icmp_eql, beq_eq_false_iff_ne]
            exact fun h => hb (byte_inj.1 h)
          rw [e2, cond_false, hw]
          refine .inr ⟨_, l.length + 1 - (i + 1), rfl, by omega, f, i + 1, rfl, rfl, rfl, by simp only; omega, .inr ⟨hlt2, by omega, ?_⟩⟩
          rw [hd, splitA, if_neg hb] at h4
          have e3 : (l.drop f).take (i + 1 - f) = (l.drop f).take (i - f) ++ [l[i]] := by
            have : i + 1 - f = (i - f) + 1 := by omega
            rw [this, List.take_succ_eq_append_getElem (by rw [List.length_drop]; omega)]
            simp only [List.getElem_drop]
            congr 3
            omega
          simp only [e3]
          exact h4

theorem index_eq (l : List UInt8) : M.strings_Index_s2c l = some (Lib.indexByte l 44) := by
  unfold M.strings_Index_s2c M.internal_stringslite_Index_s2c M.internal_stringslite_IndexByte
  have e : sidx ([44] : List UInt8) 0 = some 44 := by decide
  have e2 : sfind l 44 = Lib.indexByte l 44 := rfl
  rw [e]
  simp only [letv, Option.bind_some, e2]
  by_cases h : ([44] : List UInt8) = l
  · subst h; rfl
  · have : (([44] : List UInt8) == l) = false := by simpa using h
    rw [this]; rfl

theorem take_set (a : List (List UInt8)) (i : Nat) (x : List UInt8) (h : i < a.length) : (a.set i x).take (i + 1) = a.take i ++ [x] := by
  rw [List.take_succ_eq_append_getElem (by rw [List.length_set]; exact h), List.take_set_of_le (Nat.le_refl _)]
  simp

theorem split_eq (l : List UInt8) (hl : l.length ≤ 1048576) : M.strings_Split_s2c l = some (splitB 44 l) := by
  unfold M.strings_Split_s2c M.strings_genSplit_s2c_i64n0_i64m1 M.strings_Count_s2c
  have e : sidx ([44] : List UInt8) 0 = some 44 := by decide
  have e2 : scount l 44 = ((l.count 44 : Nat) : Int) := rfl
  have hc : l.count 44 ≤ l.length := List.count_le_length
  generalize hcc : l.count 44 = cnt at *
  rw [e]
  simp only [Option.bind_some, e2]
  have w1 : IntKind.i64.wrap ((cnt : Int) + 1) = ((cnt + 1 : Nat) : Int) := by rw [wrap_in (by omega)]; rfl
  have w2 : IntKind.i64.wrap ((l.length : Int) + 1) = ((l.length + 1 : Nat) : Int) := by rw [wrap_in (by omega)]; rfl
  have w3 : imin ((cnt + 1 : Nat) : Int) ((l.length + 1 : Nat) : Int) = ((cnt + 1 : Nat) : Int) := by unfold imin; rw [if_neg (by omega)]
  have w4 : IntKind.i64.wrap (((cnt + 1 : Nat) : Int) - 1) = (cnt : Int) := by rw [wrap_in (by omega)]; omega
  rw [w1, w2, w3, w4, mkl_ok (by omega), Option.bind_some]
  have key := loopM_one (B := fun (s7 : List UInt8 × Int × List (List UInt8)) =>
      bif (icmp .lss s7.2.1 (cnt : Int)) then
        (M.strings_Index_s2c s7.1).bind fun m9 =>
        bif (icmp .lss m9 0) then
          some (.inr (s7.1, s7.2.1, s7.2.2))
        else
          (ssub s7.1 0 (IntKind.i64.wrap (m9 + 0))).bind fun m14 =>
          (idx s7.2.2 s7.2.1).bind fun m15 =>
          (ssub s7.1 (IntKind.i64.wrap (m9 + 1)) ((s7.1).length : Int)).bind fun m21 =>
          some (.inl (m21, (IntKind.i64.wrap (s7.2.1 + 1)), (s7.2.2.set s7.2.1.toNat m14)))
      else
        some (.inr (s7.1, s7.2.1, s7.2.2)))
    (fun n s => ∃ i : Nat, s.2.1 = i ∧ n = cnt - i ∧ i + s.1.count 44 = cnt ∧ s.1.length ≤ 1048576 ∧ s.2.2.length = cnt + 1 ∧ s.2.2.take i ++ splitB 44 s.1 = splitB 44 l)
    (fun r => r.2.1 = (cnt : Int) ∧ r.2.2.length = cnt + 1 ∧ r.2.2.take cnt ++ [r.1] = splitB 44 l) ?_ cnt (l, 0, List.replicate (cnt + 1) []) ⟨0, rfl, rfl, by simp [hcc], hl, by simp, by simp⟩
  · obtain ⟨r, hr, h1, h2, h3⟩ := key
    rw [hr, Option.bind_some, h1]
    rw [idx_nat, List.getElem?_eq_getElem (by omega), Option.bind_some]
    have w5 : IntKind.i64.wrap ((cnt : Int) + 1) = ((cnt + 1 : Nat) : Int) := by rw [wrap_in (by omega)]; rfl
    have z : (0 : Int) = ((0 : Nat) : Int) := rfl
    rw [w5, z, ssub_nat _ (by omega) (by rw [List.length_set]; omega)]
    simp only [Option.bind_some, Int.toNat_natCast, List.drop_zero, Nat.sub_zero]
    rw [take_set _ _ _ (by omega), h3]
  · rintro n ⟨s, i0, a⟩ ⟨i, h1, rfl, h2, h3, h4, h5⟩
    simp only at h1 h2 h3 h4 h5
    subst h1
    dsimp only
    by_cases hlt : i < cnt
    · have e1 : icmp .lss (i : Int) (cnt : Int) = true := by rw [icmp_lss]; exact decide_eq_true (by omega)
      have hge := Lib.indexByte_ge s 44
      have hne : Lib.indexByte s 44 ≠ -1 := fun h => by have := count_miss h; omega
      obtain ⟨m, hm⟩ : ∃ m : Nat, Lib.indexByte s 44 = m := ⟨(Lib.indexByte s 44).toNat, by omega⟩
      obtain ⟨c1, c2⟩ := count_hit hm
      have e2 : icmp .lss (m : Int) 0 = false := by rw [icmp_lss]; exact decide_eq_false (by omega)
      have w6 : IntKind.i64.wrap ((m : Int) + 0) = (m : Int) := by rw [wrap_in (by omega)]; omega
      have w7 : IntKind.i64.wrap ((m : Int) + 1) = ((m + 1 : Nat) : Int) := by rw [wrap_in (by omega)]; rfl
      have w8 : IntKind.i64.wrap ((i : Int) + 1) = ((i + 1 : Nat) : Int) := by rw [wrap_in (by omega)]; rfl
      have z : (0 : Int) = ((0 : Nat) : Int) := rfl
      rw [e1, cond_true, index_eq, Option.bind_some, hm, e2, cond_false, w6, z, ssub_nat s (Nat.zero_le _) (by omega), Option.bind_some, idx_nat, List.getElem?_eq_getElem (by omega), Option.bind_some, w7, ssub_nat s (by omega) (Nat.le_refl _), Option.bind_some, w8]
      refine .inr ⟨_, cnt - (i + 1), rfl, by omega, i + 1, rfl, rfl, ?_, ?_, ?_, ?_⟩
      · simp only
        rw [List.take_of_length_le (by rw [List.length_drop]; exact Nat.le_refl _)]
        omega
      · simp only [List.length_take, List.length_drop]; omega
      · simp only [List.length_set]; exact h4
      · simp only [Int.toNat_natCast, List.drop_zero, Nat.sub_zero]
        rw [take_set _ _ _ (by omega), List.take_of_length_le (l := s.drop (m + 1)) (by rw [List.length_drop]; exact Nat.le_refl _)]
        rw [splitB_hit hm] at h5
        rw [List.append_assoc]
        exact h5
    · have hi : i = cnt := by omega
      subst hi
      have e1 : icmp .lss (i : Int) (i : Int) = false := by rw [icmp_lss]; exact decide_eq_false (by omega)
      rw [e1, cond_false]
      refine .inl ⟨_, rfl, rfl, h4, ?_⟩
      have hmiss : Lib.indexByte s 44 = -1 := by
        have hge := Lib.indexByte_ge s 44
        by_cases hh : Lib.indexByte s 44 = -1
        · exact hh
        · obtain ⟨m, hm⟩ : ∃ m : Nat, Lib.indexByte s 44 = m := ⟨(Lib.indexByte s 44).toNat, by omega⟩
          have := (count_hit hm).1
          omega
      rw [splitB_miss hmiss] at h5
      exact h5

end Go.Proofs
