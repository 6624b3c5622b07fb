import Derived.Test.YtdcienojgkioiaaGreatDoorL3
import Derived.Test.YtdcienojgkioiaaGreatDoorFb
import Derived.Lib.ParseIntBCases
/- What the laws of the other seat showed, at this seat's models. No program in sight. -/
namespace Go.Proofs
open Go Go.Fl Go.RowKit Go.Rg
attribute [local irreducible] fint fcmp fop fneg widen narrow fsqrt cn
section
variable {α : Type}
theorem sfin (x : Nat) : M.spec_l01Finite x = fin x := rfl
theorem ifin (x : Nat) : M.impl_IsFinite x = fin x := rfl
def finQ (xs : List Nat) : Unit ⊕ Int → Prop
  | .inl _ => xs.all fin = true
  | .inr i => 0 ≤ i ∧ xs.all fin = false
/-- The first of a list that is not a number, or none. -/
theorem fin_scan (xs : List Nat) (hl : xs.length < 4611686018427387904) : M.impl_finite xs = some (xs.all fin) := by
  unfold M.impl_finite M.slices_ContainsFunc___float32_float32__f100 M.slices_IndexFunc___float32_float32__f100
  have key : ∃ e : Unit ⊕ Int, loopM (fun (s1 : Int) =>
      bif (icmp .lss s1 ((xs).length : Int)) then
        (idx xs s1).bind fun m3 =>
        letv (M.impl_finite_1 m3) fun m6 =>
        bif m6 then
          some (.inr (.inr s1))
        else
          some (.inl (IntKind.i64.wrap (s1 + 1)))
      else
        some (.inr (.inl ()))) (0 : Int) = some e ∧ finQ xs e := by
    refine loopM_one (fun n (s : Int) => ∃ k : Nat, s = k ∧ k ≤ xs.length ∧ n = xs.length - k ∧ (xs.take k).all fin = true) (finQ xs) ?_ xs.length 0 ⟨0, rfl, Nat.zero_le _, rfl, rfl⟩
    rintro n s ⟨k, rfl, hk, rfl, ht⟩
    by_cases h : k < xs.length
    · have hx : xs[k]? = some xs[k] := List.getElem?_eq_getElem h
      have hlt : icmp .lss (k : Int) (xs.length : Int) = true := by rw [icmp_lss]; exact decide_eq_true (by omega)
      simp only [hlt, cond_true, idx_nat, hx, Option.bind_some, letv, M.impl_finite_1, ifin]
      cases hf : fin xs[k] with
      | false =>
        refine .inl ⟨_, rfl, by omega, ?_⟩
        rw [List.all_eq_false]
        exact ⟨xs[k], List.getElem_mem h, by simp [hf]⟩
      | true =>
        refine .inr ⟨_, xs.length - (k + 1), rfl, by omega, k + 1, ?_, h, rfl, ?_⟩
        · rw [wrap_in (by omega)]; rfl
        · rw [List.take_succ_eq_append_getElem h, List.all_append, ht]; simp [hf]
    · have hlt : icmp .lss (k : Int) (xs.length : Int) = false := by rw [icmp_lss]; exact decide_eq_false (by omega)
      simp only [hlt, cond_false]
      refine .inl ⟨_, rfl, ?_⟩
      rw [List.take_of_length_le (by omega)] at ht
      exact ht
  obtain ⟨e, he, hq⟩ := key
  rw [he]
  simp only [Option.bind_some]
  cases e with
  | inl u => simp only [finQ] at hq; simp only [Option.bind_some, sel]; rw [hq]; rfl
  | inr i => simp only [finQ] at hq; simp only [Option.bind_some, sel]; rw [hq.2]; simp [icmp_geq, hq.1]
theorem same_self (x : Nat) : M.laws_sameFloat x x = true := by
  unfold M.laws_sameFloat
  simp only [letv, ne_self']
  cases h : isNaN .f64 x
  · simp only [cond_false, eq_self' h]
    cases fcmp .eql .f64 x 0 <;> simp
  · rfl
/-- So many numbers with a text; else zeros. -/
def exn (l : List UInt8) (k : Nat) : List Nat × Bool := if (rdnums l).2 = true ∧ (rdnums l).1.length = k then ((rdnums l).1, true) else (List.replicate k 0, false)
theorem iexactly (l : List UInt8) (k : Nat) (hk : k ≤ 100) (hl : l.length ≤ 1048576) : M.impl_exactly l (k : Int) = some (exn l k) := by
  unfold M.impl_exactly exn
  rw [inums l hl, Option.bind_some]
  by_cases h : (rdnums l).2 = true
  · by_cases h2 : (rdnums l).1.length = k
    · have e : icmp .neq ((rdnums l).1.length : Int) (k : Int) = false := by simp [icmp_neq, h2]
      rw [if_pos ⟨h, h2⟩]
      simp only [letv, h, cond_true, e, cond_false]
    · have e : icmp .neq ((rdnums l).1.length : Int) (k : Int) = true := by simp only [icmp_neq, bne_iff_ne, ne_eq]; omega
      rw [if_neg (fun x => h2 x.2)]
      simp only [letv, h, cond_true, e]
      rw [mkl_ok (by omega)]; rfl
  · have h' : (rdnums l).2 = false := by simpa using h
    rw [if_neg (fun x => h x.1)]
    simp only [letv, h', cond_false, cond_true]
    rw [mkl_ok (by omega)]; rfl
theorem len3 {l : List Nat} (h : l.length = 3) : ∃ a b c, l = [a, b, c] := by
  match l, h with
  | [a, b, c], _ => exact ⟨a, b, c, rfl⟩
theorem index_eq59 (l : List UInt8) : M.strings_Index_s3b l = some (Lib.indexByte l 59) := by
  unfold M.strings_Index_s3b M.internal_stringslite_Index_s3b M.internal_stringslite_IndexByte
  have e : sidx ([59] : List UInt8) 0 = some 59 := by decide
  have e2 : sfind l 59 = Lib.indexByte l 59 := rfl
  rw [e]
  simp only [letv, Option.bind_some, e2]
  by_cases h : ([59] : List UInt8) = l
  · subst h; rfl
  · have : (([59] : List UInt8) == l) = false := by simpa using h
    rw [this]; rfl
theorem split_eq59 (l : List UInt8) (hl : l.length ≤ 1048576) : M.strings_Split_s3b l = some (splitB 59 l) := by
  unfold M.strings_Split_s3b M.strings_genSplit_s3b_i64n0_i64m1 M.strings_Count_s3b
  have e : sidx ([59] : List UInt8) 0 = some 59 := by decide
  have e2 : scount l 59 = ((l.count 59 : Nat) : Int) := rfl
  have hc : l.count 59 ≤ l.length := List.count_le_length
  generalize hcc : l.count 59 = cnt at *
  rw [e]
  simp only [Option.bind_some, e2]
  have w1 : IntKind.i64.wrap ((cnt : Int) + 1) = ((cnt + 1 : Nat) : Int) := by rw [wrap_in (by omega)]; rfl
  have w2 : IntKind.i64.wrap ((l.length : Int) + 1) = ((l.length + 1 : Nat) : Int) := by rw [wrap_in (by omega)]; rfl
  have w3 : imin ((cnt + 1 : Nat) : Int) ((l.length + 1 : Nat) : Int) = ((cnt + 1 : Nat) : Int) := by unfold imin; rw [if_neg (by omega)]
  have w4 : IntKind.i64.wrap (((cnt + 1 : Nat) : Int) - 1) = (cnt : Int) := by rw [wrap_in (by omega)]; omega
  rw [w1, w2, w3, w4, mkl_ok (by omega), Option.bind_some]
  have key := loopM_one (B := fun (s7 : List UInt8 × Int × List (List UInt8)) =>
      bif (icmp .lss s7.2.1 (cnt : Int)) then
        (M.strings_Index_s3b s7.1).bind fun m9 =>
        bif (icmp .lss m9 0) then
          some (.inr (s7.1, s7.2.1, s7.2.2))
        else
          (ssub s7.1 0 (IntKind.i64.wrap (m9 + 0))).bind fun m14 =>
          (idx s7.2.2 s7.2.1).bind fun m15 =>
          (ssub s7.1 (IntKind.i64.wrap (m9 + 1)) ((s7.1).length : Int)).bind fun m21 =>
          some (.inl (m21, (IntKind.i64.wrap (s7.2.1 + 1)), (s7.2.2.set s7.2.1.toNat m14)))
      else
        some (.inr (s7.1, s7.2.1, s7.2.2)))
    (fun n s => ∃ i : Nat, s.2.1 = i ∧ n = cnt - i ∧ i + s.1.count 59 = cnt ∧ s.1.length ≤ 1048576 ∧ s.2.2.length = cnt + 1 ∧ s.2.2.take i ++ splitB 59 s.1 = splitB 59 l)
    (fun r => r.2.1 = (cnt : Int) ∧ r.2.2.length = cnt + 1 ∧ r.2.2.take cnt ++ [r.1] = splitB 59 l) ?_ cnt (l, 0, List.replicate (cnt + 1) []) ⟨0, rfl, rfl, by simp [hcc], hl, by simp, by simp⟩
  · obtain ⟨r, hr, h1, h2, h3⟩ := key
    rw [hr, Option.bind_some, h1]
    rw [idx_nat, List.getElem?_eq_getElem (by omega), Option.bind_some]
    have w5 : IntKind.i64.wrap ((cnt : Int) + 1) = ((cnt + 1 : Nat) : Int) := by rw [wrap_in (by omega)]; rfl
    have z : (0 : Int) = ((0 : Nat) : Int) := rfl
    rw [w5, z, ssub_nat _ (by omega) (by rw [List.length_set]; omega)]
    simp only [Option.bind_some, Int.toNat_natCast, List.drop_zero, Nat.sub_zero]
    rw [take_set _ _ _ (by omega), h3]
  · rintro n ⟨s, i0, a⟩ ⟨i, h1, rfl, h2, h3, h4, h5⟩
    simp only at h1 h2 h3 h4 h5
    subst h1
    dsimp only
    by_cases hlt : i < cnt
    · have e1 : icmp .lss (i : Int) (cnt : Int) = true := by rw [icmp_lss]; exact decide_eq_true (by omega)
      have hge := Lib.indexByte_ge s 59
      have hne : Lib.indexByte s 59 ≠ -1 := fun h => by have := count_miss h; omega
      obtain ⟨m, hm⟩ : ∃ m : Nat, Lib.indexByte s 59 = m := ⟨(Lib.indexByte s 59).toNat, by omega⟩
      obtain ⟨c1, c2⟩ := count_hit hm
      have e2 : icmp .lss (m : Int) 0 = false := by rw [icmp_lss]; exact decide_eq_false (by omega)
      have w6 : IntKind.i64.wrap ((m : Int) + 0) = (m : Int) := by rw [wrap_in (by omega)]; omega
      have w7 : IntKind.i64.wrap ((m : Int) + 1) = ((m + 1 : Nat) : Int) := by rw [wrap_in (by omega)]; rfl
      have w8 : IntKind.i64.wrap ((i : Int) + 1) = ((i + 1 : Nat) : Int) := by rw [wrap_in (by omega)]; rfl
      have z : (0 : Int) = ((0 : Nat) : Int) := rfl
      rw [e1, cond_true, index_eq59, Option.bind_some, hm, e2, cond_false, w6, z, ssub_nat s (Nat.zero_le _) (by omega), Option.bind_some, idx_nat, List.getElem?_eq_getElem (by omega), Option.bind_some, w7, ssub_nat s (by omega) (Nat.le_refl _), Option.bind_some, w8]
      refine .inr ⟨_, cnt - (i + 1), rfl, by omega, i + 1, rfl, rfl, ?_, ?_, ?_, ?_⟩
      · simp only
        rw [List.take_of_length_le (by rw [List.length_drop]; exact Nat.le_refl _)]
        omega
      · simp only [List.length_take, List.length_drop]; omega
      · simp only [List.length_set]; exact h4
      · simp only [Int.toNat_natCast, List.drop_zero, Nat.sub_zero]
        rw [take_set _ _ _ (by omega), List.take_of_length_le (l := s.drop (m + 1)) (by rw [List.length_drop]; exact Nat.le_refl _)]
        rw [splitB_hit hm] at h5
        rw [List.append_assoc]
        exact h5
    · have hi : i = cnt := by omega
      subst hi
      have e1 : icmp .lss (i : Int) (i : Int) = false := by rw [icmp_lss]; exact decide_eq_false (by omega)
      rw [e1, cond_false]
      refine .inl ⟨_, rfl, rfl, h4, ?_⟩
      have hmiss : Lib.indexByte s 59 = -1 := by
        have hge := Lib.indexByte_ge s 59
        by_cases hh : Lib.indexByte s 59 = -1
        · exact hh
        · obtain ⟨m, hm⟩ : ∃ m : Nat, Lib.indexByte s 59 = m := ⟨(Lib.indexByte s 59).toNat, by omega⟩
          have := (count_hit hm).1
          omega
      rw [splitB_miss hmiss] at h5
      exact h5
theorem eta_v (v : SVector) : (⟨v.x, v.y, v.z⟩ : SVector) = v := rfl
theorem ifinV (v : SVector) : M.impl_finiteVector v = some (M.spec_l01VFinite v) := by
  unfold M.impl_finiteVector M.spec_l01VFinite
  rw [fin_scan _ (by simp)]
  simp only [letv, sfin, Option.bind_some, List.all_cons, List.all_nil, Bool.and_true]
  cases fin v.x <;> cases fin v.y <;> rfl
/-- Three numbers with a text; else none. -/
def vread (l : List UInt8) : SVector × Bool := if (rdnums l).2 = true ∧ (rdnums l).1.length = 3 then (⟨(rdnums l).1.getD 0 0, (rdnums l).1.getD 1 0, (rdnums l).1.getD 2 0⟩, true) else (⟨0, 0, 0⟩, false)
theorem vec_of (r : List Nat × Bool) : (letv (bif r.2 then icmp .neq (r.1.length : Int) 3 else true) fun m9 =>
    bif m9 then some ((⟨0, 0, 0⟩ : SVector), false) else (idx r.1 0).bind fun m21 => (idx r.1 1).bind fun m22 => (idx r.1 2).bind fun m23 => some ((⟨m21, m22, m23⟩ : SVector), true))
    = some (if r.2 = true ∧ r.1.length = 3 then (⟨r.1.getD 0 0, r.1.getD 1 0, r.1.getD 2 0⟩, true) else (⟨0, 0, 0⟩, false)) := by
  have i0 : ∀ xs : List Nat, idx xs 0 = xs[0]? := fun xs => idx_nat xs 0
  have i1 : ∀ xs : List Nat, idx xs 1 = xs[1]? := fun xs => idx_nat xs 1
  have i2 : ∀ xs : List Nat, idx xs 2 = xs[2]? := fun xs => idx_nat xs 2
  simp only [letv, i0, i1, i2]
  by_cases h : r.2 = true ∧ r.1.length = 3
  · rw [if_pos h]
    obtain ⟨h1, h2⟩ := h
    obtain ⟨a, b, c, habc⟩ := len3 h2
    simp only [h1, habc, cond_true, List.length_cons, List.length_nil, List.getElem?_cons_zero, List.getElem?_cons_succ, Option.bind_some, List.getD_cons_zero, List.getD_cons_succ]
    rfl
  · rw [if_neg h]
    have e : (bif r.2 then icmp .neq (r.1.length : Int) 3 else true) = true := by
      cases hr : r.2 with
      | false => rfl
      | true =>
        rw [cond_true]
        simp only [icmp_neq, bne_iff_ne, ne_eq]
        intro h3
        exact h ⟨hr, by omega⟩
    rw [e, cond_true]
theorem svec (l : List UInt8) (hl : l.length ≤ 1048576) : M.spec_l01VRead l = some (vread l) := by
  unfold M.spec_l01VRead vread
  rw [snums l hl, Option.bind_some]
  exact vec_of _
theorem ivec (l : List UInt8) (hl : l.length ≤ 1048576) : M.impl_ReadVector l = some (vread l) := by
  unfold M.impl_ReadVector vread
  rw [inums l hl, Option.bind_some]
  exact vec_of _
theorem len4 {l : List Nat} (h : l.length = 4) : ∃ a b c d, l = [a, b, c, d] := by
  match l, h with
  | [a, b, c, d], _ => exact ⟨a, b, c, d, rfl⟩
theorem eqV_self (v : SVector) : M.laws_eqVector v v = true := by
  unfold M.laws_eqVector; simp only [letv, same_self]; rfl
/-- Digits as numbers. -/
def digI (u : Nat) : List Int := (Lib.decDigits u).map fun b => (b.toNat : Int)
theorem u8s_nat (l : List UInt8) : u8s (l.map fun b => (b.toNat : Int)) = l := by
  unfold u8s
  rw [List.map_map]
  induction l with
  | nil => rfl
  | cons b l ih => rw [List.map_cons, ih]; simp
theorem dig_small {u : Nat} (h : u < 10) : digI u = [(48 + u : Int)] := by
  unfold digI
  rw [Lib.decDigits_one h]
  simp only [List.map_cons, List.map_nil]
  congr 1
  rw [UInt8.toNat_ofNat_of_lt' (by simp [UInt8.size]; omega)]
  omega
theorem dig_big {u : Nat} (h : ¬ u < 10) : digI u = digI (u / 10) ++ [(48 + u % 10 : Int)] := by
  unfold digI
  rw [Lib.decDigits, dif_neg h, List.map_append]
  simp only [List.map_cons, List.map_nil]
  congr 2
  rw [UInt8.toNat_ofNat_of_lt' (by simp [UInt8.size]; omega)]
  omega
theorem dig_len {u : Nat} (h : u ≤ 9223372036854775808) : (digI u).length ≤ 20 := by
  unfold digI
  rw [List.length_map]
  have h1 := Lib.decDigits_length u
  have h2 : Lib.nDigits u ≤ 20 := by
    by_cases hk : u < 10 ^ 19
    · by_cases h0 : u = 0
      · subst h0; rw [Lib.nDigits_small (by omega)]; omega
      · have : ∀ k u, 1 ≤ k → u < 10 ^ k → Lib.nDigits u ≤ k := by
          intro k
          induction k with
          | zero => intro u hk; omega
          | succ k ih =>
            intro u _ hu
            by_cases h10 : u < 10
            · rw [Lib.nDigits_small h10]; omega
            · rw [Lib.nDigits_big h10]
              have : u / 10 < 10 ^ k := by
                rw [Nat.pow_succ] at hu
                exact Nat.div_lt_of_lt_mul (by rw [Nat.mul_comm]; exact hu)
              have hk1 : 1 ≤ k := by
                rcases Nat.eq_zero_or_pos k with rfl | h; · simp at this; omega
                exact h
              have := ih _ hk1 this
              omega
        have := this 19 u (by omega) hk
        omega
    · have : (10 : Nat) ^ 19 = 10000000000000000000 := by decide
      omega
  omega
/-- The sign's number: 1, or minus 1. -/
theorem sdec (n : Int) (h0 : -9223372036854775808 ≤ n) (h1 : n ≤ 9223372036854775807) : M.spec_l01Dec n = some (Lib.itoa n) := by
  unfold M.spec_l01Dec
  have key : ∀ (u : Nat) (out : List Int) (rest : Int), rest.natAbs = u → u ≤ 9223372036854775808 → out.length ≤ 40 - (digI u).length → (out = [] ∨ u ≠ 0) → (rest < 0 ↔ n < 0 ∧ u ≠ 0) →
      loopM (fun (s3 : List Int × Int) =>
      letv (
          bif (icmp .eql ((s3.1).length : Int) 0) then
            true
          else
            (icmp .neq s3.2 0)) fun m4 =>
      bif m4 then
        bif (icmp .lss ((s3.2).tmod 10) 0) then
          (app 1 ([(IntKind.u8.wrap (IntKind.i64.wrap (48 + (IntKind.i64.wrap (0 - ((s3.2).tmod 10))))))]) s3.1).bind fun m13 =>
          some (.inl (m13, (IntKind.i64.wrap ((s3.2).tdiv 10))))
        else
          (app 1 ([(IntKind.u8.wrap (IntKind.i64.wrap (48 + ((s3.2).tmod 10))))]) s3.1).bind fun m22 =>
          some (.inl (m22, (IntKind.i64.wrap ((s3.2).tdiv 10))))
      else
        some (.inr s3.1)) ((out, rest) : List Int × Int) = some (digI u ++ out) := by
    intro u
    induction u using Nat.strongRecOn with
    | ind u ih =>
    intro out rest hr hu hlen hgo hsg
    have hd1 : 1 ≤ (digI u).length := by
      unfold digI; rw [List.length_map, Lib.decDigits_length]; exact Lib.nDigits_pos u
    have hd2 := dig_len hu
    have go : (bif icmp .eql ((out.length : Nat) : Int) 0 then true else icmp .neq rest 0) = true := by
      rcases hgo with rfl | hne
      · rfl
      · have : icmp .neq rest 0 = true := by simp only [icmp_neq, bne_iff_ne, ne_eq]; omega
        rw [this]; cases icmp .eql ((out.length : Nat) : Int) 0 <;> rfl
    -- the digit
    have hdig : ∃ (d : Int), d = 48 + ((u % 10 : Nat) : Int) ∧ (bif (icmp .lss (rest.tmod 10) 0) then
          (app 1 ([(IntKind.u8.wrap (IntKind.i64.wrap (48 + (IntKind.i64.wrap (0 - (rest.tmod 10))))))]) out).bind fun m13 =>
          some ((.inl (m13, (IntKind.i64.wrap (rest.tdiv 10)))) : (List Int × Int) ⊕ List Int)
        else
          (app 1 ([(IntKind.u8.wrap (IntKind.i64.wrap (48 + (rest.tmod 10))))]) out).bind fun m22 =>
          some (.inl (m22, (IntKind.i64.wrap (rest.tdiv 10))))) = some (.inl (d :: out, rest.tdiv 10)) := by
      refine ⟨_, rfl, ?_⟩
      have happ : ∀ d : Int, app 1 [d] out = some (d :: out) := fun d => by rw [app_small (by simp only [List.length_singleton]; omega)]; rfl
      have wu : ∀ k : Nat, k < 10 → IntKind.u8.wrap (48 + (k : Int)) = 48 + (k : Int) := by
        intro k hk
        have : ∀ k : Fin 10, IntKind.u8.wrap (48 + (k.val : Int)) = 48 + (k.val : Int) := by decide
        exact this ⟨k, hk⟩
      rcases Int.lt_or_le rest 0 with hneg | hpos
      · have er : rest = -(u : Int) := by omega
        have et : rest.tmod 10 = -((u % 10 : Nat) : Int) := by rw [er, Int.neg_tmod]; rfl
        have ed : rest.tdiv 10 = -((u / 10 : Nat) : Int) := by rw [er, Int.neg_tdiv]; rfl
        rw [et, ed]
        have wd : IntKind.i64.wrap (-((u / 10 : Nat) : Int)) = -((u / 10 : Nat) : Int) := wrap_in (by omega)
        rw [wd]
        by_cases hz : u % 10 = 0
        · have e1 : icmp .lss (-((u % 10 : Nat) : Int)) 0 = false := by rw [icmp_lss]; exact decide_eq_false (by omega)
          rw [e1, cond_false, hz]
          have : IntKind.u8.wrap (IntKind.i64.wrap (48 + -((0 : Nat) : Int))) = 48 + ((0 : Nat) : Int) := by decide
          rw [this, happ, Option.bind_some]
        · have e1 : icmp .lss (-((u % 10 : Nat) : Int)) 0 = true := by rw [icmp_lss]; exact decide_eq_true (by omega)
          rw [e1, cond_true, wrap_in (n := 0 - -((u % 10 : Nat) : Int)) (by omega)]
          have e2 : 48 + (0 - -((u % 10 : Nat) : Int)) = 48 + ((u % 10 : Nat) : Int) := by omega
          rw [e2, wrap_in (by omega), wu _ (Nat.mod_lt _ (by omega)), happ, Option.bind_some]
      · have er : rest = (u : Int) := by omega
        have et : rest.tmod 10 = ((u % 10 : Nat) : Int) := by rw [er]; rfl
        have ed : rest.tdiv 10 = ((u / 10 : Nat) : Int) := by rw [er]; rfl
        have e1 : icmp .lss (((u % 10 : Nat) : Int)) 0 = false := by rw [icmp_lss]; exact decide_eq_false (by omega)
        rw [et, ed, e1, cond_false, wrap_in (n := ((u / 10 : Nat) : Int)) (by omega), wrap_in (by omega), wu _ (Nat.mod_lt _ (by omega)), happ, Option.bind_some]
    obtain ⟨d, hd, hstep⟩ := hdig
    rw [loopM_next (s' := (d :: out, rest.tdiv 10))]
    · by_cases h10 : u < 10
      · have hz : rest.tdiv 10 = 0 := by
          rcases Int.lt_or_le rest 0 with hneg | hpos
          · have er : rest = -(u : Int) := by omega
            rw [er, Int.neg_tdiv]; show -(((u / 10 : Nat) : Int)) = 0; omega
          · have er : rest = (u : Int) := by omega
            rw [er]; show (((u / 10 : Nat) : Int)) = 0; omega
        rw [hz]
        rw [loopM_end (e := d :: out)]
        · rw [dig_small h10, hd, Nat.mod_eq_of_lt h10]; rfl
        · have e3 : icmp .eql (((d :: out).length : Nat) : Int) 0 = false := by simp only [icmp_eql, List.length_cons, beq_eq_false_iff_ne]; omega
          dsimp only
          rw [e3]; rfl
      · have hab : (rest.tdiv 10).natAbs = u / 10 := by
          rcases Int.lt_or_le rest 0 with hneg | hpos
          · have er : rest = -(u : Int) := by omega
            rw [er, Int.neg_tdiv]; show (-(((u / 10 : Nat) : Int))).natAbs = _; omega
          · have er : rest = (u : Int) := by omega
            rw [er]; show ((((u / 10 : Nat) : Int))).natAbs = _; omega
        have hsg' : rest.tdiv 10 < 0 ↔ n < 0 ∧ u / 10 ≠ 0 := by
          rcases Int.lt_or_le rest 0 with hneg | hpos
          · have er : rest = -(u : Int) := by omega
            have e4 : rest.tdiv 10 = -((u / 10 : Nat) : Int) := by rw [er, Int.neg_tdiv]; rfl
            have := hsg.1 hneg
            rw [e4]; omega
          · have er : rest = (u : Int) := by omega
            have e4 : rest.tdiv 10 = ((u / 10 : Nat) : Int) := by rw [er]; rfl
            rw [e4]
            have h5 : ¬ (n < 0 ∧ u ≠ 0) := fun h => by have := hsg.2 h; omega
            omega
        have hdl := congrArg List.length (dig_big h10)
        rw [List.length_append, List.length_singleton] at hdl
        rw [ih (u / 10) (by omega) (d :: out) _ hab (by omega) (by rw [List.length_cons]; omega) (.inr (by omega)) hsg']
        rw [dig_big h10, hd]
        simp
    · dsimp only
      simp only [letv]
      rw [go, cond_true]
      exact hstep
  have hu : n.natAbs ≤ 9223372036854775808 := by omega
  have hl0 := dig_len hu
  rw [key n.natAbs [] n rfl hu (by simp) (.inl rfl) (by omega), Option.bind_some, List.append_nil]
  by_cases hneg : n < 0
  · have e1 : icmp .lss n 0 = true := by rw [icmp_lss]; exact decide_eq_true hneg
    rw [e1, cond_true, app_small (by simp only [List.length_singleton]; omega), Option.bind_some]
    unfold Lib.itoa
    rw [if_pos hneg]
    have := u8s_nat (45 :: Lib.decDigits n.natAbs)
    rw [List.map_cons] at this
    exact congrArg some this
  · have e1 : icmp .lss n 0 = false := by rw [icmp_lss]; exact decide_eq_false hneg
    rw [e1, cond_false]
    unfold Lib.itoa
    rw [if_neg hneg]
    have : n.natAbs = n.toNat := by omega
    rw [this]
    exact congrArg some (u8s_nat _)
theorem idec (n : Int) (h0 : -9223372036854775808 ≤ n) (h1 : n ≤ 9223372036854775807) : M.impl_Decimal n = some (Lib.itoa n) := by
  unfold M.impl_Decimal fmt10
  rw [if_pos ⟨h0, h1⟩]; rfl
theorem lss_lt {k n : Nat} (h : k < n) : icmp .lss (k : Int) (n : Int) = true := by rw [icmp_lss]; exact decide_eq_true (by omega)
theorem lss_self (n : Nat) : icmp .lss (n : Int) (n : Int) = false := by rw [icmp_lss]; exact decide_eq_false (by omega)
theorem succ_wrap {k : Nat} (h : k ≤ 9223372036854775806) : IntKind.i64.wrap ((k : Int) + 1) = ((k + 1 : Nat) : Int) := by rw [wrap_in (by omega)]; rfl
/-- A row that is compared with itself. -/
theorem eqLoop (xs : List α) (B : Int → Option (Int ⊕ (Unit ⊕ Bool))) (h1 : ∀ (k : Nat) x, xs[k]? = some x → B (k : Int) = some (.inl ((k + 1 : Nat) : Int))) (h2 : B (xs.length : Int) = some (.inr (.inl ()))) : loopM B (0 : Int) = some (.inl ()) := by
  rw [loopM_run' (e := (.inl () : Unit ⊕ Bool)) (s0 := (0 : Int)) xs.length (fun k => (k : Int)) rfl ?_ h2]
  intro k hk
  exact h1 k xs[k] (List.getElem?_eq_getElem hk)
/-- The first of a row that is such. -/
theorem anyLoop (xs : List α) (p : α → Bool) (B : Int → Option (Int ⊕ (Unit ⊕ Int))) (h1 : ∀ (k : Nat) x, xs[k]? = some x → B (k : Int) = if p x then some (.inr (.inr (k : Int))) else some (.inl ((k + 1 : Nat) : Int))) (h2 : B (xs.length : Int) = some (.inr (.inl ()))) :
    ∃ e, loopM B (0 : Int) = some e ∧ (match e with | .inl () => xs.any p = false | .inr i => 0 ≤ i ∧ xs.any p = true) := by
  rw [loopM_list (s0 := (0 : Int)) xs (fun (a : Nat) k => (k : Int)) (fun a x => if p x then .inr (.inr (a : Int)) else .inl (a + 1)) (fun _ => .inl ()) (fun k a => a = k) ?_ ?_ 0 rfl rfl]
  · refine ⟨_, rfl, ?_⟩
    have key : ∀ (l : List α) (a : Nat), (match foldE (fun (a : Nat) (x : α) => if p x then (.inr (.inr (a : Int)) : Nat ⊕ (Unit ⊕ Int)) else .inl (a + 1)) (fun _ => .inl ()) a l with | .inl () => l.any p = false | .inr i => 0 ≤ i ∧ l.any p = true) := by
      intro l
      induction l with
      | nil => intro a; rfl
      | cons x l ih =>
        intro a
        cases hp : p x with
        | true => rw [foldE_inr (e := .inr (a : Int)) (by rw [hp]; rfl)]; simp [hp]
        | false =>
          rw [foldE_inl (a' := a + 1) (by rw [hp]; rfl)]
          have := ih (a + 1)
          revert this
          cases foldE (fun (a : Nat) (x : α) => if p x then (.inr (.inr (a : Int)) : Nat ⊕ (Unit ⊕ Int)) else .inl (a + 1)) (fun _ => .inl ()) (a + 1) l with
          | inl u => intro h; simpa [hp] using h
          | inr i => intro h; simpa [hp] using h
    exact key xs 0
  · rintro k a x hx rfl
    rw [h1 a x hx]
    cases p x with
    | true => rfl
    | false => exact ⟨rfl, rfl⟩
  · rintro a rfl
    exact h2
theorem containsLoop {f : α → Bool} {xs : List α} {B : Int → Option (Int ⊕ (Unit ⊕ Int))} (h : ∃ e, loopM B (0 : Int) = some e ∧ (match e with | .inl () => xs.any f = false | .inr i => 0 ≤ i ∧ xs.any f = true)) :
    (((loopM B (0 : Int)).bind fun m1 => sel m1 (fun _ => some (-1)) (fun m1 => some m1)).bind fun m1 => some (icmp .geq m1 0)) = some (xs.any f) := by
  obtain ⟨e, h1, h2⟩ := h
  rw [h1]
  cases e with
  | inl u => simp only at h2; rw [h2]; rfl
  | inr i => simp only at h2; rw [h2.2]; simp [sel, icmp_geq, h2.1]
theorem itoa_le (n : Int) (h0 : -9223372036854775808 ≤ n) (h1 : n ≤ 9223372036854775807) : (Lib.itoa n).length ≤ 21 := by
  unfold Lib.itoa
  have h := dig_len (u := n.natAbs) (by omega)
  have h2 := dig_len (u := n.toNat) (by omega)
  unfold digI at h h2
  rw [List.length_map] at h h2
  split
  · simp only [List.length_cons]; omega
  · omega
theorem in_big {n : Int} (h : -1000000000000000 ≤ n ∧ n ≤ 1000000000000000) : M.impl_in n (-1000000000000000) 1000000000000000 = true := by
  unfold M.impl_in
  have e1 : icmp .geq n (-1000000000000000) = true := by rw [icmp_geq]; exact decide_eq_true h.1
  have e2 : icmp .leq n 1000000000000000 = true := by rw [icmp_leq]; exact decide_eq_true h.2
  simp only [letv, e1, e2, cond_true]
/-- A rod that is right among so many places. -/
def rodP (n : Nat) (r : SRod) : Bool := decide (0 ≤ r.a ∧ r.a ≤ (n : Int) - 1 ∧ 0 ≤ r.b ∧ r.b ≤ (n : Int) - 1 ∧ r.a ≠ r.b) && M.spec_l03Least r.long
def sizesB (c : SChain) : Bool := decide (c.places.length ≤ 24 ∧ c.before.length = c.places.length ∧ c.weights.length = c.places.length ∧ c.rods.length ≤ 40)
def placesB (c : SChain) : Bool := c.places.all M.spec_l01VFinite && c.before.all M.spec_l01VFinite && c.weights.all M.spec_l03Least
/-- A chain that is right. -/
def validB (c : SChain) : Bool := sizesB c && placesB c && c.rods.all (rodP c.places.length)
theorem sizes_eq (c : SChain) : (bif (icmp .gtr ((c.places).length : Int) 24) then true else bif (icmp .neq ((c.before).length : Int) ((c.places).length : Int)) then true else bif (icmp .neq ((c.weights).length : Int) ((c.places).length : Int)) then true else (icmp .gtr ((c.rods).length : Int) 40)) = !(sizesB c) := by
  unfold sizesB
  rw [icmp_gtr, icmp_neq, icmp_neq, icmp_gtr]
  by_cases h1 : c.places.length ≤ 24
  · rw [decide_eq_false (by omega : ¬ (c.places.length : Int) > 24), cond_false]
    by_cases h2 : c.before.length = c.places.length
    · have e2 : (((c.before).length : Int) != ((c.places).length : Int)) = false := by simp [h2]
      rw [e2, cond_false]
      by_cases h3 : c.weights.length = c.places.length
      · have e3 : (((c.weights).length : Int) != ((c.places).length : Int)) = false := by simp [h3]
        rw [e3, cond_false]
        by_cases h4 : c.rods.length ≤ 40
        · rw [decide_eq_false (by omega : ¬ (c.rods.length : Int) > 40), decide_eq_true ⟨h1, h2, h3, h4⟩]; rfl
        · rw [decide_eq_true (by omega : (c.rods.length : Int) > 40), decide_eq_false (fun h => h4 h.2.2.2)]; rfl
      · have e3 : (((c.weights).length : Int) != ((c.places).length : Int)) = true := by simp only [bne_iff_ne, ne_eq]; omega
        rw [e3, cond_true, decide_eq_false (fun h => h3 h.2.2.1)]; rfl
    · have e2 : (((c.before).length : Int) != ((c.places).length : Int)) = true := by simp only [bne_iff_ne, ne_eq]; omega
      rw [e2, cond_true, decide_eq_false (fun h => h2 h.2.1)]; rfl
  · rw [decide_eq_true (by omega : (c.places.length : Int) > 24), cond_true, decide_eq_false (fun h => h1 h.1)]; rfl
theorem sodP (c : SChain) (hn : c.places.length ≤ 24) (r : SRod) : (letv (letv (M.spec_l00In r.a 0 (IntKind.i64.wrap (((c.places).length : Int) - 1))) fun m56 =>
                bif m56 then
                  letv (M.spec_l00In r.b 0 (IntKind.i64.wrap (((c.places).length : Int) - 1))) fun m61 =>
                  bif m61 then
                    bif (icmp .eql r.a r.b) then
                      true
                    else
                      letv (M.spec_l03Least r.long) fun m67 =>
                      (!m67)
                  else
                    true
                else
                  true) fun m55 => m55) = !(rodP c.places.length r) := by
  rw [wrap_in (by omega)]
  unfold rodP M.spec_l00In
  simp only [letv, icmp_geq, icmp_leq, icmp_eql]
  generalize (c.places.length : Int) - 1 = m
  by_cases h1 : 0 ≤ r.a
  · by_cases h2 : r.a ≤ m
    · by_cases h3 : 0 ≤ r.b
      · by_cases h4 : r.b ≤ m
        · by_cases h5 : r.a = r.b
          · have e5 : (r.a == r.b) = true := by simpa using h5
            rw [decide_eq_true h1, decide_eq_true h2, decide_eq_true h3, decide_eq_true h4, e5, decide_eq_false (p := 0 ≤ r.a ∧ r.a ≤ m ∧ 0 ≤ r.b ∧ r.b ≤ m ∧ r.a ≠ r.b) (fun h => h.2.2.2.2 h5)]; rfl
          · have e5 : (r.a == r.b) = false := by simpa using h5
            rw [decide_eq_true h1, decide_eq_true h2, decide_eq_true h3, decide_eq_true h4, e5, decide_eq_true (p := 0 ≤ r.a ∧ r.a ≤ m ∧ 0 ≤ r.b ∧ r.b ≤ m ∧ r.a ≠ r.b) ⟨h1, h2, h3, h4, h5⟩]; simp
        · rw [decide_eq_true h1, decide_eq_true h2, decide_eq_true h3, decide_eq_false h4, decide_eq_false (p := 0 ≤ r.a ∧ r.a ≤ m ∧ 0 ≤ r.b ∧ r.b ≤ m ∧ r.a ≠ r.b) (fun h => h4 h.2.2.2.1)]; rfl
      · rw [decide_eq_true h1, decide_eq_true h2, decide_eq_false h3, decide_eq_false (p := 0 ≤ r.a ∧ r.a ≤ m ∧ 0 ≤ r.b ∧ r.b ≤ m ∧ r.a ≠ r.b) (fun h => h3 h.2.2.1)]; rfl
    · rw [decide_eq_true h1, decide_eq_false h2, decide_eq_false (p := 0 ≤ r.a ∧ r.a ≤ m ∧ 0 ≤ r.b ∧ r.b ≤ m ∧ r.a ≠ r.b) (fun h => h2 h.2.1)]; rfl
  · rw [decide_eq_false h1, decide_eq_false (p := 0 ≤ r.a ∧ r.a ≤ m ∧ 0 ≤ r.b ∧ r.b ≤ m ∧ r.a ≠ r.b) (fun h => h1 h.1)]; rfl
theorem iodP (c : SChain) (hn : c.places.length ≤ 24) (r : SRod) : M.impl_ValidChain_1 r c = !(rodP c.places.length r) := by
  unfold M.impl_ValidChain_1 M.impl_Chain_rodOk
  simp only [letv]
  rw [wrap_in (by omega)]
  unfold rodP M.impl_in
  have el : M.impl_levelOk r.long = M.spec_l03Least r.long := rfl
  simp only [letv, icmp_geq, icmp_leq, icmp_neq, el]
  generalize (c.places.length : Int) - 1 = m
  by_cases h1 : 0 ≤ r.a
  · by_cases h2 : r.a ≤ m
    · by_cases h3 : 0 ≤ r.b
      · by_cases h4 : r.b ≤ m
        · by_cases h5 : r.a = r.b
          · have e5 : (r.a != r.b) = false := by simpa using h5
            rw [decide_eq_true h1, decide_eq_true h2, decide_eq_true h3, decide_eq_true h4, e5, decide_eq_false (p := 0 ≤ r.a ∧ r.a ≤ m ∧ 0 ≤ r.b ∧ r.b ≤ m ∧ r.a ≠ r.b) (fun h => h.2.2.2.2 h5)]; rfl
          · have e5 : (r.a != r.b) = true := by simpa using h5
            rw [decide_eq_true h1, decide_eq_true h2, decide_eq_true h3, decide_eq_true h4, e5, decide_eq_true (p := 0 ≤ r.a ∧ r.a ≤ m ∧ 0 ≤ r.b ∧ r.b ≤ m ∧ r.a ≠ r.b) ⟨h1, h2, h3, h4, h5⟩]; simp
        · rw [decide_eq_true h1, decide_eq_true h2, decide_eq_true h3, decide_eq_false h4, decide_eq_false (p := 0 ≤ r.a ∧ r.a ≤ m ∧ 0 ≤ r.b ∧ r.b ≤ m ∧ r.a ≠ r.b) (fun h => h4 h.2.2.2.1)]; rfl
      · rw [decide_eq_true h1, decide_eq_true h2, decide_eq_false h3, decide_eq_false (p := 0 ≤ r.a ∧ r.a ≤ m ∧ 0 ≤ r.b ∧ r.b ≤ m ∧ r.a ≠ r.b) (fun h => h3 h.2.2.1)]; rfl
    · rw [decide_eq_true h1, decide_eq_false h2, decide_eq_false (p := 0 ≤ r.a ∧ r.a ≤ m ∧ 0 ≤ r.b ∧ r.b ≤ m ∧ r.a ≠ r.b) (fun h => h2 h.2.1)]; rfl
  · rw [decide_eq_false h1, decide_eq_false (p := 0 ≤ r.a ∧ r.a ≤ m ∧ 0 ≤ r.b ∧ r.b ≤ m ∧ r.a ≠ r.b) (fun h => h1 h.1)]; rfl
theorem any_not {α : Type} (xs : List α) (p : α → Bool) : xs.any (fun x => !(p x)) = !(xs.all p) := by
  induction xs with
  | nil => rfl
  | cons x l ih => rw [List.any_cons, List.all_cons, ih]; cases p x <;> rfl
theorem icontV (xs : List SVector) (hl : xs.length ≤ 100000) : M.slices_ContainsFunc___impl_Vector_impl_Vector__f55 xs = some (!(xs.all M.spec_l01VFinite)) := by
  unfold M.slices_ContainsFunc___impl_Vector_impl_Vector__f55 M.slices_IndexFunc___impl_Vector_impl_Vector__f55
  rw [← any_not]
  refine containsLoop (anyLoop xs _ _ ?_ ?_)
  · intro k x hx
    have hlt := (List.getElem?_eq_some_iff.1 hx).1
    have e : M.impl_badVector x = some (!(M.spec_l01VFinite x)) := by unfold M.impl_badVector; rw [ifinV]; rfl
    rw [lss_lt hlt, cond_true, idx_nat, hx, Option.bind_some, e, Option.bind_some, succ_wrap (by omega)]
    cases M.spec_l01VFinite x <;> rfl
  · rw [lss_self, cond_false]
theorem icontF (xs : List Nat) (hl : xs.length ≤ 100000) : M.slices_ContainsFunc___float32_float32__f57 xs = some (!(xs.all M.spec_l03Least)) := by
  unfold M.slices_ContainsFunc___float32_float32__f57 M.slices_IndexFunc___float32_float32__f57
  rw [← any_not]
  refine containsLoop (anyLoop xs _ _ ?_ ?_)
  · intro k x hx
    have hlt := (List.getElem?_eq_some_iff.1 hx).1
    have e : M.impl_badLevel x = !(M.spec_l03Least x) := rfl
    rw [lss_lt hlt, cond_true, idx_nat, hx, Option.bind_some, e, succ_wrap (by omega)]
    cases M.spec_l03Least x <;> rfl
  · rw [lss_self, cond_false]
theorem icontR (xs : List SRod) (hl : xs.length ≤ 100000) (c : SChain) (hn : c.places.length ≤ 24) : M.slices_ContainsFunc___impl_Rod_impl_Rod__f59 xs c = some (!(xs.all (rodP c.places.length))) := by
  unfold M.slices_ContainsFunc___impl_Rod_impl_Rod__f59 M.slices_IndexFunc___impl_Rod_impl_Rod__f59
  rw [← any_not]
  refine containsLoop (anyLoop xs _ _ ?_ ?_)
  · intro k x hx
    have hlt := (List.getElem?_eq_some_iff.1 hx).1
    rw [lss_lt hlt, cond_true, idx_nat, hx, Option.bind_some, iodP c hn, succ_wrap (by omega)]
    cases rodP c.places.length x <;> rfl
  · rw [lss_self, cond_false]
theorem sizes_of {c : SChain} (h : sizesB c = true) : c.places.length ≤ 24 ∧ c.before.length = c.places.length ∧ c.weights.length = c.places.length ∧ c.rods.length ≤ 40 := of_decide_eq_true h
theorem iValidChain (c : SChain) : M.impl_ValidChain c = some (validB c) := by
  unfold M.impl_ValidChain validB
  simp only [letv, sizes_eq]
  cases hs : sizesB c with
  | false => rfl
  | true =>
    obtain ⟨h1, h2, h3, h4⟩ := sizes_of hs
    have eta : (⟨c.places, c.before, c.weights, c.rods⟩ : SChain) = c := rfl
    rw [Bool.not_true, cond_false, icontV _ (by omega), Option.bind_some, icontV _ (by omega), Option.bind_some, icontF _ (by omega), eta, icontR _ (by omega) c h1]
    unfold placesB
    cases c.places.all M.spec_l01VFinite <;> cases c.before.all M.spec_l01VFinite <;> cases c.weights.all M.spec_l03Least <;> simp
theorem all_get {α : Type} {xs : List α} {p : α → Bool} (h : xs.all p = true) {k : Nat} (hk : k < xs.length) : p xs[k] = true := List.all_eq_true.1 h _ (List.getElem_mem hk)
theorem all_of {α : Type} {xs : List α} {p : α → Bool} (h : ∀ k (hk : k < xs.length), p xs[k] = true) : xs.all p = true := List.all_eq_true.2 fun x hx => by
  obtain ⟨k, hk, rfl⟩ := List.getElem_of_mem hx
  exact h k hk
theorem sPlaces (c : SChain) (hs : sizesB c = true) : loopM (fun (s9 : Int) =>
        bif (icmp .lss s9 ((c.places).length : Int)) then
          (Option.bind (
              (idx c.places s9).bind fun m13 =>
              letv (M.spec_l01VFinite m13) fun m16 =>
              bif m16 then
                (idx c.before s9).bind fun m21 =>
                letv (M.spec_l01VFinite m21) fun m24 =>
                bif m24 then
                  (idx c.weights s9).bind fun m30 =>
                  letv (M.spec_l03Least m30) fun m33 =>
                  some (!m33)
                else
                  some true
              else
                some true) fun m11 =>
          bif m11 then
            some (.inr (.inr false))
          else
            some (.inl (IntKind.i64.wrap (s9 + 1))))
        else
          some (.inr (.inl ()))) (0 : Int) = some (if placesB c = true then .inl () else .inr false : Unit ⊕ Bool) := by
  obtain ⟨h1, h2, h3, h4⟩ := sizes_of hs
  have key := loopM_one (B := fun (s9 : Int) =>
        bif (icmp .lss s9 ((c.places).length : Int)) then
          (Option.bind (
              (idx c.places s9).bind fun m13 =>
              letv (M.spec_l01VFinite m13) fun m16 =>
              bif m16 then
                (idx c.before s9).bind fun m21 =>
                letv (M.spec_l01VFinite m21) fun m24 =>
                bif m24 then
                  (idx c.weights s9).bind fun m30 =>
                  letv (M.spec_l03Least m30) fun m33 =>
                  some (!m33)
                else
                  some true
              else
                some true) fun m11 =>
          bif m11 then
            some (.inr (.inr false))
          else
            some (.inl (IntKind.i64.wrap (s9 + 1))))
        else
          (some (.inr (.inl ())) : Option (Int ⊕ (Unit ⊕ Bool))))
    (fun n (s : Int) => ∃ k : Nat, s = k ∧ n = c.places.length - k ∧ k ≤ c.places.length ∧ ∀ j (_ : j < k) (hj : j < c.places.length), M.spec_l01VFinite c.places[j] = true ∧ M.spec_l01VFinite (c.before[j]'(by omega)) = true ∧ M.spec_l03Least (c.weights[j]'(by omega)) = true)
    (fun e => e = (if placesB c = true then .inl () else .inr false : Unit ⊕ Bool)) ?_ c.places.length 0 ⟨0, rfl, rfl, Nat.zero_le _, fun j hj => by omega⟩
  · obtain ⟨e, he, rfl⟩ := key
    exact he
  · rintro n s ⟨k, rfl, rfl, hk, hall⟩
    by_cases hlt : k < c.places.length
    · have b1 : c.places[k]? = some c.places[k] := List.getElem?_eq_getElem hlt
      have b2 : c.before[k]? = some (c.before[k]'(by omega)) := List.getElem?_eq_getElem _
      have b3 : c.weights[k]? = some (c.weights[k]'(by omega)) := List.getElem?_eq_getElem _
      simp only [letv, lss_lt hlt, cond_true, idx_nat, b1, b2, b3, Option.bind_some]
      have bad : (M.spec_l01VFinite c.places[k] = true ∧ M.spec_l01VFinite (c.before[k]'(by omega)) = true ∧ M.spec_l03Least (c.weights[k]'(by omega)) = true) ∨ placesB c = false := by
        by_cases hp : placesB c = true
        · left
          unfold placesB at hp
          simp only [Bool.and_eq_true] at hp
          exact ⟨all_get hp.1.1 hlt, all_get hp.1.2 (by omega), all_get hp.2 (by omega)⟩
        · right; simpa using hp
      cases g1 : M.spec_l01VFinite c.places[k] with
      | false =>
        have := bad.resolve_left (fun h => by rw [g1] at h; cases h.1)
        rw [this]
        exact .inl ⟨_, rfl, rfl⟩
      | true =>
        cases g2 : M.spec_l01VFinite (c.before[k]'(by omega)) with
        | false =>
          have := bad.resolve_left (fun h => by rw [g2] at h; cases h.2.1)
          rw [this]
          exact .inl ⟨_, rfl, rfl⟩
        | true =>
          cases g3 : M.spec_l03Least (c.weights[k]'(by omega)) with
          | false =>
            have := bad.resolve_left (fun h => by rw [g3] at h; cases h.2.2)
            rw [this]
            exact .inl ⟨_, rfl, rfl⟩
          | true =>
            refine .inr ⟨((k + 1 : Nat) : Int), c.places.length - (k + 1), ?_, by omega, k + 1, rfl, rfl, hlt, ?_⟩
            · simp only [cond_true, Bool.not_true, Option.bind_some, cond_false]
              rw [succ_wrap (by omega)]
            · intro j hj hjl
              by_cases e : j = k
              · subst e; exact ⟨g1, g2, g3⟩
              · exact hall j (by omega) hjl
    · have e : k = c.places.length := by omega
      subst e
      rw [lss_self, cond_false]
      refine .inl ⟨_, rfl, ?_⟩
      have hp : placesB c = true := by
        unfold placesB
        simp only [Bool.and_eq_true]
        exact ⟨⟨all_of fun k hk => (hall k hk hk).1, all_of fun k hk => (hall k (by omega) (by omega)).2.1⟩, all_of fun k hk => (hall k (by omega) (by omega)).2.2⟩
      rw [if_pos hp]
theorem sValidChain (c : SChain) : M.spec_l03Is c = some (validB c) := by
  unfold M.spec_l03Is validB
  simp only [sizes_eq]
  cases hs : sizesB c with
  | false => rfl
  | true =>
    obtain ⟨h1, h2, h3, h4⟩ := sizes_of hs
    simp only [letv, Bool.not_true, cond_false]
    have hsp := sPlaces c hs
    simp only [letv] at hsp
    rw [hsp, Option.bind_some]
    cases hp : placesB c with
    | false => rfl
    | true =>
      rw [if_pos rfl]
      simp only [sel, Bool.and_self, Bool.true_and]
      rw [loopM_list (s0 := (0 : Int)) c.rods (fun (_ : Unit) k => (k : Int)) (fun _ r => if rodP c.places.length r = true then .inl () else .inr (.inr false)) (fun _ => .inl ()) (fun _ _ => True) ?_ ?_ () trivial rfl]
      · have key : ∀ (l : List SRod), foldE (fun (_ : Unit) (r : SRod) => if rodP c.places.length r = true then (.inl () : Unit ⊕ (Unit ⊕ Bool)) else .inr (.inr false)) (fun _ => .inl ()) () l = if l.all (rodP c.places.length) = true then .inl () else .inr false := by
          intro l
          induction l with
          | nil => rfl
          | cons r l ih =>
            cases hr : rodP c.places.length r with
            | true => rw [foldE_inl (a' := ()) (by rw [hr]; rfl), ih, List.all_cons, hr, Bool.true_and]
            | false => rw [foldE_inr (e := .inr false) (by rw [hr]; rfl), List.all_cons, hr, Bool.false_and]; rfl
        rw [key, Option.bind_some]
        cases c.rods.all (rodP c.places.length) <;> rfl
      · rintro k a r hx _
        have hlt := (List.getElem?_eq_some_iff.1 hx).1
        have ho := sodP c h1 r
        simp only [letv] at ho
        rw [lss_lt hlt, cond_true, idx_nat, hx, Option.bind_some, ho, succ_wrap (by omega)]
        cases rodP c.places.length r with
        | true => exact ⟨rfl, trivial⟩
        | false => rfl
      · rintro a _
        rw [lss_self, cond_false]
def small (c : SChain) : Prop := c.places.length ≤ 1048576 ∧ c.before.length ≤ 1048576 ∧ c.weights.length ≤ 1048576 ∧ c.rods.length ≤ 1048576
theorem neq_self (n : Int) : icmp .neq n n = false := by simp [icmp_neq]
theorem eqVs (xs : List SVector) (h : xs.length ≤ 1048576) : M.laws_eqVectorS xs xs = some true := by
  unfold M.laws_eqVectorS
  rw [neq_self, cond_false, eqLoop xs _ ?_ ?_]
  · rfl
  · intro k x hx
    have hlt := (List.getElem?_eq_some_iff.1 hx).1
    rw [lss_lt hlt, cond_true, idx_nat, hx, Option.bind_some, Option.bind_some]
    simp only [letv, eqV_self, Bool.not_true, cond_false, succ_wrap (show k ≤ 9223372036854775806 by omega)]
  · rw [lss_self, cond_false]
theorem eqFs (xs : List Nat) (h : xs.length ≤ 1048576) : M.laws_eqFloat32S xs xs = some true := by
  unfold M.laws_eqFloat32S
  rw [neq_self, cond_false, eqLoop xs _ ?_ ?_]
  · rfl
  · intro k x hx
    have hlt := (List.getElem?_eq_some_iff.1 hx).1
    rw [lss_lt hlt, cond_true, idx_nat, hx, Option.bind_some, Option.bind_some]
    simp only [letv, same_self, Bool.not_true, cond_false, succ_wrap (show k ≤ 9223372036854775806 by omega)]
  · rw [lss_self, cond_false]
theorem eqR_self (r : SRod) : M.laws_eqRod r r = true := by
  unfold M.laws_eqRod; simp only [letv, neq_self, same_self]; rfl
theorem eqRs (xs : List SRod) (h : xs.length ≤ 1048576) : M.laws_eqRodS xs xs = some true := by
  unfold M.laws_eqRodS
  rw [neq_self, cond_false, eqLoop xs _ ?_ ?_]
  · rfl
  · intro k x hx
    have hlt := (List.getElem?_eq_some_iff.1 hx).1
    rw [lss_lt hlt, cond_true, idx_nat, hx, Option.bind_some, Option.bind_some]
    simp only [letv, eqR_self, Bool.not_true, cond_false, succ_wrap (show k ≤ 9223372036854775806 by omega)]
  · rw [lss_self, cond_false]
theorem eqCh (c : SChain) (h : small c) : M.laws_eqChain c c = some true := by
  unfold M.laws_eqChain
  rw [eqVs _ h.1, Option.bind_some, eqVs _ h.2.1, Option.bind_some, eqFs _ h.2.2.1, Option.bind_some, eqRs _ h.2.2.2]
  rfl
/-- A number in decimals, read back. -/
theorem parseM_app (m : Nat) : ∀ (a : List UInt8) (acc v : Nat) (b : List UInt8), Lib.parseUintM m acc a = .ok v → Lib.parseUintM m acc (a ++ b) = Lib.parseUintM m v b := by
  intro a
  induction a with
  | nil => intro acc v b h; cases h; rfl
  | cons c a ih =>
    intro acc v b h
    rw [List.cons_append, Lib.parseUintM]
    rw [Lib.parseUintM] at h
    split at h
    · rename_i h1
      rw [if_pos h1]
      split at h
      · cases h
      · rename_i h2
        rw [if_neg h2]
        split at h
        · cases h
        · rename_i h3
          rw [if_neg h3]
          exact ih _ _ _ h
    · cases h
theorem digByte {d : Nat} (h : d < 10) : (UInt8.ofNat (48 + d)).toNat = 48 + d := by
  rw [UInt8.toNat_ofNat']
  omega
theorem parse_dig (m : Nat) : ∀ (u : Nat), u ≤ 10000000000000000 → 10000000000000000 ≤ m → Lib.parseUintM m 0 (Lib.decDigits u) = .ok u := by
  intro u
  induction u using Nat.strongRecOn with
  | ind u ih =>
    intro hu hm
    rw [Lib.decDigits]
    split
    · rename_i h
      unfold Lib.parseUintM
      rw [digByte h, if_pos (by omega), if_neg (by omega), if_neg (by omega)]
      unfold Lib.parseUintM
      congr 1
      omega
    · rename_i h
      rw [parseM_app m _ _ _ _ (ih (u / 10) (by omega) (by omega) hm)]
      unfold Lib.parseUintM
      rw [digByte (by omega), if_pos (by omega), if_neg (by omega), if_neg (by omega)]
      unfold Lib.parseUintM
      congr 1
      omega
theorem decDigits_cons (u : Nat) : ∃ (d : Nat) (r : List UInt8), d < 10 ∧ Lib.decDigits u = UInt8.ofNat (48 + d) :: r := by
  induction u using Nat.strongRecOn with
  | ind u ih =>
    rw [Lib.decDigits]
    split
    · rename_i h; exact ⟨u, [], h, rfl⟩
    · rename_i h
      obtain ⟨d, r, hd, e⟩ := ih (u / 10) (by omega)
      exact ⟨d, r ++ [UInt8.ofNat (48 + u % 10)], hd, by rw [e]; rfl⟩
theorem decDigits_mem (u : Nat) : ∀ b ∈ Lib.decDigits u, 48 ≤ b.toNat ∧ b.toNat ≤ 57 := by
  induction u using Nat.strongRecOn with
  | ind u ih =>
    intro b hb
    rw [Lib.decDigits] at hb
    split at hb
    · rename_i h
      rw [List.mem_singleton.1 hb, digByte h]
      omega
    · rename_i h
      rcases List.mem_append.1 hb with hb | hb
      · exact ih (u / 10) (by omega) b hb
      · rw [List.mem_singleton.1 hb, digByte (by omega)]
        omega
theorem parse_itoa (n : Int) (h : -1000000000000000 ≤ n ∧ n ≤ 1000000000000000) : Lib.parseIntB 64 (Lib.itoa n) = .ok n := by
  have pu : ∀ u : Nat, u ≤ 1000000000000000 → Lib.parseUintB 64 (Lib.decDigits u) = .ok u := by
    intro u hu
    unfold Lib.parseUintB
    obtain ⟨d, r, _, e⟩ := decDigits_cons u
    rw [if_neg (by rw [e]; simp)]
    exact parse_dig _ u (by omega) (by omega)
  unfold Lib.itoa
  split
  · rw [Lib.parseIntB_minus, pu _ (by omega)]
    unfold Lib.signedC
    simp only
    rw [if_neg (by omega)]
    congr 1
    omega
  · obtain ⟨d, r, hd, e⟩ := decDigits_cons n.toNat
    rw [e, Lib.parseIntB_plain _ _ _ (by rw [digByte hd]; omega) (by rw [digByte hd]; omega), ← e, pu _ (by omega)]
    unfold Lib.signlessC
    simp only
    rw [if_neg (by omega)]
    congr 1
    omega
theorem pint_itoa (n : Int) (h : -1000000000000000 ≤ n ∧ n ≤ 1000000000000000) : pint (Lib.itoa n) = some (n, true) := by
  unfold pint
  have := itoa_le n (by omega) (by omega)
  rw [if_pos (by omega), parse_itoa n h]
end
end Go.Proofs
