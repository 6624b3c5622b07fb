import Derived.Test.YtodohnoicfmneaaDoorBMd
import Derived.Test.YtodohnoicfmneaaDoorPs
import Derived.Test.YtodohnoicfmneaaDoorPh
import Derived.Test.YtodohnoicfmneaaDoorFi
import Derived.Lib.Join
/- What the laws of the other seat showed, at this seat's models. No program in sight. -/
namespace Go.Proofs
open Go Go.Fl Go.RowKit Go.Rg
attribute [local irreducible] fint fcmp fop fneg widen narrow fsqrt cn
section
variable {α : Type}
theorem index_eq (l : List UInt8) : M.strings_Index_s2c l = some (Lib.indexByte l 44) := by
  unfold M.strings_Index_s2c M.internal_stringslite_Index_s2c M.internal_stringslite_IndexByte
  have e : sidx ([44] : List UInt8) 0 = some 44 := by decide
  have e2 : sfind l 44 = Lib.indexByte l 44 := rfl
  rw [e]
  simp only [letv, Option.bind_some, e2]
  by_cases h : ([44] : List UInt8) = l
  · subst h; rfl
  · have : (([44] : List UInt8) == l) = false := by simpa using h
    rw [this]; rfl
theorem take_set (a : List (List UInt8)) (i : Nat) (x : List UInt8) (h : i < a.length) : (a.set i x).take (i + 1) = a.take i ++ [x] := by
  rw [List.take_succ_eq_append_getElem (by rw [List.length_set]; exact h), List.take_set_of_le (Nat.le_refl _)]
  simp
theorem split_eq (l : List UInt8) (hl : l.length ≤ 1048576) : M.strings_Split_s2c l = some (splitB 44 l) := by
  unfold M.strings_Split_s2c M.strings_genSplit_s2c_i64n0_i64m1 M.strings_Count_s2c
  have e : sidx ([44] : List UInt8) 0 = some 44 := by decide
  have e2 : scount l 44 = ((l.count 44 : Nat) : Int) := rfl
  have hc : l.count 44 ≤ l.length := List.count_le_length
  generalize hcc : l.count 44 = cnt at *
  rw [e]
  simp only [Option.bind_some, e2]
  have w1 : IntKind.i64.wrap ((cnt : Int) + 1) = ((cnt + 1 : Nat) : Int) := by rw [wrap_in (by omega)]; rfl
  have w2 : IntKind.i64.wrap ((l.length : Int) + 1) = ((l.length + 1 : Nat) : Int) := by rw [wrap_in (by omega)]; rfl
  have w3 : imin ((cnt + 1 : Nat) : Int) ((l.length + 1 : Nat) : Int) = ((cnt + 1 : Nat) : Int) := by unfold imin; rw [if_neg (by omega)]
  have w4 : IntKind.i64.wrap (((cnt + 1 : Nat) : Int) - 1) = (cnt : Int) := by rw [wrap_in (by omega)]; omega
  rw [w1, w2, w3, w4, mkl_ok (by omega), Option.bind_some]
  have key := loopM_one (B := fun (s7 : List UInt8 × Int × List (List UInt8)) =>
      bif (icmp .lss s7.2.1 (cnt : Int)) then
        (M.strings_Index_s2c s7.1).bind fun m9 =>
        bif (icmp .lss m9 0) then
          some (.inr (s7.1, s7.2.1, s7.2.2))
        else
          (ssub s7.1 0 (IntKind.i64.wrap (m9 + 0))).bind fun m14 =>
          (idx s7.2.2 s7.2.1).bind fun m15 =>
          (ssub s7.1 (IntKind.i64.wrap (m9 + 1)) ((s7.1).length : Int)).bind fun m21 =>
          some (.inl (m21, (IntKind.i64.wrap (s7.2.1 + 1)), (s7.2.2.set s7.2.1.toNat m14)))
      else
        some (.inr (s7.1, s7.2.1, s7.2.2)))
    (fun n s => ∃ i : Nat, s.2.1 = i ∧ n = cnt - i ∧ i + s.1.count 44 = cnt ∧ s.1.length ≤ 1048576 ∧ s.2.2.length = cnt + 1 ∧ s.2.2.take i ++ splitB 44 s.1 = splitB 44 l)
    (fun r => r.2.1 = (cnt : Int) ∧ r.2.2.length = cnt + 1 ∧ r.2.2.take cnt ++ [r.1] = splitB 44 l) ?_ cnt (l, 0, List.replicate (cnt + 1) []) ⟨0, rfl, rfl, by simp [hcc], hl, by simp, by simp⟩
  · obtain ⟨r, hr, h1, h2, h3⟩ := key
    rw [hr, Option.bind_some, h1]
    rw [idx_nat, List.getElem?_eq_getElem (by omega), Option.bind_some]
    have w5 : IntKind.i64.wrap ((cnt : Int) + 1) = ((cnt + 1 : Nat) : Int) := by rw [wrap_in (by omega)]; rfl
    have z : (0 : Int) = ((0 : Nat) : Int) := rfl
    rw [w5, z, ssub_nat _ (by omega) (by rw [List.length_set]; omega)]
    simp only [Option.bind_some, Int.toNat_natCast, List.drop_zero, Nat.sub_zero]
    rw [take_set _ _ _ (by omega), h3]
  · rintro n ⟨s, i0, a⟩ ⟨i, h1, rfl, h2, h3, h4, h5⟩
    simp only at h1 h2 h3 h4 h5
    subst h1
    dsimp only
    by_cases hlt : i < cnt
    · have e1 : icmp .lss (i : Int) (cnt : Int) = true := by rw [icmp_lss]; exact decide_eq_true (by omega)
      have hge := Lib.indexByte_ge s 44
      have hne : Lib.indexByte s 44 ≠ -1 := fun h => by have := count_miss h; omega
      obtain ⟨m, hm⟩ : ∃ m : Nat, Lib.indexByte s 44 = m := ⟨(Lib.indexByte s 44).toNat, by omega⟩
      obtain ⟨c1, c2⟩ := count_hit hm
      have e2 : icmp .lss (m : Int) 0 = false := by rw [icmp_lss]; exact decide_eq_false (by omega)
      have w6 : IntKind.i64.wrap ((m : Int) + 0) = (m : Int) := by rw [wrap_in (by omega)]; omega
      have w7 : IntKind.i64.wrap ((m : Int) + 1) = ((m + 1 : Nat) : Int) := by rw [wrap_in (by omega)]; rfl
      have w8 : IntKind.i64.wrap ((i : Int) + 1) = ((i + 1 : Nat) : Int) := by rw [wrap_in (by omega)]; rfl
      have z : (0 : Int) = ((0 : Nat) : Int) := rfl
      rw [e1, cond_true, index_eq, Option.bind_some, hm, e2, cond_false, w6, z, ssub_nat s (Nat.zero_le _) (by omega), Option.bind_some, idx_nat, List.getElem?_eq_getElem (by omega), Option.bind_some, w7, ssub_nat s (by omega) (Nat.le_refl _), Option.bind_some, w8]
      refine .inr ⟨_, cnt - (i + 1), rfl, by omega, i + 1, rfl, rfl, ?_, ?_, ?_, ?_⟩
      · simp only
        rw [List.take_of_length_le (by rw [List.length_drop]; exact Nat.le_refl _)]
        omega
      · simp only [List.length_take, List.length_drop]; omega
      · simp only [List.length_set]; exact h4
      · simp only [Int.toNat_natCast, List.drop_zero, Nat.sub_zero]
        rw [take_set _ _ _ (by omega), List.take_of_length_le (l := s.drop (m + 1)) (by rw [List.length_drop]; exact Nat.le_refl _)]
        rw [splitB_hit hm] at h5
        rw [List.append_assoc]
        exact h5
    · have hi : i = cnt := by omega
      subst hi
      have e1 : icmp .lss (i : Int) (i : Int) = false := by rw [icmp_lss]; exact decide_eq_false (by omega)
      rw [e1, cond_false]
      refine .inl ⟨_, rfl, rfl, h4, ?_⟩
      have hmiss : Lib.indexByte s 44 = -1 := by
        have hge := Lib.indexByte_ge s 44
        by_cases hh : Lib.indexByte s 44 = -1
        · exact hh
        · obtain ⟨m, hm⟩ : ∃ m : Nat, Lib.indexByte s 44 = m := ⟨(Lib.indexByte s 44).toNat, by omega⟩
          have := (count_hit hm).1
          omega
      rw [splitB_miss hmiss] at h5
      exact h5
theorem wrap_u32 {n : Int} (h : 0 ≤ n ∧ n ≤ 4294967295) : IntKind.u32.wrap n = n := by rw [IntKind.wrap_u32]; omega
theorem ibits (x : Nat) (h : x < 4294967296) : M.impl_BitsOf x = bitsOf x := by
  unfold M.impl_BitsOf M.impl_isNaN bitsOf
  simp only [letv]
  rw [wrap_in (by omega)]
theorem sbits (x : Nat) (h : x < 4294967296) : M.spec_l01Bits x = bitsOf x := by
  unfold M.spec_l01Bits bitsOf
  rw [wrap_in (by omega)]
theorem cn_lt {x : Nat} (h : x < 4294967296) : cn .f32 x < 4294967296 := by
  have := (can_cn (k := .f32) (x := x) (by rw [wd32]; exact h)).2
  rwa [wd32] at this
/-- What a run over digits comes to. -/
def stepI (a : Int × Nat) (b : UInt8) : (Int × Nat) ⊕ (Int ⊕ (Nat × Bool)) := if hexd b < 0 ∨ a.2 = 8 then .inr (.inr (0, false)) else .inl (16 * a.1 + hexd b, a.2 + 1)
theorem foldI : ∀ (l : List UInt8) (n : Int) (j : Nat), j ≤ 8 → foldE stepI (fun a => .inl a.1) (n, j) l = match hexn n l with
    | some m => if j + l.length ≤ 8 then .inl m else .inr (0, false)
    | none => .inr (0, false) := by
  intro l
  induction l with
  | nil => intro n j hj; unfold foldE hexn; simp [hj]
  | cons b l ih =>
    intro n j hj
    unfold foldE hexn
    by_cases h : hexd b < 0
    · have : stepI (n, j) b = .inr (.inr (0, false)) := by unfold stepI; rw [if_pos (.inl h)]
      rw [this, if_pos h]
    · rw [if_neg h]
      by_cases h8 : j = 8
      · have : stepI (n, j) b = .inr (.inr (0, false)) := by unfold stepI; rw [if_pos (.inr h8)]
        rw [this]
        subst h8
        cases hexn (16 * n + hexd b) l with
        | none => rfl
        | some m => simp only [List.length_cons]; rw [if_neg (by omega)]
      · have : stepI (n, j) b = .inl (16 * n + hexd b, j + 1) := by unfold stepI; rw [if_neg (by simp only; omega)]
        rw [this]
        simp only
        rw [ih _ _ (by omega)]
        simp only [List.length_cons]
        cases hexn (16 * n + hexd b) l with
        | none => rfl
        | some m => simp only [show j + 1 + l.length = j + (l.length + 1) by omega]
theorem irdn (l : List UInt8) (hl : l.length ≤ 1048576) : ∃ r, M.impl_readNumber l = some r ∧ (match rdn l with | some x => r = (x, true) | none => r.2 = false) := by
  unfold M.impl_readNumber
  rw [loopM_list (s0 := ((0, 0) : Int × Int)) l (fun (a : Int × Nat) k => (a.1, (k : Int))) stepI (fun a => .inl a.1) (fun k a => a.2 = k ∧ k ≤ 8 ∧ 0 ≤ a.1 ∧ a.1 < 16 ^ k) ?_ ?_ (0, 0) ⟨rfl, by omega, by simp, by simp⟩ rfl]
  · rw [foldI l 0 0 (by omega), Option.bind_some]
    have key : ∀ (o : Option Int), hexn 0 l = o → ∃ r, (sel (match o with
      | some m => if 0 + l.length ≤ 8 then (.inl m : Int ⊕ (Nat × Bool)) else .inr (0, false)
      | none => .inr (0, false)) (fun m1 => letv (M.impl_FromBits m1) fun m11 => letv (bif (icmp .eql ((l).length : Int) 8) then letv (M.impl_BitsOf m11.1) fun m16 => (icmp .eql m16 m1) else false) fun m14 => some (m11.1, m14)) (fun m1 => some (m1.1, m1.2))) = some r ∧ (match rdn l with | some x => r = (x, true) | none => r.2 = false) := by
      intro o ho
      cases o with
      | none =>
        refine ⟨(0, false), rfl, ?_⟩
        have : rdn l = none := by unfold rdn; rw [ho]; split <;> rfl
        rw [this]
      | some m =>
        by_cases h8 : l.length ≤ 8
        · obtain ⟨b1, b2⟩ := hexn_bound l (by omega) ho
          have hm : m < 4294967296 := by
            have : (16 : Int) ^ l.length ≤ 16 ^ 8 := by
              have := Nat.pow_le_pow_right (n := 16) (by omega) h8
              have e1 : ((16 ^ l.length : Nat) : Int) = (16 : Int) ^ l.length := by simp
              have e2 : ((16 ^ 8 : Nat) : Int) = (16 : Int) ^ 8 := by simp
              rw [← e1, ← e2]; omega
            omega
          have hfb : M.impl_FromBits m = (cn .f32 m.toNat, true) := by
            unfold M.impl_FromBits M.impl_in
            have h1 : icmp .geq m 0 = true := by rw [icmp_geq]; exact decide_eq_true b1
            have h2 : icmp .leq m 4294967295 = true := by rw [icmp_leq]; exact decide_eq_true (by omega)
            simp only [letv, h1, h2, cond_true, Bool.not_true, cond_false, wrap_u32 (n := m) ⟨b1, by omega⟩]
          have hlt : cn .f32 m.toNat < 4294967296 := cn_lt (by omega)
          simp only [Nat.zero_add, if_pos h8, sel, letv, hfb, ibits _ hlt]
          refine ⟨_, rfl, ?_⟩
          unfold rdn
          rw [ho]
          by_cases e8 : l.length = 8
          · have e : icmp .eql (l.length : Int) 8 = true := by simp [icmp_eql, e8]
            rw [if_pos e8, e, cond_true, Option.bind_some]
            by_cases hb : bitsOf (cn .f32 m.toNat) = m
            · rw [if_pos hb]
              simp only [icmp_eql, hb, beq_self_eq_true]
            · rw [if_neg hb]
              simp only [icmp_eql, beq_eq_false_iff_ne]
              exact hb
          · have e : icmp .eql (l.length : Int) 8 = false := by simp only [icmp_eql, beq_eq_false_iff_ne]; omega
            rw [if_neg e8, e, cond_false]
        · simp only [Nat.zero_add, if_neg h8, sel]
          refine ⟨(0, false), rfl, ?_⟩
          have : rdn l = none := by unfold rdn; rw [if_neg (by omega)]
          rw [this]
    exact key _ rfl
  · rintro k ⟨n, j⟩ b hb ⟨rfl, hk, hn, hn2⟩
    simp only at hn hn2 hk
    have hlt := (List.getElem?_eq_some_iff.1 hb).1
    have e1 : icmp .lss (j : Int) (l.length : Int) = true := by rw [icmp_lss]; exact decide_eq_true (by omega)
    have e2 : sidx l (j : Int) = some (b.toNat : Int) := by rw [sidx_nat, hb]; rfl
    have e3 : M.strings_IndexByte_s30313233343536373839616263646566 (b.toNat : Int) = hexd b := by
      unfold M.strings_IndexByte_s30313233343536373839616263646566 M.internal_stringslite_IndexByte_s30313233343536373839616263646566
      simp only [letv, hexd_find]
    have hd := hexd_ge b
    dsimp only
    rw [e1, cond_true, e2, Option.bind_some]
    simp only [letv, e3]
    by_cases h : hexd b < 0
    · have s1 : stepI (n, j) b = .inr (.inr (0, false)) := by unfold stepI; rw [if_pos (.inl h)]
      have s2 : icmp .lss (hexd b) 0 = true := by rw [icmp_lss]; exact decide_eq_true h
      rw [s1, s2, cond_true, cond_true]
    · have s2 : icmp .lss (hexd b) 0 = false := by rw [icmp_lss]; exact decide_eq_false h
      by_cases h8 : j = 8
      · have s1 : stepI (n, j) b = .inr (.inr (0, false)) := by unfold stepI; rw [if_pos (.inr h8)]
        have s3 : icmp .eql (j : Int) 8 = true := by simp [icmp_eql, h8]
        rw [s1, s2, s3, cond_false, cond_true]
      · have s1 : stepI (n, j) b = .inl (16 * n + hexd b, j + 1) := by unfold stepI; rw [if_neg (by simp only; omega)]
        have s3 : icmp .eql (j : Int) 8 = false := by simp only [icmp_eql, beq_eq_false_iff_ne]; omega
        have p8 : (16 : Int) ^ j ≤ 16 ^ 7 := by
          have := Nat.pow_le_pow_right (n := 16) (by omega) (show j ≤ 7 by omega)
          have a1 : ((16 ^ j : Nat) : Int) = (16 : Int) ^ j := by simp
          have a2 : ((16 ^ 7 : Nat) : Int) = (16 : Int) ^ 7 := by simp
          rw [← a1, ← a2]; omega
        have w1 : IntKind.i64.wrap (n * 16) = n * 16 := wrap_in (by omega)
        have w2 : IntKind.i64.wrap (n * 16 + hexd b) = 16 * n + hexd b := by rw [wrap_in (by omega)]; omega
        have w3 : IntKind.i64.wrap ((j : Int) + 1) = ((j + 1 : Nat) : Int) := by rw [wrap_in (by omega)]; rfl
        rw [s1, s2, s3, cond_false, cond_false, w1, w2, w3]
        refine ⟨rfl, rfl, by omega, by simp only; omega, ?_⟩
        simp only [Int.pow_succ]
        omega
  · rintro ⟨n, j⟩ ⟨h1, h2, h3, h4⟩
    dsimp only
    have e1 : icmp .lss (l.length : Int) (l.length : Int) = false := by rw [icmp_lss]; exact decide_eq_false (by omega)
    rw [e1, cond_false]
theorem wrap_u8 {n : Int} (h : 0 ≤ n ∧ n ≤ 255) : IntKind.u8.wrap n = n := by rw [IntKind.wrap_u8]; omega
def stepQ (out : List Nat) (p : List UInt8) : List Nat ⊕ (List Nat ⊕ (List Nat × Bool)) := match rdn p with
  | some x => if out.length = 256 then .inr (.inr ([], false)) else .inl (out ++ [x])
  | none => .inr (.inr ([], false))
theorem foldQ : ∀ (ps : List (List UInt8)) (out : List Nat), out.length ≤ 256 → foldE stepQ (fun a => .inl a) out ps = match ps.mapM rdn with
    | some xs => if out.length + ps.length ≤ 256 then .inl (out ++ xs) else .inr ([], false)
    | none => .inr ([], false) := by
  intro ps
  induction ps with
  | nil => intro out h; simp [foldE, h]
  | cons p ps ih =>
    intro out hl
    cases hp : rdn p with
    | none => rw [foldE_inr (e := .inr ([], false)) (by unfold stepQ; rw [hp]), mapM_cons_none hp]
    | some x =>
      by_cases h : out.length = 256
      · rw [foldE_inr (e := .inr ([], false)) (by unfold stepQ; rw [hp]; simp only [if_pos h])]
        cases h2 : ps.mapM rdn with
        | none => rw [mapM_cons_none2 hp h2]
        | some xs =>
          rw [mapM_cons_some hp h2]
          simp only [List.length_cons]
          rw [if_neg (by omega)]
      · rw [foldE_inl (a' := out ++ [x]) (by unfold stepQ; rw [hp]; simp only [if_neg h]), ih _ (by simp; omega)]
        cases h2 : ps.mapM rdn with
        | none => rw [mapM_cons_none2 hp h2]
        | some xs =>
          rw [mapM_cons_some hp h2]
          simp only [List.length_append, List.length_cons, List.length_nil, Nat.zero_add, List.append_assoc, List.singleton_append]
          rw [show out.length + 1 + ps.length = out.length + (ps.length + 1) by omega]
/-- A list of numbers with a text. -/
def rdnums (l : List UInt8) : List Nat × Bool := if l = [110, 111, 110, 101] then ([], true) else match (splitB 44 l).mapM rdn with
  | some xs => if (splitB 44 l).length ≤ 256 then (xs, true) else ([], false)
  | none => ([], false)
theorem pow16 {j : Nat} (h : j ≤ 7) : (16 : Int) ^ j ≤ 268435456 := by
  have := Nat.pow_le_pow_right (n := 16) (by omega) h
  have a1 : ((16 ^ j : Nat) : Int) = (16 : Int) ^ j := by simp
  have a2 : (16 ^ 7 : Nat) = 268435456 := by decide
  rw [← a1]; omega
theorem inums (l : List UInt8) (hl : l.length ≤ 1048576) : M.impl_ReadNumbers l = some (rdnums l) := by
  have key : ∀ (ps : List (List UInt8)), ps.length ≤ 1048577 → (∀ p ∈ ps, p.length ≤ 1048576) → (loopM (fun (s8 : List Nat × Int) =>
      bif (icmp .lss s8.2 ((ps).length : Int)) then
        (idx ps s8.2).bind fun m11 =>
        (M.impl_readNumber m11).bind fun m13 =>
        letv (
            bif m13.2 then
              (icmp .eql ((s8.1).length : Int) 256)
            else
              true) fun m16 =>
        bif m16 then
          some (.inr (.inr ([], false)))
        else
          (app 4 s8.1 ([m13.1])).bind fun m28 =>
          some (.inl (m28, (IntKind.i64.wrap (s8.2 + 1))))
      else
        some (.inr (.inl s8.1))) ((([] : List Nat), 0) : List Nat × Int)) = some ((match ps.mapM rdn with
        | some xs => if ps.length ≤ 256 then .inl xs else .inr ([], false)
        | none => .inr ([], false)) : List Nat ⊕ (List Nat × Bool)) := by
    intro ps hps hp8
    rw [loopM_list (s0 := ((([] : List Nat), 0) : List Nat × Int)) ps (fun (a : List Nat) k => (a, (k : Int))) stepQ (fun a => .inl a) (fun k a => a.length = k ∧ k ≤ 256) ?_ ?_ [] ⟨rfl, by omega⟩ rfl]
    · rw [foldQ _ _ (by simp)]
      cases ps.mapM rdn with
      | none => rfl
      | some xs => simp only [List.length_nil, Nat.zero_add, List.nil_append]
    · rintro k out p hp ⟨rfl, hk⟩
      have hlt := (List.getElem?_eq_some_iff.1 hp).1
      have f1 : icmp .lss (out.length : Int) (ps.length : Int) = true := by rw [icmp_lss]; exact decide_eq_true (by omega)
      obtain ⟨r, hr, hr2⟩ := irdn p (hp8 p (List.mem_of_getElem? hp))
      dsimp only
      rw [f1, cond_true, idx_nat, hp, Option.bind_some, hr, Option.bind_some]
      unfold stepQ
      cases hq : rdn p with
      | none =>
        rw [hq] at hr2
        simp only at hr2
        simp only [letv, hr2, cond_false, cond_true]
      | some x =>
        rw [hq] at hr2
        simp only at hr2
        subst hr2
        simp only [letv, cond_true]
        by_cases h6 : out.length = 256
        · have f2 : icmp .eql (out.length : Int) 256 = true := by simp [icmp_eql, h6]
          rw [if_pos h6, f2, cond_true]
        · have f2 : icmp .eql (out.length : Int) 256 = false := by simp only [icmp_eql, beq_eq_false_iff_ne]; omega
          have w : IntKind.i64.wrap ((out.length : Int) + 1) = ((out.length + 1 : Nat) : Int) := by rw [wrap_in (by omega)]; rfl
          rw [if_neg h6, f2, cond_false, app_small (by simp only [List.length_singleton]; omega), Option.bind_some, w]
          exact ⟨rfl, by simp, by omega⟩
    · rintro out ⟨h1, h2⟩
      have f1 : icmp .lss (ps.length : Int) (ps.length : Int) = false := by rw [icmp_lss]; exact decide_eq_false (by omega)
      dsimp only
      rw [f1, cond_false]
  unfold M.impl_ReadNumbers M.impl_parted rdnums
  by_cases hn : l = [110, 111, 110, 101]
  · have : (l == [110, 111, 110, 101]) = true := by simpa using hn
    rw [this, cond_true, if_pos hn, Option.bind_some, key [] (by simp) (by simp)]
    rfl
  · have : (l == [110, 111, 110, 101]) = false := by simpa using hn
    rw [this, cond_false, if_neg hn, split_eq l hl, Option.bind_some, Option.bind_some, key _ (by have := splitB_le 44 l; omega) (fun p hp => Nat.le_trans (splitB_mem hp) hl), Option.bind_some]
    cases (splitB 44 l).mapM rdn with
    | none => rfl
    | some xs =>
      simp only
      split <;> rfl
theorem len3 {l : List Nat} (h : l.length = 3) : ∃ a b c, l = [a, b, c] := by
  match l, h with
  | [a, b, c], _ => exact ⟨a, b, c, rfl⟩
theorem eta_v (v : SVector) : (⟨v.x, v.y, v.z⟩ : SVector) = v := rfl
/-- Three numbers with a text; else none. -/
def vread (l : List UInt8) : SVector × Bool := if (rdnums l).2 = true ∧ (rdnums l).1.length = 3 then (⟨(rdnums l).1.getD 0 0, (rdnums l).1.getD 1 0, (rdnums l).1.getD 2 0⟩, true) else (⟨0, 0, 0⟩, false)
theorem vec_of (r : List Nat × Bool) : (letv (bif r.2 then icmp .neq (r.1.length : Int) 3 else true) fun m9 =>
    bif m9 then some ((⟨0, 0, 0⟩ : SVector), false) else (idx r.1 0).bind fun m21 => (idx r.1 1).bind fun m22 => (idx r.1 2).bind fun m23 => some ((⟨m21, m22, m23⟩ : SVector), true))
    = some (if r.2 = true ∧ r.1.length = 3 then (⟨r.1.getD 0 0, r.1.getD 1 0, r.1.getD 2 0⟩, true) else (⟨0, 0, 0⟩, false)) := by
  have i0 : ∀ xs : List Nat, idx xs 0 = xs[0]? := fun xs => idx_nat xs 0
  have i1 : ∀ xs : List Nat, idx xs 1 = xs[1]? := fun xs => idx_nat xs 1
  have i2 : ∀ xs : List Nat, idx xs 2 = xs[2]? := fun xs => idx_nat xs 2
  simp only [letv, i0, i1, i2]
  by_cases h : r.2 = true ∧ r.1.length = 3
  · rw [if_pos h]
    obtain ⟨h1, h2⟩ := h
    obtain ⟨a, b, c, habc⟩ := len3 h2
    simp only [h1, habc, cond_true, List.length_cons, List.length_nil, List.getElem?_cons_zero, List.getElem?_cons_succ, Option.bind_some, List.getD_cons_zero, List.getD_cons_succ]
    rfl
  · rw [if_neg h]
    have e : (bif r.2 then icmp .neq (r.1.length : Int) 3 else true) = true := by
      cases hr : r.2 with
      | false => rfl
      | true =>
        rw [cond_true]
        simp only [icmp_neq, bne_iff_ne, ne_eq]
        intro h3
        exact h ⟨hr, by omega⟩
    rw [e, cond_true]
theorem ivec (l : List UInt8) (hl : l.length ≤ 1048576) : M.impl_ReadVector l = some (vread l) := by
  unfold M.impl_ReadVector vread
  rw [inums l hl, Option.bind_some]
  exact vec_of _
theorem u8s_nat (l : List UInt8) : u8s (l.map fun b => (b.toNat : Int)) = l := by
  unfold u8s
  rw [List.map_map]
  induction l with
  | nil => rfl
  | cons b l ih => rw [List.map_cons, ih]; simp
theorem scat_ok {a b : List UInt8} (h : a.length + b.length ≤ 9223372036854775807) : scat a b = some (a ++ b) := by
  unfold scat
  rw [if_pos (by omega)]
theorem lss_lt {k n : Nat} (h : k < n) : icmp .lss (k : Int) (n : Int) = true := by rw [icmp_lss]; exact decide_eq_true (by omega)
theorem lss_self (n : Nat) : icmp .lss (n : Int) (n : Int) = false := by rw [icmp_lss]; exact decide_eq_false (by omega)
theorem succ_wrap {k : Nat} (h : k ≤ 9223372036854775806) : IntKind.i64.wrap ((k : Int) + 1) = ((k + 1 : Nat) : Int) := by rw [wrap_in (by omega)]; rfl
/-- A row that is compared with itself. -/
theorem eqLoop (xs : List α) (B : Int → Option (Int ⊕ (Unit ⊕ Bool))) (h1 : ∀ (k : Nat) x, xs[k]? = some x → B (k : Int) = some (.inl ((k + 1 : Nat) : Int))) (h2 : B (xs.length : Int) = some (.inr (.inl ()))) : loopM B (0 : Int) = some (.inl ()) := by
  rw [loopM_run' (e := (.inl () : Unit ⊕ Bool)) (s0 := (0 : Int)) xs.length (fun k => (k : Int)) rfl ?_ h2]
  intro k hk
  exact h1 k xs[k] (List.getElem?_eq_getElem hk)
/-- Texts told into a row. -/
theorem collectLoop {β : Type} (xs : List α) (t : α → β) (B : List β × Int → Option ((List β × Int) ⊕ List β)) (h1 : ∀ (k : Nat) (out : List β) x, xs[k]? = some x → out.length = k → B (out, (k : Int)) = some (.inl (out ++ [t x], ((k + 1 : Nat) : Int))))
    (h2 : ∀ out, B (out, (xs.length : Int)) = some (.inr out)) : loopM B ([], 0) = some (xs.map t) := by
  rw [loopM_list (s0 := (([], 0) : List β × Int)) xs (fun (a : List β) k => (a, (k : Int))) (fun a x => .inl (a ++ [t x])) (fun a => a) (fun k a => a.length = k) ?_ ?_ [] rfl rfl]
  · congr 1
    have key : ∀ (l : List α) (a : List β), foldE (fun (a : List β) (x : α) => (.inl (a ++ [t x]) : List β ⊕ List β)) (fun a => a) a l = a ++ l.map t := by
      intro l
      induction l with
      | nil => intro a; simp [foldE_nil]
      | cons x l ih => intro a; rw [foldE_inl rfl, ih]; simp
    rw [key]; rfl
  · rintro k a x hx hk
    exact ⟨h1 k a x hx hk, by rw [List.length_append, List.length_singleton, hk]⟩
  · rintro a _
    exact h2 a
/-- A digit of a number's bits. -/
def hdg (n : Int) (s : Nat) : UInt8 := ([48, 49, 50, 51, 52, 53, 54, 55, 56, 57, 97, 98, 99, 100, 101, 102] : List UInt8).getD (iand .i64 (n.fdiv (2 ^ s)) 15).toNat 0
theorem and15 (n : Int) : 0 ≤ iand .i64 n 15 ∧ iand .i64 n 15 < 16 := by
  unfold iand
  have h : (BitVec.ofInt IntKind.i64.bits n &&& BitVec.ofInt IntKind.i64.bits 15).toNat < 16 := by
    rw [BitVec.toNat_and]
    have : (BitVec.ofInt IntKind.i64.bits 15).toNat = 15 := by decide
    rw [this]
    exact Nat.lt_of_le_of_lt Nat.and_le_right (by omega)
  rw [wrap_in (by omega)]
  omega
theorem hexAt (n : Int) (s : Nat) : sidx ([48, 49, 50, 51, 52, 53, 54, 55, 56, 57, 97, 98, 99, 100, 101, 102] : List UInt8) (iand .i64 (n.fdiv (2 ^ s)) 15) = some ((hdg n s).toNat : Int) := by
  obtain ⟨h0, h1⟩ := and15 (n.fdiv (2 ^ s))
  unfold hdg
  generalize iand .i64 (n.fdiv (2 ^ s)) 15 = i at *
  obtain ⟨k, rfl⟩ : ∃ k : Nat, i = k := ⟨i.toNat, by omega⟩
  rw [sidx_nat, Int.toNat_natCast, List.getD_eq_getElem?_getD, List.getElem?_eq_getElem (by simp; omega)]
  rfl
/-- The eight digits of a number. -/
def hexT (x : Nat) : List UInt8 := [hdg (M.spec_l01Bits x) 28, hdg (M.spec_l01Bits x) 24, hdg (M.spec_l01Bits x) 20, hdg (M.spec_l01Bits x) 16, hdg (M.spec_l01Bits x) 12, hdg (M.spec_l01Bits x) 8, hdg (M.spec_l01Bits x) 4, hdg (M.spec_l01Bits x) 0]
theorem hexT_len (x : Nat) : (hexT x).length = 8 := rfl
theorem app1 {a : List Int} {x : Int} (h : a.length ≤ 100) : app 1 a [x] = some (a ++ [x]) := app_small (by simp only [List.length_singleton]; omega)
theorem bitsEq (x : Nat) : M.impl_BitsOf x = M.spec_l01Bits x := by
  unfold M.impl_BitsOf M.spec_l01Bits M.impl_isNaN
  rfl
/-- Texts with a letter between; none without any. -/
def jtext (c : UInt8) (xs : List (List UInt8)) : List UInt8 := if xs = [] then [110, 111, 110, 101] else Lib.join xs [c]
theorem join_len (c : UInt8) (L : Nat) : ∀ (xs : List (List UInt8)), (∀ x ∈ xs, x.length ≤ L) → (Lib.join xs [c]).length ≤ xs.length * (L + 1) := by
  intro xs
  cases xs with
  | nil => intro _; simp [Lib.join]
  | cons x r =>
    intro h
    rw [Lib.join_cons, List.length_append]
    have key : ∀ (l : List (List UInt8)), (∀ x ∈ l, x.length ≤ L) → (Lib.joinTail [c] l).length ≤ l.length * (L + 1) := by
      intro l
      induction l with
      | nil => intro _; simp [Lib.joinTail]
      | cons y l ih =>
        intro h
        have e : Lib.joinTail [c] (y :: l) = [c] ++ y ++ Lib.joinTail [c] l := by simp [Lib.joinTail]
        rw [e, List.length_append, List.length_append, List.length_singleton, List.length_cons, Nat.add_mul]
        have := ih fun z hz => h z (by simp [hz])
        have := h y (by simp)
        omega
    have h1 := key r fun z hz => h z (by simp [hz])
    have h2 := h x (by simp)
    rw [List.length_cons, Nat.add_mul]
    omega
theorem jtext_len (c : UInt8) (L : Nat) (xs : List (List UInt8)) (h : ∀ x ∈ xs, x.length ≤ L) : (jtext c xs).length ≤ xs.length * (L + 1) + 4 := by
  unfold jtext
  split
  · simp
  · have := join_len c L xs h; omega
def ntext (xs : List Nat) : List UInt8 := jtext 44 (xs.map hexT)
theorem ntext_len (xs : List Nat) : (ntext xs).length ≤ xs.length * 9 + 4 := by
  have := jtext_len 44 8 (xs.map hexT) (fun x hx => by obtain ⟨y, _, rfl⟩ := List.mem_map.1 hx; exact Nat.le_refl _)
  rw [List.length_map] at this
  exact this
theorem sjoin_ok {c : UInt8} {xs : List (List UInt8)} (L : Nat) (h : ∀ x ∈ xs, x.length ≤ L) (hn : xs.length * (L + 1) ≤ 140737488355328) (hn2 : xs.length ≤ 140737488355328) : sjoin xs [c] = some (Lib.join xs [c]) := by
  unfold sjoin
  have := join_len c L xs h
  rw [if_pos ⟨hn2, by omega⟩]
theorem ijoined (xs : List (List UInt8)) (L : Nat) (h : ∀ x ∈ xs, x.length ≤ L) (hn : xs.length * (L + 1) ≤ 140737488355328) (hn2 : xs.length ≤ 140737488355328) : M.impl_joined xs = some (jtext 44 xs) := by
  unfold M.impl_joined jtext
  cases xs with
  | nil => rfl
  | cons x0 r =>
    have e0 : icmp .eql ((x0 :: r).length : Int) 0 = false := by simp only [icmp_eql, beq_eq_false_iff_ne, List.length_cons]; omega
    rw [e0, cond_false, sjoin_ok L h hn hn2, Option.bind_some, if_neg (by simp)]
theorem intext (xs : List Nat) (hl : xs.length ≤ 256) : M.impl_NumbersText xs = some (ntext xs, true) := by
  unfold M.impl_NumbersText M.impl_listOk
  have e0 : icmp .leq (xs.length : Int) 256 = true := by rw [icmp_leq]; exact decide_eq_true (by omega)
  simp only [letv, e0, Bool.not_true, cond_false, bitsEq, hexAt, Option.bind_some]
  rw [collectLoop xs hexT _ ?_ ?_, Option.bind_some, ijoined (xs.map hexT) 8 (fun x hx => by obtain ⟨y, _, rfl⟩ := List.mem_map.1 hx; exact Nat.le_refl _) (by rw [List.length_map]; omega) (by rw [List.length_map]; omega), Option.bind_some]
  · rfl
  · intro k out x hx hk
    have hlt := (List.getElem?_eq_some_iff.1 hx).1
    dsimp only
    rw [lss_lt hlt, cond_true, idx_nat, hx, Option.bind_some, app1 (by simp), Option.bind_some, app1 (by simp), Option.bind_some, app1 (by simp), Option.bind_some, app1 (by simp), Option.bind_some, app1 (by simp), Option.bind_some, app1 (by simp), Option.bind_some, app1 (by simp), Option.bind_some, app1 (by simp), Option.bind_some]
    have e1 : u8s ([] ++ [((hdg (M.spec_l01Bits x) 28).toNat : Int)] ++ [((hdg (M.spec_l01Bits x) 24).toNat : Int)] ++ [((hdg (M.spec_l01Bits x) 20).toNat : Int)] ++ [((hdg (M.spec_l01Bits x) 16).toNat : Int)] ++ [((hdg (M.spec_l01Bits x) 12).toNat : Int)] ++ [((hdg (M.spec_l01Bits x) 8).toNat : Int)] ++ [((hdg (M.spec_l01Bits x) 4).toNat : Int)] ++ [((hdg (M.spec_l01Bits x) 0).toNat : Int)]) = hexT x := u8s_nat (hexT x)
    rw [e1, app_small (by simp only [List.length_singleton]; omega), Option.bind_some, succ_wrap (by omega)]
  · intro out
    dsimp only
    rw [lss_self, cond_false]
theorem neq_self (n : Int) : icmp .neq n n = false := by simp [icmp_neq]
/-- Pieces without a letter, with that letter between, cut at it. -/
theorem splitA_free {c : UInt8} : ∀ (p cur rest : List UInt8), c ∉ p → splitA c cur (p ++ rest) = splitA c (cur ++ p) rest := by
  intro p
  induction p with
  | nil => intro cur rest _; simp
  | cons b p ih =>
    intro cur rest h
    have hb : b ≠ c := fun e => h (by simp [e])
    rw [List.cons_append, splitA, if_neg hb, ih _ _ (fun hc => h (by simp [hc]))]
    simp
theorem splitB_join {c : UInt8} (p0 : List UInt8) (r : List (List UInt8)) (h : ∀ p ∈ p0 :: r, c ∉ p) : splitB c (Lib.join (p0 :: r) [c]) = p0 :: r := by
  unfold splitB
  rw [Lib.join_cons]
  induction r generalizing p0 with
  | nil =>
    have := splitA_free p0 [] [] (h p0 (by simp))
    rw [List.nil_append] at this
    exact this
  | cons p1 r ih =>
    have e : Lib.joinTail [c] (p1 :: r) = [c] ++ (p1 ++ Lib.joinTail [c] r) := by simp [Lib.joinTail]
    rw [e, splitA_free p0 [] _ (h p0 (by simp)), List.nil_append, List.singleton_append, splitA, if_pos rfl, ih p1 fun p hp => h p (by simp [List.mem_cons.1 hp])]
theorem hdg_val {n : Int} (h0 : 0 ≤ n) (h1 : n < 4294967296) (s : Nat) : iand .i64 (n.fdiv (2 ^ s)) 15 = (n / 2 ^ s) % 16 := by
  have hp : (0 : Int) < 2 ^ s := Int.pow_pos (by omega)
  rw [Int.fdiv_eq_ediv_of_nonneg _ (by omega)]
  have hq0 : 0 ≤ n / 2 ^ s := Int.ediv_nonneg h0 (by omega)
  have hq1 : n / 2 ^ s ≤ n := Int.ediv_le_self _ h0
  generalize n / 2 ^ s = q at *
  obtain ⟨k, rfl⟩ : ∃ k : Nat, q = k := ⟨q.toNat, by omega⟩
  unfold iand
  have e1 : (BitVec.ofInt IntKind.i64.bits (k : Int)).toNat = k := by
    rw [BitVec.toNat_ofInt]
    have : IntKind.i64.bits = 64 := rfl
    rw [this]
    omega
  have e2 : (BitVec.ofInt IntKind.i64.bits 15).toNat = 15 := by decide
  rw [BitVec.toNat_and, e1, e2, show (15 : Nat) = 2 ^ 4 - 1 from rfl, Nat.and_two_pow_sub_one_eq_mod]
  rw [wrap_in (by omega)]
  omega
theorem hdg_hex {n : Int} (h0 : 0 ≤ n) (h1 : n < 4294967296) (s : Nat) : hexd (hdg n s) = (n / 2 ^ s) % 16 ∧ hdg n s ≠ 44 ∧ hdg n s ≠ 110 := by
  unfold hdg
  rw [hdg_val h0 h1]
  have hm : 0 ≤ (n / 2 ^ s) % 16 ∧ (n / 2 ^ s) % 16 < 16 := ⟨Int.emod_nonneg _ (by omega), Int.emod_lt_of_pos _ (by omega)⟩
  generalize (n / 2 ^ s) % 16 = m at *
  obtain ⟨k, rfl⟩ : ∃ k : Nat, m = k := ⟨m.toNat, by omega⟩
  rw [Int.toNat_natCast]
  have key : ∀ i : Fin 16, hexd (([48, 49, 50, 51, 52, 53, 54, 55, 56, 57, 97, 98, 99, 100, 101, 102] : List UInt8).getD i.val 0) = (i.val : Int) ∧ ([48, 49, 50, 51, 52, 53, 54, 55, 56, 57, 97, 98, 99, 100, 101, 102] : List UInt8).getD i.val 0 ≠ 44 ∧ ([48, 49, 50, 51, 52, 53, 54, 55, 56, 57, 97, 98, 99, 100, 101, 102] : List UInt8).getD i.val 0 ≠ 110 := by decide +kernel
  exact key ⟨k, by omega⟩
theorem bits_range {x : Nat} (h : x < 4294967296) : 0 ≤ bitsOf x ∧ bitsOf x < 4294967296 := by
  unfold bitsOf
  cases fcmp .neq .f32 x x with
  | true => rw [cond_true]; omega
  | false => rw [cond_false]; omega
theorem can_lt {x : Nat} (h : Go.Fl.Can .f32 x) : x < 4294967296 := by
  have := h.2
  rwa [wd32] at this
theorem cn_bits {x : Nat} (h : Go.Fl.Can .f32 x) : cn .f32 (bitsOf x).toNat = x := by
  unfold bitsOf
  rw [ne_self]
  cases hn : isNaN .f32 x with
  | true =>
    have e : x = qnan .f32 := by rw [← h.1, cn_nan hn]
    simp only [cond_true]
    rw [e]
    exact cn_nan (isNaN_qnan .f32)
  | false =>
    simp only [cond_false, Int.toNat_natCast]
    exact h.1
theorem hexT_free (x : Nat) (h : x < 4294967296) : (44 : UInt8) ∉ hexT x ∧ (110 : UInt8) ∉ hexT x := by
  obtain ⟨b0, b1⟩ := bits_range h
  have key : ∀ s, hdg (M.spec_l01Bits x) s ≠ 44 ∧ hdg (M.spec_l01Bits x) s ≠ 110 := by
    intro s
    rw [sbits x h]
    exact (hdg_hex b0 b1 s).2
  unfold hexT
  constructor
  · intro hm
    simp only [List.mem_cons, List.not_mem_nil, or_false] at hm
    rcases hm with e | e | e | e | e | e | e | e <;> exact (key _).1 e.symm
  · intro hm
    simp only [List.mem_cons, List.not_mem_nil, or_false] at hm
    rcases hm with e | e | e | e | e | e | e | e <;> exact (key _).2 e.symm
theorem hexn_hexT {x : Nat} (h : x < 4294967296) : hexn 0 (hexT x) = some (bitsOf x) := by
  obtain ⟨b0, b1⟩ := bits_range h
  unfold hexT
  rw [sbits x h]
  generalize bitsOf x = n at *
  have d := fun s => (hdg_hex b0 b1 s).1
  have pos : ∀ s, ¬ hexd (hdg n s) < 0 := fun s => by
    rw [d s]
    have := Int.emod_nonneg (n / 2 ^ s) (show (16 : Int) ≠ 0 by omega)
    omega
  simp only [hexn, if_neg (pos _)]
  rw [d 28, d 24, d 20, d 16, d 12, d 8, d 4, d 0]
  simp only [Int.reducePow]
  congr 1
  omega
theorem rdn_hexT {x : Nat} (h : Go.Fl.Can .f32 x) : rdn (hexT x) = some x := by
  unfold rdn
  rw [if_pos (hexT_len x), hexn_hexT (can_lt h), Option.bind_some, cn_bits h, if_pos rfl]
theorem join_ne_none (p0 : List UInt8) (r : List (List UInt8)) (h : p0 ≠ []) (hn : (110 : UInt8) ∉ p0) : Lib.join (p0 :: r) [44] ≠ [110, 111, 110, 101] := by
  rw [Lib.join_cons]
  cases p0 with
  | nil => exact absurd rfl h
  | cons b p =>
    intro e
    rw [List.cons_append] at e
    exact hn (by rw [(List.cons.inj e).1]; simp)
theorem mapM_map {α β : Type} (f : β → Option α) (g : α → β) : ∀ (xs : List α), (∀ x ∈ xs, f (g x) = some x) → (xs.map g).mapM f = some xs := by
  intro xs
  induction xs with
  | nil => intro _; rfl
  | cons x xs ih =>
    intro h
    rw [List.map_cons, List.mapM_cons, h x (by simp), ih fun y hy => h y (by simp [hy])]
    rfl
/-- Numbers are read from their text. -/
theorem rdnums_ntext (xs : List Nat) (hc : ∀ x ∈ xs, Go.Fl.Can .f32 x) (hl : xs.length ≤ 256) : rdnums (ntext xs) = (xs, true) := by
  unfold rdnums ntext jtext
  cases xs with
  | nil => rfl
  | cons x0 r =>
    have free : ∀ p ∈ (x0 :: r).map hexT, (44 : UInt8) ∉ p := by
      intro p hp
      obtain ⟨y, hy, rfl⟩ := List.mem_map.1 hp
      exact (hexT_free y (can_lt (hc y hy))).1
    have hne : Lib.join ((x0 :: r).map hexT) [44] ≠ [110, 111, 110, 101] := join_ne_none (hexT x0) (r.map hexT) (by unfold hexT; simp) (hexT_free x0 (can_lt (hc x0 (by simp)))).2
    have hs : splitB 44 (Lib.join ((x0 :: r).map hexT) [44]) = (x0 :: r).map hexT := splitB_join (hexT x0) (r.map hexT) free
    have e0 : (if (x0 :: r).map hexT = [] then ([110, 111, 110, 101] : List UInt8) else Lib.join ((x0 :: r).map hexT) [44]) = Lib.join ((x0 :: r).map hexT) [44] := if_neg (by simp)
    rw [e0, if_neg hne, hs, mapM_map rdn hexT (x0 :: r) fun x hx => rdn_hexT (hc x hx)]
    simp only [List.length_map]
    rw [if_pos hl]
theorem ntext_len_eq (xs : List Nat) (h : xs ≠ []) : (ntext xs).length = 9 * xs.length - 1 := by
  unfold ntext jtext
  cases xs with
  | nil => exact absurd rfl h
  | cons x0 r =>
    rw [if_neg (by simp), List.map_cons, Lib.join_cons, List.length_append, hexT_len]
    have key : ∀ l : List Nat, (Lib.joinTail [44] (l.map hexT)).length = 9 * l.length := by
      intro l
      induction l with
      | nil => rfl
      | cons y l ih =>
        have e : Lib.joinTail [44] ((y :: l).map hexT) = [44] ++ hexT y ++ Lib.joinTail [44] (l.map hexT) := by simp [Lib.joinTail]
        rw [e, List.length_append, List.length_append, hexT_len, ih]
        simp only [List.length_cons, List.length_nil]
        omega
    rw [key, List.length_cons]
    omega
/-- What the drawing's source keeps. -/
def SI (p : List Int) (s : Sl00Src) (b : Nat) : Prop := s.code = p ∧ 0 ≤ s.at_ ∧ s.at_ ≤ b
def byt (p : List Int) : Prop := ∀ x ∈ p, 0 ≤ x ∧ x ≤ 255
theorem and255 (n : Int) : 0 ≤ iand .u64 n 255 ∧ iand .u64 n 255 ≤ 255 := by
  unfold iand
  have h : (BitVec.ofInt IntKind.u64.bits n &&& BitVec.ofInt IntKind.u64.bits 255).toNat ≤ 255 := by
    rw [BitVec.toNat_and]
    have : (BitVec.ofInt IntKind.u64.bits 255).toNat = 255 := by decide
    rw [this]
    exact Nat.and_le_right
  rw [IntKind.wrap_u64]
  omega
theorem next_ok {p : List Int} {s : Sl00Src} {b : Nat} (hp : byt p) (h : SI p s b) (hb : b ≤ 100000) : ∃ v s', M.spec_l00Src_next s = some (v, s') ∧ 0 ≤ v ∧ v ≤ 255 ∧ SI p s' (b + 1) := by
  obtain ⟨rfl, h0, h1⟩ := h
  unfold M.spec_l00Src_next
  have w1 : IntKind.i64.wrap (s.at_ + 1) = s.at_ + 1 := wrap_in (by omega)
  simp only [w1]
  have aw : ∀ n, 0 ≤ IntKind.i64.wrap (iand .u64 n 255) ∧ IntKind.i64.wrap (iand .u64 n 255) ≤ 255 := fun n => by
    have := and255 n
    rw [wrap_in (by omega)]
    exact this
  have si : ∀ sd, SI s.code ⟨s.code, s.at_ + 1, sd⟩ (b + 1) := fun sd => ⟨rfl, by simp only; omega, by simp only; omega⟩
  by_cases hl : s.at_ < (s.code.length : Int)
  · have e1 : icmp .lss s.at_ (s.code.length : Int) = true := by rw [icmp_lss]; exact decide_eq_true hl
    obtain ⟨k, hk⟩ : ∃ k : Nat, s.at_ = k := ⟨s.at_.toNat, by omega⟩
    have e2 : idx s.code s.at_ = some (s.code[k]'(by omega)) := by rw [hk, idx_nat, List.getElem?_eq_getElem (by omega)]
    have hr := hp _ (List.getElem_mem (show k < s.code.length by omega))
    rw [e1, cond_true, e2, Option.bind_some]
    generalize s.code[k]'(by omega) = m at *
    cases icmp .leq (s.at_ + 1) (s.code.length : Int) with
    | true => rw [cond_true]; exact ⟨_, _, rfl, by rw [wrap_in (by omega)]; exact hr.1, by rw [wrap_in (by omega)]; exact hr.2, si _⟩
    | false => rw [cond_false]; exact ⟨_, _, rfl, (aw _).1, (aw _).2, si _⟩
  · have e1 : icmp .lss s.at_ (s.code.length : Int) = false := by rw [icmp_lss]; exact decide_eq_false hl
    rw [e1, cond_false]
    cases icmp .leq (s.at_ + 1) (s.code.length : Int) with
    | true => rw [cond_true]; exact ⟨_, _, rfl, by omega, by omega, si _⟩
    | false => rw [cond_false]; exact ⟨_, _, rfl, (aw _).1, (aw _).2, si _⟩
theorem irem_ok {x n : Int} (h0 : 0 ≤ x) (hn : 0 < n) : ∃ v, irem x n = some v ∧ 0 ≤ v ∧ v < n := by
  unfold irem
  rw [if_neg (by omega)]
  exact ⟨_, rfl, by rw [Int.tmod_eq_emod_of_nonneg h0]; exact Int.emod_nonneg _ (by omega), by rw [Int.tmod_eq_emod_of_nonneg h0]; exact Int.emod_lt_of_pos _ hn⟩
theorem pick_ok {p : List Int} {s : Sl00Src} {b : Nat} (hp : byt p) (h : SI p s b) (hb : b ≤ 99990) {n : Int} (hn : 0 < n ∧ n ≤ 65536) : ∃ v s', M.spec_l00Src_pick s n = some (v, s') ∧ 0 ≤ v ∧ v < n ∧ SI p s' (b + 2) := by
  unfold M.spec_l00Src_pick
  by_cases h1 : n ≤ 1
  · have e : icmp .leq n 1 = true := by rw [icmp_leq]; exact decide_eq_true h1
    rw [e, cond_true]
    exact ⟨0, s, rfl, by omega, by omega, h.1, h.2.1, by have := h.2.2; omega⟩
  · have e : icmp .leq n 1 = false := by rw [icmp_leq]; exact decide_eq_false h1
    obtain ⟨v, s1, e1, v0, v1, i1⟩ := next_ok hp h (by omega)
    have eta1 : (⟨s.code, s1.at_, s1.seed⟩ : Sl00Src) = s1 := by rw [h.1, ← i1.1]
    rw [e, cond_false, e1, Option.bind_some]
    simp only [eta1]
    by_cases h2 : n > 200
    · have e2 : icmp .gtr n 200 = true := by rw [icmp_gtr]; exact decide_eq_true h2
      obtain ⟨u, s2, e3, u0, u1, i2⟩ := next_ok hp i1 (by omega)
      have eta2 : (⟨s.code, s2.at_, s2.seed⟩ : Sl00Src) = s2 := by rw [h.1, ← i2.1]
      have w1 : IntKind.i64.wrap (v * 256) = v * 256 := wrap_in (by omega)
      have w2 : IntKind.i64.wrap (v * 256 + u) = v * 256 + u := wrap_in (by omega)
      obtain ⟨q, e4, q0, q1⟩ := irem_ok (x := v * 256 + u) (n := n) (by omega) hn.1
      rw [e2, cond_true, e3, Option.bind_some, w1, w2, e4, Option.bind_some]
      exact ⟨q, s2, by rw [eta2], q0, q1, i2⟩
    · have e2 : icmp .gtr n 200 = false := by rw [icmp_gtr]; exact decide_eq_false h2
      obtain ⟨q, e4, q0, q1⟩ := irem_ok (x := v) (n := n) v0 hn.1
      rw [e2, cond_false, e4, Option.bind_some]
      exact ⟨q, s1, rfl, q0, q1, i1.1, i1.2.1, by have := i1.2.2; omega⟩
theorem one_ok {p : List Int} {s : Sl00Src} {b : Nat} (hp : byt p) (h : SI p s b) (hb : b ≤ 99990) {n : Int} (hn : 0 < n ∧ n ≤ 65536) : ∃ v s', M.spec_l00Src_one s n = some (v, s') ∧ SI p s' (b + 2) := by
  unfold M.spec_l00Src_one
  obtain ⟨v, s1, e1, _, _, i1⟩ := pick_ok hp h hb hn
  have eta1 : (⟨s.code, s1.at_, s1.seed⟩ : Sl00Src) = s1 := by rw [h.1, ← i1.1]
  rw [e1, Option.bind_some]
  simp only [eta1]
  exact ⟨_, s1, rfl, i1⟩
theorem plain_ok {p : List Int} {s : Sl00Src} {b : Nat} (hp : byt p) (h : SI p s b) (hb : b ≤ 99980) : ∃ v s', M.spec_l01DrawPlain s = some (v, s') ∧ Go.Fl.Can .f32 v ∧ SI p s' (b + 4) := by
  unfold M.spec_l01DrawPlain
  obtain ⟨v, s1, e1, _, _, i1⟩ := pick_ok hp h (by omega) (n := 129) (by omega)
  have eta1 : (⟨s.code, s1.at_, s1.seed⟩ : Sl00Src) = s1 := by rw [h.1, ← i1.1]
  obtain ⟨q, s2, e2, i2⟩ := one_ok hp i1 (by omega) (n := 4) (by omega)
  have eta2 : (⟨s.code, s2.at_, s2.seed⟩ : Sl00Src) = s2 := by rw [h.1, ← i2.1]
  rw [e1, Option.bind_some]
  simp only [eta1]
  rw [e2, Option.bind_some]
  simp only [eta2]
  cases q with
  | true => exact ⟨_, s2, rfl, can_fop _ _ _ _, i2⟩
  | false => exact ⟨_, s2, rfl, can_fop _ _ _ _, i2⟩
theorem among_ok {p : List Int} {s : Sl00Src} {b : Nat} (hp : byt p) (h : SI p s b) (hb : b ≤ 99980) {l : List Int} (hl : 0 < l.length ∧ l.length ≤ 100) : ∃ v s', M.spec_l00Src_among s l = some (v, s') ∧ SI p s' (b + 2) := by
  unfold M.spec_l00Src_among
  obtain ⟨v, s1, e1, v0, v1, i1⟩ := pick_ok hp h (by omega) (n := (l.length : Int)) (by omega)
  have eta1 : (⟨s.code, s1.at_, s1.seed⟩ : Sl00Src) = s1 := by rw [h.1, ← i1.1]
  obtain ⟨k, rfl⟩ : ∃ k : Nat, v = k := ⟨v.toNat, by omega⟩
  rw [e1, Option.bind_some]
  simp only [eta1]
  rw [idx_nat, List.getElem?_eq_getElem (by omega), Option.bind_some]
  exact ⟨_, s1, rfl, i1⟩
theorem from_can (n : Int) : Go.Fl.Can .f32 (M.spec_l01From n) := by
  unfold M.spec_l01From
  refine can_cn ?_
  rw [wd32, IntKind.wrap_u32]
  omega
theorem float_ok {p : List Int} {s : Sl00Src} {b : Nat} (hp : byt p) (h : SI p s b) (hb : b ≤ 99900) : ∃ v s', M.spec_l01DrawFloat s = some (v, s') ∧ Go.Fl.Can .f32 v ∧ SI p s' (b + 12) := by
  unfold M.spec_l01DrawFloat
  have up : ∀ {s' : Sl00Src} {a c : Nat}, SI p s' a → a ≤ c → SI p s' c := fun i hc => ⟨i.1, i.2.1, by have := i.2.2; omega⟩
  have eta : ∀ {s' : Sl00Src} {a : Nat}, SI p s' a → (⟨s.code, s'.at_, s'.seed⟩ : Sl00Src) = s' := fun i => by rw [h.1, ← i.1]
  obtain ⟨q, s1, e1, i1⟩ := one_ok hp h (by omega) (n := 12) (by omega)
  rw [e1, Option.bind_some]
  simp only [eta i1, letv]
  cases q with
  | false =>
    obtain ⟨v, s2, e2, c2, i2⟩ := plain_ok hp i1 (by omega)
    rw [Bool.not_false, cond_true, e2, Option.bind_some]
    simp only [eta i2]
    exact ⟨v, s2, rfl, c2, up i2 (by omega)⟩
  | true =>
    obtain ⟨v, s2, e2, v0, v1, i2⟩ := pick_ok hp i1 (by omega) (n := 4) (by omega)
    rw [Bool.not_true, cond_false, e2, Option.bind_some]
    simp only [eta i2]
    by_cases hv0 : v = 0
    · obtain ⟨u, s3, e3, i3⟩ := among_ok hp i2 (by omega) (l := [0, 2147483648, 2139095040, 4286578688, 2143289344, 1, 2139095039, 8388608, 8388607, 2147483649]) (by decide)
      have t : icmp .eql v 0 = true := by rw [icmp_eql]; simpa using hv0
      rw [t, cond_true, e3, Option.bind_some]
      simp only [eta i3]
      exact ⟨_, s3, rfl, from_can _, up i3 (by omega)⟩
    · have t : icmp .eql v 0 = false := by rw [icmp_eql]; simpa using hv0
      rw [t, cond_false]
      by_cases hv1 : v = 1
      · obtain ⟨u, s3, e3, u0, u1, i3⟩ := pick_ok hp i2 (by omega) (n := 65536) (by omega)
        obtain ⟨z, s4, e4, z0, z1, i4⟩ := pick_ok hp i3 (by omega) (n := 65536) (by omega)
        have t : icmp .eql v 1 = true := by rw [icmp_eql]; simpa using hv1
        rw [t, cond_true, e3, Option.bind_some]
        simp only [eta i3]
        rw [e4, Option.bind_some]
        simp only [eta i4]
        exact ⟨_, s4, rfl, from_can _, up i4 (by omega)⟩
      · have t : icmp .eql v 1 = false := by rw [icmp_eql]; simpa using hv1
        rw [t, cond_false]
        by_cases hv2 : v = 2
        · obtain ⟨u, s3, e3, u0, u1, i3⟩ := pick_ok hp i2 (by omega) (n := 65536) (by omega)
          have t : icmp .eql v 2 = true := by rw [icmp_eql]; simpa using hv2
          rw [t, cond_true, e3, Option.bind_some]
          simp only [eta i3]
          exact ⟨_, s3, rfl, from_can _, up i3 (by omega)⟩
        · have t : icmp .eql v 2 = false := by rw [icmp_eql]; simpa using hv2
          obtain ⟨u, s3, e3, _, i3⟩ := plain_ok hp i2 (by omega)
          obtain ⟨z, s4, e4, i4⟩ := among_ok hp i3 (by omega) (l := [8388608, 2130706432, 1610612736, 536870912]) (by decide)
          rw [t, cond_false, e3, Option.bind_some]
          simp only [eta i3]
          rw [e4, Option.bind_some]
          simp only [eta i4]
          exact ⟨_, s4, rfl, can_fop _ _ _ _, up i4 (by omega)⟩
theorem same_num (x : Nat) : M.spec_SameNumber x x = true := by
  unfold M.spec_SameNumber M.spec_l01Same
  simp only [letv, icmp_eql, beq_self_eq_true]
end
end Go.Proofs
