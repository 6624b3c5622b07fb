import Derived.Test.YtdcienojgkioiaaGreatDoorL1
import Derived.Test.YtdcienojgkioiaaGreatDoorPh
/- Lists of numbers, read: the program's reading is the reference's. No program in sight. -/
namespace Go.Proofs
open Go Go.Fl Go.RowKit Go.Rg
attribute [local irreducible] fint fcmp fop fneg widen narrow fsqrt cn

theorem wrap_u32 {n : Int} (h : 0 ≤ n ∧ n ≤ 4294967295) : IntKind.u32.wrap n = n := by rw [IntKind.wrap_u32]; omega

theorem ibits (x : Nat) (h : x < 4294967296) : M.impl_BitsOf x = bitsOf x := by
  unfold M.impl_BitsOf M.impl_isNaN bitsOf
  simp only [letv]
  rw [wrap_in (by omega)]
theorem sbits (x : Nat) (h : x < 4294967296) : M.spec_l01Bits x = bitsOf x := by
  unfold M.spec_l01Bits bitsOf
  rw [wrap_in (by omega)]
theorem cn_lt {x : Nat} (h : x < 4294967296) : cn .f32 x < 4294967296 := by
  have := (can_cn (k := .f32) (x := x) (by rw [wd32]; exact h)).2
  rwa [wd32] at this

/-- What a run over digits comes to. -/
def stepI (a : Int × Nat) (b : UInt8) : (Int × Nat) ⊕ (Int ⊕ (Nat × Bool)) := if hexd b < 0 ∨ a.2 = 8 then .inr (.inr (0, false)) else .inl (16 * a.1 + hexd b, a.2 + 1)
theorem foldI : ∀ (l : List UInt8) (n : Int) (j : Nat), j ≤ 8 → foldE stepI (fun a => .inl a.1) (n, j) l = match hexn n l with
    | some m => if j + l.length ≤ 8 then .inl m else .inr (0, false)
    | none => .inr (0, false) := by
  intro l
  induction l with
  | nil => intro n j hj; unfold foldE hexn; simp [hj]
  | cons b l ih =>
    intro n j hj
    unfold foldE hexn
    by_cases h : hexd b < 0
    · have : stepI (n, j) b = .inr (.inr (0, false)) := by unfold stepI; rw [if_pos (.inl h)]
      rw [this, if_pos h]
    · rw [if_neg h]
      by_cases h8 : j = 8
      · have : stepI (n, j) b = .inr (.inr (0, false)) := by unfold stepI; rw [if_pos (.inr h8)]
        rw [this]
        subst h8
        cases hexn (16 * n + hexd b) l with
        | none => rfl
        | some m => simp only [List.length_cons]; rw [if_neg (by omega)]
      · have : stepI (n, j) b = .inl (16 * n + hexd b, j + 1) := by unfold stepI; rw [if_neg (by simp only; omega)]
        rw [this]
        simp only
        rw [ih _ _ (by omega)]
        simp only [List.length_cons]
        cases hexn (16 * n + hexd b) l with
        | none => rfl
        | some m => simp only [show j + 1 + l.length = j + (l.length + 1) by omega]

theorem irdn (l : List UInt8) (hl : l.length ≤ 1048576) : ∃ r, M.impl_readNumber l = some r ∧ (match rdn l with | some x => r = (x, true) | none => r.2 = false) := by
  unfold M.impl_readNumber
  rw [loopM_list (s0 := ((0, 0) : Int × Int)) l (fun (a : Int × Nat) k => (a.1, (k : Int))) stepI (fun a => .inl a.1) (fun k a => a.2 = k ∧ k ≤ 8 ∧ 0 ≤ a.1 ∧ a.1 < 16 ^ k) ?_ ?_ (0, 0) ⟨rfl, by omega, by simp, by simp⟩ rfl]
  · rw [foldI l 0 0 (by omega), Option.bind_some]
    have key : ∀ (o : Option Int), hexn 0 l = o → ∃ r, (sel (match o with
      | some m => if 0 + l.length ≤ 8 then (.inl m : Int ⊕ (Nat × Bool)) else .inr (0, false)
      | none => .inr (0, false)) (fun m1 => letv (M.impl_FromBits m1) fun m11 => letv (bif (icmp .eql ((l).length : Int) 8) then letv (M.impl_BitsOf m11.1) fun m16 => (icmp .eql m16 m1) else false) fun m14 => some (m11.1, m14)) (fun m1 => some (m1.1, m1.2))) = some r ∧ (match rdn l with | some x => r = (x, true) | none => r.2 = false) := by
      intro o ho
      cases o with
      | none =>
        refine ⟨(0, false), rfl, ?_⟩
        have : rdn l = none := by unfold rdn; rw [ho]; split <;> rfl
        rw [this]
      | some m =>
        by_cases h8 : l.length ≤ 8
        · obtain ⟨b1, b2⟩ := hexn_bound l (by omega) ho
          have hm : m < 4294967296 := by
            have : (16 : Int) ^ l.length ≤ 16 ^ 8 := by
              have := Nat.pow_le_pow_right (n := 16) (by omega) h8
              have e1 : ((16 ^ l.length : Nat) : Int) = (16 : Int) ^ l.length := by simp
              have e2 : ((16 ^ 8 : Nat) : Int) = (16 : Int) ^ 8 := by simp
              rw [← e1, ← e2]; omega
            omega
          have hfb : M.impl_FromBits m = (cn .f32 m.toNat, true) := by
            unfold M.impl_FromBits M.impl_in
            have h1 : icmp .geq m 0 = true := by rw [icmp_geq]; exact decide_eq_true b1
            have h2 : icmp .leq m 4294967295 = true := by rw [icmp_leq]; exact decide_eq_true (by omega)
            simp only [letv, h1, h2, cond_true, Bool.not_true, cond_false, wrap_u32 (n := m) ⟨b1, by omega⟩]
          have hlt : cn .f32 m.toNat < 4294967296 := cn_lt (by omega)
          simp only [Nat.zero_add, if_pos h8, sel, letv, hfb, ibits _ hlt]
          refine ⟨_, rfl, ?_⟩
          unfold rdn
          rw [ho]
          by_cases e8 : l.length = 8
          · have e : icmp .eql (l.length : Int) 8 = true := by simp [icmp_eql, e8]
            rw [if_pos e8, e, cond_true, Option.bind_some]
            by_cases hb : bitsOf (cn .f32 m.toNat) = m
            · rw [if_pos hb]
              simp only [icmp_eql, hb, beq_self_eq_true]
            · rw [if_neg hb]
              simp only [icmp_eql, beq_eq_false_iff_ne]
              exact hb
          · have e : icmp .eql (l.length : Int) 8 = false := by simp only [icmp_eql, beq_eq_false_iff_ne]; omega
            rw [if_neg e8, e, cond_false]
        · simp only [Nat.zero_add, if_neg h8, sel]
          refine ⟨(0, false), rfl, ?_⟩
          have : rdn l = none := by unfold rdn; rw [if_neg (by omega)]
          rw [this]
    exact key _ rfl
  · rintro k ⟨n, j⟩ b hb ⟨rfl, hk, hn, hn2⟩
    simp only at hn hn2 hk
    have hlt := (List.getElem?_eq_some_iff.1 hb).1
    have e1 : icmp .lss (j : Int) (l.length : Int) = true := by rw [icmp_lss]; exact decide_eq_true (by omega)
    have e2 : sidx l (j : Int) = some (b.toNat : Int) := by rw [sidx_nat, hb]; rfl
    have e3 : M.strings_IndexByte_s30313233343536373839616263646566 (b.toNat : Int) = hexd b := by
      unfold M.strings_IndexByte_s30313233343536373839616263646566 M.internal_stringslite_IndexByte_s30313233343536373839616263646566
      simp only [letv, hexd_find]
    have hd := hexd_ge b
    dsimp only
    rw [e1, cond_true, e2, Option.bind_some]
    simp only [letv, e3]
    by_cases h : hexd b < 0
    · have s1 : stepI (n, j) b = .inr (.inr (0, false)) := by unfold stepI; rw [if_pos (.inl h)]
      have s2 : icmp .lss (hexd b) 0 = true := by rw [icmp_lss]; exact decide_eq_true h
      rw [s1, s2, cond_true, cond_true]
    · have s2 : icmp .lss (hexd b) 0 = false := by rw [icmp_lss]; exact decide_eq_false h
      by_cases h8 : j = 8
      · have s1 : stepI (n, j) b = .inr (.inr (0, false)) := by unfold stepI; rw [if_pos (.inr h8)]
        have s3 : icmp .eql (j : Int) 8 = true := by simp [icmp_eql, h8]
        rw [s1, s2, s3, cond_false, cond_true]
      · have s1 : stepI (n, j) b = .inl (16 * n + hexd b, j + 1) := by unfold stepI; rw [if_neg (by simp only; omega)]
        have s3 : icmp .eql (j : Int) 8 = false := by simp only [icmp_eql, beq_eq_false_iff_ne]; omega
        have p8 : (16 : Int) ^ j ≤ 16 ^ 7 := by
          have := Nat.pow_le_pow_right (n := 16) (by omega) (show j ≤ 7 by omega)
          have a1 : ((16 ^ j : Nat) : Int) = (16 : Int) ^ j := by simp
          have a2 : ((16 ^ 7 : Nat) : Int) = (16 : Int) ^ 7 := by simp
          rw [← a1, ← a2]; omega
        have w1 : IntKind.i64.wrap (n * 16) = n * 16 := wrap_in (by omega)
        have w2 : IntKind.i64.wrap (n * 16 + hexd b) = 16 * n + hexd b := by rw [wrap_in (by omega)]; omega
        have w3 : IntKind.i64.wrap ((j : Int) + 1) = ((j + 1 : Nat) : Int) := by rw [wrap_in (by omega)]; rfl
        rw [s1, s2, s3, cond_false, cond_false, w1, w2, w3]
        refine ⟨rfl, rfl, by omega, by simp only; omega, ?_⟩
        simp only [Int.pow_succ]
        omega
  · rintro ⟨n, j⟩ ⟨h1, h2, h3, h4⟩
    dsimp only
    have e1 : icmp .lss (l.length : Int) (l.length : Int) = false := by rw [icmp_lss]; exact decide_eq_false (by omega)
    rw [e1, cond_false]

end Go.Proofs
