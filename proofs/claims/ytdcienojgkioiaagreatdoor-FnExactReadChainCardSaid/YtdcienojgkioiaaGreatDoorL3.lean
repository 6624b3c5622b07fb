import Derived.Test.YtdcienojgkioiaaGreatDoorL2
/- Lists of numbers, read whole. No program in sight. -/
namespace Go.Proofs
open Go Go.Fl Go.RowKit Go.Rg
attribute [local irreducible] fint fcmp fop fneg widen narrow fsqrt cn

theorem wrap_u8 {n : Int} (h : 0 ≤ n ∧ n ≤ 255) : IntKind.u8.wrap n = n := by rw [IntKind.wrap_u8]; omega

def stepS (n : Int) (b : UInt8) : Int ⊕ (Int ⊕ (List Nat × Bool)) := if hexd b < 0 then .inr (.inr ([], false)) else .inl (16 * n + hexd b)
theorem foldS : ∀ (l : List UInt8) (n : Int), foldE stepS (fun a => .inl a) n l = match hexn n l with
    | some m => .inl m
    | none => .inr ([], false) := by
  intro l
  induction l with
  | nil => intro n; rfl
  | cons b l ih =>
    intro n
    by_cases h : hexd b < 0
    · rw [foldE_inr (e := .inr ([], false)) (by unfold stepS; rw [if_pos h]), hexn, if_pos h]
    · rw [foldE_inl (a' := 16 * n + hexd b) (by unfold stepS; rw [if_neg h]), ih, hexn, if_neg h]

/-- A list out of its pieces. -/
def stepP (out : List Nat) (p : List UInt8) : List Nat ⊕ (List Nat ⊕ (List Nat × Bool)) := match rdn p with
  | some x => .inl (out ++ [x])
  | none => .inr (.inr ([], false))
theorem foldP : ∀ (ps : List (List UInt8)) (out : List Nat), foldE stepP (fun a => .inl a) out ps = match ps.mapM rdn with
    | some xs => .inl (out ++ xs)
    | none => .inr ([], false) := by
  intro ps
  induction ps with
  | nil => intro out; simp [foldE]
  | cons p ps ih =>
    intro out
    cases hp : rdn p with
    | none => rw [foldE_inr (e := .inr ([], false)) (by unfold stepP; rw [hp]), mapM_cons_none hp]
    | some x =>
      rw [foldE_inl (a' := out ++ [x]) (by unfold stepP; rw [hp]), ih]
      cases h : ps.mapM rdn with
      | none => rw [mapM_cons_none2 hp h]
      | some xs => rw [mapM_cons_some hp h]; simp
def stepQ (out : List Nat) (p : List UInt8) : List Nat ⊕ (List Nat ⊕ (List Nat × Bool)) := match rdn p with
  | some x => if out.length = 256 then .inr (.inr ([], false)) else .inl (out ++ [x])
  | none => .inr (.inr ([], false))
theorem foldQ : ∀ (ps : List (List UInt8)) (out : List Nat), out.length ≤ 256 → foldE stepQ (fun a => .inl a) out ps = match ps.mapM rdn with
    | some xs => if out.length + ps.length ≤ 256 then .inl (out ++ xs) else .inr ([], false)
    | none => .inr ([], false) := by
  intro ps
  induction ps with
  | nil => intro out h; simp [foldE, h]
  | cons p ps ih =>
    intro out hl
    cases hp : rdn p with
    | none => rw [foldE_inr (e := .inr ([], false)) (by unfold stepQ; rw [hp]), mapM_cons_none hp]
    | some x =>
      by_cases h : out.length = 256
      · rw [foldE_inr (e := .inr ([], false)) (by unfold stepQ; rw [hp]; simp only [if_pos h])]
        cases h2 : ps.mapM rdn with
        | none => rw [mapM_cons_none2 hp h2]
        | some xs =>
          rw [mapM_cons_some hp h2]
          simp only [List.length_cons]
          rw [if_neg (by omega)]
      · rw [foldE_inl (a' := out ++ [x]) (by unfold stepQ; rw [hp]; simp only [if_neg h]), ih _ (by simp; omega)]
        cases h2 : ps.mapM rdn with
        | none => rw [mapM_cons_none2 hp h2]
        | some xs =>
          rw [mapM_cons_some hp h2]
          simp only [List.length_append, List.length_cons, List.length_nil, Nat.zero_add, List.append_assoc, List.singleton_append]
          rw [show out.length + 1 + ps.length = out.length + (ps.length + 1) by omega]

/-- A list of numbers with a text. -/
def rdnums (l : List UInt8) : List Nat × Bool := if l = [110, 111, 110, 101] then ([], true) else match (splitB 44 l).mapM rdn with
  | some xs => if (splitB 44 l).length ≤ 256 then (xs, true) else ([], false)
  | none => ([], false)

theorem pow16 {j : Nat} (h : j ≤ 7) : (16 : Int) ^ j ≤ 268435456 := by
  have := Nat.pow_le_pow_right (n := 16) (by omega) h
  have a1 : ((16 ^ j : Nat) : Int) = (16 : Int) ^ j := by simp
  have a2 : (16 ^ 7 : Nat) = 268435456 := by decide
  rw [← a1]; omega

theorem snums (l : List UInt8) (hl : l.length ≤ 1048576) : M.spec_l01NRead l = some (rdnums l) := by
  unfold M.spec_l01NRead rdnums
  by_cases hn : l = [110, 111, 110, 101]
  · have : (l == [110, 111, 110, 101]) = true := by simpa using hn
    rw [this, cond_true, if_pos hn]
  · have : (l == [110, 111, 110, 101]) = false := by simpa using hn
    rw [this, cond_false, if_neg hn]
    have hc := cut_eq 44 l hl
    have e44 : ((44 : UInt8).toNat : Int) = 44 := rfl
    rw [e44] at hc
    rw [hc, Option.bind_some]
    generalize hps : splitB 44 l = ps
    by_cases h256 : ps.length ≤ 256
    · have e1 : icmp .gtr (ps.length : Int) 256 = false := by rw [icmp_gtr]; exact decide_eq_false (by omega)
      rw [e1, cond_false]
      rw [loopM_list (s0 := ((([] : List Nat), 0) : List Nat × Int)) ps (fun (a : List Nat) k => (a, (k : Int))) stepP (fun a => .inl a) (fun k a => a.length = k) ?_ ?_ [] rfl rfl]
      · rw [foldP, Option.bind_some]
        cases ps.mapM rdn with
        | none => rfl
        | some xs => simp only [List.nil_append, if_pos h256]
      · rintro k out p hp rfl
        have hlt := (List.getElem?_eq_some_iff.1 hp).1
        have f1 : icmp .lss (out.length : Int) (ps.length : Int) = true := by rw [icmp_lss]; exact decide_eq_true (by omega)
        dsimp only
        rw [f1, cond_true, idx_nat, hp, Option.bind_some]
        by_cases h8 : p.length = 8
        · have f2 : icmp .neq (p.length : Int) 8 = false := by simp [icmp_neq, h8]
          rw [f2, cond_false]
          rw [loopM_list (s0 := ((0, 0) : Int × Int)) p (fun (a : Int) k => (a, (k : Int))) stepS (fun a => .inl a) (fun k a => 0 ≤ a ∧ a < 16 ^ k) ?_ ?_ 0 ⟨by omega, by simp⟩ rfl]
          · rw [foldS, Option.bind_some]
            unfold stepP rdn
            rw [if_pos h8]
            cases ho : hexn 0 p with
            | none => rfl
            | some m =>
              obtain ⟨b1, b2⟩ := hexn_bound p (by omega) ho
              have p8 : (16 : Int) ^ p.length = 4294967296 := by rw [h8]; decide
              have hfr : M.spec_l01From m = cn .f32 m.toNat := by unfold M.spec_l01From; rw [wrap_u32 ⟨b1, by omega⟩]
              have hlt2 : cn .f32 m.toNat < 4294967296 := cn_lt (by omega)
              simp only [sel, letv, hfr, sbits _ hlt2, Option.bind_some]
              by_cases hb : bitsOf (cn .f32 m.toNat) = m
              · have f3 : icmp .neq (bitsOf (cn .f32 m.toNat)) m = false := by simp [icmp_neq, hb]
                rw [f3, cond_false, if_pos hb, app_small (by simp only [List.length_singleton]; omega), Option.bind_some]
                have w : IntKind.i64.wrap ((out.length : Int) + 1) = ((out.length + 1 : Nat) : Int) := by rw [wrap_in (by omega)]; rfl
                rw [w]
                exact ⟨rfl, by simp⟩
              · have f3 : icmp .neq (bitsOf (cn .f32 m.toNat)) m = true := by simp only [icmp_neq, bne_iff_ne, ne_eq]; exact hb
                rw [f3, cond_true, if_neg hb]
          · rintro j n b hb ⟨hn0, hn1⟩
            have hj := (List.getElem?_eq_some_iff.1 hb).1
            have g1 : icmp .lss (j : Int) 8 = true := by rw [icmp_lss]; exact decide_eq_true (by omega)
            have g2 : sidx p (j : Int) = some (b.toNat : Int) := by rw [sidx_nat, hb]; rfl
            dsimp only
            rw [g1, cond_true]
            simp only [Option.bind_some]
            rw [g2, Option.bind_some]
            have pj := pow16 (show j ≤ 7 by omega)
            have w1 : IntKind.i64.wrap (16 * n) = 16 * n := wrap_in (by omega)
            have w3 : IntKind.i64.wrap ((j : Int) + 1) = ((j + 1 : Nat) : Int) := by rw [wrap_in (by omega)]; rfl
            have hI : ∀ d : Int, 0 ≤ d → d ≤ 15 → 0 ≤ 16 * n + d ∧ 16 * n + d < 16 ^ (j + 1) := fun d d0 d1 => ⟨by omega, by rw [Int.pow_succ]; omega⟩
            simp only [letv, icmp_geq, icmp_leq, icmp_lss]
            by_cases c1 : 48 ≤ b.toNat ∧ b.toNat ≤ 57
            · have hd : hexd b = b.toNat - 48 := by unfold hexd; rw [if_pos c1]
              have d1 : decide ((b.toNat : Int) ≥ 48) = true := decide_eq_true (by omega)
              have d2 : decide ((b.toNat : Int) ≤ 57) = true := decide_eq_true (by omega)
              have d3 : decide ((b.toNat : Int) ≥ 97) = false := decide_eq_false (by omega)
              have w4 : IntKind.i64.wrap (IntKind.u8.wrap ((b.toNat : Int) - 48)) = hexd b := by rw [wrap_u8 (by omega), wrap_in (by omega), hd]
              have d4 : decide (hexd b < 0) = false := decide_eq_false (by omega)
              have w5 : IntKind.i64.wrap (16 * n + hexd b) = 16 * n + hexd b := wrap_in (by omega)
              have s1 : stepS n b = .inl (16 * n + hexd b) := by unfold stepS; rw [if_neg (by omega)]
              simp only [d1, d2, d3, cond_true, cond_false, w4, d4, w1, w5, w3, s1]
              exact ⟨trivial, hI _ (by omega) (by omega)⟩
            · by_cases c2 : 97 ≤ b.toNat ∧ b.toNat ≤ 102
              · have hd : hexd b = b.toNat - 87 := by unfold hexd; rw [if_neg c1, if_pos c2]
                have d1 : decide ((b.toNat : Int) ≥ 48) = true := decide_eq_true (by omega)
                have d2 : decide ((b.toNat : Int) ≤ 57) = false := decide_eq_false (by omega)
                have d3 : decide ((b.toNat : Int) ≥ 97) = true := decide_eq_true (by omega)
                have d5 : decide ((b.toNat : Int) ≤ 102) = true := decide_eq_true (by omega)
                have w4 : IntKind.i64.wrap (IntKind.i64.wrap (IntKind.u8.wrap ((b.toNat : Int) - 97)) + 10) = hexd b := by rw [wrap_u8 (by omega), wrap_in (n := (b.toNat : Int) - 97) (by omega), wrap_in (by omega), hd]; omega
                have d4 : decide (hexd b < 0) = false := decide_eq_false (by omega)
                have w5 : IntKind.i64.wrap (16 * n + hexd b) = 16 * n + hexd b := wrap_in (by omega)
                have s1 : stepS n b = .inl (16 * n + hexd b) := by unfold stepS; rw [if_neg (by omega)]
                simp only [d1, d2, d3, d5, cond_true, cond_false, w4, d4, w1, w5, w3, s1]
                exact ⟨trivial, hI _ (by omega) (by omega)⟩
              · have hd : hexd b = -1 := by unfold hexd; rw [if_neg c1, if_neg c2]
                have s1 : stepS n b = .inr (.inr ([], false)) := by unfold stepS; rw [if_pos (by omega)]
                have d1 : (bif decide ((b.toNat : Int) ≥ 48) then decide ((b.toNat : Int) ≤ 57) else false) = false := by
                  by_cases q1 : (b.toNat : Int) ≥ 48 <;> by_cases q2 : (b.toNat : Int) ≤ 57 <;> simp [q1, q2] <;> omega
                have d2 : (bif decide ((b.toNat : Int) ≥ 97) then decide ((b.toNat : Int) ≤ 102) else false) = false := by
                  by_cases q1 : (b.toNat : Int) ≥ 97 <;> by_cases q2 : (b.toNat : Int) ≤ 102 <;> simp [q1, q2] <;> omega
                simp only [d1, d2, cond_false, s1]
          · rintro n _
            have g1 : icmp .lss (p.length : Int) 8 = false := by rw [icmp_lss]; exact decide_eq_false (by omega)
            dsimp only
            rw [g1, cond_false]
        · have f2 : icmp .neq (p.length : Int) 8 = true := by simp only [icmp_neq, bne_iff_ne, ne_eq]; omega
          have s1 : stepP out p = .inr (.inr ([], false)) := by unfold stepP rdn; rw [if_neg h8]
          rw [f2, cond_true, s1]
      · rintro out hlen
        have f1 : icmp .lss (ps.length : Int) (ps.length : Int) = false := by rw [icmp_lss]; exact decide_eq_false (by omega)
        dsimp only
        rw [f1, cond_false]
    · have e1 : icmp .gtr (ps.length : Int) 256 = true := by rw [icmp_gtr]; exact decide_eq_true (by omega)
      rw [e1, cond_true]
      cases ps.mapM rdn with
      | none => rfl
      | some xs => simp only [if_neg h256]

theorem inums (l : List UInt8) (hl : l.length ≤ 1048576) : M.impl_ReadNumbers l = some (rdnums l) := by
  have key : ∀ (ps : List (List UInt8)), ps.length ≤ 1048577 → (∀ p ∈ ps, p.length ≤ 1048576) → (loopM (fun (s8 : List Nat × Int) =>
      bif (icmp .lss s8.2 ((ps).length : Int)) then
        (idx ps s8.2).bind fun m11 =>
        (M.impl_readNumber m11).bind fun m13 =>
        letv (
            bif m13.2 then
              (icmp .eql ((s8.1).length : Int) 256)
            else
              true) fun m16 =>
        bif m16 then
          some (.inr (.inr ([], false)))
        else
          (app 4 s8.1 ([m13.1])).bind fun m28 =>
          some (.inl (m28, (IntKind.i64.wrap (s8.2 + 1))))
      else
        some (.inr (.inl s8.1))) ((([] : List Nat), 0) : List Nat × Int)) = some ((match ps.mapM rdn with
        | some xs => if ps.length ≤ 256 then .inl xs else .inr ([], false)
        | none => .inr ([], false)) : List Nat ⊕ (List Nat × Bool)) := by
    intro ps hps hp8
    rw [loopM_list (s0 := ((([] : List Nat), 0) : List Nat × Int)) ps (fun (a : List Nat) k => (a, (k : Int))) stepQ (fun a => .inl a) (fun k a => a.length = k ∧ k ≤ 256) ?_ ?_ [] ⟨rfl, by omega⟩ rfl]
    · rw [foldQ _ _ (by simp)]
      cases ps.mapM rdn with
      | none => rfl
      | some xs => simp only [List.length_nil, Nat.zero_add, List.nil_append]
    · rintro k out p hp ⟨rfl, hk⟩
      have hlt := (List.getElem?_eq_some_iff.1 hp).1
      have f1 : icmp .lss (out.length : Int) (ps.length : Int) = true := by rw [icmp_lss]; exact decide_eq_true (by omega)
      obtain ⟨r, hr, hr2⟩ := irdn p (hp8 p (List.mem_of_getElem? hp))
      dsimp only
      rw [f1, cond_true, idx_nat, hp, Option.bind_some, hr, Option.bind_some]
      unfold stepQ
      cases hq : rdn p with
      | none =>
        rw [hq] at hr2
        simp only at hr2
        simp only [letv, hr2, cond_false, cond_true]
      | some x =>
        rw [hq] at hr2
        simp only at hr2
        subst hr2
        simp only [letv, cond_true]
        by_cases h6 : out.length = 256
        · have f2 : icmp .eql (out.length : Int) 256 = true := by simp [icmp_eql, h6]
          rw [if_pos h6, f2, cond_true]
        · have f2 : icmp .eql (out.length : Int) 256 = false := by simp only [icmp_eql, beq_eq_false_iff_ne]; omega
          have w : IntKind.i64.wrap ((out.length : Int) + 1) = ((out.length + 1 : Nat) : Int) := by rw [wrap_in (by omega)]; rfl
          rw [if_neg h6, f2, cond_false, app_small (by simp only [List.length_singleton]; omega), Option.bind_some, w]
          exact ⟨rfl, by simp, by omega⟩
    · rintro out ⟨h1, h2⟩
      have f1 : icmp .lss (ps.length : Int) (ps.length : Int) = false := by rw [icmp_lss]; exact decide_eq_false (by omega)
      dsimp only
      rw [f1, cond_false]
  unfold M.impl_ReadNumbers M.impl_parted rdnums
  by_cases hn : l = [110, 111, 110, 101]
  · have : (l == [110, 111, 110, 101]) = true := by simpa using hn
    rw [this, cond_true, if_pos hn, Option.bind_some, key [] (by simp) (by simp)]
    rfl
  · have : (l == [110, 111, 110, 101]) = false := by simpa using hn
    rw [this, cond_false, if_neg hn, split_eq l hl, Option.bind_some, Option.bind_some, key _ (by have := splitB_le 44 l; omega) (fun p hp => Nat.le_trans (splitB_mem hp) hl), Option.bind_some]
    cases (splitB 44 l).mapM rdn with
    | none => rfl
    | some xs =>
      simp only
      split <;> rfl

end Go.Proofs
