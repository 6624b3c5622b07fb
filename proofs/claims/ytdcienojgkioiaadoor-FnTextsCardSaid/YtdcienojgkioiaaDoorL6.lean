import Derived.Test.YtdcienojgkioiaaDoorL5
/- Numerals, check numbers, rows of strings: what the program and the reference make of them. No program in sight. -/
namespace Go.Proofs
open Go Go.Fl Go.RowKit Go.Rg
attribute [local irreducible] fint fcmp fop fneg widen narrow fsqrt cn

/-- A row of strings that is copied. -/
theorem toStrings (xs : List (List UInt8)) (h : xs.length ≤ 8796093022208) : M.laws_toStringS xs = some xs := by
  unfold M.laws_toStringS
  rw [mkl_ok (by omega), Option.bind_some]
  rw [loopM_run' (e := xs) xs.length (fun k => ((k : Int), xs.take k ++ List.replicate (xs.length - k) ([] : List UInt8))) (by simp) ?_ ?_]
  · rfl
  · intro k hk
    have e1 : icmp .lss (k : Int) (xs.length : Int) = true := by rw [icmp_lss]; exact decide_eq_true (by omega)
    have w : IntKind.i64.wrap ((k : Int) + 1) = ((k + 1 : Nat) : Int) := by rw [wrap_in (by omega)]; rfl
    have hx : xs[k]? = some xs[k] := List.getElem?_eq_getElem hk
    have hl : (xs.take k ++ List.replicate (xs.length - k) ([] : List UInt8))[k]? = some [] := by
      rw [List.getElem?_append_right (by rw [List.length_take]; omega), List.length_take, List.getElem?_replicate]
      rw [if_pos (by omega)]
    dsimp only
    rw [e1, cond_true, idx_nat, hx, Option.bind_some, idx_nat, hl, Option.bind_some, w]
    have e2 : (xs.take k ++ List.replicate (xs.length - k) ([] : List UInt8)).set k xs[k] = xs.take (k + 1) ++ List.replicate (xs.length - (k + 1)) [] := by
      have e3 : xs.length - k = (xs.length - (k + 1)) + 1 := by omega
      rw [e3, List.replicate_succ, List.take_succ_eq_append_getElem hk, List.set_append_right _ _ (by rw [List.length_take]; omega), List.length_take, Nat.min_eq_left (by omega), Nat.sub_self, List.set_cons_zero, List.append_assoc]
      rfl
    rw [Int.toNat_natCast, e2]
  · have e1 : icmp .lss (xs.length : Int) (xs.length : Int) = false := by rw [icmp_lss]; exact decide_eq_false (by omega)
    dsimp only
    rw [e1, cond_false]
    simp

theorem eqStrings_self (xs : List (List UInt8)) (h : xs.length ≤ 8796093022208) : M.laws_eqStringS xs xs = some true := by
  unfold M.laws_eqStringS
  have e0 : icmp .neq (xs.length : Int) (xs.length : Int) = false := by simp [icmp_neq]
  rw [e0, cond_false]
  rw [loopM_run' (e := (.inl () : Unit ⊕ Bool)) (s0 := (0 : Int)) xs.length (fun k => (k : Int)) rfl ?_ ?_]
  · rfl
  · intro k hk
    have e1 : icmp .lss (k : Int) (xs.length : Int) = true := by rw [icmp_lss]; exact decide_eq_true (by omega)
    have w : IntKind.i64.wrap ((k : Int) + 1) = ((k + 1 : Nat) : Int) := by rw [wrap_in (by omega)]; rfl
    have hx : xs[k]? = some xs[k] := List.getElem?_eq_getElem hk
    rw [e1, cond_true, idx_nat, hx, Option.bind_some, Option.bind_some, beq_self_eq_true, Bool.not_true, cond_false, w]
  · have e1 : icmp .lss (xs.length : Int) (xs.length : Int) = false := by rw [icmp_lss]; exact decide_eq_false (by omega)
    rw [e1, cond_false]

def sumLen (xs : List (List UInt8)) : Nat := (xs.map List.length).sum
theorem sum_mem {xs : List (List UInt8)} {x : List UInt8} (hx : x ∈ xs) : x.length ≤ sumLen xs := by
  induction xs with
  | nil => cases hx
  | cons y ys ih =>
    have e : sumLen (y :: ys) = y.length + sumLen ys := by simp [sumLen]
    rcases List.mem_cons.1 hx with rfl | h
    · omega
    · have := ih h; omega
/-- What is left of a size; less than 0 if there is too much. -/
theorem szStrings (xs : List (List UInt8)) (h : xs.length ≤ 9223372036854775807) (hs : ∀ x ∈ xs, x.length ≤ 9223372036854775807) :
    ∃ r, M.laws_szStringS xs 1048576 = some r ∧ (r < 0 ∨ xs.length + sumLen xs ≤ 1048576) := by
  unfold M.laws_szStringS
  have w0 : IntKind.i64.wrap (1048576 - (xs.length : Int)) = 1048576 - (xs.length : Int) := wrap_in (by omega)
  rw [w0]
  by_cases h0 : xs.length ≤ 1048576
  · have e0 : icmp .lss (1048576 - (xs.length : Int)) 0 = false := by rw [icmp_lss]; exact decide_eq_false (by omega)
    rw [e0, cond_false]
    rw [loopM_list (s0 := ((1048576 - (xs.length : Int), 0) : Int × Int)) xs (fun (a : Int) k => (a, (k : Int))) (fun a x => if a - (x.length : Int) < 0 then .inr (.inr (-1)) else .inl (a - (x.length : Int))) (fun a => .inl a)
      (fun k a => 0 ≤ a ∧ a ≤ 1048576) ?_ ?_ (1048576 - (xs.length : Int)) ⟨by omega, by omega⟩ rfl]
    · rw [Option.bind_some]
      have key : ∀ (l : List (List UInt8)) (a : Int), 0 ≤ a → ∃ r, (sel (foldE (fun (a : Int) (x : List UInt8) => if a - (x.length : Int) < 0 then (.inr (.inr (-1)) : Int ⊕ (Int ⊕ Int)) else .inl (a - (x.length : Int))) (fun a => (.inl a : Int ⊕ Int)) a l) (fun m2 => some m2) (fun m2 => some m2)) = some r ∧ (r < 0 ∨ (sumLen l : Int) ≤ a) := by
        intro l
        induction l with
        | nil => intro a ha; exact ⟨a, rfl, .inr (by simpa [sumLen] using ha)⟩
        | cons x l ih =>
          intro a ha
          by_cases hx : a - (x.length : Int) < 0
          · rw [foldE_inr (e := .inr (-1)) (by rw [if_pos hx])]
            exact ⟨-1, rfl, .inl (by omega)⟩
          · rw [foldE_inl (a' := a - (x.length : Int)) (by rw [if_neg hx])]
            obtain ⟨r, h1, h2⟩ := ih (a - (x.length : Int)) (by omega)
            refine ⟨r, h1, h2.imp id fun h3 => ?_⟩
            have : sumLen (x :: l) = x.length + sumLen l := by simp [sumLen]
            omega
      obtain ⟨r, h1, h2⟩ := key xs _ (show (0 : Int) ≤ 1048576 - (xs.length : Int) by omega)
      exact ⟨r, h1, h2.imp id fun h3 => by omega⟩
    · rintro k a x hx ⟨ha, hb⟩
      have hlt := (List.getElem?_eq_some_iff.1 hx).1
      have hxl := hs x (List.mem_of_getElem? hx)
      have e1 : icmp .lss (k : Int) (xs.length : Int) = true := by rw [icmp_lss]; exact decide_eq_true (by omega)
      have w : IntKind.i64.wrap ((k : Int) + 1) = ((k + 1 : Nat) : Int) := by rw [wrap_in (by omega)]; rfl
      have w2 : IntKind.i64.wrap (a - (x.length : Int)) = a - (x.length : Int) := wrap_in (by omega)
      dsimp only
      by_cases hneg : a - (x.length : Int) < 0
      · have e2 : icmp .lss (a - (x.length : Int)) 0 = true := by rw [icmp_lss]; exact decide_eq_true hneg
        rw [if_pos hneg, e1, cond_true, idx_nat, hx, Option.bind_some, w2, e2, cond_true]
      · have e2 : icmp .lss (a - (x.length : Int)) 0 = false := by rw [icmp_lss]; exact decide_eq_false hneg
        rw [if_neg hneg, e1, cond_true, idx_nat, hx, Option.bind_some, w2, e2, cond_false, w]
        exact ⟨rfl, by omega, by omega⟩
    · rintro a ⟨ha, hb⟩
      have e1 : icmp .lss (xs.length : Int) (xs.length : Int) = false := by rw [icmp_lss]; exact decide_eq_false (by omega)
      dsimp only
      rw [e1, cond_false]
  · have e0 : icmp .lss (1048576 - (xs.length : Int)) 0 = true := by rw [icmp_lss]; exact decide_eq_true (by omega)
    rw [e0, cond_true]
    exact ⟨-1, rfl, .inl (by omega)⟩

/-- The check number of a text. -/
def chk (n : Int) (s : List UInt8) : Int := s.foldl (fun n b => (757 * n + (b.toNat : Int) + 79) % 65003) n
theorem chk_step {n : Int} (b : UInt8) (h0 : 0 ≤ n) (h1 : n < 65003) : (IntKind.i64.wrap ((IntKind.i64.wrap ((IntKind.i64.wrap (757 * n)) + (IntKind.i64.wrap (b.toNat : Int)))) + 79)).tmod 65003 = (757 * n + (b.toNat : Int) + 79) % 65003 := by
  have hb : b.toNat < 256 := b.toNat_lt
  rw [wrap_in (n := 757 * n) (by omega), wrap_in (n := (b.toNat : Int)) (by omega), wrap_in (n := 757 * n + (b.toNat : Int)) (by omega), wrap_in (n := 757 * n + (b.toNat : Int) + 79) (by omega)]
  exact Int.tmod_eq_emod_of_nonneg (by omega)
theorem chk_range {s : List UInt8} : ∀ {n : Int}, 0 ≤ n → n < 65003 → 0 ≤ chk n s ∧ chk n s < 65003 := by
  induction s with
  | nil => intro n h0 h1; exact ⟨h0, h1⟩
  | cons b s ih =>
    intro n h0 h1
    exact ih (n := (757 * n + (b.toNat : Int) + 79) % 65003) (by omega) (by omega)
theorem chk_loop {s : List UInt8} (hl : s.length ≤ 281474976710656) {n : Int} (h0 : 0 ≤ n) (h1 : n < 65003) : loopM (fun (s1 : Int × Int) =>
      bif (icmp .lss s1.2 ((s).length : Int)) then
        (sidx s s1.2).bind fun m3 =>
        some (.inl ((((IntKind.i64.wrap ((IntKind.i64.wrap ((IntKind.i64.wrap (757 * s1.1)) + (IntKind.i64.wrap m3))) + 79))).tmod 65003), (IntKind.i64.wrap (s1.2 + 1))))
      else
        some (.inr s1.1)) ((n, 0) : Int × Int) = some (chk n s) := by
  rw [loopM_list (s0 := ((n, 0) : Int × Int)) s (fun (a : Int) k => (a, (k : Int))) (fun a b => .inl ((757 * a + (b.toNat : Int) + 79) % 65003)) (fun a => a) (fun _ a => 0 ≤ a ∧ a < 65003) ?_ ?_ n ⟨h0, h1⟩ rfl]
  · congr 1
    clear hl h0 h1
    induction s generalizing n with
    | nil => rfl
    | cons b s ih => rw [foldE_inl rfl, ih]; rfl
  · rintro k a b hb ⟨ha, hc⟩
    have hlt := (List.getElem?_eq_some_iff.1 hb).1
    have e1 : icmp .lss (k : Int) (s.length : Int) = true := by rw [icmp_lss]; exact decide_eq_true (by omega)
    have w : IntKind.i64.wrap ((k : Int) + 1) = ((k + 1 : Nat) : Int) := by rw [wrap_in (by omega)]; rfl
    dsimp only
    rw [e1, cond_true, sidx_nat, hb, Option.map_some, Option.bind_some, chk_step b ha hc, w]
    exact ⟨rfl, by omega, by omega⟩
  · rintro a ⟨ha, hc⟩
    have e1 : icmp .lss (s.length : Int) (s.length : Int) = false := by rw [icmp_lss]; exact decide_eq_false (by omega)
    dsimp only
    rw [e1, cond_false]
theorem scheck {s : List UInt8} (hl : s.length ≤ 281474976710656) {n : Int} (h0 : 0 ≤ n) (h1 : n < 65003) : M.spec_l01Check n s = some (chk n s) := by
  unfold M.spec_l01Check
  rw [chk_loop hl h0 h1]; rfl
theorem icheck {s : List UInt8} (hl : s.length ≤ 281474976710656) {n : Int} (h0 : 0 ≤ n) (h1 : n < 65003) : M.impl_CheckOf n s = some (chk n s, true) := by
  unfold M.impl_CheckOf M.impl_in
  have e1 : icmp .geq n 0 = true := by rw [icmp_geq]; exact decide_eq_true h0
  have e2 : icmp .leq n 65002 = true := by rw [icmp_leq]; exact decide_eq_true (by omega)
  simp only [letv, e1, e2, cond_true, Bool.not_true, cond_false]
  rw [chk_loop hl h0 h1]; rfl

/-- Digits as numbers. -/
def digI (u : Nat) : List Int := (Lib.decDigits u).map fun b => (b.toNat : Int)
theorem u8s_nat (l : List UInt8) : u8s (l.map fun b => (b.toNat : Int)) = l := by
  unfold u8s
  rw [List.map_map]
  induction l with
  | nil => rfl
  | cons b l ih => rw [List.map_cons, ih]; simp
theorem dig_small {u : Nat} (h : u < 10) : digI u = [(48 + u : Int)] := by
  unfold digI
  rw [Lib.decDigits_one h]
  simp only [List.map_cons, List.map_nil]
  congr 1
  rw [UInt8.toNat_ofNat_of_lt' (by simp [UInt8.size]; omega)]
  omega
theorem dig_big {u : Nat} (h : ¬ u < 10) : digI u = digI (u / 10) ++ [(48 + u % 10 : Int)] := by
  unfold digI
  rw [Lib.decDigits, dif_neg h, List.map_append]
  simp only [List.map_cons, List.map_nil]
  congr 2
  rw [UInt8.toNat_ofNat_of_lt' (by simp [UInt8.size]; omega)]
  omega
theorem dig_len {u : Nat} (h : u ≤ 9223372036854775808) : (digI u).length ≤ 20 := by
  unfold digI
  rw [List.length_map]
  have h1 := Lib.decDigits_length u
  have h2 : Lib.nDigits u ≤ 20 := by
    by_cases hk : u < 10 ^ 19
    · by_cases h0 : u = 0
      · subst h0; rw [Lib.nDigits_small (by omega)]; omega
      · have : ∀ k u, 1 ≤ k → u < 10 ^ k → Lib.nDigits u ≤ k := by
          intro k
          induction k with
          | zero => intro u hk; omega
          | succ k ih =>
            intro u _ hu
            by_cases h10 : u < 10
            · rw [Lib.nDigits_small h10]; omega
            · rw [Lib.nDigits_big h10]
              have : u / 10 < 10 ^ k := by
                rw [Nat.pow_succ] at hu
                exact Nat.div_lt_of_lt_mul (by rw [Nat.mul_comm]; exact hu)
              have hk1 : 1 ≤ k := by
                rcases Nat.eq_zero_or_pos k with rfl | h; · simp at this; omega
                exact h
              have := ih _ hk1 this
              omega
        have := this 19 u (by omega) hk
        omega
    · have : (10 : Nat) ^ 19 = 10000000000000000000 := by decide
      omega
  omega

/-- The sign's number: 1, or minus 1. -/
theorem sdec (n : Int) (h0 : -9223372036854775808 ≤ n) (h1 : n ≤ 9223372036854775807) : M.spec_l01Dec n = some (Lib.itoa n) := by
  unfold M.spec_l01Dec
  have key : ∀ (u : Nat) (out : List Int) (rest : Int), rest.natAbs = u → u ≤ 9223372036854775808 → out.length ≤ 40 - (digI u).length → (out = [] ∨ u ≠ 0) → (rest < 0 ↔ n < 0 ∧ u ≠ 0) →
      loopM (fun (s3 : List Int × Int) =>
      letv (
          bif (icmp .eql ((s3.1).length : Int) 0) then
            true
          else
            (icmp .neq s3.2 0)) fun m4 =>
      bif m4 then
        bif (icmp .lss ((s3.2).tmod 10) 0) then
          (app 1 ([(IntKind.u8.wrap (IntKind.i64.wrap (48 + (IntKind.i64.wrap (0 - ((s3.2).tmod 10))))))]) s3.1).bind fun m13 =>
          some (.inl (m13, (IntKind.i64.wrap ((s3.2).tdiv 10))))
        else
          (app 1 ([(IntKind.u8.wrap (IntKind.i64.wrap (48 + ((s3.2).tmod 10))))]) s3.1).bind fun m22 =>
          some (.inl (m22, (IntKind.i64.wrap ((s3.2).tdiv 10))))
      else
        some (.inr s3.1)) ((out, rest) : List Int × Int) = some (digI u ++ out) := by
    intro u
    induction u using Nat.strongRecOn with
    | ind u ih =>
    intro out rest hr hu hlen hgo hsg
    have hd1 : 1 ≤ (digI u).length := by
      unfold digI; rw [List.length_map, Lib.decDigits_length]; exact Lib.nDigits_pos u
    have hd2 := dig_len hu
    have go : (bif icmp .eql ((out.length : Nat) : Int) 0 then true else icmp .neq rest 0) = true := by
      rcases hgo with rfl | hne
      · rfl
      · have : icmp .neq rest 0 = true := by simp only [icmp_neq, bne_iff_ne, ne_eq]; omega
        rw [this]; cases icmp .eql ((out.length : Nat) : Int) 0 <;> rfl
    -- the digit
    have hdig : ∃ (d : Int), d = 48 + ((u % 10 : Nat) : Int) ∧ (bif (icmp .lss (rest.tmod 10) 0) then
          (app 1 ([(IntKind.u8.wrap (IntKind.i64.wrap (48 + (IntKind.i64.wrap (0 - (rest.tmod 10))))))]) out).bind fun m13 =>
          some ((.inl (m13, (IntKind.i64.wrap (rest.tdiv 10)))) : (List Int × Int) ⊕ List Int)
        else
          (app 1 ([(IntKind.u8.wrap (IntKind.i64.wrap (48 + (rest.tmod 10))))]) out).bind fun m22 =>
          some (.inl (m22, (IntKind.i64.wrap (rest.tdiv 10))))) = some (.inl (d :: out, rest.tdiv 10)) := by
      refine ⟨_, rfl, ?_⟩
      have happ : ∀ d : Int, app 1 [d] out = some (d :: out) := fun d => by rw [app_small (by simp only [List.length_singleton]; omega)]; rfl
      have wu : ∀ k : Nat, k < 10 → IntKind.u8.wrap (48 + (k : Int)) = 48 + (k : Int) := by
        intro k hk
        have : ∀ k : Fin 10, IntKind.u8.wrap (48 + (k.val : Int)) = 48 + (k.val : Int) := by decide
        exact this ⟨k, hk⟩
      rcases Int.lt_or_le rest 0 with hneg | hpos
      · have er : rest = -(u : Int) := by omega
        have et : rest.tmod 10 = -((u % 10 : Nat) : Int) := by rw [er, Int.neg_tmod]; rfl
        have ed : rest.tdiv 10 = -((u / 10 : Nat) : Int) := by rw [er, Int.neg_tdiv]; rfl
        rw [et, ed]
        have wd : IntKind.i64.wrap (-((u / 10 : Nat) : Int)) = -((u / 10 : Nat) : Int) := wrap_in (by omega)
        rw [wd]
        by_cases hz : u % 10 = 0
        · have e1 : icmp .lss (-((u % 10 : Nat) : Int)) 0 = false := by rw [icmp_lss]; exact decide_eq_false (by omega)
          rw [e1, cond_false, hz]
          have : IntKind.u8.wrap (IntKind.i64.wrap (48 + -((0 : Nat) : Int))) = 48 + ((0 : Nat) : Int) := by decide
          rw [this, happ, Option.bind_some]
        · have e1 : icmp .lss (-((u % 10 : Nat) : Int)) 0 = true := by rw [icmp_lss]; exact decide_eq_true (by omega)
          rw [e1, cond_true, wrap_in (n := 0 - -((u % 10 : Nat) : Int)) (by omega)]
          have e2 : 48 + (0 - -((u % 10 : Nat) : Int)) = 48 + ((u % 10 : Nat) : Int) := by omega
          rw [e2, wrap_in (by omega), wu _ (Nat.mod_lt _ (by omega)), happ, Option.bind_some]
      · have er : rest = (u : Int) := by omega
        have et : rest.tmod 10 = ((u % 10 : Nat) : Int) := by rw [er]; rfl
        have ed : rest.tdiv 10 = ((u / 10 : Nat) : Int) := by rw [er]; rfl
        have e1 : icmp .lss (((u % 10 : Nat) : Int)) 0 = false := by rw [icmp_lss]; exact decide_eq_false (by omega)
        rw [et, ed, e1, cond_false, wrap_in (n := ((u / 10 : Nat) : Int)) (by omega), wrap_in (by omega), wu _ (Nat.mod_lt _ (by omega)), happ, Option.bind_some]
    obtain ⟨d, hd, hstep⟩ := hdig
    rw [loopM_next (s' := (d :: out, rest.tdiv 10))]
    · by_cases h10 : u < 10
      · have hz : rest.tdiv 10 = 0 := by
          rcases Int.lt_or_le rest 0 with hneg | hpos
          · have er : rest = -(u : Int) := by omega
            rw [er, Int.neg_tdiv]; show -(((u / 10 : Nat) : Int)) = 0; omega
          · have er : rest = (u : Int) := by omega
            rw [er]; show (((u / 10 : Nat) : Int)) = 0; omega
        rw [hz]
        rw [loopM_end (e := d :: out)]
        · rw [dig_small h10, hd, Nat.mod_eq_of_lt h10]; rfl
        · have e3 : icmp .eql (((d :: out).length : Nat) : Int) 0 = false := by simp only [icmp_eql, List.length_cons, beq_eq_false_iff_ne]; omega
          dsimp only
          rw [e3]; rfl
      · have hab : (rest.tdiv 10).natAbs = u / 10 := by
          rcases Int.lt_or_le rest 0 with hneg | hpos
          · have er : rest = -(u : Int) := by omega
            rw [er, Int.neg_tdiv]; show (-(((u / 10 : Nat) : Int))).natAbs = _; omega
          · have er : rest = (u : Int) := by omega
            rw [er]; show ((((u / 10 : Nat) : Int))).natAbs = _; omega
        have hsg' : rest.tdiv 10 < 0 ↔ n < 0 ∧ u / 10 ≠ 0 := by
          rcases Int.lt_or_le rest 0 with hneg | hpos
          · have er : rest = -(u : Int) := by omega
            have e4 : rest.tdiv 10 = -((u / 10 : Nat) : Int) := by rw [er, Int.neg_tdiv]; rfl
            have := hsg.1 hneg
            rw [e4]; omega
          · have er : rest = (u : Int) := by omega
            have e4 : rest.tdiv 10 = ((u / 10 : Nat) : Int) := by rw [er]; rfl
            rw [e4]
            have h5 : ¬ (n < 0 ∧ u ≠ 0) := fun h => by have := hsg.2 h; omega
            omega
        have hdl := congrArg List.length (dig_big h10)
        rw [List.length_append, List.length_singleton] at hdl
        rw [ih (u / 10) (by omega) (d :: out) _ hab (by omega) (by rw [List.length_cons]; omega) (.inr (by omega)) hsg']
        rw [dig_big h10, hd]
        simp
    · dsimp only
      simp only [letv]
      rw [go, cond_true]
      exact hstep
  have hu : n.natAbs ≤ 9223372036854775808 := by omega
  have hl0 := dig_len hu
  rw [key n.natAbs [] n rfl hu (by simp) (.inl rfl) (by omega), Option.bind_some, List.append_nil]
  by_cases hneg : n < 0
  · have e1 : icmp .lss n 0 = true := by rw [icmp_lss]; exact decide_eq_true hneg
    rw [e1, cond_true, app_small (by simp only [List.length_singleton]; omega), Option.bind_some]
    unfold Lib.itoa
    rw [if_pos hneg]
    have := u8s_nat (45 :: Lib.decDigits n.natAbs)
    rw [List.map_cons] at this
    exact congrArg some this
  · have e1 : icmp .lss n 0 = false := by rw [icmp_lss]; exact decide_eq_false hneg
    rw [e1, cond_false]
    unfold Lib.itoa
    rw [if_neg hneg]
    have : n.natAbs = n.toNat := by omega
    rw [this]
    exact congrArg some (u8s_nat _)
theorem idec (n : Int) (h0 : -9223372036854775808 ≤ n) (h1 : n ≤ 9223372036854775807) : M.impl_Decimal n = some (Lib.itoa n) := by
  unfold M.impl_Decimal fmt10
  rw [if_pos ⟨h0, h1⟩]; rfl

theorem contains10 (l : List UInt8) : M.strings_Contains_s0a l = some (decide (l.count 10 ≠ 0)) := by
  have e0 : M.strings_Index_s0a l = some (Lib.indexByte l 10) := by
    unfold M.strings_Index_s0a M.internal_stringslite_Index_s0a M.internal_stringslite_IndexByte
    have e : sidx ([10] : List UInt8) 0 = some 10 := by decide
    have e2 : sfind l 10 = Lib.indexByte l 10 := rfl
    rw [e]
    simp only [letv, Option.bind_some, e2]
    by_cases h : ([10] : List UInt8) = l
    · subst h; rfl
    · have : (([10] : List UInt8) == l) = false := by simpa using h
      rw [this]; rfl
  unfold M.strings_Contains_s0a
  rw [e0, Option.bind_some, icmp_geq]
  by_cases h : Lib.indexByte l 10 = -1
  · rw [h, count_miss h]; rfl
  · have hge := Lib.indexByte_ge l 10
    obtain ⟨m, hm⟩ : ∃ m : Nat, Lib.indexByte l 10 = m := ⟨(Lib.indexByte l 10).toNat, by omega⟩
    have := (count_hit hm).1
    rw [hm]
    rw [decide_eq_true (by omega : ((m : Nat) : Int) ≥ 0), decide_eq_true (by omega)]

/-- The journal of lines. -/
def jr : Int → List (List UInt8) → List UInt8
  | _, [] => []
  | n, l :: r => (Lib.itoa (chk n l) ++ [32] ++ l ++ [10]) ++ jr (chk n l) r
theorem jr_cons (n : Int) (l : List UInt8) (r : List (List UInt8)) : jr n (l :: r) = (Lib.itoa (chk n l) ++ [32] ++ l ++ [10]) ++ jr (chk n l) r := rfl
theorem itoa_len {n : Int} (h0 : 0 ≤ n) (h1 : n < 65003) : 1 ≤ (Lib.itoa n).length ∧ (Lib.itoa n).length ≤ 20 := by
  unfold Lib.itoa
  rw [if_neg (by omega)]
  have h2 := dig_len (u := n.toNat) (by omega)
  unfold digI at h2
  rw [List.length_map] at h2
  have h3 := Lib.nDigits_pos n.toNat
  rw [← Lib.decDigits_length] at h3
  exact ⟨h3, h2⟩
theorem jr_long {xs : List (List UInt8)} : ∀ {n : Int}, 0 ≤ n → n < 65003 → sumLen xs + 3 * xs.length ≤ (jr n xs).length ∧ (jr n xs).length ≤ sumLen xs + 22 * xs.length := by
  induction xs with
  | nil => intro n _ _; simp [jr, sumLen]
  | cons l r ih =>
    intro n h0 h1
    obtain ⟨h2, h3⟩ := chk_range (s := l) h0 h1
    obtain ⟨h4, h5⟩ := ih h2 h3
    obtain ⟨h6, h7⟩ := itoa_len h2 h3
    have e : sumLen (l :: r) = l.length + sumLen r := by simp [sumLen]
    rw [jr_cons]
    simp only [List.length_append, List.length_cons, List.length_nil]
    omega
/-- No line has a line's end in it. -/
def plain (xs : List (List UInt8)) : Bool := xs.all fun l => decide (l.count 10 = 0)
def jres (xs : List (List UInt8)) : List UInt8 × Bool := if plain xs = true ∧ (jr 0 xs).length ≤ 16000 then (jr 0 xs, true) else ([], false)

theorem scat_ok {a b : List UInt8} (h : a.length + b.length ≤ 9223372036854775807) : scat a b = some (a ++ b) := by
  unfold scat
  rw [if_pos (by omega)]

theorem sjournal (xs : List (List UInt8)) (h : xs.length + sumLen xs ≤ 1048576) : M.spec_l08Journal xs = some (jr 0 xs) := by
  unfold M.spec_l08Journal
  have hmem : ∀ x ∈ xs, x.length ≤ 1048576 := fun x hx => by
    have := sum_mem hx
    omega
  rw [loopM_list (s0 := (([], 0, 0) : List UInt8 × Int × Int)) xs (fun (a : List UInt8 × Int) k => (a.1, a.2, (k : Int))) (fun a x => .inl (a.1 ++ (Lib.itoa (chk a.2 x) ++ [32] ++ x ++ [10]), chk a.2 x)) (fun a => a.1)
    (fun k a => 0 ≤ a.2 ∧ a.2 < 65003 ∧ a.1.length ≤ k * 1100000) ?_ ?_ ([], 0) ⟨by omega, by omega, by simp⟩ rfl]
  · rw [Option.bind_some]
    congr 1
    have key : ∀ (l : List (List UInt8)) (a : List UInt8 × Int), foldE (fun (a : List UInt8 × Int) (x : List UInt8) => (.inl (a.1 ++ (Lib.itoa (chk a.2 x) ++ [32] ++ x ++ [10]), chk a.2 x) : (List UInt8 × Int) ⊕ List UInt8)) (fun a => a.1) a l = a.1 ++ jr a.2 l := by
      intro l
      induction l with
      | nil => intro a; simp [foldE_nil, jr]
      | cons x l ih => intro a; rw [foldE_inl rfl, ih, jr_cons]; simp only [List.append_assoc]
    rw [key]; rfl
  · rintro k ⟨out, n⟩ x hx ⟨h0, h1, h2⟩
    simp only at h0 h1 h2
    have hlt := (List.getElem?_eq_some_iff.1 hx).1
    have hxl := hmem x (List.mem_of_getElem? hx)
    obtain ⟨h3, h4⟩ := chk_range (s := x) h0 h1
    obtain ⟨h5, h6⟩ := itoa_len h3 h4
    have e1 : icmp .lss (k : Int) (xs.length : Int) = true := by rw [icmp_lss]; exact decide_eq_true (by omega)
    have w : IntKind.i64.wrap ((k : Int) + 1) = ((k + 1 : Nat) : Int) := by rw [wrap_in (by omega)]; rfl
    dsimp only
    rw [e1, cond_true, idx_nat, hx, Option.bind_some, scheck (by omega) h0 h1, Option.bind_some, sdec _ (by omega) (by omega), Option.bind_some]
    have hk : k * 1100000 ≤ 1048576 * 1100000 := Nat.mul_le_mul_right _ (by omega)
    rw [scat_ok (by simp only [List.length_cons, List.length_nil]; omega), Option.bind_some, Option.bind_some,
      scat_ok (by simp only [List.length_append, List.length_cons, List.length_nil]; omega), Option.bind_some, scat_ok (by simp only [List.length_append, List.length_cons, List.length_nil]; omega), Option.bind_some,
      scat_ok (by simp only [List.length_append, List.length_cons, List.length_nil]; omega), Option.bind_some, w]
    refine ⟨rfl, h3, h4, ?_⟩
    simp only [List.length_append, List.length_cons, List.length_nil]
    omega
  · rintro ⟨out, n⟩ ⟨h0, h1, h2⟩
    have e1 : icmp .lss (xs.length : Int) (xs.length : Int) = false := by rw [icmp_lss]; exact decide_eq_false (by omega)
    dsimp only
    rw [e1, cond_false]

/-- A line is looked over for a line's end. -/
theorem scan10 (xs : List (List UInt8)) {k : Nat} {l : List UInt8} (hx : xs[k]? = some l) (hl : l.length ≤ 1048576) : loopM (fun (s7 : Int) =>
              (idx xs (k : Int)).bind fun m8 =>
              bif (icmp .lss s7 ((m8).length : Int)) then
                (idx xs (k : Int)).bind fun m12 =>
                (sidx m12 s7).bind fun m14 =>
                bif (icmp .eql m14 10) then
                  some (.inr (.inr (([] : List UInt8), false)))
                else
                  some (.inl (IntKind.i64.wrap (s7 + 1)))
              else
                some (.inr (.inl ()))) (0 : Int) = some (if l.count 10 = 0 then .inl () else .inr ([], false) : Unit ⊕ (List UInt8 × Bool)) := by
  rw [loopM_list (s0 := (0 : Int)) l (fun (_ : Unit) k => (k : Int)) (fun _ b => if b = 10 then .inr (.inr ([], false)) else .inl ()) (fun _ => .inl ()) (fun _ _ => True) ?_ ?_ () trivial rfl]
  · congr 1
    clear hx hl
    induction l with
    | nil => rfl
    | cons b l ih =>
      by_cases hb : b = 10
      · rw [foldE_inr (e := .inr ([], false)) (by rw [if_pos hb]), if_neg]
        subst hb
        rw [List.count_cons_self]; omega
      · rw [foldE_inl (a' := ()) (by rw [if_neg hb]), ih, List.count_cons_of_ne hb]
  · rintro j a b hb _
    have hlt := (List.getElem?_eq_some_iff.1 hb).1
    have e1 : icmp .lss (j : Int) (l.length : Int) = true := by rw [icmp_lss]; exact decide_eq_true (by omega)
    have w : IntKind.i64.wrap ((j : Int) + 1) = ((j + 1 : Nat) : Int) := by rw [wrap_in (by omega)]; rfl
    rw [idx_nat, hx, Option.bind_some, e1, cond_true, Option.bind_some, sidx_nat, hb, Option.map_some, Option.bind_some]
    by_cases hbb : b = 10
    · have e2 : icmp .eql ((b.toNat : Nat) : Int) 10 = true := by subst hbb; rfl
      rw [if_pos hbb, e2, cond_true]
    · have e2 : icmp .eql ((b.toNat : Nat) : Int) 10 = false := by
        simp only [icmp_eql, beq_eq_false_iff_ne]
        exact fun h => hbb (byte_inj.1 h)
      rw [if_neg hbb, e2, cond_false, w]
      exact ⟨rfl, trivial⟩
  · rintro a _
    have e1 : icmp .lss (l.length : Int) (l.length : Int) = false := by rw [icmp_lss]; exact decide_eq_false (by omega)
    rw [idx_nat, hx, Option.bind_some, e1, cond_false]

theorem sJournalOf (xs : List (List UInt8)) (h : xs.length + sumLen xs ≤ 1048576) : M.spec_JournalOf xs = some (jres xs) := by
  unfold M.spec_JournalOf
  rw [loopM_list (s0 := ((0, 0) : Int × Int)) xs (fun (a : Int) k => (a, (k : Int))) (fun a x => if a + ((x.length : Int) + 3) > 16000 then .inr (.inr ([], false)) else if x.count 10 = 0 then .inl (a + ((x.length : Int) + 3)) else .inr (.inr ([], false))) (fun _ => .inl ())
    (fun _ a => 0 ≤ a ∧ a ≤ 16000) ?_ ?_ 0 ⟨by omega, by omega⟩ rfl]
  · have key : ∀ (l : List (List UInt8)) (a : Int), foldE (fun (a : Int) (x : List UInt8) => if a + ((x.length : Int) + 3) > 16000 then (.inr (.inr ([], false)) : Int ⊕ (Unit ⊕ (List UInt8 × Bool))) else if x.count 10 = 0 then .inl (a + ((x.length : Int) + 3)) else .inr (.inr ([], false))) (fun _ => .inl ()) a l
        = if plain l = true ∧ a + ((sumLen l : Int) + 3 * l.length) ≤ 16000 ∨ l = [] then .inl () else .inr ([], false) := by
      intro l
      induction l with
      | nil => intro a; rw [if_pos (.inr rfl)]; rfl
      | cons x l ih =>
        intro a
        have e : sumLen (x :: l) = x.length + sumLen l := by simp [sumLen]
        have hp : plain (x :: l) = (decide (x.count 10 = 0) && plain l) := rfl
        by_cases h1 : a + ((x.length : Int) + 3) > 16000
        · rw [foldE_inr (e := .inr ([], false)) (by rw [if_pos h1]), if_neg]
          rintro (⟨_, h2⟩ | h2)
          · rw [e, List.length_cons] at h2; omega
          · cases h2
        · by_cases h2 : x.count 10 = 0
          · rw [foldE_inl (a' := a + ((x.length : Int) + 3)) (by rw [if_neg h1, if_pos h2]), ih, hp]
            by_cases hl : l = []
            · subst hl
              rw [if_pos (.inr rfl), if_pos]
              left
              refine ⟨by simp [h2, plain], ?_⟩
              rw [e]; simp only [sumLen, List.map_nil, List.sum_nil, List.length_cons, List.length_nil]; omega
            · have e3 : (plain l = true ∧ a + ((x.length : Int) + 3) + ((sumLen l : Int) + 3 * l.length) ≤ 16000 ∨ l = []) ↔ ((decide (x.count 10 = 0) && plain l) = true ∧ a + ((sumLen (x :: l) : Int) + 3 * (x :: l).length) ≤ 16000 ∨ (x :: l) = []) := by
                rw [e, List.length_cons]
                constructor
                · rintro (⟨h3, h4⟩ | h3)
                  · exact .inl ⟨by simp [h2, h3], by omega⟩
                  · exact absurd h3 hl
                · rintro (⟨h3, h4⟩ | h3)
                  · exact .inl ⟨by simpa [h2] using h3, by omega⟩
                  · cases h3
              by_cases h5 : plain l = true ∧ a + ((x.length : Int) + 3) + ((sumLen l : Int) + 3 * l.length) ≤ 16000 ∨ l = []
              · rw [if_pos h5, if_pos (e3.1 h5)]
              · rw [if_neg h5, if_neg (fun h => h5 (e3.2 h))]
          · rw [foldE_inr (e := .inr ([], false)) (by rw [if_neg h1, if_neg h2]), if_neg]
            rintro (⟨h3, _⟩ | h3)
            · rw [hp] at h3; simp [h2] at h3
            · cases h3
    rw [key, Option.bind_some]
    obtain ⟨hj1, _⟩ := jr_long (xs := xs) (n := 0) (by omega) (by omega)
    unfold jres
    by_cases h1 : plain xs = true ∧ (0 : Int) + ((sumLen xs : Int) + 3 * xs.length) ≤ 16000 ∨ xs = []
    · rw [if_pos h1]
      have hp : plain xs = true := by
        rcases h1 with ⟨h2, _⟩ | rfl
        · exact h2
        · rfl
      simp only [sel]
      rw [sjournal xs h, Option.bind_some]
      by_cases h2 : (jr 0 xs).length ≤ 16000
      · have e : icmp .gtr ((jr 0 xs).length : Int) 16000 = false := by rw [icmp_gtr]; exact decide_eq_false (by omega)
        rw [e, cond_false, if_pos ⟨hp, h2⟩]
      · have e : icmp .gtr ((jr 0 xs).length : Int) 16000 = true := by rw [icmp_gtr]; exact decide_eq_true (by omega)
        rw [e, cond_true, if_neg (fun h => h2 h.2)]
    · rw [if_neg h1]
      simp only [sel]
      rw [if_neg]
      rintro ⟨h2, h3⟩
      exact h1 (.inl ⟨h2, by omega⟩)
  · rintro k a x hx ⟨ha, hb⟩
    have hlt := (List.getElem?_eq_some_iff.1 hx).1
    have hxl := sum_mem (List.mem_of_getElem? hx)
    have e1 : icmp .lss (k : Int) (xs.length : Int) = true := by rw [icmp_lss]; exact decide_eq_true (by omega)
    have w : IntKind.i64.wrap ((k : Int) + 1) = ((k + 1 : Nat) : Int) := by rw [wrap_in (by omega)]; rfl
    have w2 : IntKind.i64.wrap ((x.length : Int) + 3) = (x.length : Int) + 3 := wrap_in (by omega)
    have w3 : IntKind.i64.wrap (a + ((x.length : Int) + 3)) = a + ((x.length : Int) + 3) := wrap_in (by omega)
    dsimp only
    rw [e1, cond_true, idx_nat, hx, Option.bind_some, w2, w3]
    by_cases h1 : a + ((x.length : Int) + 3) > 16000
    · have e2 : icmp .gtr (a + ((x.length : Int) + 3)) 16000 = true := by rw [icmp_gtr]; exact decide_eq_true h1
      rw [if_pos h1, e2, cond_true]
    · have e2 : icmp .gtr (a + ((x.length : Int) + 3)) 16000 = false := by rw [icmp_gtr]; exact decide_eq_false h1
      have hsc := scan10 xs hx (by omega)
      rw [idx_nat, hx] at hsc
      rw [if_neg h1, e2, cond_false, hsc, Option.bind_some]
      by_cases h2 : x.count 10 = 0
      · rw [if_pos h2, if_pos h2]
        simp only [sel, w]
        exact ⟨trivial, by omega, by omega⟩
      · rw [if_neg h2, if_neg h2]
  · rintro a ⟨ha, hb⟩
    have e1 : icmp .lss (xs.length : Int) (xs.length : Int) = false := by rw [icmp_lss]; exact decide_eq_false (by omega)
    dsimp only
    rw [e1, cond_false]

theorem bad3 (p q r : Prop) [Decidable p] [Decidable q] [Decidable r] : (bif decide p then some true else (some (decide q)).bind fun m => bif m then some true else some (decide r)) = some (decide (p ∨ q ∨ r)) := by
  by_cases hp : p <;> by_cases hq : q <;> by_cases hr : r <;> simp [hp, hq, hr]
theorem iJournalOf (xs : List (List UInt8)) (h : xs.length + sumLen xs ≤ 1048576) : M.impl_JournalOf xs = some (jres xs) := by
  unfold M.impl_JournalOf
  rw [loopM_list (s0 := ((0, 0, []) : Int × Int × List UInt8)) xs (fun (a : Int × List UInt8) k => (a.1, (k : Int), a.2)) (fun a x => if x.length > 16000 ∨ x.count 10 ≠ 0 ∨ a.2.length > 16000 then .inr (.inr ([], false)) else .inl (chk a.1 x, a.2 ++ (Lib.itoa (chk a.1 x) ++ [32] ++ x ++ [10]))) (fun a => .inl a.2)
    (fun k a => 0 ≤ a.1 ∧ a.1 < 65003 ∧ a.2.length ≤ 40000) ?_ ?_ (0, []) ⟨by omega, by omega, by simp⟩ rfl]
  · rw [Option.bind_some]
    have key : ∀ (l : List (List UInt8)) (a : Int × List UInt8), 0 ≤ a.1 → a.1 < 65003 → ∀ e, foldE (fun (a : Int × List UInt8) (x : List UInt8) => if x.length > 16000 ∨ x.count 10 ≠ 0 ∨ a.2.length > 16000 then (.inr (.inr ([], false)) : (Int × List UInt8) ⊕ (List UInt8 ⊕ (List UInt8 × Bool))) else .inl (chk a.1 x, a.2 ++ (Lib.itoa (chk a.1 x) ++ [32] ++ x ++ [10]))) (fun a => .inl a.2) a l = e →
        (e = .inl (a.2 ++ jr a.1 l) ∧ plain l = true) ∨ (e = .inr ([], false) ∧ ¬ (plain l = true ∧ (a.2 ++ jr a.1 l).length ≤ 16000)) := by
      intro l
      induction l with
      | nil => intro a _ _ e he; left; subst he; exact ⟨by simp [foldE_nil, jr], rfl⟩
      | cons x l ih =>
        intro a h0 h1 e he
        have hp : plain (x :: l) = (decide (x.count 10 = 0) && plain l) := rfl
        obtain ⟨h3, h4⟩ := chk_range (s := x) h0 h1
        by_cases hb : x.length > 16000 ∨ x.count 10 ≠ 0 ∨ a.2.length > 16000
        · rw [foldE_inr (e := .inr ([], false)) (by rw [if_pos hb])] at he
          right
          refine ⟨he.symm, ?_⟩
          rintro ⟨h5, h6⟩
          rw [hp] at h5
          simp only [Bool.and_eq_true, decide_eq_true_eq] at h5
          rw [jr_cons] at h6
          simp only [List.length_append, List.length_cons, List.length_nil] at h6
          rcases hb with hb | hb | hb
          · omega
          · exact hb h5.1
          · omega
        · rw [foldE_inl (by rw [if_neg hb])] at he
          have e2 : a.2 ++ (Lib.itoa (chk a.1 x) ++ [32] ++ x ++ [10]) ++ jr (chk a.1 x) l = a.2 ++ jr a.1 (x :: l) := by
            rw [List.append_assoc]; rfl
          have := ih _ h3 h4 e he
          simp only at this
          rw [e2] at this
          have hx0 : x.count 10 = 0 := by omega
          rw [hp]
          simp only [hx0, decide_true, Bool.true_and]
          exact this
    unfold jres
    rcases key xs (0, []) (by simp) (by simp) _ rfl with ⟨h1, h2⟩ | ⟨h1, h2⟩
    · rw [h1]
      simp only [sel, List.nil_append]
      by_cases h3 : (jr 0 xs).length ≤ 16000
      · have e : icmp .gtr ((jr 0 xs).length : Int) 16000 = false := by rw [icmp_gtr]; exact decide_eq_false (by omega)
        rw [e, cond_false, if_pos ⟨h2, h3⟩]
      · have e : icmp .gtr ((jr 0 xs).length : Int) 16000 = true := by rw [icmp_gtr]; exact decide_eq_true (by omega)
        rw [e, cond_true, if_neg (fun h => h3 h.2)]
    · have h2' : ¬ (plain xs = true ∧ (jr 0 xs).length ≤ 16000) := h2
      rw [h1, if_neg h2']
  · rintro k ⟨n, out⟩ x hx ⟨h0, h1, h2⟩
    have hlt := (List.getElem?_eq_some_iff.1 hx).1
    have hxl := sum_mem (List.mem_of_getElem? hx)
    have e1 : icmp .lss (k : Int) (xs.length : Int) = true := by rw [icmp_lss]; exact decide_eq_true (by omega)
    have w : IntKind.i64.wrap ((k : Int) + 1) = ((k + 1 : Nat) : Int) := by rw [wrap_in (by omega)]; rfl
    simp only at h0 h1 h2
    obtain ⟨h3, h4⟩ := chk_range (s := x) h0 h1
    obtain ⟨h5, h6⟩ := itoa_len h3 h4
    dsimp only
    rw [e1, cond_true, idx_nat, hx, Option.bind_some, contains10]
    have hbad2 : (bif icmp .gtr (x.length : Int) 16000 then some true else (some (decide (x.count 10 ≠ 0))).bind fun m16 => bif m16 then some true else some (icmp .gtr (out.length : Int) 16000)) = some (decide (x.length > 16000 ∨ x.count 10 ≠ 0 ∨ out.length > 16000)) := by
      have a1 : decide ((x.length : Int) > 16000) = decide (x.length > 16000) := decide_eq_decide.2 (by omega)
      have a2 : decide ((out.length : Int) > 16000) = decide (out.length > 16000) := decide_eq_decide.2 (by omega)
      rw [icmp_gtr, icmp_gtr, a1, a2]
      exact bad3 _ _ _
    rw [hbad2, Option.bind_some]
    by_cases hb : x.length > 16000 ∨ x.count 10 ≠ 0 ∨ out.length > 16000
    · rw [if_pos hb, decide_eq_true hb, cond_true]
    · rw [if_neg hb, decide_eq_false hb, cond_false, icheck (by omega) h0 h1, Option.bind_some]
      dsimp only
      rw [idec _ (by omega) (by omega), Option.bind_some, scat_ok (by simp only [List.length_cons, List.length_nil]; omega), Option.bind_some, scat_ok (by simp only [List.length_append, List.length_cons, List.length_nil]; omega), Option.bind_some,
        scat_ok (by simp only [List.length_append, List.length_cons, List.length_nil]; omega), Option.bind_some, app_small (by simp only [List.length_append, List.length_cons, List.length_nil]; omega), Option.bind_some, w]
      refine ⟨rfl, h3, h4, ?_⟩
      simp only [List.length_append, List.length_cons, List.length_nil]
      omega
  · rintro ⟨n, out⟩ ⟨h0, h1, h2⟩
    have e1 : icmp .lss (xs.length : Int) (xs.length : Int) = false := by rw [icmp_lss]; exact decide_eq_false (by omega)
    dsimp only
    rw [e1, cond_false]

/-- The law of JournalOf. -/
theorem law_JournalOf (xs : List (List UInt8)) (h : xs.length ≤ 9223372036854775807) (hs : ∀ x ∈ xs, x.length ≤ 9223372036854775807) : M.laws_FnExactJournalOf xs = some true := by
  unfold M.laws_FnExactJournalOf
  obtain ⟨r, h1, h2⟩ := szStrings xs h hs
  rw [h1, Option.bind_some]
  by_cases hr : r < 0
  · have e : icmp .lss r 0 = true := by rw [icmp_lss]; exact decide_eq_true hr
    rw [e, cond_true]
  · have e : icmp .lss r 0 = false := by rw [icmp_lss]; exact decide_eq_false hr
    have h3 := h2.resolve_left hr
    have h4 : xs.length ≤ 8796093022208 := by omega
    rw [e, cond_false, toStrings xs h4, Option.bind_some, sJournalOf xs h3, Option.bind_some, Option.bind_some, iJournalOf xs h3]
    simp only [Option.bind_some, letv, beq_self_eq_true, cond_true, Bool.not_true, cond_false, eqStrings_self xs h4]

end Go.Proofs
