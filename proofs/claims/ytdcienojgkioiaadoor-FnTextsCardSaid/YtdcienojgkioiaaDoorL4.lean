import Derived.Test.YtdcienojgkioiaaDoorL3
/- The laws of ReadSwing and ReadPendulum. No program in sight. -/
namespace Go.Proofs
open Go Go.Fl Go.RowKit Go.Rg
attribute [local irreducible] fint fcmp fop fneg widen narrow fsqrt cn

theorem sfin (x : Nat) : M.spec_l01Finite x = fin x := rfl
theorem ifin (x : Nat) : M.impl_IsFinite x = fin x := rfl
def finQ (xs : List Nat) : Unit ⊕ Int → Prop
  | .inl _ => xs.all fin = true
  | .inr i => 0 ≤ i ∧ xs.all fin = false
/-- The first of a list that is not a number, or none. -/
theorem fin_scan (xs : List Nat) (hl : xs.length < 4611686018427387904) : M.impl_finite xs = some (xs.all fin) := by
  unfold M.impl_finite M.slices_ContainsFunc___float32_float32__f161 M.slices_IndexFunc___float32_float32__f161
  have key : ∃ e : Unit ⊕ Int, loopM (fun (s1 : Int) =>
      bif (icmp .lss s1 ((xs).length : Int)) then
        (idx xs s1).bind fun m3 =>
        letv (M.impl_finite_1 m3) fun m6 =>
        bif m6 then
          some (.inr (.inr s1))
        else
          some (.inl (IntKind.i64.wrap (s1 + 1)))
      else
        some (.inr (.inl ()))) (0 : Int) = some e ∧ finQ xs e := by
    refine loopM_one (fun n (s : Int) => ∃ k : Nat, s = k ∧ k ≤ xs.length ∧ n = xs.length - k ∧ (xs.take k).all fin = true) (finQ xs) ?_ xs.length 0 ⟨0, rfl, Nat.zero_le _, rfl, rfl⟩
    rintro n s ⟨k, rfl, hk, rfl, ht⟩
    by_cases h : k < xs.length
    · have hx : xs[k]? = some xs[k] := List.getElem?_eq_getElem h
      have hlt : icmp .lss (k : Int) (xs.length : Int) = true := by rw [icmp_lss]; exact decide_eq_true (by omega)
      simp only [hlt, cond_true, idx_nat, hx, Option.bind_some, letv, M.impl_finite_1, ifin]
      cases hf : fin xs[k] with
      | false =>
        refine .inl ⟨_, rfl, by omega, ?_⟩
        rw [List.all_eq_false]
        exact ⟨xs[k], List.getElem_mem h, by simp [hf]⟩
      | true =>
        refine .inr ⟨_, xs.length - (k + 1), rfl, by omega, k + 1, ?_, h, rfl, ?_⟩
        · rw [wrap_in (by omega)]; rfl
        · rw [List.take_succ_eq_append_getElem h, List.all_append, ht]; simp [hf]
    · have hlt : icmp .lss (k : Int) (xs.length : Int) = false := by rw [icmp_lss]; exact decide_eq_false (by omega)
      simp only [hlt, cond_false]
      refine .inl ⟨_, rfl, ?_⟩
      rw [List.take_of_length_le (by omega)] at ht
      exact ht
  obtain ⟨e, he, hq⟩ := key
  rw [he]
  simp only [Option.bind_some]
  cases e with
  | inl u => simp only [finQ] at hq; simp only [Option.bind_some, sel]; rw [hq]; rfl
  | inr i => simp only [finQ] at hq; simp only [Option.bind_some, sel]; rw [hq.2]; simp [icmp_geq, hq.1]

theorem same_self (x : Nat) : M.laws_sameFloat x x = true := by
  unfold M.laws_sameFloat
  simp only [letv, ne_self']
  cases h : isNaN .f64 x
  · simp only [cond_false, eq_self' h]
    cases fcmp .eql .f64 x 0 <;> simp
  · rfl

/-- So many numbers with a text; else zeros. -/
def exn (l : List UInt8) (k : Nat) : List Nat × Bool := if (rdnums l).2 = true ∧ (rdnums l).1.length = k then ((rdnums l).1, true) else (List.replicate k 0, false)
theorem iexactly (l : List UInt8) (k : Nat) (hk : k ≤ 100) (hl : l.length ≤ 1048576) : M.impl_exactly l (k : Int) = some (exn l k) := by
  unfold M.impl_exactly exn
  rw [inums l hl, Option.bind_some]
  by_cases h : (rdnums l).2 = true
  · by_cases h2 : (rdnums l).1.length = k
    · have e : icmp .neq ((rdnums l).1.length : Int) (k : Int) = false := by simp [icmp_neq, h2]
      rw [if_pos ⟨h, h2⟩]
      simp only [letv, h, cond_true, e, cond_false]
    · have e : icmp .neq ((rdnums l).1.length : Int) (k : Int) = true := by simp only [icmp_neq, bne_iff_ne, ne_eq]; omega
      rw [if_neg (fun x => h2 x.2)]
      simp only [letv, h, cond_true, e]
      rw [mkl_ok (by omega)]; rfl
  · have h' : (rdnums l).2 = false := by simpa using h
    rw [if_neg (fun x => h x.1)]
    simp only [letv, h', cond_false, cond_true]
    rw [mkl_ok (by omega)]; rfl

theorem len3 {l : List Nat} (h : l.length = 3) : ∃ a b c, l = [a, b, c] := by
  match l, h with
  | [a, b, c], _ => exact ⟨a, b, c, rfl⟩
theorem len5 {l : List Nat} (h : l.length = 5) : ∃ a b c d e, l = [a, b, c, d, e] := by
  match l, h with
  | [a, b, c, d, e], _ => exact ⟨a, b, c, d, e, rfl⟩

theorem ivalidSwing (s : SSwing) : M.impl_ValidSwing s = some (M.spec_l02Swing s) := by
  unfold M.impl_ValidSwing M.spec_l02Swing M.impl_Swing_numbers
  simp only [letv, sfin]
  rw [fin_scan _ (by simp)]
  simp only [Option.bind_some, List.all_cons, List.all_nil, Bool.and_true]
  cases fin s.turn <;> cases fin s.speed <;> rfl

theorem readSwing (l : List UInt8) (hl : l.length ≤ 1048576) : ∃ r, M.spec_ReadSwing l = some r ∧ M.impl_ReadSwing l = some r := by
  unfold M.spec_ReadSwing M.spec_l08ReadSwing M.impl_ReadSwing M.spec_l02Give
  have e3 : M.impl_exactly l 3 = some (exn l 3) := iexactly l 3 (by omega) hl
  have i0 : ∀ xs : List Nat, idx xs 0 = xs[0]? := fun xs => idx_nat xs 0
  have i1 : ∀ xs : List Nat, idx xs 1 = xs[1]? := fun xs => idx_nat xs 1
  have i2 : ∀ xs : List Nat, idx xs 2 = xs[2]? := fun xs => idx_nat xs 2
  rw [snums l hl, e3]
  simp only [Option.bind_some, i0, i1, i2, letv]
  unfold exn
  by_cases h : (rdnums l).2 = true ∧ (rdnums l).1.length = 3
  · rw [if_pos h]
    obtain ⟨h1, h2⟩ := h
    obtain ⟨a, b, c, habc⟩ := len3 h2
    simp only [h1, cond_true, habc, List.getElem?_cons_zero, List.getElem?_cons_succ, Option.bind_some, ivalidSwing]
    cases M.spec_l02Swing ⟨a, b, c⟩ with
    | true => exact ⟨_, rfl, rfl⟩
    | false => exact ⟨_, rfl, rfl⟩
  · rw [if_neg h]
    have e : (bif (rdnums l).2 then icmp .neq ((rdnums l).1.length : Int) 3 else true) = true := by
      cases hr : (rdnums l).2 with
      | false => rfl
      | true =>
        rw [cond_true]
        simp only [icmp_neq, bne_iff_ne, ne_eq]
        intro h3
        exact h ⟨hr, by omega⟩
    rw [e, cond_true, Option.bind_some]
    exact ⟨_, rfl, rfl⟩

theorem eqSwing_self (s : SSwing) : M.laws_eqSwing s s = true := by
  unfold M.laws_eqSwing; simp only [letv, same_self]; rfl

/-- The law of ReadSwing. -/
theorem law_ReadSwing (l : List UInt8) : M.laws_FnExactReadSwing l = some true := by
  unfold M.laws_FnExactReadSwing
  by_cases hl : l.length ≤ 1048576
  · obtain ⟨r, h1, h2⟩ := readSwing l hl
    have e : icmp .gtr (l.length : Int) 1048576 = false := by rw [icmp_gtr]; exact decide_eq_false (by omega)
    rw [e, cond_false, h1, h2]
    have eta : ∀ s : SSwing, (⟨s.turn, s.speed, s.time⟩ : SSwing) = s := fun _ => rfl
    simp only [Option.bind_some, letv, eta, eqSwing_self, cond_true, beq_self_eq_true, Bool.not_true, cond_false]
  · have e : icmp .gtr (l.length : Int) 1048576 = true := by rw [icmp_gtr]; exact decide_eq_true (by omega)
    rw [e, cond_true]

theorem ivalidPendulum (p : SPendulum) : M.impl_ValidPendulum p = some (M.spec_l02Is p) := by
  unfold M.impl_ValidPendulum M.spec_l02Is M.impl_Pendulum_numbers M.spec_l02Above M.spec_l02Least
  simp only [letv, sfin]
  rw [fin_scan _ (by simp)]
  simp only [Option.bind_some, List.all_cons, List.all_nil, Bool.and_true]
  cases fin p.long <;> cases fin p.pull <;> cases fin p.drag <;> cases fin p.drive <;> cases fin p.rate <;> cases fcmp .gtr .f32 p.long 0 <;> cases fcmp .geq .f32 p.pull 0 <;> cases fcmp .geq .f32 p.drag 0 <;> rfl

theorem readPendulum (l : List UInt8) (hl : l.length ≤ 1048576) : ∃ r, M.spec_ReadPendulum l = some r ∧ M.impl_ReadPendulum l = some r := by
  unfold M.spec_ReadPendulum M.spec_l08ReadPendulum M.impl_ReadPendulum
  have e3 : M.impl_exactly l 5 = some (exn l 5) := iexactly l 5 (by omega) hl
  have i0 : ∀ xs : List Nat, idx xs 0 = xs[0]? := fun xs => idx_nat xs 0
  have i1 : ∀ xs : List Nat, idx xs 1 = xs[1]? := fun xs => idx_nat xs 1
  have i2 : ∀ xs : List Nat, idx xs 2 = xs[2]? := fun xs => idx_nat xs 2
  have i3 : ∀ xs : List Nat, idx xs 3 = xs[3]? := fun xs => idx_nat xs 3
  have i4 : ∀ xs : List Nat, idx xs 4 = xs[4]? := fun xs => idx_nat xs 4
  rw [snums l hl, e3]
  simp only [Option.bind_some, i0, i1, i2, i3, i4, letv]
  unfold exn
  by_cases h : (rdnums l).2 = true ∧ (rdnums l).1.length = 5
  · rw [if_pos h]
    obtain ⟨h1, h2⟩ := h
    obtain ⟨a, b, c, d, e, habc⟩ := len5 h2
    simp only [h1, cond_true, habc, List.getElem?_cons_zero, List.getElem?_cons_succ, Option.bind_some, ivalidPendulum]
    cases M.spec_l02Is ⟨a, b, c, d, e⟩ with
    | true => exact ⟨_, rfl, rfl⟩
    | false => exact ⟨_, rfl, rfl⟩
  · rw [if_neg h]
    have e : (bif (rdnums l).2 then icmp .neq ((rdnums l).1.length : Int) 5 else true) = true := by
      cases hr : (rdnums l).2 with
      | false => rfl
      | true =>
        rw [cond_true]
        simp only [icmp_neq, bne_iff_ne, ne_eq]
        intro h3
        exact h ⟨hr, by omega⟩
    rw [e, cond_true, Option.bind_some]
    exact ⟨_, rfl, rfl⟩

theorem eqPendulum_self (s : SPendulum) : M.laws_eqPendulum s s = true := by
  unfold M.laws_eqPendulum; simp only [letv, same_self]; rfl

/-- The law of ReadPendulum. -/
theorem law_ReadPendulum (l : List UInt8) : M.laws_FnExactReadPendulum l = some true := by
  unfold M.laws_FnExactReadPendulum
  by_cases hl : l.length ≤ 1048576
  · obtain ⟨r, h1, h2⟩ := readPendulum l hl
    have e : icmp .gtr (l.length : Int) 1048576 = false := by rw [icmp_gtr]; exact decide_eq_false (by omega)
    rw [e, cond_false, h1, h2]
    have eta : ∀ s : SPendulum, (⟨s.long, s.pull, s.drag, s.drive, s.rate⟩ : SPendulum) = s := fun _ => rfl
    simp only [Option.bind_some, letv, eta, eqPendulum_self, cond_true, beq_self_eq_true, Bool.not_true, cond_false]
  · have e : icmp .gtr (l.length : Int) 1048576 = true := by rw [icmp_gtr]; exact decide_eq_true (by omega)
    rw [e, cond_true]

end Go.Proofs
