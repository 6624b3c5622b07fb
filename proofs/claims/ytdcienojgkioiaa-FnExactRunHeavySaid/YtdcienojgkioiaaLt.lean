import Derived.Test.YtdcienojgkioiaaMd
import Derived.Test.YtdcienojgkioiaaPl
/- The plain law of tops: what the program's functions compute is what the reference's compute. No program in sight. -/
namespace Go.Proofs
open Go Go.Fl Go.RowKit Go.Rg
attribute [local irreducible] fint fcmp fop fneg widen narrow fsqrt

theorem eta_v (p : SVector) : (⟨p.x, p.y, p.z⟩ : SVector) = p := rfl
theorem eta_s (p : SSpin) : (⟨p.w, p.x, p.y, p.z⟩ : SSpin) = p := rfl
theorem eta_t (p : STop) : (⟨p.moments, p.turn, p.speed⟩ : STop) = p := rfl
theorem sfin (x : Nat) : M.spec_l01Finite x = fin x := rfl
theorem ifin (x : Nat) : M.impl_IsFinite x = fin x := rfl

def finQ (xs : List Nat) : Unit ⊕ Int → Prop
  | .inl _ => xs.all fin = true
  | .inr i => 0 ≤ i ∧ xs.all fin = false
/-- The first of a list that is not a number, or none. -/
theorem fin_scan (xs : List Nat) (hl : xs.length < 4611686018427387904) : M.impl_finite xs = some (xs.all fin) := by
  unfold M.impl_finite M.slices_ContainsFunc___float32_float32__f61 M.slices_IndexFunc___float32_float32__f61
  have key : ∃ e : Unit ⊕ Int, loopM (fun (s1 : Int) =>
      bif (icmp .lss s1 ((xs).length : Int)) then
        (idx xs s1).bind fun m3 =>
        letv (M.impl_finite_1 m3) fun m6 =>
        bif m6 then
          some (.inr (.inr s1))
        else
          some (.inl (IntKind.i64.wrap (s1 + 1)))
      else
        some (.inr (.inl ()))) (0 : Int) = some e ∧ finQ xs e := by
    refine loopM_one (fun n (s : Int) => ∃ k : Nat, s = k ∧ k ≤ xs.length ∧ n = xs.length - k ∧ (xs.take k).all fin = true) (finQ xs) ?_ xs.length 0 ⟨0, rfl, Nat.zero_le _, rfl, rfl⟩
    rintro n s ⟨k, rfl, hk, rfl, ht⟩
    by_cases h : k < xs.length
    · have hx : xs[k]? = some xs[k] := List.getElem?_eq_getElem h
      have hlt : icmp .lss (k : Int) (xs.length : Int) = true := by rw [icmp_lss]; exact decide_eq_true (by omega)
      simp only [hlt, cond_true, idx_nat, hx, Option.bind_some, letv, M.impl_finite_1, ifin]
      cases hf : fin xs[k] with
      | false =>
        refine .inl ⟨_, rfl, by omega, ?_⟩
        rw [List.all_eq_false]
        exact ⟨xs[k], List.getElem_mem h, by simp [hf]⟩
      | true =>
        refine .inr ⟨_, xs.length - (k + 1), rfl, by omega, k + 1, ?_, h, rfl, ?_⟩
        · rw [wrap_in (by omega)]; rfl
        · rw [List.take_succ_eq_append_getElem h, List.all_append, ht]; simp [hf]
    · have hlt : icmp .lss (k : Int) (xs.length : Int) = false := by rw [icmp_lss]; exact decide_eq_false (by omega)
      simp only [hlt, cond_false]
      refine .inl ⟨_, rfl, ?_⟩
      rw [List.take_of_length_le (by omega)] at ht
      exact ht
  obtain ⟨e, he, hq⟩ := key
  rw [he]
  simp only [Option.bind_some]
  cases e with
  | inl u => simp only [finQ] at hq; simp only [Option.bind_some, sel]; rw [hq]; rfl
  | inr i => simp only [finQ] at hq; simp only [Option.bind_some, sel]; rw [hq.2]; simp [icmp_geq, hq.1]

theorem ifinV (v : SVector) : M.impl_finiteVector v = some (M.spec_l01VFinite v) := by
  unfold M.impl_finiteVector M.spec_l01VFinite
  rw [fin_scan _ (by simp)]
  simp only [letv, sfin, Option.bind_some, List.all_cons, List.all_nil, Bool.and_true]
  cases fin v.x <;> cases fin v.y <;> rfl

theorem ispin (s : SSpin) : M.impl_IsSpin s = some (M.spec_l04Spin s) := by
  unfold M.impl_IsSpin M.spec_l04Spin M.impl_Spin_numbers
  simp only [letv, sfin]
  rw [fin_scan _ (by simp)]
  simp only [Option.bind_some, List.all_cons, List.all_nil, Bool.and_true]
  cases fin s.w <;> cases fin s.x <;> cases fin s.y <;> cases fin s.z <;> simp only [Bool.and_true, Bool.and_false, cond_true, cond_false, Bool.not_true, Bool.not_false, Option.bind_some]
  cases fcmp .neq .f32 s.w 0 <;> cases fcmp .neq .f32 s.x 0 <;> cases fcmp .neq .f32 s.y 0 <;> rfl

theorem ivalid (t : STop) : M.impl_ValidTop t = some (M.spec_l04Is t) := by
  unfold M.impl_ValidTop M.spec_l04Is
  have e : ∀ x, M.impl_lengthOk x = M.spec_l02Above x := fun _ => rfl
  simp only [letv, e, ispin, ifinV, eta_s, eta_v, Option.bind_some]
  cases M.spec_l02Above t.moments.x <;> cases M.spec_l02Above t.moments.y <;> cases M.spec_l02Above t.moments.z <;> cases M.spec_l04Spin t.turn <;> rfl

theorem inorm (s : SSpin) : M.impl_NormSpin s = some (M.spec_l04Norm s) := by
  unfold M.impl_NormSpin M.spec_l04Norm M.impl_toldSpin
  have e : M.impl_SizeOfSpin s = M.spec_l04Size s := rfl
  simp only [letv, ispin, Option.bind_some, eta_s, e]
  cases M.spec_l04Spin s
  · rfl
  · simp only [Bool.not_true, cond_false, cond_true]
    cases h : M.spec_l04Spin ⟨fop .quo .f32 s.w (M.spec_l04Size s), fop .quo .f32 s.x (M.spec_l04Size s), fop .quo .f32 s.y (M.spec_l04Size s), fop .quo .f32 s.z (M.spec_l04Size s)⟩ <;> simp

theorem irate (t : STop) (v q : SVector) : M.impl_Top_rate t v q = M.spec_l04Rate t v q := by
  unfold M.impl_Top_rate M.spec_l04Rate M.impl_Top_rate_1; simp only [letv]
theorem iscale (v : SVector) (b : Nat) : M.impl_ScaleVector v b = M.spec_l01Scale v b := by
  unfold M.impl_ScaleVector M.spec_l01Scale; rfl
theorem iadd (v w : SVector) : M.impl_AddVectors v w = M.spec_l01Add v w := by
  unfold M.impl_AddVectors M.spec_l01Add; rfl
theorem icross (v w : SVector) : M.impl_CrossOf v w = M.spec_l01Cross v w := by
  unfold M.impl_CrossOf M.spec_l01Cross M.impl_crossed; simp only [letv]
theorem iturn (s : SSpin) (v : SVector) : M.impl_TurnVector s v = M.spec_l04Turn s v := by
  unfold M.impl_TurnVector M.spec_l04Turn
  have e : ∀ s, M.impl_Spin_vector s = M.spec_l04Part s := fun _ => rfl
  simp only [letv, icross, iscale, iadd, e]
theorem iaxis (t : STop) : M.impl_Top_axis t = M.spec_l04Axis t := by
  unfold M.impl_Top_axis M.spec_l04Axis
  simp only [letv, iturn, eta_s]

theorem times_one (x y : Nat) : fop .mul .f32 1065353216 (fop .mul .f32 x y) = fop .mul .f32 x y := mul_one32 (can_fop _ _ _ _)
theorem times_mone (z x y : Nat) : fop .add .f32 z (fop .mul .f32 3212836864 (fop .mul .f32 x y)) = fop .sub .f32 z (fop .mul .f32 x y) := add_mone32 (can_fop _ _ _ _)

theorem itimes (a b : SSpin) : M.impl_TimesSpins a b = M.spec_l04Times a b := by
  unfold M.impl_TimesSpins M.spec_l04Times M.impl_signed
  simp only [letv, times_one, times_mone]

/-- What the parts of a vector's sum and share bear. -/
theorem vfin (v : SVector) : M.spec_l01VFinite v = (fin v.x && fin v.y && fin v.z) := by
  unfold M.spec_l01VFinite
  simp only [letv, sfin]
  cases fin v.x <;> cases fin v.y <;> rfl
theorem vfin_iff (v : SVector) : M.spec_l01VFinite v = true ↔ fin v.x = true ∧ fin v.y = true ∧ fin v.z = true := by
  rw [vfin]; simp [and_assoc]
theorem vfin_add {v w : SVector} (h : M.spec_l01VFinite (M.spec_l01Add v w) = true) : M.spec_l01VFinite v = true ∧ M.spec_l01VFinite w = true := by
  rw [vfin_iff] at *; rw [vfin_iff]
  obtain ⟨h1, h2, h3⟩ := h
  have a := fin_add' h1; have b := fin_add' h2; have c := fin_add' h3
  exact ⟨⟨a.1, b.1, c.1⟩, ⟨a.2, b.2, c.2⟩⟩
theorem vfin_scale {v : SVector} {b : Nat} (h : M.spec_l01VFinite (M.spec_l01Scale v b) = true) : M.spec_l01VFinite v = true := by
  rw [vfin_iff] at *
  obtain ⟨h1, h2, h3⟩ := h
  exact ⟨(fin_mul' h1).1, (fin_mul' h2).1, (fin_mul' h3).1⟩

theorem spin_fin {s : SSpin} (h : M.spec_l04Spin s = true) : fin s.w = true ∧ fin s.x = true ∧ fin s.y = true ∧ fin s.z = true := by
  unfold M.spec_l04Spin at h
  simp only [letv, sfin] at h
  revert h
  cases fin s.w <;> cases fin s.x <;> cases fin s.y <;> cases fin s.z <;> simp
theorem norm_ok {s : SSpin} (h : (M.spec_l04Norm s).2 = true) : M.spec_l04Spin s = true := by
  unfold M.spec_l04Norm at h
  simp only [letv, eta_s] at h
  revert h
  cases M.spec_l04Spin s <;> simp
theorem is_speed {t : STop} (h : M.spec_l04Is t = true) : M.spec_l01VFinite t.speed = true := by
  unfold M.spec_l04Is at h
  simp only [letv, eta_s, eta_v] at h
  revert h
  cases M.spec_l02Above t.moments.x <;> cases M.spec_l02Above t.moments.y <;> cases M.spec_l02Above t.moments.z <;> cases M.spec_l04Spin t.turn <;> simp

def nov : SVector := ⟨0, 0, 0⟩
def nos : SSpin := ⟨0, 0, 0, 0⟩
def notop : STop := ⟨nov, nos, nov⟩

/-- A step of the program's is the reference's. -/
theorem istep {t : STop} {q : SVector} {k : Nat} (ht : M.spec_l04Is t = true) (hq : M.spec_l01VFinite q = true) (hk : fin k = true) (hc : Go.Fl.Can .f32 k) :
    M.impl_StepTop t q k = some (bif (M.spec_l04Step t q k).2 then ((M.spec_l04Step t q k).1, true) else (notop, false)) := by
  unfold M.impl_StepTop M.spec_l04Step
  simp only [letv, ivalid, ifinV, ifin, inorm, irate, iscale, iadd, itimes, eta_v, eta_s, eta_t, Option.bind_some, ht, hq, hk, cond_true, Bool.not_true, cond_false, half32 hc, M.impl_along]
  generalize hh : fop .mul .f32 1056964608 k = h2
  generalize hr : M.spec_l04Rate t t.speed q = r
  generalize hm : M.spec_l01Add t.speed (M.spec_l01Scale r h2) = m
  generalize hr2 : M.spec_l04Rate t m q = r2
  generalize hd : M.spec_l04Times t.turn ⟨0, m.x, m.y, m.z⟩ = d
  generalize hs : (⟨fop .add .f32 t.turn.w (fop .mul .f32 h2 d.w), fop .add .f32 t.turn.x (fop .mul .f32 h2 d.x), fop .add .f32 t.turn.y (fop .mul .f32 h2 d.y), fop .add .f32 t.turn.z (fop .mul .f32 h2 d.z)⟩ : SSpin) = s
  cases hn : (M.spec_l04Norm s).2
  · simp only [cond_true, cond_false, Option.bind_some, notop, nov, nos]
  simp only [cond_true]
  cases hv : M.spec_l04Is ⟨t.moments, (M.spec_l04Norm s).1, M.spec_l01Add t.speed (M.spec_l01Scale r2 k)⟩
  · cases M.spec_l01VFinite r <;> cases M.spec_l01VFinite m <;> cases M.spec_l01VFinite r2 <;> simp only [cond_true, cond_false, Option.bind_some, Bool.not_false, notop, nov, nos]
  · have h9 := is_speed hv
    dsimp only at h9
    have f2 : M.spec_l01VFinite r2 = true := vfin_scale (vfin_add h9).2
    have fs := spin_fin (norm_ok hn)
    have fm : M.spec_l01VFinite m = true := by
      rw [vfin_iff]
      rw [← hs] at fs
      obtain ⟨_, g1, g2, g3⟩ := fs
      have g1 := (fin_mul' (fin_add' g1).2).2
      have g2 := (fin_mul' (fin_add' g2).2).2
      have g3 := (fin_mul' (fin_add' g3).2).2
      rw [← hd] at g1 g2 g3
      unfold M.spec_l04Times at g1 g2 g3
      simp only at g1 g2 g3
      exact ⟨(fin_mul' (fin_add' (fin_add' (fin_sub' g1).1).1).1).2, (fin_mul' (fin_sub' (fin_add' (fin_add' g2).1).1).1).2, (fin_mul' (fin_add' (fin_sub' (fin_add' g3).1).1).1).2⟩
    have fr : M.spec_l01VFinite r = true := by
      rw [← hm] at fm
      exact vfin_scale (vfin_add fm).2
    simp only [fr, fm, f2, cond_true, Option.bind_some, Bool.not_true, cond_false]

theorem step_is {t : STop} {q : SVector} {k : Nat} (h : (M.spec_l04Step t q k).2 = true) : M.spec_l04Is (M.spec_l04Step t q k).1 = true := by
  unfold M.spec_l04Step at h ⊢
  simp only [letv] at h ⊢
  revert h
  generalize M.spec_l04Norm _ = nn
  cases nn.2 <;> simp

theorem steps_eq (n : Int) : M.spec_l04Steps n = decide (0 ≤ n ∧ n ≤ 128) := by
  unfold M.spec_l04Steps M.spec_l00In
  simp only [letv, icmp_geq, icmp_leq]
  by_cases h : 0 ≤ n <;> by_cases h2 : n ≤ 128 <;> simp [h, h2]
theorem in_eq (n a b : Int) : M.impl_in n a b = decide (a ≤ n ∧ n ≤ b) := by
  unfold M.impl_in
  simp only [letv, icmp_geq, icmp_leq]
  by_cases h : a ≤ n <;> by_cases h2 : n ≤ b <;> simp [h, h2]
theorem can_eq (t : STop) (q : SVector) (k : Nat) : M.spec_l04Can t q k = (M.spec_l04Is t && M.spec_l01VFinite q && fin k) := by
  unfold M.spec_l04Can
  simp only [letv, eta_v, eta_s, eta_t, sfin]
  cases M.spec_l04Is t <;> cases M.spec_l01VFinite q <;> rfl

def nores : STop × List SVector × Bool := (notop, [], false)

/-- What both loops' ends have in common. -/
def endQ : (List SVector × SVector × STop × STop) ⊕ (List SVector × Bool × STop) → (List SVector × STop × STop) ⊕ (List SVector × Bool × STop) → Prop
  | .inl a, .inl b => a.1 = b.1 ∧ a.2.2.2 = b.2.2 ∧ a.1.length ≤ 128
  | .inr a, .inr b => a = b ∧ a.1.length ≤ 128
  | _, _ => False

theorem run_top (t : STop) (q : SVector) (k : Nat) (n : Int) (hc : Go.Fl.Can .f32 k) : ∃ r, M.spec_RunTop t q k n = some r ∧ M.impl_RunTop t q k n = some r ∧ r.2.1.length ≤ 128 := by
  unfold M.spec_RunTop M.impl_RunTop M.impl_runTop_f27
  simp only [letv, can_eq, steps_eq, in_eq, ivalid, ifin, ifinV, eta_v, eta_s, eta_t, Option.bind_some]
  cases hq : M.spec_l01VFinite q
  · exact ⟨nores, by simp [nores, notop, nov, nos], by simp [nores, notop, nov, nos], by simp [nores]⟩
  cases hk : fin k
  · refine ⟨nores, by simp [nores, notop, nov, nos], ?_, by simp [nores]⟩
    cases M.spec_l04Is t <;> simp [nores, notop, nov, nos]
  cases ht : M.spec_l04Is t
  · exact ⟨nores, by simp [nores, notop, nov, nos], by simp [nores, notop, nov, nos], by simp [nores]⟩
  by_cases hn : 0 ≤ n ∧ n ≤ 128
  · simp only [hn, and_self, decide_true, Bool.and_self, cond_true, Bool.not_true, cond_false, Option.bind_some]
    unfold M.spec_l04Run
    simp only [cond_false, cond_true, letv, iaxis, M.impl_RunTop_1]
    have key := loopM_two (R := fun m (s1 : List SVector × Int × SVector × STop × STop) (s2 : List SVector × Int × STop × STop) => ∃ j : Nat, (j : Int) ≤ n ∧ s1.1 = s2.1 ∧ s1.1.length = j ∧ s1.2.1 = j ∧ s2.2.1 = j ∧ s1.2.2.1 = q ∧ s1.2.2.2.2 = s2.2.2.2 ∧ M.spec_l04Is s1.2.2.2.2 = true ∧ m = n.toNat - j) (Q := endQ)
      (B1 := fun s21 => bif icmp .lss s21.2.1 n then
          bif (bif (M.spec_l04Step s21.2.2.2.2 s21.2.2.1 k).2 then bif M.spec_l01VFinite s21.2.2.1 then !M.spec_l01VFinite (M.spec_l04Axis (M.spec_l04Step s21.2.2.2.2 s21.2.2.1 k).1) else true else true) then
            some (.inr (.inr ([], false, (⟨⟨0, 0, 0⟩, ⟨0, 0, 0, 0⟩, ⟨0, 0, 0⟩⟩ : STop))))
          else (app 12 s21.1 [M.spec_l04Axis (M.spec_l04Step s21.2.2.2.2 s21.2.2.1 k).1]).bind fun m191 => some (.inl (m191, (IntKind.i64.wrap (s21.2.1 + 1)), s21.2.2.1, s21.2.2.2.1, (M.spec_l04Step s21.2.2.2.2 s21.2.2.1 k).1))
        else some (.inr (.inl (s21.1, s21.2.2.1, s21.2.2.2.1, s21.2.2.2.2))))
      (B2 := fun s37 => bif icmp .lss s37.2.1 n then
          (M.impl_StepTop s37.2.2.2 q k).bind fun m58 =>
          (bif m58.2 then some (!M.spec_l01VFinite (M.spec_l04Axis m58.1)) else some true).bind fun m77 =>
          bif m77 then
            some (.inr (.inr ([], false, (⟨⟨0, 0, 0⟩, ⟨0, 0, 0, 0⟩, ⟨0, 0, 0⟩⟩ : STop))))
          else (app 12 s37.1 [M.spec_l04Axis m58.1]).bind fun m106 => some (.inl (m106, (IntKind.i64.wrap (s37.2.1 + 1)), s37.2.2.1, m58.1))
        else some (.inr (.inl (s37.1, s37.2.2.1, s37.2.2.2)))) ?_ n.toNat ([], 0, q, ⟨⟨0, 0, 0⟩, ⟨0, 0, 0, 0⟩, ⟨0, 0, 0⟩⟩, t) ([], 0, ⟨⟨0, 0, 0⟩, ⟨0, 0, 0, 0⟩, ⟨0, 0, 0⟩⟩, t) ⟨0, by simpa using hn.1, rfl, rfl, rfl, rfl, rfl, rfl, ht, by simp⟩
    · obtain ⟨e1, e2, h1, h2, hQ⟩ := key
      rw [h1, h2]
      match e1, e2, hQ with
      | .inl a, .inl b, hQ =>
        obtain ⟨q1, q2, q3⟩ := hQ
        exact ⟨(a.2.2.2, a.1, true), rfl, by simp only [Option.bind_some, sel]; rw [q1, q2], q3⟩
      | .inr a, .inr b, hQ =>
        obtain ⟨rfl, q3⟩ := hQ
        exact ⟨(a.2.2, a.1, a.2.1), rfl, rfl, q3⟩
    · rintro m ⟨xs, i1, q1, z1, t1⟩ ⟨ys, i2, z2, t2⟩ ⟨j, hj, h1, h2, h3, h4, h5, h6, h7, rfl⟩
      simp only at h1 h2 h3 h4 h5 h6 h7
      subst h1 h3 h4 h5 h6
      by_cases hlt : (j : Int) < n
      · have hl : icmp .lss (j : Int) n = true := by rw [icmp_lss]; exact decide_eq_true hlt
        simp only [hl, cond_true, istep h7 hq hk hc, hq, Option.bind_some]
        cases ho : (M.spec_l04Step t1 q1 k).2
        · exact .inl ⟨_, _, rfl, rfl, rfl, Nat.zero_le _⟩
        · simp only [cond_true, Option.bind_some]
          cases ha : M.spec_l01VFinite (M.spec_l04Axis (M.spec_l04Step t1 q1 k).1)
          · exact .inl ⟨_, _, rfl, rfl, rfl, Nat.zero_le _⟩
          · simp only [Bool.not_true, cond_false]
            rw [app_small (by simp only [List.length_singleton]; omega)]
            have hw : IntKind.i64.wrap ((j : Int) + 1) = ((j + 1 : Nat) : Int) := by rw [wrap_in (by omega)]; rfl
            refine .inr ⟨_, _, n.toNat - (j + 1), rfl, rfl, by omega, j + 1, by omega, rfl, by simp [h2], hw, hw, rfl, rfl, step_is ho, rfl⟩
      · have hl : icmp .lss (j : Int) n = false := by rw [icmp_lss]; exact decide_eq_false hlt
        simp only [hl, cond_false]
        exact .inl ⟨_, _, rfl, rfl, rfl, rfl, by simp only; omega⟩
  · simp only [hn, decide_false, cond_true, Bool.not_false, Bool.and_self, Option.bind_some, Bool.not_true, cond_false]
    exact ⟨nores, rfl, rfl, by simp [nores]⟩


theorem iheavy {t : STop} {a b : Nat} (ht : M.spec_l04Is t = true) (ha : fin a = true) (hb : fin b = true) :
    M.impl_RunHeavy_1 t a b = some (bif M.spec_l01VFinite (M.spec_l04Heavy t a b) then (M.spec_l04Heavy t a b, true) else (nov, false)) := by
  unfold M.impl_RunHeavy_1 M.impl_HeavyTorque M.impl_toldVector
  have e1 : ∀ s, M.impl_BackSpin s = M.spec_l04Back s := fun _ => rfl
  have e2 : M.spec_l04Heavy t a b = M.spec_l01Cross ⟨0, 0, a⟩ (M.spec_l04Turn (M.spec_l04Back t.turn) ⟨0, 0, fneg .f32 b⟩) := by
    unfold M.spec_l04Heavy; simp only [letv, eta_s]
  rw [fin_scan _ (by simp)]
  simp only [letv, ivalid, ifinV, ht, List.all_cons, List.all_nil, ha, hb, Bool.and_self, cond_true, Option.bind_some, Bool.not_true, cond_false, e1, eta_s, iturn, icross]
  rw [← e2]
  cases M.spec_l01VFinite (M.spec_l04Heavy t a b)
  · simp only [Bool.not_false, cond_true, cond_false, Option.bind_some, nov]
  · simp only [Bool.not_true, cond_true, cond_false, Option.bind_some]

theorem run_heavy (t : STop) (a b k : Nat) (n : Int) (hc : Go.Fl.Can .f32 k) : ∃ r, M.spec_RunHeavy t a b k n = some r ∧ M.impl_RunHeavy t a b k n = some r ∧ r.2.1.length ≤ 128 := by
  unfold M.spec_RunHeavy M.impl_RunHeavy M.impl_runTop_f33
  rw [fin_scan _ (by simp)]
  simp only [letv, steps_eq, in_eq, ivalid, ifin, sfin, eta_v, eta_s, eta_t, Option.bind_some, List.all_cons, List.all_nil, Bool.and_true]
  cases ha : fin a
  · refine ⟨nores, ?_, by simp [nores, notop, nov, nos], by simp [nores]⟩
    cases M.spec_l04Is t <;> simp [nores, notop, nov, nos]
  cases hb : fin b
  · refine ⟨nores, ?_, by simp [nores, notop, nov, nos], by simp [nores]⟩
    cases M.spec_l04Is t <;> simp [nores, notop, nov, nos]
  cases ht : M.spec_l04Is t
  · exact ⟨nores, by simp [nores, notop, nov, nos], by simp [nores, notop, nov, nos], by simp [nores]⟩
  cases hk : fin k
  · exact ⟨nores, by simp [nores, notop, nov, nos], by simp [nores, notop, nov, nos], by simp [nores]⟩
  by_cases hn : 0 ≤ n ∧ n ≤ 128
  · simp only [hn, and_self, decide_true, Bool.and_self, cond_true, Bool.not_true, cond_false, Option.bind_some]
    unfold M.spec_l04Run
    simp only [cond_true, letv, iaxis]
    have hnov : M.spec_l01VFinite nov = true := by decide +kernel
    have key := loopM_two (R := fun m (s1 : List SVector × Int × SVector × STop × STop) (s2 : List SVector × Int × STop × STop) => ∃ j : Nat, (j : Int) ≤ n ∧ s1.1 = s2.1 ∧ s1.1.length = j ∧ s1.2.1 = j ∧ s2.2.1 = j ∧ s1.2.2.2.2 = s2.2.2.2 ∧ M.spec_l04Is s1.2.2.2.2 = true ∧ m = n.toNat - j) (Q := endQ)
      (B1 := fun s21 => bif icmp .lss s21.2.1 n then
          bif (bif (M.spec_l04Step s21.2.2.2.2 (M.spec_l04Heavy s21.2.2.2.2 a b) k).2 then bif M.spec_l01VFinite (M.spec_l04Heavy s21.2.2.2.2 a b) then !M.spec_l01VFinite (M.spec_l04Axis (M.spec_l04Step s21.2.2.2.2 (M.spec_l04Heavy s21.2.2.2.2 a b) k).1) else true else true) then
            some (.inr (.inr ([], false, (⟨⟨0, 0, 0⟩, ⟨0, 0, 0, 0⟩, ⟨0, 0, 0⟩⟩ : STop))))
          else (app 12 s21.1 [M.spec_l04Axis (M.spec_l04Step s21.2.2.2.2 (M.spec_l04Heavy s21.2.2.2.2 a b) k).1]).bind fun m107 => some (.inl (m107, (IntKind.i64.wrap (s21.2.1 + 1)), M.spec_l04Heavy s21.2.2.2.2 a b, s21.2.2.2.1, (M.spec_l04Step s21.2.2.2.2 (M.spec_l04Heavy s21.2.2.2.2 a b) k).1))
        else some (.inr (.inl (s21.1, s21.2.2.1, s21.2.2.2.1, s21.2.2.2.2))))
      (B2 := fun s37 => bif icmp .lss s37.2.1 n then
          (M.impl_RunHeavy_1 s37.2.2.2 a b).bind fun m41 =>
          (M.impl_StepTop s37.2.2.2 m41.1 k).bind fun m59 =>
          (bif m41.2 then bif m59.2 then (M.impl_finiteVector (M.spec_l04Axis m59.1)).bind fun m87 => some (!m87) else some true else some true).bind fun m78 =>
          bif m78 then
            some (.inr (.inr ([], false, (⟨⟨0, 0, 0⟩, ⟨0, 0, 0, 0⟩, ⟨0, 0, 0⟩⟩ : STop))))
          else (app 12 s37.1 [M.spec_l04Axis m59.1]).bind fun m108 => some (.inl (m108, (IntKind.i64.wrap (s37.2.1 + 1)), s37.2.2.1, m59.1))
        else some (.inr (.inl (s37.1, s37.2.2.1, s37.2.2.2)))) ?_ n.toNat ([], 0, ⟨0, 0, 0⟩, ⟨⟨0, 0, 0⟩, ⟨0, 0, 0, 0⟩, ⟨0, 0, 0⟩⟩, t) ([], 0, ⟨⟨0, 0, 0⟩, ⟨0, 0, 0, 0⟩, ⟨0, 0, 0⟩⟩, t) ⟨0, by simpa using hn.1, rfl, rfl, rfl, rfl, rfl, ht, by simp⟩
    · obtain ⟨e1, e2, h1, h2, hQ⟩ := key
      simp only [ifinV, Option.bind_some] at h1 h2 ⊢
      rw [h1, h2]
      match e1, e2, hQ with
      | .inl a, .inl b, hQ =>
        obtain ⟨q1, q2, q3⟩ := hQ
        exact ⟨(a.2.2.2, a.1, true), rfl, by simp only [Option.bind_some, sel]; rw [q1, q2], q3⟩
      | .inr a, .inr b, hQ =>
        obtain ⟨rfl, q3⟩ := hQ
        exact ⟨(a.2.2, a.1, a.2.1), rfl, rfl, q3⟩
    · rintro m ⟨xs, i1, q1, z1, t1⟩ ⟨ys, i2, z2, t2⟩ ⟨j, hj, h1, h2, h3, h4, h6, h7, rfl⟩
      simp only at h1 h2 h3 h4 h6 h7
      subst h1 h3 h4 h6
      by_cases hlt : (j : Int) < n
      · have hl : icmp .lss (j : Int) n = true := by rw [icmp_lss]; exact decide_eq_true hlt
        simp only [hl, cond_true, iheavy h7 ha hb, Option.bind_some]
        cases hv : M.spec_l01VFinite (M.spec_l04Heavy t1 a b)
        · simp only [cond_false, istep h7 hnov hk hc, Option.bind_some, cond_true]
          have : (bif (M.spec_l04Step t1 (M.spec_l04Heavy t1 a b) k).2 then true else true) = true := by cases (M.spec_l04Step t1 (M.spec_l04Heavy t1 a b) k).2 <;> rfl
          rw [this]
          exact .inl ⟨_, _, rfl, rfl, rfl, Nat.zero_le _⟩
        · simp only [cond_true, istep h7 hv hk hc, Option.bind_some]
          cases ho : (M.spec_l04Step t1 (M.spec_l04Heavy t1 a b) k).2
          · exact .inl ⟨_, _, rfl, rfl, rfl, Nat.zero_le _⟩
          · simp only [cond_true, Option.bind_some, ifinV]
            cases hx : M.spec_l01VFinite (M.spec_l04Axis (M.spec_l04Step t1 (M.spec_l04Heavy t1 a b) k).1)
            · exact .inl ⟨_, _, rfl, rfl, rfl, Nat.zero_le _⟩
            · simp only [Bool.not_true, cond_false]
              rw [app_small (by simp only [List.length_singleton]; omega)]
              have hw : IntKind.i64.wrap ((j : Int) + 1) = ((j + 1 : Nat) : Int) := by rw [wrap_in (by omega)]; rfl
              refine .inr ⟨_, _, n.toNat - (j + 1), rfl, rfl, by omega, j + 1, by omega, rfl, by simp [h2], hw, hw, rfl, step_is ho, rfl⟩
      · have hl : icmp .lss (j : Int) n = false := by rw [icmp_lss]; exact decide_eq_false hlt
        simp only [hl, cond_false]
        exact .inl ⟨_, _, rfl, rfl, rfl, rfl, by simp only; omega⟩
  · simp only [hn, decide_false, cond_true, Bool.not_false, Option.bind_some]
    exact ⟨nores, rfl, rfl, by simp [nores]⟩

theorem same_self (x : Nat) : M.laws_sameFloat x x = true := by
  unfold M.laws_sameFloat
  simp only [letv, ne_self']
  cases h : isNaN .f64 x
  · simp only [cond_false, eq_self' h]
    cases fcmp .eql .f64 x 0 <;> simp
  · rfl
theorem eqV_self (v : SVector) : M.laws_eqVector v v = true := by
  unfold M.laws_eqVector; simp only [letv, same_self]; rfl
theorem eqS_self (v : SSpin) : M.laws_eqSpin v v = true := by
  unfold M.laws_eqSpin; simp only [letv, same_self]; rfl
theorem eqT_self (v : STop) : M.laws_eqTop v v = true := by
  unfold M.laws_eqTop; simp only [letv, eqV_self, eqS_self]; rfl

theorem eqVS_self (xs : List SVector) (h : xs.length < 4611686018427387904) : M.laws_eqVectorS xs xs = some true := by
  unfold M.laws_eqVectorS
  have e : icmp .neq (xs.length : Int) (xs.length : Int) = false := by simp [icmp_neq]
  rw [e, cond_false]
  rw [loopM_run' (s0 := (0 : Int)) (e := .inl ()) xs.length (fun k => (k : Int)) rfl ?_ ?_]
  · rfl
  · intro k hk
    have hl : icmp .lss (k : Int) (xs.length : Int) = true := by rw [icmp_lss]; exact decide_eq_true (by omega)
    simp only [hl, cond_true, idx_nat, List.getElem?_eq_getElem hk, Option.bind_some, letv, eqV_self, Bool.not_true, cond_false]
    rw [wrap_in (by omega)]; rfl
  · have hl : icmp .lss (xs.length : Int) (xs.length : Int) = false := by rw [icmp_lss]; exact decide_eq_false (by omega)
    simp only [hl, cond_false]

/-- The vector of three numbers in a row. -/
def mk3 (j : Nat) : SVector := ⟨fint .f32 (3 * j + 1 : Nat), fint .f32 (3 * j + 2 : Nat), fint .f32 (3 * j + 3 : Nat)⟩

theorem mark_vs (xs : List SVector) (h : xs.length < 1000000) : ∃ ys, M.laws_markVectorS xs 1 = some (((3 * xs.length + 1 : Nat) : Int), ys) ∧ ys.length = xs.length ∧ ∀ j, j < xs.length → ys[j]? = some (mk3 j) := by
  unfold M.laws_markVectorS
  have key := loopM_one (B := fun (s1 : Int × Int × List SVector) =>
      bif (icmp .lss s1.2.1 ((s1.2.2).length : Int)) then
        (idx s1.2.2 s1.2.1).bind fun m3 =>
        (idx (s1.2.2.set s1.2.1.toNat (⟨(fint .f32 s1.1), m3.y, m3.z⟩ : SVector)) s1.2.1).bind fun m8 =>
        (idx ((s1.2.2.set s1.2.1.toNat (⟨(fint .f32 s1.1), m3.y, m3.z⟩ : SVector)).set s1.2.1.toNat (⟨m8.x, (fint .f32 (IntKind.i64.wrap (s1.1 + 1))), m8.z⟩ : SVector)) s1.2.1).bind fun m13 =>
        some (.inl ((IntKind.i64.wrap ((IntKind.i64.wrap ((IntKind.i64.wrap (s1.1 + 1)) + 1)) + 1)), (IntKind.i64.wrap (s1.2.1 + 1)), (((s1.2.2.set s1.2.1.toNat (⟨(fint .f32 s1.1), m3.y, m3.z⟩ : SVector)).set s1.2.1.toNat (⟨m8.x, (fint .f32 (IntKind.i64.wrap (s1.1 + 1))), m8.z⟩ : SVector)).set s1.2.1.toNat (⟨m13.x, m13.y, (fint .f32 (IntKind.i64.wrap ((IntKind.i64.wrap (s1.1 + 1)) + 1)))⟩ : SVector))))
      else
        some (.inr (s1.1, s1.2.2)))
    (fun n s => ∃ k : Nat, k ≤ xs.length ∧ n = xs.length - k ∧ s.1 = ((3 * k + 1 : Nat) : Int) ∧ s.2.1 = (k : Int) ∧ s.2.2.length = xs.length ∧ ∀ j, j < k → s.2.2[j]? = some (mk3 j))
    (fun e : Int × List SVector => e.1 = ((3 * xs.length + 1 : Nat) : Int) ∧ e.2.length = xs.length ∧ ∀ j, j < xs.length → e.2[j]? = some (mk3 j))
    ?_ xs.length (1, 0, xs) ⟨0, Nat.zero_le _, rfl, rfl, rfl, rfl, by simp⟩
  · obtain ⟨e, he, h1, h2, h3⟩ := key
    refine ⟨e.2, ?_, h2, h3⟩
    rw [he, ← h1]; rfl
  · rintro n ⟨a, b, l⟩ ⟨k, hk, rfl, h1, h2, h3, h4⟩
    simp only at h1 h2 h3 h4
    subst h1 h2
    by_cases hlt : k < xs.length
    · have hl : icmp .lss (k : Int) (l.length : Int) = true := by rw [icmp_lss]; exact decide_eq_true (by omega)
      have hkl : k < l.length := by omega
      have w1 : IntKind.i64.wrap (((3 * k + 1 : Nat) : Int) + 1) = ((3 * k + 2 : Nat) : Int) := by rw [wrap_in (by omega)]; omega
      have w2 : IntKind.i64.wrap (((3 * k + 2 : Nat) : Int) + 1) = ((3 * k + 3 : Nat) : Int) := by rw [wrap_in (by omega)]; omega
      have w3 : IntKind.i64.wrap (((3 * k + 3 : Nat) : Int) + 1) = ((3 * (k + 1) + 1 : Nat) : Int) := by rw [wrap_in (by omega)]; omega
      have w4 : IntKind.i64.wrap ((k : Int) + 1) = ((k + 1 : Nat) : Int) := by rw [wrap_in (by omega)]; rfl
      have tn : (k : Int).toNat = k := by simp
      simp only [hl, cond_true, idx_nat, tn, List.getElem?_eq_getElem hkl, Option.bind_some, List.getElem?_set_self hkl, w1, w2, w3, w4, List.set_set]
      refine .inr ⟨_, xs.length - (k + 1), rfl, by omega, k + 1, hlt, rfl, rfl, rfl, by simp only [List.length_set]; exact h3, ?_⟩
      intro j hj
      simp only
      by_cases e : j = k
      · subst e
        rw [List.getElem?_set_self hkl]; rfl
      · rw [List.getElem?_set_ne (Ne.symm e)]
        exact h4 j (by omega)
    · have hl : icmp .lss (k : Int) (l.length : Int) = false := by rw [icmp_lss]; exact decide_eq_false (by omega)
      have ek : k = xs.length := by omega
      subst ek
      simp only [hl, cond_false]
      exact .inl ⟨_, rfl, rfl, h3, h4⟩

theorem held_vs (ys : List SVector) (h : ys.length < 1000000) (hy : ∀ j, j < ys.length → ys[j]? = some (mk3 j)) : M.laws_heldVectorS ys 1 = some ((3 * ys.length + 1 : Nat) : Int) := by
  unfold M.laws_heldVectorS
  rw [loopM_run' (s0 := ((1, 0) : Int × Int)) (e := .inl ((3 * ys.length + 1 : Nat) : Int)) ys.length (fun k : Nat => (((3 * k + 1 : Nat) : Int), (k : Int))) rfl ?_ ?_]
  · simp only [Option.bind_some, sel]
  · intro k hk
    have hl : icmp .lss (k : Int) (ys.length : Int) = true := by rw [icmp_lss]; exact decide_eq_true (by omega)
    have w1 : IntKind.i64.wrap (((3 * k + 1 : Nat) : Int) + 1) = ((3 * k + 2 : Nat) : Int) := by rw [wrap_in (by omega)]; omega
    have w2 : IntKind.i64.wrap (((3 * k + 2 : Nat) : Int) + 1) = ((3 * k + 3 : Nat) : Int) := by rw [wrap_in (by omega)]; omega
    have w3 : IntKind.i64.wrap (((3 * k + 3 : Nat) : Int) + 1) = ((3 * (k + 1) + 1 : Nat) : Int) := by rw [wrap_in (by omega)]; omega
    have w4 : IntKind.i64.wrap ((k : Int) + 1) = ((k + 1 : Nat) : Int) := by rw [wrap_in (by omega)]; rfl
    have f1 : fcmp .neq .f32 (mk3 k).x (fint .f32 ((3 * k + 1 : Nat) : Int)) = false := by unfold mk3; exact fint_same _ _
    have f2 : fcmp .neq .f32 (mk3 k).y (fint .f32 ((3 * k + 2 : Nat) : Int)) = false := by unfold mk3; exact fint_same _ _
    have f3 : fcmp .neq .f32 (mk3 k).z (fint .f32 ((3 * k + 3 : Nat) : Int)) = false := by unfold mk3; exact fint_same _ _
    dsimp only
    rw [hl, cond_true, idx_nat, hy k hk, Option.bind_some, f1, cond_false, Option.bind_some, w1, f2, cond_false, Option.bind_some, w2, f3, cond_false, w3, w4]
  · have hl : icmp .lss (ys.length : Int) (ys.length : Int) = false := by rw [icmp_lss]; exact decide_eq_false (by omega)
    simp only [hl, cond_false]

/-- The law of RunTop. -/
theorem law_RunTop (t : STop) (q : SVector) (k : Nat) (n : Int) (hc : Go.Fl.Can .f32 k) : M.laws_FnExactRunTop t q k n = some true := by
  obtain ⟨r, h1, h2, h3⟩ := run_top t q k n hc
  obtain ⟨ys, m1, m2, m3⟩ := mark_vs r.2.1 (by omega)
  have hh := held_vs ys (by omega) (by rw [m2]; exact m3)
  unfold M.laws_FnExactRunTop
  have e1 : ∀ t, M.laws_toTop t = t := fun _ => rfl
  have e2 : ∀ t, M.laws_toVector t = t := fun _ => rfl
  simp only [letv, e1, e2, eta_v, eta_s, eta_t, h1, h2, Option.bind_some, eqT_self, cond_true, eqVS_self r.2.1 (by omega), beq_self_eq_true, Bool.not_true, cond_false, m1, hh]
  rw [m2]
  have g1 : icmp .lss (((3 * r.2.1.length + 1 : Nat) : Int)) 0 = false := by rw [icmp_lss]; exact decide_eq_false (by omega)
  have g2 : icmp .neq (((3 * r.2.1.length + 1 : Nat) : Int)) (((3 * r.2.1.length + 1 : Nat) : Int)) = false := by simp [icmp_neq]
  simp only [g1, g2, cond_false]

/-- The law of RunHeavy. -/
theorem law_RunHeavy (t : STop) (a b k : Nat) (n : Int) (hc : Go.Fl.Can .f32 k) : M.laws_FnExactRunHeavy t a b k n = some true := by
  obtain ⟨r, h1, h2, h3⟩ := run_heavy t a b k n hc
  obtain ⟨ys, m1, m2, m3⟩ := mark_vs r.2.1 (by omega)
  have hh := held_vs ys (by omega) (by rw [m2]; exact m3)
  unfold M.laws_FnExactRunHeavy
  have e1 : ∀ t, M.laws_toTop t = t := fun _ => rfl
  simp only [letv, e1, eta_v, eta_s, eta_t, h1, h2, Option.bind_some, eqT_self, cond_true, eqVS_self r.2.1 (by omega), beq_self_eq_true, Bool.not_true, cond_false, m1, hh]
  rw [m2]
  have g1 : icmp .lss (((3 * r.2.1.length + 1 : Nat) : Int)) 0 = false := by rw [icmp_lss]; exact decide_eq_false (by omega)
  have g2 : icmp .neq (((3 * r.2.1.length + 1 : Nat) : Int)) (((3 * r.2.1.length + 1 : Nat) : Int)) = false := by simp [icmp_neq]
  simp only [g1, g2, cond_false]

end Go.Proofs
