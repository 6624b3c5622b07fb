import Derived.Test.YtdcienojgkioiaaGreatDoorL6
/- The law of ReadChain. No program in sight. -/
namespace Go.Proofs
open Go Go.Fl Go.RowKit Go.Rg
attribute [local irreducible] fint fcmp fop fneg widen narrow fsqrt cn

/-- What is read of a chain's text. -/
def cok (l : List UInt8) : Bool := decide ((splitB 59 l).length = 4) && ((pcs ((splitB 59 l).getD 0 [])).all fun p => (vf p).isSome) && ((pcs ((splitB 59 l).getD 1 [])).all fun p => (vf p).isSome) && (rdnums ((splitB 59 l).getD 2 [])).2 && ((pcs ((splitB 59 l).getD 3 [])).all fun p => (rf p).isSome)
def cval (l : List UInt8) : SChain := ⟨(pcs ((splitB 59 l).getD 0 [])).map fun p => (vf p).getD ⟨0, 0, 0⟩, (pcs ((splitB 59 l).getD 1 [])).map fun p => (vf p).getD ⟨0, 0, 0⟩, (rdnums ((splitB 59 l).getD 2 [])).1, (pcs ((splitB 59 l).getD 3 [])).map fun p => (rf p).getD ⟨0, 0, 0⟩⟩
def crd (l : List UInt8) : SChain × Bool := if cok l = true ∧ validB (cval l) = true then (cval l, true) else (⟨[], [], [], []⟩, false)
theorem len4s {l : List (List UInt8)} (h : l.length = 4) : ∃ a b c d, l = [a, b, c, d] := by
  match l, h with
  | [a, b, c, d], _ => exact ⟨a, b, c, d, rfl⟩
theorem sReadChain (l : List UInt8) (hl : l.length ≤ 1048576) : M.spec_ReadChain l = some (crd l) := by
  unfold M.spec_ReadChain M.spec_l08ReadChain crd cok cval
  rw [cut59 l hl, Option.bind_some]
  have hm : ∀ p ∈ splitB 59 l, p.length ≤ 1048576 := fun p hp => Nat.le_trans (splitB_mem hp) hl
  generalize splitB 59 l = qs at *
  by_cases h4 : qs.length = 4
  · obtain ⟨a, b, c, d, rfl⟩ := len4s h4
    have e : icmp .neq (([a, b, c, d] : List (List UInt8)).length : Int) 4 = false := rfl
    have i0 : idx [a, b, c, d] 0 = some a := rfl
    have i1 : idx [a, b, c, d] 1 = some b := rfl
    have i2 : idx [a, b, c, d] 2 = some c := rfl
    have i3 : idx [a, b, c, d] 3 = some d := rfl
    rw [e, cond_false, i0, Option.bind_some, sreadV a (hm a (by simp)), Option.bind_some, i1, Option.bind_some, sreadV b (hm b (by simp)), Option.bind_some, i2, Option.bind_some, snums c (hm c (by simp)), Option.bind_some, i3, Option.bind_some, sreadR d (hm d (by simp)), Option.bind_some]
    rw [mapM_all vf ⟨0, 0, 0⟩ (pcs a), mapM_all vf ⟨0, 0, 0⟩ (pcs b), mapM_all rf ⟨0, 0, 0⟩ (pcs d)]
    simp only [letv, List.getD_cons_zero, List.getD_cons_succ]
    have e4 : decide (([a, b, c, d] : List (List UInt8)).length = 4) = true := rfl
    rw [e4, Bool.true_and]
    cases (pcs a).all (fun p => (vf p).isSome) with
    | false => rfl
    | true =>
      cases (pcs b).all (fun p => (vf p).isSome) with
      | false => rfl
      | true =>
        obtain ⟨xs, fc⟩ := rdnums c
        cases fc with
        | false => rfl
        | true =>
          cases (pcs d).all (fun p => (rf p).isSome) with
          | false => rfl
          | true =>
            simp only [if_pos, Bool.not_true, cond_true, cond_false, true_and, Bool.and_self]
            unfold M.spec_l03Give
            rw [sValidChain, Option.bind_some]
            generalize validB _ = v
            cases v <;> rfl
  · have e : icmp .neq (qs.length : Int) 4 = true := by simp only [icmp_neq, bne_iff_ne, ne_eq]; omega
    rw [e, cond_true, decide_eq_false h4]
    rfl
theorem iReadChain (l : List UInt8) (hl : l.length ≤ 1048576) : M.impl_ReadChain l = some (crd l) := by
  unfold M.impl_ReadChain crd cok cval
  rw [split_eq59 l hl, Option.bind_some]
  have hm : ∀ p ∈ splitB 59 l, p.length ≤ 1048576 := fun p hp => Nat.le_trans (splitB_mem hp) hl
  generalize splitB 59 l = qs at *
  by_cases h4 : qs.length = 4
  · obtain ⟨a, b, c, d, rfl⟩ := len4s h4
    have e : icmp .neq (([a, b, c, d] : List (List UInt8)).length : Int) 4 = false := rfl
    have i0 : idx [a, b, c, d] 0 = some a := rfl
    have i1 : idx [a, b, c, d] 1 = some b := rfl
    have i2 : idx [a, b, c, d] 2 = some c := rfl
    have i3 : idx [a, b, c, d] 3 = some d := rfl
    have hd := hm d (by simp)
    rw [e, cond_false, i0, Option.bind_some, ireadV a (hm a (by simp)), Option.bind_some, i1, Option.bind_some, ireadV b (hm b (by simp)), Option.bind_some, i2, Option.bind_some, inums c (hm c (by simp)), Option.bind_some, i3, Option.bind_some, ipart d hd (by omega), Option.bind_some]
    have hbd := pcs_len d
    have hmd : ∀ p ∈ pcs d, p.length ≤ 1048576 := fun p hp => Nat.le_trans (pcs_mem hp) hd
    simp only [letv, List.getD_cons_zero, List.getD_cons_succ]
    have e4 : decide (([a, b, c, d] : List (List UInt8)).length = 4) = true := rfl
    rw [e4, Bool.true_and]
    generalize hA : (pcs a).map (fun p => (vf p).getD ⟨0, 0, 0⟩) = A
    generalize hB : (pcs b).map (fun p => (vf p).getD ⟨0, 0, 0⟩) = B
    have hAl : A.length = (pcs a).length := by rw [← hA, List.length_map]
    have hBl : B.length = (pcs b).length := by rw [← hB, List.length_map]
    obtain ⟨xs, fc⟩ := rdnums c
    dsimp only
    rw [loopM_list (s0 := ((decide (((pcs d).length : Int) ≤ 40), 0, ⟨A, B, xs, []⟩) : Bool × Int × SChain)) (pcs d) (fun (a : Bool × List SRod) k => (a.1, (k : Int), (⟨A, B, xs, a.2⟩ : SChain))) (fun a p => .inl (a.1 && (rf p).isSome, a.2 ++ [(rf p).getD ⟨0, 0, 0⟩])) (fun a => (a.1, (⟨A, B, xs, a.2⟩ : SChain))) (fun k a => a.2.length = k) ?_ ?_ (decide (((pcs d).length : Int) ≤ 40), []) rfl rfl, foldF rf ⟨0, 0, 0⟩, Option.bind_some]
    · simp only [List.nil_append]
      generalize hD : (pcs d).map (fun p => (rf p).getD ⟨0, 0, 0⟩) = D
      have hDl : D.length = (pcs d).length := by rw [← hD, List.length_map]
      have hv : validB ⟨A, B, xs, D⟩ = true → (pcs a).length ≤ 24 ∧ (pcs b).length ≤ 24 ∧ (pcs d).length ≤ 40 := by
        intro hv
        unfold validB at hv
        simp only [Bool.and_eq_true] at hv
        have := sizes_of hv.1.1
        simp only at this
        omega
      unfold M.impl_toldChain
      rw [iValidChain, Option.bind_some]
      by_cases hL : ((pcs a).length : Int) ≤ 24 ∧ ((pcs b).length : Int) ≤ 24 ∧ ((pcs d).length : Int) ≤ 40
      · rw [decide_eq_true hL.1, decide_eq_true hL.2.1, decide_eq_true hL.2.2]
        generalize (pcs a).all (fun p => (vf p).isSome) = u
        generalize (pcs b).all (fun p => (vf p).isSome) = v
        generalize (pcs d).all (fun p => (rf p).isSome) = x
        generalize validB _ = y
        cases u <;> cases v <;> cases fc <;> cases x <;> cases y <;> rfl
      · have hvf : validB ⟨A, B, xs, D⟩ = false := by
          cases hh : validB ⟨A, B, xs, D⟩ with
          | false => rfl
          | true =>
            have := hv hh
            exact absurd ⟨by omega, by omega, by omega⟩ hL
        rw [hvf]
        generalize decide (((pcs a).length : Int) ≤ 24) = s
        generalize decide (((pcs b).length : Int) ≤ 24) = t
        generalize decide (((pcs d).length : Int) ≤ 40) = r
        generalize (pcs a).all (fun p => (vf p).isSome) = u
        generalize (pcs b).all (fun p => (vf p).isSome) = v
        generalize (pcs d).all (fun p => (rf p).isSome) = x
        rw [if_neg (by simp)]
        cases s <;> cases u <;> cases t <;> cases v <;> cases fc <;> cases r <;> cases x <;> rfl
    · rintro k ⟨b0, out⟩ p hp hk
      simp only at hk
      have hlt := (List.getElem?_eq_some_iff.1 hp).1
      dsimp only
      rw [lss_lt hlt, cond_true, idx_nat, hp, Option.bind_some, irod p (hmd p (List.mem_of_getElem? hp)), Option.bind_some]
      dsimp only
      rw [app_small (by simp only [List.length_singleton]; omega), Option.bind_some, succ_wrap (by omega)]
      refine ⟨?_, by simp only [List.length_append, List.length_singleton, hk]⟩
      cases b0 <;> rfl
    · rintro ⟨b0, out⟩ _
      dsimp only
      rw [lss_self, cond_false]
  · have e : icmp .neq (qs.length : Int) 4 = true := by simp only [icmp_neq, bne_iff_ne, ne_eq]; omega
    rw [e, cond_true, decide_eq_false h4]
    rfl

/-- Numbers in a row, put into a row of things. -/
theorem markLoop {α : Type} (mk : Nat → α) (s p : Nat) (xs : List α) (B : Int × Int × List α → Option ((Int × Int × List α) ⊕ (Int × List α)))
    (h1 : ∀ (k : Nat) (l : List α) x, l[k]? = some x → k < xs.length → l.length = xs.length → B (((p + s * k : Nat) : Int), (k : Int), l) = some (.inl (((p + s * (k + 1) : Nat) : Int), ((k + 1 : Nat) : Int), l.set k (mk (p + s * k)))))
    (h2 : ∀ l, l.length = xs.length → B (((p + s * xs.length : Nat) : Int), (xs.length : Int), l) = some (.inr (((p + s * xs.length : Nat) : Int), l))) : loopM B ((p : Int), 0, xs) = some (((p + s * xs.length : Nat) : Int), (List.range xs.length).map fun j => mk (p + s * j)) := by
  have st : ∀ k, k ≤ xs.length → (((List.range k).map fun j => mk (p + s * j)) ++ xs.drop k).length = xs.length := by
    intro k hk
    simp only [List.length_append, List.length_map, List.length_range, List.length_drop]
    omega
  rw [loopM_run' (e := (((p + s * xs.length : Nat) : Int), (List.range xs.length).map fun j => mk (p + s * j))) xs.length (fun k => (((p + s * k : Nat) : Int), (k : Int), ((List.range k).map fun j => mk (p + s * j)) ++ xs.drop k)) (by simp) ?_ ?_]
  · intro k hk
    have hl : (((List.range k).map fun j => mk (p + s * j)) ++ xs.drop k)[k]? = some xs[k] := by
      rw [List.getElem?_append_right (by simp), List.length_map, List.length_range, Nat.sub_self, List.getElem?_drop, Nat.add_zero, List.getElem?_eq_getElem hk]
    rw [h1 k _ _ hl hk (st k (Nat.le_of_lt hk)), List.set_append_right _ _ (by simp), List.length_map, List.length_range, Nat.sub_self, List.drop_eq_getElem_cons hk, List.set_cons_zero, List.range_succ, List.map_append]
    simp
  · rw [h2 _ (st _ (Nat.le_refl _))]
    simp
def mkV (a : Nat) : SVector := ⟨fint .f32 (a : Int), fint .f32 ((a + 1 : Nat) : Int), fint .f32 ((a + 2 : Nat) : Int)⟩
def mkR (a : Nat) : SRod := ⟨(a : Int), ((a + 1 : Nat) : Int), fint .f32 ((a + 2 : Nat) : Int)⟩
theorem add_wrap {a b : Nat} (h : a + b ≤ 9223372036854775806) : IntKind.i64.wrap ((a : Int) + (b : Int)) = ((a + b : Nat) : Int) := by rw [wrap_in (by omega)]; rfl
theorem one_wrap {a : Nat} (h : a ≤ 9223372036854775806) : IntKind.i64.wrap ((a : Int) + 1) = ((a + 1 : Nat) : Int) := succ_wrap h
theorem markVs (xs : List SVector) (p : Nat) (h : p + 3 * xs.length ≤ 1000000) : M.laws_markVectorS xs (p : Int) = some (((p + 3 * xs.length : Nat) : Int), (List.range xs.length).map fun j => mkV (p + 3 * j)) := by
  unfold M.laws_markVectorS
  rw [markLoop mkV 3 p xs _ ?_ ?_]
  · rfl
  · intro k l x hx hk hl
    have hkl : k < l.length := by omega
    have tn : (k : Int).toNat = k := by simp
    dsimp only
    rw [lss_lt hkl, cond_true, tn]
    simp only [idx_nat, hx, Option.bind_some, List.getElem?_set_self hkl, List.set_set]
    rw [one_wrap (by omega), one_wrap (by omega), one_wrap (by omega), one_wrap (by omega)]
    rfl
  · intro l hl
    dsimp only
    rw [hl, lss_self, cond_false]
theorem markFs (xs : List Nat) (p : Nat) (h : p + xs.length ≤ 1000000) : M.laws_markFloat32S xs (p : Int) = some (((p + 1 * xs.length : Nat) : Int), (List.range xs.length).map fun j => fint .f32 ((p + 1 * j : Nat) : Int)) := by
  unfold M.laws_markFloat32S
  rw [markLoop (fun a => fint .f32 (a : Int)) 1 p xs _ ?_ ?_]
  · rfl
  · intro k l x hx hk hl
    have hkl : k < l.length := by omega
    have tn : (k : Int).toNat = k := by simp
    dsimp only
    rw [lss_lt hkl, cond_true, tn]
    simp only [idx_nat, hx, Option.bind_some]
    rw [one_wrap (by omega), one_wrap (by omega)]
    rfl
  · intro l hl
    dsimp only
    rw [hl, lss_self, cond_false]
theorem markRs (xs : List SRod) (p : Nat) (h : p + 3 * xs.length ≤ 1000000) : M.laws_markRodS xs (p : Int) = some (((p + 3 * xs.length : Nat) : Int), (List.range xs.length).map fun j => mkR (p + 3 * j)) := by
  unfold M.laws_markRodS
  rw [markLoop mkR 3 p xs _ ?_ ?_]
  · rfl
  · intro k l x hx hk hl
    have hkl : k < l.length := by omega
    have tn : (k : Int).toNat = k := by simp
    dsimp only
    rw [lss_lt hkl, cond_true, tn]
    simp only [idx_nat, hx, Option.bind_some, List.getElem?_set_self hkl, List.set_set]
    rw [one_wrap (by omega), one_wrap (by omega), one_wrap (by omega), one_wrap (by omega)]
    rfl
  · intro l hl
    dsimp only
    rw [hl, lss_self, cond_false]
theorem heldVs (n p : Nat) (h : p + 3 * n ≤ 1000000) : M.laws_heldVectorS ((List.range n).map fun j => mkV (p + 3 * j)) (p : Int) = some ((p + 3 * n : Nat) : Int) := by
  unfold M.laws_heldVectorS
  rw [loopM_run' (s0 := (((p : Int), 0) : Int × Int)) (e := .inl ((p + 3 * n : Nat) : Int)) n (fun k : Nat => (((p + 3 * k : Nat) : Int), (k : Int))) rfl ?_ ?_]
  · rfl
  · intro k hk
    dsimp only
    have hg : ((List.range n).map fun j => mkV (p + 3 * j))[k]? = some (mkV (p + 3 * k)) := by rw [List.getElem?_map, List.getElem?_range hk]; rfl
    rw [List.length_map, List.length_range, lss_lt hk, cond_true, idx_nat, hg, Option.bind_some]
    rw [one_wrap (by omega), one_wrap (by omega), one_wrap (by omega), one_wrap (by omega)]
    have f1 : fcmp .neq .f32 (mkV (p + 3 * k)).x (fint .f32 ((p + 3 * k : Nat) : Int)) = false := fint_same _ _
    have f2 : fcmp .neq .f32 (mkV (p + 3 * k)).y (fint .f32 ((p + 3 * k + 1 : Nat) : Int)) = false := fint_same _ _
    have f3 : fcmp .neq .f32 (mkV (p + 3 * k)).z (fint .f32 ((p + 3 * k + 1 + 1 : Nat) : Int)) = false := fint_same _ _
    rw [f1, cond_false, Option.bind_some, f2, cond_false, Option.bind_some, f3, cond_false]
    rfl
  · dsimp only
    rw [List.length_map, List.length_range, lss_self, cond_false]
theorem heldFs (n p : Nat) (h : p + n ≤ 1000000) : M.laws_heldFloat32S ((List.range n).map fun j => fint .f32 ((p + 1 * j : Nat) : Int)) (p : Int) = some ((p + 1 * n : Nat) : Int) := by
  unfold M.laws_heldFloat32S
  rw [loopM_run' (s0 := (((p : Int), 0) : Int × Int)) (e := .inl ((p + 1 * n : Nat) : Int)) n (fun k : Nat => (((p + 1 * k : Nat) : Int), (k : Int))) rfl ?_ ?_]
  · rfl
  · intro k hk
    dsimp only
    have hg : ((List.range n).map fun j => fint .f32 ((p + 1 * j : Nat) : Int))[k]? = some (fint .f32 ((p + 1 * k : Nat) : Int)) := by rw [List.getElem?_map, List.getElem?_range hk]; rfl
    rw [List.length_map, List.length_range, lss_lt hk, cond_true, idx_nat, hg, Option.bind_some]
    rw [one_wrap (by omega), one_wrap (by omega)]
    have f1 : fcmp .neq .f32 (fint .f32 ((p + 1 * k : Nat) : Int)) (fint .f32 ((p + 1 * k : Nat) : Int)) = false := fint_same _ _
    rw [f1, cond_false]
    rfl
  · dsimp only
    rw [List.length_map, List.length_range, lss_self, cond_false]
theorem heldRs (n p : Nat) (h : p + 3 * n ≤ 1000000) : M.laws_heldRodS ((List.range n).map fun j => mkR (p + 3 * j)) (p : Int) = some ((p + 3 * n : Nat) : Int) := by
  unfold M.laws_heldRodS
  rw [loopM_run' (s0 := (((p : Int), 0) : Int × Int)) (e := .inl ((p + 3 * n : Nat) : Int)) n (fun k : Nat => (((p + 3 * k : Nat) : Int), (k : Int))) rfl ?_ ?_]
  · rfl
  · intro k hk
    dsimp only
    have hg : ((List.range n).map fun j => mkR (p + 3 * j))[k]? = some (mkR (p + 3 * k)) := by rw [List.getElem?_map, List.getElem?_range hk]; rfl
    rw [List.length_map, List.length_range, lss_lt hk, cond_true, idx_nat, hg, Option.bind_some]
    rw [one_wrap (by omega), one_wrap (by omega), one_wrap (by omega), one_wrap (by omega)]
    have f1 : icmp .neq (mkR (p + 3 * k)).a ((p + 3 * k : Nat) : Int) = false := neq_self _
    have f2 : icmp .neq (mkR (p + 3 * k)).b ((p + 3 * k + 1 : Nat) : Int) = false := neq_self _
    have f3 : fcmp .neq .f32 (mkR (p + 3 * k)).long (fint .f32 ((p + 3 * k + 1 + 1 : Nat) : Int)) = false := fint_same _ _
    rw [f1, cond_false, Option.bind_some, f2, cond_false, Option.bind_some, f3, cond_false]
    rfl
  · dsimp only
    rw [List.length_map, List.length_range, lss_self, cond_false]
theorem crd_small (l : List UInt8) : (crd l).1.places.length ≤ 40 ∧ (crd l).1.before.length ≤ 40 ∧ (crd l).1.weights.length ≤ 40 ∧ (crd l).1.rods.length ≤ 40 := by
  unfold crd
  split
  · rename_i h
    have hv := h.2
    unfold validB at hv
    simp only [Bool.and_eq_true] at hv
    have := sizes_of hv.1.1
    dsimp only
    omega
  · simp
theorem not_neg (n : Nat) : icmp .lss (n : Int) 0 = false := by rw [icmp_lss]; exact decide_eq_false (by omega)
/-- The law of ReadChain. -/
theorem law_ReadChain (l : List UInt8) : M.laws_FnExactReadChain l = some true := by
  unfold M.laws_FnExactReadChain
  by_cases hl : l.length ≤ 1048576
  · have e : icmp .gtr (l.length : Int) 1048576 = false := by rw [icmp_gtr]; exact decide_eq_false (by omega)
    rw [e, cond_false, sReadChain l hl, Option.bind_some, iReadChain l hl, Option.bind_some]
    obtain ⟨s1, s2, s3, s4⟩ := crd_small l
    generalize crd l = r at *
    obtain ⟨c, f⟩ := r
    have eta : (⟨c.places, c.before, c.weights, c.rods⟩ : SChain) = c := rfl
    dsimp only at s1 s2 s3 s4
    dsimp only
    rw [eta, eqCh c ⟨by omega, by omega, by omega, by omega⟩]
    simp only [Option.bind_some, cond_true, beq_self_eq_true, Bool.not_true, cond_false]
    have hmark : M.laws_markChain c 1 = some (((1 + 3 * c.places.length + 3 * c.before.length + 1 * c.weights.length + 3 * c.rods.length : Nat) : Int), (List.range c.places.length).map fun j => mkV (1 + 3 * j), (List.range c.before.length).map fun j => mkV (1 + 3 * c.places.length + 3 * j), (List.range c.weights.length).map fun j => fint .f32 ((1 + 3 * c.places.length + 3 * c.before.length + 1 * j : Nat) : Int), (List.range c.rods.length).map fun j => mkR (1 + 3 * c.places.length + 3 * c.before.length + 1 * c.weights.length + 3 * j)) := by
      unfold M.laws_markChain
      rw [show (1 : Int) = ((1 : Nat) : Int) from rfl, markVs _ _ (by omega), Option.bind_some, markVs _ _ (by omega), Option.bind_some, markFs _ _ (by omega), Option.bind_some, markRs _ _ (by omega), Option.bind_some]
    have hheld : M.laws_heldChain ⟨(List.range c.places.length).map fun j => mkV (1 + 3 * j), (List.range c.before.length).map fun j => mkV (1 + 3 * c.places.length + 3 * j), (List.range c.weights.length).map fun j => fint .f32 ((1 + 3 * c.places.length + 3 * c.before.length + 1 * j : Nat) : Int), (List.range c.rods.length).map fun j => mkR (1 + 3 * c.places.length + 3 * c.before.length + 1 * c.weights.length + 3 * j)⟩ 1 = some ((1 + 3 * c.places.length + 3 * c.before.length + 1 * c.weights.length + 3 * c.rods.length : Nat) : Int) := by
      unfold M.laws_heldChain
      rw [show (1 : Int) = ((1 : Nat) : Int) from rfl]
      dsimp only
      rw [heldVs _ _ (by omega), Option.bind_some, not_neg, cond_false, heldVs _ _ (by omega), Option.bind_some, not_neg, cond_false, heldFs _ _ (by omega), Option.bind_some, not_neg, cond_false, heldRs _ _ (by omega), Option.bind_some, not_neg, cond_false]
    rw [hmark, Option.bind_some]
    dsimp only
    rw [hheld, Option.bind_some, not_neg, cond_false, neq_self, cond_false, eqCh c ⟨by omega, by omega, by omega, by omega⟩]
    simp only [Option.bind_some, cond_true, cond_false, not_neg, neq_self]
  · have e : icmp .gtr (l.length : Int) 1048576 = true := by rw [icmp_gtr]; exact decide_eq_true (by omega)
    rw [e, cond_true]
end Go.Proofs
