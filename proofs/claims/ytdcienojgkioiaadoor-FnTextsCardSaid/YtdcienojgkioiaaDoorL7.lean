import Derived.Test.YtdcienojgkioiaaDoorL6
/- The law of RecoverJournal. No program in sight. -/
namespace Go.Proofs
open Go Go.Fl Go.RowKit Go.Rg
attribute [local irreducible] fint fcmp fop fneg widen narrow fsqrt cn

theorem dig8 (u : Nat) : u8s [(IntKind.u8.wrap (IntKind.i64.wrap (48 + ((u % 10 : Nat) : Int))))] = [UInt8.ofNat (48 + u % 10)] := by
  have h : ∀ k : Fin 10, u8s [(IntKind.u8.wrap (IntKind.i64.wrap (48 + (k.val : Int))))] = [UInt8.ofNat (48 + k.val)] := by decide
  exact h ⟨u % 10, Nat.mod_lt _ (by omega)⟩
theorem markText (k : Nat) (h0 : 0 < k) (h1 : k ≤ 4611686018427387904) : M.laws_markText (k : Int) = some (109 :: Lib.decDigits k) := by
  unfold M.laws_markText
  have e0 : icmp .leq (k : Int) 0 = false := by rw [icmp_leq]; exact decide_eq_false (by omega)
  rw [e0, cond_false]
  have key : ∀ (u : Nat) (out : List UInt8), 0 < u → u ≤ 4611686018427387904 → out.length ≤ 40 - (digI u).length → loopM (fun (s2 : Int × List UInt8) =>
        bif (icmp .gtr s2.1 0) then
          (scat (u8s ([(IntKind.u8.wrap (IntKind.i64.wrap (48 + ((s2.1).tmod 10))))])) s2.2).bind fun m6 =>
          some (.inl ((IntKind.i64.wrap ((s2.1).tdiv 10)), m6))
        else
          some (.inr s2.2)) (((u : Int), out) : Int × List UInt8) = some (Lib.decDigits u ++ out) := by
    intro u
    induction u using Nat.strongRecOn with
    | ind u ih =>
    intro out hu hle hlen
    have hd2 := dig_len (u := u) (by omega)
    have e1 : icmp .gtr (u : Int) 0 = true := by rw [icmp_gtr]; exact decide_eq_true (by omega)
    have et : (u : Int).tmod 10 = ((u % 10 : Nat) : Int) := rfl
    have ed : (u : Int).tdiv 10 = ((u / 10 : Nat) : Int) := rfl
    rw [loopM_next (s' := (((u / 10 : Nat) : Int), UInt8.ofNat (48 + u % 10) :: out))]
    · by_cases h10 : u < 10
      · have hz : u / 10 = 0 := by omega
        rw [hz, loopM_end (e := UInt8.ofNat (48 + u % 10) :: out)]
        · rw [Lib.decDigits_one h10, Nat.mod_eq_of_lt h10]; rfl
        · rfl
      · have hdl := congrArg List.length (dig_big h10)
        rw [List.length_append, List.length_singleton] at hdl
        rw [ih (u / 10) (by omega) _ (by omega) (by omega) (by rw [List.length_cons]; omega)]
        have e5 : Lib.decDigits u = Lib.decDigits (u / 10) ++ [UInt8.ofNat (48 + u % 10)] := by rw [Lib.decDigits, dif_neg h10]
        rw [e5]
        simp
    · dsimp only
      rw [e1, cond_true, et, ed, dig8, scat_ok (by simp only [List.length_singleton]; omega), Option.bind_some, wrap_in (by omega)]
      rfl
  have hd2 := dig_len (u := k) (by omega)
  rw [key k [] h0 h1 (by simp), Option.bind_some, List.append_nil]
  have hl : (Lib.decDigits k).length ≤ 20 := by
    unfold digI at hd2; rw [List.length_map] at hd2; exact hd2
  rw [scat_ok (by simp only [List.length_singleton]; omega)]
  rfl

/-- The marks from p on. -/
def mks (p n : Nat) : List (List UInt8) := (List.range n).map fun i => 109 :: Lib.decDigits (p + i)
theorem mks_succ (p n : Nat) : mks p (n + 1) = mks p n ++ [109 :: Lib.decDigits (p + n)] := by
  unfold mks; rw [List.range_succ, List.map_append]; rfl
theorem mks_get (p : Nat) {n k : Nat} (h : k < n) : (mks p n)[k]? = some (109 :: Lib.decDigits (p + k)) := by
  unfold mks; rw [List.getElem?_map, List.getElem?_range h]; rfl
theorem mks_len (p n : Nat) : (mks p n).length = n := by simp [mks]
theorem markStrings (xs : List (List UInt8)) (p : Nat) (h0 : 0 < p) (h : p + xs.length ≤ 4611686018427387904) : M.laws_markStringS xs (p : Int) = some (((p + xs.length : Nat) : Int), mks p xs.length) := by
  unfold M.laws_markStringS
  rw [loopM_run' (e := (((p + xs.length : Nat) : Int), mks p xs.length)) (s0 := ((p : Int), 0, xs)) xs.length (fun k => (((p + k : Nat) : Int), (k : Int), mks p k ++ xs.drop k)) rfl ?_ ?_]
  · rfl
  · intro k hk
    have hl : (mks p k ++ xs.drop k).length = xs.length := by rw [List.length_append, mks_len, List.length_drop]; omega
    have e1 : icmp .lss (k : Int) ((mks p k ++ xs.drop k).length : Int) = true := by rw [icmp_lss]; exact decide_eq_true (by omega)
    have w : IntKind.i64.wrap ((k : Int) + 1) = ((k + 1 : Nat) : Int) := by rw [wrap_in (by omega)]; rfl
    have w2 : IntKind.i64.wrap (((p + k : Nat) : Int) + 1) = ((p + (k + 1) : Nat) : Int) := by rw [wrap_in (by omega)]; rfl
    have hx : (mks p k ++ xs.drop k)[k]? = some xs[k] := by
      rw [List.getElem?_append_right (by rw [mks_len]; omega), mks_len, Nat.sub_self, List.getElem?_drop, Nat.add_zero, List.getElem?_eq_getElem hk]
    dsimp only
    rw [e1, cond_true, markText (p + k) (by omega) (by omega), Option.bind_some, idx_nat, hx, Option.bind_some, w, w2, Int.toNat_natCast]
    have e2 : (mks p k ++ xs.drop k).set k (109 :: Lib.decDigits (p + k)) = mks p (k + 1) ++ xs.drop (k + 1) := by
      rw [List.drop_eq_getElem_cons hk, List.set_append_right _ _ (by rw [mks_len]; omega), mks_len, Nat.sub_self, List.set_cons_zero, mks_succ, List.append_assoc]
      rfl
    rw [e2]
  · have hl : (mks p xs.length ++ xs.drop xs.length) = mks p xs.length := by rw [List.drop_length, List.append_nil]
    have e1 : icmp .lss (xs.length : Int) ((mks p xs.length).length : Int) = false := by rw [icmp_lss, mks_len]; exact decide_eq_false (by omega)
    dsimp only
    rw [hl, e1, cond_false]
theorem heldStrings (n p : Nat) (h0 : 0 < p) (h : p + n ≤ 4611686018427387904) : M.laws_heldStringS (mks p n) (p : Int) = some ((p + n : Nat) : Int) := by
  unfold M.laws_heldStringS
  rw [loopM_run' (e := (.inl ((p + n : Nat) : Int) : Int ⊕ Int)) (s0 := ((p : Int), 0)) n (fun k => (((p + k : Nat) : Int), (k : Int))) rfl ?_ ?_]
  · rfl
  · intro k hk
    have e1 : icmp .lss (k : Int) ((mks p n).length : Int) = true := by rw [icmp_lss, mks_len]; exact decide_eq_true (by omega)
    have w : IntKind.i64.wrap ((k : Int) + 1) = ((k + 1 : Nat) : Int) := by rw [wrap_in (by omega)]; rfl
    have w2 : IntKind.i64.wrap (((p + k : Nat) : Int) + 1) = ((p + (k + 1) : Nat) : Int) := by rw [wrap_in (by omega)]; rfl
    dsimp only
    rw [e1, cond_true, idx_nat, mks_get p hk, Option.bind_some, markText (p + k) (by omega) (by omega), Option.bind_some, beq_self_eq_true, Bool.not_true, cond_false, w, w2]
  · have e1 : icmp .lss (n : Int) ((mks p n).length : Int) = false := by rw [icmp_lss, mks_len]; exact decide_eq_false (by omega)
    dsimp only
    rw [e1, cond_false]

/-- The lines of a journal's beginning, and its length. -/
def rv : Int → List (List UInt8) → List (List UInt8) × Nat
  | _, [] => ([], 0)
  | n, p :: ps =>
    if Lib.indexByte p 32 = -1 then ([], 0) else
    let m := (Lib.indexByte p 32).toNat
    let line := p.drop (m + 1)
    if p.take m = Lib.itoa (chk n line) then (line :: (rv (chk n line) ps).1, p.length + 1 + (rv (chk n line) ps).2) else ([], 0)
theorem rv_miss {n : Int} {p : List UInt8} {ps : List (List UInt8)} (h : Lib.indexByte p 32 = -1) : rv n (p :: ps) = ([], 0) := by rw [rv, if_pos h]
theorem rv_bad {n : Int} {p : List UInt8} {ps : List (List UInt8)} {m : Nat} (h : Lib.indexByte p 32 = m) (h2 : ¬ p.take m = Lib.itoa (chk n (p.drop (m + 1)))) : rv n (p :: ps) = ([], 0) := by
  rw [rv, if_neg (by omega)]
  simp only [h, Int.toNat_natCast]
  rw [if_neg h2]
theorem rv_good {n : Int} {p : List UInt8} {ps : List (List UInt8)} {m : Nat} (h : Lib.indexByte p 32 = m) (h2 : p.take m = Lib.itoa (chk n (p.drop (m + 1)))) :
    rv n (p :: ps) = (p.drop (m + 1) :: (rv (chk n (p.drop (m + 1))) ps).1, p.length + 1 + (rv (chk n (p.drop (m + 1))) ps).2) := by
  rw [rv, if_neg (by omega)]
  simp only [h, Int.toNat_natCast]
  rw [if_pos h2]
theorem rv_len : ∀ (ps : List (List UInt8)) (n : Int), (rv n ps).1.length ≤ ps.length ∧ (rv n ps).2 ≤ sumLen ps + ps.length := by
  intro ps
  induction ps with
  | nil => intro n; exact ⟨Nat.le_refl _, Nat.zero_le _⟩
  | cons p ps ih =>
    intro n
    have e : sumLen (p :: ps) = p.length + sumLen ps := by simp [sumLen]
    by_cases h : Lib.indexByte p 32 = -1
    · rw [rv_miss h]; exact ⟨Nat.zero_le _, Nat.zero_le _⟩
    · have hge := Lib.indexByte_ge p 32
      obtain ⟨m, hm⟩ : ∃ m : Nat, Lib.indexByte p 32 = m := ⟨(Lib.indexByte p 32).toNat, by omega⟩
      by_cases h2 : p.take m = Lib.itoa (chk n (p.drop (m + 1)))
      · rw [rv_good hm h2]
        have := ih (chk n (p.drop (m + 1)))
        simp only [List.length_cons]
        omega
      · rw [rv_bad hm h2]; exact ⟨Nat.zero_le _, Nat.zero_le _⟩

/-- Where a blank stands first, or the end. -/
theorem scan32 (lines : List (List UInt8)) {k : Nat} {p : List UInt8} (hx : lines[k]? = some p) (hl : p.length ≤ 1048576) : loopM (fun (s11 : Int) =>
            (Option.bind (
                (idx lines (k : Int)).bind fun m13 =>
                bif (icmp .lss s11 ((m13).length : Int)) then
                  (idx lines (k : Int)).bind fun m16 =>
                  (sidx m16 s11).bind fun m18 =>
                  some (icmp .neq m18 32)
                else
                  some false) fun m12 =>
            bif m12 then
              some (.inl (IntKind.i64.wrap (s11 + 1)))
            else
              some (.inr s11))) (0 : Int) = some (if Lib.indexByte p 32 = -1 then (p.length : Int) else Lib.indexByte p 32) := by
  have key : ∀ (n j : Nat), p.length - j = n → j ≤ p.length → (∀ i, i < j → p[i]? ≠ some 32) → loopM (fun (s11 : Int) =>
            (Option.bind (
                (idx lines (k : Int)).bind fun m13 =>
                bif (icmp .lss s11 ((m13).length : Int)) then
                  (idx lines (k : Int)).bind fun m16 =>
                  (sidx m16 s11).bind fun m18 =>
                  some (icmp .neq m18 32)
                else
                  some false) fun m12 =>
            bif m12 then
              some (.inl (IntKind.i64.wrap (s11 + 1)))
            else
              some (.inr s11))) (j : Int) = some (if Lib.indexByte (p.drop j) 32 = -1 then (p.length : Int) else (j : Int) + Lib.indexByte (p.drop j) 32) := by
    intro n
    induction n with
    | zero =>
      intro j hn hj _
      have e : j = p.length := by omega
      subst e
      have e1 : icmp .lss (p.length : Int) (p.length : Int) = false := by rw [icmp_lss]; exact decide_eq_false (by omega)
      rw [loopM_end (e := (p.length : Int))]
      · rw [List.drop_length, if_pos (show Lib.indexByte ([] : List UInt8) 32 = -1 from rfl)]
      · rw [idx_nat, hx, Option.bind_some, e1, cond_false]; rfl
    | succ n ih =>
      intro j hn hj hno
      have hjl : j < p.length := by omega
      have e1 : icmp .lss (j : Int) (p.length : Int) = true := by rw [icmp_lss]; exact decide_eq_true (by omega)
      have w : IntKind.i64.wrap ((j : Int) + 1) = ((j + 1 : Nat) : Int) := by rw [wrap_in (by omega)]; rfl
      have hd : p.drop j = p[j] :: p.drop (j + 1) := List.drop_eq_getElem_cons hjl
      by_cases hb : p[j] = 32
      · rw [loopM_end (e := (j : Int))]
        · rw [hd, hb]
          unfold Lib.indexByte
          simp
        · have e2 : icmp .neq ((p[j].toNat : Nat) : Int) 32 = false := by rw [hb]; rfl
          rw [idx_nat, hx, Option.bind_some, e1, cond_true, Option.bind_some, sidx_lt hjl, Option.bind_some, Option.bind_some, e2, cond_false]
      · rw [loopM_next (s' := ((j + 1 : Nat) : Int))]
        · rw [ih (j + 1) (by omega) hjl ?_]
          · have e3 : Lib.indexByte (p.drop j) 32 = (if Lib.indexByte (p.drop (j + 1)) 32 = -1 then -1 else Lib.indexByte (p.drop (j + 1)) 32 + 1) := by
              rw [hd, Lib.indexByte]
              have hb' : (p[j] == 32) = false := by simpa using hb
              rw [hb']
              simp only [Bool.false_eq_true, if_false, beq_iff_eq]
            rw [e3]
            have hge := Lib.indexByte_ge (p.drop (j + 1)) 32
            by_cases h4 : Lib.indexByte (p.drop (j + 1)) 32 = -1
            · rw [if_pos h4, if_pos h4, if_pos rfl]
            · rw [if_neg h4, if_neg h4, if_neg (by omega)]
              congr 1
              omega
          · intro i hi
            by_cases hij : i = j
            · subst hij
              rw [List.getElem?_eq_getElem hjl]
              intro h; exact hb (Option.some.inj h)
            · exact hno i (by omega)
        · have e2 : icmp .neq ((p[j].toNat : Nat) : Int) 32 = true := by
            simp only [icmp_neq, bne_iff_ne, ne_eq]
            exact fun h => hb (byte_inj.1 h)
          rw [idx_nat, hx, Option.bind_some, e1, cond_true, Option.bind_some, sidx_lt hjl, Option.bind_some, Option.bind_some, e2, cond_true, w]
  have := key p.length 0 (by omega) (Nat.zero_le _) (fun i hi => by omega)
  rw [List.drop_zero] at this
  simpa using this

theorem count_index {l : List UInt8} {m : Nat} (h : Lib.indexByte l 32 = m) : m < l.length := (count_hit h).2

theorem dropLast_len (l : List UInt8) : ssub (splitB 10 l) 0 (((splitB 10 l).length : Int) - 1) = some (splitB 10 l).dropLast := by
  have h1 := splitB_len 10 l
  have e : ((splitB 10 l).length : Int) - 1 = (((splitB 10 l).length - 1 : Nat) : Int) := by omega
  have z : (0 : Int) = ((0 : Nat) : Int) := rfl
  rw [e, z, ssub_nat _ (Nat.zero_le _) (by omega), List.drop_zero, Nat.sub_zero, List.dropLast_eq_take]

theorem sRecover (l : List UInt8) (hl : l.length ≤ 16000) : M.spec_l08Recover l = some ((rv 0 (splitB 10 l).dropLast).1, (((rv 0 (splitB 10 l).dropLast).2 : Nat) : Int)) := by
  unfold M.spec_l08Recover M.spec_l08Lines
  have hc : M.spec_l01Cut l 10 = some (splitB 10 l) := cut_eq 10 l (by omega)
  have h1 := splitB_len 10 l
  have h2 := splitB_le 10 l
  have w : IntKind.i64.wrap (((splitB 10 l).length : Int) - 1) = ((splitB 10 l).length : Int) - 1 := wrap_in (by omega)
  have e : ((splitB 10 l).length : Int) - 1 = (((splitB 10 l).length - 1 : Nat) : Int) := by omega
  rw [hc, Option.bind_some, w, dropLast_len, Option.bind_some, e, idx_nat, List.getElem?_eq_getElem (by omega), Option.bind_some, Option.bind_some]
  have hmem : ∀ p ∈ (splitB 10 l).dropLast, p.length ≤ 16000 := fun p hp => Nat.le_trans (splitB_mem (List.dropLast_subset _ hp)) hl
  have hll : (splitB 10 l).dropLast.length ≤ 16001 := by rw [List.length_dropLast]; omega
  dsimp only
  generalize (splitB 10 l).dropLast = lines at *
  rw [loopM_list (s0 := (([], 0, 0, 0) : List (List UInt8) × Int × Int × Int)) lines (fun (a : List (List UInt8) × Int × Nat) k => (a.1, a.2.1, (a.2.2 : Int), (k : Int)))
    (fun a p => if Lib.indexByte p 32 = -1 then .inr (a.1, (a.2.2 : Int)) else if p.take (Lib.indexByte p 32).toNat = Lib.itoa (chk a.2.1 (p.drop ((Lib.indexByte p 32).toNat + 1))) then .inl (a.1 ++ [p.drop ((Lib.indexByte p 32).toNat + 1)], chk a.2.1 (p.drop ((Lib.indexByte p 32).toNat + 1)), a.2.2 + (p.length + 1)) else .inr (a.1, (a.2.2 : Int))) (fun a => (a.1, (a.2.2 : Int)))
    (fun k a => a.1.length ≤ k ∧ 0 ≤ a.2.1 ∧ a.2.1 < 65003 ∧ a.2.2 ≤ k * 16001) ?_ ?_ ([], 0, 0) ⟨by simp, by simp, by simp, by simp⟩ rfl]
  · rw [Option.bind_some]
    have key : ∀ (ps : List (List UInt8)) (a : List (List UInt8) × Int × Nat), foldE (fun (a : List (List UInt8) × Int × Nat) (p : List UInt8) => if Lib.indexByte p 32 = -1 then (.inr (a.1, (a.2.2 : Int)) : (List (List UInt8) × Int × Nat) ⊕ (List (List UInt8) × Int)) else if p.take (Lib.indexByte p 32).toNat = Lib.itoa (chk a.2.1 (p.drop ((Lib.indexByte p 32).toNat + 1))) then .inl (a.1 ++ [p.drop ((Lib.indexByte p 32).toNat + 1)], chk a.2.1 (p.drop ((Lib.indexByte p 32).toNat + 1)), a.2.2 + (p.length + 1)) else .inr (a.1, (a.2.2 : Int))) (fun a => (a.1, (a.2.2 : Int))) a ps
        = (a.1 ++ (rv a.2.1 ps).1, ((a.2.2 + (rv a.2.1 ps).2 : Nat) : Int)) := by
      intro ps
      induction ps with
      | nil => intro a; rw [foldE_nil]; simp [rv]
      | cons p ps ih =>
        intro a
        by_cases h : Lib.indexByte p 32 = -1
        · rw [foldE_inr (by rw [if_pos h]), rv_miss h]; simp
        · have hge := Lib.indexByte_ge p 32
          obtain ⟨m, hm⟩ : ∃ m : Nat, Lib.indexByte p 32 = m := ⟨(Lib.indexByte p 32).toNat, by omega⟩
          by_cases h3 : p.take m = Lib.itoa (chk a.2.1 (p.drop (m + 1)))
          · rw [foldE_inl (a' := (a.1 ++ [p.drop (m + 1)], chk a.2.1 (p.drop (m + 1)), a.2.2 + (p.length + 1))) (by rw [if_neg h, hm, Int.toNat_natCast, if_pos h3]), ih, rv_good hm h3]
            simp only [List.append_assoc, List.singleton_append, Nat.add_assoc]
          · rw [foldE_inr (by rw [if_neg h, hm, Int.toNat_natCast, if_neg h3]), rv_bad hm h3]; simp
    rw [key]
    simp
  · rintro k ⟨out, n, c⟩ p hx ⟨g1, g2, g3, g4⟩
    simp only at g1 g2 g3 g4
    have hlt := (List.getElem?_eq_some_iff.1 hx).1
    have hpl := hmem p (List.mem_of_getElem? hx)
    have e1 : icmp .lss (k : Int) (lines.length : Int) = true := by rw [icmp_lss]; exact decide_eq_true (by omega)
    have w : IntKind.i64.wrap ((k : Int) + 1) = ((k + 1 : Nat) : Int) := by rw [wrap_in (by omega)]; rfl
    dsimp only
    rw [e1, cond_true, scan32 lines hx (by omega), Option.bind_some, idx_nat, hx, Option.bind_some]
    by_cases h : Lib.indexByte p 32 = -1
    · have e2 : icmp .eql (p.length : Int) (p.length : Int) = true := by simp [icmp_eql]
      rw [if_pos h, if_pos h, e2, cond_true]
    · have hge := Lib.indexByte_ge p 32
      obtain ⟨m, hm⟩ : ∃ m : Nat, Lib.indexByte p 32 = m := ⟨(Lib.indexByte p 32).toNat, by omega⟩
      have hml := count_index hm
      have e2 : icmp .eql (m : Int) (p.length : Int) = false := by simp only [icmp_eql, beq_eq_false_iff_ne]; omega
      have wm : IntKind.i64.wrap ((m : Int) + 1) = ((m + 1 : Nat) : Int) := by rw [wrap_in (by omega)]; rfl
      obtain ⟨c1, c2⟩ := chk_range (s := p.drop (m + 1)) g2 g3
      have z : (0 : Int) = ((0 : Nat) : Int) := rfl
      have hld : (p.drop (m + 1)).length ≤ 16000 := by rw [List.length_drop]; omega
      rw [if_neg h, if_neg h, hm, e2, cond_false, Option.bind_some, wm, ssub_nat p (by omega) (Nat.le_refl _), Option.bind_some, List.take_of_length_le (l := p.drop (m + 1)) (by rw [List.length_drop]; exact Nat.le_refl _),
        scheck (by omega) g2 g3, Option.bind_some, Option.bind_some, z, ssub_nat p (Nat.zero_le _) (by omega), Option.bind_some, List.drop_zero, Nat.sub_zero, sdec _ (by omega) (by omega), Option.bind_some]
      rw [Int.toNat_natCast]
      by_cases h3 : p.take m = Lib.itoa (chk n (p.drop (m + 1)))
      · have e3 : (!(p.take m == Lib.itoa (chk n (p.drop (m + 1))))) = false := by rw [h3]; simp
        have w4 : IntKind.i64.wrap ((p.length : Int) + 1) = ((p.length + 1 : Nat) : Int) := by rw [wrap_in (by omega)]; rfl
        have hk : k * 16001 ≤ 16001 * 16001 := Nat.mul_le_mul_right _ (by omega)
        have w5 : IntKind.i64.wrap ((c : Int) + ((p.length + 1 : Nat) : Int)) = ((c + (p.length + 1) : Nat) : Int) := by rw [wrap_in (by omega)]; rfl
        rw [if_pos h3, e3, cond_false, app_small (by simp only [List.length_singleton]; omega), Option.bind_some, Option.bind_some, w4, w5, w]
        refine ⟨rfl, ?_, c1, c2, ?_⟩
        · simp only [List.length_append, List.length_singleton]; omega
        · simp only; omega
      · have e3 : (!(p.take m == Lib.itoa (chk n (p.drop (m + 1))))) = true := by simpa using h3
        rw [if_neg h3, e3, cond_true]
  · rintro ⟨out, n, c⟩ _
    have e1 : icmp .lss (lines.length : Int) (lines.length : Int) = false := by rw [icmp_lss]; exact decide_eq_false (by omega)
    dsimp only
    rw [e1, cond_false]

/-- What both make of a text. -/
def rres (l : List UInt8) : List (List UInt8) × Int × Bool := if l.length ≤ 16000 then ((rv 0 (splitB 10 l).dropLast).1, (((rv 0 (splitB 10 l).dropLast).2 : Nat) : Int), true) else ([], 0, false)
theorem sRecoverJournal (l : List UInt8) (hl : l.length ≤ 1048576) : M.spec_RecoverJournal l = some (rres l) := by
  unfold M.spec_RecoverJournal rres
  by_cases h : l.length ≤ 16000
  · have e : icmp .gtr (l.length : Int) 16000 = false := by rw [icmp_gtr]; exact decide_eq_false (by omega)
    rw [e, cond_false, if_pos h, sRecover l h, Option.bind_some]
  · have e : icmp .gtr (l.length : Int) 16000 = true := by rw [icmp_gtr]; exact decide_eq_true (by omega)
    rw [e, cond_true, if_neg h]

theorem cut20 (l : List UInt8) (hl : l.length ≤ 1048576) : M.strings_Cut_s20 l = some (if Lib.indexByte l 32 = -1 then (l, [], false) else (l.take (Lib.indexByte l 32).toNat, l.drop ((Lib.indexByte l 32).toNat + 1), true)) := by
  unfold M.strings_Cut_s20 M.internal_stringslite_Cut_s20
  have e0 : M.internal_stringslite_Index_s20 l = some (Lib.indexByte l 32) := by
    unfold M.internal_stringslite_Index_s20 M.internal_stringslite_IndexByte
    have e : sidx ([32] : List UInt8) 0 = some 32 := by decide
    have e2 : sfind l 32 = Lib.indexByte l 32 := rfl
    rw [e]
    simp only [letv, Option.bind_some, e2]
    by_cases h : ([32] : List UInt8) = l
    · subst h; rfl
    · have : (([32] : List UInt8) == l) = false := by simpa using h
      rw [this]; rfl
  rw [e0, Option.bind_some]
  by_cases h : Lib.indexByte l 32 = -1
  · rw [h, if_pos rfl]; rfl
  · have hge := Lib.indexByte_ge l 32
    obtain ⟨m, hm⟩ : ∃ m : Nat, Lib.indexByte l 32 = m := ⟨(Lib.indexByte l 32).toNat, by omega⟩
    have hml := count_index hm
    have e1 : icmp .geq (m : Int) 0 = true := by rw [icmp_geq]; exact decide_eq_true (by omega)
    have wm : IntKind.i64.wrap ((m : Int) + 1) = ((m + 1 : Nat) : Int) := by rw [wrap_in (by omega)]; rfl
    have z : (0 : Int) = ((0 : Nat) : Int) := rfl
    rw [if_neg h, hm, e1, cond_true, z, ssub_nat l (Nat.zero_le _) (by omega), Option.bind_some, wm, ssub_nat l (by omega) (Nat.le_refl _), Option.bind_some, Option.bind_some, Int.toNat_natCast, List.drop_zero, Nat.sub_zero,
      List.take_of_length_le (l := l.drop (m + 1)) (by rw [List.length_drop]; exact Nat.le_refl _)]

theorem iRecoverJournal (l : List UInt8) (hl : l.length ≤ 1048576) : M.impl_RecoverJournal l = some (rres l) := by
  unfold M.impl_RecoverJournal rres
  by_cases h : l.length ≤ 16000
  · have e : icmp .gtr (l.length : Int) 16000 = false := by rw [icmp_gtr]; exact decide_eq_false (by omega)
    rw [e, cond_false, if_pos h]
    have key : ∀ (k at' : Nat) (out : List (List UInt8)) (n : Int), l.length - at' = k → at' ≤ l.length → out.length ≤ at' → 0 ≤ n → n < 65003 → loopM (fun (s4 : List (List UInt8) × Int × Int) =>
        (ssub l s4.2.1 ((l).length : Int)).bind fun m5 =>
        letv (M.strings_IndexByte_u8n10 m5) fun m6 =>
        bif (icmp .lss m6 0) then
          some (.inr (s4.1, s4.2.1))
        else
          (ssub l s4.2.1 (IntKind.i64.wrap (s4.2.1 + m6))).bind fun m11 =>
          (M.strings_Cut_s20 m11).bind fun m12 =>
          (M.impl_CheckOf s4.2.2 m12.2.1).bind fun m16 =>
          (bif (!m12.2.2) then some default else (M.impl_Decimal m16.1)).bind fun m22 =>
          (bif (!m12.2.2) then some default else (scat m22 ([32] : List UInt8))).bind fun m23 =>
          (bif (!m12.2.2) then some default else (scat m23 m12.2.1)).bind fun m24 =>
          (bif (!m12.2.2) then some default else (ssub l s4.2.1 (IntKind.i64.wrap (s4.2.1 + m6)))).bind fun m25 =>
          bif (bif (!m12.2.2) then true else (!(m24 == m25))) then
            some (.inr (s4.1, s4.2.1))
          else
            (app 16 s4.1 ([m12.2.1])).bind fun m47 =>
            some (.inl (m47, (IntKind.i64.wrap ((IntKind.i64.wrap (s4.2.1 + m6)) + 1)), m16.1))) ((out, (at' : Int), n) : List (List UInt8) × Int × Int)
        = some (out ++ (rv n (splitB 10 (l.drop at')).dropLast).1, ((at' + (rv n (splitB 10 (l.drop at')).dropLast).2 : Nat) : Int)) := by
      intro k
      induction k using Nat.strongRecOn with
      | ind k ih =>
      intro at' out n hk hat hout h0 h1
      have hs : ssub l (at' : Int) (l.length : Int) = some (l.drop at') := by
        rw [ssub_nat l hat (Nat.le_refl _), List.take_of_length_le (by rw [List.length_drop]; exact Nat.le_refl _)]
      have hix : M.strings_IndexByte_u8n10 (l.drop at') = Lib.indexByte (l.drop at') 10 := rfl
      by_cases hm1 : Lib.indexByte (l.drop at') 10 = -1
      · rw [loopM_end (e := (out, (at' : Int)))]
        · rw [splitB_miss hm1]; simp [rv]
        · dsimp only
          rw [hs, Option.bind_some]
          simp only [letv, hix, hm1]
          rfl
      · have hge := Lib.indexByte_ge (l.drop at') 10
        obtain ⟨e, he⟩ : ∃ e : Nat, Lib.indexByte (l.drop at') 10 = e := ⟨(Lib.indexByte (l.drop at') 10).toNat, by omega⟩
        have hel := (count_hit he).2
        rw [List.length_drop] at hel
        have e1 : icmp .lss (e : Int) 0 = false := by rw [icmp_lss]; exact decide_eq_false (by omega)
        have w1 : IntKind.i64.wrap ((at' : Int) + (e : Int)) = ((at' + e : Nat) : Int) := by rw [wrap_in (by omega)]; rfl
        have w2 : IntKind.i64.wrap (((at' + e : Nat) : Int) + 1) = ((at' + e + 1 : Nat) : Int) := by rw [wrap_in (by omega)]; rfl
        have hs2 : ssub l (at' : Int) ((at' + e : Nat) : Int) = some ((l.drop at').take e) := by
          rw [ssub_nat l (by omega) (by omega), show at' + e - at' = e by omega]
        have hsp : (splitB 10 (l.drop at')).dropLast = (l.drop at').take e :: (splitB 10 (l.drop (at' + e + 1))).dropLast := by
          rw [splitB_hit he, List.drop_drop, show at' + (e + 1) = at' + e + 1 by omega]
          exact List.dropLast_cons_of_ne_nil (splitA_ne 10 _ _)
        rw [hsp]
        have hpl : ((l.drop at').take e).length = e := by rw [List.length_take, List.length_drop]; omega
        generalize (l.drop at').take e = p at *
        have hcut := cut20 p (by omega)
        by_cases h32 : Lib.indexByte p 32 = -1
        · rw [if_pos h32] at hcut
          rw [loopM_end (e := (out, (at' : Int)))]
          · rw [rv_miss h32]; simp
          · dsimp only
            rw [hs, Option.bind_some]
            simp only [letv, hix, he]
            rw [e1, cond_false, w1, hs2, Option.bind_some, hcut, Option.bind_some]
            dsimp only
            rw [icheck (by simp) h0 h1, Option.bind_some]
            rfl
        · have hge3 := Lib.indexByte_ge p 32
          obtain ⟨m, hm⟩ : ∃ m : Nat, Lib.indexByte p 32 = m := ⟨(Lib.indexByte p 32).toNat, by omega⟩
          have hml := count_index hm
          rw [if_neg h32, hm, Int.toNat_natCast] at hcut
          obtain ⟨c1, c2⟩ := chk_range (s := p.drop (m + 1)) h0 h1
          obtain ⟨i1, i2⟩ := itoa_len c1 c2
          have hld : (p.drop (m + 1)).length ≤ 16000 := by rw [List.length_drop]; omega
          have hps : p = p.take m ++ [32] ++ p.drop (m + 1) := by
            have hget : p[m] = 32 := by
              have : ∀ (q : List UInt8) (m : Nat), Lib.indexByte q 32 = m → ∀ h : m < q.length, q[m] = 32 := by
                intro q
                induction q with
                | nil => intro m _ h; simp at h
                | cons b q ihq =>
                  intro m hm h
                  unfold Lib.indexByte at hm
                  by_cases hb : b = 32
                  · subst hb
                    simp at hm
                    have : m = 0 := by omega
                    subst this; rfl
                  · have hb' : (b == 32) = false := by simpa using hb
                    rw [hb'] at hm
                    simp only [Bool.false_eq_true, if_false, beq_iff_eq] at hm
                    have hgq := Lib.indexByte_ge q 32
                    by_cases hq : Lib.indexByte q 32 = -1
                    · rw [if_pos hq] at hm; omega
                    · rw [if_neg hq] at hm
                      obtain ⟨j, rfl⟩ : ∃ j, m = j + 1 := ⟨m - 1, by omega⟩
                      exact ihq j (by omega) (by simpa using h)
              exact this p m hm hml
            have h5 : p.drop m = 32 :: p.drop (m + 1) := by rw [List.drop_eq_getElem_cons hml, hget]
            have h6 := (List.take_append_drop m p).symm
            rw [h5] at h6
            rw [List.append_assoc]
            exact h6
          have hround : ∀ r, (match decide (p.take m = Lib.itoa (chk n (p.drop (m + 1)))) with
              | true => r = (.inl (out ++ [p.drop (m + 1)], ((at' + e + 1 : Nat) : Int), chk n (p.drop (m + 1))) : (List (List UInt8) × Int × Int) ⊕ (List (List UInt8) × Int))
              | false => r = .inr (out, (at' : Int))) → (fun (s4 : List (List UInt8) × Int × Int) =>
        (ssub l s4.2.1 ((l).length : Int)).bind fun m5 =>
        letv (M.strings_IndexByte_u8n10 m5) fun m6 =>
        bif (icmp .lss m6 0) then
          some (.inr (s4.1, s4.2.1))
        else
          (ssub l s4.2.1 (IntKind.i64.wrap (s4.2.1 + m6))).bind fun m11 =>
          (M.strings_Cut_s20 m11).bind fun m12 =>
          (M.impl_CheckOf s4.2.2 m12.2.1).bind fun m16 =>
          (bif (!m12.2.2) then some default else (M.impl_Decimal m16.1)).bind fun m22 =>
          (bif (!m12.2.2) then some default else (scat m22 ([32] : List UInt8))).bind fun m23 =>
          (bif (!m12.2.2) then some default else (scat m23 m12.2.1)).bind fun m24 =>
          (bif (!m12.2.2) then some default else (ssub l s4.2.1 (IntKind.i64.wrap (s4.2.1 + m6)))).bind fun m25 =>
          bif (bif (!m12.2.2) then true else (!(m24 == m25))) then
            some (.inr (s4.1, s4.2.1))
          else
            (app 16 s4.1 ([m12.2.1])).bind fun m47 =>
            some (.inl (m47, (IntKind.i64.wrap ((IntKind.i64.wrap (s4.2.1 + m6)) + 1)), m16.1))) (out, (at' : Int), n) = some r := by
            intro r hr
            dsimp only
            rw [hs, Option.bind_some]
            simp only [letv, hix, he]
            rw [e1, cond_false, w1, hs2, Option.bind_some, hcut, Option.bind_some]
            dsimp only
            rw [icheck (by omega) h0 h1, Option.bind_some]
            dsimp only
            rw [Bool.not_true, cond_false, idec _ (by omega) (by omega), Option.bind_some, cond_false, scat_ok (by simp only [List.length_cons, List.length_nil]; omega), Option.bind_some, cond_false,
              scat_ok (by simp only [List.length_append, List.length_cons, List.length_nil]; omega), Option.bind_some, cond_false, Option.bind_some, cond_false]
            by_cases h7 : p.take m = Lib.itoa (chk n (p.drop (m + 1)))
            · rw [decide_eq_true h7] at hr
              simp only at hr
              have e8 : Lib.itoa (chk n (p.drop (m + 1))) ++ [32] ++ p.drop (m + 1) = p := by rw [← h7]; exact hps.symm
              rw [e8, beq_self_eq_true, Bool.not_true, cond_false, app_small (by simp only [List.length_singleton]; omega), Option.bind_some, w2, hr]
            · rw [decide_eq_false h7] at hr
              simp only at hr
              have e8 : (Lib.itoa (chk n (p.drop (m + 1))) ++ [32] ++ p.drop (m + 1) == p) = false := by
                simp only [beq_eq_false_iff_ne, ne_eq]
                intro h9
                rw [hps] at h9
                have h10 : Lib.itoa (chk n (p.drop (m + 1))) ++ ([32] ++ p.drop (m + 1)) = p.take m ++ ([32] ++ p.drop (m + 1)) := by
                  rw [← List.append_assoc, ← List.append_assoc, ← hps]
                  rw [← hps] at h9
                  exact h9
                exact h7 (List.append_cancel_right h10).symm
              rw [e8, Bool.not_false, cond_true, hr]
          by_cases h7 : p.take m = Lib.itoa (chk n (p.drop (m + 1)))
          · rw [loopM_next (hround _ (by rw [decide_eq_true h7])), ih (l.length - (at' + e + 1)) (by omega) (at' + e + 1) _ _ rfl (by omega) (by simp only [List.length_append, List.length_singleton]; omega) c1 c2, rv_good hm h7]
            simp only [List.append_assoc, List.singleton_append]
            congr 3
            omega
          · rw [loopM_end (hround _ (by rw [decide_eq_false h7])), rv_bad hm h7]
            simp
    have := key l.length 0 [] 0 (by omega) (Nat.zero_le _) (by simp) (by omega) (by omega)
    rw [List.drop_zero] at this
    rw [show ((([] : List (List UInt8)), 0, 0) : List (List UInt8) × Int × Int) = ([], ((0 : Nat) : Int), 0) from rfl, this, Option.bind_some]
    simp
  · have e : icmp .gtr (l.length : Int) 16000 = true := by rw [icmp_gtr]; exact decide_eq_true (by omega)
    rw [e, cond_true, if_neg h]

/-- The law of RecoverJournal. -/
theorem law_RecoverJournal (l : List UInt8) : M.laws_FnExactRecoverJournal l = some true := by
  unfold M.laws_FnExactRecoverJournal
  by_cases hl : l.length ≤ 1048576
  · have e : icmp .gtr (l.length : Int) 1048576 = false := by rw [icmp_gtr]; exact decide_eq_false (by omega)
    have hlen : (rres l).1.length ≤ 1048577 := by
      unfold rres
      split
      · have h1 := (rv_len (splitB 10 l).dropLast 0).1
        have h2 := splitB_le 10 l
        rw [List.length_dropLast] at h1
        simp only
        omega
      · simp
    rw [e, cond_false, sRecoverJournal l hl, iRecoverJournal l hl]
    have hneq : icmp .neq (rres l).2.1 (rres l).2.1 = false := by simp [icmp_neq]
    have m1 : M.laws_markStringS (rres l).1 1 = some (((1 + (rres l).1.length : Nat) : Int), mks 1 (rres l).1.length) := markStrings (rres l).1 1 (by omega) (by omega)
    have m2 : M.laws_heldStringS (mks 1 (rres l).1.length) 1 = some ((1 + (rres l).1.length : Nat) : Int) := heldStrings (rres l).1.length 1 (by omega) (by omega)
    have h0 : icmp .lss ((1 + (rres l).1.length : Nat) : Int) 0 = false := by rw [icmp_lss]; exact decide_eq_false (by omega)
    have h1 : icmp .neq ((1 + (rres l).1.length : Nat) : Int) ((1 + (rres l).1.length : Nat) : Int) = false := by simp [icmp_neq]
    simp only [Option.bind_some, eqStrings_self (rres l).1 (by omega), cond_true, hneq, cond_false, beq_self_eq_true, Bool.not_true, m1, m2, h0, h1]
  · have e : icmp .gtr (l.length : Int) 1048576 = true := by rw [icmp_gtr]; exact decide_eq_true (by omega)
    rw [e, cond_true]

end Go.Proofs
