import Derived.Test.YtdcienojgkioiaaGreatDoorL5
/- Vectors, rods out of texts. No program in sight. -/
namespace Go.Proofs
open Go Go.Fl Go.RowKit Go.Rg
attribute [local irreducible] fint fcmp fop fneg widen narrow fsqrt cn

theorem mapM_all {β : Type} (f : List UInt8 → Option β) (z : β) (ps : List (List UInt8)) : ps.mapM f = if ps.all (fun p => (f p).isSome) = true then some (ps.map fun p => (f p).getD z) else none := by
  induction ps with
  | nil => simp
  | cons p ps ih =>
    cases hp : f p with
    | none => rw [mapM_cons_none hp, List.all_cons, hp]; rfl
    | some x =>
      rw [List.all_cons, hp, List.map_cons, hp]
      simp only [Option.isSome_some, Bool.true_and, Option.getD_some]
      cases h : ps.mapM f with
      | none =>
        rw [mapM_cons_none2 hp h]
        rw [ih] at h
        split at h
        · cases h
        · rename_i hn; rw [if_neg hn]
      | some xs =>
        rw [mapM_cons_some hp h]
        rw [ih] at h
        split at h
        · rename_i hy
          cases h
          rw [if_pos hy]
        · cases h
/-- The pieces of a text between strokes; of the word for none, none. -/
def pcs (l : List UInt8) : List (List UInt8) := if l = [110, 111, 110, 101] then [] else splitB 47 l
theorem pcs_len (l : List UInt8) : (pcs l).length ≤ l.length + 1 := by
  unfold pcs
  split
  · simp
  · exact splitB_le 47 l
theorem pcs_mem {l p : List UInt8} (h : p ∈ pcs l) : p.length ≤ l.length := by
  unfold pcs at h
  split at h
  · cases h
  · exact splitB_mem h
def vf (p : List UInt8) : Option SVector := if (vread p).2 = true then some (vread p).1 else none
theorem vread_vf (p : List UInt8) : vread p = ((vf p).getD ⟨0, 0, 0⟩, (vf p).isSome) := by
  unfold vf vread
  by_cases h : (rdnums p).2 = true ∧ (rdnums p).1.length = 3
  · rw [if_pos h]; rfl
  · rw [if_neg h]; rfl
theorem cut47 (l : List UInt8) (hl : l.length ≤ 1048576) : M.spec_l01Cut l 47 = some (splitB 47 l) := cut_eq 47 l hl
theorem cut59 (l : List UInt8) (hl : l.length ≤ 1048576) : M.spec_l01Cut l 59 = some (splitB 59 l) := cut_eq 59 l hl
theorem cut58s (l : List UInt8) (hl : l.length ≤ 1048576) : M.spec_l01Cut l 58 = some (splitB 58 l) := cut_eq 58 l hl
theorem sreadV (l : List UInt8) (hl : l.length ≤ 1048576) : M.spec_l08ReadVectors l = some (match (pcs l).mapM vf with | some xs => (xs, true) | none => ([], false)) := by
  unfold M.spec_l08ReadVectors pcs
  rw [none_eq]
  by_cases hn : l = [110, 111, 110, 101]
  · rw [decide_eq_true hn, cond_true, if_pos hn]; rfl
  · rw [decide_eq_false hn, cond_false, if_neg hn, cut47 l hl, Option.bind_some]
    have hb := splitB_le 47 l
    have hm : ∀ p ∈ splitB 47 l, p.length ≤ 1048576 := fun p hp => Nat.le_trans (splitB_mem hp) hl
    generalize splitB 47 l = ps at *
    rw [loopS vf ps _ ?_ ?_, Option.bind_some]
    · cases ps.mapM vf with
      | none => rfl
      | some xs => rfl
    · intro k out p hp hk
      have hlt := (List.getElem?_eq_some_iff.1 hp).1
      dsimp only
      rw [lss_lt hlt, cond_true, idx_nat, hp, Option.bind_some, svec p (hm p (List.mem_of_getElem? hp)), Option.bind_some, vread_vf p]
      cases vf p with
      | none => rfl
      | some x =>
        simp only [Option.isSome_some, Option.getD_some, Bool.not_true, cond_false]
        rw [app_small (by simp only [List.length_singleton]; omega), Option.bind_some, succ_wrap (by omega)]
    · intro out
      dsimp only
      rw [lss_self, cond_false]
theorem ipart (l : List UInt8) (hl : l.length ≤ 1048576) {n : Int} (hn0 : 0 ≤ n) : M.impl_partedBy l n = some (pcs l, decide (((pcs l).length : Int) ≤ n)) := by
  unfold M.impl_partedBy pcs
  rw [none_eq]
  by_cases hn : l = [110, 111, 110, 101]
  · rw [decide_eq_true hn, cond_true, if_pos hn, decide_eq_true (show (([] : List (List UInt8)).length : Int) ≤ n from hn0)]
  · rw [decide_eq_false hn, cond_false, if_neg hn, split_eq47 l hl, Option.bind_some, icmp_leq]
/-- Pieces that are all read, and whether all could be. -/
theorem foldF {β : Type} (f : List UInt8 → Option β) (z : β) {E : Type} (fin : Bool × List β → E) : ∀ (l : List (List UInt8)) (a : Bool × List β), foldE (fun (a : Bool × List β) (p : List UInt8) => (.inl (a.1 && (f p).isSome, a.2 ++ [(f p).getD z]) : (Bool × List β) ⊕ E)) fin a l = fin (a.1 && l.all (fun p => (f p).isSome), a.2 ++ l.map fun p => (f p).getD z) := by
  intro l
  induction l with
  | nil => intro a; rw [foldE_nil]; simp
  | cons p l ih => intro a; rw [foldE_inl rfl, ih]; simp [Bool.and_assoc]
theorem ireadV (l : List UInt8) (hl : l.length ≤ 1048576) : M.impl_readVectors l = some ((pcs l).map (fun p => (vf p).getD ⟨0, 0, 0⟩), decide (((pcs l).length : Int) ≤ 24) && (pcs l).all fun p => (vf p).isSome) := by
  unfold M.impl_readVectors
  rw [ipart l hl (by omega), Option.bind_some]
  have hb := pcs_len l
  have hm : ∀ p ∈ pcs l, p.length ≤ 1048576 := fun p hp => Nat.le_trans (pcs_mem hp) hl
  dsimp only
  generalize decide (((pcs l).length : Int) ≤ 24) = b0
  generalize pcs l = ps at *
  rw [loopM_list (s0 := ((b0, [], 0) : Bool × List SVector × Int)) ps (fun (a : Bool × List SVector) k => (a.1, a.2, (k : Int))) (fun a p => .inl (a.1 && (vf p).isSome, a.2 ++ [(vf p).getD ⟨0, 0, 0⟩])) (fun a => a) (fun k a => a.2.length = k) ?_ ?_ (b0, []) rfl rfl, foldF vf ⟨0, 0, 0⟩, Option.bind_some]
  · simp only [List.nil_append]
  · rintro k ⟨b, out⟩ p hp hk
    simp only at hk
    have hlt := (List.getElem?_eq_some_iff.1 hp).1
    dsimp only
    rw [lss_lt hlt, cond_true, idx_nat, hp, Option.bind_some, ivec p (hm p (List.mem_of_getElem? hp)), Option.bind_some, vread_vf p]
    simp only [letv]
    rw [app_small (by simp only [List.length_singleton]; omega), Option.bind_some, succ_wrap (by omega)]
    refine ⟨?_, by simp only [List.length_append, List.length_singleton, hk]⟩
    cases b <;> rfl
  · rintro ⟨b, out⟩ _
    dsimp only
    rw [lss_self, cond_false]

/-- A letter that is no digit stands in no number. -/
theorem splitA_has {c b : UInt8} (hne : b ≠ c) : ∀ (l cur : List UInt8), b ∈ l ∨ b ∈ cur → ∃ p ∈ splitA c cur l, b ∈ p := by
  intro l
  induction l with
  | nil =>
    intro cur h
    rcases h with h | h
    · cases h
    · exact ⟨cur, by simp [splitA], h⟩
  | cons x l ih =>
    intro cur h
    unfold splitA
    by_cases hx : x = c
    · rw [if_pos hx]
      rcases h with h | h
      · rcases List.mem_cons.1 h with rfl | h
        · exact absurd hx hne
        · obtain ⟨p, hp, hb⟩ := ih [] (.inl h)
          exact ⟨p, by simp [hp], hb⟩
      · exact ⟨cur, by simp, h⟩
    · rw [if_neg hx]
      refine ih _ ?_
      rcases h with h | h
      · rcases List.mem_cons.1 h with rfl | h
        · exact .inr (by simp)
        · exact .inl h
      · exact .inr (by simp [h])
theorem hexn_no {b : UInt8} (hb : hexd b < 0) : ∀ (l : List UInt8) (n : Int), b ∈ l → hexn n l = none := by
  intro l
  induction l with
  | nil => intro n h; cases h
  | cons x l ih =>
    intro n h
    unfold hexn
    split
    · rfl
    · rename_i hx
      rcases List.mem_cons.1 h with rfl | h
      · exact absurd hb hx
      · exact ih _ h
theorem rdn_no {b : UInt8} (hb : hexd b < 0) {p : List UInt8} (h : b ∈ p) : rdn p = none := by
  unfold rdn
  rw [hexn_no hb p 0 h]
  split <;> rfl
theorem mapM_no {α β : Type} {f : α → Option β} : ∀ (l : List α) {x : α}, x ∈ l → f x = none → l.mapM f = none := by
  intro l
  induction l with
  | nil => intro x h; cases h
  | cons y l ih =>
    intro x h hx
    rcases List.mem_cons.1 h with rfl | h
    · exact mapM_cons_none hx
    · cases hy : f y with
      | none => exact mapM_cons_none hy
      | some z => exact mapM_cons_none2 hy (ih h hx)
theorem rdnums_no58 {l : List UInt8} (h : (58 : UInt8) ∈ l) : (rdnums l).2 = false := by
  unfold rdnums
  rw [if_neg (by rintro rfl; revert h; decide)]
  obtain ⟨p, hp, hb⟩ := splitA_has (c := 44) (b := 58) (by decide) l [] (.inl h)
  rw [mapM_no (splitB 44 l) hp (rdn_no (by decide) hb)]

def rf (p : List UInt8) : Option SRod := if Lib.indexByte p 58 = -1 then none else
  if (rdlist (p.take (Lib.indexByte p 58).toNat)).2 = true ∧ (rdnums (p.drop ((Lib.indexByte p 58).toNat + 1))).2 = true ∧ (rdlist (p.take (Lib.indexByte p 58).toNat)).1.length = 2 ∧ (rdnums (p.drop ((Lib.indexByte p 58).toNat + 1))).1.length = 1 then
    some ⟨(rdlist (p.take (Lib.indexByte p 58).toNat)).1.getD 0 0, (rdlist (p.take (Lib.indexByte p 58).toNat)).1.getD 1 0, (rdnums (p.drop ((Lib.indexByte p 58).toNat + 1))).1.getD 0 0⟩ else none
theorem rodEnd (a : List Int × Bool) (b : List Nat × Bool) (F : Bool) : (letv (
      bif F then
        bif a.2 then
          bif b.2 then
            (icmp .neq ((a.1).length : Int) 2)
          else
            true
        else
          true
      else
        true) fun m20 =>
  bif m20 then
    some ((⟨0, 0, 0⟩ : SRod), false)
  else
    (idx a.1 0).bind fun m36 =>
    (idx a.1 1).bind fun m37 =>
    (idx b.1 0).bind fun m38 =>
    some ((⟨m36, m37, m38⟩ : SRod), true)) = if F = true ∧ a.2 = true ∧ b.2 = true ∧ a.1.length = 2 then (idx b.1 0).bind fun m38 => some ((⟨a.1.getD 0 0, a.1.getD 1 0, m38⟩ : SRod), true) else some ((⟨0, 0, 0⟩ : SRod), false) := by
  simp only [letv, icmp_neq]
  cases F with
  | false => rfl
  | true =>
    obtain ⟨xs, fa⟩ := a
    obtain ⟨ys, fb⟩ := b
    cases fa with
    | false => simp
    | true =>
      cases fb with
      | false => simp
      | true =>
        simp only [cond_true, true_and]
        by_cases h : xs.length = 2
        · have e : ((xs.length : Int) != 2) = false := by rw [h]; rfl
          obtain ⟨x, y, rfl⟩ : ∃ x y, xs = [x, y] := by
            match xs, h with
            | [x, y], _ => exact ⟨x, y, rfl⟩
          rw [e, cond_false, if_pos h]
          rfl
        · have e : ((xs.length : Int) != 2) = true := by simp only [bne_iff_ne, ne_eq]; omega
          rw [e, cond_true, if_neg h]
theorem iexact1 (l : List UInt8) (hl : l.length ≤ 1048576) : M.impl_exactly l 1 = some (exn l 1) := iexactly l 1 (by omega) hl
theorem irod (p : List UInt8) (hl : p.length ≤ 1048576) : M.impl_readRod p = some ((rf p).getD ⟨0, 0, 0⟩, (rf p).isSome) := by
  unfold M.impl_readRod rf
  rw [cut58 p hl, Option.bind_some]
  by_cases h : Lib.indexByte p 58 = -1
  · rw [if_pos h, if_pos h]
    dsimp only
    rw [ilst p hl, Option.bind_some, iexact1 [] (by simp), Option.bind_some, rodEnd, if_neg (by simp)]
    rfl
  · have hge := Lib.indexByte_ge p 58
    obtain ⟨m, hm⟩ : ∃ m : Nat, Lib.indexByte p 58 = m := ⟨(Lib.indexByte p 58).toNat, by omega⟩
    rw [if_neg h, if_neg h, hm]
    simp only [Int.toNat_natCast]
    have l1 : (p.take m).length ≤ 1048576 := Nat.le_trans (by rw [List.length_take]; omega) hl
    have l2 : (p.drop (m + 1)).length ≤ 1048576 := Nat.le_trans (by rw [List.length_drop]; omega) hl
    rw [ilst _ l1, Option.bind_some, iexact1 _ l2, Option.bind_some, rodEnd]
    generalize rdlist (p.take m) = a
    unfold exn
    generalize rdnums (p.drop (m + 1)) = b
    by_cases hb : b.2 = true ∧ b.1.length = 1
    · rw [if_pos hb]
      obtain ⟨y, hy⟩ : ∃ y, b.1 = [y] := by
        match b.1, hb.2 with
        | [y], _ => exact ⟨y, rfl⟩
      by_cases ha : a.2 = true ∧ a.1.length = 2
      · rw [if_pos ⟨rfl, ha.1, rfl, ha.2⟩, if_pos ⟨ha.1, hb.1, ha.2, hb.2⟩, hy]
        rfl
      · rw [if_neg (fun h => ha ⟨h.2.1, h.2.2.2⟩), if_neg (fun h => ha ⟨h.1, h.2.2.1⟩)]
        rfl
    · rw [if_neg hb, if_neg (fun h => by cases h.2.2.1), if_neg (fun h => hb ⟨h.2.1, h.2.2.2⟩)]
      rfl
theorem splitB_two {l : List UInt8} {c : UInt8} {m : Nat} (hm : Lib.indexByte l c = m) : (splitB c l).length = 2 ↔ c ∉ l.drop (m + 1) := by
  rw [splitB_hit hm, List.length_cons, splitB_len]
  constructor
  · intro h hc
    have := List.count_pos_iff.2 hc
    omega
  · intro h
    have := List.count_eq_zero.2 h
    omega
theorem srodStep (p : List UInt8) (hl : p.length ≤ 1048576) {X : Type} (bad : Option X) (good : SRod → Option X) : ((M.spec_l01Cut p 58).bind fun m15 =>
          bif (icmp .neq ((m15).length : Int) 2) then
            bad
          else
            (idx m15 0).bind fun m23 =>
            (M.spec_l01Numbers m23).bind fun m27 =>
            (idx m15 1).bind fun m37 =>
            (M.spec_l01NRead m37).bind fun m43 =>
            letv (
                bif m27.2 then
                  bif m43.2 then
                    bif (icmp .neq ((m27.1).length : Int) 2) then
                      true
                    else
                      (icmp .neq ((m43.1).length : Int) 1)
                  else
                    true
                else
                  true) fun m54 =>
            bif m54 then
              bad
            else
              (idx m27.1 0).bind fun m68 =>
              (idx m27.1 1).bind fun m69 =>
              (idx m43.1 0).bind fun m70 =>
              good ⟨m68, m69, m70⟩) = match rf p with | some r => good r | none => bad := by
  rw [cut58s p hl, Option.bind_some]
  by_cases h : Lib.indexByte p 58 = -1
  · rw [splitB_miss h]
    have e : rf p = none := by unfold rf; rw [if_pos h]
    rw [e]; rfl
  · have hge := Lib.indexByte_ge p 58
    obtain ⟨m, hm⟩ : ∃ m : Nat, Lib.indexByte p 58 = m := ⟨(Lib.indexByte p 58).toNat, by omega⟩
    have l1 : (p.take m).length ≤ 1048576 := Nat.le_trans (by rw [List.length_take]; omega) hl
    have l2 : (p.drop (m + 1)).length ≤ 1048576 := Nat.le_trans (by rw [List.length_drop]; omega) hl
    have er : rf p = if (rdlist (p.take m)).2 = true ∧ (rdnums (p.drop (m + 1))).2 = true ∧ (rdlist (p.take m)).1.length = 2 ∧ (rdnums (p.drop (m + 1))).1.length = 1 then some ⟨(rdlist (p.take m)).1.getD 0 0, (rdlist (p.take m)).1.getD 1 0, (rdnums (p.drop (m + 1))).1.getD 0 0⟩ else none := by
      unfold rf
      rw [if_neg h, hm]
      simp only [Int.toNat_natCast]
    by_cases hc : (58 : UInt8) ∈ p.drop (m + 1)
    · have h2 : ¬ (splitB 58 p).length = 2 := fun h2 => (splitB_two hm).1 h2 hc
      have e : icmp .neq ((splitB 58 p).length : Int) 2 = true := by simp only [icmp_neq, bne_iff_ne, ne_eq]; omega
      rw [e, cond_true, er, if_neg (fun h => by rw [rdnums_no58 hc] at h; cases h.2.1)]
    · have h2 := (splitB_two hm).2 hc
      have e : icmp .neq ((splitB 58 p).length : Int) 2 = false := by simp only [icmp_neq, h2]; rfl
      have e3 : splitB 58 p = [p.take m, p.drop (m + 1)] := by
        have hmiss : Lib.indexByte (p.drop (m + 1)) 58 = -1 := by
          have hge2 := Lib.indexByte_ge (p.drop (m + 1)) 58
          by_cases hh : Lib.indexByte (p.drop (m + 1)) 58 = -1
          · exact hh
          · obtain ⟨j, hj⟩ : ∃ j : Nat, Lib.indexByte (p.drop (m + 1)) 58 = j := ⟨(Lib.indexByte (p.drop (m + 1)) 58).toNat, by omega⟩
            have := (count_hit hj).1
            have h0 := List.count_eq_zero.2 hc
            omega
        rw [splitB_hit hm, splitB_miss hmiss]
      rw [e, cond_false, e3]
      have i0 : idx [p.take m, p.drop (m + 1)] 0 = some (p.take m) := rfl
      have i1 : idx [p.take m, p.drop (m + 1)] 1 = some (p.drop (m + 1)) := rfl
      rw [i0, Option.bind_some, slst _ l1, Option.bind_some, i1, Option.bind_some, snums _ l2, Option.bind_some, er]
      generalize rdlist (p.take m) = a
      generalize rdnums (p.drop (m + 1)) = b
      obtain ⟨xs, fa⟩ := a
      obtain ⟨ys, fb⟩ := b
      simp only [letv, icmp_neq]
      cases fa with
      | false => simp
      | true =>
        cases fb with
        | false => simp
        | true =>
          simp only [cond_true, true_and]
          by_cases hx : xs.length = 2
          · have e4 : ((xs.length : Int) != 2) = false := by rw [hx]; rfl
            obtain ⟨x, y, rfl⟩ : ∃ x y, xs = [x, y] := by
              match xs, hx with
              | [x, y], _ => exact ⟨x, y, rfl⟩
            rw [e4, cond_false]
            by_cases hy : ys.length = 1
            · obtain ⟨z, rfl⟩ : ∃ z, ys = [z] := by
                match ys, hy with
                | [z], _ => exact ⟨z, rfl⟩
              rw [if_pos ⟨rfl, rfl⟩]
              rfl
            · have e5 : ((ys.length : Int) != 1) = true := by simp only [bne_iff_ne, ne_eq]; omega
              rw [e5, cond_true, if_neg (fun h => hy h.2)]
          · have e4 : ((xs.length : Int) != 2) = true := by simp only [bne_iff_ne, ne_eq]; omega
            rw [e4, cond_true, cond_true, if_neg (fun h => hx h.1)]
theorem sreadR (l : List UInt8) (hl : l.length ≤ 1048576) : M.spec_l08ReadRods l = some (match (pcs l).mapM rf with | some xs => (xs, true) | none => ([], false)) := by
  unfold M.spec_l08ReadRods pcs
  rw [none_eq]
  by_cases hn : l = [110, 111, 110, 101]
  · rw [decide_eq_true hn, cond_true, if_pos hn]; rfl
  · rw [decide_eq_false hn, cond_false, if_neg hn, cut47 l hl, Option.bind_some]
    have hb := splitB_le 47 l
    have hm : ∀ p ∈ splitB 47 l, p.length ≤ 1048576 := fun p hp => Nat.le_trans (splitB_mem hp) hl
    generalize splitB 47 l = ps at *
    rw [loopS rf ps _ ?_ ?_, Option.bind_some]
    · cases ps.mapM rf with
      | none => rfl
      | some xs => rfl
    · intro k out p hp hk
      have hlt := (List.getElem?_eq_some_iff.1 hp).1
      dsimp only
      rw [lss_lt hlt, cond_true, idx_nat, hp, Option.bind_some]
      refine (srodStep p (hm p (List.mem_of_getElem? hp)) (some (.inr (.inr ([], false))) : Option ((List SRod × Int) ⊕ (List SRod ⊕ (List SRod × Bool)))) (fun r => (app 24 out [r]).bind fun m71 => some (.inl (m71, IntKind.i64.wrap ((k : Int) + 1))))).trans ?_
      cases rf p with
      | none => rfl
      | some x =>
        dsimp only
        rw [app_small (by simp only [List.length_singleton]; omega), Option.bind_some, succ_wrap (by omega)]
    · intro out
      dsimp only
      rw [lss_self, cond_false]
end Go.Proofs
