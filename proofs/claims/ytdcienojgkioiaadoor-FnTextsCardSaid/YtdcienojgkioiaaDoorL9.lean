import Derived.Test.YtdcienojgkioiaaDoorL8
import Derived.Test.YtdcienojgkioiaaDoorFb
import Derived.Lib.ParseIntBCases
/- Texts of numbers, read back. The law of FnTexts. No program in sight. -/
namespace Go.Proofs
open Go Go.Fl Go.RowKit Go.Rg
attribute [local irreducible] fint fcmp fop fneg widen narrow fsqrt cn

/-- Pieces without a letter, with that letter between, cut at it. -/
theorem splitA_free {c : UInt8} : ∀ (p cur rest : List UInt8), c ∉ p → splitA c cur (p ++ rest) = splitA c (cur ++ p) rest := by
  intro p
  induction p with
  | nil => intro cur rest _; simp
  | cons b p ih =>
    intro cur rest h
    have hb : b ≠ c := fun e => h (by simp [e])
    rw [List.cons_append, splitA, if_neg hb, ih _ _ (fun hc => h (by simp [hc]))]
    simp
theorem splitB_join {c : UInt8} (p0 : List UInt8) (r : List (List UInt8)) (h : ∀ p ∈ p0 :: r, c ∉ p) : splitB c (Lib.join (p0 :: r) [c]) = p0 :: r := by
  unfold splitB
  rw [Lib.join_cons]
  induction r generalizing p0 with
  | nil =>
    have := splitA_free p0 [] [] (h p0 (by simp))
    rw [List.nil_append] at this
    exact this
  | cons p1 r ih =>
    have e : Lib.joinTail [c] (p1 :: r) = [c] ++ (p1 ++ Lib.joinTail [c] r) := by simp [Lib.joinTail]
    rw [e, splitA_free p0 [] _ (h p0 (by simp)), List.nil_append, List.singleton_append, splitA, if_pos rfl, ih p1 fun p hp => h p (by simp [List.mem_cons.1 hp])]

theorem hdg_val {n : Int} (h0 : 0 ≤ n) (h1 : n < 4294967296) (s : Nat) : iand .i64 (n.fdiv (2 ^ s)) 15 = (n / 2 ^ s) % 16 := by
  have hp : (0 : Int) < 2 ^ s := Int.pow_pos (by omega)
  rw [Int.fdiv_eq_ediv_of_nonneg _ (by omega)]
  have hq0 : 0 ≤ n / 2 ^ s := Int.ediv_nonneg h0 (by omega)
  have hq1 : n / 2 ^ s ≤ n := Int.ediv_le_self _ h0
  generalize n / 2 ^ s = q at *
  obtain ⟨k, rfl⟩ : ∃ k : Nat, q = k := ⟨q.toNat, by omega⟩
  unfold iand
  have e1 : (BitVec.ofInt IntKind.i64.bits (k : Int)).toNat = k := by
    rw [BitVec.toNat_ofInt]
    have : IntKind.i64.bits = 64 := rfl
    rw [this]
    omega
  have e2 : (BitVec.ofInt IntKind.i64.bits 15).toNat = 15 := by decide
  rw [BitVec.toNat_and, e1, e2, show (15 : Nat) = 2 ^ 4 - 1 from rfl, Nat.and_two_pow_sub_one_eq_mod]
  rw [wrap_in (by omega)]
  omega
theorem hdg_hex {n : Int} (h0 : 0 ≤ n) (h1 : n < 4294967296) (s : Nat) : hexd (hdg n s) = (n / 2 ^ s) % 16 ∧ hdg n s ≠ 44 ∧ hdg n s ≠ 110 := by
  unfold hdg
  rw [hdg_val h0 h1]
  have hm : 0 ≤ (n / 2 ^ s) % 16 ∧ (n / 2 ^ s) % 16 < 16 := ⟨Int.emod_nonneg _ (by omega), Int.emod_lt_of_pos _ (by omega)⟩
  generalize (n / 2 ^ s) % 16 = m at *
  obtain ⟨k, rfl⟩ : ∃ k : Nat, m = k := ⟨m.toNat, by omega⟩
  rw [Int.toNat_natCast]
  have key : ∀ i : Fin 16, hexd (([48, 49, 50, 51, 52, 53, 54, 55, 56, 57, 97, 98, 99, 100, 101, 102] : List UInt8).getD i.val 0) = (i.val : Int) ∧ ([48, 49, 50, 51, 52, 53, 54, 55, 56, 57, 97, 98, 99, 100, 101, 102] : List UInt8).getD i.val 0 ≠ 44 ∧ ([48, 49, 50, 51, 52, 53, 54, 55, 56, 57, 97, 98, 99, 100, 101, 102] : List UInt8).getD i.val 0 ≠ 110 := by decide +kernel
  exact key ⟨k, by omega⟩

theorem bits_range {x : Nat} (h : x < 4294967296) : 0 ≤ bitsOf x ∧ bitsOf x < 4294967296 := by
  unfold bitsOf
  cases fcmp .neq .f32 x x with
  | true => rw [cond_true]; omega
  | false => rw [cond_false]; omega
theorem can_lt {x : Nat} (h : Go.Fl.Can .f32 x) : x < 4294967296 := by
  have := h.2
  rwa [wd32] at this
theorem cn_bits {x : Nat} (h : Go.Fl.Can .f32 x) : cn .f32 (bitsOf x).toNat = x := by
  unfold bitsOf
  rw [ne_self]
  cases hn : isNaN .f32 x with
  | true =>
    have e : x = qnan .f32 := by rw [← h.1, cn_nan hn]
    simp only [cond_true]
    rw [e]
    exact cn_nan (isNaN_qnan .f32)
  | false =>
    simp only [cond_false, Int.toNat_natCast]
    exact h.1
theorem hexT_free (x : Nat) (h : x < 4294967296) : (44 : UInt8) ∉ hexT x ∧ (110 : UInt8) ∉ hexT x := by
  obtain ⟨b0, b1⟩ := bits_range h
  have key : ∀ s, hdg (M.spec_l01Bits x) s ≠ 44 ∧ hdg (M.spec_l01Bits x) s ≠ 110 := by
    intro s
    rw [sbits x h]
    exact (hdg_hex b0 b1 s).2
  unfold hexT
  constructor
  · intro hm
    simp only [List.mem_cons, List.not_mem_nil, or_false] at hm
    rcases hm with e | e | e | e | e | e | e | e <;> exact (key _).1 e.symm
  · intro hm
    simp only [List.mem_cons, List.not_mem_nil, or_false] at hm
    rcases hm with e | e | e | e | e | e | e | e <;> exact (key _).2 e.symm
theorem hexn_hexT {x : Nat} (h : x < 4294967296) : hexn 0 (hexT x) = some (bitsOf x) := by
  obtain ⟨b0, b1⟩ := bits_range h
  unfold hexT
  rw [sbits x h]
  generalize bitsOf x = n at *
  have d := fun s => (hdg_hex b0 b1 s).1
  have pos : ∀ s, ¬ hexd (hdg n s) < 0 := fun s => by
    rw [d s]
    have := Int.emod_nonneg (n / 2 ^ s) (show (16 : Int) ≠ 0 by omega)
    omega
  simp only [hexn, if_neg (pos _)]
  rw [d 28, d 24, d 20, d 16, d 12, d 8, d 4, d 0]
  simp only [Int.reducePow]
  congr 1
  omega
theorem rdn_hexT {x : Nat} (h : Go.Fl.Can .f32 x) : rdn (hexT x) = some x := by
  unfold rdn
  rw [if_pos (hexT_len x), hexn_hexT (can_lt h), Option.bind_some, cn_bits h, if_pos rfl]

theorem join_ne_none (p0 : List UInt8) (r : List (List UInt8)) (h : p0 ≠ []) (hn : (110 : UInt8) ∉ p0) : Lib.join (p0 :: r) [44] ≠ [110, 111, 110, 101] := by
  rw [Lib.join_cons]
  cases p0 with
  | nil => exact absurd rfl h
  | cons b p =>
    intro e
    rw [List.cons_append] at e
    exact hn (by rw [(List.cons.inj e).1]; simp)
theorem mapM_map {α β : Type} (f : β → Option α) (g : α → β) : ∀ (xs : List α), (∀ x ∈ xs, f (g x) = some x) → (xs.map g).mapM f = some xs := by
  intro xs
  induction xs with
  | nil => intro _; rfl
  | cons x xs ih =>
    intro h
    rw [List.map_cons, List.mapM_cons, h x (by simp), ih fun y hy => h y (by simp [hy])]
    rfl
/-- Numbers are read from their text. -/
theorem rdnums_ntext (xs : List Nat) (hc : ∀ x ∈ xs, Go.Fl.Can .f32 x) (hl : xs.length ≤ 256) : rdnums (ntext xs) = (xs, true) := by
  unfold rdnums ntext jtext
  cases xs with
  | nil => rfl
  | cons x0 r =>
    have free : ∀ p ∈ (x0 :: r).map hexT, (44 : UInt8) ∉ p := by
      intro p hp
      obtain ⟨y, hy, rfl⟩ := List.mem_map.1 hp
      exact (hexT_free y (can_lt (hc y hy))).1
    have hne : Lib.join ((x0 :: r).map hexT) [44] ≠ [110, 111, 110, 101] := join_ne_none (hexT x0) (r.map hexT) (by unfold hexT; simp) (hexT_free x0 (can_lt (hc x0 (by simp)))).2
    have hs : splitB 44 (Lib.join ((x0 :: r).map hexT) [44]) = (x0 :: r).map hexT := splitB_join (hexT x0) (r.map hexT) free
    have e0 : (if (x0 :: r).map hexT = [] then ([110, 111, 110, 101] : List UInt8) else Lib.join ((x0 :: r).map hexT) [44]) = Lib.join ((x0 :: r).map hexT) [44] := if_neg (by simp)
    rw [e0, if_neg hne, hs, mapM_map rdn hexT (x0 :: r) fun x hx => rdn_hexT (hc x hx)]
    simp only [List.length_map]
    rw [if_pos hl]
theorem ntext_len_eq (xs : List Nat) (h : xs ≠ []) : (ntext xs).length = 9 * xs.length - 1 := by
  unfold ntext jtext
  cases xs with
  | nil => exact absurd rfl h
  | cons x0 r =>
    rw [if_neg (by simp), List.map_cons, Lib.join_cons, List.length_append, hexT_len]
    have key : ∀ l : List Nat, (Lib.joinTail [44] (l.map hexT)).length = 9 * l.length := by
      intro l
      induction l with
      | nil => rfl
      | cons y l ih =>
        have e : Lib.joinTail [44] ((y :: l).map hexT) = [44] ++ hexT y ++ Lib.joinTail [44] (l.map hexT) := by simp [Lib.joinTail]
        rw [e, List.length_append, List.length_append, hexT_len, ih]
        simp only [List.length_cons, List.length_nil]
        omega
    rw [key, List.length_cons]
    omega

/-- A number in decimals, read back. -/
theorem parseM_app (m : Nat) : ∀ (a : List UInt8) (acc v : Nat) (b : List UInt8), Lib.parseUintM m acc a = .ok v → Lib.parseUintM m acc (a ++ b) = Lib.parseUintM m v b := by
  intro a
  induction a with
  | nil => intro acc v b h; cases h; rfl
  | cons c a ih =>
    intro acc v b h
    rw [List.cons_append, Lib.parseUintM]
    rw [Lib.parseUintM] at h
    split at h
    · rename_i h1
      rw [if_pos h1]
      split at h
      · cases h
      · rename_i h2
        rw [if_neg h2]
        split at h
        · cases h
        · rename_i h3
          rw [if_neg h3]
          exact ih _ _ _ h
    · cases h
theorem digByte {d : Nat} (h : d < 10) : (UInt8.ofNat (48 + d)).toNat = 48 + d := by
  rw [UInt8.toNat_ofNat']
  omega
theorem parse_dig (m : Nat) : ∀ (u : Nat), u ≤ 10000000000000000 → 10000000000000000 ≤ m → Lib.parseUintM m 0 (Lib.decDigits u) = .ok u := by
  intro u
  induction u using Nat.strongRecOn with
  | ind u ih =>
    intro hu hm
    rw [Lib.decDigits]
    split
    · rename_i h
      unfold Lib.parseUintM
      rw [digByte h, if_pos (by omega), if_neg (by omega), if_neg (by omega)]
      unfold Lib.parseUintM
      congr 1
      omega
    · rename_i h
      rw [parseM_app m _ _ _ _ (ih (u / 10) (by omega) (by omega) hm)]
      unfold Lib.parseUintM
      rw [digByte (by omega), if_pos (by omega), if_neg (by omega), if_neg (by omega)]
      unfold Lib.parseUintM
      congr 1
      omega
theorem decDigits_cons (u : Nat) : ∃ (d : Nat) (r : List UInt8), d < 10 ∧ Lib.decDigits u = UInt8.ofNat (48 + d) :: r := by
  induction u using Nat.strongRecOn with
  | ind u ih =>
    rw [Lib.decDigits]
    split
    · rename_i h; exact ⟨u, [], h, rfl⟩
    · rename_i h
      obtain ⟨d, r, hd, e⟩ := ih (u / 10) (by omega)
      exact ⟨d, r ++ [UInt8.ofNat (48 + u % 10)], hd, by rw [e]; rfl⟩
theorem decDigits_mem (u : Nat) : ∀ b ∈ Lib.decDigits u, 48 ≤ b.toNat ∧ b.toNat ≤ 57 := by
  induction u using Nat.strongRecOn with
  | ind u ih =>
    intro b hb
    rw [Lib.decDigits] at hb
    split at hb
    · rename_i h
      rw [List.mem_singleton.1 hb, digByte h]
      omega
    · rename_i h
      rcases List.mem_append.1 hb with hb | hb
      · exact ih (u / 10) (by omega) b hb
      · rw [List.mem_singleton.1 hb, digByte (by omega)]
        omega
theorem itoa_free (n : Int) : (44 : UInt8) ∉ Lib.itoa n ∧ (110 : UInt8) ∉ Lib.itoa n ∧ Lib.itoa n ≠ [] := by
  unfold Lib.itoa
  have key : ∀ u (c : UInt8), c.toNat = 44 ∨ c.toNat = 110 → c ∉ Lib.decDigits u := fun u c hc hm => by have := decDigits_mem u c hm; omega
  split
  · refine ⟨fun hm => ?_, fun hm => ?_, by simp⟩
    · rcases List.mem_cons.1 hm with e | hm
      · exact absurd e (by decide)
      · exact key _ _ (.inl rfl) hm
    · rcases List.mem_cons.1 hm with e | hm
      · exact absurd e (by decide)
      · exact key _ _ (.inr rfl) hm
  · refine ⟨key _ _ (.inl rfl), key _ _ (.inr rfl), ?_⟩
    obtain ⟨d, r, _, e⟩ := decDigits_cons n.toNat
    rw [e]; simp
theorem parse_itoa (n : Int) (h : -1000000000000000 ≤ n ∧ n ≤ 1000000000000000) : Lib.parseIntB 64 (Lib.itoa n) = .ok n := by
  have pu : ∀ u : Nat, u ≤ 1000000000000000 → Lib.parseUintB 64 (Lib.decDigits u) = .ok u := by
    intro u hu
    unfold Lib.parseUintB
    obtain ⟨d, r, _, e⟩ := decDigits_cons u
    rw [if_neg (by rw [e]; simp)]
    exact parse_dig _ u (by omega) (by omega)
  unfold Lib.itoa
  split
  · rw [Lib.parseIntB_minus, pu _ (by omega)]
    unfold Lib.signedC
    simp only
    rw [if_neg (by omega)]
    congr 1
    omega
  · obtain ⟨d, r, hd, e⟩ := decDigits_cons n.toNat
    rw [e, Lib.parseIntB_plain _ _ _ (by rw [digByte hd]; omega) (by rw [digByte hd]; omega), ← e, pu _ (by omega)]
    unfold Lib.signlessC
    simp only
    rw [if_neg (by omega)]
    congr 1
    omega
theorem pint_itoa (n : Int) (h : -1000000000000000 ≤ n ∧ n ≤ 1000000000000000) : pint (Lib.itoa n) = some (n, true) := by
  unfold pint
  have := itoa_le n (by omega) (by omega)
  rw [if_pos (by omega), parse_itoa n h]
theorem read_itoa (n : Int) (h : -1000000000000000 ≤ n ∧ n ≤ 1000000000000000) : M.impl_ReadDecimal (Lib.itoa n) = some (n, true) := by
  unfold M.impl_ReadDecimal
  rw [pint_itoa n h, Option.bind_some]
  simp only [letv, in_big h, cond_true, idec n (by omega) (by omega), Option.bind_some, beq_self_eq_true, Bool.not_true, cond_false]
/-- Whole numbers are read from their text. -/
theorem read_list (xs : List Int) (hl : xs.length ≤ 64) (h : ∀ x ∈ xs, -1000000000000000 ≤ x ∧ x ≤ 1000000000000000) : M.impl_ReadList (jtext 44 (xs.map Lib.itoa)) = some (xs, true) := by
  have hp : M.impl_parted (jtext 44 (xs.map Lib.itoa)) = some (xs.map Lib.itoa) := by
    unfold M.impl_parted
    cases xs with
    | nil => rfl
    | cons x0 r =>
      have hne : jtext 44 ((x0 :: r).map Lib.itoa) ≠ [110, 111, 110, 101] := by
        unfold jtext
        rw [if_neg (by simp), List.map_cons]
        exact join_ne_none _ _ (itoa_free x0).2.2 (itoa_free x0).2.1
      have hlen := jtext_len 44 21 ((x0 :: r).map Lib.itoa) (fun x hx => by obtain ⟨y, hy, rfl⟩ := List.mem_map.1 hx; have := h y hy; exact itoa_le y (by omega) (by omega))
      rw [List.length_map] at hlen
      rw [beq_eq_false_iff_ne.2 hne, cond_false, split_eq _ (by omega), Option.bind_some]
      unfold jtext
      rw [if_neg (by simp)]
      exact congrArg some (splitB_join (Lib.itoa x0) (r.map Lib.itoa) fun p hp => by
        obtain ⟨y, _, rfl⟩ := List.mem_map.1 (show p ∈ (x0 :: r).map Lib.itoa from hp)
        exact (itoa_free y).1)
  unfold M.impl_ReadList
  rw [hp, Option.bind_some]
  rw [loopM_list (s0 := (([], 0) : List Int × Int)) xs (fun (a : List Int) k => (a, (k : Int))) (fun a x => .inl (a ++ [x])) (fun a => .inl a) (fun k a => a.length = k) ?_ ?_ [] rfl rfl]
  · have key : ∀ (l : List Int) (a : List Int), foldE (fun (a : List Int) (x : Int) => (.inl (a ++ [x]) : List Int ⊕ (List Int ⊕ (List Int × Bool)))) (fun a => .inl a) a l = .inl (a ++ l) := by
      intro l
      induction l with
      | nil => intro a; simp [foldE_nil]
      | cons x l ih => intro a; rw [foldE_inl rfl, ih]; simp
    rw [key, Option.bind_some]
    rfl
  · rintro k a x hx hk
    have hlt := (List.getElem?_eq_some_iff.1 hx).1
    have hr := h x (List.mem_of_getElem? hx)
    have e1 : icmp .eql (a.length : Int) 64 = false := by simp only [icmp_eql, beq_eq_false_iff_ne]; omega
    dsimp only
    rw [List.length_map, lss_lt hlt, cond_true, idx_nat, List.getElem?_map, hx]
    simp only [Option.map_some, Option.bind_some, read_itoa x hr, letv, cond_true, e1, cond_false]
    rw [app_small (by simp only [List.length_singleton]; omega), Option.bind_some, succ_wrap (by omega)]
    exact ⟨rfl, by rw [List.length_append, List.length_singleton, hk]⟩
  · rintro a _
    dsimp only
    rw [List.length_map, lss_self, cond_false]

/-- What the drawing's source keeps. -/
def SI (p : List Int) (s : Sl00Src) (b : Nat) : Prop := s.code = p ∧ 0 ≤ s.at_ ∧ s.at_ ≤ b
def byt (p : List Int) : Prop := ∀ x ∈ p, 0 ≤ x ∧ x ≤ 255
theorem and255 (n : Int) : 0 ≤ iand .u64 n 255 ∧ iand .u64 n 255 ≤ 255 := by
  unfold iand
  have h : (BitVec.ofInt IntKind.u64.bits n &&& BitVec.ofInt IntKind.u64.bits 255).toNat ≤ 255 := by
    rw [BitVec.toNat_and]
    have : (BitVec.ofInt IntKind.u64.bits 255).toNat = 255 := by decide
    rw [this]
    exact Nat.and_le_right
  rw [IntKind.wrap_u64]
  omega
theorem next_ok {p : List Int} {s : Sl00Src} {b : Nat} (hp : byt p) (h : SI p s b) (hb : b ≤ 100000) : ∃ v s', M.spec_l00Src_next s = some (v, s') ∧ 0 ≤ v ∧ v ≤ 255 ∧ SI p s' (b + 1) := by
  obtain ⟨rfl, h0, h1⟩ := h
  unfold M.spec_l00Src_next
  have w1 : IntKind.i64.wrap (s.at_ + 1) = s.at_ + 1 := wrap_in (by omega)
  simp only [w1]
  have aw : ∀ n, 0 ≤ IntKind.i64.wrap (iand .u64 n 255) ∧ IntKind.i64.wrap (iand .u64 n 255) ≤ 255 := fun n => by
    have := and255 n
    rw [wrap_in (by omega)]
    exact this
  have si : ∀ sd, SI s.code ⟨s.code, s.at_ + 1, sd⟩ (b + 1) := fun sd => ⟨rfl, by simp only; omega, by simp only; omega⟩
  by_cases hl : s.at_ < (s.code.length : Int)
  · have e1 : icmp .lss s.at_ (s.code.length : Int) = true := by rw [icmp_lss]; exact decide_eq_true hl
    obtain ⟨k, hk⟩ : ∃ k : Nat, s.at_ = k := ⟨s.at_.toNat, by omega⟩
    have e2 : idx s.code s.at_ = some (s.code[k]'(by omega)) := by rw [hk, idx_nat, List.getElem?_eq_getElem (by omega)]
    have hr := hp _ (List.getElem_mem (show k < s.code.length by omega))
    rw [e1, cond_true, e2, Option.bind_some]
    generalize s.code[k]'(by omega) = m at *
    cases icmp .leq (s.at_ + 1) (s.code.length : Int) with
    | true => rw [cond_true]; exact ⟨_, _, rfl, by rw [wrap_in (by omega)]; exact hr.1, by rw [wrap_in (by omega)]; exact hr.2, si _⟩
    | false => rw [cond_false]; exact ⟨_, _, rfl, (aw _).1, (aw _).2, si _⟩
  · have e1 : icmp .lss s.at_ (s.code.length : Int) = false := by rw [icmp_lss]; exact decide_eq_false hl
    rw [e1, cond_false]
    cases icmp .leq (s.at_ + 1) (s.code.length : Int) with
    | true => rw [cond_true]; exact ⟨_, _, rfl, by omega, by omega, si _⟩
    | false => rw [cond_false]; exact ⟨_, _, rfl, (aw _).1, (aw _).2, si _⟩
theorem irem_ok {x n : Int} (h0 : 0 ≤ x) (hn : 0 < n) : ∃ v, irem x n = some v ∧ 0 ≤ v ∧ v < n := by
  unfold irem
  rw [if_neg (by omega)]
  exact ⟨_, rfl, by rw [Int.tmod_eq_emod_of_nonneg h0]; exact Int.emod_nonneg _ (by omega), by rw [Int.tmod_eq_emod_of_nonneg h0]; exact Int.emod_lt_of_pos _ hn⟩
theorem pick_ok {p : List Int} {s : Sl00Src} {b : Nat} (hp : byt p) (h : SI p s b) (hb : b ≤ 99990) {n : Int} (hn : 0 < n ∧ n ≤ 65536) : ∃ v s', M.spec_l00Src_pick s n = some (v, s') ∧ 0 ≤ v ∧ v < n ∧ SI p s' (b + 2) := by
  unfold M.spec_l00Src_pick
  by_cases h1 : n ≤ 1
  · have e : icmp .leq n 1 = true := by rw [icmp_leq]; exact decide_eq_true h1
    rw [e, cond_true]
    exact ⟨0, s, rfl, by omega, by omega, h.1, h.2.1, by have := h.2.2; omega⟩
  · have e : icmp .leq n 1 = false := by rw [icmp_leq]; exact decide_eq_false h1
    obtain ⟨v, s1, e1, v0, v1, i1⟩ := next_ok hp h (by omega)
    have eta1 : (⟨s.code, s1.at_, s1.seed⟩ : Sl00Src) = s1 := by rw [h.1, ← i1.1]
    rw [e, cond_false, e1, Option.bind_some]
    simp only [eta1]
    by_cases h2 : n > 200
    · have e2 : icmp .gtr n 200 = true := by rw [icmp_gtr]; exact decide_eq_true h2
      obtain ⟨u, s2, e3, u0, u1, i2⟩ := next_ok hp i1 (by omega)
      have eta2 : (⟨s.code, s2.at_, s2.seed⟩ : Sl00Src) = s2 := by rw [h.1, ← i2.1]
      have w1 : IntKind.i64.wrap (v * 256) = v * 256 := wrap_in (by omega)
      have w2 : IntKind.i64.wrap (v * 256 + u) = v * 256 + u := wrap_in (by omega)
      obtain ⟨q, e4, q0, q1⟩ := irem_ok (x := v * 256 + u) (n := n) (by omega) hn.1
      rw [e2, cond_true, e3, Option.bind_some, w1, w2, e4, Option.bind_some]
      exact ⟨q, s2, by rw [eta2], q0, q1, i2⟩
    · have e2 : icmp .gtr n 200 = false := by rw [icmp_gtr]; exact decide_eq_false h2
      obtain ⟨q, e4, q0, q1⟩ := irem_ok (x := v) (n := n) v0 hn.1
      rw [e2, cond_false, e4, Option.bind_some]
      exact ⟨q, s1, rfl, q0, q1, i1.1, i1.2.1, by have := i1.2.2; omega⟩
theorem one_ok {p : List Int} {s : Sl00Src} {b : Nat} (hp : byt p) (h : SI p s b) (hb : b ≤ 99990) {n : Int} (hn : 0 < n ∧ n ≤ 65536) : ∃ v s', M.spec_l00Src_one s n = some (v, s') ∧ SI p s' (b + 2) := by
  unfold M.spec_l00Src_one
  obtain ⟨v, s1, e1, _, _, i1⟩ := pick_ok hp h hb hn
  have eta1 : (⟨s.code, s1.at_, s1.seed⟩ : Sl00Src) = s1 := by rw [h.1, ← i1.1]
  rw [e1, Option.bind_some]
  simp only [eta1]
  exact ⟨_, s1, rfl, i1⟩
theorem plain_ok {p : List Int} {s : Sl00Src} {b : Nat} (hp : byt p) (h : SI p s b) (hb : b ≤ 99980) : ∃ v s', M.spec_l01DrawPlain s = some (v, s') ∧ Go.Fl.Can .f32 v ∧ SI p s' (b + 4) := by
  unfold M.spec_l01DrawPlain
  obtain ⟨v, s1, e1, _, _, i1⟩ := pick_ok hp h (by omega) (n := 129) (by omega)
  have eta1 : (⟨s.code, s1.at_, s1.seed⟩ : Sl00Src) = s1 := by rw [h.1, ← i1.1]
  obtain ⟨q, s2, e2, i2⟩ := one_ok hp i1 (by omega) (n := 4) (by omega)
  have eta2 : (⟨s.code, s2.at_, s2.seed⟩ : Sl00Src) = s2 := by rw [h.1, ← i2.1]
  rw [e1, Option.bind_some]
  simp only [eta1]
  rw [e2, Option.bind_some]
  simp only [eta2]
  cases q with
  | true => exact ⟨_, s2, rfl, can_fop _ _ _ _, i2⟩
  | false => exact ⟨_, s2, rfl, can_fop _ _ _ _, i2⟩
theorem among_ok {p : List Int} {s : Sl00Src} {b : Nat} (hp : byt p) (h : SI p s b) (hb : b ≤ 99980) {l : List Int} (hl : 0 < l.length ∧ l.length ≤ 100) : ∃ v s', M.spec_l00Src_among s l = some (v, s') ∧ SI p s' (b + 2) := by
  unfold M.spec_l00Src_among
  obtain ⟨v, s1, e1, v0, v1, i1⟩ := pick_ok hp h (by omega) (n := (l.length : Int)) (by omega)
  have eta1 : (⟨s.code, s1.at_, s1.seed⟩ : Sl00Src) = s1 := by rw [h.1, ← i1.1]
  obtain ⟨k, rfl⟩ : ∃ k : Nat, v = k := ⟨v.toNat, by omega⟩
  rw [e1, Option.bind_some]
  simp only [eta1]
  rw [idx_nat, List.getElem?_eq_getElem (by omega), Option.bind_some]
  exact ⟨_, s1, rfl, i1⟩
theorem from_can (n : Int) : Go.Fl.Can .f32 (M.spec_l01From n) := by
  unfold M.spec_l01From
  refine can_cn ?_
  rw [wd32, IntKind.wrap_u32]
  omega
theorem float_ok {p : List Int} {s : Sl00Src} {b : Nat} (hp : byt p) (h : SI p s b) (hb : b ≤ 99900) : ∃ v s', M.spec_l01DrawFloat s = some (v, s') ∧ Go.Fl.Can .f32 v ∧ SI p s' (b + 12) := by
  unfold M.spec_l01DrawFloat
  have up : ∀ {s' : Sl00Src} {a c : Nat}, SI p s' a → a ≤ c → SI p s' c := fun i hc => ⟨i.1, i.2.1, by have := i.2.2; omega⟩
  have eta : ∀ {s' : Sl00Src} {a : Nat}, SI p s' a → (⟨s.code, s'.at_, s'.seed⟩ : Sl00Src) = s' := fun i => by rw [h.1, ← i.1]
  obtain ⟨q, s1, e1, i1⟩ := one_ok hp h (by omega) (n := 12) (by omega)
  rw [e1, Option.bind_some]
  simp only [eta i1, letv]
  cases q with
  | false =>
    obtain ⟨v, s2, e2, c2, i2⟩ := plain_ok hp i1 (by omega)
    rw [Bool.not_false, cond_true, e2, Option.bind_some]
    simp only [eta i2]
    exact ⟨v, s2, rfl, c2, up i2 (by omega)⟩
  | true =>
    obtain ⟨v, s2, e2, v0, v1, i2⟩ := pick_ok hp i1 (by omega) (n := 4) (by omega)
    rw [Bool.not_true, cond_false, e2, Option.bind_some]
    simp only [eta i2]
    by_cases hv0 : v = 0
    · obtain ⟨u, s3, e3, i3⟩ := among_ok hp i2 (by omega) (l := [0, 2147483648, 2139095040, 4286578688, 2143289344, 1, 2139095039, 8388608, 8388607, 2147483649]) (by decide)
      have t : icmp .eql v 0 = true := by rw [icmp_eql]; simpa using hv0
      rw [t, cond_true, e3, Option.bind_some]
      simp only [eta i3]
      exact ⟨_, s3, rfl, from_can _, up i3 (by omega)⟩
    · have t : icmp .eql v 0 = false := by rw [icmp_eql]; simpa using hv0
      rw [t, cond_false]
      by_cases hv1 : v = 1
      · obtain ⟨u, s3, e3, u0, u1, i3⟩ := pick_ok hp i2 (by omega) (n := 65536) (by omega)
        obtain ⟨z, s4, e4, z0, z1, i4⟩ := pick_ok hp i3 (by omega) (n := 65536) (by omega)
        have t : icmp .eql v 1 = true := by rw [icmp_eql]; simpa using hv1
        rw [t, cond_true, e3, Option.bind_some]
        simp only [eta i3]
        rw [e4, Option.bind_some]
        simp only [eta i4]
        exact ⟨_, s4, rfl, from_can _, up i4 (by omega)⟩
      · have t : icmp .eql v 1 = false := by rw [icmp_eql]; simpa using hv1
        rw [t, cond_false]
        by_cases hv2 : v = 2
        · obtain ⟨u, s3, e3, u0, u1, i3⟩ := pick_ok hp i2 (by omega) (n := 65536) (by omega)
          have t : icmp .eql v 2 = true := by rw [icmp_eql]; simpa using hv2
          rw [t, cond_true, e3, Option.bind_some]
          simp only [eta i3]
          exact ⟨_, s3, rfl, from_can _, up i3 (by omega)⟩
        · have t : icmp .eql v 2 = false := by rw [icmp_eql]; simpa using hv2
          obtain ⟨u, s3, e3, _, i3⟩ := plain_ok hp i2 (by omega)
          obtain ⟨z, s4, e4, i4⟩ := among_ok hp i3 (by omega) (l := [8388608, 2130706432, 1610612736, 536870912]) (by decide)
          rw [t, cond_false, e3, Option.bind_some]
          simp only [eta i3]
          rw [e4, Option.bind_some]
          simp only [eta i4]
          exact ⟨_, s4, rfl, can_fop _ _ _ _, up i4 (by omega)⟩
theorem floats_ok {p : List Int} (hp : byt p) {s : Sl00Src} {b : Nat} (h : SI p s b) (hb : b ≤ 1000) {n : Nat} (hn : n ≤ 1000) : ∃ xs s', M.spec_l01DrawFloats s (n : Int) = some (xs, s') ∧ xs.length = n ∧ (∀ x ∈ xs, Go.Fl.Can .f32 x) ∧ SI p s' (b + 12 * n + 2) := by
  unfold M.spec_l01DrawFloats
  have eta : ∀ {s' : Sl00Src} {a : Nat}, SI p s' a → (⟨s.code, s'.at_, s'.seed⟩ : Sl00Src) = s' := fun i => by rw [h.1, ← i.1]
  obtain ⟨q, s1, e1, i1⟩ := one_ok hp h (by omega) (n := 4) (by omega)
  rw [e1, Option.bind_some]
  simp only [eta i1]
  have key : ∀ (k : Nat) (out : List Nat) (s2 : Sl00Src) (c : Nat), k ≤ 1000 → out.length + k ≤ 1000 → c + 12 * k ≤ 20000 → SI p s2 c → (∀ x ∈ out, Go.Fl.Can .f32 x) → ∃ xs s', loopM (fun (s9 : Int × List Nat × Sl00Src) =>
      bif (icmp .gtr s9.1 0) then
        bif q then
          (M.spec_l01DrawFloat (⟨s.code, s9.2.2.at_, s9.2.2.seed⟩ : Sl00Src)).bind fun m14 =>
          (app 4 s9.2.1 ([m14.1])).bind fun m22 =>
          some (.inl ((IntKind.i64.wrap (s9.1 - 1)), m22, (⟨s.code, m14.2.at_, m14.2.seed⟩ : Sl00Src)))
        else
          (M.spec_l01DrawPlain (⟨s.code, s9.2.2.at_, s9.2.2.seed⟩ : Sl00Src)).bind fun m31 =>
          (app 4 s9.2.1 ([m31.1])).bind fun m39 =>
          some (.inl ((IntKind.i64.wrap (s9.1 - 1)), m39, (⟨s.code, m31.2.at_, m31.2.seed⟩ : Sl00Src)))
      else
        some (.inr (s9.2.1, (⟨s.code, s9.2.2.at_, s9.2.2.seed⟩ : Sl00Src)))) (((k : Int), out, s2) : Int × List Nat × Sl00Src) = some (xs, s') ∧ xs.length = out.length + k ∧ (∀ x ∈ xs, Go.Fl.Can .f32 x) ∧ SI p s' (c + 12 * k) := by
    intro k
    induction k with
    | zero =>
      intro out s2 c _ _ _ i hc
      refine ⟨out, s2, loopM_end ?_, rfl, hc, i⟩
      have t : icmp .gtr ((0 : Nat) : Int) 0 = false := rfl
      simp only [t, cond_false, eta i]
    | succ k ih =>
      intro out s2 c hk ho hcb i hc
      have t : icmp .gtr ((k + 1 : Nat) : Int) 0 = true := by rw [icmp_gtr]; exact decide_eq_true (by omega)
      have w1 : IntKind.i64.wrap (((k + 1 : Nat) : Int) - 1) = (k : Int) := by
        have : ((k + 1 : Nat) : Int) - 1 = (k : Int) := by omega
        rw [this]
        exact wrap_in (by omega)
      obtain ⟨v, s3, hB, hv, i3⟩ : ∃ v s3, (bif q then
          (M.spec_l01DrawFloat s2).bind fun m14 =>
          (app 4 out ([m14.1])).bind fun m22 =>
          some (.inl ((k : Int), m22, (⟨s.code, m14.2.at_, m14.2.seed⟩ : Sl00Src)))
        else
          (M.spec_l01DrawPlain s2).bind fun m31 =>
          (app 4 out ([m31.1])).bind fun m39 =>
          some (.inl ((k : Int), m39, (⟨s.code, m31.2.at_, m31.2.seed⟩ : Sl00Src))) : Option ((Int × List Nat × Sl00Src) ⊕ (List Nat × Sl00Src))) = some (.inl ((k : Int), out ++ [v], s3)) ∧ Go.Fl.Can .f32 v ∧ SI p s3 (c + 12) := by
        cases q with
        | true =>
          obtain ⟨v, s3, e3, c3, i3⟩ := float_ok hp i (by omega)
          refine ⟨v, s3, ?_, c3, i3⟩
          rw [cond_true, e3, Option.bind_some, app_small (by simp only [List.length_singleton]; omega), Option.bind_some]
          simp only [eta i3]
        | false =>
          obtain ⟨v, s3, e3, c3, i3⟩ := plain_ok hp i (by omega)
          refine ⟨v, s3, ?_, c3, i3.1, i3.2.1, by have := i3.2.2; omega⟩
          rw [cond_false, e3, Option.bind_some, app_small (by simp only [List.length_singleton]; omega), Option.bind_some]
          simp only [eta i3]
      have hnext := ih (out ++ [v]) s3 (c + 12) (by omega) (by rw [List.length_append, List.length_singleton]; omega) (by omega) i3 (by
        intro x hx
        rcases List.mem_append.1 hx with hx | hx
        · exact hc x hx
        · rw [List.mem_singleton.1 hx]; exact hv)
      obtain ⟨xs, s4, h4, l4, c4, i4⟩ := hnext
      refine ⟨xs, s4, ?_, ?_, c4, i4.1, i4.2.1, by have := i4.2.2; omega⟩
      · rw [loopM_next (s' := ((k : Int), out ++ [v], s3)) ?_]
        · exact h4
        · simp only [t, cond_true, eta i, w1]
          exact hB
      · rw [l4, List.length_append, List.length_singleton]; omega
  obtain ⟨xs, s', h1, h2, h3, h4⟩ := key n [] s1 (b + 2) hn (by rw [List.length_nil]; omega) (by omega) i1 (fun _ h => by cases h)
  rw [h1, Option.bind_some]
  refine ⟨xs, s', ?_, by rw [h2]; simp, h3, h4.1, h4.2.1, by have := h4.2.2; omega⟩
  simp only [eta h4]
/-- The numbers that are drawn. -/
theorem b10_numbers {p : List Int} (hp : byt p) {n : Int} (h : 0 ≤ n ∧ n ≤ 1000) : ∃ xs, M.spec_B10Numbers p n = some xs ∧ (xs.length : Int) = n ∧ ∀ x ∈ xs, Go.Fl.Can .f32 x := by
  obtain ⟨k, rfl⟩ : ∃ k : Nat, n = k := ⟨n.toNat, by omega⟩
  unfold M.spec_B10Numbers M.spec_l00From
  simp only [letv]
  obtain ⟨xs, s', h1, h2, h3, _⟩ := floats_ok hp (s := ⟨p, 0, 0⟩) (b := 0) ⟨rfl, by simp only; omega, by simp only; omega⟩ (by omega) (n := k) (by omega)
  rw [h1, Option.bind_some]
  exact ⟨xs, rfl, by omega, h3⟩
theorem b10At_ok {p : List Int} (hp : byt p) {k m : Int} (hk : 0 ≤ k ∧ k ≤ 1000) (hm : 2 ≤ m ∧ m ≤ 256) : ∃ v, M.laws_b10At p k m = some v ∧ 0 ≤ v ∧ v < m := by
  unfold M.laws_b10At
  have e1 : icmp .leq m 1 = false := by rw [icmp_leq]; exact decide_eq_false (by omega)
  rw [e1, cond_false]
  by_cases hl : k < (p.length : Int)
  · have e2 : icmp .lss k (p.length : Int) = true := by rw [icmp_lss]; exact decide_eq_true hl
    obtain ⟨j, rfl⟩ : ∃ j : Nat, k = j := ⟨k.toNat, by omega⟩
    have hr := hp _ (List.getElem_mem (show j < p.length by omega))
    obtain ⟨v, e3, v0, v1⟩ := irem_ok (x := p[j]'(by omega)) (n := m) hr.1 (by omega)
    have w1 : IntKind.i64.wrap (p[j]'(by omega)) = p[j]'(by omega) := wrap_in (by omega)
    rw [e2, cond_true, idx_nat, List.getElem?_eq_getElem (by omega), Option.bind_some, w1, e3, Option.bind_some]
    exact ⟨v, rfl, v0, v1⟩
  · have e2 : icmp .lss k (p.length : Int) = false := by rw [icmp_lss]; exact decide_eq_false hl
    have w1 : IntKind.i64.wrap (k * 37) = k * 37 := wrap_in (by omega)
    have w2 : IntKind.i64.wrap (k * 37 + 11) = k * 37 + 11 := wrap_in (by omega)
    obtain ⟨v, e3, v0, v1⟩ := irem_ok (x := k * 37 + 11) (n := m) (by omega) (by omega)
    rw [e2, cond_false, w1, w2, e3, Option.bind_some]
    exact ⟨v, rfl, v0, v1⟩
theorem same_num (x : Nat) : M.spec_SameNumber x x = true := by
  unfold M.spec_SameNumber M.spec_l01Same
  simp only [letv, icmp_eql, beq_self_eq_true]
theorem b10Same_self (xs : List Nat) (h : xs.length ≤ 1000) : M.laws_b10Same xs xs = some true := by
  unfold M.laws_b10Same
  rw [neq_self, cond_false, eqLoop xs _ ?_ ?_]
  · rfl
  · intro k x hx
    have hlt := (List.getElem?_eq_some_iff.1 hx).1
    rw [lss_lt hlt, cond_true, idx_nat, hx, Option.bind_some, Option.bind_some]
    simp only [letv, same_num, Bool.not_true, cond_false, succ_wrap (show k ≤ 9223372036854775806 by omega)]
  · rw [lss_self, cond_false]
theorem b10Nums_self (xs : List Int) (h : xs.length ≤ 1000) : M.laws_b10Nums xs xs = some true := by
  unfold M.laws_b10Nums
  rw [neq_self, cond_false, eqLoop xs _ ?_ ?_]
  · rfl
  · intro k x hx
    have hlt := (List.getElem?_eq_some_iff.1 hx).1
    rw [lss_lt hlt, cond_true, idx_nat, hx, Option.bind_some, Option.bind_some, neq_self, cond_false]
    simp only [succ_wrap (show k ≤ 9223372036854775806 by omega)]
  · rw [lss_self, cond_false]

/-- The law of FnTexts. -/
theorem law_FnTexts (p0 p1 : List Int) (h0 : byt p0) (h1 : byt p1) : M.laws_FnTexts p0 p1 = some true := by
  unfold M.laws_FnTexts
  simp only [letv]
  cases M.laws_b10Long p0 p1 with
  | true => rfl
  | false =>
    obtain ⟨v, e1, v0, v1⟩ := b10At_ok h1 (k := 0) (m := 12) (by omega) (by omega)
    obtain ⟨xs, e2, hl, hc⟩ := b10_numbers h0 (n := v) (by omega)
    have hlen := ntext_len xs
    rw [cond_false, e1, Option.bind_some, e2, Option.bind_some, intext xs (by omega), Option.bind_some]
    simp only
    rw [inums _ (by omega), rdnums_ntext xs hc (by omega), Option.bind_some]
    simp only [cond_true]
    rw [b10Same_self xs (by omega), Option.bind_some, cond_true]
    have eq1 : (bif icmp .gtr (xs.length : Int) 0 then some (icmp .neq ((ntext xs).length : Int) (IntKind.i64.wrap (IntKind.i64.wrap (9 * (xs.length : Int)) - 1))) else some false) = some false := by
      by_cases hx : xs = []
      · subst hx; rfl
      · have hp := List.length_pos_iff.2 hx
        have t : icmp .gtr (xs.length : Int) 0 = true := by rw [icmp_gtr]; exact decide_eq_true (by omega)
        have w1 : IntKind.i64.wrap (9 * (xs.length : Int)) = 9 * (xs.length : Int) := wrap_in (by omega)
        have w2 : IntKind.i64.wrap (9 * (xs.length : Int) - 1) = 9 * (xs.length : Int) - 1 := wrap_in (by omega)
        rw [t, cond_true, w1, w2, ntext_len_eq xs hx]
        have : ((9 * xs.length - 1 : Nat) : Int) = 9 * (xs.length : Int) - 1 := by omega
        rw [this, neq_self]
    rw [eq1, Option.bind_some, cond_false]
    obtain ⟨c, e3, c0, c1⟩ := b10At_ok h1 (k := 1) (m := 8) (by omega) (by omega)
    have key : ∀ (n k : Nat) (out : List Int), c.toNat - k = n → k ≤ c.toNat → out.length = k → (∀ x ∈ out, -1000000000000000 ≤ x ∧ x ≤ 1000000000000000) → ∃ ys : List Int, loopM (fun (s37 : List Int × Int) =>
          (M.laws_b10At p1 1 8).bind fun m38 =>
          bif (icmp .lss s37.2 m38) then
            (M.laws_b10At p1 (IntKind.i64.wrap (s37.2 + 2)) 256).bind fun m43 =>
            (app 8 s37.1 ([(IntKind.i64.wrap ((IntKind.i64.wrap (1000 * m43)) - 90000))])).bind fun m52 =>
            some (.inl (m52, (IntKind.i64.wrap (s37.2 + 1))))
          else
            some (.inr s37.1)) ((out, (k : Int)) : List Int × Int) = some ys ∧ ys.length ≤ 8 ∧ ∀ x ∈ ys, -1000000000000000 ≤ x ∧ x ≤ 1000000000000000 := by
      intro n
      induction n with
      | zero =>
        intro k out hn hk hlo ho
        refine ⟨out, loopM_end ?_, by omega, ho⟩
        have t : icmp .lss (k : Int) c = false := by rw [icmp_lss]; exact decide_eq_false (by omega)
        simp only [e3, Option.bind_some, t, cond_false]
      | succ n ih =>
        intro k out hn hk hlo ho
        have t : icmp .lss (k : Int) c = true := by rw [icmp_lss]; exact decide_eq_true (by omega)
        have w1 : IntKind.i64.wrap ((k : Int) + 2) = (k : Int) + 2 := wrap_in (by omega)
        obtain ⟨u, e4, u0, u1⟩ := b10At_ok h1 (k := (k : Int) + 2) (m := 256) (by omega) (by omega)
        have w2 : IntKind.i64.wrap (1000 * u) = 1000 * u := wrap_in (by omega)
        have w3 : IntKind.i64.wrap (1000 * u - 90000) = 1000 * u - 90000 := wrap_in (by omega)
        obtain ⟨ys, f1, f2, f3⟩ := ih (k + 1) (out ++ [1000 * u - 90000]) (by omega) (by omega) (by rw [List.length_append, List.length_singleton, hlo]) (by
          intro x hx
          rcases List.mem_append.1 hx with hx | hx
          · exact ho x hx
          · rw [List.mem_singleton.1 hx]; omega)
        refine ⟨ys, ?_, f2, f3⟩
        rw [loopM_next (s' := (out ++ [1000 * u - 90000], ((k + 1 : Nat) : Int))) ?_]
        · exact f1
        · simp only [e3, Option.bind_some, t, cond_true, w1, e4, w2, w3]
          rw [app_small (by simp only [List.length_singleton]; omega), Option.bind_some, succ_wrap (by omega)]
    obtain ⟨ys, f1, f2, f3⟩ := key (c.toNat - 0) 0 [] rfl (Nat.zero_le _) rfl (fun _ h => by cases h)
    rw [show ((0 : Nat) : Int) = 0 from rfl] at f1
    rw [f1, Option.bind_some, ilist ys (by omega) f3, Option.bind_some]
    simp only
    rw [read_list ys (by omega) f3, Option.bind_some]
    simp only [cond_true]
    rw [b10Nums_self ys (by omega)]
    rfl
end Go.Proofs
