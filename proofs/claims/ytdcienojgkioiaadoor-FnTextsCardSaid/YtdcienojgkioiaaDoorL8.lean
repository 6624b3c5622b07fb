import Derived.Test.YtdcienojgkioiaaDoorL7
import Derived.Lib.Join
/- Texts of numbers, vectors, rods: what the program and the reference make of them. The law of ChainText. No program in sight. -/
namespace Go.Proofs
open Go Go.Fl Go.RowKit Go.Rg
attribute [local irreducible] fint fcmp fop fneg widen narrow fsqrt cn

section
variable {α : Type}
theorem lss_lt {k n : Nat} (h : k < n) : icmp .lss (k : Int) (n : Int) = true := by rw [icmp_lss]; exact decide_eq_true (by omega)
theorem lss_self (n : Nat) : icmp .lss (n : Int) (n : Int) = false := by rw [icmp_lss]; exact decide_eq_false (by omega)
theorem succ_wrap {k : Nat} (h : k ≤ 9223372036854775806) : IntKind.i64.wrap ((k : Int) + 1) = ((k + 1 : Nat) : Int) := by rw [wrap_in (by omega)]; rfl

/-- A row that is copied into one that was made. -/
theorem copyLoop (z : α) (xs : List α) (B : Int × List α → Option ((Int × List α) ⊕ List α)) (h1 : ∀ (k : Nat) (s : List α) x y, xs[k]? = some x → s[k]? = some y → B ((k : Int), s) = some (.inl (((k + 1 : Nat) : Int), s.set k x)))
    (h2 : ∀ s, B ((xs.length : Int), s) = some (.inr s)) : loopM B (0, List.replicate xs.length z) = some xs := by
  rw [loopM_run' (e := xs) xs.length (fun k => ((k : Int), xs.take k ++ List.replicate (xs.length - k) z)) (by simp) ?_ ?_]
  · intro k hk
    have hx : xs[k]? = some xs[k] := List.getElem?_eq_getElem hk
    have hl : (xs.take k ++ List.replicate (xs.length - k) z)[k]? = some z := by
      rw [List.getElem?_append_right (by rw [List.length_take]; omega), List.length_take, List.getElem?_replicate]
      rw [if_pos (by omega)]
    have e2 : (xs.take k ++ List.replicate (xs.length - k) z).set k xs[k] = xs.take (k + 1) ++ List.replicate (xs.length - (k + 1)) z := by
      have e3 : xs.length - k = (xs.length - (k + 1)) + 1 := by omega
      rw [e3, List.replicate_succ, List.take_succ_eq_append_getElem hk, List.set_append_right _ _ (by rw [List.length_take]; omega), List.length_take, Nat.min_eq_left (by omega), Nat.sub_self, List.set_cons_zero, List.append_assoc]
      rfl
    rw [h1 k _ _ _ hx hl, e2]
  · rw [h2]; simp
/-- A row that is compared with itself. -/
theorem eqLoop (xs : List α) (B : Int → Option (Int ⊕ (Unit ⊕ Bool))) (h1 : ∀ (k : Nat) x, xs[k]? = some x → B (k : Int) = some (.inl ((k + 1 : Nat) : Int))) (h2 : B (xs.length : Int) = some (.inr (.inl ()))) : loopM B (0 : Int) = some (.inl ()) := by
  rw [loopM_run' (e := (.inl () : Unit ⊕ Bool)) (s0 := (0 : Int)) xs.length (fun k => (k : Int)) rfl ?_ h2]
  intro k hk
  exact h1 k xs[k] (List.getElem?_eq_getElem hk)
/-- The first of a row that is such. -/
theorem anyLoop (xs : List α) (p : α → Bool) (B : Int → Option (Int ⊕ (Unit ⊕ Int))) (h1 : ∀ (k : Nat) x, xs[k]? = some x → B (k : Int) = if p x then some (.inr (.inr (k : Int))) else some (.inl ((k + 1 : Nat) : Int))) (h2 : B (xs.length : Int) = some (.inr (.inl ()))) :
    ∃ e, loopM B (0 : Int) = some e ∧ (match e with | .inl () => xs.any p = false | .inr i => 0 ≤ i ∧ xs.any p = true) := by
  rw [loopM_list (s0 := (0 : Int)) xs (fun (a : Nat) k => (k : Int)) (fun a x => if p x then .inr (.inr (a : Int)) else .inl (a + 1)) (fun _ => .inl ()) (fun k a => a = k) ?_ ?_ 0 rfl rfl]
  · refine ⟨_, rfl, ?_⟩
    have key : ∀ (l : List α) (a : Nat), (match foldE (fun (a : Nat) (x : α) => if p x then (.inr (.inr (a : Int)) : Nat ⊕ (Unit ⊕ Int)) else .inl (a + 1)) (fun _ => .inl ()) a l with | .inl () => l.any p = false | .inr i => 0 ≤ i ∧ l.any p = true) := by
      intro l
      induction l with
      | nil => intro a; rfl
      | cons x l ih =>
        intro a
        cases hp : p x with
        | true => rw [foldE_inr (e := .inr (a : Int)) (by rw [hp]; rfl)]; simp [hp]
        | false =>
          rw [foldE_inl (a' := a + 1) (by rw [hp]; rfl)]
          have := ih (a + 1)
          revert this
          cases foldE (fun (a : Nat) (x : α) => if p x then (.inr (.inr (a : Int)) : Nat ⊕ (Unit ⊕ Int)) else .inl (a + 1)) (fun _ => .inl ()) (a + 1) l with
          | inl u => intro h; simpa [hp] using h
          | inr i => intro h; simpa [hp] using h
    exact key xs 0
  · rintro k a x hx rfl
    rw [h1 a x hx]
    cases p x with
    | true => rfl
    | false => exact ⟨rfl, rfl⟩
  · rintro a rfl
    exact h2
theorem containsLoop {f : α → Bool} {xs : List α} {B : Int → Option (Int ⊕ (Unit ⊕ Int))} (h : ∃ e, loopM B (0 : Int) = some e ∧ (match e with | .inl () => xs.any f = false | .inr i => 0 ≤ i ∧ xs.any f = true)) :
    (((loopM B (0 : Int)).bind fun m1 => sel m1 (fun _ => some (-1)) (fun m1 => some m1)).bind fun m1 => some (icmp .geq m1 0)) = some (xs.any f) := by
  obtain ⟨e, h1, h2⟩ := h
  rw [h1]
  cases e with
  | inl u => simp only at h2; rw [h2]; rfl
  | inr i => simp only at h2; rw [h2.2]; simp [sel, icmp_geq, h2.1]

/-- Texts with a letter between, told one after another from the second on. -/
theorem textLoop (x0 : α) (r : List α) (t : α → List UInt8) (c : UInt8) (L : Nat) (hL : ∀ x ∈ x0 :: r, (t x).length ≤ L) (B : List UInt8 × Int → Option ((List UInt8 × Int) ⊕ List UInt8))
    (h1 : ∀ (k : Nat) (out : List UInt8) x, (x0 :: r)[k]? = some x → 1 ≤ k → out.length ≤ k * (L + 1) → B (out, (k : Int)) = some (.inl (out ++ ([c] ++ t x), ((k + 1 : Nat) : Int))))
    (h2 : ∀ out, B (out, ((x0 :: r).length : Int)) = some (.inr out)) : loopM B (t x0, 1) = some (Lib.join ((x0 :: r).map t) [c]) := by
  have key : ∀ (n k : Nat) (out : List UInt8), (x0 :: r).length - k = n → 1 ≤ k → k ≤ (x0 :: r).length → out.length ≤ k * (L + 1) → loopM B (out, (k : Int)) = some (out ++ Lib.joinTail [c] (((x0 :: r).drop k).map t)) := by
    intro n
    induction n with
    | zero =>
      intro k out hn _ hk _
      have e : k = (x0 :: r).length := by omega
      subst e
      rw [loopM_end (h2 out), List.drop_length]
      simp [Lib.joinTail]
    | succ n ih =>
      intro k out hn h1k hk hlen
      have hkl : k < (x0 :: r).length := by omega
      have hx : (x0 :: r)[k]? = some (x0 :: r)[k] := List.getElem?_eq_getElem hkl
      rw [loopM_next (h1 k out _ hx h1k hlen), ih (k + 1) _ (by omega) (by omega) hkl ?_, List.drop_eq_getElem_cons hkl]
      · simp [Lib.joinTail]
      · have := hL _ (List.getElem_mem hkl)
        rw [List.length_append, List.length_append, List.length_singleton, Nat.add_mul]
        omega
  have := key ((x0 :: r).length - 1) 1 (t x0) rfl (Nat.le_refl _) (by simp) (by have := hL x0 (by simp); omega)
  rw [show ((1 : Nat) : Int) = 1 from rfl] at this
  rw [this, List.map_cons, Lib.join_cons]
  rfl
/-- Texts told into a row. -/
theorem collectLoop {β : Type} (xs : List α) (t : α → β) (B : List β × Int → Option ((List β × Int) ⊕ List β)) (h1 : ∀ (k : Nat) (out : List β) x, xs[k]? = some x → out.length = k → B (out, (k : Int)) = some (.inl (out ++ [t x], ((k + 1 : Nat) : Int))))
    (h2 : ∀ out, B (out, (xs.length : Int)) = some (.inr out)) : loopM B ([], 0) = some (xs.map t) := by
  rw [loopM_list (s0 := (([], 0) : List β × Int)) xs (fun (a : List β) k => (a, (k : Int))) (fun a x => .inl (a ++ [t x])) (fun a => a) (fun k a => a.length = k) ?_ ?_ [] rfl rfl]
  · congr 1
    have key : ∀ (l : List α) (a : List β), foldE (fun (a : List β) (x : α) => (.inl (a ++ [t x]) : List β ⊕ List β)) (fun a => a) a l = a ++ l.map t := by
      intro l
      induction l with
      | nil => intro a; simp [foldE_nil]
      | cons x l ih => intro a; rw [foldE_inl rfl, ih]; simp
    rw [key]; rfl
  · rintro k a x hx hk
    exact ⟨h1 k a x hx hk, by rw [List.length_append, List.length_singleton, hk]⟩
  · rintro a _
    exact h2 a
end

/-- A digit of a number's bits. -/
def hdg (n : Int) (s : Nat) : UInt8 := ([48, 49, 50, 51, 52, 53, 54, 55, 56, 57, 97, 98, 99, 100, 101, 102] : List UInt8).getD (iand .i64 (n.fdiv (2 ^ s)) 15).toNat 0
theorem and15 (n : Int) : 0 ≤ iand .i64 n 15 ∧ iand .i64 n 15 < 16 := by
  unfold iand
  have h : (BitVec.ofInt IntKind.i64.bits n &&& BitVec.ofInt IntKind.i64.bits 15).toNat < 16 := by
    rw [BitVec.toNat_and]
    have : (BitVec.ofInt IntKind.i64.bits 15).toNat = 15 := by decide
    rw [this]
    exact Nat.lt_of_le_of_lt Nat.and_le_right (by omega)
  rw [wrap_in (by omega)]
  omega
theorem hexAt (n : Int) (s : Nat) : sidx ([48, 49, 50, 51, 52, 53, 54, 55, 56, 57, 97, 98, 99, 100, 101, 102] : List UInt8) (iand .i64 (n.fdiv (2 ^ s)) 15) = some ((hdg n s).toNat : Int) := by
  obtain ⟨h0, h1⟩ := and15 (n.fdiv (2 ^ s))
  unfold hdg
  generalize iand .i64 (n.fdiv (2 ^ s)) 15 = i at *
  obtain ⟨k, rfl⟩ : ∃ k : Nat, i = k := ⟨i.toNat, by omega⟩
  rw [sidx_nat, Int.toNat_natCast, List.getD_eq_getElem?_getD, List.getElem?_eq_getElem (by simp; omega)]
  rfl
/-- The eight digits of a number. -/
def hexT (x : Nat) : List UInt8 := [hdg (M.spec_l01Bits x) 28, hdg (M.spec_l01Bits x) 24, hdg (M.spec_l01Bits x) 20, hdg (M.spec_l01Bits x) 16, hdg (M.spec_l01Bits x) 12, hdg (M.spec_l01Bits x) 8, hdg (M.spec_l01Bits x) 4, hdg (M.spec_l01Bits x) 0]
theorem hexT_len (x : Nat) : (hexT x).length = 8 := rfl
theorem app1 {a : List Int} {x : Int} (h : a.length ≤ 100) : app 1 a [x] = some (a ++ [x]) := app_small (by simp only [List.length_singleton]; omega)
theorem bitsEq (x : Nat) : M.impl_BitsOf x = M.spec_l01Bits x := by
  unfold M.impl_BitsOf M.spec_l01Bits M.impl_isNaN
  rfl
theorem shex (x : Nat) : M.spec_l01Hex x = some (hexT x) := by
  unfold M.spec_l01Hex
  simp only [letv, hexAt, Option.bind_some]
  rw [app1 (by simp), Option.bind_some, app1 (by simp), Option.bind_some, app1 (by simp), Option.bind_some, app1 (by simp), Option.bind_some, app1 (by simp), Option.bind_some, app1 (by simp), Option.bind_some, app1 (by simp), Option.bind_some, app1 (by simp), Option.bind_some]
  exact congrArg some (u8s_nat (hexT x))

/-- Texts with a letter between; none without any. -/
def jtext (c : UInt8) (xs : List (List UInt8)) : List UInt8 := if xs = [] then [110, 111, 110, 101] else Lib.join xs [c]
theorem jtext_one (c : UInt8) (x : List UInt8) : jtext c [x] = x := by
  unfold jtext
  rw [if_neg (by simp), Lib.join_one]
theorem join_len (c : UInt8) (L : Nat) : ∀ (xs : List (List UInt8)), (∀ x ∈ xs, x.length ≤ L) → (Lib.join xs [c]).length ≤ xs.length * (L + 1) := by
  intro xs
  cases xs with
  | nil => intro _; simp [Lib.join]
  | cons x r =>
    intro h
    rw [Lib.join_cons, List.length_append]
    have key : ∀ (l : List (List UInt8)), (∀ x ∈ l, x.length ≤ L) → (Lib.joinTail [c] l).length ≤ l.length * (L + 1) := by
      intro l
      induction l with
      | nil => intro _; simp [Lib.joinTail]
      | cons y l ih =>
        intro h
        have e : Lib.joinTail [c] (y :: l) = [c] ++ y ++ Lib.joinTail [c] l := by simp [Lib.joinTail]
        rw [e, List.length_append, List.length_append, List.length_singleton, List.length_cons, Nat.add_mul]
        have := ih fun z hz => h z (by simp [hz])
        have := h y (by simp)
        omega
    have h1 := key r fun z hz => h z (by simp [hz])
    have h2 := h x (by simp)
    rw [List.length_cons, Nat.add_mul]
    omega
theorem jtext_len (c : UInt8) (L : Nat) (xs : List (List UInt8)) (h : ∀ x ∈ xs, x.length ≤ L) : (jtext c xs).length ≤ xs.length * (L + 1) + 4 := by
  unfold jtext
  split
  · simp
  · have := join_len c L xs h; omega
def ntext (xs : List Nat) : List UInt8 := jtext 44 (xs.map hexT)
theorem ntext_len (xs : List Nat) : (ntext xs).length ≤ xs.length * 9 + 4 := by
  have := jtext_len 44 8 (xs.map hexT) (fun x hx => by obtain ⟨y, _, rfl⟩ := List.mem_map.1 hx; exact Nat.le_refl _)
  rw [List.length_map] at this
  exact this

theorem sjoin_ok {c : UInt8} {xs : List (List UInt8)} (L : Nat) (h : ∀ x ∈ xs, x.length ≤ L) (hn : xs.length * (L + 1) ≤ 140737488355328) (hn2 : xs.length ≤ 140737488355328) : sjoin xs [c] = some (Lib.join xs [c]) := by
  unfold sjoin
  have := join_len c L xs h
  rw [if_pos ⟨hn2, by omega⟩]

theorem sntext (xs : List Nat) (hl : xs.length ≤ 1000000) : M.spec_l01NText xs = some (ntext xs) := by
  unfold M.spec_l01NText ntext jtext
  cases xs with
  | nil => rfl
  | cons x0 r =>
    have e0 : icmp .eql ((x0 :: r).length : Int) 0 = false := by simp only [icmp_eql, beq_eq_false_iff_ne, List.length_cons]; omega
    have i0 : idx (x0 :: r) 0 = some x0 := idx_nat _ 0
    rw [e0, cond_false, i0, Option.bind_some, shex, Option.bind_some, textLoop x0 r hexT 44 8 (fun x _ => Nat.le_refl _) _ ?_ ?_, if_neg (by simp)]
    · rfl
    · intro k out x hx h1 hlen
      have hlt := (List.getElem?_eq_some_iff.1 hx).1
      dsimp only
      rw [lss_lt hlt, cond_true, idx_nat, hx, Option.bind_some, shex, Option.bind_some, scat_ok (by rw [hexT_len]; simp), Option.bind_some, scat_ok (by rw [List.length_append, hexT_len, List.length_singleton]; omega), Option.bind_some, succ_wrap (by omega)]
    · intro out
      dsimp only
      rw [lss_self, cond_false]

theorem ijoined (xs : List (List UInt8)) (L : Nat) (h : ∀ x ∈ xs, x.length ≤ L) (hn : xs.length * (L + 1) ≤ 140737488355328) (hn2 : xs.length ≤ 140737488355328) : M.impl_joined xs = some (jtext 44 xs) := by
  unfold M.impl_joined jtext
  cases xs with
  | nil => rfl
  | cons x0 r =>
    have e0 : icmp .eql ((x0 :: r).length : Int) 0 = false := by simp only [icmp_eql, beq_eq_false_iff_ne, List.length_cons]; omega
    rw [e0, cond_false, sjoin_ok L h hn hn2, Option.bind_some, if_neg (by simp)]
theorem ijoinedBy (xs : List (List UInt8)) (L : Nat) (h : ∀ x ∈ xs, x.length ≤ L) (hn : xs.length * (L + 1) ≤ 140737488355328) (hn2 : xs.length ≤ 140737488355328) : M.impl_joinedBy xs = some (jtext 47 xs) := by
  unfold M.impl_joinedBy jtext
  cases xs with
  | nil => rfl
  | cons x0 r =>
    have e0 : icmp .eql ((x0 :: r).length : Int) 0 = false := by simp only [icmp_eql, beq_eq_false_iff_ne, List.length_cons]; omega
    rw [e0, cond_false, sjoin_ok L h hn hn2, Option.bind_some, if_neg (by simp)]

theorem intext (xs : List Nat) (hl : xs.length ≤ 256) : M.impl_NumbersText xs = some (ntext xs, true) := by
  unfold M.impl_NumbersText M.impl_listOk
  have e0 : icmp .leq (xs.length : Int) 256 = true := by rw [icmp_leq]; exact decide_eq_true (by omega)
  simp only [letv, e0, Bool.not_true, cond_false, bitsEq, hexAt, Option.bind_some]
  rw [collectLoop xs hexT _ ?_ ?_, Option.bind_some, ijoined (xs.map hexT) 8 (fun x hx => by obtain ⟨y, _, rfl⟩ := List.mem_map.1 hx; exact Nat.le_refl _) (by rw [List.length_map]; omega) (by rw [List.length_map]; omega), Option.bind_some]
  · rfl
  · intro k out x hx hk
    have hlt := (List.getElem?_eq_some_iff.1 hx).1
    dsimp only
    rw [lss_lt hlt, cond_true, idx_nat, hx, Option.bind_some, app1 (by simp), Option.bind_some, app1 (by simp), Option.bind_some, app1 (by simp), Option.bind_some, app1 (by simp), Option.bind_some, app1 (by simp), Option.bind_some, app1 (by simp), Option.bind_some, app1 (by simp), Option.bind_some, app1 (by simp), Option.bind_some]
    have e1 : u8s ([] ++ [((hdg (M.spec_l01Bits x) 28).toNat : Int)] ++ [((hdg (M.spec_l01Bits x) 24).toNat : Int)] ++ [((hdg (M.spec_l01Bits x) 20).toNat : Int)] ++ [((hdg (M.spec_l01Bits x) 16).toNat : Int)] ++ [((hdg (M.spec_l01Bits x) 12).toNat : Int)] ++ [((hdg (M.spec_l01Bits x) 8).toNat : Int)] ++ [((hdg (M.spec_l01Bits x) 4).toNat : Int)] ++ [((hdg (M.spec_l01Bits x) 0).toNat : Int)]) = hexT x := u8s_nat (hexT x)
    rw [e1, app_small (by simp only [List.length_singleton]; omega), Option.bind_some, succ_wrap (by omega)]
  · intro out
    dsimp only
    rw [lss_self, cond_false]
theorem intext2 (xs : List Nat) (hl : xs.length ≤ 256) : M.impl_numbersText xs = some (ntext xs) := by
  unfold M.impl_numbersText
  rw [intext xs hl]; rfl

def vtext (v : SVector) : List UInt8 := ntext [v.x, v.y, v.z]
theorem vtext_len (v : SVector) : (vtext v).length ≤ 31 := ntext_len [v.x, v.y, v.z]
theorem svtext (v : SVector) : M.spec_l01VText v = some (vtext v) := by
  unfold M.spec_l01VText
  rw [sntext _ (by simp)]; rfl
theorem ivtext (v : SVector) : M.impl_VectorText v = some (vtext v) := by
  unfold M.impl_VectorText M.impl_Vector_numbers
  simp only [letv]
  rw [intext _ (by simp)]; rfl
def vstext (vs : List SVector) : List UInt8 := jtext 47 (vs.map vtext)
theorem svectors (vs : List SVector) (hl : vs.length ≤ 1000000) : M.spec_l08Vectors vs = some (vstext vs) := by
  unfold M.spec_l08Vectors vstext jtext
  cases vs with
  | nil => rfl
  | cons x0 r =>
    have e0 : icmp .eql ((x0 :: r).length : Int) 0 = false := by simp only [icmp_eql, beq_eq_false_iff_ne, List.length_cons]; omega
    have i0 : idx (x0 :: r) 0 = some x0 := idx_nat _ 0
    rw [e0, cond_false, i0, Option.bind_some]
    have eta : (⟨x0.x, x0.y, x0.z⟩ : SVector) = x0 := rfl
    rw [eta, svtext, Option.bind_some, textLoop x0 r vtext 47 31 (fun x _ => vtext_len x) _ ?_ ?_, if_neg (by simp)]
    · rfl
    · intro k out x hx h1 hlen
      have hlt := (List.getElem?_eq_some_iff.1 hx).1
      have hv := vtext_len x
      dsimp only
      rw [lss_lt hlt, cond_true, idx_nat, hx, Option.bind_some, svtext, Option.bind_some, scat_ok (by simp only [List.length_singleton]; omega), Option.bind_some, scat_ok (by rw [List.length_append, List.length_singleton]; omega), Option.bind_some, succ_wrap (by omega)]
    · intro out
      dsimp only
      rw [lss_self, cond_false]
theorem ivectors (vs : List SVector) (hl : vs.length ≤ 1000000) : M.impl_vectorsText vs = some (vstext vs) := by
  unfold M.impl_vectorsText
  rw [collectLoop vs vtext _ ?_ ?_, Option.bind_some, ijoinedBy (vs.map vtext) 31 (fun x hx => by obtain ⟨y, _, rfl⟩ := List.mem_map.1 hx; exact vtext_len y) (by rw [List.length_map]; omega) (by rw [List.length_map]; omega), Option.bind_some]
  · rfl
  · intro k out x hx hk
    have hlt := (List.getElem?_eq_some_iff.1 hx).1
    dsimp only
    rw [lss_lt hlt, cond_true, idx_nat, hx, Option.bind_some, ivtext, Option.bind_some, app_small (by simp only [List.length_singleton]; omega), Option.bind_some, succ_wrap (by omega)]
  · intro out
    dsimp only
    rw [lss_self, cond_false]

theorem itoa_le (n : Int) (h0 : -9223372036854775808 ≤ n) (h1 : n ≤ 9223372036854775807) : (Lib.itoa n).length ≤ 21 := by
  unfold Lib.itoa
  have h := dig_len (u := n.natAbs) (by omega)
  have h2 := dig_len (u := n.toNat) (by omega)
  unfold digI at h h2
  rw [List.length_map] at h h2
  split
  · simp only [List.length_cons]; omega
  · omega
theorem stext2 (a b : Int) (ha : -1000000000000000 ≤ a ∧ a ≤ 1000000000000000) (hb : -1000000000000000 ≤ b ∧ b ≤ 1000000000000000) : M.spec_l01Text [a, b] = some (jtext 44 [Lib.itoa a, Lib.itoa b]) := by
  unfold M.spec_l01Text jtext
  have i0 : idx [a, b] 0 = some a := idx_nat _ 0
  have e0 : icmp .eql (([a, b] : List Int).length : Int) 0 = false := rfl
  rw [e0, cond_false, i0, Option.bind_some, sdec _ (by omega) (by omega), Option.bind_some, textLoop a [b] Lib.itoa 44 21 (fun x hx => ?_) _ ?_ ?_, if_neg (by simp)]
  · rfl
  · intro k out x hx h1 hlen
    have hlt := (List.getElem?_eq_some_iff.1 hx).1
    have hm : x = a ∨ x = b := by simpa using List.mem_of_getElem? hx
    have hr : -1000000000000000 ≤ x ∧ x ≤ 1000000000000000 := by rcases hm with rfl | rfl <;> assumption
    have hi := itoa_le x (by omega) (by omega)
    have hk : k < 2 := hlt
    dsimp only
    rw [lss_lt hlt, cond_true, idx_nat, hx, Option.bind_some, sdec _ (by omega) (by omega), Option.bind_some, scat_ok (by simp only [List.length_singleton]; omega), Option.bind_some, scat_ok (by rw [List.length_append, List.length_singleton]; omega), Option.bind_some, succ_wrap (by omega)]
  · intro out
    dsimp only
    rw [lss_self, cond_false]
  · have : x = a ∨ x = b := by simpa using hx
    rcases this with rfl | rfl
    · exact itoa_le _ (by omega) (by omega)
    · exact itoa_le _ (by omega) (by omega)
theorem in_big {n : Int} (h : -1000000000000000 ≤ n ∧ n ≤ 1000000000000000) : M.impl_in n (-1000000000000000) 1000000000000000 = true := by
  unfold M.impl_in
  have e1 : icmp .geq n (-1000000000000000) = true := by rw [icmp_geq]; exact decide_eq_true h.1
  have e2 : icmp .leq n 1000000000000000 = true := by rw [icmp_leq]; exact decide_eq_true h.2
  simp only [letv, e1, e2, cond_true]
/-- A text of whole numbers. -/
theorem ilist (xs : List Int) (hl : xs.length ≤ 64) (h : ∀ x ∈ xs, -1000000000000000 ≤ x ∧ x ≤ 1000000000000000) : M.impl_ListText xs = some (jtext 44 (xs.map Lib.itoa), true) := by
  unfold M.impl_ListText
  rw [loopM_list (s0 := (([], 0) : List (List UInt8) × Int)) xs (fun (a : List (List UInt8)) k => (a, (k : Int))) (fun a x => .inl (a ++ [Lib.itoa x])) (fun a => .inl a) (fun k a => a.length = k) ?_ ?_ [] rfl rfl]
  · have key : ∀ (l : List Int) (a : List (List UInt8)), foldE (fun (a : List (List UInt8)) (x : Int) => (.inl (a ++ [Lib.itoa x]) : List (List UInt8) ⊕ (List (List UInt8) ⊕ (List UInt8 × Bool)))) (fun a => .inl a) a l = .inl (a ++ l.map Lib.itoa) := by
      intro l
      induction l with
      | nil => intro a; simp [foldE_nil]
      | cons x l ih => intro a; rw [foldE_inl rfl, ih]; simp
    rw [key, Option.bind_some]
    simp only [sel, List.nil_append]
    rw [ijoined (xs.map Lib.itoa) 21 (fun x hx => by obtain ⟨y, hy, rfl⟩ := List.mem_map.1 hx; have := h y hy; exact itoa_le y (by omega) (by omega)) (by rw [List.length_map]; omega) (by rw [List.length_map]; omega), Option.bind_some]
  · rintro k a x hx hk
    have hlt := (List.getElem?_eq_some_iff.1 hx).1
    have hr := h x (List.mem_of_getElem? hx)
    have e1 : icmp .eql (a.length : Int) 64 = false := by simp only [icmp_eql, beq_eq_false_iff_ne]; omega
    dsimp only
    rw [lss_lt hlt, cond_true, idx_nat, hx, Option.bind_some]
    simp only [letv, in_big hr, cond_true, e1, cond_false]
    rw [idec _ (by omega) (by omega), Option.bind_some, app_small (by simp only [List.length_singleton]; omega), Option.bind_some, succ_wrap (by omega)]
    exact ⟨rfl, by rw [List.length_append, List.length_singleton, hk]⟩
  · rintro a _
    dsimp only
    rw [lss_self, cond_false]

def rtext (r : SRod) : List UInt8 := jtext 44 [Lib.itoa r.a, Lib.itoa r.b] ++ [58] ++ ntext [r.long]
def rodIn (r : SRod) : Prop := 0 ≤ r.a ∧ r.a ≤ 100 ∧ 0 ≤ r.b ∧ r.b ≤ 100
theorem ab_len {r : SRod} (h : rodIn r) : (jtext 44 [Lib.itoa r.a, Lib.itoa r.b]).length ≤ 48 := by
  have := jtext_len 44 21 [Lib.itoa r.a, Lib.itoa r.b] (fun x hx => by
    have : x = Lib.itoa r.a ∨ x = Lib.itoa r.b := by simpa using hx
    rcases this with rfl | rfl
    · exact itoa_le _ (by have := h.1; omega) (by have := h.2.1; omega)
    · exact itoa_le _ (by have := h.2.2.1; omega) (by have := h.2.2.2; omega))
  simpa using this
theorem rtext_len {r : SRod} (h : rodIn r) : (rtext r).length ≤ 62 := by
  have h1 := ab_len h
  have h2 := ntext_len [r.long]
  unfold rtext
  simp only [List.length_append, List.length_cons, List.length_nil] at *
  omega
theorem srod {r : SRod} (h : rodIn r) : ((M.spec_l01Text ([r.a, r.b])).bind fun m10 => (scat m10 ([58] : List UInt8)).bind fun m11 => (M.spec_l01NText ([r.long])).bind fun m13 => scat m11 m13) = some (rtext r) := by
  have h1 := ab_len h
  have h2 := ntext_len [r.long]
  obtain ⟨a1, a2, a3, a4⟩ := h
  simp only [List.length_cons, List.length_nil] at h2
  rw [stext2 _ _ (by omega) (by omega), Option.bind_some, scat_ok (by simp only [List.length_singleton]; omega), Option.bind_some, sntext _ (by simp), Option.bind_some, scat_ok (by simp only [List.length_append, List.length_singleton]; omega)]
  rfl
theorem srods (rs : List SRod) (hl : rs.length ≤ 1000) (h : ∀ r ∈ rs, rodIn r) : M.spec_l08Rods rs = some (jtext 47 (rs.map rtext)) := by
  unfold M.spec_l08Rods
  by_cases hn : rs = []
  · subst hn; rfl
  · have e0 : icmp .eql (rs.length : Int) 0 = false := by
      simp only [icmp_eql, beq_eq_false_iff_ne]
      have := List.length_pos_iff.2 hn
      omega
    rw [e0, cond_false]
    rw [loopM_list (s0 := (([], 0) : List UInt8 × Int)) rs (fun (a : List UInt8 × Nat) k => (a.1, (k : Int))) (fun a r => .inl (if a.2 = 0 then (rtext r, 1) else (a.1 ++ [47] ++ rtext r, a.2 + 1))) (fun a => a.1) (fun k a => a.2 = k ∧ a.1.length ≤ k * 63 ∧ (k = 0 → a.1 = [])) ?_ ?_ ([], 0) ⟨rfl, by simp, fun _ => rfl⟩ rfl]
    · rw [Option.bind_some]
      have key : ∀ (l : List SRod) (o : List UInt8) (n : Nat), n ≠ 0 → foldE (fun (a : List UInt8 × Nat) (r : SRod) => (.inl (if a.2 = 0 then (rtext r, 1) else (a.1 ++ [47] ++ rtext r, a.2 + 1)) : (List UInt8 × Nat) ⊕ List UInt8)) (fun a => a.1) (o, n) l = o ++ Lib.joinTail [47] (l.map rtext) := by
        intro l
        induction l with
        | nil => intro o n _; simp [foldE_nil, Lib.joinTail]
        | cons x l ih =>
          intro o n hn
          rw [foldE_inl (a' := (o ++ [47] ++ rtext x, n + 1)) (by rw [if_neg hn]), ih _ _ (by omega)]
          simp [Lib.joinTail]
      cases rs with
      | nil => exact absurd rfl hn
      | cons x l =>
        rw [foldE_inl (a' := (rtext x, 1)) (by rw [if_pos rfl]), key _ _ _ (by omega)]
        unfold jtext
        rw [if_neg (by simp), List.map_cons, Lib.join_cons]
    · rintro k ⟨out, n⟩ r hx ⟨h1, h2, h3⟩
      simp only at h1 h2 h3
      subst h1
      have hlt := (List.getElem?_eq_some_iff.1 hx).1
      have hr := h r (List.mem_of_getElem? hx)
      have hrl := rtext_len hr
      have hs := srod hr
      have s1 : ∀ {X : Type} (f : List UInt8 → Option X), ((M.spec_l01Text ([r.a, r.b])).bind fun m10 => (scat m10 ([58] : List UInt8)).bind fun m11 => (M.spec_l01NText ([r.long])).bind fun m13 => (scat m11 m13).bind f) = f (rtext r) := by
        intro X f
        have : ((M.spec_l01Text ([r.a, r.b])).bind fun m10 => (scat m10 ([58] : List UInt8)).bind fun m11 => (M.spec_l01NText ([r.long])).bind fun m13 => (scat m11 m13).bind f) = (((M.spec_l01Text ([r.a, r.b])).bind fun m10 => (scat m10 ([58] : List UInt8)).bind fun m11 => (M.spec_l01NText ([r.long])).bind fun m13 => scat m11 m13)).bind f := by
          simp only [Option.bind_assoc]
        rw [this, hs, Option.bind_some]
      dsimp only
      rw [lss_lt hlt, cond_true, idx_nat, hx]
      simp only [Option.bind_some]
      by_cases hz : n = 0
      · subst hz
        have e2 : icmp .gtr ((0 : Nat) : Int) 0 = false := rfl
        rw [e2, cond_false, s1, h3 rfl, scat_ok (by simp only [List.length_nil]; omega), Option.bind_some, succ_wrap (by omega), if_pos rfl]
        exact ⟨rfl, rfl, by simp only; omega, fun h => by omega⟩
      · have e2 : icmp .gtr (n : Int) 0 = true := by rw [icmp_gtr]; exact decide_eq_true (by omega)
        have hnb : n * 63 ≤ 1000 * 63 := Nat.mul_le_mul_right _ (by omega)
        rw [e2, cond_true, scat_ok (by simp only [List.length_singleton]; omega), Option.bind_some, s1, scat_ok (by simp only [List.length_append, List.length_singleton]; omega), Option.bind_some, succ_wrap (by omega), if_neg hz]
        refine ⟨rfl, rfl, ?_, fun h => by omega⟩
        simp only [List.length_append, List.length_singleton]
        omega
    · rintro ⟨out, n⟩ _
      dsimp only
      rw [lss_self, cond_false]
theorem irods (rs : List SRod) (hl : rs.length ≤ 1000) (h : ∀ r ∈ rs, rodIn r) : (loopM (fun (s18 : List (List UInt8) × Int) =>
        bif (icmp .lss s18.2 ((rs).length : Int)) then
          (idx rs s18.2).bind fun m20 =>
          (M.impl_ListText ([m20.a, m20.b])).bind fun m39 =>
          (scat m39.1 ([58] : List UInt8)).bind fun m45 =>
          (M.impl_numbersText ([m20.long])).bind fun m54 =>
          (scat m45 m54).bind fun m60 =>
          (app 16 s18.1 ([m60])).bind fun m71 =>
          some (.inl (m71, (IntKind.i64.wrap (s18.2 + 1))))
        else
          some (.inr s18.1)) ((([] : List (List UInt8)), 0) : List (List UInt8) × Int)) = some (rs.map rtext) := by
  rw [collectLoop rs rtext _ ?_ ?_]
  · intro k out r hx hk
    have hlt := (List.getElem?_eq_some_iff.1 hx).1
    have hr := h r (List.mem_of_getElem? hx)
    have h1 := ab_len hr
    have h2 := ntext_len [r.long]
    obtain ⟨a1, a2, a3, a4⟩ := hr
    simp only [List.length_cons, List.length_nil] at h2
    dsimp only
    rw [lss_lt hlt, cond_true, idx_nat, hx, Option.bind_some, ilist [r.a, r.b] (by simp) (fun x hx => by
      have : x = r.a ∨ x = r.b := by simpa using hx
      rcases this with rfl | rfl <;> omega), Option.bind_some]
    simp only [List.map_cons, List.map_nil]
    rw [scat_ok (by simp only [List.length_singleton]; omega), Option.bind_some, intext2 _ (by simp), Option.bind_some, scat_ok (by simp only [List.length_append, List.length_singleton]; omega), Option.bind_some,
      app_small (by simp only [List.length_singleton]; omega), Option.bind_some, succ_wrap (by omega)]
    rfl
  · intro out
    dsimp only
    rw [lss_self, cond_false]

/-- A rod that is right among so many places. -/
def rodP (n : Nat) (r : SRod) : Bool := decide (0 ≤ r.a ∧ r.a ≤ (n : Int) - 1 ∧ 0 ≤ r.b ∧ r.b ≤ (n : Int) - 1 ∧ r.a ≠ r.b) && M.spec_l03Least r.long
def sizesB (c : SChain) : Bool := decide (c.places.length ≤ 24 ∧ c.before.length = c.places.length ∧ c.weights.length = c.places.length ∧ c.rods.length ≤ 40)
def placesB (c : SChain) : Bool := c.places.all M.spec_l01VFinite && c.before.all M.spec_l01VFinite && c.weights.all M.spec_l03Least
/-- A chain that is right. -/
def validB (c : SChain) : Bool := sizesB c && placesB c && c.rods.all (rodP c.places.length)

theorem sizes_eq (c : SChain) : (bif (icmp .gtr ((c.places).length : Int) 24) then true else bif (icmp .neq ((c.before).length : Int) ((c.places).length : Int)) then true else bif (icmp .neq ((c.weights).length : Int) ((c.places).length : Int)) then true else (icmp .gtr ((c.rods).length : Int) 40)) = !(sizesB c) := by
  unfold sizesB
  rw [icmp_gtr, icmp_neq, icmp_neq, icmp_gtr]
  by_cases h1 : c.places.length ≤ 24
  · rw [decide_eq_false (by omega : ¬ (c.places.length : Int) > 24), cond_false]
    by_cases h2 : c.before.length = c.places.length
    · have e2 : (((c.before).length : Int) != ((c.places).length : Int)) = false := by simp [h2]
      rw [e2, cond_false]
      by_cases h3 : c.weights.length = c.places.length
      · have e3 : (((c.weights).length : Int) != ((c.places).length : Int)) = false := by simp [h3]
        rw [e3, cond_false]
        by_cases h4 : c.rods.length ≤ 40
        · rw [decide_eq_false (by omega : ¬ (c.rods.length : Int) > 40), decide_eq_true ⟨h1, h2, h3, h4⟩]; rfl
        · rw [decide_eq_true (by omega : (c.rods.length : Int) > 40), decide_eq_false (fun h => h4 h.2.2.2)]; rfl
      · have e3 : (((c.weights).length : Int) != ((c.places).length : Int)) = true := by simp only [bne_iff_ne, ne_eq]; omega
        rw [e3, cond_true, decide_eq_false (fun h => h3 h.2.2.1)]; rfl
    · have e2 : (((c.before).length : Int) != ((c.places).length : Int)) = true := by simp only [bne_iff_ne, ne_eq]; omega
      rw [e2, cond_true, decide_eq_false (fun h => h2 h.2.1)]; rfl
  · rw [decide_eq_true (by omega : (c.places.length : Int) > 24), cond_true, decide_eq_false (fun h => h1 h.1)]; rfl

theorem sodP (c : SChain) (hn : c.places.length ≤ 24) (r : SRod) : (letv (letv (M.spec_l00In r.a 0 (IntKind.i64.wrap (((c.places).length : Int) - 1))) fun m56 =>
                bif m56 then
                  letv (M.spec_l00In r.b 0 (IntKind.i64.wrap (((c.places).length : Int) - 1))) fun m61 =>
                  bif m61 then
                    bif (icmp .eql r.a r.b) then
                      true
                    else
                      letv (M.spec_l03Least r.long) fun m67 =>
                      (!m67)
                  else
                    true
                else
                  true) fun m55 => m55) = !(rodP c.places.length r) := by
  rw [wrap_in (by omega)]
  unfold rodP M.spec_l00In
  simp only [letv, icmp_geq, icmp_leq, icmp_eql]
  generalize (c.places.length : Int) - 1 = m
  by_cases h1 : 0 ≤ r.a
  · by_cases h2 : r.a ≤ m
    · by_cases h3 : 0 ≤ r.b
      · by_cases h4 : r.b ≤ m
        · by_cases h5 : r.a = r.b
          · have e5 : (r.a == r.b) = true := by simpa using h5
            rw [decide_eq_true h1, decide_eq_true h2, decide_eq_true h3, decide_eq_true h4, e5, decide_eq_false (p := 0 ≤ r.a ∧ r.a ≤ m ∧ 0 ≤ r.b ∧ r.b ≤ m ∧ r.a ≠ r.b) (fun h => h.2.2.2.2 h5)]; rfl
          · have e5 : (r.a == r.b) = false := by simpa using h5
            rw [decide_eq_true h1, decide_eq_true h2, decide_eq_true h3, decide_eq_true h4, e5, decide_eq_true (p := 0 ≤ r.a ∧ r.a ≤ m ∧ 0 ≤ r.b ∧ r.b ≤ m ∧ r.a ≠ r.b) ⟨h1, h2, h3, h4, h5⟩]; simp
        · rw [decide_eq_true h1, decide_eq_true h2, decide_eq_true h3, decide_eq_false h4, decide_eq_false (p := 0 ≤ r.a ∧ r.a ≤ m ∧ 0 ≤ r.b ∧ r.b ≤ m ∧ r.a ≠ r.b) (fun h => h4 h.2.2.2.1)]; rfl
      · rw [decide_eq_true h1, decide_eq_true h2, decide_eq_false h3, decide_eq_false (p := 0 ≤ r.a ∧ r.a ≤ m ∧ 0 ≤ r.b ∧ r.b ≤ m ∧ r.a ≠ r.b) (fun h => h3 h.2.2.1)]; rfl
    · rw [decide_eq_true h1, decide_eq_false h2, decide_eq_false (p := 0 ≤ r.a ∧ r.a ≤ m ∧ 0 ≤ r.b ∧ r.b ≤ m ∧ r.a ≠ r.b) (fun h => h2 h.2.1)]; rfl
  · rw [decide_eq_false h1, decide_eq_false (p := 0 ≤ r.a ∧ r.a ≤ m ∧ 0 ≤ r.b ∧ r.b ≤ m ∧ r.a ≠ r.b) (fun h => h1 h.1)]; rfl
theorem iodP (c : SChain) (hn : c.places.length ≤ 24) (r : SRod) : M.impl_ValidChain_1 r c = !(rodP c.places.length r) := by
  unfold M.impl_ValidChain_1 M.impl_Chain_rodOk
  simp only [letv]
  rw [wrap_in (by omega)]
  unfold rodP M.impl_in
  have el : M.impl_levelOk r.long = M.spec_l03Least r.long := rfl
  simp only [letv, icmp_geq, icmp_leq, icmp_neq, el]
  generalize (c.places.length : Int) - 1 = m
  by_cases h1 : 0 ≤ r.a
  · by_cases h2 : r.a ≤ m
    · by_cases h3 : 0 ≤ r.b
      · by_cases h4 : r.b ≤ m
        · by_cases h5 : r.a = r.b
          · have e5 : (r.a != r.b) = false := by simpa using h5
            rw [decide_eq_true h1, decide_eq_true h2, decide_eq_true h3, decide_eq_true h4, e5, decide_eq_false (p := 0 ≤ r.a ∧ r.a ≤ m ∧ 0 ≤ r.b ∧ r.b ≤ m ∧ r.a ≠ r.b) (fun h => h.2.2.2.2 h5)]; rfl
          · have e5 : (r.a != r.b) = true := by simpa using h5
            rw [decide_eq_true h1, decide_eq_true h2, decide_eq_true h3, decide_eq_true h4, e5, decide_eq_true (p := 0 ≤ r.a ∧ r.a ≤ m ∧ 0 ≤ r.b ∧ r.b ≤ m ∧ r.a ≠ r.b) ⟨h1, h2, h3, h4, h5⟩]; simp
        · rw [decide_eq_true h1, decide_eq_true h2, decide_eq_true h3, decide_eq_false h4, decide_eq_false (p := 0 ≤ r.a ∧ r.a ≤ m ∧ 0 ≤ r.b ∧ r.b ≤ m ∧ r.a ≠ r.b) (fun h => h4 h.2.2.2.1)]; rfl
      · rw [decide_eq_true h1, decide_eq_true h2, decide_eq_false h3, decide_eq_false (p := 0 ≤ r.a ∧ r.a ≤ m ∧ 0 ≤ r.b ∧ r.b ≤ m ∧ r.a ≠ r.b) (fun h => h3 h.2.2.1)]; rfl
    · rw [decide_eq_true h1, decide_eq_false h2, decide_eq_false (p := 0 ≤ r.a ∧ r.a ≤ m ∧ 0 ≤ r.b ∧ r.b ≤ m ∧ r.a ≠ r.b) (fun h => h2 h.2.1)]; rfl
  · rw [decide_eq_false h1, decide_eq_false (p := 0 ≤ r.a ∧ r.a ≤ m ∧ 0 ≤ r.b ∧ r.b ≤ m ∧ r.a ≠ r.b) (fun h => h1 h.1)]; rfl

theorem any_not {α : Type} (xs : List α) (p : α → Bool) : xs.any (fun x => !(p x)) = !(xs.all p) := by
  induction xs with
  | nil => rfl
  | cons x l ih => rw [List.any_cons, List.all_cons, ih]; cases p x <;> rfl
theorem icontV (xs : List SVector) (hl : xs.length ≤ 100000) : M.slices_ContainsFunc___impl_Vector_impl_Vector__f141 xs = some (!(xs.all M.spec_l01VFinite)) := by
  unfold M.slices_ContainsFunc___impl_Vector_impl_Vector__f141 M.slices_IndexFunc___impl_Vector_impl_Vector__f141
  rw [← any_not]
  refine containsLoop (anyLoop xs _ _ ?_ ?_)
  · intro k x hx
    have hlt := (List.getElem?_eq_some_iff.1 hx).1
    have e : M.impl_badVector x = some (!(M.spec_l01VFinite x)) := by unfold M.impl_badVector; rw [ifinV]; rfl
    rw [lss_lt hlt, cond_true, idx_nat, hx, Option.bind_some, e, Option.bind_some, succ_wrap (by omega)]
    cases M.spec_l01VFinite x <;> rfl
  · rw [lss_self, cond_false]
theorem icontF (xs : List Nat) (hl : xs.length ≤ 100000) : M.slices_ContainsFunc___float32_float32__f143 xs = some (!(xs.all M.spec_l03Least)) := by
  unfold M.slices_ContainsFunc___float32_float32__f143 M.slices_IndexFunc___float32_float32__f143
  rw [← any_not]
  refine containsLoop (anyLoop xs _ _ ?_ ?_)
  · intro k x hx
    have hlt := (List.getElem?_eq_some_iff.1 hx).1
    have e : M.impl_badLevel x = !(M.spec_l03Least x) := rfl
    rw [lss_lt hlt, cond_true, idx_nat, hx, Option.bind_some, e, succ_wrap (by omega)]
    cases M.spec_l03Least x <;> rfl
  · rw [lss_self, cond_false]
theorem icontR (xs : List SRod) (hl : xs.length ≤ 100000) (c : SChain) (hn : c.places.length ≤ 24) : M.slices_ContainsFunc___impl_Rod_impl_Rod__f145 xs c = some (!(xs.all (rodP c.places.length))) := by
  unfold M.slices_ContainsFunc___impl_Rod_impl_Rod__f145 M.slices_IndexFunc___impl_Rod_impl_Rod__f145
  rw [← any_not]
  refine containsLoop (anyLoop xs _ _ ?_ ?_)
  · intro k x hx
    have hlt := (List.getElem?_eq_some_iff.1 hx).1
    rw [lss_lt hlt, cond_true, idx_nat, hx, Option.bind_some, iodP c hn, succ_wrap (by omega)]
    cases rodP c.places.length x <;> rfl
  · rw [lss_self, cond_false]

theorem sizes_of {c : SChain} (h : sizesB c = true) : c.places.length ≤ 24 ∧ c.before.length = c.places.length ∧ c.weights.length = c.places.length ∧ c.rods.length ≤ 40 := of_decide_eq_true h
theorem iValidChain (c : SChain) : M.impl_ValidChain c = some (validB c) := by
  unfold M.impl_ValidChain validB
  simp only [letv, sizes_eq]
  cases hs : sizesB c with
  | false => rfl
  | true =>
    obtain ⟨h1, h2, h3, h4⟩ := sizes_of hs
    have eta : (⟨c.places, c.before, c.weights, c.rods⟩ : SChain) = c := rfl
    rw [Bool.not_true, cond_false, icontV _ (by omega), Option.bind_some, icontV _ (by omega), Option.bind_some, icontF _ (by omega), eta, icontR _ (by omega) c h1]
    unfold placesB
    cases c.places.all M.spec_l01VFinite <;> cases c.before.all M.spec_l01VFinite <;> cases c.weights.all M.spec_l03Least <;> simp

theorem all_get {α : Type} {xs : List α} {p : α → Bool} (h : xs.all p = true) {k : Nat} (hk : k < xs.length) : p xs[k] = true := List.all_eq_true.1 h _ (List.getElem_mem hk)
theorem all_of {α : Type} {xs : List α} {p : α → Bool} (h : ∀ k (hk : k < xs.length), p xs[k] = true) : xs.all p = true := List.all_eq_true.2 fun x hx => by
  obtain ⟨k, hk, rfl⟩ := List.getElem_of_mem hx
  exact h k hk
theorem sPlaces (c : SChain) (hs : sizesB c = true) : loopM (fun (s9 : Int) =>
        bif (icmp .lss s9 ((c.places).length : Int)) then
          (Option.bind (
              (idx c.places s9).bind fun m13 =>
              letv (M.spec_l01VFinite m13) fun m16 =>
              bif m16 then
                (idx c.before s9).bind fun m21 =>
                letv (M.spec_l01VFinite m21) fun m24 =>
                bif m24 then
                  (idx c.weights s9).bind fun m30 =>
                  letv (M.spec_l03Least m30) fun m33 =>
                  some (!m33)
                else
                  some true
              else
                some true) fun m11 =>
          bif m11 then
            some (.inr (.inr false))
          else
            some (.inl (IntKind.i64.wrap (s9 + 1))))
        else
          some (.inr (.inl ()))) (0 : Int) = some (if placesB c = true then .inl () else .inr false : Unit ⊕ Bool) := by
  obtain ⟨h1, h2, h3, h4⟩ := sizes_of hs
  have key := loopM_one (B := fun (s9 : Int) =>
        bif (icmp .lss s9 ((c.places).length : Int)) then
          (Option.bind (
              (idx c.places s9).bind fun m13 =>
              letv (M.spec_l01VFinite m13) fun m16 =>
              bif m16 then
                (idx c.before s9).bind fun m21 =>
                letv (M.spec_l01VFinite m21) fun m24 =>
                bif m24 then
                  (idx c.weights s9).bind fun m30 =>
                  letv (M.spec_l03Least m30) fun m33 =>
                  some (!m33)
                else
                  some true
              else
                some true) fun m11 =>
          bif m11 then
            some (.inr (.inr false))
          else
            some (.inl (IntKind.i64.wrap (s9 + 1))))
        else
          (some (.inr (.inl ())) : Option (Int ⊕ (Unit ⊕ Bool))))
    (fun n (s : Int) => ∃ k : Nat, s = k ∧ n = c.places.length - k ∧ k ≤ c.places.length ∧ ∀ j (_ : j < k) (hj : j < c.places.length), M.spec_l01VFinite c.places[j] = true ∧ M.spec_l01VFinite (c.before[j]'(by omega)) = true ∧ M.spec_l03Least (c.weights[j]'(by omega)) = true)
    (fun e => e = (if placesB c = true then .inl () else .inr false : Unit ⊕ Bool)) ?_ c.places.length 0 ⟨0, rfl, rfl, Nat.zero_le _, fun j hj => by omega⟩
  · obtain ⟨e, he, rfl⟩ := key
    exact he
  · rintro n s ⟨k, rfl, rfl, hk, hall⟩
    by_cases hlt : k < c.places.length
    · have b1 : c.places[k]? = some c.places[k] := List.getElem?_eq_getElem hlt
      have b2 : c.before[k]? = some (c.before[k]'(by omega)) := List.getElem?_eq_getElem _
      have b3 : c.weights[k]? = some (c.weights[k]'(by omega)) := List.getElem?_eq_getElem _
      simp only [letv, lss_lt hlt, cond_true, idx_nat, b1, b2, b3, Option.bind_some]
      have bad : (M.spec_l01VFinite c.places[k] = true ∧ M.spec_l01VFinite (c.before[k]'(by omega)) = true ∧ M.spec_l03Least (c.weights[k]'(by omega)) = true) ∨ placesB c = false := by
        by_cases hp : placesB c = true
        · left
          unfold placesB at hp
          simp only [Bool.and_eq_true] at hp
          exact ⟨all_get hp.1.1 hlt, all_get hp.1.2 (by omega), all_get hp.2 (by omega)⟩
        · right; simpa using hp
      cases g1 : M.spec_l01VFinite c.places[k] with
      | false =>
        have := bad.resolve_left (fun h => by rw [g1] at h; cases h.1)
        rw [this]
        exact .inl ⟨_, rfl, rfl⟩
      | true =>
        cases g2 : M.spec_l01VFinite (c.before[k]'(by omega)) with
        | false =>
          have := bad.resolve_left (fun h => by rw [g2] at h; cases h.2.1)
          rw [this]
          exact .inl ⟨_, rfl, rfl⟩
        | true =>
          cases g3 : M.spec_l03Least (c.weights[k]'(by omega)) with
          | false =>
            have := bad.resolve_left (fun h => by rw [g3] at h; cases h.2.2)
            rw [this]
            exact .inl ⟨_, rfl, rfl⟩
          | true =>
            refine .inr ⟨((k + 1 : Nat) : Int), c.places.length - (k + 1), ?_, by omega, k + 1, rfl, rfl, hlt, ?_⟩
            · simp only [cond_true, Bool.not_true, Option.bind_some, cond_false]
              rw [succ_wrap (by omega)]
            · intro j hj hjl
              by_cases e : j = k
              · subst e; exact ⟨g1, g2, g3⟩
              · exact hall j (by omega) hjl
    · have e : k = c.places.length := by omega
      subst e
      rw [lss_self, cond_false]
      refine .inl ⟨_, rfl, ?_⟩
      have hp : placesB c = true := by
        unfold placesB
        simp only [Bool.and_eq_true]
        exact ⟨⟨all_of fun k hk => (hall k hk hk).1, all_of fun k hk => (hall k (by omega) (by omega)).2.1⟩, all_of fun k hk => (hall k (by omega) (by omega)).2.2⟩
      rw [if_pos hp]
theorem sValidChain (c : SChain) : M.spec_l03Is c = some (validB c) := by
  unfold M.spec_l03Is validB
  simp only [sizes_eq]
  cases hs : sizesB c with
  | false => rfl
  | true =>
    obtain ⟨h1, h2, h3, h4⟩ := sizes_of hs
    simp only [letv, Bool.not_true, cond_false]
    have hsp := sPlaces c hs
    simp only [letv] at hsp
    rw [hsp, Option.bind_some]
    cases hp : placesB c with
    | false => rfl
    | true =>
      rw [if_pos rfl]
      simp only [sel, Bool.and_self, Bool.true_and]
      rw [loopM_list (s0 := (0 : Int)) c.rods (fun (_ : Unit) k => (k : Int)) (fun _ r => if rodP c.places.length r = true then .inl () else .inr (.inr false)) (fun _ => .inl ()) (fun _ _ => True) ?_ ?_ () trivial rfl]
      · have key : ∀ (l : List SRod), foldE (fun (_ : Unit) (r : SRod) => if rodP c.places.length r = true then (.inl () : Unit ⊕ (Unit ⊕ Bool)) else .inr (.inr false)) (fun _ => .inl ()) () l = if l.all (rodP c.places.length) = true then .inl () else .inr false := by
          intro l
          induction l with
          | nil => rfl
          | cons r l ih =>
            cases hr : rodP c.places.length r with
            | true => rw [foldE_inl (a' := ()) (by rw [hr]; rfl), ih, List.all_cons, hr, Bool.true_and]
            | false => rw [foldE_inr (e := .inr false) (by rw [hr]; rfl), List.all_cons, hr, Bool.false_and]; rfl
        rw [key, Option.bind_some]
        cases c.rods.all (rodP c.places.length) <;> rfl
      · rintro k a r hx _
        have hlt := (List.getElem?_eq_some_iff.1 hx).1
        have ho := sodP c h1 r
        simp only [letv] at ho
        rw [lss_lt hlt, cond_true, idx_nat, hx, Option.bind_some, ho, succ_wrap (by omega)]
        cases rodP c.places.length r with
        | true => exact ⟨rfl, trivial⟩
        | false => rfl
      · rintro a _
        rw [lss_self, cond_false]

def ctext (c : SChain) : List UInt8 := vstext c.places ++ [59] ++ vstext c.before ++ [59] ++ ntext c.weights ++ [59] ++ jtext 47 (c.rods.map rtext)
theorem vstext_len (vs : List SVector) : (vstext vs).length ≤ vs.length * 32 + 4 := by
  have := jtext_len 47 31 (vs.map vtext) (fun x hx => by obtain ⟨y, _, rfl⟩ := List.mem_map.1 hx; exact vtext_len y)
  rw [List.length_map] at this
  exact this
theorem rods_in {c : SChain} (h : validB c = true) : ∀ r ∈ c.rods, rodIn r := by
  unfold validB at h
  simp only [Bool.and_eq_true] at h
  obtain ⟨h1, _, _, _⟩ := sizes_of h.1.1
  intro r hr
  have := List.all_eq_true.1 h.2 r hr
  unfold rodP at this
  simp only [Bool.and_eq_true, decide_eq_true_eq] at this
  obtain ⟨⟨a1, a2, a3, a4, _⟩, _⟩ := this
  exact ⟨a1, by omega, a3, by omega⟩
theorem rodst_len {rs : List SRod} (h : ∀ r ∈ rs, rodIn r) : (jtext 47 (rs.map rtext)).length ≤ rs.length * 63 + 4 := by
  have := jtext_len 47 62 (rs.map rtext) (fun x hx => by obtain ⟨y, hy, rfl⟩ := List.mem_map.1 hx; exact rtext_len (h y hy))
  rw [List.length_map] at this
  exact this

theorem sChainText (c : SChain) : M.spec_ChainText c = some (if validB c = true then (ctext c, true) else ([], false)) := by
  unfold M.spec_ChainText
  rw [sValidChain, Option.bind_some]
  cases hv : validB c with
  | false => rfl
  | true =>
    have hr := rods_in hv
    have hv2 := hv
    unfold validB at hv2
    simp only [Bool.and_eq_true] at hv2
    obtain ⟨h1, h2, h3, h4⟩ := sizes_of hv2.1.1
    have l1 := vstext_len c.places
    have l2 := vstext_len c.before
    have l3 := ntext_len c.weights
    have l4 := rodst_len hr
    rw [Bool.not_true, cond_false, if_pos rfl]
    have q1 : c.places.length ≤ 1000000 := by omega
    have q2 : c.before.length ≤ 1000000 := by omega
    have q3 : c.weights.length ≤ 1000000 := by omega
    unfold M.spec_l08Chain
    rw [svectors c.places q1, Option.bind_some, scat_ok (by simp only [List.length_singleton]; omega), Option.bind_some, svectors c.before q2, Option.bind_some, scat_ok (by simp only [List.length_append, List.length_singleton]; omega), Option.bind_some,
      scat_ok (by simp only [List.length_append, List.length_singleton]; omega), Option.bind_some, sntext c.weights q3, Option.bind_some, scat_ok (by simp only [List.length_append, List.length_singleton]; omega), Option.bind_some, scat_ok (by simp only [List.length_append, List.length_singleton]; omega), Option.bind_some,
      srods _ (by omega) hr, Option.bind_some, scat_ok (by simp only [List.length_append, List.length_singleton]; omega), Option.bind_some, Option.bind_some]
    rfl
theorem join4 (a b c d : List UInt8) : Lib.join [a, b, c, d] [59] = a ++ [59] ++ b ++ [59] ++ c ++ [59] ++ d := by
  rw [Lib.join_cons]
  simp [Lib.joinTail]
theorem iChainText (c : SChain) : M.impl_ChainText c = some (if validB c = true then (ctext c, true) else ([], false)) := by
  unfold M.impl_ChainText
  rw [iValidChain, Option.bind_some]
  cases hv : validB c with
  | false => rfl
  | true =>
    have hr := rods_in hv
    have hv2 := hv
    unfold validB at hv2
    simp only [Bool.and_eq_true] at hv2
    obtain ⟨h1, h2, h3, h4⟩ := sizes_of hv2.1.1
    have l1 := vstext_len c.places
    have l2 := vstext_len c.before
    have l3 := ntext_len c.weights
    have l4 := rodst_len hr
    rw [Bool.not_true, cond_false, if_pos rfl, irods c.rods (by omega) hr, Option.bind_some, ivectors _ (by omega), Option.bind_some, ivectors _ (by omega), Option.bind_some, intext2 _ (by omega), Option.bind_some,
      ijoinedBy (c.rods.map rtext) 62 (fun x hx => by obtain ⟨y, hy, rfl⟩ := List.mem_map.1 hx; exact rtext_len (hr y hy)) (by rw [List.length_map]; omega) (by rw [List.length_map]; omega), Option.bind_some,
      sjoin_ok 10000 (fun x hx => by
        have : x = vstext c.places ∨ x = vstext c.before ∨ x = ntext c.weights ∨ x = jtext 47 (c.rods.map rtext) := by simpa using hx
        rcases this with rfl | rfl | rfl | rfl <;> omega) (by simp) (by simp), Option.bind_some, join4]
    rfl

theorem toVs (xs : List SVector) (h : xs.length ≤ 1048576) : M.laws_toVectorS xs = some xs := by
  unfold M.laws_toVectorS
  rw [mkl_ok (by omega), Option.bind_some, copyLoop _ xs _ ?_ ?_]
  · rfl
  · intro k s x y hx hy
    have hlt := (List.getElem?_eq_some_iff.1 hx).1
    dsimp only
    rw [lss_lt hlt, cond_true, idx_nat, hx, Option.bind_some]
    simp only [letv, idx_nat, hy, Option.bind_some, succ_wrap (show k ≤ 9223372036854775806 by omega), Int.toNat_natCast]
    rfl
  · intro s
    dsimp only
    rw [lss_self, cond_false]
theorem toFs (xs : List Nat) (h : xs.length ≤ 1048576) : M.laws_toFloat32S xs = some xs := by
  unfold M.laws_toFloat32S
  rw [mkl_ok (by omega), Option.bind_some, copyLoop _ xs _ ?_ ?_]
  · rfl
  · intro k s x y hx hy
    have hlt := (List.getElem?_eq_some_iff.1 hx).1
    dsimp only
    rw [lss_lt hlt, cond_true, idx_nat, hx, Option.bind_some]
    simp only [idx_nat, hy, Option.bind_some, succ_wrap (show k ≤ 9223372036854775806 by omega), Int.toNat_natCast]
  · intro s
    dsimp only
    rw [lss_self, cond_false]
theorem toRs (xs : List SRod) (h : xs.length ≤ 1048576) : M.laws_toRodS xs = some xs := by
  unfold M.laws_toRodS
  rw [mkl_ok (by omega), Option.bind_some, copyLoop _ xs _ ?_ ?_]
  · rfl
  · intro k s x y hx hy
    have hlt := (List.getElem?_eq_some_iff.1 hx).1
    dsimp only
    rw [lss_lt hlt, cond_true, idx_nat, hx, Option.bind_some]
    simp only [letv, idx_nat, hy, Option.bind_some, succ_wrap (show k ≤ 9223372036854775806 by omega), Int.toNat_natCast]
    rfl
  · intro s
    dsimp only
    rw [lss_self, cond_false]
def small (c : SChain) : Prop := c.places.length ≤ 1048576 ∧ c.before.length ≤ 1048576 ∧ c.weights.length ≤ 1048576 ∧ c.rods.length ≤ 1048576
theorem toCh (c : SChain) (h : small c) : M.laws_toChain c = some c := by
  unfold M.laws_toChain
  rw [toVs _ h.1, Option.bind_some, toVs _ h.2.1, Option.bind_some, toFs _ h.2.2.1, Option.bind_some, toRs _ h.2.2.2, Option.bind_some]

theorem neq_self (n : Int) : icmp .neq n n = false := by simp [icmp_neq]
theorem eqVs (xs : List SVector) (h : xs.length ≤ 1048576) : M.laws_eqVectorS xs xs = some true := by
  unfold M.laws_eqVectorS
  rw [neq_self, cond_false, eqLoop xs _ ?_ ?_]
  · rfl
  · intro k x hx
    have hlt := (List.getElem?_eq_some_iff.1 hx).1
    rw [lss_lt hlt, cond_true, idx_nat, hx, Option.bind_some, Option.bind_some]
    simp only [letv, eqV_self, Bool.not_true, cond_false, succ_wrap (show k ≤ 9223372036854775806 by omega)]
  · rw [lss_self, cond_false]
theorem eqFs (xs : List Nat) (h : xs.length ≤ 1048576) : M.laws_eqFloat32S xs xs = some true := by
  unfold M.laws_eqFloat32S
  rw [neq_self, cond_false, eqLoop xs _ ?_ ?_]
  · rfl
  · intro k x hx
    have hlt := (List.getElem?_eq_some_iff.1 hx).1
    rw [lss_lt hlt, cond_true, idx_nat, hx, Option.bind_some, Option.bind_some]
    simp only [letv, same_self, Bool.not_true, cond_false, succ_wrap (show k ≤ 9223372036854775806 by omega)]
  · rw [lss_self, cond_false]
theorem eqR_self (r : SRod) : M.laws_eqRod r r = true := by
  unfold M.laws_eqRod; simp only [letv, neq_self, same_self]; rfl
theorem eqRs (xs : List SRod) (h : xs.length ≤ 1048576) : M.laws_eqRodS xs xs = some true := by
  unfold M.laws_eqRodS
  rw [neq_self, cond_false, eqLoop xs _ ?_ ?_]
  · rfl
  · intro k x hx
    have hlt := (List.getElem?_eq_some_iff.1 hx).1
    rw [lss_lt hlt, cond_true, idx_nat, hx, Option.bind_some, Option.bind_some]
    simp only [letv, eqR_self, Bool.not_true, cond_false, succ_wrap (show k ≤ 9223372036854775806 by omega)]
  · rw [lss_self, cond_false]
theorem eqCh (c : SChain) (h : small c) : M.laws_eqChain c c = some true := by
  unfold M.laws_eqChain
  rw [eqVs _ h.1, Option.bind_some, eqVs _ h.2.1, Option.bind_some, eqFs _ h.2.2.1, Option.bind_some, eqRs _ h.2.2.2]
  rfl

theorem sz1 {n : Nat} {p : Int} (hn : n ≤ 9223372036854775807) (hp : 0 ≤ p ∧ p ≤ 1048576) : ∃ q : Int, (bif (icmp .lss (IntKind.i64.wrap (p - (n : Int))) 0) then -1 else (IntKind.i64.wrap (p - (n : Int)))) = q ∧ (q < 0 ∨ (0 ≤ q ∧ q ≤ 1048576 ∧ n ≤ 1048576)) := by
  have w : IntKind.i64.wrap (p - (n : Int)) = p - (n : Int) := wrap_in (by omega)
  rw [w]
  by_cases h : p - (n : Int) < 0
  · have e : icmp .lss (p - (n : Int)) 0 = true := by rw [icmp_lss]; exact decide_eq_true h
    exact ⟨-1, by rw [e]; rfl, .inl (by omega)⟩
  · have e : icmp .lss (p - (n : Int)) 0 = false := by rw [icmp_lss]; exact decide_eq_false h
    exact ⟨p - (n : Int), by rw [e, cond_false], .inr ⟨by omega, by omega, by omega⟩⟩
theorem szCh (c : SChain) (h1 : c.places.length ≤ 9223372036854775807) (h2 : c.before.length ≤ 9223372036854775807) (h3 : c.weights.length ≤ 9223372036854775807) (h4 : c.rods.length ≤ 9223372036854775807) : M.laws_szChain c 1048576 < 0 ∨ small c := by
  unfold M.laws_szChain M.laws_szVectorS M.laws_szFloat32S M.laws_szRodS
  simp only [letv]
  have low : ∀ q : Int, q < 0 → icmp .lss q 0 = true := fun q hq => by rw [icmp_lss]; exact decide_eq_true hq
  have high : ∀ q : Int, 0 ≤ q → icmp .lss q 0 = false := fun q hq => by rw [icmp_lss]; exact decide_eq_false (by omega)
  obtain ⟨q1, e1, d1⟩ := sz1 (p := 1048576) h1 (by omega)
  rw [e1]
  rcases d1 with d1 | ⟨a1, b1, c1⟩
  · rw [low _ d1, cond_true]; exact .inl (by omega)
  rw [high _ a1, cond_false]
  obtain ⟨q2, e2, d2⟩ := sz1 (p := q1) h2 ⟨a1, b1⟩
  rw [e2]
  rcases d2 with d2 | ⟨a2, b2, c2⟩
  · rw [low _ d2, cond_true]; exact .inl (by omega)
  rw [high _ a2, cond_false]
  obtain ⟨q3, e3, d3⟩ := sz1 (p := q2) h3 ⟨a2, b2⟩
  rw [e3]
  rcases d3 with d3 | ⟨a3, b3, c3⟩
  · rw [low _ d3, cond_true]; exact .inl (by omega)
  rw [high _ a3, cond_false]
  obtain ⟨q4, e4, d4⟩ := sz1 (p := q3) h4 ⟨a3, b3⟩
  rw [e4]
  rcases d4 with d4 | ⟨a4, b4, c4⟩
  · rw [low _ d4, cond_true]; exact .inl (by omega)
  exact .inr ⟨c1, c2, c3, c4⟩

/-- The law of ChainText. -/
theorem law_ChainText (c : SChain) (h1 : c.places.length ≤ 9223372036854775807) (h2 : c.before.length ≤ 9223372036854775807) (h3 : c.weights.length ≤ 9223372036854775807) (h4 : c.rods.length ≤ 9223372036854775807) : M.laws_FnExactChainText c = some true := by
  unfold M.laws_FnExactChainText
  simp only [letv]
  rcases szCh c h1 h2 h3 h4 with h | h
  · have e : icmp .lss (M.laws_szChain c 1048576) 0 = true := by rw [icmp_lss]; exact decide_eq_true h
    rw [e, cond_true]
  · have eta : (⟨c.places, c.before, c.weights, c.rods⟩ : SChain) = c := rfl
    cases icmp .lss (M.laws_szChain c 1048576) 0 with
    | true => rfl
    | false =>
      rw [cond_false, toCh c h, Option.bind_some, sChainText, Option.bind_some, Option.bind_some, eta, iChainText, Option.bind_some, Option.bind_some, eqCh c h]
      simp only [beq_self_eq_true, cond_true, Bool.not_true, cond_false, Option.bind_some]

end Go.Proofs
