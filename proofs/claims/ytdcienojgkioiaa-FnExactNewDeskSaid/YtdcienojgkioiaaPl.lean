import Derived.Test.YtdcienojgkioiaaFb
import Derived.Test.YtdcienojgkioiaaRt
/- Plain lemmas on the models' words: loops that count, indices, comparisons; nothing of a program. -/
namespace Go.Rg
open Go Go.Fl

theorem wrap_in {n : Int} (h : -9223372036854775808 ≤ n ∧ n ≤ 9223372036854775807) : IntKind.i64.wrap n = n := IntWalk.i64_in n h

theorem icmp_lss (x y : Int) : icmp .lss x y = decide (x < y) := rfl
theorem icmp_leq (x y : Int) : icmp .leq x y = decide (x ≤ y) := rfl
theorem icmp_gtr (x y : Int) : icmp .gtr x y = decide (x > y) := rfl
theorem icmp_geq (x y : Int) : icmp .geq x y = decide (x ≥ y) := rfl
theorem icmp_eql (x y : Int) : icmp .eql x y = (x == y) := rfl
theorem icmp_neq (x y : Int) : icmp .neq x y = (x != y) := rfl

theorem idx_nat {α : Type} (xs : List α) (k : Nat) : idx xs (k : Int) = xs[k]? := by
  unfold idx
  rw [if_pos (by omega)]
  simp

/-- A loop that goes on m times and then ends. -/
theorem loopM_run {S E : Type} {B : S → Option (S ⊕ E)} {e : E} : ∀ (m : Nat) (st : Nat → S), (∀ k, k < m → B (st k) = some (.inl (st (k + 1)))) → B (st m) = some (.inr e) → loopM B (st 0) = some e := by
  intro m
  induction m with
  | zero => intro st _ he; exact loopM_end he
  | succ m ih =>
    intro st h he
    rw [loopM_next (h 0 (by omega))]
    exact ih (fun k => st (k + 1)) (fun k hk => h (k + 1) (by omega)) he

theorem loopM_run' {S E : Type} {B : S → Option (S ⊕ E)} {e : E} {s0 : S} (m : Nat) (st : Nat → S) (hs : s0 = st 0) (h : ∀ k, k < m → B (st k) = some (.inl (st (k + 1)))) (he : B (st m) = some (.inr e)) : loopM B s0 = some e := by
  rw [hs]; exact loopM_run m st h he

theorem app_small {α : Type} {b : Nat} {xs ys : List α} (h : (xs.length + ys.length) * b ≤ 140737488355328) : app b xs ys = some (xs ++ ys) := by
  unfold app; rw [if_pos h]

/-- Two loops in step: what holds of the states at each round holds at the ends. -/
theorem loopM_two {S1 E1 S2 E2 : Type} {B1 : S1 → Option (S1 ⊕ E1)} {B2 : S2 → Option (S2 ⊕ E2)} (R : Nat → S1 → S2 → Prop) (Q : E1 → E2 → Prop)
    (h : ∀ n s1 s2, R n s1 s2 → (∃ e1 e2, B1 s1 = some (.inr e1) ∧ B2 s2 = some (.inr e2) ∧ Q e1 e2) ∨ (∃ t1 t2 m, B1 s1 = some (.inl t1) ∧ B2 s2 = some (.inl t2) ∧ m < n ∧ R m t1 t2)) :
    ∀ n s1 s2, R n s1 s2 → ∃ e1 e2, loopM B1 s1 = some e1 ∧ loopM B2 s2 = some e2 ∧ Q e1 e2 := by
  intro n
  induction n using Nat.strongRecOn with
  | ind n ih =>
    intro s1 s2 hR
    rcases h n s1 s2 hR with ⟨e1, e2, h1, h2, hq⟩ | ⟨t1, t2, m, h1, h2, hm, hR'⟩
    · exact ⟨e1, e2, loopM_end h1, loopM_end h2, hq⟩
    · rw [loopM_next h1, loopM_next h2]
      exact ih m hm t1 t2 hR'

/-- A loop, by a measure. -/
theorem loopM_one {S E : Type} {B : S → Option (S ⊕ E)} (R : Nat → S → Prop) (Q : E → Prop)
    (h : ∀ n s, R n s → (∃ e, B s = some (.inr e) ∧ Q e) ∨ (∃ t m, B s = some (.inl t) ∧ m < n ∧ R m t)) :
    ∀ n s, R n s → ∃ e, loopM B s = some e ∧ Q e := by
  intro n
  induction n using Nat.strongRecOn with
  | ind n ih =>
    intro s hR
    rcases h n s hR with ⟨e, h1, hq⟩ | ⟨t, m, h1, hm, hR'⟩
    · exact ⟨e, loopM_end h1, hq⟩
    · rw [loopM_next h1]
      exact ih m hm t hR'

theorem letv_eq.{u, v} {α : Sort u} {β : Sort v} (a : α) (f : α → β) : letv a f = f a := rfl

end Go.Rg
namespace Go.Fl
open Go Go.Rg Ieee

/-- What a program asks to tell a number. -/
def fin (x : Nat) : Bool := fcmp .eql .f32 (fop .sub .f32 x x) 0
theorem fin_spec {x : Nat} : fin x = true ↔ Fin .f32 x := fin_iff

theorem fin_add' {x y : Nat} (h : fin (fop .add .f32 x y) = true) : fin x = true ∧ fin y = true := by
  rw [fin_spec] at *; rw [fin_spec]; exact fin_add h
theorem fin_sub' {x y : Nat} (h : fin (fop .sub .f32 x y) = true) : fin x = true ∧ fin y = true := by
  rw [fin_spec] at *; rw [fin_spec]; exact fin_sub h
theorem fin_mul' {x y : Nat} (h : fin (fop .mul .f32 x y) = true) : fin x = true ∧ fin y = true := by
  rw [fin_spec] at *; rw [fin_spec]; exact fin_mul h

/-- Whether two floats are the same to the laws: a float is the same as itself. -/
theorem ne_self' (k : FloatKind) (x : Nat) : fcmp .neq k x x = isNaN k x := ne_self
theorem eq_self' {k : FloatKind} {x : Nat} (h : isNaN k x = false) : fcmp .eql k x x = true := eq_self h
theorem isNaN_fint (k : FloatKind) (n : Int) : isNaN k (fint k n) = false := isNaN_nearest k _ _ _
theorem fint_same (k : FloatKind) (n : Int) : fcmp .neq k (fint k n) (fint k n) = false := by rw [ne_self, isNaN_fint]

end Go.Fl
