import Derived.Test.YtdcienojgkioiaaDoorSv
/- Slices' values by their parts; rows that are handed on. -/
namespace Go.Rg
open Go Go.RowKit Go.Fl

section
variable {E E2 : Type} {e : Enc E} {e2 : Enc E2} {v v0 u : Value} {xs xs0 : List E} {T : TypeId} {w : World}
theorem RS.vals (h : RS w e v xs) : ∃ a n c, v = .slice a n c := by
  obtain ⟨a, c, h⟩ := h.val
  exact ⟨a, _, c, h⟩
theorem OS.vals (h : OS w T e v xs) : ∃ a n c, v = .slice a n c := h.rs.vals

/-- A row that is another one, or none. -/
def Hand (v0 : Value) (xs0 : List E) (v : Value) (xs : List E) : Prop := (v = v0 ∧ xs = xs0) ∨ (v = .slice none 0 0 ∧ xs = [])
theorem Hand.os (h : Hand v0 xs0 v xs) (o : OS w T e v0 xs0) : OS w T e v xs := by
  rcases h with ⟨rfl, rfl⟩ | ⟨rfl, rfl⟩
  · exact o
  · exact OS.nil _ _ _
theorem Hand.rs (h : Hand v0 xs0 v xs) (o : RS w e v0 xs0) : RS w e v xs := by
  rcases h with ⟨rfl, rfl⟩ | ⟨rfl, rfl⟩
  · exact o
  · exact RS.nil _ _
theorem Hand.own (h : Hand v0 xs0 v xs) {n : Nat} (o : ∀ k, v0.ownBlock = some k → n ≤ k) : ∀ k, v.ownBlock = some k → n ≤ k := by
  rcases h with ⟨rfl, rfl⟩ | ⟨rfl, rfl⟩
  · exact o
  · intro k hk; cases hk
theorem Hand.lt (h : Hand v0 xs0 v xs) {n : Nat} (o : ∀ k, v0.ownBlock = some k → k < n) : ∀ k, v.ownBlock = some k → k < n := by
  rcases h with ⟨rfl, rfl⟩ | ⟨rfl, rfl⟩
  · exact o
  · intro k hk; cases hk
theorem Hand.nb (h : Hand v0 xs0 v xs) {b : Nat} (o : ¬ v0.ownBlock = some b) : ¬ v.ownBlock = some b := by
  rcases h with ⟨rfl, rfl⟩ | ⟨rfl, rfl⟩
  · exact o
  · intro hk; cases hk
theorem Hand.nr (h : Hand v0 xs0 v xs) (o : ∀ k, v0.ownBlock = some k → ¬ u.ownBlock = some k) : ∀ k, v.ownBlock = some k → ¬ u.ownBlock = some k := by
  rcases h with ⟨rfl, rfl⟩ | ⟨rfl, rfl⟩
  · exact o
  · intro k hk; cases hk
theorem Hand.nr2 (h : Hand v0 xs0 v xs) (o : ∀ k, u.ownBlock = some k → ¬ v0.ownBlock = some k) : ∀ k, u.ownBlock = some k → ¬ v.ownBlock = some k := by
  rcases h with ⟨rfl, rfl⟩ | ⟨rfl, rfl⟩
  · exact o
  · intro k _ hk; cases hk
end
theorem not_or2 {p q : Prop} (h : ¬ p) (k : ¬ q) : ¬ (p ∨ q) := fun x => x.elim h k

/-- Turned things of a drawn region, however many. -/
def AllN (Ds : List (Nat → Option TypeId → Prop)) (d : Option Nat) (k : Nat) (t : Option TypeId) : Nat → Prop
  | i => match Ds with
    | [] => True
    | D :: r => (d = some i ∨ ¬ D k t) ∧ AllN r d k t (i + 1)
theorem allN_get {d : Option Nat} {k : Nat} {t : Option TypeId} : ∀ {Ds : List (Nat → Option TypeId → Prop)} {i j : Nat} {D : Nat → Option TypeId → Prop}, AllN Ds d k t i → Ds[j]? = some D → d = some (i + j) ∨ ¬ D k t
  | [], _, _, _, _, h => by simp at h
  | D0 :: r, i, 0, D, h, hj => by
    unfold AllN at h
    simp only [List.getElem?_cons_zero, Option.some.injEq] at hj
    subst hj
    exact h.1
  | D0 :: r, i, j + 1, D, h, hj => by
    unfold AllN at h
    simp only [List.getElem?_cons_succ] at hj
    have := allN_get h.2 hj
    rwa [Nat.add_assoc, Nat.add_comm 1 j] at this
theorem not_othN {Ds : List (Nat → Option TypeId → Prop)} {d : Option Nat} {k : Nat} {t : Option TypeId} (h : AllN Ds d k t 0) : ¬ Oth Ds d k t := fun ⟨j, D, h1, h2, h3⟩ => by
  rcases allN_get h h1 with h4 | h4
  · rw [Nat.zero_add] at h4; exact h2 h4
  · exact h4 h3
theorem oth_ownN {Ds : List (Nat → Option TypeId → Prop)} {Q : Nat → Option TypeId → Prop} (h : ∀ D ∈ Ds, ∀ k t, D k t → Q k t) : ∀ k t, Oth Ds none k t → Q k t := fun k t ⟨_, D, h1, _, h3⟩ => h D (List.mem_of_getElem? h1) k t h3
theorem allD_nil {Q : Nat → Option TypeId → Prop} : ∀ D ∈ ([] : List (Nat → Option TypeId → Prop)), ∀ k t, D k t → Q k t := fun _ h => by cases h
theorem allD_cons {D0 : Nat → Option TypeId → Prop} {r : List (Nat → Option TypeId → Prop)} {Q : Nat → Option TypeId → Prop} (h : ∀ k t, D0 k t → Q k t) (hr : ∀ D ∈ r, ∀ k t, D k t → Q k t) : ∀ D ∈ (D0 :: r), ∀ k t, D k t → Q k t := fun D hD => by
  rcases List.mem_cons.1 hD with rfl | h2
  · exact h
  · exact hr D h2
end Go.Rg
