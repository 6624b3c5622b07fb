import Derived.Test.YtdcienojgkioiaaRh
import Derived.LoopN
namespace Go.Rg
open Go Go.RowKit Go.Fl

/-- A value that is given a name. -/
def letv.{u, v} {α : Sort u} {β : Sort v} (a : α) (f : α → β) : β := f a
theorem letv_out.{u, v} {α : Sort u} {β : Sort v} {a : α} {f : α → β} {r : β} (h : letv a f = r) : ∃ m, a = m ∧ f m = r := ⟨a, rfl, h⟩
theorem bind_out {α β : Type} {x : Option α} {f : α → Option β} {r : β} (h : x.bind f = some r) : ∃ m, x = some m ∧ f m = some r := by
  cases x with
  | none => cases h
  | some m => exact ⟨m, rfl, h⟩
theorem bif_t {α : Type} {b : Bool} {x y z : α} (h : (bif b then x else y) = z) (hb : b = true) : x = z := by subst hb; exact h
theorem bif_f {α : Type} {b : Bool} {x y z : α} (h : (bif b then x else y) = z) (hb : b = false) : y = z := by subst hb; exact h

/-- The element with a number, none where there is none. -/
def idx {α : Type} (xs : List α) (i : Int) : Option α := if 0 ≤ i then xs[i.toNat]? else none
theorem idx_out {α : Type} {xs : List α} {i : Int} {x : α} (h : idx xs i = some x) : ∃ k : Nat, i = k ∧ xs[k]? = some x := by
  unfold idx at h
  split at h
  · exact ⟨i.toNat, by omega, h⟩
  · cases h
theorem idx_lt {α : Type} {xs : List α} {i : Int} {x : α} (h : idx xs i = some x) : 0 ≤ i ∧ i < xs.length := by
  obtain ⟨k, rfl, hk⟩ := idx_out h
  have := (List.getElem?_eq_some_iff.1 hk).1
  omega

/-- What a loop comes to: none where it does not end (or where a round has no answer). -/
def loopF {S E : Type} (B : S → Option (S ⊕ E)) : Nat → S → Option E
  | 0, _ => none
  | k + 1, s => match B s with
    | none => none
    | some (.inl s') => loopF B k s'
    | some (.inr e) => some e
open Classical in
noncomputable def loopM {S E : Type} (B : S → Option (S ⊕ E)) (s : S) : Option E := if h : ∃ k, (loopF B k s).isSome then loopF B (Classical.choose h) s else none

theorem loopF_more {S E : Type} {B : S → Option (S ⊕ E)} {e : E} : ∀ {k : Nat} {s : S}, loopF B k s = some e → ∀ m, loopF B (k + m) s = some e := by
  intro k
  induction k with
  | zero => intro s h; cases h
  | succ k ih =>
    intro s h m
    rw [show k + 1 + m = (k + m) + 1 by omega]
    unfold loopF at h ⊢
    cases hB : B s with
    | none => rw [hB] at h; cases h
    | some x => rw [hB] at h; cases x with
      | inl s' => exact ih h m
      | inr e' => exact h
theorem loopF_one {S E : Type} {B : S → Option (S ⊕ E)} {e e' : E} {k k' : Nat} {s : S} (h : loopF B k s = some e) (h' : loopF B k' s = some e') : e = e' := by
  have h1 := loopF_more h k'
  have h2 := loopF_more h' k
  rw [Nat.add_comm] at h2
  rw [h1] at h2
  exact Option.some.inj h2
theorem loopM_iff {S E : Type} {B : S → Option (S ⊕ E)} {s : S} {e : E} : loopM B s = some e ↔ ∃ k, loopF B k s = some e := by
  unfold loopM
  constructor
  · intro h
    split at h
    · exact ⟨_, h⟩
    · cases h
  · rintro ⟨k, hk⟩
    have hex : ∃ k, (loopF B k s).isSome := ⟨k, by rw [hk]; rfl⟩
    rw [dif_pos hex]
    obtain ⟨e', he⟩ := Option.isSome_iff_exists.1 (Classical.choose_spec hex)
    rw [he, loopF_one he hk]
/-- One round. -/
theorem loopM_eq {S E : Type} (B : S → Option (S ⊕ E)) (s : S) : loopM B s = match B s with
    | none => none
    | some (.inl s') => loopM B s'
    | some (.inr e) => some e := by
  apply Option.ext
  intro e
  rw [loopM_iff]
  constructor
  · rintro ⟨k, hk⟩
    cases k with
    | zero => cases hk
    | succ k =>
      unfold loopF at hk
      cases hB : B s with
      | none => rw [hB] at hk; cases hk
      | some x => rw [hB] at hk; cases x with
        | inl s' => exact loopM_iff.2 ⟨k, hk⟩
        | inr e' => exact hk
  · intro h
    cases hB : B s with
    | none => rw [hB] at h; cases h
    | some x => rw [hB] at h; cases x with
      | inl s' =>
        obtain ⟨k, hk⟩ := loopM_iff.1 h
        exact ⟨k + 1, by unfold loopF; rw [hB]; exact hk⟩
      | inr e' => exact ⟨1, by unfold loopF; rw [hB]; exact h⟩
theorem loopM_next {S E : Type} {B : S → Option (S ⊕ E)} {s s' : S} (h : B s = some (.inl s')) : loopM B s = loopM B s' := by rw [loopM_eq, h]
theorem loopM_end {S E : Type} {B : S → Option (S ⊕ E)} {s : S} {e : E} (h : B s = some (.inr e)) : loopM B s = some e := by rw [loopM_eq, h]

section
variable {P : Program} {n : Nat} {c : Code} {Q : Exit → Sig → World → Prop} {σ : Sig} {w : World}

/-- So many rounds at most. -/
def Wr (P : Program) (n : Nat) (c : Code) (Q : Exit → Sig → World → Prop) : Nat → Sig → World → Prop
  | 0, _, _ => False
  | k + 1, σ, w => W P n c (thenS (Wr P n c Q k) Q) σ w

theorem rounds_of_Wr : ∀ {k : Nat} {σ : Sig} {w : World} {a : Act}, Wr P n c Q k σ w → St n a σ → Code.rounds P c (fun e a' w' => ∃ σ', St n a' σ' ∧ Q e σ' w') k a w := by
  intro k
  induction k with
  | zero => intro σ w a h; exact h.elim
  | succ k ih =>
    intro σ w a h hs
    rw [rounds_succ]
    refine wp_mono (h a hs) ?_
    rintro e a' w' ⟨σ', h1, h2⟩
    cases e
    · exact ih h2 h1
    all_goals exact ⟨σ', h1, h2⟩

/-- A loop whose rounds are counted. -/
theorem W_rounds (k : Nat) (h : Wr P n c Q k σ w) : W P n (.loop c) Q σ w := fun _ hs => wp_loop_rounds k (rounds_of_Wr h hs)
theorem Wr_next {k : Nat} (h : W P n c (thenS (Wr P n c Q k) Q) σ w) : Wr P n c Q (k + 1) σ w := h

/-- A loop, told by a round's model. -/
theorem W_loopM {S E : Type} {B : S → Option (S ⊕ E)} {s0 : S} {e : E} (h : loopM B s0 = some e) (Inv : S → Sig → World → Prop) (QE : E → Exit → Sig → World → Prop) (h0 : Inv s0 σ w)
    (body : ∀ s σ w r, Inv s σ w → B s = some r → W P n c (thenS (fun σ' w' => ∃ s', r = .inl s' ∧ Inv s' σ' w') (fun ex σ' w' => ∃ e', r = .inr e' ∧ QE e' ex σ' w')) σ w)
    (after : ∀ ex σ' w', QE e ex σ' w' → Q ex σ' w') : W P n (.loop c) Q σ w := by
  obtain ⟨k, hk⟩ := loopM_iff.1 h
  refine W_rounds k ?_
  clear h
  induction k generalizing s0 σ w with
  | zero => cases hk
  | succ k ih =>
    unfold loopF at hk
    cases hB : B s0 with
    | none => rw [hB] at hk; cases hk
    | some r =>
      rw [hB] at hk
      refine (body s0 σ w r h0 hB).mono ?_
      intro ex σ' w' hx
      cases ex
      · obtain ⟨s', rfl, hI⟩ := hx
        exact ih hI hk
      all_goals
        obtain ⟨e', rfl, hq⟩ := hx
        cases hk
        exact after _ _ _ hq

end
end Go.Rg
