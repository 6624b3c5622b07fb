import Derived.Test.YtdcienojgkioiaaRm
/- Models that can be reckoned: their loops count their rounds. What such a model gives, the model gives. -/
namespace Go.Rg

/-- What one gives, the other gives. -/
def Le {α : Type} (x y : Option α) : Prop := ∀ r, x = some r → y = some r
theorem Le.refl {α : Type} (x : Option α) : Le x x := fun _ h => h
theorem Le.bind {α β : Type} {x y : Option α} {f g : α → Option β} (h : Le x y) (k : ∀ a, Le (f a) (g a)) : Le (x.bind f) (y.bind g) := fun r hr => by
  obtain ⟨a, h1, h2⟩ := Option.bind_eq_some_iff.1 hr
  exact Option.bind_eq_some_iff.2 ⟨a, h a h1, k a r h2⟩
theorem Le.obind {α β : Type} {x y : Option α} {f g : α → Option β} (h : Le x y) (k : ∀ a, Le (f a) (g a)) : Le (Option.bind x f) (Option.bind y g) := h.bind k
theorem Le.cond {α : Type} {b : Bool} {x y u v : Option α} (h : Le x u) (k : Le y v) : Le (bif b then x else y) (bif b then u else v) := by cases b <;> assumption
theorem Le.letv {α β : Type} {a : α} {f g : α → Option β} (k : ∀ a, Le (f a) (g a)) : Le (Go.Rg.letv a f) (Go.Rg.letv a g) := k a
theorem Le.sel {α β γ : Type} {m : α ⊕ β} {f u : α → Option γ} {g v : β → Option γ} (h : ∀ a, Le (f a) (u a)) (k : ∀ b, Le (g b) (v b)) : Le (Go.Rg.sel m f g) (Go.Rg.sel m u v) := by cases m <;> first | exact h _ | exact k _
def loopN {S E : Type} (B : S → Option (S ⊕ E)) (s : S) : Option E := loopF B 4000 s
theorem Le.loopF {S E : Type} {B C : S → Option (S ⊕ E)} (h : ∀ s, Le (B s) (C s)) : ∀ (n : Nat) (s : S), Le (Go.Rg.loopF B n s) (Go.Rg.loopF C n s) := by
  intro n
  induction n with
  | zero => intro s r hr; cases hr
  | succ n ih =>
    intro s r hr
    unfold Go.Rg.loopF at hr ⊢
    cases hB : B s with
    | none => rw [hB] at hr; cases hr
    | some x =>
      rw [hB] at hr
      rw [h s x hB]
      cases x with
      | inl s' => exact ih s' r hr
      | inr e => exact hr
theorem Le.loop {S E : Type} {B C : S → Option (S ⊕ E)} {s : S} (h : ∀ s, Le (B s) (C s)) : Le (loopN B s) (loopM C s) := fun r hr => loopM_iff.2 ⟨4000, Le.loopF h 4000 s r hr⟩
end Go.Rg
