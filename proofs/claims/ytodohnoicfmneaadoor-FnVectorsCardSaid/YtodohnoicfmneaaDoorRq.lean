import Derived.Test.YtodohnoicfmneaaDoorRp
import Derived.Deep.Strs
import Derived.Lib.SmallJoins
/- Structs by value that hold rows, as arguments of a law. -/
namespace Go.Rg
open Go Go.ChangeShapes Go.WideShapes Go.ChangeAt Go.RowKit Go.Fl

section
variable {H : Type} {enc : TypeId × Value → H} {P : Program} {W : World}

theorem wf_lt {k : FloatKind} {b : Nat} (h : (Lit.float k b).wf = true) : b < 2 ^ k.format.width := by
  cases k <;> exact of_decide_eq_true h
theorem float_trod {base : Nat} {spare : Nat → Bool} {held : Bool} {fuel : Nat} {t : TypeId} {k : FloatKind} {cs : List Value} {x : DataW H × List MemPlace} (ht : P.underlying t = some (.float k)) (h : DataW.trod enc P W base spare held fuel t cs = some x) :
    ∃ b : Nat, cs = [.float k b] ∧ b < 2 ^ k.format.width := by
  cases fuel with
  | zero => simp [DataW.trod] at h
  | succ n =>
    unfold DataW.trod at h
    rw [ht] at h
    split at h <;> simp_all
    obtain ⟨⟨rfl, h2⟩, _⟩ := h
    exact wf_lt h2

/-- A struct of three one-cell fields. -/
theorem cells3 {base : Nat} {spare : Nat → Bool} {held : Bool} {fuel : Nat} {t : TypeId} {f0 f1 f2 : Field} {cs : List Value} {x : DataW H × List MemPlace} (ht : P.underlying t = some (.struct #[f0, f1, f2]))
    (o : f0.offset = 0 ∧ f1.offset = 1 ∧ f2.offset = 2) (c : P.cellsOf f0.type = 1 ∧ P.cellsOf f1.type = 1 ∧ P.cellsOf f2.type = 1) (hc : P.cellsOf t = 3) (h : DataW.trod enc P W base spare held fuel t cs = some x) :
    ∃ v0 v1 v2 y0 y1 y2 n, cs = [v0, v1, v2] ∧ DataW.trod enc P W base spare held n f0.type [v0] = some y0 ∧ DataW.trod enc P W base spare held n f1.type [v1] = some y1 ∧ DataW.trod enc P W base spare held n f2.type [v2] = some y2 := by
  obtain ⟨y0, y1, y2, n, _, hl, h0, h1, h2⟩ := Deep.trod_struct3 ht h
  rw [hc] at hl
  match cs, hl with
  | [v0, v1, v2], _ =>
    rw [o.1, c.1] at h0
    rw [o.2.1, c.2.1] at h1
    rw [o.2.2, c.2.2] at h2
    exact ⟨v0, v1, v2, y0, y1, y2, n, rfl, h0, h1, h2⟩

theorem okWide_of_cell {t T : TypeId} {v : Value} {r : Reach} {base : Nat} (ht : P.underlying t = some (.slice T)) (h : Cell.okWide P W r base t v) : Value.okWide P W r base t v := by
  unfold Value.okWide
  rw [ht]
  exact h
/-- A struct of four rows. -/
theorem rows4 {base b0 : Nat} {spare : Nat → Bool} {held : Bool} {t : TypeId} {f0 f1 f2 f3 : Field} {T0 T1 T2 T3 : TypeId} {v : Value} {d : DataW H} {p : List MemPlace} (ht : P.underlying t = some (.struct #[f0, f1, f2, f3]))
    (hts : P.cellTypes P.depth t = some [f0.type, f1.type, f2.type, f3.type]) (o : f0.offset = 0 ∧ f1.offset = 1 ∧ f2.offset = 2 ∧ f3.offset = 3) (c : P.cellsOf f0.type = 1 ∧ P.cellsOf f1.type = 1 ∧ P.cellsOf f2.type = 1 ∧ P.cellsOf f3.type = 1) (hc : P.cellsOf t = 4)
    (u : P.underlying f0.type = some (.slice T0) ∧ P.underlying f1.type = some (.slice T1) ∧ P.underlying f2.type = some (.slice T2) ∧ P.underlying f3.type = some (.slice T3))
    (hval : Value.okWide P W .any b0 t v) (h : DataW.Trod enc P W base spare held t v d p) :
    ∃ v0 v1 v2 v3, v = .agg #[v0, v1, v2, v3] ∧ (∃ d p, DataW.Trod enc P W base spare held f0.type v0 d p) ∧ (∃ d p, DataW.Trod enc P W base spare held f1.type v1 d p) ∧ (∃ d p, DataW.Trod enc P W base spare held f2.type v2 d p) ∧ (∃ d p, DataW.Trod enc P W base spare held f3.type v3 d p) ∧
      Value.okWide P W .any b0 f0.type v0 ∧ Value.okWide P W .any b0 f1.type v1 ∧ Value.okWide P W .any b0 f2.type v2 ∧ Value.okWide P W .any b0 f3.type v3 := by
  unfold Value.okWide at hval
  simp only [ht] at hval
  obtain ⟨cs, rfl, hsz, ts, h1, _, h3⟩ := hval
  rw [hts] at h1
  cases h1
  rw [hc] at hsz
  obtain ⟨v0, v1, v2, v3, rfl⟩ := Joins.array4 hsz
  obtain ⟨fuel, h⟩ := h
  have hcs : (Value.agg #[v0, v1, v2, v3]).cells.toList = [v0, v1, v2, v3] := rfl
  rw [hcs] at h
  obtain ⟨y0, y1, y2, y3, n, _, _, g0, g1, g2, g3⟩ := Joins.trod_struct4 ht h
  rw [o.1, c.1] at g0
  rw [o.2.1, c.2.1] at g1
  rw [o.2.2.1, c.2.2.1] at g2
  rw [o.2.2.2, c.2.2.2] at g3
  have w0 : Value.okWide P W .any b0 f0.type v0 := by
    obtain ⟨u', e, k⟩ := h3 0 v0 rfl
    cases e
    exact okWide_of_cell u.1 k
  have w1 : Value.okWide P W .any b0 f1.type v1 := by
    obtain ⟨u', e, k⟩ := h3 1 v1 rfl
    cases e
    exact okWide_of_cell u.2.1 k
  have w2 : Value.okWide P W .any b0 f2.type v2 := by
    obtain ⟨u', e, k⟩ := h3 2 v2 rfl
    cases e
    exact okWide_of_cell u.2.2.1 k
  have w3 : Value.okWide P W .any b0 f3.type v3 := by
    obtain ⟨u', e, k⟩ := h3 3 v3 rfl
    cases e
    exact okWide_of_cell u.2.2.2 k
  have q : ∀ (t T : TypeId) (v : Value) (y : DataW H × List MemPlace), P.underlying t = some (.slice T) → Value.okWide P W .any b0 t v → DataW.trod enc P W base spare held n t [v] = some y → ∃ d p, DataW.Trod enc P W base spare held t v d p := by
    intro t T v y ht hw hy
    have e : v.cells.toList = [v] := by
      unfold Value.okWide at hw
      simp only [ht] at hw
      unfold Cell.okWide at hw
      simp only [ht] at hw
      unfold Cell.ok at hw
      simp only [ht] at hw
      cases v <;> first | rfl | exact hw.elim
    exact ⟨y.1, y.2, n, by rw [e]; exact hy⟩
  exact ⟨v0, v1, v2, v3, rfl, q _ _ _ _ u.1 w0 g0, q _ _ _ _ u.2.1 w1 g1, q _ _ _ _ u.2.2.1 w2 g2, q _ _ _ _ u.2.2.2 w3 g3, w0, w1, w2, w3⟩

end
end Go.Rg
