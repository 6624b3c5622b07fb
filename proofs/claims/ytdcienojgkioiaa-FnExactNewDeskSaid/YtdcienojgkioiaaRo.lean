import Derived.Test.YtdcienojgkioiaaRt
import Derived.ProofKit
/- What a law's row asks behind the call, told once: the call answers true and has turned nothing that was there. -/
namespace Go.Rg
open Go Go.ChangeShapes Go.WideShapes Go.ChangeAt Go.RowKit Go.Fl

section
variable {H : Type} {enc : TypeId × Value → H} {P : Program} {W W' : World}

theorem consMk {base : Nat} {spare : Nat → Bool} {held : Bool} {t : TypeId} {ts : List TypeId} {v : Value} {vs : List Value} {d : DataW H} {ds : List (DataW H)} {p p' : List MemPlace}
    (h : DataW.Trod enc P W base spare held t v d p) (hs : DataW.TrodAll enc P W base spare held ts vs ds p') : DataW.TrodAll enc P W base spare held (t :: ts) (v :: vs) (d :: ds) (p ++ p') := ⟨p, p', h, hs, rfl⟩
theorem trodAll_stays (hl : laidOutB P = true) (hx : Ext W W') : ∀ {ts : List TypeId} {vs : List Value} {ds : List (DataW H)} {ps : List MemPlace},
    ts.all (fun t => P.readableRec t && decide (t < P.types.size)) = true → DataW.TrodAll enc P W 0 (fun _ => true) true ts vs ds ps → (∀ x ∈ ps, x.block < W.heap.size) →
    DataW.TrodAll enc P W' 0 (fun b => decide (b < W.heap.size)) true ts vs ds ps
  | [], vs, ds, ps, _, h, _ => by
    obtain ⟨rfl, rfl, rfl⟩ := trodAll_nil h
    exact trodAll_mk0
  | t :: ts, vs, ds, ps, hp, h, hlt => by
    obtain ⟨v, vs', d, ds', p, q, rfl, rfl, rfl, h1, h2⟩ := trodAll_cons h
    simp only [List.all_cons, Bool.and_eq_true, decide_eq_true_eq] at hp
    obtain ⟨⟨hr, ht⟩, hp⟩ := hp
    exact consMk (Below.trod hl hr ht h1 hx fun x hx => hlt x (List.mem_append_left _ hx)) (trodAll_stays hl hx hp h2 fun x hx => hlt x (List.mem_append_right _ hx))

theorem law_post {f : Func} {s : ChangeSpec} {apart fresh handsOn : Bool} {args : Array Value} {ds : List (DataW H)} {before : List MemPlace} {tb : TypeId}
    (hl : laidOutB P = true) (hp : f.params.toList.all (fun t => P.readableRec t && decide (t < P.types.size)) = true) (hr : f.resultTypes = #[tb]) (hb : P.underlying tb = some .bool) (hv : s.vars = [])
    (hs : s.fn H ds = { results := [.lit (.bool true)], args := ds }) (hW : DataW.Whole enc P f.params.toList s.vars apart W args.toList ds [] before) (hx : Ext W W') :
    s.post enc P f apart fresh handsOn false W args (.bool true) W' := by
  have hlt := hW.lt
  have hW0 := hW
  obtain ⟨p, q, hA, hV, rfl, hfz, hnd⟩ := hW
  rw [hv] at hV
  obtain ⟨_, rfl⟩ := trodVars_none hV
  refine ⟨ds, [], p ++ [], [], p, [], hW0, ?_, ?_, ?_, World.keptBut_mono (fun _ h => h.elim) (Below.frame hx (fun _ => False)), fun h => by cases h⟩
  · rw [List.append_nil, hs, hr]
    exact trodAll_mk1 (shut_bool hb true)
  · rw [List.append_nil, hs]
    exact trodAll_stays hl hx hp hA fun x hx => hlt x (List.mem_append_left _ hx)
  · rw [List.append_nil, hs, hv]
    exact rfl

theorem has_lt {k : FloatKind} {b : Nat} (h : k.has b) : b < 2 ^ k.format.width := by cases k <;> exact h
/-- A row of floats' cells. -/
theorem floats_of {w : World} {r : Reach} {base : Nat} {t tf : TypeId} {k : FloatKind} {n : Nat} {v : Value} {fs : Array Field} (ht : P.underlying t = some (.struct fs)) (hf : P.underlying tf = some (.float k))
    (hc : P.cellTypes P.depth t = some (List.replicate n tf)) (hn : P.cellsOf t = n) (h : Value.okWide P w r base t v) :
    ∃ rs : List Nat, v = .agg (rs.map (Value.float k)).toArray ∧ rs.length = n ∧ ∀ x ∈ rs, x < 2 ^ k.format.width := by
  unfold Value.okWide at h
  rw [ht] at h
  simp only at h
  obtain ⟨cs, rfl, hsz, ts, h1, _, h3⟩ := h
  rw [hc] at h1
  cases h1
  rw [hn] at hsz
  have cell : ∀ v ∈ cs.toList, ∃ r, v = .float k r ∧ r < 2 ^ k.format.width := by
    intro v hv
    obtain ⟨i, hi, rfl⟩ := List.getElem_of_mem hv
    rw [Array.length_toList] at hi
    obtain ⟨u, hu, hok⟩ := h3 i cs[i] (by simp [hi])
    have hpos : 0 < n := by omega
    rw [List.length_replicate, List.getElem?_replicate] at hu
    split at hu
    · cases hu
      unfold Cell.okWide at hok
      rw [hf] at hok
      rw [Array.getElem_toList]
      generalize cs[i] = v at *
      unfold Cell.ok at hok
      simp only [hf] at hok
      cases v <;> simp only at hok
      obtain ⟨rfl, hb⟩ := hok
      exact ⟨_, rfl, has_lt hb⟩
    · cases hu
  have all : ∀ l : List Value, (∀ v ∈ l, ∃ r, v = .float k r ∧ r < 2 ^ k.format.width) → ∃ rs : List Nat, l = rs.map (Value.float k) ∧ ∀ x ∈ rs, x < 2 ^ k.format.width := by
    intro l
    induction l with
    | nil => intro _; exact ⟨[], rfl, by simp⟩
    | cons v l ih =>
      intro h
      obtain ⟨r, rfl, hr⟩ := h v (by simp)
      obtain ⟨rs, rfl, hrs⟩ := ih fun v hv => h v (by simp [hv])
      exact ⟨r :: rs, rfl, by simpa using ⟨hr, hrs⟩⟩
  obtain ⟨rs, h4, h5⟩ := all _ cell
  refine ⟨rs, ?_, ?_, h5⟩
  · rw [← h4]
  · have := congrArg List.length h4
    rw [Array.length_toList, hsz, List.length_map] at this
    exact this.symm

theorem float_of {w : World} {r : Reach} {base : Nat} {t : TypeId} {k : FloatKind} {v : Value} (ht : P.underlying t = some (.float k)) (h : Value.okWide P w r base t v) : ∃ r : Nat, v = .float k r ∧ r < 2 ^ k.format.width := by
  unfold Value.okWide at h
  simp only [ht] at h
  unfold Cell.okWide at h
  simp only [ht] at h
  unfold Cell.ok at h
  simp only [ht] at h
  cases v <;> simp only at h
  obtain ⟨rfl, hb⟩ := h
  exact ⟨_, rfl, has_lt hb⟩
theorem string_of {w : World} {r : Reach} {base : Nat} {t : TypeId} {v : Value} (ht : P.underlying t = some .string) (h : Value.okWide P w r base t v) : ∃ s : ByteArray, v = .string s := by
  unfold Value.okWide at h
  simp only [ht] at h
  unfold Cell.okWide at h
  simp only [ht] at h
  unfold Cell.ok at h
  simp only [ht] at h
  cases v <;> simp only at h
  exact ⟨_, rfl⟩
theorem int_of {w : World} {r : Reach} {base : Nat} {t : TypeId} {k : IntKind} {v : Value} (ht : P.underlying t = some (.int k)) (h : Value.okWide P w r base t v) : ∃ n : Int, v = .int k n ∧ k.min ≤ n ∧ n ≤ k.max := by
  unfold Value.okWide at h
  simp only [ht] at h
  unfold Cell.okWide at h
  simp only [ht] at h
  unfold Cell.ok at h
  simp only [ht] at h
  cases v <;> simp only at h
  obtain ⟨rfl, hb⟩ := h
  exact ⟨_, rfl, hb⟩
end
end Go.Rg
