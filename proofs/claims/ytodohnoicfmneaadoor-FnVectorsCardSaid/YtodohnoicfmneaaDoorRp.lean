import Derived.Test.YtodohnoicfmneaaDoorRo
import Derived.Test.YtodohnoicfmneaaDoorSx
/- Rows and strings that come in as arguments of a law. -/
namespace Go.Rg
open Go Go.ChangeShapes Go.WideShapes Go.ChangeAt Go.RowKit Go.Fl

section
variable {H : Type} {enc : TypeId × Value → H} {P : Program} {W : World}

theorem add_at {b o n : Nat} : (⟨b, o, none⟩ : Addr).add n = ⟨b, o + n, none⟩ := by
  unfold Addr.add
  split
  · rename_i h; subst h; rfl
  · rfl
/-- The cells of a piece of a block. -/
theorem cells_piece {b o n : Nat} {cur : Array Value} {T : TypeId} {fr : Nat × Nat} {cs : List Value} (hb : W.heap[b]? = some (.cells cur T fr)) (h : W.cells? 0 ⟨b, o, none⟩ n = some cs) :
    cs.length = n ∧ (cur.toList.drop o).take n = cs := by
  unfold World.cells? at h
  rw [if_pos (Nat.zero_le _)] at h
  have hl := Lib.mapM_length h
  rw [List.length_range] at hl
  refine ⟨hl, ?_⟩
  have at' : ∀ i, i < n → (cur.toList.drop o)[i]? = cs[i]? := by
    intro i hi
    obtain ⟨c, h1, h2⟩ := Lib.mapM_at h i i (by rw [List.getElem?_range hi])
    rw [add_at] at h2
    unfold World.cell? at h2
    simp only [hb] at h2
    rw [h1, List.getElem?_drop, Array.getElem?_toList]
    exact h2
  apply List.ext_getElem?
  intro i
  by_cases hi : i < n
  · rw [List.getElem?_take_of_lt hi, at' i hi]
  · rw [List.getElem?_eq_none (by rw [List.length_take]; omega), List.getElem?_eq_none (by omega)]

theorem row_of {E : Type} {Q : E → Prop} {t T : TypeId} {v : Value} {d : DataW H} {p : List MemPlace} (e : Enc E) (ht : P.underlying t = some (.slice T)) (hc : P.cellsOf T = e.size)
    (hE : ∀ (fuel : Nat) (cs : List Value) (y : DataW H × List MemPlace), DataW.trod enc P W 0 (fun _ => true) true fuel T cs = some y → ∃ x, cs.map cnv = e.f x ∧ Q x)
    (hval : Value.okWide P W .any 0 t v ∨ ∃ base, Value.okWide P W .any base t v) (h : DataW.Trod enc P W 0 (fun _ => true) true t v d p) : ∃ a n c xs, v = .slice a n c ∧ RS W e (.slice a n c) xs ∧ xs.length ≤ maxLen ∧ ∀ x ∈ xs, Q x := by
  obtain ⟨base, hval⟩ : ∃ base, Value.okWide P W .any base t v := hval.elim (fun h => ⟨_, h⟩) id
  unfold Value.okWide at hval
  simp only [ht] at hval
  unfold Cell.okWide at hval
  simp only [ht] at hval
  unfold Cell.ok at hval
  simp only [ht] at hval
  obtain ⟨fuel, h⟩ := h
  cases v with
  | slice a n c =>
    refine ⟨a, n, c, ?_⟩
    have hcs : (Value.slice a n c).cells.toList = [.slice a n c] := rfl
    rw [hcs] at h
    rcases DataW.trod_slice ht h with ⟨h0, _⟩ | ⟨a', len, cap, elems, rest, m, _, h1, _, _, hl, hmx, hlen, hel, _, _⟩
    · cases h0
      exact ⟨[], rfl, RS.nil _ _, Nat.zero_le _, fun _ h => by cases h⟩
    · cases h1
      simp only at hval
      obtain ⟨_, _, _, hsp, row, cells, hsh, _⟩ := hval
      obtain ⟨b, o, sp⟩ := a'
      simp only at hsp hsh
      subst hsp
      obtain ⟨cur, T', fr, hb⟩ : ∃ cur T' fr, W.heap[b]? = some (.cells cur T' fr) := by
        unfold World.shape? at hsh
        split at hsh
        · rename_i cur T' fr hb; exact ⟨cur, T', fr, hb⟩
        · cases hsh
      have key : ∀ k, k ≤ n → ∃ xs : List E, xs.length = k ∧ ((cur.toList.drop o).take (k * e.size)).length = k * e.size ∧ ((cur.toList.drop o).take (k * e.size)).map cnv = xs.flatMap e.f ∧ ∀ x ∈ xs, Q x := by
        intro k
        induction k with
        | zero => intro _; exact ⟨[], rfl, by simp, by simp, fun _ h => by cases h⟩
        | succ k ih =>
          intro hk
          obtain ⟨xs, h2, h3, h4, hq⟩ := ih (by omega)
          have h5 := hel k (by omega)
          rw [List.getElem?_eq_getElem (by omega), Option.bind_eq_some_iff] at h5
          obtain ⟨cs, h6, h7⟩ := h5
          rw [hc, add_at] at h6
          obtain ⟨h8, h9⟩ := cells_piece hb h6
          obtain ⟨x, hx, hqx⟩ := hE _ _ _ h7
          have e1 : (cur.toList.drop o).take ((k + 1) * e.size) = (cur.toList.drop o).take (k * e.size) ++ cs := by
            rw [Nat.add_mul, Nat.one_mul, List.take_add, List.drop_drop, h9]
          refine ⟨xs ++ [x], by simp [h2], ?_, ?_, ?_⟩
          · rw [e1, List.length_append, h3, h8, Nat.add_mul, Nat.one_mul]
          · rw [e1, List.map_append, h4, hx]
            simp [List.flatMap_append]
          · intro z hz
            rcases List.mem_append.1 hz with hz | hz
            · exact hq z hz
            · rw [List.mem_singleton.1 hz]; exact hqx
      obtain ⟨xs, h2, _, h4, hq⟩ := key n (Nat.le_refl _)
      refine ⟨xs, rfl, ⟨_, h4, .inr ⟨b, o, c, cur, T', fr, ?_, ?_, hb, ?_⟩⟩, by omega, hq⟩
      · rw [h2]
      · omega
      · rw [h2]
  | _ => simp only at hval

theorem strings_of {t T : TypeId} {v : Value} {d : DataW H} {p : List MemPlace} {base : Nat} (e : Enc (List UInt8)) (hf : e.f = fun x => [.string (bs x)]) (hs : e.size = 1) (ht : P.underlying t = some (.slice T)) (hT : P.underlying T = some .string) (hc : P.cellsOf T = 1)
    (hval : Value.okWide P W .any base t v) (h : DataW.Trod enc P W 0 (fun _ => true) true t v d p) : ∃ a n c xs, v = .slice a n c ∧ RS W e (.slice a n c) xs ∧ xs.length ≤ maxLen ∧ ∀ x ∈ xs, x.length ≤ maxLen := by
  refine row_of e ht (by rw [hc, hs]) ?_ (.inr ⟨base, hval⟩) h
  intro fuel cs y hy
  obtain ⟨s, rfl, _, hm⟩ := DataW.trod_string hT hy
  refine ⟨s.data.toList, ?_, ?_⟩
  · rw [hf]
    show [Value.string s] = [Value.string (bs s.data.toList)]
    rw [bs_of]
  · rw [Array.length_toList]; exact hm
theorem ints_of {t T : TypeId} {v : Value} {d : DataW H} {p : List MemPlace} {base : Nat} {k : IntKind} (e : Enc Int) (hf : e.f = fun x => [.int k x]) (hs : e.size = 1) (ht : P.underlying t = some (.slice T)) (hT : P.underlying T = some (.int k)) (hc : P.cellsOf T = 1)
    (hval : Value.okWide P W .any base t v) (h : DataW.Trod enc P W 0 (fun _ => true) true t v d p) : ∃ a n c xs, v = .slice a n c ∧ RS W e (.slice a n c) xs ∧ xs.length ≤ maxLen ∧ ∀ x ∈ xs, k.min ≤ x ∧ x ≤ k.max := by
  refine row_of e ht (by rw [hc, hs]) ?_ (.inr ⟨base, hval⟩) h
  intro fuel cs y hy
  obtain ⟨s, rfl, _, hw⟩ := DataW.trod_int hT hy
  exact ⟨s, by rw [hf]; rfl, by simpa [Lit.wf, IntKind.has] using hw⟩
end
end Go.Rg
