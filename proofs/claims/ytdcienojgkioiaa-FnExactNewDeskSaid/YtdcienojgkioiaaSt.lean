import Derived.Test.YtdcienojgkioiaaRt
import Derived.Laws.Strings
import Derived.Laws.MakeOwn
/- Strings as lists of bytes, and the operations on them; slices cut; rows made; whole numbers' further arithmetic; externs of strings and bits. -/
namespace Go.Rg
open Go Go.RowKit Go.Fl

/-- A string out of its bytes. -/
def bs (l : List UInt8) : ByteArray := ⟨l.toArray⟩
theorem bs_size (l : List UInt8) : (bs l).size = l.length := by simp [bs, ByteArray.size]
theorem bs_toList (l : List UInt8) : (bs l).toList = l := by unfold bs; exact ByteArray.toList_mk l
theorem bs_get (l : List UInt8) (i : Nat) : (bs l)[i]? = l[i]? := by
  by_cases h : i < l.length
  · have h2 : i < (bs l).size := by rw [bs_size]; exact h
    rw [ByteArray.getElem?_lt' _ _ h2, List.getElem?_eq_getElem h]
    congr 1
  · rw [ByteArray.getElem?_ge' _ _ (by rw [bs_size]; exact h), List.getElem?_eq_none (by omega)]
theorem bs_inj {l m : List UInt8} (h : bs l = bs m) : l = m := by
  rw [← bs_toList l, h, bs_toList]
theorem bs_append (l m : List UInt8) : bs l ++ bs m = bs (l ++ m) := by
  apply ByteArray.ext
  simp [bs]
theorem bs_extract (l : List UInt8) (a b : Nat) : (bs l).extract a b = bs ((l.drop a).take (b - a)) := by
  apply ByteArray.ext
  simp only [bs, ByteArray.data_extract]
  apply Array.ext'
  simp [List.take_drop]
  try omega
theorem bs_of (s : ByteArray) : bs s.data.toList = s := by cases s; simp [bs]

/-- A byte of a string. -/
def sidx (l : List UInt8) (i : Int) : Option Int := (idx l i).map fun b => (b.toNat : Int)
/-- A piece of a string. -/
def ssub {α : Type} (l : List α) (a b : Int) : Option (List α) := if 0 ≤ a ∧ a ≤ b ∧ b ≤ l.length then some ((l.drop a.toNat).take (b.toNat - a.toNat)) else none
/-- Two strings in a row. -/
def scat (l m : List UInt8) : Option (List UInt8) := if (l.length : Int) + m.length ≤ 9223372036854775807 then some (l ++ m) else none
theorem scat_out {l m r : List UInt8} (h : scat l m = some r) : (l.length : Int) + m.length ≤ 9223372036854775807 ∧ r = l ++ m := by
  unfold scat at h
  split at h
  · rename_i h1; cases h; exact ⟨h1, rfl⟩
  · cases h
theorem ssub_out {α : Type} {l r : List α} {a b : Int} (h : ssub l a b = some r) : 0 ≤ a ∧ a ≤ b ∧ b ≤ l.length ∧ r = (l.drop a.toNat).take (b.toNat - a.toNat) := by
  unfold ssub at h
  split at h
  · rename_i h1; cases h; exact ⟨h1.1, h1.2.1, h1.2.2, rfl⟩
  · cases h

section
variable {P : Program} {ops : Array Oper} {K : Sig → World → Prop} {σ : Sig} {w : World} {rest : List Oper}
  {dst : Option Tmp} {ty : TypeId} {pos : String} {after : Array Edge} {g : Option (Nat × Bool)} {ρ : Operand → Value} {R : Value → World → Prop}

theorem d_slen {x : Operand} {t : TypeId} {s : List UInt8} (ht : P.underlying t = some .string) (hx : ρ x = .string (bs s)) (hR : R (.int .i64 s.length) w) :
    Does P ⟨dst, .call { callee := .builtin .len, args := #[x], argTypes := #[t] }, ty, pos, after, g⟩ ρ w R := by
  refine d_lenStr ht hx ?_
  rw [bs_size]; exact hR

theorem d_sidx {x ix : Operand} {t : TypeId} {k : IntKind} {s : List UInt8} {i a : Int} (ht : P.underlying t = some .string) (hx : ρ x = .string (bs s)) (hi : ρ ix = .int k i) (ha : sidx s i = some a)
    (h : R (.int .u8 a) w) : Does P ⟨dst, .index t x ix, ty, pos, after, g⟩ ρ w R := by
  unfold sidx at ha
  obtain ⟨b, hb, rfl⟩ := Option.map_eq_some_iff.1 ha
  obtain ⟨j, rfl, hj⟩ := idx_out hb
  refine d_run (v := .int .u8 (b.toNat : Int)) (w' := w) ?_ h
  simp only [execOp, hx, hi]
  have h3 : (bs s)[j]? = some b := by rw [bs_get]; exact hj
  simp [Instr.index, asIntOf, run_underlying ht, h3]

theorem run_bound {k : IntKind} {i : Int} {y : Nat} {c : BoundsCode} (h : 0 ≤ i ∧ i ≤ y) : (Instr.sliceBound (.int k i) y c).run P w = .ok i.toNat w := by
  simp [Instr.sliceBound, asIntOf, h]

/-- What a cut's bounds are. -/
def LoIs (ρ : Operand → Value) (lo : Option Operand) (a : Int) : Prop := (lo = none ∧ a = 0) ∨ ∃ o k, lo = some o ∧ ρ o = .int k a
def HiIs (ρ : Operand → Value) (hi : Option Operand) (n : Nat) (b : Int) : Prop := (hi = none ∧ b = n) ∨ ∃ o k, hi = some o ∧ ρ o = .int k b

theorem run_bounds {isSlice : Bool} {lo hi : Option Operand} {n cap : Nat} {a b : Int} (hlo : LoIs ρ lo a) (hhi : HiIs ρ hi n b) (h0 : 0 ≤ a) (h1 : a ≤ b) (h2 : b ≤ n) (hn : n ≤ cap) :
    (Instr.sliceBounds isSlice n cap (lo.map ρ) (hi.map ρ) none).run P w = .ok (a.toNat, b.toNat, cap) w := by
  rcases hlo with ⟨rfl, rfl⟩ | ⟨o, k, rfl, ho⟩ <;> rcases hhi with ⟨rfl, rfl⟩ | ⟨o', k', rfl, ho'⟩
  · simp [Instr.sliceBounds]
  · simp [Instr.sliceBounds, ho', run_bound (P := P) (w := w) (k := k') (i := b) (y := cap) ⟨by omega, by omega⟩]
  · simp [Instr.sliceBounds, ho, run_bound (P := P) (w := w) (k := k) (i := a) (y := n) ⟨by omega, by omega⟩]
  · simp [Instr.sliceBounds, ho, ho', run_bound (P := P) (w := w) (k := k') (i := b) (y := cap) ⟨by omega, by omega⟩, run_bound (P := P) (w := w) (k := k) (i := a) (y := b.toNat) ⟨by omega, by omega⟩]

theorem d_ssub {x : Operand} {t : TypeId} {s r : List UInt8} {lo hi : Option Operand} {a b : Int} (ht : P.underlying t = some .string) (hx : ρ x = .string (bs s)) (hlo : LoIs ρ lo a) (hhi : HiIs ρ hi s.length b) (hr : ssub s a b = some r)
    (h : R (.string (bs r)) w) : Does P ⟨dst, .slice t x lo hi none, ty, pos, after, g⟩ ρ w R := by
  obtain ⟨h0, h1, h2, rfl⟩ := ssub_out hr
  refine d_run (v := .string (bs ((s.drop a.toNat).take (b.toNat - a.toNat)))) (w' := w) ?_ h
  simp only [execOp, hx]
  have e := run_bounds (P := P) (w := w) (isSlice := false) (cap := s.length) hlo hhi h0 h1 h2 (Nat.le_refl _)
  simp [Instr.sliceAt, Instr.slice, run_underlying ht, bs_size, e, bs_extract]

/-- A slice cut: it reads as the piece. -/
theorem d_lsub {E : Type} {e : Enc E} {v : Value} {xs ys : List E} {T : TypeId} {x : Operand} {t : TypeId} {lo hi : Option Operand} {a b : Int} (ht : P.underlying t = some (.slice T)) (hn : ∀ w, (sizeOf T).run P w = .ok e.size w)
    (hx : ρ x = v) (hv : RS w e v xs) (hlo : LoIs ρ lo a) (hhi : HiIs ρ hi xs.length b) (hr : ssub xs a b = some ys)
    (h : ∀ v', RS w e v' ys → (∀ k, v'.ownBlock = some k → v.ownBlock = some k) → R v' w) : Does P ⟨dst, .slice t x lo hi none, ty, pos, after, g⟩ ρ w R := by
  obtain ⟨h0, h1, h2, rfl⟩ := ssub_out hr
  obtain ⟨cells, c1, c2⟩ := hv
  rcases c2 with ⟨rfl, rfl⟩ | ⟨gb, o, cap, cur, T', fr, rfl, hle, hg, htk⟩
  · have e1 := run_bounds (P := P) (w := w) (isSlice := true) (cap := 0) hlo hhi h0 h1 h2 (Nat.le_refl _)
    have hb0 : b = 0 := by simp at h2; omega
    have ha0 : a = 0 := by omega
    subst hb0; subst ha0
    simp only [List.length_nil] at e1
    refine d_run (v := .slice none 0 0) (w' := w) ?_ (h _ (by simpa using RS.nil w e) (by simp [Value.ownBlock]))
    simp only [execOp, hx]
    have e2 : (Instr.sliceBounds true 0 0 (lo.map ρ) (hi.map ρ) none).run P w = .ok (0, 0, 0) w := e1
    simp [Instr.sliceAt, Instr.slice, run_underlying ht, e2, hn]
  · have e1 := run_bounds (P := P) (w := w) (isSlice := true) (cap := cap) hlo hhi h0 h1 h2 hle
    have hl : ((xs.drop a.toNat).take (b.toNat - a.toNat)).length = b.toNat - a.toNat := by rw [List.length_take, List.length_drop]; omega
    have hadd : (⟨gb, o, none⟩ : Addr).add (a.toNat * e.size) = ⟨gb, o + a.toNat * e.size, none⟩ := by unfold Addr.add; split <;> simp_all
    refine d_run (v := .slice (some (if cap = a.toNat then ⟨gb, o, none⟩ else ⟨gb, o + a.toNat * e.size, none⟩)) (b.toNat - a.toNat) (cap - a.toNat)) (w' := w) ?_ (h _ ?_ ?_)
    · simp only [execOp, hx]
      by_cases hc : cap = a.toNat
      · simp [Instr.sliceAt, Instr.slice, run_underlying ht, e1, hn]
        rw [if_pos hc, if_pos hc]
      · simp [Instr.sliceAt, Instr.slice, run_underlying ht, e1, hn, hadd]
        rw [if_neg hc, if_neg hc]
    · have hcl : cells.length = xs.length * e.size := RS.cells_len c1
      have fm : ∀ (l : List E) (m : Nat), (l.drop m).flatMap e.f = (l.flatMap e.f).drop (m * e.size) := by
        intro l m
        induction m generalizing l with
        | zero => simp
        | succ m ih =>
          cases l with
          | nil => simp
          | cons y ys =>
            rw [List.drop_succ_cons, ih, List.flatMap_cons, Nat.add_mul, Nat.one_mul, Nat.add_comm, ← List.drop_drop]
            congr 1
            rw [List.drop_append, List.drop_of_length_le (by rw [e.len]; exact Nat.le_refl _), List.nil_append, e.len, Nat.sub_self, List.drop_zero]
      have tm : ∀ (l : List E) (m : Nat), (l.take m).flatMap e.f = (l.flatMap e.f).take (m * e.size) := by
        intro l m
        induction m generalizing l with
        | zero => simp
        | succ m ih =>
          cases l with
          | nil => simp
          | cons y ys =>
            rw [List.take_succ_cons, List.flatMap_cons, ih, List.flatMap_cons, Nat.add_mul, Nat.one_mul, Nat.add_comm, List.take_append, List.take_of_length_le (l := e.f y) (by rw [e.len]; omega), e.len, show e.size + m * e.size - e.size = m * e.size by omega]
      refine ⟨(cells.drop (a.toNat * e.size)).take ((b.toNat - a.toNat) * e.size), ?_, ?_⟩
      · rw [List.map_take, List.map_drop, c1, ← fm, ← tm]
      · by_cases hc : cap = a.toNat
        · -- nothing is left
          have : b.toNat - a.toNat = 0 := by omega
          rw [if_pos hc, this]
          refine .inr ⟨gb, o, cap - a.toNat, cur, T', fr, by simp, by simp, hg, ?_⟩
          simp
        · rw [if_neg hc]
          refine .inr ⟨gb, o + a.toNat * e.size, cap - a.toNat, cur, T', fr, by rw [hl], by rw [hl]; omega, hg, ?_⟩
          rw [hl, ← htk, List.drop_take, List.take_take, List.drop_drop]
          congr 1
          have : (b.toNat - a.toNat) * e.size ≤ xs.length * e.size - a.toNat * e.size := by
            rw [← Nat.sub_mul]; exact Nat.mul_le_mul_right _ (by omega)
          omega
    · intro k hk
      split at hk <;> simpa [Value.ownBlock] using hk

theorem d_scat {x y : Operand} {t t2 : TypeId} {s u r : List UInt8} (hx : ρ x = .string (bs s)) (hy : ρ y = .string (bs u)) (hr : scat s u = some r) (h : R (.string (bs r)) w) : Does P ⟨dst, .binOp .add t x y t2, ty, pos, after, g⟩ ρ w R := by
  obtain ⟨h1, rfl⟩ := scat_out hr
  refine d_run (v := .string (bs (s ++ u))) (w' := w) ?_ h
  simp only [execOp, hx, hy]
  have hm : IntKind.i64.max = 9223372036854775807 := by decide
  have h2 : ¬ (((bs s).size + (bs u).size : Nat) : Int) > IntKind.i64.max := by rw [bs_size, bs_size, hm]; omega
  simp only [eqGuard, binOp_string_add, Op.stringOp]
  rw [if_neg h2]
  simp [bs_append]
theorem d_seq {x y : Operand} {t t2 : TypeId} {s u : List UInt8} (hx : ρ x = .string (bs s)) (hy : ρ y = .string (bs u)) (h : R (.bool (s == u)) w) : Does P ⟨dst, .binOp .eql t x y t2, ty, pos, after, g⟩ ρ w R := by
  refine d_run (v := .bool (s == u)) (w' := w) ?_ h
  simp only [execOp, hx, hy]
  simp [eqGuard, binOp_string_eql, bs_toList]
theorem d_sne {x y : Operand} {t t2 : TypeId} {s u : List UInt8} (hx : ρ x = .string (bs s)) (hy : ρ y = .string (bs u)) (h : R (.bool (!(s == u))) w) : Does P ⟨dst, .binOp .neq t x y t2, ty, pos, after, g⟩ ρ w R := by
  refine d_run (v := .bool (!(s == u))) (w' := w) ?_ h
  simp only [execOp, hx, hy]
  simp [eqGuard, binOp_string_neq, bs_toList]

end
end Go.Rg
