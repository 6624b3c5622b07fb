import Derived.Test.YtdcienojgkioiaaPs
import Derived.Laws.BytesArg
import Derived.Laws.Unary
import Derived.Lib.Builder
import Derived.Lib.ItoaNum
import Derived.Lib.LaidTab
import Derived.Sort.Grow
/- What the library's proved contracts (builders, numerals) say in these texts' words; strings out of bytes. -/
namespace Go.Rg
open Go Go.RowKit Go.Fl

/-- The bytes of numbers. -/
def u8s (xs : List Int) : List UInt8 := xs.map fun n => UInt8.ofNat n.toNat

theorem cnv_ints : ∀ {xs : List Int} {vs : List Value} {k : IntKind}, vs.map cnv = xs.map (Value.int k) → vs = xs.map (Value.int k)
  | [], vs, k, h => by simpa using h
  | x :: xs, vs, k, h => by
    rw [List.map_cons] at h
    obtain ⟨vs', rfl, h'⟩ := cnv_i h
    rw [cnv_ints h', List.map_cons]

theorem flat_ints {k : IntKind} (xs : List Int) : (xs.flatMap fun x => [Value.int k x]) = xs.map (Value.int k) := by
  induction xs with
  | nil => rfl
  | cons a l ih => rw [List.flatMap_cons, ih, List.map_cons]; rfl

section
variable {P : Program} {ops : Array Oper} {K : Sig → World → Prop} {σ : Sig} {w : World} {rest : List Oper}
  {dst : Option Tmp} {ty : TypeId} {pos : String} {after : Array Edge} {g : Option (Nat × Bool)} {ρ : Operand → Value} {R : Value → World → Prop}

theorem d_ineg {x : Operand} {t : TypeId} {k : IntKind} {u : Int} (hx : ρ x = .int k u) (h : R (.int k (k.wrap (0 - u))) w) : Does P ⟨dst, .unOp .neg t x, ty, pos, after, g⟩ ρ w R :=
  d_run (v := .int k (k.wrap (0 - u))) (w' := w) (by simp only [execOp]; rw [hx]; rfl) h

theorem d_bstr {src dt T : TypeId} {x : Operand} {v : Value} {xs : List Int} {e : Enc Int} (hf : e.f = fun x => [.int .u8 x]) (hs : P.underlying src = some (.slice T)) (hT : P.underlying T = some (.int .u8)) (hd : P.underlying dt = some .string)
    (hx : ρ x = v) (h : RS w e v xs) (hR : R (.string (bs (u8s xs))) w) : Does P ⟨dst, .convert src dt x, ty, pos, after, g⟩ ρ w R := by
  refine d_run (v := .string (bs (u8s xs))) (w' := w) ?_ hR
  have es : e.size = 1 := by have := e.len 0; rw [hf] at this; simpa using this.symm
  simp only [execOp, hx]
  obtain ⟨cells, h1, h2⟩ := h
  have h3 : cells = xs.map (Value.int .u8) := by
    apply cnv_ints
    rw [h1, hf]
    exact flat_ints xs
  rcases h2 with ⟨rfl, rfl⟩ | ⟨g, o, cap, cur, T', fr, rfl, _, h5, h6⟩
  · have := run_convert_bytes_nil w src T hs hT 0 0 dt hd
    simp only [Sem.run_bind, this, Result.andThen_ok, Sem.run_pure]
    rfl
  · have := run_convert_bytes_arg (P := P) w src T hs hT g o xs.length cap xs rfl (fun i hi => by
      rw [es, Nat.mul_one, h3] at h6
      have h7 : (cur.toList.drop o)[i]? = some (.int .u8 (xs.getD i 0)) := by
        have h8 : ((cur.toList.drop o).take xs.length)[i]? = (xs.map (Value.int .u8))[i]? := by rw [h6]
        rw [List.getElem?_take_of_lt hi] at h8
        rw [h8, List.getElem?_map, List.getElem?_eq_getElem hi, List.getD_eq_getElem?_getD, List.getElem?_eq_getElem hi]
        rfl
      rw [List.getElem?_drop, Array.getElem?_toList] at h7
      unfold World.cell?
      simp only [h5]
      exact h7) dt hd
    simp only [Sem.run_bind, this, Result.andThen_ok, Sem.run_pure]
    rfl
end

/-- A builder of the call's own (its blocks lie from B on), that holds the bytes xs. -/
def Bld (T e : TypeId) (B b : Nat) (xs : List UInt8) (w : World) : Prop := B ≤ w.heap.size ∧ Lib.IsBuilder T e B b (Lib.byteCells xs) w

section
variable {P : Program} {T e : TypeId} {B b : Nat} {xs : List UInt8} {w w' w0 : World}
theorem ownsRow_ext {B : Nat} {t : TypeId} {s : Nat} {v : Value} {n : Nat} {cs : List Value} (h : w.ownsRow B t s v n cs) (x : Ext w w') : w'.ownsRow B t s v n cs := by
  obtain ⟨h1, h2⟩ := h
  refine ⟨h1, ?_⟩
  rcases h2 with h2 | ⟨g, cap, cur, rfl, hb, hg, rest⟩
  · exact .inl h2
  · exact .inr ⟨g, cap, cur, rfl, hb, x.heap hg, rest⟩
theorem builderAt_ext {p : Value} {cs : List Value} (h : Lib.BuilderAt T e B b p cs w) (x : Ext w w') : Lib.BuilderAt T e B b p cs w' := by
  obtain ⟨h1, v, h2, h3, h4⟩ := h
  exact ⟨h1, v, x.heap h2, ownsRow_ext h3 x, h4⟩
theorem Bld.ext (h : Bld T e B b xs w) (x : Ext w w') : Bld T e B b xs w' := by
  obtain ⟨h0, h⟩ := h
  refine ⟨Nat.le_trans h0 x.size, ?_⟩
  rcases h with h | h
  · exact .inl (builderAt_ext h x)
  · exact .inr (builderAt_ext h x)
/-- A new one. -/
theorem Bld.new (hb : w.heap[b]? = some (.cells #[.pointer none, .slice none 0 0] T (0, 0))) (hB : B ≤ b) : Bld T e B b [] w := by
  refine ⟨Nat.le_of_lt (Nat.lt_of_le_of_lt hB (lt_heap hb)), .inl ⟨hB, _, hb, World.ownsRow_nil _ _ _ _, by simp [Value.ownBlock]⟩⟩
theorem Bld.below (h : Bld T e B b xs w) : B ≤ w.heap.size := h.1

theorem strCells_bs (s : List UInt8) : Lib.strCells (bs s) = Lib.byteCells s := rfl

theorem bld_writeString {n : FuncId} {s r : List UInt8}
    (hC : ∀ (B b : Nat) (cs : List Value) (s : ByteArray) (w : World), Lib.IsBuilder T e B b cs w → cs.length + s.size ≤ 140737488355328 → B ≤ w.heap.size →
      Calls P n #[.pointer (some ⟨b, 0, none⟩), .string s] w fun ex w' => ex = .returned (.tuple #[.int .i64 s.size, .nilIface]) ∧ (Lib.BuilderAt T e B b (.pointer (some ⟨b, 0, none⟩)) (cs ++ Lib.strCells s) w' ∧ Below B w w'))
    (h : Bld T e w0.heap.size b xs w) (hr : app 1 xs s = some r) (X : Ext w0 w) :
    Calls P n #[.pointer (some ⟨b, 0, none⟩), .string (bs s)] w fun ex w' => ex = .returned (.tuple #[.int .i64 s.length, .nilIface]) ∧ Bld T e w0.heap.size b r w' ∧ Ext w0 w' := by
  obtain ⟨h1, rfl⟩ := app_out hr
  refine (hC w0.heap.size b _ (bs s) w h.2 ?_ h.1).mono ?_
  · rw [Lib.byteCells_length, bs_size]; omega
  · rintro ex w' ⟨rfl, h3, h4⟩
    rw [bs_size]
    refine ⟨rfl, ⟨Nat.le_trans h.1 h4.size, .inr ?_⟩, Below.trans X h4⟩
    have : Lib.byteCells (xs ++ s) = Lib.byteCells xs ++ Lib.strCells (bs s) := by rw [strCells_bs]; unfold Lib.byteCells; rw [List.map_append]
    rw [this]; exact h3

theorem bld_len {n : FuncId}
    (hC : ∀ (B b : Nat) (cs : List Value) (w : World), Lib.IsBuilder T e B b cs w → Calls P n #[.pointer (some ⟨b, 0, none⟩)] w fun ex w' => ex = .returned (.int .i64 cs.length) ∧ w' = w)
    (h : Bld T e w0.heap.size b xs w) : Calls P n #[.pointer (some ⟨b, 0, none⟩)] w fun ex w' => ex = .returned (.int .i64 xs.length) ∧ w' = w := by
  refine (hC w0.heap.size b _ w h.2).mono ?_
  rintro ex w' ⟨rfl, h3⟩
  rw [Lib.byteCells_length]
  exact ⟨rfl, h3⟩

theorem bld_string {n : FuncId}
    (hC : ∀ (B b : Nat) (l : List UInt8) (w : World), Lib.IsBuilder T e B b (Lib.byteCells l) w → B ≤ w.heap.size → Calls P n #[.pointer (some ⟨b, 0, none⟩)] w fun ex w' => ex = .returned (.string ⟨l.toArray⟩) ∧ Below B w w')
    (h : Bld T e w0.heap.size b xs w) (X : Ext w0 w) : Calls P n #[.pointer (some ⟨b, 0, none⟩)] w fun ex w' => ex = .returned (.string (bs xs)) ∧ Ext w0 w' := by
  refine (hC w0.heap.size b _ w h.2 h.1).mono ?_
  rintro ex w' ⟨rfl, h3⟩
  exact ⟨rfl, Below.trans X h3⟩
end

/-- A whole number in decimal, if it is one of 64 bits. -/
def fmt10 (n : Int) : Option (List UInt8) := if -9223372036854775808 ≤ n ∧ n ≤ 9223372036854775807 then some (Lib.itoa n) else none
/-- The library's table of powers lies there. -/
def T10 (P : Program) (w : World) : Prop := Lib.TabIs P w "internal/strconv.uint64pow10" .u64 Lib.pow10Tab
section
variable {P : Program} {w w' : World}
theorem var?_ext {nm : String} {cs : Array Value} (h : w.var? P nm = some cs) (x : Ext w w') : w'.var? P nm = some cs := by
  unfold World.var? at h ⊢
  cases hg : P.globalNamed nm with
  | none => rw [hg] at h; cases h
  | some g =>
    rw [hg] at h
    simp only [Option.bind_some] at h ⊢
    cases ho : w.heap[g]? with
    | none => rw [ho] at h; cases h
    | some o => rw [ho] at h; rw [x.heap ho]; exact h
theorem T10.ext (h : T10 P w) (x : Ext w w') : T10 P w' := var?_ext h x
theorem grow_ext (w : World) (os : Array Obj) : Ext w (Sort.grow w os) := by
  refine ⟨rfl, rfl, rfl, ?_, fun k hk => ?_⟩
  · show w.heap.size ≤ (w.heap ++ os).size
    rw [Array.size_append]; omega
  · show (w.heap ++ os)[k]? = w.heap[k]?
    exact Array.getElem?_append_left hk
theorem fmt10_of {n : FuncId} {k : Int} {r : List UInt8}
    (hC : ∀ (k : Int), -9223372036854775808 ≤ k → k ≤ 9223372036854775807 → ∀ w : World, Lib.TabIs P w "internal/strconv.uint64pow10" .u64 Lib.pow10Tab →
      Calls P n #[.int .i64 k, .int .i64 10] w fun e w' => e = .returned (.string ⟨(Lib.itoa k).toArray⟩) ∧ ∃ j os, w' = Sort.grow (w.drewN j) os)
    (hr : fmt10 k = some r) (t : T10 P w) : Calls P n #[.int .i64 k, .int .i64 10] w fun e w' => e = .returned (.string (bs r)) ∧ Ext w w' := by
  unfold fmt10 at hr
  split at hr
  case isFalse => cases hr
  rename_i h
  cases hr
  refine (hC k h.1 h.2 w t).mono ?_
  rintro e w' ⟨rfl, j, os, rfl⟩
  exact ⟨rfl, (Ext.drewN w j).trans (grow_ext _ _)⟩
end
end Go.Rg
