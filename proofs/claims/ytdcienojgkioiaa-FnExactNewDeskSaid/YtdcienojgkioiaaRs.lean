import Derived.Test.YtdcienojgkioiaaRl
import Derived.Maps.AppendAt
import Derived.Great.Walk
namespace Go.Rg
open Go Go.RowKit Go.Fl

/-- A cell, its not-a-number the one. -/
def cnv : Value → Value
  | .float k b => .float k (cn k b)
  | v => v

theorem oneCell_cnv (v : Value) : (cnv v).oneCell' = v.oneCell' := by cases v <;> rfl

/-- How an element lies in its cells. -/
structure Enc (E : Type) where
  size : Nat
  f : E → List Value
  len : ∀ x, (f x).length = size
  one : ∀ x, (f x).all (·.oneCell') = true

theorem cnv_f {k : FloatKind} {a : Nat} {l vs : List Value} (h : vs.map cnv = .float k a :: l) : ∃ r vs', vs = .float k r :: vs' ∧ cn k r = a ∧ vs'.map cnv = l := by
  cases vs with
  | nil => simp at h
  | cons v vs =>
    simp only [List.map_cons, List.cons.injEq] at h
    cases v <;> simp only [cnv, reduceCtorEq, false_and, Value.float.injEq] at h
    obtain ⟨⟨rfl, rfl⟩, h2⟩ := h
    exact ⟨_, vs, rfl, rfl, h2⟩
theorem cnv_i {k : IntKind} {a : Int} {l vs : List Value} (h : vs.map cnv = .int k a :: l) : ∃ vs', vs = .int k a :: vs' ∧ vs'.map cnv = l := by
  cases vs with
  | nil => simp at h
  | cons v vs =>
    simp only [List.map_cons, List.cons.injEq] at h
    cases v <;> simp only [cnv, reduceCtorEq, false_and, Value.int.injEq] at h
    obtain ⟨⟨rfl, rfl⟩, h2⟩ := h
    exact ⟨vs, rfl, h2⟩
theorem cnv_b {a : Bool} {l vs : List Value} (h : vs.map cnv = .bool a :: l) : ∃ vs', vs = .bool a :: vs' ∧ vs'.map cnv = l := by
  cases vs with
  | nil => simp at h
  | cons v vs =>
    simp only [List.map_cons, List.cons.injEq] at h
    cases v <;> simp only [cnv, reduceCtorEq, false_and, Value.bool.injEq] at h
    obtain ⟨rfl, h2⟩ := h
    exact ⟨vs, rfl, h2⟩
theorem cnv_s {a : ByteArray} {l vs : List Value} (h : vs.map cnv = .string a :: l) : ∃ vs', vs = .string a :: vs' ∧ vs'.map cnv = l := by
  cases vs with
  | nil => simp at h
  | cons v vs =>
    simp only [List.map_cons, List.cons.injEq] at h
    cases v <;> simp only [cnv, reduceCtorEq, false_and, Value.string.injEq] at h
    obtain ⟨rfl, h2⟩ := h
    exact ⟨vs, rfl, h2⟩
theorem cnv_nil {vs : List Value} (h : vs.map cnv = []) : vs = [] := by cases vs <;> simp at h ⊢

theorem len_flat {E : Type} (e : Enc E) (xs : List E) : (xs.flatMap e.f).length = xs.length * e.size := by
  induction xs with
  | nil => simp
  | cons x xs ih => simp [List.flatMap_cons, ih, e.len, Nat.add_mul, Nat.add_comm]

theorem sub_flat {E : Type} (e : Enc E) : ∀ {xs : List E} {i : Nat} {x : E}, xs[i]? = some x → ((xs.flatMap e.f).drop (i * e.size)).take e.size = e.f x := by
  intro xs
  induction xs with
  | nil => intro i x h; simp at h
  | cons y ys ih =>
    intro i x h
    cases i with
    | zero =>
      simp at h; subst h
      rw [List.flatMap_cons, Nat.zero_mul, List.drop_zero, List.take_left' (e.len _)]
    | succ i =>
      rw [List.flatMap_cons, Nat.add_mul, Nat.one_mul, Nat.add_comm, List.drop_append, List.drop_of_length_le (by rw [e.len]; omega), List.nil_append, e.len, show e.size + i * e.size - e.size = i * e.size by omega]
      exact ih (by simpa using h)

section
variable {E : Type} {w w' : World} {e : Enc E} {v : Value} {xs ys : List E} {T : TypeId}

/-- The slice v reads as xs. -/
def RS (w : World) (e : Enc E) (v : Value) (xs : List E) : Prop :=
  ∃ cells : List Value, cells.map cnv = xs.flatMap e.f ∧ ((v = .slice none 0 0 ∧ xs = []) ∨
    ∃ g o cap cur T fr, v = .slice (some ⟨g, o, none⟩) xs.length cap ∧ xs.length ≤ cap ∧ w.heap[g]? = some (.cells cur T fr) ∧ (cur.toList.drop o).take (xs.length * e.size) = cells)
/-- The slice v, a row of the call's own. -/
def OS (w : World) (T : TypeId) (e : Enc E) (v : Value) (xs : List E) : Prop :=
  ∃ cells : List Value, cells.map cnv = xs.flatMap e.f ∧ w.ownsRow 0 T e.size v xs.length cells

theorem OS.rs (h : OS w T e v xs) : RS w e v xs := by
  obtain ⟨cells, h1, h2, h3⟩ := h
  refine ⟨cells, h1, ?_⟩
  rcases h3 with ⟨rfl, h4⟩ | ⟨g, cap, cur, rfl, _, hg, hn, _, _, ht⟩
  · exact .inl ⟨rfl, List.eq_nil_of_length_eq_zero h4⟩
  · exact .inr ⟨g, 0, cap, cur, T, (0, 0), rfl, hn, hg, ht⟩

theorem RS.nil (w : World) (e : Enc E) : RS w e (.slice none 0 0) [] := ⟨[], rfl, .inl ⟨rfl, rfl⟩⟩
theorem OS.nil (w : World) (T : TypeId) (e : Enc E) : OS w T e (.slice none 0 0) [] := ⟨[], rfl, World.ownsRow_nil _ _ _ _⟩

theorem RS.ext (h : RS w e v xs) (x : Ext w w') : RS w' e v xs := by
  obtain ⟨cells, h1, h2⟩ := h
  refine ⟨cells, h1, ?_⟩
  rcases h2 with h2 | ⟨g, o, cap, cur, T, fr, h3, h4, h5, h6⟩
  · exact .inl h2
  · exact .inr ⟨g, o, cap, cur, T, fr, h3, h4, x.heap h5, h6⟩
theorem RS.frm {D : Nat → Option TypeId → Prop} (h : RS w e v xs) (x : Frm D w w') (hd : ∀ k t, v.ownBlock = some k → ¬ D k t) : RS w' e v xs := by
  obtain ⟨cells, h1, h2⟩ := h
  refine ⟨cells, h1, ?_⟩
  rcases h2 with h2 | ⟨g, o, cap, cur, T, fr, rfl, h4, h5, h6⟩
  · exact .inl h2
  · exact .inr ⟨g, o, cap, cur, T, fr, rfl, h4, x.heap (hd g _ rfl) h5, h6⟩
theorem OS.frm {D : Nat → Option TypeId → Prop} (h : OS w T e v xs) (x : Frm D w w') (hd : ∀ k, v.ownBlock = some k → ¬ D k (some T)) : OS w' T e v xs := by
  obtain ⟨cells, h1, h2, h3⟩ := h
  refine ⟨cells, h1, h2, ?_⟩
  rcases h3 with h3 | ⟨g, cap, cur, rfl, hb, hg, rest⟩
  · exact .inl h3
  · exact .inr ⟨g, cap, cur, rfl, hb, x.heap (hd g rfl) hg, rest⟩
theorem OS.ext (h : OS w T e v xs) (x : Ext w w') : OS w' T e v xs := h.frm (D := fun _ _ => False) x.frm (fun _ _ h => h)
theorem OS.lt (h : OS w T e v xs) : ∀ k, v.ownBlock = some k → k < w.heap.size := by
  obtain ⟨cells, _, h2⟩ := h
  exact fun k hk => (h2.lt k hk).2

/-- A block that comes later is not the row's. -/
theorem OS.ne_new (h : OS w T e v xs) {b : Nat} (hb : w.heap.size ≤ b) : ¬ v.ownBlock = some b := fun e => Nat.lt_irrefl _ (Nat.lt_of_lt_of_le (h.lt b e) hb)
/-- A row that comes later does not lie in the block. -/
theorem ne_fresh {b : Nat} (hf : ∀ k, v.ownBlock = some k → w.heap.size ≤ k) (hb : b < w.heap.size) : ¬ v.ownBlock = some b := fun e => Nat.lt_irrefl _ (Nat.lt_of_lt_of_le hb (hf b e))
theorem apart_fresh {v2 : Value} {E2 : Type} {e2 : Enc E2} {T2 : TypeId} {xs2 : List E2} (h : OS w T2 e2 v2 xs2) (hf : ∀ k, v.ownBlock = some k → w.heap.size ≤ k) : ∀ k, v2.ownBlock = some k → ¬ v.ownBlock = some k :=
  fun k h2 h1 => Nat.lt_irrefl _ (Nat.lt_of_lt_of_le (h.lt k h2) (hf k h1))

theorem RS.val (h : RS w e v xs) : ∃ a cap, v = .slice a xs.length cap := by
  obtain ⟨cells, _, h2⟩ := h
  rcases h2 with ⟨rfl, rfl⟩ | ⟨g, o, cap, cur, T, fr, rfl, _⟩
  · exact ⟨_, _, rfl⟩
  · exact ⟨_, _, rfl⟩

theorem RS.cells_len {cells : List Value} (h : cells.map cnv = xs.flatMap e.f) : cells.length = xs.length * e.size := by
  have := congrArg List.length h
  rwa [List.length_map, len_flat] at this

/-- Where an element lies. -/
theorem RS.at (h : RS w e v xs) {i : Nat} {x : E} (hx : xs[i]? = some x) : ∃ g o cap cur T fr, v = .slice (some ⟨g, o, none⟩) xs.length cap ∧ w.heap[g]? = some (.cells cur T fr) ∧
    ∃ vs : List Value, (cur.toList.drop (o + i * e.size)).take e.size = vs ∧ vs.map cnv = e.f x := by
  obtain ⟨cells, h1, h2⟩ := h
  rcases h2 with ⟨rfl, rfl⟩ | ⟨g, o, cap, cur, T, fr, rfl, _, h5, h6⟩
  · simp at hx
  · refine ⟨g, o, cap, cur, T, fr, rfl, h5, _, rfl, ?_⟩
    have hi := (List.getElem?_eq_some_iff.1 hx).1
    have h7 : ((cells.drop (i * e.size)).take e.size) = (cur.toList.drop (o + i * e.size)).take e.size := by
      rw [← h6, List.drop_take, List.take_take, List.drop_drop, Nat.min_eq_left]
      have : (i + 1) * e.size ≤ xs.length * e.size := Nat.mul_le_mul_right _ hi
      rw [Nat.add_mul, Nat.one_mul] at this
      omega
    rw [← h7, List.map_take, List.map_drop, h1]
    exact sub_flat e hx

/-- A slice literal's block. -/
theorem OS.box {g : Nat} {cs : Array Value} (hg : w.heap[g]? = some (.cells cs T (0, 0))) (hc : cs.toList.map cnv = xs.flatMap e.f) (hm : xs.length ≤ 1000000) :
    OS w T e (.slice (some ⟨g, 0, none⟩) xs.length xs.length) xs := by
  have hl := RS.cells_len (e := e) hc
  refine ⟨cs.toList, hc, hl, .inr ⟨g, xs.length, cs, rfl, Nat.zero_le _, hg, Nat.le_refl _, ?_, ?_, ?_⟩⟩
  · unfold maxLen; omega
  · rw [← hl]; simp
  · rw [← hl]; exact List.take_length
end

section
variable {P : Program} {ops : Array Oper} {K : Sig → World → Prop} {σ : Sig} {w : World} {rest : List Oper}
  {dst : Option Tmp} {ty : TypeId} {pos : String} {after : Array Edge} {g : Option (Nat × Bool)} {ρ : Operand → Value} {R : Value → World → Prop} {E : Type} {e : Enc E} {v y : Value} {xs ys : List E} {T : TypeId}

theorem d_len {x : Operand} {t : TypeId} (ht : P.underlying t = some (.slice T)) (hx : ρ x = v) (h : RS w e v xs) (hR : R (.int .i64 xs.length) w) :
    Does P ⟨dst, .call { callee := .builtin .len, args := #[x], argTypes := #[t] }, ty, pos, after, g⟩ ρ w R := by
  obtain ⟨a, cap, rfl⟩ := h.val
  refine d_run (v := .int .i64 xs.length) (w' := w) ?_ hR
  simp only [execOp, resolve, invoke, builtin, Sem.run_bind, Sem.run_pure, Result.andThen_ok, List.map_toArray, List.map_cons, List.map_nil, hx]
  simp [Builtin.len_, run_underlying ht, goInt]

theorem d_lenStr {x : Operand} {t : TypeId} {s : ByteArray} (ht : P.underlying t = some .string) (hx : ρ x = .string s) (hR : R (.int .i64 s.size) w) :
    Does P ⟨dst, .call { callee := .builtin .len, args := #[x], argTypes := #[t] }, ty, pos, after, g⟩ ρ w R := by
  refine d_run (v := .int .i64 s.size) (w' := w) ?_ hR
  simp only [execOp, resolve, invoke, builtin, Sem.run_bind, Sem.run_pure, Result.andThen_ok, List.map_toArray, List.map_cons, List.map_nil, hx]
  simp [Builtin.len_, run_underlying ht, goInt]

/-- The address of an element. -/
theorem d_index {x ix : Operand} {t : TypeId} {k : IntKind} {i : Int} {a : E} (ht : P.underlying t = some (.slice T)) (hn : ∀ w, (sizeOf T).run P w = .ok e.size w) (hx : ρ x = v) (hi : ρ ix = .int k i) (h : RS w e v xs) (ha : idx xs i = some a)
    (hR : ∀ g o' cur T' fr vs, v.ownBlock = some g → w.heap[g]? = some (.cells cur T' fr) → (cur.toList.drop o').take e.size = vs → vs.map cnv = e.f a → R (.pointer (some ⟨g, o', none⟩)) w) :
    Does P ⟨dst, .indexAddr t x ix, ty, pos, after, g⟩ ρ w R := by
  obtain ⟨j, rfl, hj⟩ := idx_out ha
  obtain ⟨g, o, cap, cur, T', fr, rfl, hg, vs, h1, h2⟩ := h.at hj
  have hl := (List.getElem?_eq_some_iff.1 hj).1
  refine d_run (v := .pointer (some ⟨g, o + j * e.size, none⟩)) (w' := w) ?_ (hR g (o + j * e.size) cur T' fr vs rfl hg h1 h2)
  have hadd : (⟨g, o, none⟩ : Addr).add (j * e.size) = ⟨g, o + j * e.size, none⟩ := by unfold Addr.add; split <;> simp_all
  simp only [execOp, hx, hi]
  have e1 : (Instr.indexAt t (.slice (some ⟨g, o, none⟩) xs.length cap) (.int k j)).run P w = .ok (.pointer (some ⟨g, o + j * e.size, none⟩)) w := by
    simp [Instr.indexAt, asIntOf, run_underlying ht, hn, hl, hadd]
  simp [e1]

/-- An element of a row of the call's own: the block is told whole. -/
theorem d_indexO {x ix : Operand} {t : TypeId} {k : IntKind} {i : Int} {a : E} {T0 : TypeId} (ht : P.underlying t = some (.slice T)) (hn : ∀ w, (sizeOf T).run P w = .ok e.size w) (hx : ρ x = v) (hi : ρ ix = .int k i) (h : OS w T0 e v xs) (ha : idx xs i = some a)
    (hR : ∀ g cap cur vs, v = .slice (some ⟨g, 0, none⟩) xs.length cap → w.heap[g]? = some (.cells cur T0 (0, 0)) → (cur.toList.drop (i.toNat * e.size)).take e.size = vs → vs.map cnv = e.f a → R (.pointer (some ⟨g, i.toNat * e.size, none⟩)) w) :
    Does P ⟨dst, .indexAddr t x ix, ty, pos, after, g⟩ ρ w R := by
  have h0 := h
  obtain ⟨cells, h1, h2, h3⟩ := h0
  rcases h3 with ⟨rfl, h4⟩ | ⟨g, cap, cur, rfl, _, hg, hnc, _, _, htk⟩
  · have : xs = [] := List.eq_nil_of_length_eq_zero h4
    subst this
    obtain ⟨j, rfl, hj⟩ := idx_out ha
    simp at hj
  · obtain ⟨j, rfl, hj⟩ := idx_out ha
    obtain ⟨g', o, cap', cur', T', fr, he, hg', vs, h5, h6⟩ := h.rs.at hj
    cases he
    rw [hg] at hg'
    cases hg'
    have hl := (List.getElem?_eq_some_iff.1 hj).1
    rw [Nat.zero_add] at h5
    refine d_run (v := .pointer (some ⟨g, j * e.size, none⟩)) (w' := w) ?_ (hR g cap cur vs rfl hg h5 h6)
    have hadd : (⟨g, 0, none⟩ : Addr).add (j * e.size) = ⟨g, j * e.size, none⟩ := by unfold Addr.add; split <;> simp_all
    simp only [execOp, hx, hi]
    have e1 : (Instr.indexAt t (.slice (some ⟨g, 0, none⟩) xs.length cap) (.int k j)).run P w = .ok (.pointer (some ⟨g, j * e.size, none⟩)) w := by
      simp [Instr.indexAt, asIntOf, run_underlying ht, hn, hl, hadd]
    simp [e1]

/-- A slice literal. -/
theorem d_bslice {t : TypeId} {n : Nat} {parts : Array (Nat × Operand)} {vs : List (Nat × Value)} {cs : Array Value} (ht : P.underlying t = some (.slice T)) (hp : (parts.toList.map fun p => (p.1, ρ p.2)) = vs) (hb : P.builtSlice T n vs = some cs)
    (h : ∀ w', w'.heap[w.heap.size]? = some (.cells cs T (0, 0)) → Ext w w' → R (.slice (some ⟨w.heap.size, 0, none⟩) n n) w') : Does P ⟨dst, .buildSlice t n parts, ty, pos, after, g⟩ ρ w R := by
  refine d_run (v := .slice (some ⟨w.heap.size, 0, none⟩) n n) (w' := w.alloc (.cells cs T)) ?_ (h _ (heap_alloc_new w _) (Ext.alloc _ _))
  have hp' : (parts.map fun (i, x) => (i, ρ x)).toList = vs := by rw [← hp, Array.toList_map]
  unfold Program.builtSlice at hb
  cases hie : P.info? T with
  | none => simp [hie] at hb
  | some ie =>
    simp only [hie] at hb
    cases hz : ie.zero with
    | none => simp [hz] at hb
    | some z =>
      simp only [hz] at hb
      by_cases hc : n * ie.size > 2 ^ 24 ∨ n * ie.size = 0
      · simp [hc] at hb
      · rw [if_neg hc] at hb
        have := run_buildSlice (P := P) w t T n (parts.map fun (i, x) => (i, ρ x)) cs ie z ht hie hz (fun h' => hc (Or.inl h')) (fun h' => hc (Or.inr h')) (by rw [hp']; exact hb)
        simp only [execOp]
        simp [this]
theorem d_bslice0 {t : TypeId} {s : Nat} (ht : P.underlying t = some (.slice T)) (hn : ∀ w, (sizeOf T).run P w = .ok s w)
    (h : ∀ w', w'.heap[w.heap.size]? = some (.cells #[] T (0, 0)) → Ext w w' → R (.slice (some ⟨w.heap.size, 0, none⟩) 0 0) w') : Does P ⟨dst, .buildSlice t 0 #[], ty, pos, after, g⟩ ρ w R := by
  refine d_run (v := .slice (some ⟨w.heap.size, 0, none⟩) 0 0) (w' := w.alloc (.cells #[] T)) ?_ (h _ (heap_alloc_new w _) (Ext.alloc _ _))
  simp only [execOp]
  have e1 : (Instr.buildSlice t 0 #[]).run P w = .ok (.slice (some ⟨w.heap.size, 0, none⟩) 0 0) (w.alloc (.cells #[] T)) := by
    simp [Instr.buildSlice, run_underlying ht, hn, newRow, Instr.fill]
    rw [show Array.range 0 = (#[] : Array Nat) from by simp [Array.range], Array.map_empty]
  simp [e1]

/-- Longer by some; none where no memory bears it. -/
def app {α : Type} (bytes : Nat) (xs ys : List α) : Option (List α) := if (xs.length + ys.length) * bytes ≤ 140737488355328 then some (xs ++ ys) else none
theorem app_out {α : Type} {bytes : Nat} {xs ys zs : List α} (h : app bytes xs ys = some zs) : (xs.length + ys.length) * bytes ≤ 140737488355328 ∧ zs = xs ++ ys := by
  unfold app at h
  split at h
  · rename_i h1; cases h; exact ⟨h1, rfl⟩
  · cases h

theorem d_append {x x2 : Operand} {t : TypeId} {i : TypeInfo} {z : Value} {zs : List E} (ht : P.underlying t = some (.slice T)) (hi : P.info? T = some i) (hz : i.zero = some z) (hs : i.size = e.size) (hzs : z.cells.size = e.size) (hpos : 0 < e.size) (hby : 0 < i.bytes)
    (hx : ρ x = v) (hx2 : ρ x2 = y) (hO : OS w T e v xs) (hR : RS w e y ys) (ha : app i.bytes xs ys = some zs)
    (h : ∀ v' w', OS w' T e v' zs → Frm (fun k _ => v.ownBlock = some k) w w' → (v'.ownBlock = v.ownBlock ∨ v'.ownBlock = some w.heap.size) → (v' = .slice none 0 0 ↔ v = .slice none 0 0 ∧ ys = []) → R v' w') :
    Does P ⟨dst, .call { callee := .builtin .append, args := #[x, x2], argTypes := #[t, t] }, ty, pos, after, g⟩ ρ w R := by
  obtain ⟨hb, rfl⟩ := app_out ha
  obtain ⟨cells, h1, h2⟩ := hO
  have hmx : xs.length + ys.length ≤ maxLen := by
    have : (xs.length + ys.length) * 1 ≤ (xs.length + ys.length) * i.bytes := Nat.mul_le_mul_left _ hby
    unfold maxLen; omega
  have run : ∃ v' w', (Builtin.append_ #[t, t] ty #[v, y]).run P w = .ok v' w' ∧ (OS w' T e v' (xs ++ ys) ∧ Frm (fun k _ => v.ownBlock = some k) w w' ∧ (v'.ownBlock = v.ownBlock ∨ v'.ownBlock = some w.heap.size) ∧ (v' = .slice none 0 0 ↔ v = .slice none 0 0 ∧ ys = [])) := by
    obtain ⟨news, h3, h4⟩ := hR
    rcases h4 with ⟨rfl, rfl⟩ | ⟨gy, oy, capy, cury, Ty, fry, rfl, hle, hgy, htk⟩
    · refine ⟨v, w, ?_, ?_, Frm.refl _ _, .inl rfl, by simp⟩
      · rcases h2.2 with ⟨rfl, h5⟩ | ⟨g', cap, cur, rfl, _, hg, hnc, _⟩
        · simp [Builtin.append_, run_underlying ht, sizeOf, typeInfo, hi, Builtin.lenOf, Builtin.firstCells]
        · simp [Builtin.append_, run_underlying ht, sizeOf, typeInfo, hi, Builtin.lenOf, Builtin.firstCells, hnc, storeCells]
      · rw [List.append_nil]; exact ⟨cells, h1, h2⟩
    · have hnl := RS.cells_len (e := e) h3
      have hcell : ∀ j u, news[j]? = some u → w.cell? ((⟨gy, oy, none⟩ : Addr).add j) = some u := by
        intro j u hj
        have hadd : (⟨gy, oy, none⟩ : Addr).add j = ⟨gy, oy + j, none⟩ := by unfold Addr.add; split <;> simp_all
        rw [hadd, cell_of_row w gy (oy + j) cury Ty fry hgy]
        rw [← htk, List.getElem?_take] at hj
        split at hj
        · rw [List.getElem?_drop] at hj; simpa using hj
        · cases hj
      have h1c : ∀ u ∈ news, u.oneCell' = true := by
        intro u hu
        rw [← oneCell_cnv]
        have : cnv u ∈ ys.flatMap e.f := by rw [← h3]; exact List.mem_map_of_mem hu
        obtain ⟨q, _, hq⟩ := List.mem_flatMap.1 this
        exact List.all_eq_true.1 (e.one q) _ hq
      obtain ⟨v', w', hr, r1, r2, r3, r4⟩ := run_append_own_at (P := P) w 0 t ty T i z e.size i.bytes ht hi hz hs rfl hzs hpos v xs.length cells h2 ⟨gy, oy, none⟩ ys.length capy news hnl hcell h1c hmx hb (Nat.zero_le _)
      have hsh : Shp w w' := by
        have al : ∀ o, Shp w (w.drew.alloc o) := fun o k cs T fr hk =>
          ⟨cs, ((Ext.drewN w 1).trans (Ext.alloc _ o)).heap hk, rfl⟩
        rw [← hs] at hnl h2
        rcases h2.2 with ⟨rfl, h0⟩ | ⟨g', cap, cur, rfl, _, hg, hnc, hcm, hcs, htake⟩
        · by_cases hm : ys.length = 0
          · have hn0 : news = [] := List.eq_nil_of_length_eq_zero (by rw [hnl, hm, Nat.zero_mul])
            have : (Builtin.append_ #[t, t] ty #[.slice none 0 0, .slice (some ⟨gy, oy, none⟩) ys.length capy]).run P w = .ok (.slice none 0 0) w := by
              rw [hm]
              simp [Builtin.append_, run_underlying ht, sizeOf, typeInfo, hi, Builtin.lenOf, Builtin.firstCells, loadCells, loadCellsFrom]
            rw [this] at hr; cases hr
            exact fun k cs T fr hk => ⟨cs, hk, rfl⟩
          · rw [run_append_nil (P := P) w t ty T i z ht hi hz ⟨gy, oy, none⟩ ys.length capy news hnl hcell (by omega) (by unfold maxLen at hmx; omega) (by rw [h0, Nat.zero_add] at hb; omega)] at hr
            cases hr; exact al _
        · by_cases hroom : xs.length + ys.length ≤ cap
          · have hfit : xs.length * i.size + news.length ≤ cur.size := by rw [hnl, hcs, ← Nat.add_mul]; exact Nat.mul_le_mul_right _ hroom
            rw [run_append_room (P := P) w t ty T i ht hi g' xs.length cap cur hg ⟨gy, oy, none⟩ ys.length capy news hnl hcell h1c hroom hfit] at hr
            cases hr
            refine (Put.setRow hg _ ?_).frm.shape
            simp only [List.size_toArray, List.length_append, List.length_take, List.length_drop, Array.length_toList]
            omega
          · have holds : ∀ j u, cells[j]? = some u → w.cell? ((⟨g', 0, none⟩ : Addr).add j) = some u := h2.cells (g := g') rfl
            rw [run_append_grow (P := P) w t ty T i z ht hi hz ⟨g', 0, none⟩ xs.length cap cells h2.1 holds ⟨gy, oy, none⟩ ys.length capy news hnl hcell (by omega) (by unfold maxLen at hmx; omega) (growslice_fits (by omega) hb)] at hr
            cases hr; exact al _
      refine ⟨v', w', hr, ⟨cells ++ news, by rw [List.map_append, h1, h3, List.flatMap_append], by rw [List.length_append]; exact r1⟩, grown_frm r2 hsh, r4, ?_⟩
      rw [r3, List.length_eq_zero_iff]
  obtain ⟨v', w', hr, r1, r2, r3, r4⟩ := run
  refine d_run (v := v') (w' := w') ?_ (h v' w' r1 r2 r3 r4)
  simp only [execOp, resolve, invoke, builtin, Sem.run_bind, Sem.run_pure, Result.andThen_ok, List.map_toArray, List.map_cons, List.map_nil, hx, hx2, hr]

end
end Go.Rg
