import Derived.Test.YtdcienojgkioiaaRs
namespace Go.Rg
open Go Go.RowKit Go.Fl

section
variable {P : Program} {ops : Array Oper} {K : Sig → World → Prop} {σ : Sig} {w w' : World} {rest : List Oper}
  {dst : Option Tmp} {ty : TypeId} {pos : String} {after : Array Edge} {g : Option (Nat × Bool)} {ρ : Operand → Value} {R : Value → World → Prop}

theorem d_icmpL {b : Bool} {op : BinOp} {x y : Operand} {t t2 : TypeId} {k : IntKind} {u v : Int} (hop : op = .eql ∨ op = .neq ∨ op = .lss ∨ op = .leq ∨ op = .gtr ∨ op = .geq) (hx : ρ x = .int k u) (hy : ρ y = .int k v)
    (hb : icmp op u v = b) (h : R (.bool b) w) : Does P ⟨dst, .binOp op t x y t2, ty, pos, after, g⟩ ρ w R := d_icmp hop hx hy (by rw [hb]; exact h)

theorem d_indexArr {x ix : Operand} {t : TypeId} {b o o' : Nat} {i : Int} (hx : ρ x = .pointer (some ⟨b, o, none⟩)) (hi : ρ ix = .int .i64 i)
    (hr : ∀ w, (Instr.indexAt t (.pointer (some ⟨b, o, none⟩)) (.int .i64 i)).run P w = .ok (.pointer (some ⟨b, o', none⟩)) w) (h : R (.pointer (some ⟨b, o', none⟩)) w) : Does P ⟨dst, .indexAddr t x ix, ty, pos, after, g⟩ ρ w R :=
  d_run (by simp only [execOp, hx, hi]; simp [hr]) h
theorem d_indexVal {x ix : Operand} {t : TypeId} {a v : Value} {i : Int} (hx : ρ x = a) (hi : ρ ix = .int .i64 i)
    (hr : ∀ w, (Instr.index t a (.int .i64 i)).run P w = .ok v w) (h : R v w) : Does P ⟨dst, .index t x ix, ty, pos, after, g⟩ ρ w R :=
  d_run (by simp only [execOp, hx, hi]; simp [hr]) h
theorem d_field {x : Operand} {t f : Nat} {a v : Value} (hx : ρ x = a) (hr : ∀ w, (Instr.field t a f).run P w = .ok v w) (h : R v w) : Does P ⟨dst, .field t x f, ty, pos, after, g⟩ ρ w R :=
  d_run (by simp only [execOp, hx]; simp [hr]) h

theorem lc_f {k : FloatKind} {r a : Nat} {l m : List Value} (h : cn k r = a) (t : l = m) : Value.float k (cn k r) :: l = .float k a :: m := by rw [h, t]
theorem lc_v {v : Value} {v' : Value} {l m : List Value} (h : v = v') (t : l = m) : v :: l = v' :: m := by rw [h, t]

theorem rb {v : Value} {b : Nat} (h : ¬ v.ownBlock = some b) : ∀ k, v.ownBlock = some k → ¬ k = b := fun k hk e => h (by rw [hk, e])
theorem apart_symm {v u : Value} (h : ∀ k, v.ownBlock = some k → ¬ u.ownBlock = some k) : ∀ k, u.ownBlock = some k → ¬ v.ownBlock = some k := fun k h1 h2 => h k h2 h1

theorem app_own {w0 : World} {v x : Value} (ha : v.ownBlock = x.ownBlock ∨ v.ownBlock = some w.heap.size) (hx : ∀ k, x.ownBlock = some k → w0.heap.size ≤ k) (hs : w0.heap.size ≤ w.heap.size) : ∀ k, v.ownBlock = some k → w0.heap.size ≤ k := fun k hk => by
  rcases ha with h | h
  · exact hx k (by rw [← h, hk])
  · rw [h] at hk; cases hk; exact hs
theorem app_nb {v x : Value} {b : Nat} (ha : v.ownBlock = x.ownBlock ∨ v.ownBlock = some w.heap.size) (hx : ¬ x.ownBlock = some b) (hb : b < w.heap.size) : ¬ v.ownBlock = some b := fun e => by
  rcases ha with h | h
  · exact hx (by rw [← h, e])
  · rw [h] at e; cases e; exact Nat.lt_irrefl _ hb
theorem app_nr {E : Type} {e : Enc E} {T : TypeId} {ys : List E} {v x y : Value} (ha : v.ownBlock = x.ownBlock ∨ v.ownBlock = some w.heap.size) (hx : ∀ k, y.ownBlock = some k → ¬ x.ownBlock = some k) (hy : OS w T e y ys) : ∀ k, y.ownBlock = some k → ¬ v.ownBlock = some k := fun k hk hv => by
  rcases ha with h | h
  · exact hx k hk (by rw [← h, hv])
  · rw [h] at hv; cases hv; exact Nat.lt_irrefl _ (hy.lt _ hk)

/-- What a row holds behind a store into one of its elements. -/
theorem OS.setN {E : Type} {e : Enc E} {T : TypeId} {xs : List E} {gb cap : Nat} {cur : Array Value} {v : Value} {j : Nat} {x x2 : E} {old new : List Value} {vs : Array Value} {k : Nat} {w2 : World}
    (hv : v = .slice (some ⟨gb, 0, none⟩) xs.length cap) (hO : OS w T e v xs) (hB : w.heap[gb]? = some (.cells cur T (0, 0))) (hP : (cur.toList.drop (j * e.size)).take e.size = old) (hj : xs[j]? = some x)
    (hk : old.take k ++ vs.toList ++ old.drop (k + vs.size) = new) (hkl : k + vs.size ≤ e.size) (hnew : new.map cnv = e.f x2)
    (hS : Put w w2 gb (splice cur (j * e.size + k) vs) T) : OS w2 T e v (xs.set j x2) := by
  subst hv
  obtain ⟨cells, h1, h2, h3⟩ := hO
  rcases h3 with ⟨h4, _⟩ | ⟨g', cap', cur', he, _, hg, hnc, hcm, hcs, htk⟩
  · cases h4
  cases he
  rw [hB] at hg; cases hg
  have hjl := (List.getElem?_eq_some_iff.1 hj).1
  have hmul : (j + 1) * e.size ≤ xs.length * e.size := Nat.mul_le_mul_right _ hjl
  have hmul2 : xs.length * e.size ≤ cap * e.size := Nat.mul_le_mul_right _ hnc
  rw [Nat.add_mul, Nat.one_mul] at hmul
  have hcl : cur.toList.length = cap * e.size := by rw [Array.length_toList, hcs]
  have hol : old.length = e.size := by rw [← hP, List.length_take, List.length_drop, hcl]; omega
  -- the new cells
  have key : (splice cur (j * e.size + k) vs).toList = cur.toList.take (j * e.size) ++ new ++ cur.toList.drop ((j + 1) * e.size) := by
    unfold splice
    rw [List.toList_toArray, ← hk]
    have a1 : cur.toList.take (j * e.size + k) = cur.toList.take (j * e.size) ++ old.take k := by
      rw [← hP, List.take_take, Nat.min_eq_left (by omega), List.take_add]
    have a2 : cur.toList.drop (j * e.size + k + vs.size) = old.drop (k + vs.size) ++ cur.toList.drop ((j + 1) * e.size) := by
      rw [← hP, List.drop_take, List.drop_drop]
      have : cur.toList.drop (j * e.size + k + vs.size) = (cur.toList.drop (j * e.size + (k + vs.size))).take (e.size - (k + vs.size)) ++ (cur.toList.drop (j * e.size + (k + vs.size))).drop (e.size - (k + vs.size)) := by
        rw [List.take_append_drop, Nat.add_assoc]
      rw [this, List.drop_drop]
      congr 2
      rw [Nat.add_mul, Nat.one_mul]; omega
    rw [a1, a2]
    simp only [List.append_assoc]
  have hnl : new.length = e.size := by
    have := congrArg List.length hnew
    rwa [List.length_map, e.len] at this
  have htl : (cur.toList.take (j * e.size)).length = j * e.size := by rw [List.length_take, hcl]; omega
  have hcells : cells = cur.toList.take (xs.length * e.size) := htk.symm
  have tk : ((splice cur (j * e.size + k) vs).toList).take (xs.length * e.size) = cells.take (j * e.size) ++ new ++ cells.drop ((j + 1) * e.size) := by
    have hl3 : (cur.toList.take (j * e.size) ++ new).length = j * e.size + e.size := by rw [List.length_append, htl, hnl]
    have f1 : xs.length * e.size = (cur.toList.take (j * e.size) ++ new).length + (xs.length * e.size - (j * e.size + e.size)) := by rw [hl3]; omega
    have f2 : (j + 1) * e.size = j * e.size + e.size := by rw [Nat.add_mul, Nat.one_mul]
    rw [key, hcells, List.take_take, Nat.min_eq_left (by omega : j * e.size ≤ xs.length * e.size), List.drop_take, f2]
    conv => lhs; rw [f1]
    rw [List.take_length_add_append]
  have hset : ∀ (l : List E) (m : Nat), m < l.length → (l.set m x2).flatMap e.f = (l.flatMap e.f).take (m * e.size) ++ e.f x2 ++ (l.flatMap e.f).drop ((m + 1) * e.size) := by
    intro l
    induction l with
    | nil => intro m h; simp at h
    | cons y ys ih =>
      intro m h
      cases m with
      | zero =>
        simp only [List.set_cons_zero, List.flatMap_cons, Nat.zero_mul, List.take_zero, List.nil_append, Nat.zero_add, Nat.one_mul]
        rw [List.drop_left' (e.len _)]
      | succ m =>
        simp only [List.set_cons_succ, List.flatMap_cons]
        rw [ih m (by simpa using h)]
        have g1 : (m + 1) * e.size = e.size + m * e.size := by rw [Nat.add_mul]; omega
        have g2 : (m + 1 + 1) * e.size = e.size + (m + 1) * e.size := by rw [Nat.add_mul (m + 1)]; omega
        rw [g2]
        conv => rhs; rw [show List.take ((m + 1) * e.size) (e.f y ++ List.flatMap e.f ys) = List.take (e.size + m * e.size) (e.f y ++ List.flatMap e.f ys) by rw [g1]]
        have ty : ∀ q b, (e.f y ++ b).take (e.size + q) = e.f y ++ b.take q := fun q b => by rw [← e.len y, List.take_length_add_append]
        have dy : ∀ q b, (e.f y ++ b).drop (e.size + q) = b.drop q := fun q b => by rw [← e.len y, List.drop_length_add_append]
        rw [ty, dy]
        simp only [List.append_assoc]
  refine ⟨cells.take (j * e.size) ++ new ++ cells.drop ((j + 1) * e.size), ?_, ?_, ?_⟩
  · rw [List.map_append, List.map_append, List.map_take, List.map_drop, h1, hnew, hset xs j hjl]
  · rw [List.length_set, List.length_append, List.length_append, List.length_take, List.length_drop, hnl, h2]
    rw [Nat.add_mul, Nat.one_mul]; omega
  · refine .inr ⟨gb, cap, _, by rw [List.length_set], Nat.zero_le _, hS.here, by rw [List.length_set]; exact hnc, hcm, ?_, by rw [List.length_set]; exact tk⟩
    rw [← Array.length_toList, key, List.length_append, List.length_append, htl, hnl, List.length_drop, hcl]
    rw [Nat.add_mul, Nat.one_mul]; omega

theorem OS.set {E : Type} {e : Enc E} {T : TypeId} {xs : List E} {gb cap : Nat} {cur : Array Value} {v : Value} {i : Int} {x x2 : E} {old new : List Value} {vs : Array Value} {k : Nat} {w2 : World}
    (hv : v = .slice (some ⟨gb, 0, none⟩) xs.length cap) (hO : OS w T e v xs) (hB : w.heap[gb]? = some (.cells cur T (0, 0))) (hP : (cur.toList.drop (i.toNat * e.size)).take e.size = old) (hx : idx xs i = some x)
    (hk : old.take k ++ vs.toList ++ old.drop (k + vs.size) = new) (hkl : k + vs.size ≤ e.size) (hnew : new.map cnv = e.f x2)
    (hS : Put w w2 gb (splice cur (i.toNat * e.size + k) vs) T) : OS w2 T e v (xs.set i.toNat x2) := by
  obtain ⟨j, rfl, hj⟩ := idx_out hx
  rw [Int.toNat_natCast] at *
  exact OS.setN hv hO hB hP hj hk hkl hnew hS

theorem d_store_elem {E : Type} {e : Enc E} {T To : TypeId} {xs : List E} {gb cap : Nat} {cur : Array Value} {v : Value} {i : Int} {a x2 : E} {old new : List Value} {vs : Array Value} {k o : Nat} {x y : Operand}
    (hx : ρ x = .pointer (some ⟨gb, o, none⟩)) (hy : (ρ y).cells = vs) (hv : v = .slice (some ⟨gb, 0, none⟩) xs.length cap) (hO : OS w To e v xs) (hB : w.heap[gb]? = some (.cells cur To (0, 0))) (hP : (cur.toList.drop (i.toNat * e.size)).take e.size = old) (ha : idx xs i = some a)
    (hn : ∀ w, (sizeOf T).run P w = .ok vs.size w) (h1 : vs.toList.all (·.oneCell') = true) (hkl : k + vs.size ≤ e.size) (hk : old.take k ++ vs.toList ++ old.drop (k + vs.size) = new) (ho : o = i.toNat * e.size + k) (hnew : new.map cnv = e.f x2) (_hh : (0 : Nat) = 0)
    (h : ∀ w', Put w w' gb (splice cur (i.toNat * e.size + k) vs) To → OS w' To e v (xs.set i.toNat x2) → R undef w') : Does P ⟨dst, .store T x y, ty, pos, after, g⟩ ρ w R := by
  subst ho
  have hl : i.toNat * e.size + k + vs.size ≤ cur.size := by
    obtain ⟨j, rfl, hj⟩ := idx_out ha
    have hjl := (List.getElem?_eq_some_iff.1 hj).1
    obtain ⟨cells, _, _, h3⟩ := hO
    subst hv
    rcases h3 with ⟨h4, _⟩ | ⟨g', cap', cur', he, _, hg, hnc, _, hcs, _⟩
    · cases h4
    cases he
    rw [hB] at hg; cases hg
    have e0 : ((j : Int).toNat) = j := by simp
    rw [e0, hcs]
    have : (j + 1) * e.size ≤ cap * e.size := Nat.mul_le_mul_right _ (by omega)
    rw [Nat.add_mul, Nat.one_mul] at this
    omega
  exact d_store hx hy hB hn hl h1 fun w' hS => h w' hS (OS.set hv hO hB hP ha hk hkl hnew hS)

/-- One of two. -/
abbrev sel.{u} {A B : Type} {C : Sort u} (e : A ⊕ B) (f : A → C) (g : B → C) : C := match e with
  | .inl a => f a
  | .inr b => g b

theorem ext_of_oth0 (h : Frm (Oth [] none) w w') : Ext w w' := h.ext fun _ _ _ => not_oth0
theorem oth_own1 {D : Nat → Option TypeId → Prop} {Q : Nat → Option TypeId → Prop} (h : ∀ k t, D k t → Q k t) : ∀ k t, Oth [D] none k t → Q k t := fun k t ⟨j, D', h1, _, h3⟩ => by
  cases j with
  | zero => simp at h1; subst h1; exact h k t h3
  | succ j => simp at h1
theorem oth_own2 {D D2 : Nat → Option TypeId → Prop} {Q : Nat → Option TypeId → Prop} (h : ∀ k t, D k t → Q k t) (h2 : ∀ k t, D2 k t → Q k t) : ∀ k t, Oth [D, D2] none k t → Q k t := fun k t ⟨j, D', h1, _, h3⟩ => by
  cases j with
  | zero => simp at h1; subst h1; exact h k t h3
  | succ j => cases j with
    | zero => simp at h1; subst h1; exact h2 k t h3
    | succ j => simp at h1

theorem frm_ext {D : Nat → Option TypeId → Prop} (h : Frm D w w') (hd : ∀ k t, k < w.heap.size → ¬ D k t) : Ext w w' := h.ext hd

/-- What lies below the entry's size lies apart from the call's own. -/
theorem old_bb {o : Obj} {b b0 : Nat} (h : w.heap[b]? = some o) (h0 : w.heap.size ≤ b0) : b ≠ b0 := Nat.ne_of_lt (Nat.lt_of_lt_of_le (lt_heap h) h0)
theorem old_br {o : Obj} {b : Nat} {v : Value} (h : w.heap[b]? = some o) (h0 : ∀ k, v.ownBlock = some k → w.heap.size ≤ k) : ¬ v.ownBlock = some b := fun e => Nat.lt_irrefl _ (Nat.lt_of_lt_of_le (lt_heap h) (h0 b e))
theorem RS.lt {E : Type} {e : Enc E} {v : Value} {xs : List E} (h : RS w e v xs) : ∀ k, v.ownBlock = some k → k < w.heap.size := fun k hk => by
  obtain ⟨cells, _, h2⟩ := h
  rcases h2 with ⟨rfl, _⟩ | ⟨g, o, cap, cur, T, fr, rfl, _, h5, _⟩
  · cases hk
  · cases hk; exact lt_heap h5
theorem old_rb {E : Type} {e : Enc E} {v : Value} {xs : List E} {b0 : Nat} (h : RS w e v xs) (h0 : w.heap.size ≤ b0) : ∀ k, v.ownBlock = some k → ¬ k = b0 := fun k hk => Nat.ne_of_lt (Nat.lt_of_lt_of_le (h.lt k hk) h0)
theorem old_rr {E : Type} {e : Enc E} {v u : Value} {xs : List E} (h : RS w e v xs) (h0 : ∀ k, u.ownBlock = some k → w.heap.size ≤ k) : ∀ k, v.ownBlock = some k → ¬ u.ownBlock = some k := fun k hk hu => Nat.lt_irrefl _ (Nat.lt_of_lt_of_le (h.lt k hk) (h0 k hu))
/-- What is new in a region lies apart from what was. -/
theorem nb_box {o : Obj} {b b0 : Nat} (h : w.heap[b0]? = some o) (hb : w.heap.size ≤ b) : ¬ b = b0 := Nat.ne_of_gt (Nat.lt_of_lt_of_le (lt_heap h) hb)
theorem nb_row {E : Type} {e : Enc E} {T : TypeId} {v : Value} {xs : List E} {b : Nat} (h : OS w T e v xs) (hb : w.heap.size ≤ b) : ¬ v.ownBlock = some b := h.ne_new hb
theorem nb_box2 {o : Obj} {k b0 : Nat} {x : Value} (h : x.ownBlock = some k ∨ w.heap.size ≤ k) (hx : ¬ x.ownBlock = some b0) (h0 : w.heap[b0]? = some o) : ¬ k = b0 := fun e => by
  rcases h with h | h
  · exact hx (by rw [h, e])
  · exact nb_box h0 h e
theorem nb_row2 {E : Type} {e : Enc E} {T : TypeId} {v x : Value} {xs : List E} {k : Nat} (h : x.ownBlock = some k ∨ w.heap.size ≤ k) (hx : ∀ k, x.ownBlock = some k → ¬ v.ownBlock = some k) (h0 : OS w T e v xs) : ¬ v.ownBlock = some k := fun hv => by
  rcases h with h | h
  · exact hx k h hv
  · exact nb_row h0 h hv
theorem splice_all {cs vs : Array Value} (h : vs.size = cs.size) : splice cs 0 vs = vs := by
  unfold splice
  rw [List.take_zero, List.nil_append, Nat.zero_add, List.drop_of_length_le (by rw [Array.length_toList, h]; exact Nat.le_refl _), List.append_nil]
/-- A store of a whole into a block of which the size alone is known. -/
theorem d_store_new {T E : TypeId} {x y : Operand} {b n : Nat} {cur vs : Array Value} (hx : ρ x = .pointer (some ⟨b, 0, none⟩)) (hy : (ρ y).cells = vs)
    (hb : w.heap[b]? = some (.cells cur E (0, 0))) (hc : cur.size = n) (hn : ∀ w, (sizeOf T).run P w = .ok vs.size w) (hl : vs.size = n) (h1 : vs.toList.all (·.oneCell') = true)
    (h : ∀ w', Put w w' b vs E → R undef w') : Does P ⟨dst, .store T x y, ty, pos, after, g⟩ ρ w R := by
  subst hc
  refine d_store hx hy hb hn (by rw [hl, Nat.zero_add]; exact Nat.le_refl _) h1 fun w' hS => h w' ?_
  rw [splice_all hl] at hS; exact hS
theorem nty {T T' : TypeId} {p : Prop} (h : T ≠ T') : ¬ (p ∧ some T = some T') := fun e => h (Option.some.inj e.2)
theorem not_new_box {o : Obj} {b : Nat} (h : w.heap[b]? = some o) : ¬ w.heap.size ≤ b := Nat.not_le_of_gt (lt_heap h)
theorem not_new_row {E : Type} {e : Enc E} {T : TypeId} {v : Value} {xs : List E} (h : OS w T e v xs) : ∀ k, v.ownBlock = some k → ¬ w.heap.size ≤ k := fun k hk => Nat.not_le_of_gt (h.lt k hk)
theorem not_new_rs {E : Type} {e : Enc E} {v : Value} {xs : List E} (h : RS w e v xs) : ∀ k, v.ownBlock = some k → ¬ w.heap.size ≤ k := fun k hk => Nat.not_le_of_gt (h.lt k hk)
theorem not_newT_box {o : Obj} {b : Nat} {t t' : Option TypeId} (h : w.heap[b]? = some o) : ¬ (w.heap.size ≤ b ∧ t = t') := fun e => not_new_box h e.1
theorem not_newT_row {E : Type} {e : Enc E} {T : TypeId} {v : Value} {xs : List E} {t t' : Option TypeId} (h : OS w T e v xs) : ∀ k, v.ownBlock = some k → ¬ (w.heap.size ≤ k ∧ t = t') := fun k hk x => not_new_row h k hk x.1
theorem not_newT_rs {E : Type} {e : Enc E} {v : Value} {xs : List E} {t t' : Option TypeId} (h : RS w e v xs) : ∀ k, v.ownBlock = some k → ¬ (w.heap.size ≤ k ∧ t = t') := fun k hk x => not_new_rs h k hk x.1
theorem app_loc {v x : Value} {w0 : World} (ha : v.ownBlock = x.ownBlock ∨ v.ownBlock = some w.heap.size) (hs : w0.heap.size ≤ w.heap.size) : ∀ k, v.ownBlock = some k → x.ownBlock = some k ∨ w0.heap.size ≤ k := fun k hk => by
  rcases ha with h | h
  · exact .inl (by rw [← h, hk])
  · rw [h] at hk; cases hk; exact .inr hs
theorem app_nb2 {o : Obj} {v x : Value} {b : Nat} (ha : ∀ k, v.ownBlock = some k → x.ownBlock = some k ∨ w.heap.size ≤ k) (hx : ¬ x.ownBlock = some b) (h0 : w.heap[b]? = some o) : ¬ v.ownBlock = some b := fun e => nb_box2 (ha b e) hx h0 rfl
theorem app_nr2 {E : Type} {e : Enc E} {T : TypeId} {ys : List E} {v x y : Value} (ha : ∀ k, v.ownBlock = some k → x.ownBlock = some k ∨ w.heap.size ≤ k) (hx : ∀ k, y.ownBlock = some k → ¬ x.ownBlock = some k) (hy : OS w T e y ys) : ∀ k, y.ownBlock = some k → ¬ v.ownBlock = some k := fun k hk hv =>
  nb_row2 (ha k hv) (apart_symm hx) hy hk
theorem app_own2 {w0 : World} {v x : Value} (ha : ∀ k, v.ownBlock = some k → x.ownBlock = some k ∨ w.heap.size ≤ k) (hx : ∀ k, x.ownBlock = some k → w0.heap.size ≤ k) (hs : w0.heap.size ≤ w.heap.size) : ∀ k, v.ownBlock = some k → w0.heap.size ≤ k := fun k hk => by
  rcases ha k hk with h | h
  · exact hx k h
  · exact Nat.le_trans hs h

/-- Where an element of a slice lies, whatever the world. -/
def EL {E : Type} (e : Enc E) (v : Value) (n : Nat) (i : Int) (g o : Nat) : Prop := ∃ o0 cap, v = .slice (some ⟨g, o0, none⟩) n cap ∧ o = o0 + i.toNat * e.size
theorem RS.el {E : Type} {e : Enc E} {v : Value} {xs : List E} {i : Int} {x : E} {gb o : Nat} (h : RS w e v xs) (hl : EL e v xs.length i gb o) (hx : idx xs i = some x) :
    ∃ cur T fr vs, w.heap[gb]? = some (.cells cur T fr) ∧ (cur.toList.drop o).take e.size = vs ∧ vs.map cnv = e.f x := by
  obtain ⟨j, rfl, hj⟩ := idx_out hx
  obtain ⟨o0, cap0, rfl, rfl⟩ := hl
  obtain ⟨g', o', cap, cur, T, fr, he, hg, vs, h1, h2⟩ := h.at hj
  cases he
  exact ⟨cur, T, fr, vs, hg, by simpa using h1, h2⟩
theorem d_indexE {E : Type} {e : Enc E} {v : Value} {xs : List E} {T : TypeId} {x ix : Operand} {t : TypeId} {k : IntKind} {i : Int} {a : E} (ht : P.underlying t = some (.slice T)) (hn : ∀ w, (sizeOf T).run P w = .ok e.size w) (hx : ρ x = v) (hi : ρ ix = .int k i) (h : RS w e v xs) (ha : idx xs i = some a)
    (hR : ∀ g o, EL e v xs.length i g o → R (.pointer (some ⟨g, o, none⟩)) w) : Does P ⟨dst, .indexAddr t x ix, ty, pos, after, g⟩ ρ w R := by
  obtain ⟨j, rfl, hj⟩ := idx_out ha
  obtain ⟨g, o, cap, cur, T', fr, rfl, hg, vs, h1, h2⟩ := h.at hj
  have hl := (List.getElem?_eq_some_iff.1 hj).1
  refine d_run (v := .pointer (some ⟨g, o + j * e.size, none⟩)) (w' := w) ?_ (hR g (o + j * e.size) ⟨o, cap, rfl, by simp⟩)
  have hadd : (⟨g, o, none⟩ : Addr).add (j * e.size) = ⟨g, o + j * e.size, none⟩ := by unfold Addr.add; split <;> simp_all
  simp only [execOp, hx, hi]
  have e1 : (Instr.indexAt t (.slice (some ⟨g, o, none⟩) xs.length cap) (.int k j)).run P w = .ok (.pointer (some ⟨g, o + j * e.size, none⟩)) w := by
    simp [Instr.indexAt, asIntOf, run_underlying ht, hn, hl, hadd]
  simp [e1]

theorem dg_on {o : Oper} {j : Nat} {b : Bool} (hg : o.guard = some (j, b)) (hy : sl ops σ j = .bool b) (h : Does P o (ev σ) w R) : DoesG P ops o σ w R := by
  unfold DoesG
  have e : yl ops σ j = some b := by
    unfold sl at hy; unfold yl
    cases hj : (ops[j]?).bind (·.dst) with
    | none => rw [hj] at hy; cases hy
    | some t => rw [hj] at hy; simp only at hy ⊢; rw [hy]
  rw [if_pos (by simp [Region.wanted, hg, e])]
  exact h
theorem dg_off {o : Oper} {j : Nat} {b c : Bool} (hg : o.guard = some (j, b)) (hy : sl ops σ j = .bool c) (hne : b ≠ c) (h : R undef w) : DoesG P ops o σ w R := by
  unfold DoesG
  have e : yl ops σ j = some c := by
    unfold sl at hy; unfold yl
    cases hj : (ops[j]?).bind (·.dst) with
    | none => rw [hj] at hy; cases hy
    | some t => rw [hj] at hy; simp only at hy ⊢; rw [hy]
  rw [if_neg (by simp [Region.wanted, hg, e]; exact fun h => hne h.symm)]
  exact h
end
end Go.Rg
