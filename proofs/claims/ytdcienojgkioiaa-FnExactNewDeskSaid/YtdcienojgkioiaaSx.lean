import Derived.Test.YtdcienojgkioiaaSv
import Derived.Lib.Join
import Derived.Lib.ConvBytes
import Derived.Lib.ParseIntB
/- Slices' values by their parts; rows that are handed on. -/
namespace Go.Rg
open Go Go.RowKit Go.Fl

section
variable {E E2 : Type} {e : Enc E} {e2 : Enc E2} {v v0 u : Value} {xs xs0 : List E} {T : TypeId} {w : World}
theorem RS.vals (h : RS w e v xs) : ∃ a n c, v = .slice a n c := by
  obtain ⟨a, c, h⟩ := h.val
  exact ⟨a, _, c, h⟩
theorem OS.vals (h : OS w T e v xs) : ∃ a n c, v = .slice a n c := h.rs.vals

/-- A row that is another one, or none. -/
def Hand (v0 : Value) (xs0 : List E) (v : Value) (xs : List E) : Prop := (v = v0 ∧ xs = xs0) ∨ (v = .slice none 0 0 ∧ xs = [])
theorem Hand.os (h : Hand v0 xs0 v xs) (o : OS w T e v0 xs0) : OS w T e v xs := by
  rcases h with ⟨rfl, rfl⟩ | ⟨rfl, rfl⟩
  · exact o
  · exact OS.nil _ _ _
theorem Hand.rs (h : Hand v0 xs0 v xs) (o : RS w e v0 xs0) : RS w e v xs := by
  rcases h with ⟨rfl, rfl⟩ | ⟨rfl, rfl⟩
  · exact o
  · exact RS.nil _ _
theorem Hand.own (h : Hand v0 xs0 v xs) {n : Nat} (o : ∀ k, v0.ownBlock = some k → n ≤ k) : ∀ k, v.ownBlock = some k → n ≤ k := by
  rcases h with ⟨rfl, rfl⟩ | ⟨rfl, rfl⟩
  · exact o
  · intro k hk; cases hk
theorem Hand.lt (h : Hand v0 xs0 v xs) {n : Nat} (o : ∀ k, v0.ownBlock = some k → k < n) : ∀ k, v.ownBlock = some k → k < n := by
  rcases h with ⟨rfl, rfl⟩ | ⟨rfl, rfl⟩
  · exact o
  · intro k hk; cases hk
theorem Hand.nb (h : Hand v0 xs0 v xs) {b : Nat} (o : ¬ v0.ownBlock = some b) : ¬ v.ownBlock = some b := by
  rcases h with ⟨rfl, rfl⟩ | ⟨rfl, rfl⟩
  · exact o
  · intro hk; cases hk
theorem Hand.nr (h : Hand v0 xs0 v xs) (o : ∀ k, v0.ownBlock = some k → ¬ u.ownBlock = some k) : ∀ k, v.ownBlock = some k → ¬ u.ownBlock = some k := by
  rcases h with ⟨rfl, rfl⟩ | ⟨rfl, rfl⟩
  · exact o
  · intro k hk; cases hk
theorem Hand.nr2 (h : Hand v0 xs0 v xs) (o : ∀ k, u.ownBlock = some k → ¬ v0.ownBlock = some k) : ∀ k, u.ownBlock = some k → ¬ v.ownBlock = some k := by
  rcases h with ⟨rfl, rfl⟩ | ⟨rfl, rfl⟩
  · exact o
  · intro k _ hk; cases hk
end
theorem not_or2 {p q : Prop} (h : ¬ p) (k : ¬ q) : ¬ (p ∨ q) := fun x => x.elim h k

/-- Turned things of a drawn region, however many. -/
def AllN (Ds : List (Nat → Option TypeId → Prop)) (d : Option Nat) (k : Nat) (t : Option TypeId) : Nat → Prop
  | i => match Ds with
    | [] => True
    | D :: r => (d = some i ∨ ¬ D k t) ∧ AllN r d k t (i + 1)
theorem allN_get {d : Option Nat} {k : Nat} {t : Option TypeId} : ∀ {Ds : List (Nat → Option TypeId → Prop)} {i j : Nat} {D : Nat → Option TypeId → Prop}, AllN Ds d k t i → Ds[j]? = some D → d = some (i + j) ∨ ¬ D k t
  | [], _, _, _, _, h => by simp at h
  | D0 :: r, i, 0, D, h, hj => by
    unfold AllN at h
    simp only [List.getElem?_cons_zero, Option.some.injEq] at hj
    subst hj
    exact h.1
  | D0 :: r, i, j + 1, D, h, hj => by
    unfold AllN at h
    simp only [List.getElem?_cons_succ] at hj
    have := allN_get h.2 hj
    rwa [Nat.add_assoc, Nat.add_comm 1 j] at this
theorem not_othN {Ds : List (Nat → Option TypeId → Prop)} {d : Option Nat} {k : Nat} {t : Option TypeId} (h : AllN Ds d k t 0) : ¬ Oth Ds d k t := fun ⟨j, D, h1, h2, h3⟩ => by
  rcases allN_get h h1 with h4 | h4
  · rw [Nat.zero_add] at h4; exact h2 h4
  · exact h4 h3
theorem oth_ownN {Ds : List (Nat → Option TypeId → Prop)} {Q : Nat → Option TypeId → Prop} (h : ∀ D ∈ Ds, ∀ k t, D k t → Q k t) : ∀ k t, Oth Ds none k t → Q k t := fun k t ⟨_, D, h1, _, h3⟩ => h D (List.mem_of_getElem? h1) k t h3
theorem allD_nil {Q : Nat → Option TypeId → Prop} : ∀ D ∈ ([] : List (Nat → Option TypeId → Prop)), ∀ k t, D k t → Q k t := fun _ h => by cases h
theorem allD_cons {D0 : Nat → Option TypeId → Prop} {r : List (Nat → Option TypeId → Prop)} {Q : Nat → Option TypeId → Prop} (h : ∀ k t, D0 k t → Q k t) (hr : ∀ D ∈ r, ∀ k t, D k t → Q k t) : ∀ D ∈ (D0 :: r), ∀ k t, D k t → Q k t := fun D hD => by
  rcases List.mem_cons.1 hD with rfl | h2
  · exact h
  · exact hr D h2
/-- Texts with a text between them, if memory bears it. -/
def sjoin (xs : List (List UInt8)) (sep : List UInt8) : Option (List UInt8) := if xs.length ≤ 140737488355328 ∧ (Lib.join xs sep).length ≤ 140737488355328 then some (Lib.join xs sep) else none
section
variable {P : Program} {w w' : World}
theorem join_of {n : FuncId} {e : Enc (List UInt8)} {v : Value} {xs : List (List UInt8)} {sep r : List UInt8} (hf : e.f = fun x => [.string (bs x)])
    (h0 : ∀ (a : Option Addr) (c : Nat) (sep : ByteArray) (w : World), Calls P n #[.slice a 0 c, .string sep] w fun e w' => e = .returned (.string ⟨#[]⟩) ∧ w' = w)
    (hC : ∀ (bk o c : Nat) (xs : List ByteArray) (sep : ByteArray) (w : World), (∀ (j : Nat) x, xs[j]? = some x → w.cell? ⟨bk, o + j, none⟩ = some (.string x)) → bk < w.heap.size → xs.length ≤ 140737488355328 → xs.length ≤ c → (Lib.join (xs.map (·.data.toList)) sep.data.toList).length ≤ 140737488355328 →
      Calls P n #[.slice (some ⟨bk, o, none⟩) xs.length c, .string sep] w fun e w' => e = .returned (.string ⟨(Lib.join (xs.map (·.data.toList)) sep.data.toList).toArray⟩) ∧ Below w.heap.size w w')
    (hr : sjoin xs sep = some r) (h : RS w e v xs) : Calls P n #[v, .string (bs sep)] w fun e w' => e = .returned (.string (bs r)) ∧ Ext w w' := by
  unfold sjoin at hr
  split at hr
  case isFalse => cases hr
  rename_i hb
  cases hr
  have es : e.size = 1 := by have := e.len []; rw [hf] at this; simpa using this.symm
  obtain ⟨cells, h1, h2⟩ := h
  rcases h2 with ⟨rfl, rfl⟩ | ⟨g, o, cap, cur, T, fr, rfl, hcap, hg, ht⟩
  · refine (h0 none 0 (bs sep) w).mono ?_
    rintro e w' ⟨rfl, rfl⟩
    exact ⟨rfl, Ext.refl _⟩
  · have e1 : (xs.map bs).map (·.data.toList) = xs := by
      rw [List.map_map]
      have : ((fun x : ByteArray => x.data.toList) ∘ bs) = id := by funext l; rfl
      rw [this, List.map_id]
    have e2 : (bs sep).data.toList = sep := rfl
    have hcell : ∀ (j : Nat) x, (xs.map bs)[j]? = some x → w.cell? ⟨g, o + j, none⟩ = some (.string x) := by
      intro j x hx
      rw [List.getElem?_map, Option.map_eq_some_iff] at hx
      obtain ⟨y, hy, rfl⟩ := hx
      have hj := (List.getElem?_eq_some_iff.1 hy).1
      rw [es, Nat.mul_one] at ht
      have h3 : (cells.map cnv)[j]? = some (.string (bs y)) := by
        rw [h1, hf]
        have : xs.flatMap (fun x => [Value.string (bs x)]) = xs.map (fun x => Value.string (bs x)) := by
          clear hb ht hj hy h1 hcap e1
          induction xs with
          | nil => rfl
          | cons a l ih => rw [List.flatMap_cons, ih, List.map_cons]; rfl
        rw [this, List.getElem?_map, hy]; rfl
      rw [List.getElem?_map, Option.map_eq_some_iff] at h3
      obtain ⟨c, hc, hcv⟩ := h3
      have hcs : c = .string (bs y) := by
        have h4 : [c].map cnv = .string (bs y) :: [] := by rw [List.map_cons, hcv, List.map_nil]
        obtain ⟨vs', h5, _⟩ := cnv_s h4
        exact (List.cons.inj h5).1
      rw [← ht, List.getElem?_take_of_lt hj, List.getElem?_drop, Array.getElem?_toList, hcs] at hc
      unfold World.cell?
      simp only [hg]
      exact hc
    have := hC g o cap (xs.map bs) (bs sep) w hcell (lt_heap hg) (by rw [List.length_map]; exact hb.1) (by rw [List.length_map]; exact hcap) (by rw [e1, e2]; exact hb.2)
    rw [List.length_map, e1, e2] at this
    exact this
end
/-- An error that is none, or one. -/
def ErrIs (er : Value) (ok : Bool) : Prop := (er = .nilIface ∧ ok = true) ∨ ∃ t p, er = .iface t p ∧ ok = false
def pint (s : List UInt8) : Option (Int × Bool) := if s.length ≤ 281474976710656 then some (match Lib.parseIntB 64 s with
  | .ok v => (v, true)
  | .range => (Lib.intSat 64 s, false)
  | _ => (0, false)) else none
def TSyn (P : Program) (w : World) : Prop := ∃ tp p, w.var? P "strconv.ErrSyntax" = some #[.iface tp p]
def TRan (P : Program) (w : World) : Prop := ∃ tp p, w.var? P "strconv.ErrRange" = some #[.iface tp p]
section
variable {P : Program} {w w' : World}
theorem TSyn.ext (h : TSyn P w) (x : Ext w w') : TSyn P w' := let ⟨tp, p, h⟩ := h; ⟨tp, p, var?_ext h x⟩
theorem TRan.ext (h : TRan P w) (x : Ext w w') : TRan P w' := let ⟨tp, p, h⟩ := h; ⟨tp, p, var?_ext h x⟩
theorem bytesWorld_ext (w : World) (e : TypeId) (t : ByteArray) : Ext w (Lib.bytesWorld w e t) := ⟨rfl, rfl, rfl, by rw [Lib.bytesWorld_size]; omega, fun j hj => Lib.bytesWorld_at_old w e t j hj⟩
theorem pint_of {n T M S : Nat} {s : List UInt8} {r : Int × Bool}
    (hok : ∀ (s : ByteArray), s.size ≤ 9223372036854775806 → ∀ (v : Int), Lib.parseIntB 64 s.data.toList = .ok v → ∀ w : World, Calls P n #[.string s, .int .i64 10, .int .i64 64] w fun e w' => e = .returned (.tuple #[.int .i64 v, .nilIface]) ∧ (w' = w ∨ ∃ t, w' = Lib.bytesWorld w S t))
    (hsy : ∀ (s : ByteArray), s.size ≤ 281474976710656 → Lib.parseIntB 64 s.data.toList = Lib.parseIntB 64 [] → ∀ (tp : TypeId) (p : Value) (w : World), w.var? P "strconv.ErrSyntax" = some #[.iface tp p] →
      Calls P n #[.string s, .int .i64 10, .int .i64 64] w fun e w' => ∃ N, e = .returned (.tuple #[.int .i64 0, .iface T (.pointer (some ⟨N, 0, none⟩))]) ∧ w.heap.size ≤ N ∧ w'.heap[N]? = some (.cells #[.string ⟨#[80, 97, 114, 115, 101, 73, 110, 116]⟩, .string s, .iface tp p] M (0, 0)) ∧ Below w.heap.size w w')
    (hra : ∀ (s : ByteArray), s.size ≤ 281474976710656 → Lib.parseIntB 64 s.data.toList = .range → ∀ (tp : TypeId) (p : Value) (w : World), w.var? P "strconv.ErrRange" = some #[.iface tp p] →
      Calls P n #[.string s, .int .i64 10, .int .i64 64] w fun e w' => ∃ N, e = .returned (.tuple #[.int .i64 (Lib.intSat 64 s.data.toList), .iface T (.pointer (some ⟨N, 0, none⟩))]) ∧ w.heap.size ≤ N ∧ w'.heap[N]? = some (.cells #[.string ⟨#[80, 97, 114, 115, 101, 73, 110, 116]⟩, .string s, .iface tp p] M (0, 0)) ∧ Below w.heap.size w w')
    (hr : pint s = some r) (t1 : TSyn P w) (t2 : TRan P w) : Calls P n #[.string (bs s), .int .i64 10, .int .i64 64] w fun e w' => ∃ er, e = .returned (.tuple #[.int .i64 r.1, er]) ∧ ErrIs er r.2 ∧ Ext w w' := by
  unfold pint at hr
  split at hr
  case isFalse => cases hr
  rename_i hl
  cases hr
  have hs : (bs s).size ≤ 281474976710656 := by rw [bs_size]; exact hl
  have hd : (bs s).data.toList = s := rfl
  cases h : Lib.parseIntB 64 s with
  | ok v =>
    refine (hok (bs s) (by omega) v (by rw [hd]; exact h) w).mono ?_
    rintro e w' ⟨rfl, hw⟩
    refine ⟨_, rfl, .inl ⟨rfl, rfl⟩, ?_⟩
    rcases hw with rfl | ⟨t, rfl⟩
    · exact Ext.refl _
    · exact bytesWorld_ext _ _ _
  | range =>
    obtain ⟨tp, p, ht⟩ := t2
    refine (hra (bs s) hs (by rw [hd]; exact h) tp p w ht).mono ?_
    rintro e w' ⟨N, rfl, _, _, hb⟩
    exact ⟨_, rfl, .inr ⟨_, _, rfl, rfl⟩, hb⟩
  | _ =>
    obtain ⟨tp, p, ht⟩ := t1
    refine (hsy (bs s) hs (by rw [hd]; exact h) tp p w ht).mono ?_
    rintro e w' ⟨N, rfl, _, _, hb⟩
    exact ⟨_, rfl, .inr ⟨_, _, rfl, rfl⟩, hb⟩
end
section
variable {P : Program} {w : World} {dst : Option Tmp} {ty : TypeId} {pos : String} {after : Array Edge} {g : Option (Nat × Bool)} {ρ : Operand → Value} {R : Value → World → Prop}
theorem eq_nn {t : TypeId} {ms : Array (String × TypeId)} (ht : P.underlying t = some (.interface ms)) : (Op.equalIn (9999 + 1) t .nilIface .nilIface).run P w = .ok true w := by
  unfold Op.equalIn
  simp [run_underlying ht]
theorem eq_in {t u : TypeId} {p : Value} {ms : Array (String × TypeId)} (ht : P.underlying t = some (.interface ms)) : (Op.equalIn (9999 + 1) t (.iface u p) .nilIface).run P w = .ok false w := by
  unfold Op.equalIn
  simp [run_underlying ht]
theorem d_errne {x : Operand} {t t2 : TypeId} {ms : Array (String × TypeId)} {er : Value} {ok : Bool} (ht : P.underlying t = some (.interface ms)) (hx : ρ x = er) (hy : ρ (.const .nilIface) = .nilIface) (hE : ErrIs er ok) (h : R (.bool (!ok)) w) :
    Does P ⟨dst, .binOp .neq t x (.const .nilIface) t2, ty, pos, after, g⟩ ρ w R := by
  refine d_run (v := .bool (!ok)) (w' := w) ?_ h
  simp only [execOp, hx, hy]
  have h1 : ∀ a b, Op.equal t a b = Op.equalIn (9999 + 1) t a b := fun _ _ => rfl
  rcases hE with ⟨rfl, rfl⟩ | ⟨a, p, rfl, rfl⟩
  · simp [binOp, eqGuard, h1, eq_nn ht]
  · simp [binOp, eqGuard, h1, eq_in ht]
end
end Go.Rg
