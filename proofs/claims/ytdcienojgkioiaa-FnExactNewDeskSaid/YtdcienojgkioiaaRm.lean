import Derived.Test.YtdcienojgkioiaaRn
import Derived.Laws.CopyRow
/- Rows that are copied into a row of the call's own; the doubling of slices.Repeat. -/
namespace Go.Rg
open Go Go.RowKit Go.Fl

/-- A row with another laid over it from a place on. -/
def cpyAt {α : Type} (xs : List α) (lo : Nat) (ys : List α) : List α := xs.take lo ++ ys.take (xs.length - lo) ++ xs.drop (lo + ys.length)
theorem cpyAt_len {α : Type} {xs ys : List α} {lo : Nat} (h : lo ≤ xs.length) : (cpyAt xs lo ys).length = xs.length := by
  unfold cpyAt
  simp only [List.length_append, List.length_take, List.length_drop]
  omega
theorem flat_drop {E : Type} (e : Enc E) (m : Nat) (l : List E) : (l.drop m).flatMap e.f = (l.flatMap e.f).drop (m * e.size) := by
  induction m generalizing l with
  | zero => simp
  | succ m ih =>
    cases l with
    | nil => simp
    | cons y ys =>
      rw [List.drop_succ_cons, ih, List.flatMap_cons, Nat.add_mul, Nat.one_mul, Nat.add_comm, ← List.drop_drop]
      congr 1
      rw [List.drop_append, List.drop_of_length_le (by rw [e.len]; exact Nat.le_refl _), List.nil_append, e.len, Nat.sub_self, List.drop_zero]
theorem flat_take {E : Type} (e : Enc E) (m : Nat) (l : List E) : (l.take m).flatMap e.f = (l.flatMap e.f).take (m * e.size) := by
  induction m generalizing l with
  | zero => simp
  | succ m ih =>
    cases l with
    | nil => simp
    | cons y ys =>
      rw [List.take_succ_cons, List.flatMap_cons, ih, List.flatMap_cons, Nat.add_mul, Nat.one_mul, Nat.add_comm, List.take_append, List.take_of_length_le (l := e.f y) (by rw [e.len]; omega), e.len, show e.size + m * e.size - e.size = m * e.size by omega]

section
variable {P : Program} {w : World} {dst : Option Tmp} {ty : TypeId} {pos : String} {after : Array Edge} {g : Option (Nat × Bool)} {ρ : Operand → Value} {R : Value → World → Prop}
variable {E : Type} {e : Enc E} {T : TypeId}

/-- A copy into a row of the call's own, from a place on; elements of one cell. -/
theorem d_copy {x x2 : Operand} {t : TypeId} {b cap lo dc : Nat} {y : Value} {xs ys : List E} (ht : P.underlying t = some (.slice T)) (hi : (P.info? T).map (·.size) = some 1) (hs : e.size = 1)
    (hx : ρ x = .slice (some ⟨b, lo, none⟩) (xs.length - lo) dc) (hx2 : ρ x2 = y) (hlo : lo ≤ xs.length) (hO : OS w T e (.slice (some ⟨b, 0, none⟩) xs.length cap) xs) (hR : RS w e y ys)
    (h : ∀ w', OS w' T e (.slice (some ⟨b, 0, none⟩) xs.length cap) (cpyAt xs lo ys) → Frm (fun k _ => (Value.slice (some ⟨b, 0, none⟩) xs.length cap).ownBlock = some k) w w' → R (.int .i64 (min ys.length (xs.length - lo) : Nat)) w') :
    Does P ⟨dst, .call { callee := .builtin .copy, args := #[x, x2], argTypes := #[t, t] }, ty, pos, after, g⟩ ρ w R := by
  have fin : ∀ {v' : Value} {w' : World}, (Builtin.copy_ #[t, t] ty #[.slice (some ⟨b, lo, none⟩) (xs.length - lo) dc, y]).run P w = .ok v' w' → R v' w' → Does P ⟨dst, .call { callee := .builtin .copy, args := #[x, x2], argTypes := #[t, t] }, ty, pos, after, g⟩ ρ w R := by
    intro v' w' hr hR
    refine d_run (v := v') (w' := w') ?_ hR
    simp only [execOp, resolve, invoke, builtin, Sem.run_bind, Sem.run_pure, Result.andThen_ok, List.map_toArray, List.map_cons, List.map_nil, hx, hx2, hr]
  obtain ⟨news, h3, h4⟩ := hR
  rcases h4 with ⟨rfl, rfl⟩ | ⟨gy, oy, capy, cury, Ty, fry, rfl, hle, hgy, htk⟩
  · refine fin (run_copy_nil (P := P) w t t ty T ⟨b, lo, none⟩ _ _ ht (by rw [hi]; rfl)) ?_
    have e1 : cpyAt xs lo [] = xs := by unfold cpyAt; simp
    have := h w (by rw [e1]; exact hO) (Frm.refl _ _)
    simpa [goInt] using this
  · obtain ⟨cells, h1, h2, h5⟩ := hO
    rcases h5 with ⟨h5, _⟩ | ⟨g', cap', cur, h5, _, hg, hnc, hcm, hcs, htake⟩
    · cases h5
    · cases h5
      rw [hs, Nat.mul_one] at hcs htake htk h2
      have hnl : news.length = ys.length := by
        have := RS.cells_len (e := e) h3
        rw [hs, Nat.mul_one] at this
        exact this
      have hcsl : (news.take (xs.length - lo)).length = Nat.min ys.length (xs.length - lo) := by
        rw [List.length_take, hnl]
        exact Nat.min_comm _ _
      have hsrc : ∀ j v, (news.take (xs.length - lo))[j]? = some v → w.cell? ((⟨gy, oy, none⟩ : Addr).add j) = some v := by
        intro j u hj
        have hadd : (⟨gy, oy, none⟩ : Addr).add j = ⟨gy, oy + j, none⟩ := by unfold Addr.add; split <;> simp_all
        rw [hadd, cell_of_row w gy (oy + j) cury Ty fry hgy]
        rw [List.getElem?_take] at hj
        split at hj
        · rw [← htk, List.getElem?_take] at hj
          split at hj
          · rw [List.getElem?_drop] at hj; simpa using hj
          · cases hj
        · cases hj
      have h1c : ∀ u ∈ news.take (xs.length - lo), u.oneCell' = true := by
        intro u hu
        rw [← oneCell_cnv]
        have : cnv u ∈ ys.flatMap e.f := by rw [← h3]; exact List.mem_map_of_mem (List.mem_of_mem_take hu)
        obtain ⟨q, _, hq⟩ := List.mem_flatMap.1 this
        exact List.all_eq_true.1 (e.one q) _ hq
      have hfit : lo + (news.take (xs.length - lo)).length ≤ cur.size := by
        rw [hcsl, hcs]
        have := Nat.min_le_right ys.length (xs.length - lo)
        simp only [Nat.min_def] at *
        omega
      refine fin (run_copy_row (P := P) w t t ty T b lo (xs.length - lo) dc ⟨gy, oy, none⟩ ys.length capy cur T (news.take (xs.length - lo)) ht hi hg hcsl hsrc hfit h1c) ?_
      generalize hcs' : news.take (xs.length - lo) = cs at *
      have hcl : cs.length ≤ xs.length - lo := by rw [hcsl]; exact Nat.min_le_right _ _
      have hput := Put.setRow hg (cur.toList.take lo ++ cs ++ cur.toList.drop (lo + cs.length)).toArray (by
        simp only [List.size_toArray, List.length_append, List.length_take, List.length_drop, Array.length_toList]
        omega)
      have hval : goInt cs.length = .int .i64 ((min ys.length (xs.length - lo) : Nat) : Int) := by rw [hcsl]; rfl
      rw [hval]
      refine h _ ?_ (hput.frmb.mono fun k _ hk => by rw [hk]; rfl)
      refine ⟨cells.take lo ++ cs ++ cells.drop (lo + cs.length), ?_, ?_, .inr ⟨b, cap, _, by rw [cpyAt_len hlo], Nat.zero_le _, hput.here, by rw [cpyAt_len hlo]; exact hnc, hcm, ?_, ?_⟩⟩
      · have t1 := flat_take e lo xs
        have t2 := flat_take e (xs.length - lo) ys
        have t3 := flat_drop e (lo + ys.length) xs
        rw [hs, Nat.mul_one] at t1 t2 t3
        unfold cpyAt
        rw [List.flatMap_append, List.flatMap_append, t1, t2, t3, List.map_append, List.map_append, List.map_take, List.map_drop, h1, ← hcs', List.map_take, h3]
        congr 1
        -- what is left behind
        by_cases hy : ys.length ≤ xs.length - lo
        · congr 1
          rw [List.length_take, hnl]
          omega
        · have hl : (xs.flatMap e.f).length = xs.length := by rw [len_flat, hs, Nat.mul_one]
          have e0 : (news.take (xs.length - lo)).length = xs.length - lo := by rw [List.length_take, hnl]; omega
          rw [e0, List.drop_of_length_le (i := lo + (xs.length - lo)) (by rw [hl]; omega), List.drop_of_length_le (i := lo + ys.length) (by rw [hl]; omega)]
      · rw [hs, Nat.mul_one, cpyAt_len hlo]
        simp only [List.length_append, List.length_take, List.length_drop]
        omega
      · rw [hs, Nat.mul_one]
        simp only [List.size_toArray, List.length_append, List.length_take, List.length_drop, Array.length_toList]
        omega
      · rw [hs, Nat.mul_one, cpyAt_len hlo]
        simp only
        have hcur : xs.length ≤ cur.toList.length := by show xs.length ≤ cur.size; rw [hcs]; exact hnc
        have e1 : (cur.toList.take lo ++ cs).length = lo + cs.length := by rw [List.length_append, List.length_take]; omega
        rw [List.take_append, List.take_of_length_le (l := cur.toList.take lo ++ cs) (by rw [e1]; omega), e1, ← htake, List.take_take, Nat.min_eq_left hlo, List.drop_take]

/-- A row's rest, with where it lies. -/
theorem d_rest {x lo : Operand} {t : TypeId} {b n cap k : Nat} {ki : IntKind} (ht : P.underlying t = some (.slice T)) (hn : ∀ w, (sizeOf T).run P w = .ok 1 w) (hx : ρ x = .slice (some ⟨b, 0, none⟩) n cap) (hlo : ρ lo = .int ki (k : Int)) (hk : k < n) (hc : n ≤ cap)
    (h : R (.slice (some ⟨b, k, none⟩) (n - k) (cap - k)) w) : Does P ⟨dst, .slice t x (some lo) none none, ty, pos, after, g⟩ ρ w R := by
  have e1 := run_bounds (P := P) (w := w) (isSlice := true) (cap := cap) (n := n) (lo := some lo) (hi := none) (a := (k : Int)) (b := (n : Int)) (.inr ⟨lo, ki, rfl, hlo⟩) (.inl ⟨rfl, rfl⟩) (by omega) (by omega) (by omega) hc
  refine d_run (v := .slice (some ⟨b, k, none⟩) (n - k) (cap - k)) (w' := w) ?_ h
  simp only [execOp, hx]
  have hadd : (⟨b, 0, none⟩ : Addr).add (k * 1) = ⟨b, k, none⟩ := by unfold Addr.add; split <;> simp_all
  have hc2 : ¬ cap = k := by omega
  have e2 : (Instr.sliceBounds true n cap (some (ρ lo)) none none).run P w = .ok (k, n, cap) w := by simpa using e1
  simp [Instr.sliceAt, Instr.slice, run_underlying ht, e2, hn]
  rw [if_neg hc2]
  simpa using hadd
/-- A copy into a row of the call's own. -/
theorem d_copy0 {x x2 : Operand} {t : TypeId} {v y : Value} {xs ys : List E} (ht : P.underlying t = some (.slice T)) (hi : (P.info? T).map (·.size) = some 1) (hs : e.size = 1) (hx : ρ x = v) (hx2 : ρ x2 = y) (hO : OS w T e v xs) (hR : RS w e y ys)
    (h : ∀ w', OS w' T e v (cpyAt xs 0 ys) → Frm (fun k _ => v.ownBlock = some k) w w' → R (.int .i64 (min ys.length xs.length : Nat)) w') :
    Does P ⟨dst, .call { callee := .builtin .copy, args := #[x, x2], argTypes := #[t, t] }, ty, pos, after, g⟩ ρ w R := by
  have hO2 := hO
  obtain ⟨cells, h1, h2, h3⟩ := hO2
  rcases h3 with ⟨rfl, h3⟩ | ⟨b, cap, cur, rfl, _⟩
  · have hxs : xs = [] := List.eq_nil_of_length_eq_zero h3
    subst hxs
    obtain ⟨a, c, hy⟩ := hR.val
    subst hy
    have hr : (Builtin.copy_ #[t, t] ty #[.slice none 0 0, .slice a ys.length c]).run P w = .ok (goInt 0) w := by
      cases hq : P.info? T with
      | none => rw [hq] at hi; cases hi
      | some i => cases a <;> simp [Builtin.copy_, run_underlying ht, Builtin.lenOf, Builtin.firstCells, sizeOf, typeInfo, hq, loadCells, loadCellsFrom]
    refine d_run (v := goInt 0) (w' := w) ?_ ?_
    · simp only [execOp, resolve, invoke, builtin, Sem.run_bind, Sem.run_pure, Result.andThen_ok, List.map_toArray, List.map_cons, List.map_nil, hx, hx2, hr]
    · have := h w (by simpa [cpyAt] using hO) (Frm.refl _ _)
      simpa [goInt] using this
  · refine d_copy (lo := 0) (dc := cap) ht hi hs (by simpa using hx) hx2 (Nat.zero_le _) hO hR fun w' hO' hF => ?_
    have := h w' hO' hF
    simpa using this
end

/-- One doubling of slices.Repeat. -/
def repI {α : Type} (xs : List α) (n : Int) : Option (List α × Int) := if 0 ≤ n ∧ n < (xs.length : Int) then some (cpyAt xs n.toNat (xs.take n.toNat), IntKind.i64.wrap (n + (min n.toNat (xs.length - n.toNat) : Nat))) else none
def repOps (tS tI : TypeId) (ps : String) : List Oper := [
  ⟨some 38, .move (.tmp 8), tI, ps, #[], none⟩,
  ⟨some 39, .move (.tmp 7), tS, ps, #[], none⟩,
  ⟨some 40, .move (.tmp 8), tI, ps, #[], none⟩,
  ⟨some 41, .slice tS (.tmp 39) (some (.tmp 40)) none none, tS, ps, #[⟨1, .data⟩, ⟨2, .data⟩], none⟩,
  ⟨some 42, .move (.tmp 7), tS, ps, #[], none⟩,
  ⟨some 43, .move (.tmp 8), tI, ps, #[], none⟩,
  ⟨some 44, .slice tS (.tmp 42) none (some (.tmp 43)) none, tS, ps, #[⟨4, .data⟩, ⟨5, .data⟩], none⟩,
  ⟨some 45, .call { callee := .builtin .copy, args := #[.tmp 41, .tmp 44], argTypes := #[tS, tS] }, tI, ps, #[⟨3, .data⟩, ⟨6, .data⟩], none⟩,
  ⟨some 46, .binOp .add tI (.tmp 38) (.tmp 45) tI, tI, ps, #[⟨0, .data⟩, ⟨7, .data⟩], none⟩,
  ⟨some 8, .assign (.tmp 46), tI, ps, #[⟨8, .data⟩, ⟨7, .chain⟩, ⟨0, .phase⟩, ⟨1, .phase⟩, ⟨2, .phase⟩, ⟨3, .phase⟩, ⟨4, .phase⟩, ⟨5, .phase⟩, ⟨6, .phase⟩, ⟨7, .phase⟩, ⟨8, .phase⟩], none⟩]
attribute [local irreducible] Go.Calls doAll Does DoesG W Wr
theorem W_rep {P : Program} {id : Nat} {tS tI T : TypeId} {ps : String} {E : Type} {e : Enc E} {K : Value} {xs : List E} {n : Int} {r : List E × Int} {σ : Sig} {w : World} {Q : Exit → Sig → World → Prop} (hm : P.follows .mixedOrders = true)
    (ht : P.underlying tS = some (.slice T)) (hn : ∀ w, (sizeOf T).run P w = .ok 1 w) (hi : (P.info? T).map (·.size) = some 1) (hs : e.size = 1) (h7 : σ 7 = K) (h8 : σ 8 = .int .i64 n) (hr : repI xs n = some r) (hO : OS w T e K xs)
    (h : ∀ σ' w', σ' 8 = .int .i64 r.2 → Agree (repOps tS tI ps).toArray σ σ' → OS w' T e K r.1 → Frm (fun j _ => K.ownBlock = some j) w w' → Q .normal σ' w') : W P 48 (.region id (repOps tS tI ps).toArray true) Q σ w := by
  unfold repI at hr
  split at hr
  case isFalse => cases hr
  rename_i hnb
  cases hr
  obtain ⟨k, rfl⟩ : ∃ k : Nat, n = k := ⟨n.toNat, by omega⟩
  rw [Int.toNat_natCast] at h
  have hk : k < xs.length := by omega
  obtain ⟨b, cap, rfl, hc⟩ : ∃ b cap, K = .slice (some ⟨b, 0, none⟩) xs.length cap ∧ xs.length ≤ cap := by
    obtain ⟨cells, h1, h2, h3⟩ := hO
    rcases h3 with ⟨rfl, h3⟩ | ⟨b, cap, cur, rfl, _, _, hc, _⟩
    · omega
    · exact ⟨b, cap, rfl, hc⟩
  have tkl : (xs.take k).length = k := by rw [List.length_take]; omega
  refine W_any [fun j _ => (Value.slice (some ⟨b, 0, none⟩) xs.length cap).ownBlock = some j]
    [{ V := fun _ v _ => v = .int .i64 (k : Int) }, { V := fun _ v _ => v = .slice (some ⟨b, 0, none⟩) xs.length cap }, { V := fun _ v _ => v = .int .i64 (k : Int) }, { V := fun _ v _ => v = .slice (some ⟨b, k, none⟩) (xs.length - k) (cap - k) },
     { V := fun _ v _ => v = .slice (some ⟨b, 0, none⟩) xs.length cap }, { V := fun _ v _ => v = .int .i64 (k : Int) },
     { V := fun _ v _ => v = .slice (some ⟨b, 0, none⟩) k cap },
     ⟨fun _ v w' => v = .int .i64 (min k (xs.length - k) : Nat) ∧ OS w' T e (.slice (some ⟨b, 0, none⟩) xs.length cap) (cpyAt xs k (xs.take k)), some 0, fun w' => OS w' T e (.slice (some ⟨b, 0, none⟩) xs.length cap) xs⟩,
     { V := fun _ v _ => v = .int .i64 (IntKind.i64.wrap ((k : Int) + (min k (xs.length - k) : Nat))) }, { V := fun _ v _ => v = .int .i64 (IntKind.i64.wrap ((k : Int) + (min k (xs.length - k) : Nat))) }]
    hm (by kernel_rfl) ⟨trivial, trivial, trivial, trivial, trivial, trivial, trivial, hO.ext (Ext.drewN w 1), trivial, trivial, trivial⟩ ⟨?_, ?_, ?_, ?_, ?_, ?_, ?_, ?_, ?_, ?_, trivial⟩ ?_
  · refine ⟨fun _ _ _ _ _ _ h _ => h, fun _ _ h _ => h, fun σ' w' hA hE hD hP => ?_⟩
    exact dg_op rfl (d_mv (v := .int .i64 (k : Int)) (((hP 9 _ _ rfl rfl (.inr rfl)).2 8 rfl).trans h8) ⟨rfl, own_none (Ext.refl _)⟩)
  · refine ⟨fun _ _ _ _ _ _ h _ => h, fun _ _ h _ => h, fun σ' w' hA hE hD hP => ?_⟩
    exact dg_op rfl (d_mv (v := .slice (some ⟨b, 0, none⟩) xs.length cap) ((hA 7 rfl).trans h7) ⟨rfl, own_none (Ext.refl _)⟩)
  · refine ⟨fun _ _ _ _ _ _ h _ => h, fun _ _ h _ => h, fun σ' w' hA hE hD hP => ?_⟩
    exact dg_op rfl (d_mv (v := .int .i64 (k : Int)) (((hP 9 _ _ rfl rfl (.inr rfl)).2 8 rfl).trans h8) ⟨rfl, own_none (Ext.refl _)⟩)
  · refine ⟨fun _ _ _ _ _ _ h _ => h, fun _ _ h _ => h, fun σ' w' hA hE hD hP => ?_⟩
    have t39 : σ' 39 = .slice (some ⟨b, 0, none⟩) xs.length cap := hD 1 rfl
    have t40 : σ' 40 = .int .i64 (k : Int) := hD 2 rfl
    exact dg_op rfl (d_rest ht hn t39 t40 hk hc ⟨rfl, own_none (Ext.refl _)⟩)
  · refine ⟨fun _ _ _ _ _ _ h _ => h, fun _ _ h _ => h, fun σ' w' hA hE hD hP => ?_⟩
    exact dg_op rfl (d_mv (v := .slice (some ⟨b, 0, none⟩) xs.length cap) ((hA 7 rfl).trans h7) ⟨rfl, own_none (Ext.refl _)⟩)
  · refine ⟨fun _ _ _ _ _ _ h _ => h, fun _ _ h _ => h, fun σ' w' hA hE hD hP => ?_⟩
    exact dg_op rfl (d_mv (v := .int .i64 (k : Int)) (((hP 9 _ _ rfl rfl (.inr rfl)).2 8 rfl).trans h8) ⟨rfl, own_none (Ext.refl _)⟩)
  · refine ⟨fun _ _ _ _ _ _ h _ => h, fun _ _ h _ => h, fun σ' w' hA hE hD hP => ?_⟩
    have t42 : σ' 42 = .slice (some ⟨b, 0, none⟩) xs.length cap := hD 4 rfl
    have t43 : σ' 43 = .int .i64 (k : Int) := hD 5 rfl
    refine dg_op rfl ?_
    have e1 := run_bounds (P := P) (w := w') (ρ := ev σ') (isSlice := true) (cap := cap) (n := xs.length) (lo := none) (hi := some (.tmp 43)) (a := 0) (b := (k : Int)) (.inl ⟨rfl, rfl⟩) (.inr ⟨.tmp 43, .i64, rfl, t43⟩) (by omega) (by omega) (by omega) hc
    refine d_run (v := .slice (some ⟨b, 0, none⟩) k cap) (w' := w') ?_ ⟨rfl, own_none (Ext.refl _)⟩
    have t42' : ev σ' (.tmp 42) = .slice (some ⟨b, 0, none⟩) xs.length cap := t42
    simp only [execOp, t42']
    have e2 : (Instr.sliceBounds true xs.length cap none (some (ev σ' (.tmp 43))) none).run P w' = .ok (0, k, cap) w' := by simpa using e1
    have hc0 : ¬ cap = 0 := by omega
    simp [Instr.sliceAt, Instr.slice, run_underlying ht, e2, hn, hc0, Addr.add]
  · refine ⟨fun _ _ _ w' w'' _ ⟨hv, hO'⟩ hF => ⟨hv, hO'.frm hF (fun j hj => not_oth1s)⟩, fun _ _ h hF => h.frm hF (fun j hj => not_oth1s), fun σ' w' hA hE hD hP => ?_⟩
    have t41 : σ' 41 = .slice (some ⟨b, k, none⟩) (xs.length - k) (cap - k) := hD 3 rfl
    have t44 : σ' 44 = .slice (some ⟨b, 0, none⟩) k cap := hD 6 rfl
    have hO' : OS w' T e (.slice (some ⟨b, 0, none⟩) xs.length cap) xs := (hP 7 _ _ rfl rfl (.inl rfl)).1
    have hR : RS w' e (.slice (some ⟨b, 0, none⟩) k cap) (xs.take k) := by
      obtain ⟨cells, h1, h2, h3⟩ := hO'
      rcases h3 with ⟨h3, _⟩ | ⟨g', cap', cur, h3, _, hg, hnc, hcm, hcs, htake⟩
      · cases h3
      · cases h3
        rw [hs, Nat.mul_one] at htake
        refine ⟨cells.take k, ?_, .inr ⟨b, 0, cap, cur, T, (0, 0), by rw [tkl], by rw [tkl]; omega, hg, ?_⟩⟩
        · have := flat_take e k xs
          rw [hs, Nat.mul_one] at this
          rw [this, List.map_take, h1]
        · rw [tkl, hs, Nat.mul_one, List.drop_zero, ← htake, List.take_take, Nat.min_eq_left (by omega)]
    refine dg_op rfl (d_copy (lo := k) (dc := cap - k) ht hi hs t41 t44 (by omega) hO' hR fun w2 hO2 hF2 => ?_)
    rw [tkl]
    exact ⟨⟨rfl, hO2⟩, own_some (j := 0) rfl hF2⟩
  · refine ⟨fun _ _ _ _ _ _ h _ => h, fun _ _ h _ => h, fun σ' w' hA hE hD hP => ?_⟩
    have t38 : σ' 38 = .int .i64 (k : Int) := hD 0 rfl
    have t45 : σ' 45 = .int .i64 (min k (xs.length - k) : Nat) := (hD 7 rfl).1
    exact dg_op rfl (d_iarith t38 t45 (.inl ⟨rfl, rfl⟩) ⟨rfl, own_none (Ext.refl _)⟩)
  · refine ⟨fun _ _ _ _ _ _ h _ => h, fun _ _ h _ => h, fun σ' w' hA hE hD hP => ?_⟩
    have t46 : σ' 46 = .int .i64 (IntKind.i64.wrap ((k : Int) + (min k (xs.length - k) : Nat))) := hD 8 rfl
    exact dg_op rfl (d_as t46 ⟨rfl, own_none (Ext.refl _)⟩)
  · intro σ' w' hA hE hV
    exact h σ' w' (hV 9 (Nat.le_of_ble_eq_true rfl)) hA (hV 7 (Nat.le_of_ble_eq_true rfl)).2 (hE.mono fun j t ⟨i, D, h1, _, h3⟩ => by
      cases i with
      | zero => simp at h1; subst h1; exact h3
      | succ i => simp at h1)
end Go.Rg
