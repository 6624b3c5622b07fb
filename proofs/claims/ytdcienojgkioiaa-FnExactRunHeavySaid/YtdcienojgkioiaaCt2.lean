import Derived.Test.YtdcienojgkioiaaCt1
namespace Go.Proofs
open Go Go.Fl Go.RowKit Go.Rg
set_option maxRecDepth 100000
set_option linter.unusedVariables false
attribute [local irreducible] Go.Calls doAll Does DoesG W Wr
set_option maxHeartbeats 4000000 in
theorem c50 (p0 : STop) (p1 : SVector) (p2 : Nat) (p0b p0o : Nat) (p0c : Array Value) (p0T : TypeId) (p0f : Nat × Nat) (p0r0 : Nat) (p0r1 : Nat) (p0r2 : Nat) (p0r3 : Nat) (p0r4 : Nat) (p0r5 : Nat) (p0r6 : Nat) (p0r7 : Nat) (p0r8 : Nat) (p0r9 : Nat) (p1r0 : Nat) (p1r1 : Nat) (p1r2 : Nat) (p2r : Nat) (r : STop × Bool) (w : World) (hr : M.spec_l04Step p0 p1 p2 = r) (p0h0 : cn .f32 p0r0 = p0.moments.x) (p0h1 : cn .f32 p0r1 = p0.moments.y) (p0h2 : cn .f32 p0r2 = p0.moments.z) (p0h3 : cn .f32 p0r3 = p0.turn.w) (p0h4 : cn .f32 p0r4 = p0.turn.x) (p0h5 : cn .f32 p0r5 = p0.turn.y) (p0h6 : cn .f32 p0r6 = p0.turn.z) (p0h7 : cn .f32 p0r7 = p0.speed.x) (p0h8 : cn .f32 p0r8 = p0.speed.y) (p0h9 : cn .f32 p0r9 = p0.speed.z) (p0B : w.heap[p0b]? = some (.cells p0c p0T p0f)) (p0P : (p0c.toList.drop p0o).take 10 = [.float .f32 p0r0, .float .f32 p0r1, .float .f32 p0r2, .float .f32 p0r3, .float .f32 p0r4, .float .f32 p0r5, .float .f32 p0r6, .float .f32 p0r7, .float .f32 p0r8, .float .f32 p0r9]) (p1h0 : cn .f32 p1r0 = p1.x) (p1h1 : cn .f32 p1r1 = p1.y) (p1h2 : cn .f32 p1r2 = p1.z) (p2h : cn .f32 p2r = p2) :
    Calls Try.prog 50 #[.pointer (some ⟨p0b, p0o, none⟩), .agg #[.float .f32 p1r0, .float .f32 p1r1, .float .f32 p1r2], .float .f32 p2r] w fun e w' => ∃ q0r0 : Nat, ∃ q0r1 : Nat, ∃ q0r2 : Nat, ∃ q0r3 : Nat, ∃ q0r4 : Nat, ∃ q0r5 : Nat, ∃ q0r6 : Nat, ∃ q0r7 : Nat, ∃ q0r8 : Nat, ∃ q0r9 : Nat, e = .returned (.tuple #[.agg #[.float .f32 q0r0, .float .f32 q0r1, .float .f32 q0r2, .float .f32 q0r3, .float .f32 q0r4, .float .f32 q0r5, .float .f32 q0r6, .float .f32 q0r7, .float .f32 q0r8, .float .f32 q0r9], .bool r.2]) ∧ cn .f32 q0r0 = r.1.moments.x ∧ cn .f32 q0r1 = r.1.moments.y ∧ cn .f32 q0r2 = r.1.moments.z ∧ cn .f32 q0r3 = r.1.turn.w ∧ cn .f32 q0r4 = r.1.turn.x ∧ cn .f32 q0r5 = r.1.turn.y ∧ cn .f32 q0r6 = r.1.turn.z ∧ cn .f32 q0r7 = r.1.speed.x ∧ cn .f32 q0r8 = r.1.speed.y ∧ cn .f32 q0r9 = r.1.speed.z ∧ Ext w w' := by
  refine calls_of_W Try.func50 rfl (Nat.le_of_ble_eq_true rfl) ?_
  refine W_seq ?_
  refine W_region rfl ?_
  refine da_op rfl (d_box (cs := #[.float .f32 p1r0, .float .f32 p1r1, .float .f32 p1r2]) rfl fun w1 B1 E1 => ?_)
  have own2 : w.heap.size ≤ w.heap.size := Nat.le_trans (Ext.refl w).size (Nat.le_refl _)
  have X3 : Ext w w1 := (Ext.refl w).trans E1
  refine da_op rfl (d_alloc (cs := #[.float .f32 0, .float .f32 0, .float .f32 0, .float .f32 0, .float .f32 0, .float .f32 0, .float .f32 0, .float .f32 0, .float .f32 0, .float .f32 0]) zero32 rfl fun w4 B4 E4 => ?_)
  have own5 : w.heap.size ≤ w1.heap.size := Nat.le_trans X3.size (Nat.le_refl _)
  have sp6 : w.heap.size ≠ w1.heap.size := Nat.ne_of_lt (Nat.lt_of_lt_of_le (lt_heap B1) (Nat.le_refl _))
  have X7 : Ext w w4 := X3.trans E4
  refine da_op rfl (d_as (v := .bool false) rfl ?_)
  refine da_nil ?_
  refine W_seq ?_
  refine W_region rfl ?_
  refine da_op rfl (d_mv (v := .float .f32 p2r) rfl ?_)
  refine da_op rfl (d_fop (k := .f32) fMul rfl rfl cn_f32_1056964608 p2h fun r8 w8 h8 _ E8 => ?_)
  have X9 : Ext w w8 := X7.trans E8
  refine da_op rfl (d_as (v := .float .f32 r8) rfl ?_)
  refine da_nil ?_
  refine W_seq ?_
  have B11 : w8.heap[p0b]? = some (.cells p0c p0T p0f) := X9.heap p0B
  have B12 : w8.heap[w.heap.size]? = some (.cells #[.float .f32 p1r0, .float .f32 p1r1, .float .f32 p1r2] 29 (0, 0)) := E8.heap (E4.heap B1)
  have B13 : w8.heap[w1.heap.size]? = some (.cells #[.float .f32 0, .float .f32 0, .float .f32 0, .float .f32 0, .float .f32 0, .float .f32 0, .float .f32 0, .float .f32 0, .float .f32 0, .float .f32 0] 32 (0, 0)) := E8.heap B4
  obtain ⟨m14, hm14, hr⟩ := letv_out hr
  obtain ⟨m15, hm15, hr⟩ := letv_out hr
  obtain ⟨m16, hm16, hr⟩ := letv_out hr
  refine W_any [(fun k t => w8.heap.size ≤ k ∧ t = some 29)] [{ V := fun _ v _ => v = (.pointer (some ⟨p0b, p0o, none⟩)) }, { V := fun _ v _ => v = (.pointer (some ⟨p0b, p0o, none⟩)) }, { V := fun _ v _ => v = (.pointer (some ⟨p0b, p0o + 7, none⟩)) }, { V := fun _ v _ => v = (.agg #[.float .f32 p0r7, .float .f32 p0r8, .float .f32 p0r9]) }, { V := fun _ v _ => v = (.pointer (some ⟨p0b, p0o, none⟩)) }, { V := fun _ v _ => v = (.pointer (some ⟨p0b, p0o, none⟩)) }, { V := fun _ v _ => v = (.pointer (some ⟨p0b, p0o, none⟩)) }, { V := fun _ v _ => v = (.pointer (some ⟨p0b, p0o + 7, none⟩)) }, { V := fun _ v _ => v = (.agg #[.float .f32 p0r7, .float .f32 p0r8, .float .f32 p0r9]) }, { V := fun _ v _ => v = (.agg #[.float .f32 p1r0, .float .f32 p1r1, .float .f32 p1r2]) }, { V := fun _ v _ => ∃ d10_10_0r0 : Nat, ∃ d10_10_0r1 : Nat, ∃ d10_10_0r2 : Nat, v = (.agg #[.float .f32 d10_10_0r0, .float .f32 d10_10_0r1, .float .f32 d10_10_0r2]) ∧ cn .f32 d10_10_0r0 = m14.x ∧ cn .f32 d10_10_0r1 = m14.y ∧ cn .f32 d10_10_0r2 = m14.z }, { V := fun _ v _ => v = (.float .f32 r8) }, { V := fun _ v _ => ∃ d10_12_0r0 : Nat, ∃ d10_12_0r1 : Nat, ∃ d10_12_0r2 : Nat, v = (.agg #[.float .f32 d10_12_0r0, .float .f32 d10_12_0r1, .float .f32 d10_12_0r2]) ∧ cn .f32 d10_12_0r0 = m15.x ∧ cn .f32 d10_12_0r1 = m15.y ∧ cn .f32 d10_12_0r2 = m15.z }, { V := fun _ v _ => ∃ d10_13_0r0 : Nat, ∃ d10_13_0r1 : Nat, ∃ d10_13_0r2 : Nat, v = (.agg #[.float .f32 d10_13_0r0, .float .f32 d10_13_0r1, .float .f32 d10_13_0r2]) ∧ cn .f32 d10_13_0r0 = m16.x ∧ cn .f32 d10_13_0r1 = m16.y ∧ cn .f32 d10_13_0r2 = m16.z }, { V := fun _ v w' => ∃ d10_14b : Nat, ∃ d10_14c : Array Value, v = (.pointer (some ⟨d10_14b, 0, none⟩)) ∧ w8.heap.size ≤ d10_14b ∧ w'.heap[d10_14b]? = some (.cells d10_14c 29 (0, 0)) ∧ d10_14c.size = 3 }, ⟨fun sg _ w' => ∃ d10_14b : Nat, ∃ d10_13_0r0 : Nat, ∃ d10_13_0r1 : Nat, ∃ d10_13_0r2 : Nat, sg 9 = .pointer (some ⟨d10_14b, 0, none⟩) ∧ w'.heap[d10_14b]? = some (.cells #[.float .f32 d10_13_0r0, .float .f32 d10_13_0r1, .float .f32 d10_13_0r2] 29 (0, 0)) ∧ cn .f32 d10_13_0r0 = m16.x ∧ cn .f32 d10_13_0r1 = m16.y ∧ cn .f32 d10_13_0r2 = m16.z, some 0, fun _ => True⟩] mixed (by kernel_rfl) ⟨trivial, trivial, trivial, trivial, trivial, trivial, trivial, trivial, trivial, trivial, trivial, trivial, trivial, trivial, trivial, trivial, trivial⟩ ⟨?_, ?_, ?_, ?_, ?_, ?_, ?_, ?_, ?_, ?_, ?_, ?_, ?_, ?_, ?_, ?_, trivial⟩ ?_
  · skip
    refine ⟨fun _ _ _ _ _ _ h _ => h, fun _ _ h _ => h, fun σ' w' hA hE hD hP => ?_⟩
    have t0 : σ' 0 = .pointer (some ⟨p0b, p0o, none⟩) := (hA 0 rfl).trans rfl
    have B0_17 : w'.heap[p0b]? = some (.cells p0c p0T p0f) := hE.heap (not_oth1 (not_newT_box B11)) B11
    refine dg_op rfl (d_mv (v := .pointer (some ⟨p0b, p0o, none⟩)) t0 ?_)
    exact ⟨rfl, own_none (Ext.refl w')⟩
  · skip
    refine ⟨fun _ _ _ _ _ _ h _ => h, fun _ _ h _ => h, fun σ' w' hA hE hD hP => ?_⟩
    have t17 : σ' 17 = (.pointer (some ⟨p0b, p0o, none⟩)) := hD 0 rfl
    have B0_18 : w'.heap[p0b]? = some (.cells p0c p0T p0f) := hE.heap (not_oth1 (not_newT_box B11)) B11
    refine dg_op rfl (d_nil t17 ?_)
    exact ⟨rfl, own_none (Ext.refl w')⟩
  · skip
    refine ⟨fun _ _ _ _ _ _ h _ => h, fun _ _ h _ => h, fun σ' w' hA hE hD hP => ?_⟩
    have t18 : σ' 18 = (.pointer (some ⟨p0b, p0o, none⟩)) := hD 1 rfl
    have B0_19 : w'.heap[p0b]? = some (.cells p0c p0T p0f) := hE.heap (not_oth1 (not_newT_box B11)) B11
    refine dg_op rfl (d_fieldAddr t18 (fa32_2 _ _) ?_)
    exact ⟨rfl, own_none (Ext.refl w')⟩
  · skip
    refine ⟨fun _ _ _ _ _ _ h _ => h, fun _ _ h _ => h, fun σ' w' hA hE hD hP => ?_⟩
    have t19 : σ' 19 = (.pointer (some ⟨p0b, p0o + 7, none⟩)) := hD 2 rfl
    have B0_20 : w'.heap[p0b]? = some (.cells p0c p0T p0f) := hE.heap (not_oth1 (not_newT_box B11)) B11
    refine dg_op rfl (d_loads (vs := #[.float .f32 p0r7, .float .f32 p0r8, .float .f32 p0r9]) t19 agg29 size29 B0_20 (sub_take (vs := #[.float .f32 p0r0, .float .f32 p0r1, .float .f32 p0r2, .float .f32 p0r3, .float .f32 p0r4, .float .f32 p0r5, .float .f32 p0r6, .float .f32 p0r7, .float .f32 p0r8, .float .f32 p0r9]) (us := #[.float .f32 p0r7, .float .f32 p0r8, .float .f32 p0r9]) (i := 7) p0P rfl (Nat.le_of_ble_eq_true rfl)) ?_)
    exact ⟨rfl, own_none (Ext.refl w')⟩
  · skip
    refine ⟨fun _ _ _ _ _ _ h _ => h, fun _ _ h _ => h, fun σ' w' hA hE hD hP => ?_⟩
    have t0 : σ' 0 = .pointer (some ⟨p0b, p0o, none⟩) := (hA 0 rfl).trans rfl
    have B0_21 : w'.heap[p0b]? = some (.cells p0c p0T p0f) := hE.heap (not_oth1 (not_newT_box B11)) B11
    refine dg_op rfl (d_mv (v := .pointer (some ⟨p0b, p0o, none⟩)) t0 ?_)
    exact ⟨rfl, own_none (Ext.refl w')⟩
  · skip
    refine ⟨fun _ _ _ _ _ _ h _ => h, fun _ _ h _ => h, fun σ' w' hA hE hD hP => ?_⟩
    have t0 : σ' 0 = .pointer (some ⟨p0b, p0o, none⟩) := (hA 0 rfl).trans rfl
    have B0_22 : w'.heap[p0b]? = some (.cells p0c p0T p0f) := hE.heap (not_oth1 (not_newT_box B11)) B11
    refine dg_op rfl (d_mv (v := .pointer (some ⟨p0b, p0o, none⟩)) t0 ?_)
    exact ⟨rfl, own_none (Ext.refl w')⟩
  · skip
    refine ⟨fun _ _ _ _ _ _ h _ => h, fun _ _ h _ => h, fun σ' w' hA hE hD hP => ?_⟩
    have t22 : σ' 22 = (.pointer (some ⟨p0b, p0o, none⟩)) := hD 5 rfl
    have B0_23 : w'.heap[p0b]? = some (.cells p0c p0T p0f) := hE.heap (not_oth1 (not_newT_box B11)) B11
    refine dg_op rfl (d_nil t22 ?_)
    exact ⟨rfl, own_none (Ext.refl w')⟩
  · skip
    refine ⟨fun _ _ _ _ _ _ h _ => h, fun _ _ h _ => h, fun σ' w' hA hE hD hP => ?_⟩
    have t23 : σ' 23 = (.pointer (some ⟨p0b, p0o, none⟩)) := hD 6 rfl
    have B0_24 : w'.heap[p0b]? = some (.cells p0c p0T p0f) := hE.heap (not_oth1 (not_newT_box B11)) B11
    refine dg_op rfl (d_fieldAddr t23 (fa32_2 _ _) ?_)
    exact ⟨rfl, own_none (Ext.refl w')⟩
  · skip
    refine ⟨fun _ _ _ _ _ _ h _ => h, fun _ _ h _ => h, fun σ' w' hA hE hD hP => ?_⟩
    have t24 : σ' 24 = (.pointer (some ⟨p0b, p0o + 7, none⟩)) := hD 7 rfl
    have B0_25 : w'.heap[p0b]? = some (.cells p0c p0T p0f) := hE.heap (not_oth1 (not_newT_box B11)) B11
    refine dg_op rfl (d_loads (vs := #[.float .f32 p0r7, .float .f32 p0r8, .float .f32 p0r9]) t24 agg29 size29 B0_25 (sub_take (vs := #[.float .f32 p0r0, .float .f32 p0r1, .float .f32 p0r2, .float .f32 p0r3, .float .f32 p0r4, .float .f32 p0r5, .float .f32 p0r6, .float .f32 p0r7, .float .f32 p0r8, .float .f32 p0r9]) (us := #[.float .f32 p0r7, .float .f32 p0r8, .float .f32 p0r9]) (i := 7) p0P rfl (Nat.le_of_ble_eq_true rfl)) ?_)
    exact ⟨rfl, own_none (Ext.refl w')⟩
  · skip
    refine ⟨fun _ _ _ _ _ _ h _ => h, fun _ _ h _ => h, fun σ' w' hA hE hD hP => ?_⟩
    have t4 : σ' 4 = .pointer (some ⟨w.heap.size, 0, none⟩) := (hA 4 rfl).trans rfl
    have B0_26 : w'.heap[w.heap.size]? = some (.cells #[.float .f32 p1r0, .float .f32 p1r1, .float .f32 p1r2] 29 (0, 0)) := hE.heap (not_oth1 (not_newT_box B12)) B12
    refine dg_op rfl (d_loads (vs := #[.float .f32 p1r0, .float .f32 p1r1, .float .f32 p1r2]) t4 agg29 size29 B0_26 rfl ?_)
    exact ⟨rfl, own_none (Ext.refl w')⟩
  · skip
    refine ⟨fun _ _ _ _ _ _ h _ => h, fun _ _ h _ => h, fun σ' w' hA hE hD hP => ?_⟩
    have t21 : σ' 21 = (.pointer (some ⟨p0b, p0o, none⟩)) := hD 4 rfl
    have t25 : σ' 25 = (.agg #[.float .f32 p0r7, .float .f32 p0r8, .float .f32 p0r9]) := hD 8 rfl
    have t26 : σ' 26 = (.agg #[.float .f32 p1r0, .float .f32 p1r1, .float .f32 p1r2]) := hD 9 rfl
    have B0_27 : w'.heap[p0b]? = some (.cells p0c p0T p0f) := hE.heap (not_oth1 (not_newT_box B11)) B11
    refine dg_op rfl (d_cl (vs := [.pointer (some ⟨p0b, p0o, none⟩), .agg #[.float .f32 p0r7, .float .f32 p0r8, .float .f32 p0r9], .agg #[.float .f32 p1r0, .float .f32 p1r1, .float .f32 p1r2]]) en89 (ac t21 (ac t25 (ac t26 rfl))) rfl ?_)
    refine (c89 (⟨(⟨p0.moments.x, p0.moments.y, p0.moments.z⟩ : SVector), (⟨p0.turn.w, p0.turn.x, p0.turn.y, p0.turn.z⟩ : SSpin), (⟨p0.speed.x, p0.speed.y, p0.speed.z⟩ : SVector)⟩ : STop) (⟨p0.speed.x, p0.speed.y, p0.speed.z⟩ : SVector) (⟨p1.x, p1.y, p1.z⟩ : SVector) p0b p0o p0c p0T p0f p0r0 p0r1 p0r2 p0r3 p0r4 p0r5 p0r6 p0r7 p0r8 p0r9 p0r7 p0r8 p0r9 p1r0 p1r1 p1r2 m14 w' hm14 p0h0 p0h1 p0h2 p0h3 p0h4 p0h5 p0h6 p0h7 p0h8 p0h9 B0_27 (sub_take (vs := #[.float .f32 p0r0, .float .f32 p0r1, .float .f32 p0r2, .float .f32 p0r3, .float .f32 p0r4, .float .f32 p0r5, .float .f32 p0r6, .float .f32 p0r7, .float .f32 p0r8, .float .f32 p0r9]) (us := #[.float .f32 p0r0, .float .f32 p0r1, .float .f32 p0r2, .float .f32 p0r3, .float .f32 p0r4, .float .f32 p0r5, .float .f32 p0r6, .float .f32 p0r7, .float .f32 p0r8, .float .f32 p0r9]) (i := 0) p0P rfl (Nat.le_of_ble_eq_true rfl)) p0h7 p0h8 p0h9 p1h0 p1h1 p1h2).mono ?_
    rintro _ w28 ⟨q28_0r0, q28_0r1, q28_0r2, rfl, q28_0h0, q28_0h1, q28_0h2, E28⟩
    refine ⟨_, rfl, ?_⟩
    have X29 : Ext w' w28 := (Ext.refl w').trans E28
    exact ⟨⟨q28_0r0, q28_0r1, q28_0r2, rfl, q28_0h0, q28_0h1, q28_0h2⟩, own_none X29⟩
  · skip
    refine ⟨fun _ _ _ _ _ _ h _ => h, fun _ _ h _ => h, fun σ' w' hA hE hD hP => ?_⟩
    have t8 : σ' 8 = .float .f32 r8 := (hA 8 rfl).trans rfl
    refine dg_op rfl (d_mv (v := .float .f32 r8) t8 ?_)
    exact ⟨rfl, own_none (Ext.refl w')⟩
  · skip
    refine ⟨fun _ _ _ _ _ _ h _ => h, fun _ _ h _ => h, fun σ' w' hA hE hD hP => ?_⟩
    obtain ⟨d10_10_0r0, d10_10_0r1, d10_10_0r2, t27, d10_10_0h0, d10_10_0h1, d10_10_0h2⟩ : ∃ d10_10_0r0 : Nat, ∃ d10_10_0r1 : Nat, ∃ d10_10_0r2 : Nat, σ' 27 = (.agg #[.float .f32 d10_10_0r0, .float .f32 d10_10_0r1, .float .f32 d10_10_0r2]) ∧ cn .f32 d10_10_0r0 = m14.x ∧ cn .f32 d10_10_0r1 = m14.y ∧ cn .f32 d10_10_0r2 = m14.z := hD 10 rfl
    have t28 : σ' 28 = (.float .f32 r8) := hD 11 rfl
    refine dg_op rfl (d_cl (vs := [.agg #[.float .f32 d10_10_0r0, .float .f32 d10_10_0r1, .float .f32 d10_10_0r2], .float .f32 r8]) en88 (ac t27 (ac t28 rfl)) rfl ?_)
    refine (c88 m14 (fop .mul .f32 1056964608 p2) d10_10_0r0 d10_10_0r1 d10_10_0r2 r8 m15 w' hm15 d10_10_0h0 d10_10_0h1 d10_10_0h2 h8).mono ?_
    rintro _ w30 ⟨q30_0r0, q30_0r1, q30_0r2, rfl, q30_0h0, q30_0h1, q30_0h2, E30⟩
    refine ⟨_, rfl, ?_⟩
    have X31 : Ext w' w30 := (Ext.refl w').trans E30
    exact ⟨⟨q30_0r0, q30_0r1, q30_0r2, rfl, q30_0h0, q30_0h1, q30_0h2⟩, own_none X31⟩
  · skip
    refine ⟨fun _ _ _ _ _ _ h _ => h, fun _ _ h _ => h, fun σ' w' hA hE hD hP => ?_⟩
    have t20 : σ' 20 = (.agg #[.float .f32 p0r7, .float .f32 p0r8, .float .f32 p0r9]) := hD 3 rfl
    obtain ⟨d10_12_0r0, d10_12_0r1, d10_12_0r2, t29, d10_12_0h0, d10_12_0h1, d10_12_0h2⟩ : ∃ d10_12_0r0 : Nat, ∃ d10_12_0r1 : Nat, ∃ d10_12_0r2 : Nat, σ' 29 = (.agg #[.float .f32 d10_12_0r0, .float .f32 d10_12_0r1, .float .f32 d10_12_0r2]) ∧ cn .f32 d10_12_0r0 = m15.x ∧ cn .f32 d10_12_0r1 = m15.y ∧ cn .f32 d10_12_0r2 = m15.z := hD 12 rfl
    refine dg_op rfl (d_cl (vs := [.agg #[.float .f32 p0r7, .float .f32 p0r8, .float .f32 p0r9], .agg #[.float .f32 d10_12_0r0, .float .f32 d10_12_0r1, .float .f32 d10_12_0r2]]) en87 (ac t20 (ac t29 rfl)) rfl ?_)
    refine (c87 (⟨p0.speed.x, p0.speed.y, p0.speed.z⟩ : SVector) m15 p0r7 p0r8 p0r9 d10_12_0r0 d10_12_0r1 d10_12_0r2 m16 w' hm16 p0h7 p0h8 p0h9 d10_12_0h0 d10_12_0h1 d10_12_0h2).mono ?_
    rintro _ w32 ⟨q32_0r0, q32_0r1, q32_0r2, rfl, q32_0h0, q32_0h1, q32_0h2, E32⟩
    refine ⟨_, rfl, ?_⟩
    have X33 : Ext w' w32 := (Ext.refl w').trans E32
    exact ⟨⟨q32_0r0, q32_0r1, q32_0r2, rfl, q32_0h0, q32_0h1, q32_0h2⟩, own_none X33⟩
  · skip
    refine ⟨fun _ _ _ w' w'' _ ⟨d10_14b, d10_14c, hv, d10_14ble, d10_14bB, d10_14bZ⟩ hF => let ⟨c2, hB2, hZ2⟩ := hF.shape _ _ _ _ d10_14bB; ⟨d10_14b, c2, hv, d10_14ble, hB2, (hZ2.trans d10_14bZ)⟩, fun _ _ h _ => h, fun σ' w' hA hE hD hP => ?_⟩
    refine dg_op rfl (d_alloc (cs := #[.float .f32 0, .float .f32 0, .float .f32 0]) zero29 rfl fun w34 B34 E34 => ?_)
    have X36 : Ext w' w34 := (Ext.refl w').trans E34
    exact ⟨⟨w'.heap.size, #[.float .f32 0, .float .f32 0, .float .f32 0], rfl, hE.size, B34, rfl⟩, own_none X36⟩
  · skip
    refine ⟨fun _ _ _ w' w'' hs ⟨d10_14b, d10_13_0r0, d10_13_0r1, d10_13_0r2, hb, hB, d10_13_0h0, d10_13_0h1, d10_13_0h2⟩ hF => ⟨d10_14b, d10_13_0r0, d10_13_0r1, d10_13_0r2, (hs 14 rfl).trans hb, hF.heap not_oth1s hB, d10_13_0h0, d10_13_0h1, d10_13_0h2⟩, fun _ _ h _ => h, fun σ' w' hA hE hD hP => ?_⟩
    obtain ⟨d10_14b, d10_14c, t9, d10_14ble, d10_14bB, d10_14bZ⟩ : ∃ d10_14b : Nat, ∃ d10_14c : Array Value, σ' 9 = (.pointer (some ⟨d10_14b, 0, none⟩)) ∧ w8.heap.size ≤ d10_14b ∧ w'.heap[d10_14b]? = some (.cells d10_14c 29 (0, 0)) ∧ d10_14c.size = 3 := hD 14 rfl
    obtain ⟨d10_13_0r0, d10_13_0r1, d10_13_0r2, t30, d10_13_0h0, d10_13_0h1, d10_13_0h2⟩ : ∃ d10_13_0r0 : Nat, ∃ d10_13_0r1 : Nat, ∃ d10_13_0r2 : Nat, σ' 30 = (.agg #[.float .f32 d10_13_0r0, .float .f32 d10_13_0r1, .float .f32 d10_13_0r2]) ∧ cn .f32 d10_13_0r0 = m16.x ∧ cn .f32 d10_13_0r1 = m16.y ∧ cn .f32 d10_13_0r2 = m16.z := hD 13 rfl
    refine dg_op rfl (d_store_new (vs := #[.float .f32 d10_13_0r0, .float .f32 d10_13_0r1, .float .f32 d10_13_0r2]) t9 (congrArg Value.cells t30) d10_14bB d10_14bZ size29 rfl rfl fun w37 S37 => ?_)
    exact ⟨⟨d10_14b, d10_13_0r0, d10_13_0r1, d10_13_0r2, t9, S37.here, d10_13_0h0, d10_13_0h1, d10_13_0h2⟩, own_some (j := 0) rfl (S37.frm.mono (fun k t h => ⟨h.1 ▸ d10_14ble, h.2⟩))⟩
  · skip
    intro σ10 w10 A10 E10 V10
    obtain ⟨z10_9_14b, z10_9_14c, s9_10, z10_9_14ble, z10_9_14bB, z10_9_14bZ⟩ : ∃ z10_9_14b : Nat, ∃ z10_9_14c : Array Value, σ10 9 = (.pointer (some ⟨z10_9_14b, 0, none⟩)) ∧ w8.heap.size ≤ z10_9_14b ∧ w10.heap[z10_9_14b]? = some (.cells z10_9_14c 29 (0, 0)) ∧ z10_9_14c.size = 3 := V10 14 (Nat.le_of_ble_eq_true rfl)
    obtain ⟨z10_m0_14b, z10_m0_13_0r0, z10_m0_13_0r1, z10_m0_13_0r2, hbn10, hBn10, z10_m0_13_0h0, z10_m0_13_0h1, z10_m0_13_0h2⟩ : ∃ z10_m0_14b : Nat, ∃ z10_m0_13_0r0 : Nat, ∃ z10_m0_13_0r1 : Nat, ∃ z10_m0_13_0r2 : Nat, σ10 9 = .pointer (some ⟨z10_m0_14b, 0, none⟩) ∧ w10.heap[z10_m0_14b]? = some (.cells #[.float .f32 z10_m0_13_0r0, .float .f32 z10_m0_13_0r1, .float .f32 z10_m0_13_0r2] 29 (0, 0)) ∧ cn .f32 z10_m0_13_0r0 = m16.x ∧ cn .f32 z10_m0_13_0r1 = m16.y ∧ cn .f32 z10_m0_13_0r2 = m16.z := V10 15 (Nat.le_of_ble_eq_true rfl)
    have hen10 : z10_m0_14b = z10_9_14b := by have := hbn10.symm.trans s9_10; simp only [Value.pointer.injEq, Option.some.injEq, Addr.mk.injEq] at this; exact this.1
    rw [hen10] at hBn10
    have own38 : w.heap.size ≤ z10_9_14b := Nat.le_trans X9.size z10_9_14ble
    have sp39 : w.heap.size ≠ z10_9_14b := Nat.ne_of_lt (Nat.lt_of_lt_of_le (lt_heap B12) z10_9_14ble)
    have sp40 : w1.heap.size ≠ z10_9_14b := Nat.ne_of_lt (Nat.lt_of_lt_of_le (lt_heap B13) z10_9_14ble)
    have s0_10 : σ10 0 = .pointer (some ⟨p0b, p0o, none⟩) := (A10 0 rfl).trans rfl
    have s2_10 : σ10 2 = .float .f32 p2r := (A10 2 rfl).trans rfl
    have s4_10 : σ10 4 = .pointer (some ⟨w.heap.size, 0, none⟩) := (A10 4 rfl).trans rfl
    have s6_10 : σ10 6 = .pointer (some ⟨w1.heap.size, 0, none⟩) := (A10 6 rfl).trans rfl
    have s8_10 : σ10 8 = .float .f32 r8 := (A10 8 rfl).trans rfl
    have X41 : Ext w w10 := Ext.step X9 E10 (oth_own1 (fun k _ hk => Nat.le_trans X9.size hk.1))
    refine W_seq ?_
    refine W_region rfl ?_
    refine da_op rfl (d_mv (v := .pointer (some ⟨p0b, p0o, none⟩)) s0_10 ?_)
    refine da_op rfl (d_nil rfl ?_)
    refine da_op rfl (d_fieldAddr rfl (fa32_0 _ _) ?_)
    have B42 : w10.heap[p0b]? = some (.cells p0c p0T p0f) := X41.heap p0B
    refine da_op rfl (d_loads (vs := #[.float .f32 p0r0, .float .f32 p0r1, .float .f32 p0r2]) rfl agg29 size29 B42 (sub_take (vs := #[.float .f32 p0r0, .float .f32 p0r1, .float .f32 p0r2, .float .f32 p0r3, .float .f32 p0r4, .float .f32 p0r5, .float .f32 p0r6, .float .f32 p0r7, .float .f32 p0r8, .float .f32 p0r9]) (us := #[.float .f32 p0r0, .float .f32 p0r1, .float .f32 p0r2]) (i := 0) p0P rfl (Nat.le_of_ble_eq_true rfl)) ?_)
    refine da_op rfl (d_bd (vs := [(0, .agg #[.float .f32 p0r0, .float .f32 p0r1, .float .f32 p0r2])]) (cs := #[.float .f32 p0r0, .float .f32 p0r1, .float .f32 p0r2, .float .f32 0, .float .f32 0, .float .f32 0, .float .f32 0, .float .f32 0, .float .f32 0, .float .f32 0]) (pc rfl rfl) (by kernel_rfl) ?_)
    have B44 : w10.heap[w.heap.size]? = some (.cells #[.float .f32 p1r0, .float .f32 p1r1, .float .f32 p1r2] 29 (0, 0)) := E10.heap (not_oth1 (not_newT_box B12)) B12
    have B45 : w10.heap[w1.heap.size]? = some (.cells #[.float .f32 0, .float .f32 0, .float .f32 0, .float .f32 0, .float .f32 0, .float .f32 0, .float .f32 0, .float .f32 0, .float .f32 0, .float .f32 0] 32 (0, 0)) := E10.heap (not_oth1 (not_newT_box B13)) B13
    refine da_op rfl (d_alloc (cs := #[.float .f32 0, .float .f32 0, .float .f32 0, .float .f32 0, .float .f32 0, .float .f32 0, .float .f32 0, .float .f32 0, .float .f32 0, .float .f32 0]) zero32 rfl fun w43 B43 E43 => ?_)
    have own46 : w.heap.size ≤ w10.heap.size := Nat.le_trans X41.size (Nat.le_refl _)
    have sp47 : w.heap.size ≠ w10.heap.size := Nat.ne_of_lt (Nat.lt_of_lt_of_le (lt_heap B44) (Nat.le_refl _))
    have sp48 : w1.heap.size ≠ w10.heap.size := Nat.ne_of_lt (Nat.lt_of_lt_of_le (lt_heap B45) (Nat.le_refl _))
    have sp49 : z10_9_14b ≠ w10.heap.size := Nat.ne_of_lt (Nat.lt_of_lt_of_le (lt_heap hBn10) (Nat.le_refl _))
    have X50 : Ext w w43 := X41.trans E43
    refine da_op rfl (d_store (vs := #[.float .f32 p0r0, .float .f32 p0r1, .float .f32 p0r2, .float .f32 0, .float .f32 0, .float .f32 0, .float .f32 0, .float .f32 0, .float .f32 0, .float .f32 0]) rfl rfl B43 size32 (Nat.le_of_ble_eq_true rfl) rfl fun w51 S51 => ?_)
    have X52 : Ext w w51 := Ext.step X50 S51.frmb (fun k _ hk => hk ▸ own46)
    have B53 : w51.heap[w10.heap.size]? = some (.cells #[.float .f32 p0r0, .float .f32 p0r1, .float .f32 p0r2, .float .f32 0, .float .f32 0, .float .f32 0, .float .f32 0, .float .f32 0, .float .f32 0, .float .f32 0] 32 (0, 0)) := S51.here
    refine da_nil ?_
    refine W_seq ?_
    have B55 : w51.heap[p0b]? = some (.cells p0c p0T p0f) := X52.heap p0B
    have B56 : w51.heap[w.heap.size]? = some (.cells #[.float .f32 p1r0, .float .f32 p1r1, .float .f32 p1r2] 29 (0, 0)) := S51.frmb.heap sp47 (E43.heap B44)
    have B57 : w51.heap[w1.heap.size]? = some (.cells #[.float .f32 0, .float .f32 0, .float .f32 0, .float .f32 0, .float .f32 0, .float .f32 0, .float .f32 0, .float .f32 0, .float .f32 0, .float .f32 0] 32 (0, 0)) := S51.frmb.heap sp48 (E43.heap B45)
    have B58 : w51.heap[z10_9_14b]? = some (.cells #[.float .f32 z10_m0_13_0r0, .float .f32 z10_m0_13_0r1, .float .f32 z10_m0_13_0r2] 29 (0, 0)) := S51.frmb.heap sp49 (E43.heap hBn10)
    obtain ⟨m59, hm59, hr⟩ := letv_out hr
    obtain ⟨m60, hm60, hr⟩ := letv_out hr
    obtain ⟨m61, hm61, hr⟩ := letv_out hr
    refine W_any [fun k _ => k = w10.heap.size] [{ V := fun _ v _ => v = (.pointer (some ⟨p0b, p0o, none⟩)) }, { V := fun _ v _ => v = (.pointer (some ⟨p0b, p0o, none⟩)) }, { V := fun _ v _ => v = (.pointer (some ⟨p0b, p0o + 7, none⟩)) }, { V := fun _ v _ => v = (.agg #[.float .f32 p0r7, .float .f32 p0r8, .float .f32 p0r9]) }, { V := fun _ v _ => v = (.pointer (some ⟨p0b, p0o, none⟩)) }, { V := fun _ v _ => v = (.agg #[.float .f32 z10_m0_13_0r0, .float .f32 z10_m0_13_0r1, .float .f32 z10_m0_13_0r2]) }, { V := fun _ v _ => v = (.agg #[.float .f32 p1r0, .float .f32 p1r1, .float .f32 p1r2]) }, { V := fun _ v _ => ∃ d54_7_0r0 : Nat, ∃ d54_7_0r1 : Nat, ∃ d54_7_0r2 : Nat, v = (.agg #[.float .f32 d54_7_0r0, .float .f32 d54_7_0r1, .float .f32 d54_7_0r2]) ∧ cn .f32 d54_7_0r0 = m59.x ∧ cn .f32 d54_7_0r1 = m59.y ∧ cn .f32 d54_7_0r2 = m59.z }, { V := fun _ v _ => v = (.float .f32 p2r) }, { V := fun _ v _ => ∃ d54_9_0r0 : Nat, ∃ d54_9_0r1 : Nat, ∃ d54_9_0r2 : Nat, v = (.agg #[.float .f32 d54_9_0r0, .float .f32 d54_9_0r1, .float .f32 d54_9_0r2]) ∧ cn .f32 d54_9_0r0 = m60.x ∧ cn .f32 d54_9_0r1 = m60.y ∧ cn .f32 d54_9_0r2 = m60.z }, { V := fun _ v _ => ∃ d54_10_0r0 : Nat, ∃ d54_10_0r1 : Nat, ∃ d54_10_0r2 : Nat, v = (.agg #[.float .f32 d54_10_0r0, .float .f32 d54_10_0r1, .float .f32 d54_10_0r2]) ∧ cn .f32 d54_10_0r0 = m61.x ∧ cn .f32 d54_10_0r1 = m61.y ∧ cn .f32 d54_10_0r2 = m61.z }, { V := fun _ v _ => v = (.pointer (some ⟨w10.heap.size, 7, none⟩)) }, ⟨fun _ _ w' => ∃ d54_10_0r0 : Nat, ∃ d54_10_0r1 : Nat, ∃ d54_10_0r2 : Nat, w'.heap[w10.heap.size]? = some (.cells #[.float .f32 p0r0, .float .f32 p0r1, .float .f32 p0r2, .float .f32 0, .float .f32 0, .float .f32 0, .float .f32 0, .float .f32 d54_10_0r0, .float .f32 d54_10_0r1, .float .f32 d54_10_0r2] 32 (0, 0)) ∧ cn .f32 d54_10_0r0 = m61.x ∧ cn .f32 d54_10_0r1 = m61.y ∧ cn .f32 d54_10_0r2 = m61.z, some 0, fun w' => w'.heap[w10.heap.size]? = some (.cells #[.float .f32 p0r0, .float .f32 p0r1, .float .f32 p0r2, .float .f32 0, .float .f32 0, .float .f32 0, .float .f32 0, .float .f32 0, .float .f32 0, .float .f32 0] 32 (0, 0))⟩] mixed (by kernel_rfl) ⟨trivial, trivial, trivial, trivial, trivial, trivial, trivial, trivial, trivial, trivial, trivial, trivial, B53, trivial⟩ ⟨?_, ?_, ?_, ?_, ?_, ?_, ?_, ?_, ?_, ?_, ?_, ?_, ?_, trivial⟩ ?_
    · skip
      refine ⟨fun _ _ _ _ _ _ h _ => h, fun _ _ h _ => h, fun σ' w' hA hE hD hP => ?_⟩
      have t0 : σ' 0 = .pointer (some ⟨p0b, p0o, none⟩) := (hA 0 rfl).trans s0_10
      have B0_62 : w'.heap[p0b]? = some (.cells p0c p0T p0f) := hE.heap (not_oth1 (old_bb p0B own46)) B55
      refine dg_op rfl (d_mv (v := .pointer (some ⟨p0b, p0o, none⟩)) t0 ?_)
      exact ⟨rfl, own_none (Ext.refl w')⟩
    · skip
      refine ⟨fun _ _ _ _ _ _ h _ => h, fun _ _ h _ => h, fun σ' w' hA hE hD hP => ?_⟩
      have t36 : σ' 36 = (.pointer (some ⟨p0b, p0o, none⟩)) := hD 0 rfl
      have B0_63 : w'.heap[p0b]? = some (.cells p0c p0T p0f) := hE.heap (not_oth1 (old_bb p0B own46)) B55
      refine dg_op rfl (d_nil t36 ?_)
      exact ⟨rfl, own_none (Ext.refl w')⟩
    · skip
      refine ⟨fun _ _ _ _ _ _ h _ => h, fun _ _ h _ => h, fun σ' w' hA hE hD hP => ?_⟩
      have t37 : σ' 37 = (.pointer (some ⟨p0b, p0o, none⟩)) := hD 1 rfl
      have B0_64 : w'.heap[p0b]? = some (.cells p0c p0T p0f) := hE.heap (not_oth1 (old_bb p0B own46)) B55
      refine dg_op rfl (d_fieldAddr t37 (fa32_2 _ _) ?_)
      exact ⟨rfl, own_none (Ext.refl w')⟩
    · skip
      refine ⟨fun _ _ _ _ _ _ h _ => h, fun _ _ h _ => h, fun σ' w' hA hE hD hP => ?_⟩
      have t38 : σ' 38 = (.pointer (some ⟨p0b, p0o + 7, none⟩)) := hD 2 rfl
      have B0_65 : w'.heap[p0b]? = some (.cells p0c p0T p0f) := hE.heap (not_oth1 (old_bb p0B own46)) B55
      refine dg_op rfl (d_loads (vs := #[.float .f32 p0r7, .float .f32 p0r8, .float .f32 p0r9]) t38 agg29 size29 B0_65 (sub_take (vs := #[.float .f32 p0r0, .float .f32 p0r1, .float .f32 p0r2, .float .f32 p0r3, .float .f32 p0r4, .float .f32 p0r5, .float .f32 p0r6, .float .f32 p0r7, .float .f32 p0r8, .float .f32 p0r9]) (us := #[.float .f32 p0r7, .float .f32 p0r8, .float .f32 p0r9]) (i := 7) p0P rfl (Nat.le_of_ble_eq_true rfl)) ?_)
      exact ⟨rfl, own_none (Ext.refl w')⟩
    · skip
      refine ⟨fun _ _ _ _ _ _ h _ => h, fun _ _ h _ => h, fun σ' w' hA hE hD hP => ?_⟩
      have t0 : σ' 0 = .pointer (some ⟨p0b, p0o, none⟩) := (hA 0 rfl).trans s0_10
      have B0_66 : w'.heap[p0b]? = some (.cells p0c p0T p0f) := hE.heap (not_oth1 (old_bb p0B own46)) B55
      refine dg_op rfl (d_mv (v := .pointer (some ⟨p0b, p0o, none⟩)) t0 ?_)
      exact ⟨rfl, own_none (Ext.refl w')⟩
    · skip
      refine ⟨fun _ _ _ _ _ _ h _ => h, fun _ _ h _ => h, fun σ' w' hA hE hD hP => ?_⟩
      have t9 : σ' 9 = .pointer (some ⟨z10_9_14b, 0, none⟩) := (hA 9 rfl).trans s9_10
      have B0_67 : w'.heap[z10_9_14b]? = some (.cells #[.float .f32 z10_m0_13_0r0, .float .f32 z10_m0_13_0r1, .float .f32 z10_m0_13_0r2] 29 (0, 0)) := hE.heap (not_oth1 sp49) B58
      refine dg_op rfl (d_loads (vs := #[.float .f32 z10_m0_13_0r0, .float .f32 z10_m0_13_0r1, .float .f32 z10_m0_13_0r2]) t9 agg29 size29 B0_67 rfl ?_)
      exact ⟨rfl, own_none (Ext.refl w')⟩
    · skip
      refine ⟨fun _ _ _ _ _ _ h _ => h, fun _ _ h _ => h, fun σ' w' hA hE hD hP => ?_⟩
      have t4 : σ' 4 = .pointer (some ⟨w.heap.size, 0, none⟩) := (hA 4 rfl).trans s4_10
      have B0_68 : w'.heap[w.heap.size]? = some (.cells #[.float .f32 p1r0, .float .f32 p1r1, .float .f32 p1r2] 29 (0, 0)) := hE.heap (not_oth1 sp47) B56
      refine dg_op rfl (d_loads (vs := #[.float .f32 p1r0, .float .f32 p1r1, .float .f32 p1r2]) t4 agg29 size29 B0_68 rfl ?_)
      exact ⟨rfl, own_none (Ext.refl w')⟩
    · skip
      refine ⟨fun _ _ _ _ _ _ h _ => h, fun _ _ h _ => h, fun σ' w' hA hE hD hP => ?_⟩
      have t40 : σ' 40 = (.pointer (some ⟨p0b, p0o, none⟩)) := hD 4 rfl
      have t41 : σ' 41 = (.agg #[.float .f32 z10_m0_13_0r0, .float .f32 z10_m0_13_0r1, .float .f32 z10_m0_13_0r2]) := hD 5 rfl
      have t42 : σ' 42 = (.agg #[.float .f32 p1r0, .float .f32 p1r1, .float .f32 p1r2]) := hD 6 rfl
      have B0_69 : w'.heap[p0b]? = some (.cells p0c p0T p0f) := hE.heap (not_oth1 (old_bb p0B own46)) B55
      refine dg_op rfl (d_cl (vs := [.pointer (some ⟨p0b, p0o, none⟩), .agg #[.float .f32 z10_m0_13_0r0, .float .f32 z10_m0_13_0r1, .float .f32 z10_m0_13_0r2], .agg #[.float .f32 p1r0, .float .f32 p1r1, .float .f32 p1r2]]) en89 (ac t40 (ac t41 (ac t42 rfl))) rfl ?_)
      refine (c89 (⟨(⟨p0.moments.x, p0.moments.y, p0.moments.z⟩ : SVector), (⟨p0.turn.w, p0.turn.x, p0.turn.y, p0.turn.z⟩ : SSpin), (⟨p0.speed.x, p0.speed.y, p0.speed.z⟩ : SVector)⟩ : STop) m16 (⟨p1.x, p1.y, p1.z⟩ : SVector) p0b p0o p0c p0T p0f p0r0 p0r1 p0r2 p0r3 p0r4 p0r5 p0r6 p0r7 p0r8 p0r9 z10_m0_13_0r0 z10_m0_13_0r1 z10_m0_13_0r2 p1r0 p1r1 p1r2 m59 w' hm59 p0h0 p0h1 p0h2 p0h3 p0h4 p0h5 p0h6 p0h7 p0h8 p0h9 B0_69 (sub_take (vs := #[.float .f32 p0r0, .float .f32 p0r1, .float .f32 p0r2, .float .f32 p0r3, .float .f32 p0r4, .float .f32 p0r5, .float .f32 p0r6, .float .f32 p0r7, .float .f32 p0r8, .float .f32 p0r9]) (us := #[.float .f32 p0r0, .float .f32 p0r1, .float .f32 p0r2, .float .f32 p0r3, .float .f32 p0r4, .float .f32 p0r5, .float .f32 p0r6, .float .f32 p0r7, .float .f32 p0r8, .float .f32 p0r9]) (i := 0) p0P rfl (Nat.le_of_ble_eq_true rfl)) z10_m0_13_0h0 z10_m0_13_0h1 z10_m0_13_0h2 p1h0 p1h1 p1h2).mono ?_
      rintro _ w70 ⟨q70_0r0, q70_0r1, q70_0r2, rfl, q70_0h0, q70_0h1, q70_0h2, E70⟩
      refine ⟨_, rfl, ?_⟩
      have X71 : Ext w' w70 := (Ext.refl w').trans E70
      exact ⟨⟨q70_0r0, q70_0r1, q70_0r2, rfl, q70_0h0, q70_0h1, q70_0h2⟩, own_none X71⟩
    · skip
      refine ⟨fun _ _ _ _ _ _ h _ => h, fun _ _ h _ => h, fun σ' w' hA hE hD hP => ?_⟩
      have t2 : σ' 2 = .float .f32 p2r := (hA 2 rfl).trans s2_10
      refine dg_op rfl (d_mv (v := .float .f32 p2r) t2 ?_)
      exact ⟨rfl, own_none (Ext.refl w')⟩
    · skip
      refine ⟨fun _ _ _ _ _ _ h _ => h, fun _ _ h _ => h, fun σ' w' hA hE hD hP => ?_⟩
      obtain ⟨d54_7_0r0, d54_7_0r1, d54_7_0r2, t43, d54_7_0h0, d54_7_0h1, d54_7_0h2⟩ : ∃ d54_7_0r0 : Nat, ∃ d54_7_0r1 : Nat, ∃ d54_7_0r2 : Nat, σ' 43 = (.agg #[.float .f32 d54_7_0r0, .float .f32 d54_7_0r1, .float .f32 d54_7_0r2]) ∧ cn .f32 d54_7_0r0 = m59.x ∧ cn .f32 d54_7_0r1 = m59.y ∧ cn .f32 d54_7_0r2 = m59.z := hD 7 rfl
      have t44 : σ' 44 = (.float .f32 p2r) := hD 8 rfl
      refine dg_op rfl (d_cl (vs := [.agg #[.float .f32 d54_7_0r0, .float .f32 d54_7_0r1, .float .f32 d54_7_0r2], .float .f32 p2r]) en88 (ac t43 (ac t44 rfl)) rfl ?_)
      refine (c88 m59 p2 d54_7_0r0 d54_7_0r1 d54_7_0r2 p2r m60 w' hm60 d54_7_0h0 d54_7_0h1 d54_7_0h2 p2h).mono ?_
      rintro _ w72 ⟨q72_0r0, q72_0r1, q72_0r2, rfl, q72_0h0, q72_0h1, q72_0h2, E72⟩
      refine ⟨_, rfl, ?_⟩
      have X73 : Ext w' w72 := (Ext.refl w').trans E72
      exact ⟨⟨q72_0r0, q72_0r1, q72_0r2, rfl, q72_0h0, q72_0h1, q72_0h2⟩, own_none X73⟩
    · skip
      refine ⟨fun _ _ _ _ _ _ h _ => h, fun _ _ h _ => h, fun σ' w' hA hE hD hP => ?_⟩
      have t39 : σ' 39 = (.agg #[.float .f32 p0r7, .float .f32 p0r8, .float .f32 p0r9]) := hD 3 rfl
      obtain ⟨d54_9_0r0, d54_9_0r1, d54_9_0r2, t45, d54_9_0h0, d54_9_0h1, d54_9_0h2⟩ : ∃ d54_9_0r0 : Nat, ∃ d54_9_0r1 : Nat, ∃ d54_9_0r2 : Nat, σ' 45 = (.agg #[.float .f32 d54_9_0r0, .float .f32 d54_9_0r1, .float .f32 d54_9_0r2]) ∧ cn .f32 d54_9_0r0 = m60.x ∧ cn .f32 d54_9_0r1 = m60.y ∧ cn .f32 d54_9_0r2 = m60.z := hD 9 rfl
      refine dg_op rfl (d_cl (vs := [.agg #[.float .f32 p0r7, .float .f32 p0r8, .float .f32 p0r9], .agg #[.float .f32 d54_9_0r0, .float .f32 d54_9_0r1, .float .f32 d54_9_0r2]]) en87 (ac t39 (ac t45 rfl)) rfl ?_)
      refine (c87 (⟨p0.speed.x, p0.speed.y, p0.speed.z⟩ : SVector) m60 p0r7 p0r8 p0r9 d54_9_0r0 d54_9_0r1 d54_9_0r2 m61 w' hm61 p0h7 p0h8 p0h9 d54_9_0h0 d54_9_0h1 d54_9_0h2).mono ?_
      rintro _ w74 ⟨q74_0r0, q74_0r1, q74_0r2, rfl, q74_0h0, q74_0h1, q74_0h2, E74⟩
      refine ⟨_, rfl, ?_⟩
      have X75 : Ext w' w74 := (Ext.refl w').trans E74
      exact ⟨⟨q74_0r0, q74_0r1, q74_0r2, rfl, q74_0h0, q74_0h1, q74_0h2⟩, own_none X75⟩
    · skip
      refine ⟨fun _ _ _ _ _ _ h _ => h, fun _ _ h _ => h, fun σ' w' hA hE hD hP => ?_⟩
      have t10 : σ' 10 = .pointer (some ⟨w10.heap.size, 0, none⟩) := (hA 10 rfl).trans rfl
      have B0_76 : w'.heap[w10.heap.size]? = some (.cells #[.float .f32 p0r0, .float .f32 p0r1, .float .f32 p0r2, .float .f32 0, .float .f32 0, .float .f32 0, .float .f32 0, .float .f32 0, .float .f32 0, .float .f32 0] 32 (0, 0)) := (hP 12 _ _ rfl rfl (.inr rfl)).1
      refine dg_op rfl (d_fieldAddr t10 (fa32_2 _ _) ?_)
      exact ⟨rfl, own_none (Ext.refl w')⟩
    · skip
      refine ⟨fun _ _ _ w' w'' _ ⟨d54_10_0r0, d54_10_0r1, d54_10_0r2, hB, d54_10_0h0, d54_10_0h1, d54_10_0h2⟩ hF => ⟨d54_10_0r0, d54_10_0r1, d54_10_0r2, hF.heap not_oth1s hB, d54_10_0h0, d54_10_0h1, d54_10_0h2⟩, fun _ _ h hF => hF.heap not_oth1s h, fun σ' w' hA hE hD hP => ?_⟩
      obtain ⟨d54_10_0r0, d54_10_0r1, d54_10_0r2, t46, d54_10_0h0, d54_10_0h1, d54_10_0h2⟩ : ∃ d54_10_0r0 : Nat, ∃ d54_10_0r1 : Nat, ∃ d54_10_0r2 : Nat, σ' 46 = (.agg #[.float .f32 d54_10_0r0, .float .f32 d54_10_0r1, .float .f32 d54_10_0r2]) ∧ cn .f32 d54_10_0r0 = m61.x ∧ cn .f32 d54_10_0r1 = m61.y ∧ cn .f32 d54_10_0r2 = m61.z := hD 10 rfl
      have t47 : σ' 47 = (.pointer (some ⟨w10.heap.size, 7, none⟩)) := hD 11 rfl
      have B0_77 : w'.heap[w10.heap.size]? = some (.cells #[.float .f32 p0r0, .float .f32 p0r1, .float .f32 p0r2, .float .f32 0, .float .f32 0, .float .f32 0, .float .f32 0, .float .f32 0, .float .f32 0, .float .f32 0] 32 (0, 0)) := (hP 12 _ _ rfl rfl (.inl rfl)).1
      refine dg_op rfl (d_store (vs := #[.float .f32 d54_10_0r0, .float .f32 d54_10_0r1, .float .f32 d54_10_0r2]) t47 (congrArg Value.cells t46) B0_77 size29 (Nat.le_of_ble_eq_true rfl) rfl fun w78 S78 => ?_)
      have B79 : w78.heap[w10.heap.size]? = some (.cells #[.float .f32 p0r0, .float .f32 p0r1, .float .f32 p0r2, .float .f32 0, .float .f32 0, .float .f32 0, .float .f32 0, .float .f32 d54_10_0r0, .float .f32 d54_10_0r1, .float .f32 d54_10_0r2] 32 (0, 0)) := S78.here
      exact ⟨⟨d54_10_0r0, d54_10_0r1, d54_10_0r2, B79, d54_10_0h0, d54_10_0h1, d54_10_0h2⟩, own_some (j := 0) rfl S78.frmb⟩
    · skip
      intro σ54 w54 A54 E54 V54
      obtain ⟨z54_m0_10_0r0, z54_m0_10_0r1, z54_m0_10_0r2, Bm0_54, z54_m0_10_0h0, z54_m0_10_0h1, z54_m0_10_0h2⟩ : ∃ z54_m0_10_0r0 : Nat, ∃ z54_m0_10_0r1 : Nat, ∃ z54_m0_10_0r2 : Nat, w54.heap[w10.heap.size]? = some (.cells #[.float .f32 p0r0, .float .f32 p0r1, .float .f32 p0r2, .float .f32 0, .float .f32 0, .float .f32 0, .float .f32 0, .float .f32 z54_m0_10_0r0, .float .f32 z54_m0_10_0r1, .float .f32 z54_m0_10_0r2] 32 (0, 0)) ∧ cn .f32 z54_m0_10_0r0 = m61.x ∧ cn .f32 z54_m0_10_0r1 = m61.y ∧ cn .f32 z54_m0_10_0r2 = m61.z := V54 12 (Nat.le_of_ble_eq_true rfl)
      have s0_54 : σ54 0 = .pointer (some ⟨p0b, p0o, none⟩) := (A54 0 rfl).trans s0_10
      have s6_54 : σ54 6 = .pointer (some ⟨w1.heap.size, 0, none⟩) := (A54 6 rfl).trans s6_10
      have s8_54 : σ54 8 = .float .f32 r8 := (A54 8 rfl).trans s8_10
      have s9_54 : σ54 9 = .pointer (some ⟨z10_9_14b, 0, none⟩) := (A54 9 rfl).trans s9_10
      have s10_54 : σ54 10 = .pointer (some ⟨w10.heap.size, 0, none⟩) := (A54 10 rfl).trans rfl
      have X80 : Ext w w54 := Ext.step X52 E54 (oth_own1 (fun k _ hk => hk ▸ own46))
      refine W_seq ?_
      have B82 : w54.heap[p0b]? = some (.cells p0c p0T p0f) := X80.heap p0B
      have B83 : w54.heap[w1.heap.size]? = some (.cells #[.float .f32 0, .float .f32 0, .float .f32 0, .float .f32 0, .float .f32 0, .float .f32 0, .float .f32 0, .float .f32 0, .float .f32 0, .float .f32 0] 32 (0, 0)) := E54.heap (not_oth1 sp48) B57
      have B84 : w54.heap[z10_9_14b]? = some (.cells #[.float .f32 z10_m0_13_0r0, .float .f32 z10_m0_13_0r1, .float .f32 z10_m0_13_0r2] 29 (0, 0)) := E54.heap (not_oth1 sp49) B58
      obtain ⟨m85, hm85, hr⟩ := letv_out hr
      refine W_any [(fun k t => w54.heap.size ≤ k ∧ t = some 30)] [{ V := fun _ v _ => v = (.pointer (some ⟨p0b, p0o, none⟩)) }, { V := fun _ v _ => v = (.pointer (some ⟨p0b, p0o, none⟩)) }, { V := fun _ v _ => v = (.pointer (some ⟨p0b, p0o + 3, none⟩)) }, { V := fun _ v _ => v = (.agg #[.float .f32 p0r3, .float .f32 p0r4, .float .f32 p0r5, .float .f32 p0r6]) }, { V := fun _ v _ => v = (.pointer (some ⟨z10_9_14b, 0, none⟩)) }, { V := fun _ v _ => v = (.float .f32 z10_m0_13_0r0) }, { V := fun _ v _ => v = (.pointer (some ⟨z10_9_14b, 1, none⟩)) }, { V := fun _ v _ => v = (.float .f32 z10_m0_13_0r1) }, { V := fun _ v _ => v = (.pointer (some ⟨z10_9_14b, 2, none⟩)) }, { V := fun _ v _ => v = (.float .f32 z10_m0_13_0r2) }, { V := fun _ v _ => v = (.agg #[.float .f32 0, .float .f32 z10_m0_13_0r0, .float .f32 z10_m0_13_0r1, .float .f32 z10_m0_13_0r2]) }, { V := fun _ v _ => ∃ d81_11_0r0 : Nat, ∃ d81_11_0r1 : Nat, ∃ d81_11_0r2 : Nat, ∃ d81_11_0r3 : Nat, v = (.agg #[.float .f32 d81_11_0r0, .float .f32 d81_11_0r1, .float .f32 d81_11_0r2, .float .f32 d81_11_0r3]) ∧ cn .f32 d81_11_0r0 = m85.w ∧ cn .f32 d81_11_0r1 = m85.x ∧ cn .f32 d81_11_0r2 = m85.y ∧ cn .f32 d81_11_0r3 = m85.z }, { V := fun _ v w' => ∃ d81_12b : Nat, ∃ d81_12c : Array Value, v = (.pointer (some ⟨d81_12b, 0, none⟩)) ∧ w54.heap.size ≤ d81_12b ∧ w'.heap[d81_12b]? = some (.cells d81_12c 30 (0, 0)) ∧ d81_12c.size = 4 }, ⟨fun sg _ w' => ∃ d81_12b : Nat, ∃ d81_11_0r0 : Nat, ∃ d81_11_0r1 : Nat, ∃ d81_11_0r2 : Nat, ∃ d81_11_0r3 : Nat, sg 11 = .pointer (some ⟨d81_12b, 0, none⟩) ∧ w'.heap[d81_12b]? = some (.cells #[.float .f32 d81_11_0r0, .float .f32 d81_11_0r1, .float .f32 d81_11_0r2, .float .f32 d81_11_0r3] 30 (0, 0)) ∧ cn .f32 d81_11_0r0 = m85.w ∧ cn .f32 d81_11_0r1 = m85.x ∧ cn .f32 d81_11_0r2 = m85.y ∧ cn .f32 d81_11_0r3 = m85.z, some 0, fun _ => True⟩] mixed (by kernel_rfl) ⟨trivial, trivial, trivial, trivial, trivial, trivial, trivial, trivial, trivial, trivial, trivial, trivial, trivial, trivial, trivial⟩ ⟨?_, ?_, ?_, ?_, ?_, ?_, ?_, ?_, ?_, ?_, ?_, ?_, ?_, ?_, trivial⟩ ?_
      · skip
        refine ⟨fun _ _ _ _ _ _ h _ => h, fun _ _ h _ => h, fun σ' w' hA hE hD hP => ?_⟩
        have t0 : σ' 0 = .pointer (some ⟨p0b, p0o, none⟩) := (hA 0 rfl).trans s0_54
        have B0_86 : w'.heap[p0b]? = some (.cells p0c p0T p0f) := hE.heap (not_oth1 (not_newT_box B82)) B82
        refine dg_op rfl (d_mv (v := .pointer (some ⟨p0b, p0o, none⟩)) t0 ?_)
        exact ⟨rfl, own_none (Ext.refl w')⟩
      · skip
        refine ⟨fun _ _ _ _ _ _ h _ => h, fun _ _ h _ => h, fun σ' w' hA hE hD hP => ?_⟩
        have t48 : σ' 48 = (.pointer (some ⟨p0b, p0o, none⟩)) := hD 0 rfl
        have B0_87 : w'.heap[p0b]? = some (.cells p0c p0T p0f) := hE.heap (not_oth1 (not_newT_box B82)) B82
        refine dg_op rfl (d_nil t48 ?_)
        exact ⟨rfl, own_none (Ext.refl w')⟩
      · skip
        refine ⟨fun _ _ _ _ _ _ h _ => h, fun _ _ h _ => h, fun σ' w' hA hE hD hP => ?_⟩
        have t49 : σ' 49 = (.pointer (some ⟨p0b, p0o, none⟩)) := hD 1 rfl
        have B0_88 : w'.heap[p0b]? = some (.cells p0c p0T p0f) := hE.heap (not_oth1 (not_newT_box B82)) B82
        refine dg_op rfl (d_fieldAddr t49 (fa32_1 _ _) ?_)
        exact ⟨rfl, own_none (Ext.refl w')⟩
      · skip
        refine ⟨fun _ _ _ _ _ _ h _ => h, fun _ _ h _ => h, fun σ' w' hA hE hD hP => ?_⟩
        have t50 : σ' 50 = (.pointer (some ⟨p0b, p0o + 3, none⟩)) := hD 2 rfl
        have B0_89 : w'.heap[p0b]? = some (.cells p0c p0T p0f) := hE.heap (not_oth1 (not_newT_box B82)) B82
        refine dg_op rfl (d_loads (vs := #[.float .f32 p0r3, .float .f32 p0r4, .float .f32 p0r5, .float .f32 p0r6]) t50 agg30 size30 B0_89 (sub_take (vs := #[.float .f32 p0r0, .float .f32 p0r1, .float .f32 p0r2, .float .f32 p0r3, .float .f32 p0r4, .float .f32 p0r5, .float .f32 p0r6, .float .f32 p0r7, .float .f32 p0r8, .float .f32 p0r9]) (us := #[.float .f32 p0r3, .float .f32 p0r4, .float .f32 p0r5, .float .f32 p0r6]) (i := 3) p0P rfl (Nat.le_of_ble_eq_true rfl)) ?_)
        exact ⟨rfl, own_none (Ext.refl w')⟩
      · skip
        refine ⟨fun _ _ _ _ _ _ h _ => h, fun _ _ h _ => h, fun σ' w' hA hE hD hP => ?_⟩
        have t9 : σ' 9 = .pointer (some ⟨z10_9_14b, 0, none⟩) := (hA 9 rfl).trans s9_54
        have B0_90 : w'.heap[z10_9_14b]? = some (.cells #[.float .f32 z10_m0_13_0r0, .float .f32 z10_m0_13_0r1, .float .f32 z10_m0_13_0r2] 29 (0, 0)) := hE.heap (not_oth1 (not_newT_box B84)) B84
        refine dg_op rfl (d_fieldAddr t9 (fa29_0 _ _) ?_)
        exact ⟨rfl, own_none (Ext.refl w')⟩
      · skip
        refine ⟨fun _ _ _ _ _ _ h _ => h, fun _ _ h _ => h, fun σ' w' hA hE hD hP => ?_⟩
        have t52 : σ' 52 = (.pointer (some ⟨z10_9_14b, 0, none⟩)) := hD 4 rfl
        have B0_91 : w'.heap[z10_9_14b]? = some (.cells #[.float .f32 z10_m0_13_0r0, .float .f32 z10_m0_13_0r1, .float .f32 z10_m0_13_0r2] 29 (0, 0)) := hE.heap (not_oth1 (not_newT_box B84)) B84
        refine dg_op rfl (d_load (v := .float .f32 z10_m0_13_0r0) t52 agg22 B0_91 rfl ?_)
        exact ⟨rfl, own_none (Ext.refl w')⟩
      · skip
        refine ⟨fun _ _ _ _ _ _ h _ => h, fun _ _ h _ => h, fun σ' w' hA hE hD hP => ?_⟩
        have t9 : σ' 9 = .pointer (some ⟨z10_9_14b, 0, none⟩) := (hA 9 rfl).trans s9_54
        have B0_92 : w'.heap[z10_9_14b]? = some (.cells #[.float .f32 z10_m0_13_0r0, .float .f32 z10_m0_13_0r1, .float .f32 z10_m0_13_0r2] 29 (0, 0)) := hE.heap (not_oth1 (not_newT_box B84)) B84
        refine dg_op rfl (d_fieldAddr t9 (fa29_1 _ _) ?_)
        exact ⟨rfl, own_none (Ext.refl w')⟩
      · skip
        refine ⟨fun _ _ _ _ _ _ h _ => h, fun _ _ h _ => h, fun σ' w' hA hE hD hP => ?_⟩
        have t54 : σ' 54 = (.pointer (some ⟨z10_9_14b, 1, none⟩)) := hD 6 rfl
        have B0_93 : w'.heap[z10_9_14b]? = some (.cells #[.float .f32 z10_m0_13_0r0, .float .f32 z10_m0_13_0r1, .float .f32 z10_m0_13_0r2] 29 (0, 0)) := hE.heap (not_oth1 (not_newT_box B84)) B84
        refine dg_op rfl (d_load (v := .float .f32 z10_m0_13_0r1) t54 agg22 B0_93 rfl ?_)
        exact ⟨rfl, own_none (Ext.refl w')⟩
      · skip
        refine ⟨fun _ _ _ _ _ _ h _ => h, fun _ _ h _ => h, fun σ' w' hA hE hD hP => ?_⟩
        have t9 : σ' 9 = .pointer (some ⟨z10_9_14b, 0, none⟩) := (hA 9 rfl).trans s9_54
        have B0_94 : w'.heap[z10_9_14b]? = some (.cells #[.float .f32 z10_m0_13_0r0, .float .f32 z10_m0_13_0r1, .float .f32 z10_m0_13_0r2] 29 (0, 0)) := hE.heap (not_oth1 (not_newT_box B84)) B84
        refine dg_op rfl (d_fieldAddr t9 (fa29_2 _ _) ?_)
        exact ⟨rfl, own_none (Ext.refl w')⟩
      · skip
        refine ⟨fun _ _ _ _ _ _ h _ => h, fun _ _ h _ => h, fun σ' w' hA hE hD hP => ?_⟩
        have t56 : σ' 56 = (.pointer (some ⟨z10_9_14b, 2, none⟩)) := hD 8 rfl
        have B0_95 : w'.heap[z10_9_14b]? = some (.cells #[.float .f32 z10_m0_13_0r0, .float .f32 z10_m0_13_0r1, .float .f32 z10_m0_13_0r2] 29 (0, 0)) := hE.heap (not_oth1 (not_newT_box B84)) B84
        refine dg_op rfl (d_load (v := .float .f32 z10_m0_13_0r2) t56 agg22 B0_95 rfl ?_)
        exact ⟨rfl, own_none (Ext.refl w')⟩
      · skip
        refine ⟨fun _ _ _ _ _ _ h _ => h, fun _ _ h _ => h, fun σ' w' hA hE hD hP => ?_⟩
        have t53 : σ' 53 = (.float .f32 z10_m0_13_0r0) := hD 5 rfl
        have t55 : σ' 55 = (.float .f32 z10_m0_13_0r1) := hD 7 rfl
        have t57 : σ' 57 = (.float .f32 z10_m0_13_0r2) := hD 9 rfl
        refine dg_op rfl (d_bd (vs := [(1, .float .f32 z10_m0_13_0r0), (2, .float .f32 z10_m0_13_0r1), (3, .float .f32 z10_m0_13_0r2)]) (cs := #[.float .f32 0, .float .f32 z10_m0_13_0r0, .float .f32 z10_m0_13_0r1, .float .f32 z10_m0_13_0r2]) (pc t53 (pc t55 (pc t57 rfl))) (by kernel_rfl) ?_)
        exact ⟨rfl, own_none (Ext.refl w')⟩
      · skip
        refine ⟨fun _ _ _ _ _ _ h _ => h, fun _ _ h _ => h, fun σ' w' hA hE hD hP => ?_⟩
        have t51 : σ' 51 = (.agg #[.float .f32 p0r3, .float .f32 p0r4, .float .f32 p0r5, .float .f32 p0r6]) := hD 3 rfl
        have t58 : σ' 58 = (.agg #[.float .f32 0, .float .f32 z10_m0_13_0r0, .float .f32 z10_m0_13_0r1, .float .f32 z10_m0_13_0r2]) := hD 10 rfl
        refine dg_op rfl (d_cl (vs := [.agg #[.float .f32 p0r3, .float .f32 p0r4, .float .f32 p0r5, .float .f32 p0r6], .agg #[.float .f32 0, .float .f32 z10_m0_13_0r0, .float .f32 z10_m0_13_0r1, .float .f32 z10_m0_13_0r2]]) en90 (ac t51 (ac t58 rfl)) rfl ?_)
        refine (c90 (⟨p0.turn.w, p0.turn.x, p0.turn.y, p0.turn.z⟩ : SSpin) (⟨0, m16.x, m16.y, m16.z⟩ : SSpin) p0r3 p0r4 p0r5 p0r6 0 z10_m0_13_0r0 z10_m0_13_0r1 z10_m0_13_0r2 m85 w' hm85 p0h3 p0h4 p0h5 p0h6 cn_f32_0 z10_m0_13_0h0 z10_m0_13_0h1 z10_m0_13_0h2).mono ?_
        rintro _ w96 ⟨q96_0r0, q96_0r1, q96_0r2, q96_0r3, rfl, q96_0h0, q96_0h1, q96_0h2, q96_0h3, E96⟩
        refine ⟨_, rfl, ?_⟩
        have X97 : Ext w' w96 := (Ext.refl w').trans E96
        exact ⟨⟨q96_0r0, q96_0r1, q96_0r2, q96_0r3, rfl, q96_0h0, q96_0h1, q96_0h2, q96_0h3⟩, own_none X97⟩
      · skip
        refine ⟨fun _ _ _ w' w'' _ ⟨d81_12b, d81_12c, hv, d81_12ble, d81_12bB, d81_12bZ⟩ hF => let ⟨c2, hB2, hZ2⟩ := hF.shape _ _ _ _ d81_12bB; ⟨d81_12b, c2, hv, d81_12ble, hB2, (hZ2.trans d81_12bZ)⟩, fun _ _ h _ => h, fun σ' w' hA hE hD hP => ?_⟩
        refine dg_op rfl (d_alloc (cs := #[.float .f32 0, .float .f32 0, .float .f32 0, .float .f32 0]) zero30 rfl fun w98 B98 E98 => ?_)
        have X100 : Ext w' w98 := (Ext.refl w').trans E98
        exact ⟨⟨w'.heap.size, #[.float .f32 0, .float .f32 0, .float .f32 0, .float .f32 0], rfl, hE.size, B98, rfl⟩, own_none X100⟩
      · skip
        refine ⟨fun _ _ _ w' w'' hs ⟨d81_12b, d81_11_0r0, d81_11_0r1, d81_11_0r2, d81_11_0r3, hb, hB, d81_11_0h0, d81_11_0h1, d81_11_0h2, d81_11_0h3⟩ hF => ⟨d81_12b, d81_11_0r0, d81_11_0r1, d81_11_0r2, d81_11_0r3, (hs 12 rfl).trans hb, hF.heap not_oth1s hB, d81_11_0h0, d81_11_0h1, d81_11_0h2, d81_11_0h3⟩, fun _ _ h _ => h, fun σ' w' hA hE hD hP => ?_⟩
        obtain ⟨d81_12b, d81_12c, t11, d81_12ble, d81_12bB, d81_12bZ⟩ : ∃ d81_12b : Nat, ∃ d81_12c : Array Value, σ' 11 = (.pointer (some ⟨d81_12b, 0, none⟩)) ∧ w54.heap.size ≤ d81_12b ∧ w'.heap[d81_12b]? = some (.cells d81_12c 30 (0, 0)) ∧ d81_12c.size = 4 := hD 12 rfl
        obtain ⟨d81_11_0r0, d81_11_0r1, d81_11_0r2, d81_11_0r3, t59, d81_11_0h0, d81_11_0h1, d81_11_0h2, d81_11_0h3⟩ : ∃ d81_11_0r0 : Nat, ∃ d81_11_0r1 : Nat, ∃ d81_11_0r2 : Nat, ∃ d81_11_0r3 : Nat, σ' 59 = (.agg #[.float .f32 d81_11_0r0, .float .f32 d81_11_0r1, .float .f32 d81_11_0r2, .float .f32 d81_11_0r3]) ∧ cn .f32 d81_11_0r0 = m85.w ∧ cn .f32 d81_11_0r1 = m85.x ∧ cn .f32 d81_11_0r2 = m85.y ∧ cn .f32 d81_11_0r3 = m85.z := hD 11 rfl
        refine dg_op rfl (d_store_new (vs := #[.float .f32 d81_11_0r0, .float .f32 d81_11_0r1, .float .f32 d81_11_0r2, .float .f32 d81_11_0r3]) t11 (congrArg Value.cells t59) d81_12bB d81_12bZ size30 rfl rfl fun w101 S101 => ?_)
        exact ⟨⟨d81_12b, d81_11_0r0, d81_11_0r1, d81_11_0r2, d81_11_0r3, t11, S101.here, d81_11_0h0, d81_11_0h1, d81_11_0h2, d81_11_0h3⟩, own_some (j := 0) rfl (S101.frm.mono (fun k t h => ⟨h.1 ▸ d81_12ble, h.2⟩))⟩
      · skip
        intro σ81 w81 A81 E81 V81
        obtain ⟨z81_11_12b, z81_11_12c, s11_81, z81_11_12ble, z81_11_12bB, z81_11_12bZ⟩ : ∃ z81_11_12b : Nat, ∃ z81_11_12c : Array Value, σ81 11 = (.pointer (some ⟨z81_11_12b, 0, none⟩)) ∧ w54.heap.size ≤ z81_11_12b ∧ w81.heap[z81_11_12b]? = some (.cells z81_11_12c 30 (0, 0)) ∧ z81_11_12c.size = 4 := V81 12 (Nat.le_of_ble_eq_true rfl)
        obtain ⟨z81_m0_12b, z81_m0_11_0r0, z81_m0_11_0r1, z81_m0_11_0r2, z81_m0_11_0r3, hbn81, hBn81, z81_m0_11_0h0, z81_m0_11_0h1, z81_m0_11_0h2, z81_m0_11_0h3⟩ : ∃ z81_m0_12b : Nat, ∃ z81_m0_11_0r0 : Nat, ∃ z81_m0_11_0r1 : Nat, ∃ z81_m0_11_0r2 : Nat, ∃ z81_m0_11_0r3 : Nat, σ81 11 = .pointer (some ⟨z81_m0_12b, 0, none⟩) ∧ w81.heap[z81_m0_12b]? = some (.cells #[.float .f32 z81_m0_11_0r0, .float .f32 z81_m0_11_0r1, .float .f32 z81_m0_11_0r2, .float .f32 z81_m0_11_0r3] 30 (0, 0)) ∧ cn .f32 z81_m0_11_0r0 = m85.w ∧ cn .f32 z81_m0_11_0r1 = m85.x ∧ cn .f32 z81_m0_11_0r2 = m85.y ∧ cn .f32 z81_m0_11_0r3 = m85.z := V81 13 (Nat.le_of_ble_eq_true rfl)
        have hen81 : z81_m0_12b = z81_11_12b := by have := hbn81.symm.trans s11_81; simp only [Value.pointer.injEq, Option.some.injEq, Addr.mk.injEq] at this; exact this.1
        rw [hen81] at hBn81
        have own102 : w.heap.size ≤ z81_11_12b := Nat.le_trans X80.size z81_11_12ble
        have sp103 : w1.heap.size ≠ z81_11_12b := Nat.ne_of_lt (Nat.lt_of_lt_of_le (lt_heap B83) z81_11_12ble)
        have sp104 : z10_9_14b ≠ z81_11_12b := Nat.ne_of_lt (Nat.lt_of_lt_of_le (lt_heap B84) z81_11_12ble)
        have sp105 : w10.heap.size ≠ z81_11_12b := Nat.ne_of_lt (Nat.lt_of_lt_of_le (lt_heap Bm0_54) z81_11_12ble)
        have s0_81 : σ81 0 = .pointer (some ⟨p0b, p0o, none⟩) := (A81 0 rfl).trans s0_54
        have s6_81 : σ81 6 = .pointer (some ⟨w1.heap.size, 0, none⟩) := (A81 6 rfl).trans s6_54
        have s8_81 : σ81 8 = .float .f32 r8 := (A81 8 rfl).trans s8_54
        have s10_81 : σ81 10 = .pointer (some ⟨w10.heap.size, 0, none⟩) := (A81 10 rfl).trans s10_54
        have X106 : Ext w w81 := Ext.step X80 E81 (oth_own1 (fun k _ hk => Nat.le_trans X80.size hk.1))
        refine W_seq ?_
        have B108 : w81.heap[p0b]? = some (.cells p0c p0T p0f) := X106.heap p0B
        have B109 : w81.heap[w1.heap.size]? = some (.cells #[.float .f32 0, .float .f32 0, .float .f32 0, .float .f32 0, .float .f32 0, .float .f32 0, .float .f32 0, .float .f32 0, .float .f32 0, .float .f32 0] 32 (0, 0)) := E81.heap (not_oth1 (not_newT_box B83)) B83
        have B110 : w81.heap[w10.heap.size]? = some (.cells #[.float .f32 p0r0, .float .f32 p0r1, .float .f32 p0r2, .float .f32 0, .float .f32 0, .float .f32 0, .float .f32 0, .float .f32 z54_m0_10_0r0, .float .f32 z54_m0_10_0r1, .float .f32 z54_m0_10_0r2] 32 (0, 0)) := E81.heap (not_oth1 (not_newT_box Bm0_54)) Bm0_54
        refine W_any [(fun k t => w81.heap.size ≤ k ∧ t = some 30)] [{ V := fun _ v _ => v = (.pointer (some ⟨p0b, p0o, none⟩)) }, { V := fun _ v _ => v = (.pointer (some ⟨p0b, p0o, none⟩)) }, { V := fun _ v _ => v = (.pointer (some ⟨p0b, p0o + 3, none⟩)) }, { V := fun _ v _ => v = (.pointer (some ⟨p0b, p0o + 3, none⟩)) }, { V := fun _ v _ => v = (.float .f32 p0r3) }, { V := fun _ v _ => v = (.float .f32 r8) }, { V := fun _ v _ => v = (.pointer (some ⟨z81_11_12b, 0, none⟩)) }, { V := fun _ v _ => v = (.float .f32 z81_m0_11_0r0) }, { V := fun _ v _ => ∃ d107_8r : Nat, v = (.float .f32 d107_8r) ∧ cn .f32 d107_8r = (fop .mul .f32 (fop .mul .f32 1056964608 p2) m85.w) }, { V := fun _ v _ => ∃ d107_9r : Nat, v = (.float .f32 d107_9r) ∧ cn .f32 d107_9r = (fop .add .f32 p0.turn.w (fop .mul .f32 (fop .mul .f32 1056964608 p2) m85.w)) }, { V := fun _ v _ => v = (.pointer (some ⟨p0b, p0o, none⟩)) }, { V := fun _ v _ => v = (.pointer (some ⟨p0b, p0o, none⟩)) }, { V := fun _ v _ => v = (.pointer (some ⟨p0b, p0o + 3, none⟩)) }, { V := fun _ v _ => v = (.pointer (some ⟨p0b, p0o + 4, none⟩)) }, { V := fun _ v _ => v = (.float .f32 p0r4) }, { V := fun _ v _ => v = (.float .f32 r8) }, { V := fun _ v _ => v = (.pointer (some ⟨z81_11_12b, 1, none⟩)) }, { V := fun _ v _ => v = (.float .f32 z81_m0_11_0r1) }, { V := fun _ v _ => ∃ d107_18r : Nat, v = (.float .f32 d107_18r) ∧ cn .f32 d107_18r = (fop .mul .f32 (fop .mul .f32 1056964608 p2) m85.x) }, { V := fun _ v _ => ∃ d107_19r : Nat, v = (.float .f32 d107_19r) ∧ cn .f32 d107_19r = (fop .add .f32 p0.turn.x (fop .mul .f32 (fop .mul .f32 1056964608 p2) m85.x)) }, { V := fun _ v _ => ∃ d107_9r : Nat, ∃ d107_19r : Nat, v = (.agg #[.float .f32 d107_9r, .float .f32 d107_19r, .float .f32 0, .float .f32 0]) ∧ cn .f32 d107_9r = (fop .add .f32 p0.turn.w (fop .mul .f32 (fop .mul .f32 1056964608 p2) m85.w)) ∧ cn .f32 d107_19r = (fop .add .f32 p0.turn.x (fop .mul .f32 (fop .mul .f32 1056964608 p2) m85.x)) }, { V := fun _ v w' => ∃ d107_21b : Nat, ∃ d107_21c : Array Value, v = (.pointer (some ⟨d107_21b, 0, none⟩)) ∧ w81.heap.size ≤ d107_21b ∧ w'.heap[d107_21b]? = some (.cells d107_21c 30 (0, 0)) ∧ d107_21c.size = 4 }, ⟨fun sg _ w' => ∃ d107_21b : Nat, ∃ d107_9r : Nat, ∃ d107_19r : Nat, sg 12 = .pointer (some ⟨d107_21b, 0, none⟩) ∧ w'.heap[d107_21b]? = some (.cells #[.float .f32 d107_9r, .float .f32 d107_19r, .float .f32 0, .float .f32 0] 30 (0, 0)) ∧ cn .f32 d107_9r = (fop .add .f32 p0.turn.w (fop .mul .f32 (fop .mul .f32 1056964608 p2) m85.w)) ∧ cn .f32 d107_19r = (fop .add .f32 p0.turn.x (fop .mul .f32 (fop .mul .f32 1056964608 p2) m85.x)), some 0, fun _ => True⟩] mixed (by kernel_rfl) ⟨trivial, trivial, trivial, trivial, trivial, trivial, trivial, trivial, trivial, trivial, trivial, trivial, trivial, trivial, trivial, trivial, trivial, trivial, trivial, trivial, trivial, trivial, trivial, trivial⟩ ⟨?_, ?_, ?_, ?_, ?_, ?_, ?_, ?_, ?_, ?_, ?_, ?_, ?_, ?_, ?_, ?_, ?_, ?_, ?_, ?_, ?_, ?_, ?_, trivial⟩ ?_
        · skip
          refine ⟨fun _ _ _ _ _ _ h _ => h, fun _ _ h _ => h, fun σ' w' hA hE hD hP => ?_⟩
          have t0 : σ' 0 = .pointer (some ⟨p0b, p0o, none⟩) := (hA 0 rfl).trans s0_81
          have B0_111 : w'.heap[p0b]? = some (.cells p0c p0T p0f) := hE.heap (not_oth1 (not_newT_box B108)) B108
          refine dg_op rfl (d_mv (v := .pointer (some ⟨p0b, p0o, none⟩)) t0 ?_)
          exact ⟨rfl, own_none (Ext.refl w')⟩
        · skip
          refine ⟨fun _ _ _ _ _ _ h _ => h, fun _ _ h _ => h, fun σ' w' hA hE hD hP => ?_⟩
          have t60 : σ' 60 = (.pointer (some ⟨p0b, p0o, none⟩)) := hD 0 rfl
          have B0_112 : w'.heap[p0b]? = some (.cells p0c p0T p0f) := hE.heap (not_oth1 (not_newT_box B108)) B108
          refine dg_op rfl (d_nil t60 ?_)
          exact ⟨rfl, own_none (Ext.refl w')⟩
        · skip
          refine ⟨fun _ _ _ _ _ _ h _ => h, fun _ _ h _ => h, fun σ' w' hA hE hD hP => ?_⟩
          have t61 : σ' 61 = (.pointer (some ⟨p0b, p0o, none⟩)) := hD 1 rfl
          have B0_113 : w'.heap[p0b]? = some (.cells p0c p0T p0f) := hE.heap (not_oth1 (not_newT_box B108)) B108
          refine dg_op rfl (d_fieldAddr t61 (fa32_1 _ _) ?_)
          exact ⟨rfl, own_none (Ext.refl w')⟩
        · skip
          refine ⟨fun _ _ _ _ _ _ h _ => h, fun _ _ h _ => h, fun σ' w' hA hE hD hP => ?_⟩
          have t62 : σ' 62 = (.pointer (some ⟨p0b, p0o + 3, none⟩)) := hD 2 rfl
          have B0_114 : w'.heap[p0b]? = some (.cells p0c p0T p0f) := hE.heap (not_oth1 (not_newT_box B108)) B108
          refine dg_op rfl (d_fieldAddr t62 (fa30_0 _ _) ?_)
          exact ⟨rfl, own_none (Ext.refl w')⟩
        · skip
          refine ⟨fun _ _ _ _ _ _ h _ => h, fun _ _ h _ => h, fun σ' w' hA hE hD hP => ?_⟩
          have t63 : σ' 63 = (.pointer (some ⟨p0b, p0o + 3, none⟩)) := hD 3 rfl
          have B0_115 : w'.heap[p0b]? = some (.cells p0c p0T p0f) := hE.heap (not_oth1 (not_newT_box B108)) B108
          refine dg_op rfl (d_load (v := .float .f32 p0r3) t63 agg22 B0_115 (sub_get (vs := #[.float .f32 p0r0, .float .f32 p0r1, .float .f32 p0r2, .float .f32 p0r3, .float .f32 p0r4, .float .f32 p0r5, .float .f32 p0r6, .float .f32 p0r7, .float .f32 p0r8, .float .f32 p0r9]) p0P (i := 3) rfl) ?_)
          exact ⟨rfl, own_none (Ext.refl w')⟩
        · skip
          refine ⟨fun _ _ _ _ _ _ h _ => h, fun _ _ h _ => h, fun σ' w' hA hE hD hP => ?_⟩
          have t8 : σ' 8 = .float .f32 r8 := (hA 8 rfl).trans s8_81
          refine dg_op rfl (d_mv (v := .float .f32 r8) t8 ?_)
          exact ⟨rfl, own_none (Ext.refl w')⟩
        · skip
          refine ⟨fun _ _ _ _ _ _ h _ => h, fun _ _ h _ => h, fun σ' w' hA hE hD hP => ?_⟩
          have t11 : σ' 11 = .pointer (some ⟨z81_11_12b, 0, none⟩) := (hA 11 rfl).trans s11_81
          have B0_116 : w'.heap[z81_11_12b]? = some (.cells #[.float .f32 z81_m0_11_0r0, .float .f32 z81_m0_11_0r1, .float .f32 z81_m0_11_0r2, .float .f32 z81_m0_11_0r3] 30 (0, 0)) := hE.heap (not_oth1 (not_newT_box hBn81)) hBn81
          refine dg_op rfl (d_fieldAddr t11 (fa30_0 _ _) ?_)
          exact ⟨rfl, own_none (Ext.refl w')⟩
        · skip
          refine ⟨fun _ _ _ _ _ _ h _ => h, fun _ _ h _ => h, fun σ' w' hA hE hD hP => ?_⟩
          have t66 : σ' 66 = (.pointer (some ⟨z81_11_12b, 0, none⟩)) := hD 6 rfl
          have B0_117 : w'.heap[z81_11_12b]? = some (.cells #[.float .f32 z81_m0_11_0r0, .float .f32 z81_m0_11_0r1, .float .f32 z81_m0_11_0r2, .float .f32 z81_m0_11_0r3] 30 (0, 0)) := hE.heap (not_oth1 (not_newT_box hBn81)) hBn81
          refine dg_op rfl (d_load (v := .float .f32 z81_m0_11_0r0) t66 agg22 B0_117 rfl ?_)
          exact ⟨rfl, own_none (Ext.refl w')⟩
        · skip
          refine ⟨fun _ _ _ _ _ _ h _ => h, fun _ _ h _ => h, fun σ' w' hA hE hD hP => ?_⟩
          have t65 : σ' 65 = (.float .f32 r8) := hD 5 rfl
          have t67 : σ' 67 = (.float .f32 z81_m0_11_0r0) := hD 7 rfl
          refine dg_op rfl (d_fop (k := .f32) fMul t65 t67 h8 z81_m0_11_0h0 fun r118 w118 h118 _ E118 => ?_)
          have X119 : Ext w' w118 := (Ext.refl w').trans E118
          exact ⟨⟨r118, rfl, h118⟩, own_none X119⟩
        · skip
          refine ⟨fun _ _ _ _ _ _ h _ => h, fun _ _ h _ => h, fun σ' w' hA hE hD hP => ?_⟩
          have t64 : σ' 64 = (.float .f32 p0r3) := hD 4 rfl
          obtain ⟨d107_8r, t68, d107_8h⟩ : ∃ d107_8r : Nat, σ' 68 = (.float .f32 d107_8r) ∧ cn .f32 d107_8r = (fop .mul .f32 (fop .mul .f32 1056964608 p2) m85.w) := hD 8 rfl
          refine dg_op rfl (d_fop (k := .f32) fAdd t64 t68 p0h3 d107_8h fun r120 w120 h120 _ E120 => ?_)
          have X121 : Ext w' w120 := (Ext.refl w').trans E120
          exact ⟨⟨r120, rfl, h120⟩, own_none X121⟩
        · skip
          refine ⟨fun _ _ _ _ _ _ h _ => h, fun _ _ h _ => h, fun σ' w' hA hE hD hP => ?_⟩
          have t0 : σ' 0 = .pointer (some ⟨p0b, p0o, none⟩) := (hA 0 rfl).trans s0_81
          have B0_122 : w'.heap[p0b]? = some (.cells p0c p0T p0f) := hE.heap (not_oth1 (not_newT_box B108)) B108
          refine dg_op rfl (d_mv (v := .pointer (some ⟨p0b, p0o, none⟩)) t0 ?_)
          exact ⟨rfl, own_none (Ext.refl w')⟩
        · skip
          refine ⟨fun _ _ _ _ _ _ h _ => h, fun _ _ h _ => h, fun σ' w' hA hE hD hP => ?_⟩
          have t70 : σ' 70 = (.pointer (some ⟨p0b, p0o, none⟩)) := hD 10 rfl
          have B0_123 : w'.heap[p0b]? = some (.cells p0c p0T p0f) := hE.heap (not_oth1 (not_newT_box B108)) B108
          refine dg_op rfl (d_nil t70 ?_)
          exact ⟨rfl, own_none (Ext.refl w')⟩
        · skip
          refine ⟨fun _ _ _ _ _ _ h _ => h, fun _ _ h _ => h, fun σ' w' hA hE hD hP => ?_⟩
          have t71 : σ' 71 = (.pointer (some ⟨p0b, p0o, none⟩)) := hD 11 rfl
          have B0_124 : w'.heap[p0b]? = some (.cells p0c p0T p0f) := hE.heap (not_oth1 (not_newT_box B108)) B108
          refine dg_op rfl (d_fieldAddr t71 (fa32_1 _ _) ?_)
          exact ⟨rfl, own_none (Ext.refl w')⟩
        · skip
          refine ⟨fun _ _ _ _ _ _ h _ => h, fun _ _ h _ => h, fun σ' w' hA hE hD hP => ?_⟩
          have t72 : σ' 72 = (.pointer (some ⟨p0b, p0o + 3, none⟩)) := hD 12 rfl
          have B0_125 : w'.heap[p0b]? = some (.cells p0c p0T p0f) := hE.heap (not_oth1 (not_newT_box B108)) B108
          refine dg_op rfl (d_fieldAddr t72 (fa30_1 _ _) ?_)
          exact ⟨rfl, own_none (Ext.refl w')⟩
        · skip
          refine ⟨fun _ _ _ _ _ _ h _ => h, fun _ _ h _ => h, fun σ' w' hA hE hD hP => ?_⟩
          have t73 : σ' 73 = (.pointer (some ⟨p0b, p0o + 4, none⟩)) := hD 13 rfl
          have B0_126 : w'.heap[p0b]? = some (.cells p0c p0T p0f) := hE.heap (not_oth1 (not_newT_box B108)) B108
          refine dg_op rfl (d_load (v := .float .f32 p0r4) t73 agg22 B0_126 (sub_get (vs := #[.float .f32 p0r0, .float .f32 p0r1, .float .f32 p0r2, .float .f32 p0r3, .float .f32 p0r4, .float .f32 p0r5, .float .f32 p0r6, .float .f32 p0r7, .float .f32 p0r8, .float .f32 p0r9]) p0P (i := 4) rfl) ?_)
          exact ⟨rfl, own_none (Ext.refl w')⟩
        · skip
          refine ⟨fun _ _ _ _ _ _ h _ => h, fun _ _ h _ => h, fun σ' w' hA hE hD hP => ?_⟩
          have t8 : σ' 8 = .float .f32 r8 := (hA 8 rfl).trans s8_81
          refine dg_op rfl (d_mv (v := .float .f32 r8) t8 ?_)
          exact ⟨rfl, own_none (Ext.refl w')⟩
        · skip
          refine ⟨fun _ _ _ _ _ _ h _ => h, fun _ _ h _ => h, fun σ' w' hA hE hD hP => ?_⟩
          have t11 : σ' 11 = .pointer (some ⟨z81_11_12b, 0, none⟩) := (hA 11 rfl).trans s11_81
          have B0_127 : w'.heap[z81_11_12b]? = some (.cells #[.float .f32 z81_m0_11_0r0, .float .f32 z81_m0_11_0r1, .float .f32 z81_m0_11_0r2, .float .f32 z81_m0_11_0r3] 30 (0, 0)) := hE.heap (not_oth1 (not_newT_box hBn81)) hBn81
          refine dg_op rfl (d_fieldAddr t11 (fa30_1 _ _) ?_)
          exact ⟨rfl, own_none (Ext.refl w')⟩
        · skip
          refine ⟨fun _ _ _ _ _ _ h _ => h, fun _ _ h _ => h, fun σ' w' hA hE hD hP => ?_⟩
          have t76 : σ' 76 = (.pointer (some ⟨z81_11_12b, 1, none⟩)) := hD 16 rfl
          have B0_128 : w'.heap[z81_11_12b]? = some (.cells #[.float .f32 z81_m0_11_0r0, .float .f32 z81_m0_11_0r1, .float .f32 z81_m0_11_0r2, .float .f32 z81_m0_11_0r3] 30 (0, 0)) := hE.heap (not_oth1 (not_newT_box hBn81)) hBn81
          refine dg_op rfl (d_load (v := .float .f32 z81_m0_11_0r1) t76 agg22 B0_128 rfl ?_)
          exact ⟨rfl, own_none (Ext.refl w')⟩
        · skip
          refine ⟨fun _ _ _ _ _ _ h _ => h, fun _ _ h _ => h, fun σ' w' hA hE hD hP => ?_⟩
          have t75 : σ' 75 = (.float .f32 r8) := hD 15 rfl
          have t77 : σ' 77 = (.float .f32 z81_m0_11_0r1) := hD 17 rfl
          refine dg_op rfl (d_fop (k := .f32) fMul t75 t77 h8 z81_m0_11_0h1 fun r129 w129 h129 _ E129 => ?_)
          have X130 : Ext w' w129 := (Ext.refl w').trans E129
          exact ⟨⟨r129, rfl, h129⟩, own_none X130⟩
        · skip
          refine ⟨fun _ _ _ _ _ _ h _ => h, fun _ _ h _ => h, fun σ' w' hA hE hD hP => ?_⟩
          have t74 : σ' 74 = (.float .f32 p0r4) := hD 14 rfl
          obtain ⟨d107_18r, t78, d107_18h⟩ : ∃ d107_18r : Nat, σ' 78 = (.float .f32 d107_18r) ∧ cn .f32 d107_18r = (fop .mul .f32 (fop .mul .f32 1056964608 p2) m85.x) := hD 18 rfl
          refine dg_op rfl (d_fop (k := .f32) fAdd t74 t78 p0h4 d107_18h fun r131 w131 h131 _ E131 => ?_)
          have X132 : Ext w' w131 := (Ext.refl w').trans E131
          exact ⟨⟨r131, rfl, h131⟩, own_none X132⟩
        · skip
          refine ⟨fun _ _ _ _ _ _ h _ => h, fun _ _ h _ => h, fun σ' w' hA hE hD hP => ?_⟩
          obtain ⟨d107_9r, t69, d107_9h⟩ : ∃ d107_9r : Nat, σ' 69 = (.float .f32 d107_9r) ∧ cn .f32 d107_9r = (fop .add .f32 p0.turn.w (fop .mul .f32 (fop .mul .f32 1056964608 p2) m85.w)) := hD 9 rfl
          obtain ⟨d107_19r, t79, d107_19h⟩ : ∃ d107_19r : Nat, σ' 79 = (.float .f32 d107_19r) ∧ cn .f32 d107_19r = (fop .add .f32 p0.turn.x (fop .mul .f32 (fop .mul .f32 1056964608 p2) m85.x)) := hD 19 rfl
          refine dg_op rfl (d_bd (vs := [(0, .float .f32 d107_9r), (1, .float .f32 d107_19r)]) (cs := #[.float .f32 d107_9r, .float .f32 d107_19r, .float .f32 0, .float .f32 0]) (pc t69 (pc t79 rfl)) (by kernel_rfl) ?_)
          exact ⟨⟨d107_9r, d107_19r, rfl, d107_9h, d107_19h⟩, own_none (Ext.refl w')⟩
        · skip
          refine ⟨fun _ _ _ w' w'' _ ⟨d107_21b, d107_21c, hv, d107_21ble, d107_21bB, d107_21bZ⟩ hF => let ⟨c2, hB2, hZ2⟩ := hF.shape _ _ _ _ d107_21bB; ⟨d107_21b, c2, hv, d107_21ble, hB2, (hZ2.trans d107_21bZ)⟩, fun _ _ h _ => h, fun σ' w' hA hE hD hP => ?_⟩
          refine dg_op rfl (d_alloc (cs := #[.float .f32 0, .float .f32 0, .float .f32 0, .float .f32 0]) zero30 rfl fun w133 B133 E133 => ?_)
          have X135 : Ext w' w133 := (Ext.refl w').trans E133
          exact ⟨⟨w'.heap.size, #[.float .f32 0, .float .f32 0, .float .f32 0, .float .f32 0], rfl, hE.size, B133, rfl⟩, own_none X135⟩
        · skip
          refine ⟨fun _ _ _ w' w'' hs ⟨d107_21b, d107_9r, d107_19r, hb, hB, d107_9h, d107_19h⟩ hF => ⟨d107_21b, d107_9r, d107_19r, (hs 21 rfl).trans hb, hF.heap not_oth1s hB, d107_9h, d107_19h⟩, fun _ _ h _ => h, fun σ' w' hA hE hD hP => ?_⟩
          obtain ⟨d107_21b, d107_21c, t12, d107_21ble, d107_21bB, d107_21bZ⟩ : ∃ d107_21b : Nat, ∃ d107_21c : Array Value, σ' 12 = (.pointer (some ⟨d107_21b, 0, none⟩)) ∧ w81.heap.size ≤ d107_21b ∧ w'.heap[d107_21b]? = some (.cells d107_21c 30 (0, 0)) ∧ d107_21c.size = 4 := hD 21 rfl
          obtain ⟨d107_9r, d107_19r, t80, d107_9h, d107_19h⟩ : ∃ d107_9r : Nat, ∃ d107_19r : Nat, σ' 80 = (.agg #[.float .f32 d107_9r, .float .f32 d107_19r, .float .f32 0, .float .f32 0]) ∧ cn .f32 d107_9r = (fop .add .f32 p0.turn.w (fop .mul .f32 (fop .mul .f32 1056964608 p2) m85.w)) ∧ cn .f32 d107_19r = (fop .add .f32 p0.turn.x (fop .mul .f32 (fop .mul .f32 1056964608 p2) m85.x)) := hD 20 rfl
          refine dg_op rfl (d_store_new (vs := #[.float .f32 d107_9r, .float .f32 d107_19r, .float .f32 0, .float .f32 0]) t12 (congrArg Value.cells t80) d107_21bB d107_21bZ size30 rfl rfl fun w136 S136 => ?_)
          exact ⟨⟨d107_21b, d107_9r, d107_19r, t12, S136.here, d107_9h, d107_19h⟩, own_some (j := 0) rfl (S136.frm.mono (fun k t h => ⟨h.1 ▸ d107_21ble, h.2⟩))⟩
        · skip
          intro σ107 w107 A107 E107 V107
          obtain ⟨z107_12_21b, z107_12_21c, s12_107, z107_12_21ble, z107_12_21bB, z107_12_21bZ⟩ : ∃ z107_12_21b : Nat, ∃ z107_12_21c : Array Value, σ107 12 = (.pointer (some ⟨z107_12_21b, 0, none⟩)) ∧ w81.heap.size ≤ z107_12_21b ∧ w107.heap[z107_12_21b]? = some (.cells z107_12_21c 30 (0, 0)) ∧ z107_12_21c.size = 4 := V107 21 (Nat.le_of_ble_eq_true rfl)
          obtain ⟨z107_m0_21b, z107_m0_9r, z107_m0_19r, hbn107, hBn107, z107_m0_9h, z107_m0_19h⟩ : ∃ z107_m0_21b : Nat, ∃ z107_m0_9r : Nat, ∃ z107_m0_19r : Nat, σ107 12 = .pointer (some ⟨z107_m0_21b, 0, none⟩) ∧ w107.heap[z107_m0_21b]? = some (.cells #[.float .f32 z107_m0_9r, .float .f32 z107_m0_19r, .float .f32 0, .float .f32 0] 30 (0, 0)) ∧ cn .f32 z107_m0_9r = (fop .add .f32 p0.turn.w (fop .mul .f32 (fop .mul .f32 1056964608 p2) m85.w)) ∧ cn .f32 z107_m0_19r = (fop .add .f32 p0.turn.x (fop .mul .f32 (fop .mul .f32 1056964608 p2) m85.x)) := V107 22 (Nat.le_of_ble_eq_true rfl)
          have hen107 : z107_m0_21b = z107_12_21b := by have := hbn107.symm.trans s12_107; simp only [Value.pointer.injEq, Option.some.injEq, Addr.mk.injEq] at this; exact this.1
          rw [hen107] at hBn107
          have own137 : w.heap.size ≤ z107_12_21b := Nat.le_trans X106.size z107_12_21ble
          have sp138 : w1.heap.size ≠ z107_12_21b := Nat.ne_of_lt (Nat.lt_of_lt_of_le (lt_heap B109) z107_12_21ble)
          have sp139 : w10.heap.size ≠ z107_12_21b := Nat.ne_of_lt (Nat.lt_of_lt_of_le (lt_heap B110) z107_12_21ble)
          have sp140 : z81_11_12b ≠ z107_12_21b := Nat.ne_of_lt (Nat.lt_of_lt_of_le (lt_heap hBn81) z107_12_21ble)
          have s0_107 : σ107 0 = .pointer (some ⟨p0b, p0o, none⟩) := (A107 0 rfl).trans s0_81
          have s6_107 : σ107 6 = .pointer (some ⟨w1.heap.size, 0, none⟩) := (A107 6 rfl).trans s6_81
          have s8_107 : σ107 8 = .float .f32 r8 := (A107 8 rfl).trans s8_81
          have s10_107 : σ107 10 = .pointer (some ⟨w10.heap.size, 0, none⟩) := (A107 10 rfl).trans s10_81
          have s11_107 : σ107 11 = .pointer (some ⟨z81_11_12b, 0, none⟩) := (A107 11 rfl).trans s11_81
          have X141 : Ext w w107 := Ext.step X106 E107 (oth_own1 (fun k _ hk => Nat.le_trans X106.size hk.1))
          refine W_seq ?_
          have B143 : w107.heap[p0b]? = some (.cells p0c p0T p0f) := X141.heap p0B
          have B144 : w107.heap[w1.heap.size]? = some (.cells #[.float .f32 0, .float .f32 0, .float .f32 0, .float .f32 0, .float .f32 0, .float .f32 0, .float .f32 0, .float .f32 0, .float .f32 0, .float .f32 0] 32 (0, 0)) := E107.heap (not_oth1 (not_newT_box B109)) B109
          have B145 : w107.heap[w10.heap.size]? = some (.cells #[.float .f32 p0r0, .float .f32 p0r1, .float .f32 p0r2, .float .f32 0, .float .f32 0, .float .f32 0, .float .f32 0, .float .f32 z54_m0_10_0r0, .float .f32 z54_m0_10_0r1, .float .f32 z54_m0_10_0r2] 32 (0, 0)) := E107.heap (not_oth1 (not_newT_box B110)) B110
          have B146 : w107.heap[z81_11_12b]? = some (.cells #[.float .f32 z81_m0_11_0r0, .float .f32 z81_m0_11_0r1, .float .f32 z81_m0_11_0r2, .float .f32 z81_m0_11_0r3] 30 (0, 0)) := E107.heap (not_oth1 (not_newT_box hBn81)) hBn81
          refine W_any [fun k _ => k = z107_12_21b] [{ V := fun _ v _ => v = (.pointer (some ⟨p0b, p0o, none⟩)) }, { V := fun _ v _ => v = (.pointer (some ⟨p0b, p0o, none⟩)) }, { V := fun _ v _ => v = (.pointer (some ⟨p0b, p0o + 3, none⟩)) }, { V := fun _ v _ => v = (.pointer (some ⟨p0b, p0o + 5, none⟩)) }, { V := fun _ v _ => v = (.float .f32 p0r5) }, { V := fun _ v _ => v = (.float .f32 r8) }, { V := fun _ v _ => v = (.pointer (some ⟨z81_11_12b, 2, none⟩)) }, { V := fun _ v _ => v = (.float .f32 z81_m0_11_0r2) }, { V := fun _ v _ => ∃ d142_8r : Nat, v = (.float .f32 d142_8r) ∧ cn .f32 d142_8r = (fop .mul .f32 (fop .mul .f32 1056964608 p2) m85.y) }, { V := fun _ v _ => ∃ d142_9r : Nat, v = (.float .f32 d142_9r) ∧ cn .f32 d142_9r = (fop .add .f32 p0.turn.y (fop .mul .f32 (fop .mul .f32 1056964608 p2) m85.y)) }, { V := fun _ v _ => v = (.pointer (some ⟨z107_12_21b, 2, none⟩)) }, ⟨fun _ _ w' => ∃ d142_9r : Nat, w'.heap[z107_12_21b]? = some (.cells #[.float .f32 z107_m0_9r, .float .f32 z107_m0_19r, .float .f32 d142_9r, .float .f32 0] 30 (0, 0)) ∧ cn .f32 d142_9r = (fop .add .f32 p0.turn.y (fop .mul .f32 (fop .mul .f32 1056964608 p2) m85.y)), some 0, fun w' => w'.heap[z107_12_21b]? = some (.cells #[.float .f32 z107_m0_9r, .float .f32 z107_m0_19r, .float .f32 0, .float .f32 0] 30 (0, 0))⟩] mixed (by kernel_rfl) ⟨trivial, trivial, trivial, trivial, trivial, trivial, trivial, trivial, trivial, trivial, trivial, hBn107, trivial⟩ ⟨?_, ?_, ?_, ?_, ?_, ?_, ?_, ?_, ?_, ?_, ?_, ?_, trivial⟩ ?_
          · skip
            refine ⟨fun _ _ _ _ _ _ h _ => h, fun _ _ h _ => h, fun σ' w' hA hE hD hP => ?_⟩
            have t0 : σ' 0 = .pointer (some ⟨p0b, p0o, none⟩) := (hA 0 rfl).trans s0_107
            have B0_147 : w'.heap[p0b]? = some (.cells p0c p0T p0f) := hE.heap (not_oth1 (old_bb p0B own137)) B143
            refine dg_op rfl (d_mv (v := .pointer (some ⟨p0b, p0o, none⟩)) t0 ?_)
            exact ⟨rfl, own_none (Ext.refl w')⟩
          · skip
            refine ⟨fun _ _ _ _ _ _ h _ => h, fun _ _ h _ => h, fun σ' w' hA hE hD hP => ?_⟩
            have t81 : σ' 81 = (.pointer (some ⟨p0b, p0o, none⟩)) := hD 0 rfl
            have B0_148 : w'.heap[p0b]? = some (.cells p0c p0T p0f) := hE.heap (not_oth1 (old_bb p0B own137)) B143
            refine dg_op rfl (d_nil t81 ?_)
            exact ⟨rfl, own_none (Ext.refl w')⟩
          · skip
            refine ⟨fun _ _ _ _ _ _ h _ => h, fun _ _ h _ => h, fun σ' w' hA hE hD hP => ?_⟩
            have t82 : σ' 82 = (.pointer (some ⟨p0b, p0o, none⟩)) := hD 1 rfl
            have B0_149 : w'.heap[p0b]? = some (.cells p0c p0T p0f) := hE.heap (not_oth1 (old_bb p0B own137)) B143
            refine dg_op rfl (d_fieldAddr t82 (fa32_1 _ _) ?_)
            exact ⟨rfl, own_none (Ext.refl w')⟩
          · skip
            refine ⟨fun _ _ _ _ _ _ h _ => h, fun _ _ h _ => h, fun σ' w' hA hE hD hP => ?_⟩
            have t83 : σ' 83 = (.pointer (some ⟨p0b, p0o + 3, none⟩)) := hD 2 rfl
            have B0_150 : w'.heap[p0b]? = some (.cells p0c p0T p0f) := hE.heap (not_oth1 (old_bb p0B own137)) B143
            refine dg_op rfl (d_fieldAddr t83 (fa30_2 _ _) ?_)
            exact ⟨rfl, own_none (Ext.refl w')⟩
          · skip
            refine ⟨fun _ _ _ _ _ _ h _ => h, fun _ _ h _ => h, fun σ' w' hA hE hD hP => ?_⟩
            have t84 : σ' 84 = (.pointer (some ⟨p0b, p0o + 5, none⟩)) := hD 3 rfl
            have B0_151 : w'.heap[p0b]? = some (.cells p0c p0T p0f) := hE.heap (not_oth1 (old_bb p0B own137)) B143
            refine dg_op rfl (d_load (v := .float .f32 p0r5) t84 agg22 B0_151 (sub_get (vs := #[.float .f32 p0r0, .float .f32 p0r1, .float .f32 p0r2, .float .f32 p0r3, .float .f32 p0r4, .float .f32 p0r5, .float .f32 p0r6, .float .f32 p0r7, .float .f32 p0r8, .float .f32 p0r9]) p0P (i := 5) rfl) ?_)
            exact ⟨rfl, own_none (Ext.refl w')⟩
          · skip
            refine ⟨fun _ _ _ _ _ _ h _ => h, fun _ _ h _ => h, fun σ' w' hA hE hD hP => ?_⟩
            have t8 : σ' 8 = .float .f32 r8 := (hA 8 rfl).trans s8_107
            refine dg_op rfl (d_mv (v := .float .f32 r8) t8 ?_)
            exact ⟨rfl, own_none (Ext.refl w')⟩
          · skip
            refine ⟨fun _ _ _ _ _ _ h _ => h, fun _ _ h _ => h, fun σ' w' hA hE hD hP => ?_⟩
            have t11 : σ' 11 = .pointer (some ⟨z81_11_12b, 0, none⟩) := (hA 11 rfl).trans s11_107
            have B0_152 : w'.heap[z81_11_12b]? = some (.cells #[.float .f32 z81_m0_11_0r0, .float .f32 z81_m0_11_0r1, .float .f32 z81_m0_11_0r2, .float .f32 z81_m0_11_0r3] 30 (0, 0)) := hE.heap (not_oth1 sp140) B146
            refine dg_op rfl (d_fieldAddr t11 (fa30_2 _ _) ?_)
            exact ⟨rfl, own_none (Ext.refl w')⟩
          · skip
            refine ⟨fun _ _ _ _ _ _ h _ => h, fun _ _ h _ => h, fun σ' w' hA hE hD hP => ?_⟩
            have t87 : σ' 87 = (.pointer (some ⟨z81_11_12b, 2, none⟩)) := hD 6 rfl
            have B0_153 : w'.heap[z81_11_12b]? = some (.cells #[.float .f32 z81_m0_11_0r0, .float .f32 z81_m0_11_0r1, .float .f32 z81_m0_11_0r2, .float .f32 z81_m0_11_0r3] 30 (0, 0)) := hE.heap (not_oth1 sp140) B146
            refine dg_op rfl (d_load (v := .float .f32 z81_m0_11_0r2) t87 agg22 B0_153 rfl ?_)
            exact ⟨rfl, own_none (Ext.refl w')⟩
          · skip
            refine ⟨fun _ _ _ _ _ _ h _ => h, fun _ _ h _ => h, fun σ' w' hA hE hD hP => ?_⟩
            have t86 : σ' 86 = (.float .f32 r8) := hD 5 rfl
            have t88 : σ' 88 = (.float .f32 z81_m0_11_0r2) := hD 7 rfl
            refine dg_op rfl (d_fop (k := .f32) fMul t86 t88 h8 z81_m0_11_0h2 fun r154 w154 h154 _ E154 => ?_)
            have X155 : Ext w' w154 := (Ext.refl w').trans E154
            exact ⟨⟨r154, rfl, h154⟩, own_none X155⟩
          · skip
            refine ⟨fun _ _ _ _ _ _ h _ => h, fun _ _ h _ => h, fun σ' w' hA hE hD hP => ?_⟩
            have t85 : σ' 85 = (.float .f32 p0r5) := hD 4 rfl
            obtain ⟨d142_8r, t89, d142_8h⟩ : ∃ d142_8r : Nat, σ' 89 = (.float .f32 d142_8r) ∧ cn .f32 d142_8r = (fop .mul .f32 (fop .mul .f32 1056964608 p2) m85.y) := hD 8 rfl
            refine dg_op rfl (d_fop (k := .f32) fAdd t85 t89 p0h5 d142_8h fun r156 w156 h156 _ E156 => ?_)
            have X157 : Ext w' w156 := (Ext.refl w').trans E156
            exact ⟨⟨r156, rfl, h156⟩, own_none X157⟩
          · skip
            refine ⟨fun _ _ _ _ _ _ h _ => h, fun _ _ h _ => h, fun σ' w' hA hE hD hP => ?_⟩
            have t12 : σ' 12 = .pointer (some ⟨z107_12_21b, 0, none⟩) := (hA 12 rfl).trans s12_107
            have B0_158 : w'.heap[z107_12_21b]? = some (.cells #[.float .f32 z107_m0_9r, .float .f32 z107_m0_19r, .float .f32 0, .float .f32 0] 30 (0, 0)) := (hP 11 _ _ rfl rfl (.inr rfl)).1
            refine dg_op rfl (d_fieldAddr t12 (fa30_2 _ _) ?_)
            exact ⟨rfl, own_none (Ext.refl w')⟩
          · skip
            refine ⟨fun _ _ _ w' w'' _ ⟨d142_9r, hB, d142_9h⟩ hF => ⟨d142_9r, hF.heap not_oth1s hB, d142_9h⟩, fun _ _ h hF => hF.heap not_oth1s h, fun σ' w' hA hE hD hP => ?_⟩
            obtain ⟨d142_9r, t90, d142_9h⟩ : ∃ d142_9r : Nat, σ' 90 = (.float .f32 d142_9r) ∧ cn .f32 d142_9r = (fop .add .f32 p0.turn.y (fop .mul .f32 (fop .mul .f32 1056964608 p2) m85.y)) := hD 9 rfl
            have t91 : σ' 91 = (.pointer (some ⟨z107_12_21b, 2, none⟩)) := hD 10 rfl
            have B0_159 : w'.heap[z107_12_21b]? = some (.cells #[.float .f32 z107_m0_9r, .float .f32 z107_m0_19r, .float .f32 0, .float .f32 0] 30 (0, 0)) := (hP 11 _ _ rfl rfl (.inl rfl)).1
            refine dg_op rfl (d_store (vs := #[.float .f32 d142_9r]) t91 (congrArg Value.cells t90) B0_159 size22 (Nat.le_of_ble_eq_true rfl) rfl fun w160 S160 => ?_)
            have B161 : w160.heap[z107_12_21b]? = some (.cells #[.float .f32 z107_m0_9r, .float .f32 z107_m0_19r, .float .f32 d142_9r, .float .f32 0] 30 (0, 0)) := S160.here
            exact ⟨⟨d142_9r, B161, d142_9h⟩, own_some (j := 0) rfl S160.frmb⟩
          · skip
            intro σ142 w142 A142 E142 V142
            obtain ⟨z142_m0_9r, Bm0_142, z142_m0_9h⟩ : ∃ z142_m0_9r : Nat, w142.heap[z107_12_21b]? = some (.cells #[.float .f32 z107_m0_9r, .float .f32 z107_m0_19r, .float .f32 z142_m0_9r, .float .f32 0] 30 (0, 0)) ∧ cn .f32 z142_m0_9r = (fop .add .f32 p0.turn.y (fop .mul .f32 (fop .mul .f32 1056964608 p2) m85.y)) := V142 11 (Nat.le_of_ble_eq_true rfl)
            have s0_142 : σ142 0 = .pointer (some ⟨p0b, p0o, none⟩) := (A142 0 rfl).trans s0_107
            have s6_142 : σ142 6 = .pointer (some ⟨w1.heap.size, 0, none⟩) := (A142 6 rfl).trans s6_107
            have s8_142 : σ142 8 = .float .f32 r8 := (A142 8 rfl).trans s8_107
            have s10_142 : σ142 10 = .pointer (some ⟨w10.heap.size, 0, none⟩) := (A142 10 rfl).trans s10_107
            have s11_142 : σ142 11 = .pointer (some ⟨z81_11_12b, 0, none⟩) := (A142 11 rfl).trans s11_107
            have s12_142 : σ142 12 = .pointer (some ⟨z107_12_21b, 0, none⟩) := (A142 12 rfl).trans s12_107
            have X162 : Ext w w142 := Ext.step X141 E142 (oth_own1 (fun k _ hk => hk ▸ own137))
            refine W_seq ?_
            have B164 : w142.heap[p0b]? = some (.cells p0c p0T p0f) := X162.heap p0B
            have B165 : w142.heap[w1.heap.size]? = some (.cells #[.float .f32 0, .float .f32 0, .float .f32 0, .float .f32 0, .float .f32 0, .float .f32 0, .float .f32 0, .float .f32 0, .float .f32 0, .float .f32 0] 32 (0, 0)) := E142.heap (not_oth1 sp138) B144
            have B166 : w142.heap[w10.heap.size]? = some (.cells #[.float .f32 p0r0, .float .f32 p0r1, .float .f32 p0r2, .float .f32 0, .float .f32 0, .float .f32 0, .float .f32 0, .float .f32 z54_m0_10_0r0, .float .f32 z54_m0_10_0r1, .float .f32 z54_m0_10_0r2] 32 (0, 0)) := E142.heap (not_oth1 sp139) B145
            have B167 : w142.heap[z81_11_12b]? = some (.cells #[.float .f32 z81_m0_11_0r0, .float .f32 z81_m0_11_0r1, .float .f32 z81_m0_11_0r2, .float .f32 z81_m0_11_0r3] 30 (0, 0)) := E142.heap (not_oth1 sp140) B146
            refine W_any [fun k _ => k = z107_12_21b] [{ V := fun _ v _ => v = (.pointer (some ⟨p0b, p0o, none⟩)) }, { V := fun _ v _ => v = (.pointer (some ⟨p0b, p0o, none⟩)) }, { V := fun _ v _ => v = (.pointer (some ⟨p0b, p0o + 3, none⟩)) }, { V := fun _ v _ => v = (.pointer (some ⟨p0b, p0o + 6, none⟩)) }, { V := fun _ v _ => v = (.float .f32 p0r6) }, { V := fun _ v _ => v = (.float .f32 r8) }, { V := fun _ v _ => v = (.pointer (some ⟨z81_11_12b, 3, none⟩)) }, { V := fun _ v _ => v = (.float .f32 z81_m0_11_0r3) }, { V := fun _ v _ => ∃ d163_8r : Nat, v = (.float .f32 d163_8r) ∧ cn .f32 d163_8r = (fop .mul .f32 (fop .mul .f32 1056964608 p2) m85.z) }, { V := fun _ v _ => ∃ d163_9r : Nat, v = (.float .f32 d163_9r) ∧ cn .f32 d163_9r = (fop .add .f32 p0.turn.z (fop .mul .f32 (fop .mul .f32 1056964608 p2) m85.z)) }, { V := fun _ v _ => v = (.pointer (some ⟨z107_12_21b, 3, none⟩)) }, ⟨fun _ _ w' => ∃ d163_9r : Nat, w'.heap[z107_12_21b]? = some (.cells #[.float .f32 z107_m0_9r, .float .f32 z107_m0_19r, .float .f32 z142_m0_9r, .float .f32 d163_9r] 30 (0, 0)) ∧ cn .f32 d163_9r = (fop .add .f32 p0.turn.z (fop .mul .f32 (fop .mul .f32 1056964608 p2) m85.z)), some 0, fun w' => w'.heap[z107_12_21b]? = some (.cells #[.float .f32 z107_m0_9r, .float .f32 z107_m0_19r, .float .f32 z142_m0_9r, .float .f32 0] 30 (0, 0))⟩] mixed (by kernel_rfl) ⟨trivial, trivial, trivial, trivial, trivial, trivial, trivial, trivial, trivial, trivial, trivial, Bm0_142, trivial⟩ ⟨?_, ?_, ?_, ?_, ?_, ?_, ?_, ?_, ?_, ?_, ?_, ?_, trivial⟩ ?_
            · skip
              refine ⟨fun _ _ _ _ _ _ h _ => h, fun _ _ h _ => h, fun σ' w' hA hE hD hP => ?_⟩
              have t0 : σ' 0 = .pointer (some ⟨p0b, p0o, none⟩) := (hA 0 rfl).trans s0_142
              have B0_168 : w'.heap[p0b]? = some (.cells p0c p0T p0f) := hE.heap (not_oth1 (old_bb p0B own137)) B164
              refine dg_op rfl (d_mv (v := .pointer (some ⟨p0b, p0o, none⟩)) t0 ?_)
              exact ⟨rfl, own_none (Ext.refl w')⟩
            · skip
              refine ⟨fun _ _ _ _ _ _ h _ => h, fun _ _ h _ => h, fun σ' w' hA hE hD hP => ?_⟩
              have t92 : σ' 92 = (.pointer (some ⟨p0b, p0o, none⟩)) := hD 0 rfl
              have B0_169 : w'.heap[p0b]? = some (.cells p0c p0T p0f) := hE.heap (not_oth1 (old_bb p0B own137)) B164
              refine dg_op rfl (d_nil t92 ?_)
              exact ⟨rfl, own_none (Ext.refl w')⟩
            · skip
              refine ⟨fun _ _ _ _ _ _ h _ => h, fun _ _ h _ => h, fun σ' w' hA hE hD hP => ?_⟩
              have t93 : σ' 93 = (.pointer (some ⟨p0b, p0o, none⟩)) := hD 1 rfl
              have B0_170 : w'.heap[p0b]? = some (.cells p0c p0T p0f) := hE.heap (not_oth1 (old_bb p0B own137)) B164
              refine dg_op rfl (d_fieldAddr t93 (fa32_1 _ _) ?_)
              exact ⟨rfl, own_none (Ext.refl w')⟩
            · skip
              refine ⟨fun _ _ _ _ _ _ h _ => h, fun _ _ h _ => h, fun σ' w' hA hE hD hP => ?_⟩
              have t94 : σ' 94 = (.pointer (some ⟨p0b, p0o + 3, none⟩)) := hD 2 rfl
              have B0_171 : w'.heap[p0b]? = some (.cells p0c p0T p0f) := hE.heap (not_oth1 (old_bb p0B own137)) B164
              refine dg_op rfl (d_fieldAddr t94 (fa30_3 _ _) ?_)
              exact ⟨rfl, own_none (Ext.refl w')⟩
            · skip
              refine ⟨fun _ _ _ _ _ _ h _ => h, fun _ _ h _ => h, fun σ' w' hA hE hD hP => ?_⟩
              have t95 : σ' 95 = (.pointer (some ⟨p0b, p0o + 6, none⟩)) := hD 3 rfl
              have B0_172 : w'.heap[p0b]? = some (.cells p0c p0T p0f) := hE.heap (not_oth1 (old_bb p0B own137)) B164
              refine dg_op rfl (d_load (v := .float .f32 p0r6) t95 agg22 B0_172 (sub_get (vs := #[.float .f32 p0r0, .float .f32 p0r1, .float .f32 p0r2, .float .f32 p0r3, .float .f32 p0r4, .float .f32 p0r5, .float .f32 p0r6, .float .f32 p0r7, .float .f32 p0r8, .float .f32 p0r9]) p0P (i := 6) rfl) ?_)
              exact ⟨rfl, own_none (Ext.refl w')⟩
            · skip
              refine ⟨fun _ _ _ _ _ _ h _ => h, fun _ _ h _ => h, fun σ' w' hA hE hD hP => ?_⟩
              have t8 : σ' 8 = .float .f32 r8 := (hA 8 rfl).trans s8_142
              refine dg_op rfl (d_mv (v := .float .f32 r8) t8 ?_)
              exact ⟨rfl, own_none (Ext.refl w')⟩
            · skip
              refine ⟨fun _ _ _ _ _ _ h _ => h, fun _ _ h _ => h, fun σ' w' hA hE hD hP => ?_⟩
              have t11 : σ' 11 = .pointer (some ⟨z81_11_12b, 0, none⟩) := (hA 11 rfl).trans s11_142
              have B0_173 : w'.heap[z81_11_12b]? = some (.cells #[.float .f32 z81_m0_11_0r0, .float .f32 z81_m0_11_0r1, .float .f32 z81_m0_11_0r2, .float .f32 z81_m0_11_0r3] 30 (0, 0)) := hE.heap (not_oth1 sp140) B167
              refine dg_op rfl (d_fieldAddr t11 (fa30_3 _ _) ?_)
              exact ⟨rfl, own_none (Ext.refl w')⟩
            · skip
              refine ⟨fun _ _ _ _ _ _ h _ => h, fun _ _ h _ => h, fun σ' w' hA hE hD hP => ?_⟩
              have t98 : σ' 98 = (.pointer (some ⟨z81_11_12b, 3, none⟩)) := hD 6 rfl
              have B0_174 : w'.heap[z81_11_12b]? = some (.cells #[.float .f32 z81_m0_11_0r0, .float .f32 z81_m0_11_0r1, .float .f32 z81_m0_11_0r2, .float .f32 z81_m0_11_0r3] 30 (0, 0)) := hE.heap (not_oth1 sp140) B167
              refine dg_op rfl (d_load (v := .float .f32 z81_m0_11_0r3) t98 agg22 B0_174 rfl ?_)
              exact ⟨rfl, own_none (Ext.refl w')⟩
            · skip
              refine ⟨fun _ _ _ _ _ _ h _ => h, fun _ _ h _ => h, fun σ' w' hA hE hD hP => ?_⟩
              have t97 : σ' 97 = (.float .f32 r8) := hD 5 rfl
              have t99 : σ' 99 = (.float .f32 z81_m0_11_0r3) := hD 7 rfl
              refine dg_op rfl (d_fop (k := .f32) fMul t97 t99 h8 z81_m0_11_0h3 fun r175 w175 h175 _ E175 => ?_)
              have X176 : Ext w' w175 := (Ext.refl w').trans E175
              exact ⟨⟨r175, rfl, h175⟩, own_none X176⟩
            · skip
              refine ⟨fun _ _ _ _ _ _ h _ => h, fun _ _ h _ => h, fun σ' w' hA hE hD hP => ?_⟩
              have t96 : σ' 96 = (.float .f32 p0r6) := hD 4 rfl
              obtain ⟨d163_8r, t100, d163_8h⟩ : ∃ d163_8r : Nat, σ' 100 = (.float .f32 d163_8r) ∧ cn .f32 d163_8r = (fop .mul .f32 (fop .mul .f32 1056964608 p2) m85.z) := hD 8 rfl
              refine dg_op rfl (d_fop (k := .f32) fAdd t96 t100 p0h6 d163_8h fun r177 w177 h177 _ E177 => ?_)
              have X178 : Ext w' w177 := (Ext.refl w').trans E177
              exact ⟨⟨r177, rfl, h177⟩, own_none X178⟩
            · skip
              refine ⟨fun _ _ _ _ _ _ h _ => h, fun _ _ h _ => h, fun σ' w' hA hE hD hP => ?_⟩
              have t12 : σ' 12 = .pointer (some ⟨z107_12_21b, 0, none⟩) := (hA 12 rfl).trans s12_142
              have B0_179 : w'.heap[z107_12_21b]? = some (.cells #[.float .f32 z107_m0_9r, .float .f32 z107_m0_19r, .float .f32 z142_m0_9r, .float .f32 0] 30 (0, 0)) := (hP 11 _ _ rfl rfl (.inr rfl)).1
              refine dg_op rfl (d_fieldAddr t12 (fa30_3 _ _) ?_)
              exact ⟨rfl, own_none (Ext.refl w')⟩
            · skip
              refine ⟨fun _ _ _ w' w'' _ ⟨d163_9r, hB, d163_9h⟩ hF => ⟨d163_9r, hF.heap not_oth1s hB, d163_9h⟩, fun _ _ h hF => hF.heap not_oth1s h, fun σ' w' hA hE hD hP => ?_⟩
              obtain ⟨d163_9r, t101, d163_9h⟩ : ∃ d163_9r : Nat, σ' 101 = (.float .f32 d163_9r) ∧ cn .f32 d163_9r = (fop .add .f32 p0.turn.z (fop .mul .f32 (fop .mul .f32 1056964608 p2) m85.z)) := hD 9 rfl
              have t102 : σ' 102 = (.pointer (some ⟨z107_12_21b, 3, none⟩)) := hD 10 rfl
              have B0_180 : w'.heap[z107_12_21b]? = some (.cells #[.float .f32 z107_m0_9r, .float .f32 z107_m0_19r, .float .f32 z142_m0_9r, .float .f32 0] 30 (0, 0)) := (hP 11 _ _ rfl rfl (.inl rfl)).1
              refine dg_op rfl (d_store (vs := #[.float .f32 d163_9r]) t102 (congrArg Value.cells t101) B0_180 size22 (Nat.le_of_ble_eq_true rfl) rfl fun w181 S181 => ?_)
              have B182 : w181.heap[z107_12_21b]? = some (.cells #[.float .f32 z107_m0_9r, .float .f32 z107_m0_19r, .float .f32 z142_m0_9r, .float .f32 d163_9r] 30 (0, 0)) := S181.here
              exact ⟨⟨d163_9r, B182, d163_9h⟩, own_some (j := 0) rfl S181.frmb⟩
            · skip
              intro σ163 w163 A163 E163 V163
              obtain ⟨z163_m0_9r, Bm0_163, z163_m0_9h⟩ : ∃ z163_m0_9r : Nat, w163.heap[z107_12_21b]? = some (.cells #[.float .f32 z107_m0_9r, .float .f32 z107_m0_19r, .float .f32 z142_m0_9r, .float .f32 z163_m0_9r] 30 (0, 0)) ∧ cn .f32 z163_m0_9r = (fop .add .f32 p0.turn.z (fop .mul .f32 (fop .mul .f32 1056964608 p2) m85.z)) := V163 11 (Nat.le_of_ble_eq_true rfl)
              have s6_163 : σ163 6 = .pointer (some ⟨w1.heap.size, 0, none⟩) := (A163 6 rfl).trans s6_142
              have s10_163 : σ163 10 = .pointer (some ⟨w10.heap.size, 0, none⟩) := (A163 10 rfl).trans s10_142
              have s12_163 : σ163 12 = .pointer (some ⟨z107_12_21b, 0, none⟩) := (A163 12 rfl).trans s12_142
              have X183 : Ext w w163 := Ext.step X162 E163 (oth_own1 (fun k _ hk => hk ▸ own137))
              refine W_seq ?_
              refine W_region rfl ?_
              refine da_op rfl (d_loads (vs := #[.float .f32 z107_m0_9r, .float .f32 z107_m0_19r, .float .f32 z142_m0_9r, .float .f32 z163_m0_9r]) s12_163 agg30 size30 Bm0_163 rfl ?_)
              obtain ⟨m184, hm184, hr⟩ := letv_out hr
              have B185 : w163.heap[w1.heap.size]? = some (.cells #[.float .f32 0, .float .f32 0, .float .f32 0, .float .f32 0, .float .f32 0, .float .f32 0, .float .f32 0, .float .f32 0, .float .f32 0, .float .f32 0] 32 (0, 0)) := E163.heap (not_oth1 sp138) B165
              have B186 : w163.heap[w10.heap.size]? = some (.cells #[.float .f32 p0r0, .float .f32 p0r1, .float .f32 p0r2, .float .f32 0, .float .f32 0, .float .f32 0, .float .f32 0, .float .f32 z54_m0_10_0r0, .float .f32 z54_m0_10_0r1, .float .f32 z54_m0_10_0r2] 32 (0, 0)) := E163.heap (not_oth1 sp139) B166
              refine da_op rfl (d_cl (vs := [.agg #[.float .f32 z107_m0_9r, .float .f32 z107_m0_19r, .float .f32 z142_m0_9r, .float .f32 z163_m0_9r]]) en91 (ac rfl rfl) rfl ?_)
              refine (c91 (⟨(fop .add .f32 p0.turn.w (fop .mul .f32 (fop .mul .f32 1056964608 p2) m85.w)), (fop .add .f32 p0.turn.x (fop .mul .f32 (fop .mul .f32 1056964608 p2) m85.x)), (fop .add .f32 p0.turn.y (fop .mul .f32 (fop .mul .f32 1056964608 p2) m85.y)), (fop .add .f32 p0.turn.z (fop .mul .f32 (fop .mul .f32 1056964608 p2) m85.z))⟩ : SSpin) z107_m0_9r z107_m0_19r z142_m0_9r z163_m0_9r m184 w163 hm184 z107_m0_9h z107_m0_19h z142_m0_9h z163_m0_9h).mono ?_
              rintro _ w187 ⟨q187_0r0, q187_0r1, q187_0r2, q187_0r3, rfl, q187_0h0, q187_0h1, q187_0h2, q187_0h3, E187⟩
              refine ⟨_, rfl, ?_⟩
              have X188 : Ext w w187 := X183.trans E187
              refine da_op rfl (d_mv (v := .tuple #[.agg #[.float .f32 q187_0r0, .float .f32 q187_0r1, .float .f32 q187_0r2, .float .f32 q187_0r3], .bool m184.2]) rfl ?_)
              refine da_op rfl (d_extract (v := .agg #[.float .f32 q187_0r0, .float .f32 q187_0r1, .float .f32 q187_0r2, .float .f32 q187_0r3]) rfl rfl ?_)
              refine da_op rfl (d_extract (v := .bool m184.2) rfl rfl ?_)
              have B190 : w187.heap[w1.heap.size]? = some (.cells #[.float .f32 0, .float .f32 0, .float .f32 0, .float .f32 0, .float .f32 0, .float .f32 0, .float .f32 0, .float .f32 0, .float .f32 0, .float .f32 0] 32 (0, 0)) := E187.heap B185
              have B191 : w187.heap[w10.heap.size]? = some (.cells #[.float .f32 p0r0, .float .f32 p0r1, .float .f32 p0r2, .float .f32 0, .float .f32 0, .float .f32 0, .float .f32 0, .float .f32 z54_m0_10_0r0, .float .f32 z54_m0_10_0r1, .float .f32 z54_m0_10_0r2] 32 (0, 0)) := E187.heap B186
              have B192 : w187.heap[z107_12_21b]? = some (.cells #[.float .f32 z107_m0_9r, .float .f32 z107_m0_19r, .float .f32 z142_m0_9r, .float .f32 z163_m0_9r] 30 (0, 0)) := E187.heap Bm0_163
              refine da_op rfl (d_alloc (cs := #[.float .f32 0, .float .f32 0, .float .f32 0, .float .f32 0]) zero30 rfl fun w189 B189 E189 => ?_)
              have own193 : w.heap.size ≤ w187.heap.size := Nat.le_trans X188.size (Nat.le_refl _)
              have sp194 : w1.heap.size ≠ w187.heap.size := Nat.ne_of_lt (Nat.lt_of_lt_of_le (lt_heap B190) (Nat.le_refl _))
              have sp195 : w10.heap.size ≠ w187.heap.size := Nat.ne_of_lt (Nat.lt_of_lt_of_le (lt_heap B191) (Nat.le_refl _))
              have sp196 : z107_12_21b ≠ w187.heap.size := Nat.ne_of_lt (Nat.lt_of_lt_of_le (lt_heap B192) (Nat.le_refl _))
              have X197 : Ext w w189 := X188.trans E189
              refine da_op rfl (d_store (vs := #[.float .f32 q187_0r0, .float .f32 q187_0r1, .float .f32 q187_0r2, .float .f32 q187_0r3]) rfl rfl B189 size30 (Nat.le_of_ble_eq_true rfl) rfl fun w198 S198 => ?_)
              have X199 : Ext w w198 := Ext.step X197 S198.frmb (fun k _ hk => hk ▸ own193)
              have B200 : w198.heap[w187.heap.size]? = some (.cells #[.float .f32 q187_0r0, .float .f32 q187_0r1, .float .f32 q187_0r2, .float .f32 q187_0r3] 30 (0, 0)) := S198.here
              refine da_op rfl (d_as (v := .bool m184.2) rfl ?_)
              refine da_nil ?_
              refine W_seq ?_
              refine W_region rfl ?_
              refine da_op rfl (d_loads (vs := #[.float .f32 q187_0r0, .float .f32 q187_0r1, .float .f32 q187_0r2, .float .f32 q187_0r3]) rfl agg30 size30 B200 rfl ?_)
              refine da_op rfl (d_fieldAddr s10_163 (fa32_1 _ _) ?_)
              have B201 : w198.heap[w10.heap.size]? = some (.cells #[.float .f32 p0r0, .float .f32 p0r1, .float .f32 p0r2, .float .f32 0, .float .f32 0, .float .f32 0, .float .f32 0, .float .f32 z54_m0_10_0r0, .float .f32 z54_m0_10_0r1, .float .f32 z54_m0_10_0r2] 32 (0, 0)) := S198.frmb.heap sp195 (E189.heap B191)
              refine da_op rfl (d_store (vs := #[.float .f32 q187_0r0, .float .f32 q187_0r1, .float .f32 q187_0r2, .float .f32 q187_0r3]) rfl rfl B201 size30 (Nat.le_of_ble_eq_true rfl) rfl fun w202 S202 => ?_)
              have X203 : Ext w w202 := Ext.step X199 S202.frmb (fun k _ hk => hk ▸ own46)
              have B204 : w202.heap[w10.heap.size]? = some (.cells #[.float .f32 p0r0, .float .f32 p0r1, .float .f32 p0r2, .float .f32 q187_0r0, .float .f32 q187_0r1, .float .f32 q187_0r2, .float .f32 q187_0r3, .float .f32 z54_m0_10_0r0, .float .f32 z54_m0_10_0r1, .float .f32 z54_m0_10_0r2] 32 (0, 0)) := S202.here
              refine da_nil ?_
              refine W_seq ?_
              have B206 : w202.heap[p0b]? = some (.cells p0c p0T p0f) := X203.heap p0B
              have B207 : w202.heap[w1.heap.size]? = some (.cells #[.float .f32 0, .float .f32 0, .float .f32 0, .float .f32 0, .float .f32 0, .float .f32 0, .float .f32 0, .float .f32 0, .float .f32 0, .float .f32 0] 32 (0, 0)) := S202.frmb.heap sp48 (S198.frmb.heap sp194 (E189.heap B190))
              obtain ⟨m208, hm208, hr⟩ := letv_out hr
              refine W_any [fun k _ => k = w1.heap.size] [{ V := fun _ v _ => v = (.agg #[.float .f32 p0r0, .float .f32 p0r1, .float .f32 p0r2, .float .f32 q187_0r0, .float .f32 q187_0r1, .float .f32 q187_0r2, .float .f32 q187_0r3, .float .f32 z54_m0_10_0r0, .float .f32 z54_m0_10_0r1, .float .f32 z54_m0_10_0r2]) }, { V := fun _ v _ => v = (.bool m184.2) }, { V := fun _ v _ => v = (.bool m184.2) }, { V := fun _ v _ => (m184.2 = true → v = (.bool m208)) }, { V := fun _ v _ => v = (.bool (bif m184.2 then m208 else false)) }, ⟨fun _ _ w' => w'.heap[w1.heap.size]? = some (.cells #[.float .f32 p0r0, .float .f32 p0r1, .float .f32 p0r2, .float .f32 q187_0r0, .float .f32 q187_0r1, .float .f32 q187_0r2, .float .f32 q187_0r3, .float .f32 z54_m0_10_0r0, .float .f32 z54_m0_10_0r1, .float .f32 z54_m0_10_0r2] 32 (0, 0)), some 0, fun w' => w'.heap[w1.heap.size]? = some (.cells #[.float .f32 0, .float .f32 0, .float .f32 0, .float .f32 0, .float .f32 0, .float .f32 0, .float .f32 0, .float .f32 0, .float .f32 0, .float .f32 0] 32 (0, 0))⟩, { V := fun _ v _ => v = (.bool (bif m184.2 then m208 else false)) }] mixed (by kernel_rfl) ⟨trivial, trivial, trivial, trivial, trivial, B207, trivial, trivial⟩ ⟨?_, ?_, ?_, ?_, ?_, ?_, ?_, trivial⟩ ?_
              · skip
                refine ⟨fun _ _ _ _ _ _ h _ => h, fun _ _ h _ => h, fun σ' w' hA hE hD hP => ?_⟩
                have t10 : σ' 10 = .pointer (some ⟨w10.heap.size, 0, none⟩) := (hA 10 rfl).trans s10_163
                have B0_209 : w'.heap[w10.heap.size]? = some (.cells #[.float .f32 p0r0, .float .f32 p0r1, .float .f32 p0r2, .float .f32 q187_0r0, .float .f32 q187_0r1, .float .f32 q187_0r2, .float .f32 q187_0r3, .float .f32 z54_m0_10_0r0, .float .f32 z54_m0_10_0r1, .float .f32 z54_m0_10_0r2] 32 (0, 0)) := hE.heap (not_oth1 (Ne.symm sp48)) B204
                refine dg_op rfl (d_loads (vs := #[.float .f32 p0r0, .float .f32 p0r1, .float .f32 p0r2, .float .f32 q187_0r0, .float .f32 q187_0r1, .float .f32 q187_0r2, .float .f32 q187_0r3, .float .f32 z54_m0_10_0r0, .float .f32 z54_m0_10_0r1, .float .f32 z54_m0_10_0r2]) t10 agg32 size32 B0_209 rfl ?_)
                exact ⟨rfl, own_none (Ext.refl w')⟩
              · skip
                refine ⟨fun _ _ _ _ _ _ h _ => h, fun _ _ h _ => h, fun σ' w' hA hE hD hP => ?_⟩
                have t14 : σ' 14 = .bool m184.2 := (hA 14 rfl).trans rfl
                refine dg_op rfl (d_mv (v := .bool m184.2) t14 ?_)
                exact ⟨rfl, own_none (Ext.refl w')⟩
              · skip
                refine ⟨fun _ _ _ _ _ _ h _ => h, fun _ _ h _ => h, fun σ' w' hA hE hD hP => ?_⟩
                have t111 : σ' 111 = (.bool m184.2) := hD 1 rfl
                refine dg_op rfl (d_mv (v := .bool m184.2) t111 ?_)
                exact ⟨rfl, own_none (Ext.refl w')⟩
              · skip
                refine ⟨fun _ _ _ _ _ _ h _ => h, fun _ _ h _ => h, fun σ' w' hA hE hD hP => ?_⟩
                have t112 : σ' 112 = (.bool m184.2) := hD 2 rfl
                rcases Bool.eq_false_or_eq_true m184.2 with hg210 | hg210
                · skip
                  have t10 : σ' 10 = .pointer (some ⟨w10.heap.size, 0, none⟩) := (hA 10 rfl).trans s10_163
                  have B0_211 : w'.heap[w10.heap.size]? = some (.cells #[.float .f32 p0r0, .float .f32 p0r1, .float .f32 p0r2, .float .f32 q187_0r0, .float .f32 q187_0r1, .float .f32 q187_0r2, .float .f32 q187_0r3, .float .f32 z54_m0_10_0r0, .float .f32 z54_m0_10_0r1, .float .f32 z54_m0_10_0r2] 32 (0, 0)) := hE.heap (not_oth1 (Ne.symm sp48)) B204
                  refine dg_on rfl (Eq.trans (show sl _ _ _ = .bool m184.2 from t112) (congrArg Value.bool hg210)) (d_cl (vs := [.pointer (some ⟨w10.heap.size, 0, none⟩)]) en30 (ac t10 rfl) rfl ?_)
                  refine (c30 (⟨(⟨p0.moments.x, p0.moments.y, p0.moments.z⟩ : SVector), m184.1, (⟨m61.x, m61.y, m61.z⟩ : SVector)⟩ : STop) w10.heap.size 0 #[.float .f32 p0r0, .float .f32 p0r1, .float .f32 p0r2, .float .f32 q187_0r0, .float .f32 q187_0r1, .float .f32 q187_0r2, .float .f32 q187_0r3, .float .f32 z54_m0_10_0r0, .float .f32 z54_m0_10_0r1, .float .f32 z54_m0_10_0r2] 32 (0, 0) p0r0 p0r1 p0r2 q187_0r0 q187_0r1 q187_0r2 q187_0r3 z54_m0_10_0r0 z54_m0_10_0r1 z54_m0_10_0r2 m208 w' hm208 p0h0 p0h1 p0h2 q187_0h0 q187_0h1 q187_0h2 q187_0h3 z54_m0_10_0h0 z54_m0_10_0h1 z54_m0_10_0h2 B0_211 rfl).mono ?_
                  rintro _ w212 ⟨rfl, E212⟩
                  refine ⟨_, rfl, ?_⟩
                  have X213 : Ext w' w212 := (Ext.refl w').trans E212
                  exact ⟨fun _ => rfl, own_none X213⟩
                · skip
                  refine dg_off rfl (Eq.trans (show sl _ _ _ = .bool m184.2 from t112) (congrArg Value.bool hg210)) (by decide) ?_
                  exact ⟨fun hc => Bool.noConfusion (hc.symm.trans hg210), own_none (Ext.refl _)⟩
              · skip
                refine ⟨fun _ _ _ _ _ _ h _ => h, fun _ _ h _ => h, fun σ' w' hA hE hD hP => ?_⟩
                have t112 : σ' 112 = (.bool m184.2) := hD 2 rfl
                rcases Bool.eq_false_or_eq_true m184.2 with hpk | hpk
                · skip
                  have t113 : σ' 113 = (.bool m208) := (hD 3 rfl : (m184.2 = true → σ' 113 = (.bool m208))) hpk
                  refine dg_op rfl (d_pick (b := true) (Eq.trans (show ev _ _ = .bool m184.2 from t112) (congrArg Value.bool hpk)) ?_)
                  exact ⟨Eq.trans (b := Value.bool m208) t113 (congrArg Value.bool (by rw [hpk] <;> rfl)), own_none (Ext.refl _)⟩
                · skip
                  refine dg_op rfl (d_pick (b := false) (Eq.trans (show ev _ _ = .bool m184.2 from t112) (congrArg Value.bool hpk)) ?_)
                  exact ⟨Eq.trans (b := Value.bool false) rfl (congrArg Value.bool (by rw [hpk] <;> rfl)), own_none (Ext.refl _)⟩
              · skip
                refine ⟨fun _ _ _ w' w'' _ hB hF => hF.heap not_oth1s hB, fun _ _ h hF => hF.heap not_oth1s h, fun σ' w' hA hE hD hP => ?_⟩
                have t6 : σ' 6 = .pointer (some ⟨w1.heap.size, 0, none⟩) := (hA 6 rfl).trans s6_163
                have t110 : σ' 110 = (.agg #[.float .f32 p0r0, .float .f32 p0r1, .float .f32 p0r2, .float .f32 q187_0r0, .float .f32 q187_0r1, .float .f32 q187_0r2, .float .f32 q187_0r3, .float .f32 z54_m0_10_0r0, .float .f32 z54_m0_10_0r1, .float .f32 z54_m0_10_0r2]) := hD 0 rfl
                have B0_214 : w'.heap[w1.heap.size]? = some (.cells #[.float .f32 0, .float .f32 0, .float .f32 0, .float .f32 0, .float .f32 0, .float .f32 0, .float .f32 0, .float .f32 0, .float .f32 0, .float .f32 0] 32 (0, 0)) := (hP 5 _ _ rfl rfl (.inl rfl)).1
                refine dg_op rfl (d_store (vs := #[.float .f32 p0r0, .float .f32 p0r1, .float .f32 p0r2, .float .f32 q187_0r0, .float .f32 q187_0r1, .float .f32 q187_0r2, .float .f32 q187_0r3, .float .f32 z54_m0_10_0r0, .float .f32 z54_m0_10_0r1, .float .f32 z54_m0_10_0r2]) t6 (congrArg Value.cells t110) B0_214 size32 (Nat.le_of_ble_eq_true rfl) rfl fun w215 S215 => ?_)
                have B216 : w215.heap[w1.heap.size]? = some (.cells #[.float .f32 p0r0, .float .f32 p0r1, .float .f32 p0r2, .float .f32 q187_0r0, .float .f32 q187_0r1, .float .f32 q187_0r2, .float .f32 q187_0r3, .float .f32 z54_m0_10_0r0, .float .f32 z54_m0_10_0r1, .float .f32 z54_m0_10_0r2] 32 (0, 0)) := S215.here
                exact ⟨B216, own_some (j := 0) rfl S215.frmb⟩
              · skip
                refine ⟨fun _ _ _ _ _ _ h _ => h, fun _ _ h _ => h, fun σ' w' hA hE hD hP => ?_⟩
                have t114 : σ' 114 = (.bool (bif m184.2 then m208 else false)) := hD 4 rfl
                refine dg_op rfl (d_as (v := .bool (bif m184.2 then m208 else false)) t114 ?_)
                exact ⟨rfl, own_none (Ext.refl w')⟩
              · skip
                intro σ205 w205 A205 E205 V205
                have s7_205 : σ205 7 = (.bool (bif m184.2 then m208 else false)) := V205 6 (Nat.le_of_ble_eq_true rfl)
                have Bm0_205 : w205.heap[w1.heap.size]? = some (.cells #[.float .f32 p0r0, .float .f32 p0r1, .float .f32 p0r2, .float .f32 q187_0r0, .float .f32 q187_0r1, .float .f32 q187_0r2, .float .f32 q187_0r3, .float .f32 z54_m0_10_0r0, .float .f32 z54_m0_10_0r1, .float .f32 z54_m0_10_0r2] 32 (0, 0)) := V205 5 (Nat.le_of_ble_eq_true rfl)
                have s6_205 : σ205 6 = .pointer (some ⟨w1.heap.size, 0, none⟩) := (A205 6 rfl).trans s6_163
                have X217 : Ext w w205 := Ext.step X203 E205 (oth_own1 (fun k _ hk => hk ▸ own5))
                refine W_ret ?_
                subst hr
                refine ⟨_, res2 (rv_cells (vs := #[.float .f32 p0r0, .float .f32 p0r1, .float .f32 p0r2, .float .f32 q187_0r0, .float .f32 q187_0r1, .float .f32 q187_0r2, .float .f32 q187_0r3, .float .f32 z54_m0_10_0r0, .float .f32 z54_m0_10_0r1, .float .f32 z54_m0_10_0r2]) s6_205 agg32 size32 Bm0_205 rfl) (rv_tmp s7_205), ?_⟩
                exact ⟨p0r0, p0r1, p0r2, q187_0r0, q187_0r1, q187_0r2, q187_0r3, z54_m0_10_0r0, z54_m0_10_0r1, z54_m0_10_0r2, rfl, p0h0, p0h1, p0h2, q187_0h0, q187_0h1, q187_0h2, q187_0h3, z54_m0_10_0h0, z54_m0_10_0h1, z54_m0_10_0h2, X217⟩
set_option maxHeartbeats 4000000 in
theorem c51 (p0 : STop) (p0b p0o : Nat) (p0c : Array Value) (p0T : TypeId) (p0f : Nat × Nat) (p0r0 : Nat) (p0r1 : Nat) (p0r2 : Nat) (p0r3 : Nat) (p0r4 : Nat) (p0r5 : Nat) (p0r6 : Nat) (p0r7 : Nat) (p0r8 : Nat) (p0r9 : Nat) (r : SVector) (w : World) (hr : M.spec_l04Axis p0 = r) (p0h0 : cn .f32 p0r0 = p0.moments.x) (p0h1 : cn .f32 p0r1 = p0.moments.y) (p0h2 : cn .f32 p0r2 = p0.moments.z) (p0h3 : cn .f32 p0r3 = p0.turn.w) (p0h4 : cn .f32 p0r4 = p0.turn.x) (p0h5 : cn .f32 p0r5 = p0.turn.y) (p0h6 : cn .f32 p0r6 = p0.turn.z) (p0h7 : cn .f32 p0r7 = p0.speed.x) (p0h8 : cn .f32 p0r8 = p0.speed.y) (p0h9 : cn .f32 p0r9 = p0.speed.z) (p0B : w.heap[p0b]? = some (.cells p0c p0T p0f)) (p0P : (p0c.toList.drop p0o).take 10 = [.float .f32 p0r0, .float .f32 p0r1, .float .f32 p0r2, .float .f32 p0r3, .float .f32 p0r4, .float .f32 p0r5, .float .f32 p0r6, .float .f32 p0r7, .float .f32 p0r8, .float .f32 p0r9]) :
    Calls Try.prog 51 #[.pointer (some ⟨p0b, p0o, none⟩)] w fun e w' => ∃ q0r0 : Nat, ∃ q0r1 : Nat, ∃ q0r2 : Nat, e = .returned (.agg #[.float .f32 q0r0, .float .f32 q0r1, .float .f32 q0r2]) ∧ cn .f32 q0r0 = r.x ∧ cn .f32 q0r1 = r.y ∧ cn .f32 q0r2 = r.z ∧ Ext w w' := by
  refine calls_of_W Try.func51 rfl (Nat.le_of_ble_eq_true rfl) ?_
  refine W_seq ?_
  refine W_region rfl ?_
  refine da_op rfl (d_alloc (cs := #[.float .f32 0, .float .f32 0, .float .f32 0]) zero29 rfl fun w1 B1 E1 => ?_)
  have own2 : w.heap.size ≤ w.heap.size := Nat.le_trans (Ext.refl w).size (Nat.le_refl _)
  have X3 : Ext w w1 := (Ext.refl w).trans E1
  refine da_nil ?_
  refine W_seq ?_
  refine W_region rfl ?_
  refine da_op rfl (d_mv (v := .pointer (some ⟨p0b, p0o, none⟩)) rfl ?_)
  refine da_op rfl (d_nil rfl ?_)
  refine da_op rfl (d_fieldAddr rfl (fa32_1 _ _) ?_)
  have B4 : w1.heap[p0b]? = some (.cells p0c p0T p0f) := X3.heap p0B
  refine da_op rfl (d_loads (vs := #[.float .f32 p0r3, .float .f32 p0r4, .float .f32 p0r5, .float .f32 p0r6]) rfl agg30 size30 B4 (sub_take (vs := #[.float .f32 p0r0, .float .f32 p0r1, .float .f32 p0r2, .float .f32 p0r3, .float .f32 p0r4, .float .f32 p0r5, .float .f32 p0r6, .float .f32 p0r7, .float .f32 p0r8, .float .f32 p0r9]) (us := #[.float .f32 p0r3, .float .f32 p0r4, .float .f32 p0r5, .float .f32 p0r6]) (i := 3) p0P rfl (Nat.le_of_ble_eq_true rfl)) ?_)
  refine da_op rfl (d_bd (vs := [(2, .float .f32 1065353216)]) (cs := #[.float .f32 0, .float .f32 0, .float .f32 1065353216]) (pc rfl rfl) (by kernel_rfl) ?_)
  obtain ⟨m5, hm5, hr⟩ := letv_out hr
  refine da_op rfl (d_cl (vs := [.agg #[.float .f32 p0r3, .float .f32 p0r4, .float .f32 p0r5, .float .f32 p0r6], .agg #[.float .f32 0, .float .f32 0, .float .f32 1065353216]]) en85 (ac rfl (ac rfl rfl)) rfl ?_)
  refine (c85 p0.turn (⟨0, 0, 1065353216⟩ : SVector) p0r3 p0r4 p0r5 p0r6 0 0 1065353216 m5 w1 hm5 p0h3 p0h4 p0h5 p0h6 cn_f32_0 cn_f32_0 cn_f32_1065353216).mono ?_
  rintro _ w6 ⟨q6_0r0, q6_0r1, q6_0r2, rfl, q6_0h0, q6_0h1, q6_0h2, E6⟩
  refine ⟨_, rfl, ?_⟩
  have X7 : Ext w w6 := X3.trans E6
  have B8 : w6.heap[w.heap.size]? = some (.cells #[.float .f32 0, .float .f32 0, .float .f32 0] 29 (0, 0)) := E6.heap B1
  refine da_op rfl (d_store (vs := #[.float .f32 q6_0r0, .float .f32 q6_0r1, .float .f32 q6_0r2]) rfl rfl B8 size29 (Nat.le_of_ble_eq_true rfl) rfl fun w9 S9 => ?_)
  have X10 : Ext w w9 := Ext.step X7 S9.frmb (fun k _ hk => hk ▸ own2)
  have B11 : w9.heap[w.heap.size]? = some (.cells #[.float .f32 q6_0r0, .float .f32 q6_0r1, .float .f32 q6_0r2] 29 (0, 0)) := S9.here
  refine da_nil ?_
  refine W_ret ?_
  subst hr
  refine ⟨_, res1 (rv_cells (vs := #[.float .f32 q6_0r0, .float .f32 q6_0r1, .float .f32 q6_0r2]) rfl agg29 size29 B11 rfl), ?_⟩
  exact ⟨q6_0r0, q6_0r1, q6_0r2, rfl, q6_0h0, q6_0h1, q6_0h2, X10⟩
set_option maxHeartbeats 4000000 in
theorem c23 (p0 : STop) (p1 : SVector) (p2 : Nat) (p3 : Nat) (p4 : Nat) (p5 : Int) (p6 : Bool) (p0r0 : Nat) (p0r1 : Nat) (p0r2 : Nat) (p0r3 : Nat) (p0r4 : Nat) (p0r5 : Nat) (p0r6 : Nat) (p0r7 : Nat) (p0r8 : Nat) (p0r9 : Nat) (p1r0 : Nat) (p1r1 : Nat) (p1r2 : Nat) (p2r : Nat) (p3r : Nat) (p4r : Nat) (r : STop × List SVector × Bool) (w : World) (hr : M.spec_l04Run p0 p1 p2 p3 p4 p5 p6 = some r) (p0h0 : cn .f32 p0r0 = p0.moments.x) (p0h1 : cn .f32 p0r1 = p0.moments.y) (p0h2 : cn .f32 p0r2 = p0.moments.z) (p0h3 : cn .f32 p0r3 = p0.turn.w) (p0h4 : cn .f32 p0r4 = p0.turn.x) (p0h5 : cn .f32 p0r5 = p0.turn.y) (p0h6 : cn .f32 p0r6 = p0.turn.z) (p0h7 : cn .f32 p0r7 = p0.speed.x) (p0h8 : cn .f32 p0r8 = p0.speed.y) (p0h9 : cn .f32 p0r9 = p0.speed.z) (p1h0 : cn .f32 p1r0 = p1.x) (p1h1 : cn .f32 p1r1 = p1.y) (p1h2 : cn .f32 p1r2 = p1.z) (p2h : cn .f32 p2r = p2) (p3h : cn .f32 p3r = p3) (p4h : cn .f32 p4r = p4) :
    Calls Try.prog 23 #[.agg #[.float .f32 p0r0, .float .f32 p0r1, .float .f32 p0r2, .float .f32 p0r3, .float .f32 p0r4, .float .f32 p0r5, .float .f32 p0r6, .float .f32 p0r7, .float .f32 p0r8, .float .f32 p0r9], .agg #[.float .f32 p1r0, .float .f32 p1r1, .float .f32 p1r2], .float .f32 p2r, .float .f32 p3r, .float .f32 p4r, .int .i64 p5, .bool p6] w fun e w' => ∃ q0r0 : Nat, ∃ q0r1 : Nat, ∃ q0r2 : Nat, ∃ q0r3 : Nat, ∃ q0r4 : Nat, ∃ q0r5 : Nat, ∃ q0r6 : Nat, ∃ q0r7 : Nat, ∃ q0r8 : Nat, ∃ q0r9 : Nat, ∃ q1v : Value, e = .returned (.tuple #[.agg #[.float .f32 q0r0, .float .f32 q0r1, .float .f32 q0r2, .float .f32 q0r3, .float .f32 q0r4, .float .f32 q0r5, .float .f32 q0r6, .float .f32 q0r7, .float .f32 q0r8, .float .f32 q0r9], q1v, .bool r.2.2]) ∧ cn .f32 q0r0 = r.1.moments.x ∧ cn .f32 q0r1 = r.1.moments.y ∧ cn .f32 q0r2 = r.1.moments.z ∧ cn .f32 q0r3 = r.1.turn.w ∧ cn .f32 q0r4 = r.1.turn.x ∧ cn .f32 q0r5 = r.1.turn.y ∧ cn .f32 q0r6 = r.1.turn.z ∧ cn .f32 q0r7 = r.1.speed.x ∧ cn .f32 q0r8 = r.1.speed.y ∧ cn .f32 q0r9 = r.1.speed.z ∧ OS w' 29 encSVector q1v r.2.1 ∧ (∀ k, q1v.ownBlock = some k → w.heap.size ≤ k) ∧ Ext w w' := by
  refine calls_of_W Try.func23 rfl (Nat.le_of_ble_eq_true rfl) ?_
  refine W_seq ?_
  refine W_region rfl ?_
  refine da_op rfl (d_box (cs := #[.float .f32 p0r0, .float .f32 p0r1, .float .f32 p0r2, .float .f32 p0r3, .float .f32 p0r4, .float .f32 p0r5, .float .f32 p0r6, .float .f32 p0r7, .float .f32 p0r8, .float .f32 p0r9]) rfl fun w1 B1 E1 => ?_)
  have own2 : w.heap.size ≤ w.heap.size := Nat.le_trans (Ext.refl w).size (Nat.le_refl _)
  have X3 : Ext w w1 := (Ext.refl w).trans E1
  refine da_op rfl (d_box (cs := #[.float .f32 p1r0, .float .f32 p1r1, .float .f32 p1r2]) rfl fun w4 B4 E4 => ?_)
  have own5 : w.heap.size ≤ w1.heap.size := Nat.le_trans X3.size (Nat.le_refl _)
  have sp6 : w.heap.size ≠ w1.heap.size := Nat.ne_of_lt (Nat.lt_of_lt_of_le (lt_heap B1) (Nat.le_refl _))
  have X7 : Ext w w4 := X3.trans E4
  have B9 : w4.heap[w.heap.size]? = some (.cells #[.float .f32 p0r0, .float .f32 p0r1, .float .f32 p0r2, .float .f32 p0r3, .float .f32 p0r4, .float .f32 p0r5, .float .f32 p0r6, .float .f32 p0r7, .float .f32 p0r8, .float .f32 p0r9] 32 (0, 0)) := E4.heap B1
  refine da_op rfl (d_alloc (cs := #[.float .f32 0, .float .f32 0, .float .f32 0, .float .f32 0, .float .f32 0, .float .f32 0, .float .f32 0, .float .f32 0, .float .f32 0, .float .f32 0]) zero32 rfl fun w8 B8 E8 => ?_)
  have own10 : w.heap.size ≤ w4.heap.size := Nat.le_trans X7.size (Nat.le_refl _)
  have sp11 : w.heap.size ≠ w4.heap.size := Nat.ne_of_lt (Nat.lt_of_lt_of_le (lt_heap B9) (Nat.le_refl _))
  have sp12 : w1.heap.size ≠ w4.heap.size := Nat.ne_of_lt (Nat.lt_of_lt_of_le (lt_heap B4) (Nat.le_refl _))
  have X13 : Ext w w8 := X7.trans E8
  refine da_op rfl (d_as (v := .slice none 0 0) rfl ?_)
  refine da_op rfl (d_as (v := .bool false) rfl ?_)
  refine da_nil ?_
  refine W_seq ?_
  refine W_region rfl ?_
  have B15 : w8.heap[w.heap.size]? = some (.cells #[.float .f32 p0r0, .float .f32 p0r1, .float .f32 p0r2, .float .f32 p0r3, .float .f32 p0r4, .float .f32 p0r5, .float .f32 p0r6, .float .f32 p0r7, .float .f32 p0r8, .float .f32 p0r9] 32 (0, 0)) := E8.heap B9
  have B16 : w8.heap[w1.heap.size]? = some (.cells #[.float .f32 p1r0, .float .f32 p1r1, .float .f32 p1r2] 29 (0, 0)) := E8.heap B4
  refine da_op rfl (d_bslice0 un33 size29 fun w14 B14 E14 => ?_)
  have fr14 : ∀ k, (Value.slice (some ⟨w8.heap.size, 0, none⟩) 0 0).ownBlock = some k → w8.heap.size ≤ k := fun k hk => by cases hk; exact Nat.le_refl _
  have own14 : ∀ k, (Value.slice (some ⟨w8.heap.size, 0, none⟩) 0 0).ownBlock = some k → w.heap.size ≤ k := fun k hk => Nat.le_trans X13.size (fr14 k hk)
  have sp17 : ¬ (Value.slice (some ⟨w8.heap.size, 0, none⟩) 0 0).ownBlock = some w.heap.size := ne_fresh fr14 (lt_heap B15)
  have sp18 : ¬ (Value.slice (some ⟨w8.heap.size, 0, none⟩) 0 0).ownBlock = some w1.heap.size := ne_fresh fr14 (lt_heap B16)
  have sp19 : ¬ (Value.slice (some ⟨w8.heap.size, 0, none⟩) 0 0).ownBlock = some w4.heap.size := ne_fresh fr14 (lt_heap B8)
  have X20 : Ext w w14 := X13.trans E14
  have O14 : OS w14 29 encSVector (Value.slice (some ⟨w8.heap.size, 0, none⟩) 0 0) ([] : List SVector) := OS.box (xs := ([] : List SVector)) B14 rfl (Nat.le_of_ble_eq_true rfl)
  refine da_op rfl (d_as (v := (Value.slice (some ⟨w8.heap.size, 0, none⟩) 0 0)) rfl ?_)
  refine da_nil ?_
  refine W_seq ?_
  refine W_seq ?_
  refine W_region rfl ?_
  refine da_op rfl (d_as (v := .int .i64 0) rfl ?_)
  refine da_nil ?_
  refine W_block ?_
  have B22 : w14.heap[w.heap.size]? = some (.cells #[.float .f32 p0r0, .float .f32 p0r1, .float .f32 p0r2, .float .f32 p0r3, .float .f32 p0r4, .float .f32 p0r5, .float .f32 p0r6, .float .f32 p0r7, .float .f32 p0r8, .float .f32 p0r9] 32 (0, 0)) := E14.heap B15
  have B23 : w14.heap[w1.heap.size]? = some (.cells #[.float .f32 p1r0, .float .f32 p1r1, .float .f32 p1r2] 29 (0, 0)) := E14.heap B16
  have B24 : w14.heap[w4.heap.size]? = some (.cells #[.float .f32 0, .float .f32 0, .float .f32 0, .float .f32 0, .float .f32 0, .float .f32 0, .float .f32 0, .float .f32 0, .float .f32 0, .float .f32 0] 32 (0, 0)) := E14.heap B8
  obtain ⟨m21, hm21, hr⟩ := bind_out hr
  refine W_loopM hm21 (fun (s21 : List SVector × Int × SVector × STop × STop) σ w' => ∃ i21_0v : Value, ∃ i21_2r0 : Nat, ∃ i21_2r1 : Nat, ∃ i21_2r2 : Nat, ∃ i21_3r0 : Nat, ∃ i21_3r1 : Nat, ∃ i21_3r2 : Nat, ∃ i21_3r3 : Nat, ∃ i21_3r4 : Nat, ∃ i21_3r5 : Nat, ∃ i21_3r6 : Nat, ∃ i21_3r7 : Nat, ∃ i21_3r8 : Nat, ∃ i21_3r9 : Nat, ∃ i21_4r0 : Nat, ∃ i21_4r1 : Nat, ∃ i21_4r2 : Nat, ∃ i21_4r3 : Nat, ∃ i21_4r4 : Nat, ∃ i21_4r5 : Nat, ∃ i21_4r6 : Nat, ∃ i21_4r7 : Nat, ∃ i21_4r8 : Nat, ∃ i21_4r9 : Nat, σ 17 = i21_0v ∧ σ 18 = .int .i64 s21.2.1 ∧ σ 2 = .float .f32 p2r ∧ σ 3 = .float .f32 p3r ∧ σ 4 = .float .f32 p4r ∧ σ 5 = .int .i64 p5 ∧ σ 6 = .bool p6 ∧ σ 7 = .pointer (some ⟨w.heap.size, 0, none⟩) ∧ σ 8 = .pointer (some ⟨w1.heap.size, 0, none⟩) ∧ σ 14 = .pointer (some ⟨w4.heap.size, 0, none⟩) ∧ OS w' 29 encSVector i21_0v s21.1 ∧ (∀ k, i21_0v.ownBlock = some k → w.heap.size ≤ k) ∧ cn .f32 i21_2r0 = s21.2.2.1.x ∧ cn .f32 i21_2r1 = s21.2.2.1.y ∧ cn .f32 i21_2r2 = s21.2.2.1.z ∧ w'.heap[w1.heap.size]? = some (.cells #[.float .f32 i21_2r0, .float .f32 i21_2r1, .float .f32 i21_2r2] 29 (0, 0)) ∧ cn .f32 i21_3r0 = s21.2.2.2.1.moments.x ∧ cn .f32 i21_3r1 = s21.2.2.2.1.moments.y ∧ cn .f32 i21_3r2 = s21.2.2.2.1.moments.z ∧ cn .f32 i21_3r3 = s21.2.2.2.1.turn.w ∧ cn .f32 i21_3r4 = s21.2.2.2.1.turn.x ∧ cn .f32 i21_3r5 = s21.2.2.2.1.turn.y ∧ cn .f32 i21_3r6 = s21.2.2.2.1.turn.z ∧ cn .f32 i21_3r7 = s21.2.2.2.1.speed.x ∧ cn .f32 i21_3r8 = s21.2.2.2.1.speed.y ∧ cn .f32 i21_3r9 = s21.2.2.2.1.speed.z ∧ w'.heap[w4.heap.size]? = some (.cells #[.float .f32 i21_3r0, .float .f32 i21_3r1, .float .f32 i21_3r2, .float .f32 i21_3r3, .float .f32 i21_3r4, .float .f32 i21_3r5, .float .f32 i21_3r6, .float .f32 i21_3r7, .float .f32 i21_3r8, .float .f32 i21_3r9] 32 (0, 0)) ∧ cn .f32 i21_4r0 = s21.2.2.2.2.moments.x ∧ cn .f32 i21_4r1 = s21.2.2.2.2.moments.y ∧ cn .f32 i21_4r2 = s21.2.2.2.2.moments.z ∧ cn .f32 i21_4r3 = s21.2.2.2.2.turn.w ∧ cn .f32 i21_4r4 = s21.2.2.2.2.turn.x ∧ cn .f32 i21_4r5 = s21.2.2.2.2.turn.y ∧ cn .f32 i21_4r6 = s21.2.2.2.2.turn.z ∧ cn .f32 i21_4r7 = s21.2.2.2.2.speed.x ∧ cn .f32 i21_4r8 = s21.2.2.2.2.speed.y ∧ cn .f32 i21_4r9 = s21.2.2.2.2.speed.z ∧ w'.heap[w.heap.size]? = some (.cells #[.float .f32 i21_4r0, .float .f32 i21_4r1, .float .f32 i21_4r2, .float .f32 i21_4r3, .float .f32 i21_4r4, .float .f32 i21_4r5, .float .f32 i21_4r6, .float .f32 i21_4r7, .float .f32 i21_4r8, .float .f32 i21_4r9] 32 (0, 0)) ∧ ¬ i21_0v.ownBlock = some w1.heap.size ∧ ¬ i21_0v.ownBlock = some w4.heap.size ∧ ¬ i21_0v.ownBlock = some w.heap.size ∧ Ext w w') (fun (e21 : ((List SVector × SVector × STop × STop) ⊕ (List SVector × Bool × STop))) ex σ w' => sel e21 (fun e21 => ex = .exit 0 ∧ ∃ q21_0_0v : Value, ∃ q21_0_1r0 : Nat, ∃ q21_0_1r1 : Nat, ∃ q21_0_1r2 : Nat, ∃ q21_0_2r0 : Nat, ∃ q21_0_2r1 : Nat, ∃ q21_0_2r2 : Nat, ∃ q21_0_2r3 : Nat, ∃ q21_0_2r4 : Nat, ∃ q21_0_2r5 : Nat, ∃ q21_0_2r6 : Nat, ∃ q21_0_2r7 : Nat, ∃ q21_0_2r8 : Nat, ∃ q21_0_2r9 : Nat, ∃ q21_0_3r0 : Nat, ∃ q21_0_3r1 : Nat, ∃ q21_0_3r2 : Nat, ∃ q21_0_3r3 : Nat, ∃ q21_0_3r4 : Nat, ∃ q21_0_3r5 : Nat, ∃ q21_0_3r6 : Nat, ∃ q21_0_3r7 : Nat, ∃ q21_0_3r8 : Nat, ∃ q21_0_3r9 : Nat, σ 17 = q21_0_0v ∧ σ 7 = .pointer (some ⟨w.heap.size, 0, none⟩) ∧ σ 14 = .pointer (some ⟨w4.heap.size, 0, none⟩) ∧ OS w' 29 encSVector q21_0_0v e21.1 ∧ (∀ k, q21_0_0v.ownBlock = some k → w.heap.size ≤ k) ∧ cn .f32 q21_0_1r0 = e21.2.1.x ∧ cn .f32 q21_0_1r1 = e21.2.1.y ∧ cn .f32 q21_0_1r2 = e21.2.1.z ∧ w'.heap[w1.heap.size]? = some (.cells #[.float .f32 q21_0_1r0, .float .f32 q21_0_1r1, .float .f32 q21_0_1r2] 29 (0, 0)) ∧ cn .f32 q21_0_2r0 = e21.2.2.1.moments.x ∧ cn .f32 q21_0_2r1 = e21.2.2.1.moments.y ∧ cn .f32 q21_0_2r2 = e21.2.2.1.moments.z ∧ cn .f32 q21_0_2r3 = e21.2.2.1.turn.w ∧ cn .f32 q21_0_2r4 = e21.2.2.1.turn.x ∧ cn .f32 q21_0_2r5 = e21.2.2.1.turn.y ∧ cn .f32 q21_0_2r6 = e21.2.2.1.turn.z ∧ cn .f32 q21_0_2r7 = e21.2.2.1.speed.x ∧ cn .f32 q21_0_2r8 = e21.2.2.1.speed.y ∧ cn .f32 q21_0_2r9 = e21.2.2.1.speed.z ∧ w'.heap[w4.heap.size]? = some (.cells #[.float .f32 q21_0_2r0, .float .f32 q21_0_2r1, .float .f32 q21_0_2r2, .float .f32 q21_0_2r3, .float .f32 q21_0_2r4, .float .f32 q21_0_2r5, .float .f32 q21_0_2r6, .float .f32 q21_0_2r7, .float .f32 q21_0_2r8, .float .f32 q21_0_2r9] 32 (0, 0)) ∧ cn .f32 q21_0_3r0 = e21.2.2.2.moments.x ∧ cn .f32 q21_0_3r1 = e21.2.2.2.moments.y ∧ cn .f32 q21_0_3r2 = e21.2.2.2.moments.z ∧ cn .f32 q21_0_3r3 = e21.2.2.2.turn.w ∧ cn .f32 q21_0_3r4 = e21.2.2.2.turn.x ∧ cn .f32 q21_0_3r5 = e21.2.2.2.turn.y ∧ cn .f32 q21_0_3r6 = e21.2.2.2.turn.z ∧ cn .f32 q21_0_3r7 = e21.2.2.2.speed.x ∧ cn .f32 q21_0_3r8 = e21.2.2.2.speed.y ∧ cn .f32 q21_0_3r9 = e21.2.2.2.speed.z ∧ w'.heap[w.heap.size]? = some (.cells #[.float .f32 q21_0_3r0, .float .f32 q21_0_3r1, .float .f32 q21_0_3r2, .float .f32 q21_0_3r3, .float .f32 q21_0_3r4, .float .f32 q21_0_3r5, .float .f32 q21_0_3r6, .float .f32 q21_0_3r7, .float .f32 q21_0_3r8, .float .f32 q21_0_3r9] 32 (0, 0)) ∧ ¬ q21_0_0v.ownBlock = some w1.heap.size ∧ ¬ q21_0_0v.ownBlock = some w4.heap.size ∧ ¬ q21_0_0v.ownBlock = some w.heap.size ∧ Ext w w') (fun e21 => ex = .ret ∧ ∃ q21_1_0v : Value, ∃ q21_1_2r0 : Nat, ∃ q21_1_2r1 : Nat, ∃ q21_1_2r2 : Nat, ∃ q21_1_2r3 : Nat, ∃ q21_1_2r4 : Nat, ∃ q21_1_2r5 : Nat, ∃ q21_1_2r6 : Nat, ∃ q21_1_2r7 : Nat, ∃ q21_1_2r8 : Nat, ∃ q21_1_2r9 : Nat, σ 15 = q21_1_0v ∧ σ 16 = .bool e21.2.1 ∧ σ 14 = .pointer (some ⟨w4.heap.size, 0, none⟩) ∧ OS w' 29 encSVector q21_1_0v e21.1 ∧ (∀ k, q21_1_0v.ownBlock = some k → w.heap.size ≤ k) ∧ cn .f32 q21_1_2r0 = e21.2.2.moments.x ∧ cn .f32 q21_1_2r1 = e21.2.2.moments.y ∧ cn .f32 q21_1_2r2 = e21.2.2.moments.z ∧ cn .f32 q21_1_2r3 = e21.2.2.turn.w ∧ cn .f32 q21_1_2r4 = e21.2.2.turn.x ∧ cn .f32 q21_1_2r5 = e21.2.2.turn.y ∧ cn .f32 q21_1_2r6 = e21.2.2.turn.z ∧ cn .f32 q21_1_2r7 = e21.2.2.speed.x ∧ cn .f32 q21_1_2r8 = e21.2.2.speed.y ∧ cn .f32 q21_1_2r9 = e21.2.2.speed.z ∧ w'.heap[w4.heap.size]? = some (.cells #[.float .f32 q21_1_2r0, .float .f32 q21_1_2r1, .float .f32 q21_1_2r2, .float .f32 q21_1_2r3, .float .f32 q21_1_2r4, .float .f32 q21_1_2r5, .float .f32 q21_1_2r6, .float .f32 q21_1_2r7, .float .f32 q21_1_2r8, .float .f32 q21_1_2r9] 32 (0, 0)) ∧ ¬ q21_1_0v.ownBlock = some w4.heap.size ∧ Ext w w')) ⟨(Value.slice (some ⟨w8.heap.size, 0, none⟩) 0 0), p1r0, p1r1, p1r2, 0, 0, 0, 0, 0, 0, 0, 0, 0, 0, p0r0, p0r1, p0r2, p0r3, p0r4, p0r5, p0r6, p0r7, p0r8, p0r9, rfl, rfl, rfl, rfl, rfl, rfl, rfl, rfl, rfl, rfl, O14, own14, p1h0, p1h1, p1h2, B23, cn_f32_0, cn_f32_0, cn_f32_0, cn_f32_0, cn_f32_0, cn_f32_0, cn_f32_0, cn_f32_0, cn_f32_0, cn_f32_0, B24, p0h0, p0h1, p0h2, p0h3, p0h4, p0h5, p0h6, p0h7, p0h8, p0h9, B22, sp18, sp19, sp17, X20⟩ ?_ ?_
  · skip
    rintro s21 σl21 wl21 r21l ⟨i21_0v, i21_2r0, i21_2r1, i21_2r2, i21_3r0, i21_3r1, i21_3r2, i21_3r3, i21_3r4, i21_3r5, i21_3r6, i21_3r7, i21_3r8, i21_3r9, i21_4r0, i21_4r1, i21_4r2, i21_4r3, i21_4r4, i21_4r5, i21_4r6, i21_4r7, i21_4r8, i21_4r9, i21_S17, i21_S18, i21_S2, i21_S3, i21_S4, i21_S5, i21_S6, i21_S7, i21_S8, i21_S14, i21_0R, i21_0O, i21_2h0, i21_2h1, i21_2h2, i21_2B, i21_3h0, i21_3h1, i21_3h2, i21_3h3, i21_3h4, i21_3h5, i21_3h6, i21_3h7, i21_3h8, i21_3h9, i21_3B, i21_4h0, i21_4h1, i21_4h2, i21_4h3, i21_4h4, i21_4h5, i21_4h6, i21_4h7, i21_4h8, i21_4h9, i21_4B, i21_A0, i21_A1, i21_A2, i21_X⟩ hr
    refine W_seq ?_
    refine W_seq ?_
    refine W_region rfl ?_
    refine da_op rfl (d_mv (v := .int .i64 s21.2.1) i21_S18 ?_)
    refine da_op rfl (d_mv (v := .int .i64 p5) i21_S5 ?_)
    refine da_op rfl (d_icmp cLss rfl rfl ?_)
    refine da_nil ?_
    refine W_cond (b := (icmp .lss s21.2.1 p5)) rfl (fun hc25 => ?_) (fun hc25 => ?_)
    · skip
      replace hr := bif_t hr hc25
      refine W_skip ?_
      refine W_seq ?_
      refine W_block ?_
      refine W_seq ?_
      refine W_seq ?_
      refine W_region rfl ?_
      refine da_op rfl (d_mv (v := .bool p6) i21_S6 ?_)
      refine da_nil ?_
      refine W_cond (b := p6) rfl (fun hc26 => ?_) (fun hc26 => ?_)
      · skip
        replace hr := bif_t hr hc26
        refine W_region rfl ?_
        refine da_op rfl (d_mv (v := .float .f32 p2r) i21_S2 ?_)
        refine da_op rfl (d_mv (v := .float .f32 p3r) i21_S3 ?_)
        obtain ⟨m27, hm27, hr⟩ := letv_out hr
        refine da_op rfl (d_cl (vs := [.pointer (some ⟨w.heap.size, 0, none⟩), .float .f32 p2r, .float .f32 p3r]) en49 (ac i21_S7 (ac rfl (ac rfl rfl))) rfl ?_)
        refine (c49 s21.2.2.2.2 p2 p3 w.heap.size 0 #[.float .f32 i21_4r0, .float .f32 i21_4r1, .float .f32 i21_4r2, .float .f32 i21_4r3, .float .f32 i21_4r4, .float .f32 i21_4r5, .float .f32 i21_4r6, .float .f32 i21_4r7, .float .f32 i21_4r8, .float .f32 i21_4r9] 32 (0, 0) i21_4r0 i21_4r1 i21_4r2 i21_4r3 i21_4r4 i21_4r5 i21_4r6 i21_4r7 i21_4r8 i21_4r9 p2r p3r m27 wl21 hm27 i21_4h0 i21_4h1 i21_4h2 i21_4h3 i21_4h4 i21_4h5 i21_4h6 i21_4h7 i21_4h8 i21_4h9 i21_4B rfl p2h p3h).mono ?_
        rintro _ w28 ⟨q28_0r0, q28_0r1, q28_0r2, rfl, q28_0h0, q28_0h1, q28_0h2, E28⟩
        refine ⟨_, rfl, ?_⟩
        have X29 : Ext w w28 := i21_X.trans E28
        have B30 : w28.heap[w1.heap.size]? = some (.cells #[.float .f32 i21_2r0, .float .f32 i21_2r1, .float .f32 i21_2r2] 29 (0, 0)) := E28.heap i21_2B
        refine da_op rfl (d_store (vs := #[.float .f32 q28_0r0, .float .f32 q28_0r1, .float .f32 q28_0r2]) i21_S8 rfl B30 size29 (Nat.le_of_ble_eq_true rfl) rfl fun w31 S31 => ?_)
        have X32 : Ext w w31 := Ext.step X29 S31.frmb (fun k _ hk => hk ▸ own5)
        have B33 : w31.heap[w1.heap.size]? = some (.cells #[.float .f32 q28_0r0, .float .f32 q28_0r1, .float .f32 q28_0r2] 29 (0, 0)) := S31.here
        refine da_nil ?_
        refine W_seq ?_
        refine W_region rfl ?_
        refine da_op rfl (d_loads (vs := #[.float .f32 q28_0r0, .float .f32 q28_0r1, .float .f32 q28_0r2]) i21_S8 agg29 size29 B33 rfl ?_)
        refine da_op rfl (d_mv (v := .float .f32 p4r) i21_S4 ?_)
        obtain ⟨m34, hm34, hr⟩ := letv_out hr
        have B35 : w31.heap[w.heap.size]? = some (.cells #[.float .f32 i21_4r0, .float .f32 i21_4r1, .float .f32 i21_4r2, .float .f32 i21_4r3, .float .f32 i21_4r4, .float .f32 i21_4r5, .float .f32 i21_4r6, .float .f32 i21_4r7, .float .f32 i21_4r8, .float .f32 i21_4r9] 32 (0, 0)) := S31.frmb.heap sp6 (E28.heap i21_4B)
        have B36 : OS w31 29 encSVector i21_0v s21.1 := (i21_0R.ext E28).frm S31.frmb (rb i21_A0)
        have B37 : w31.heap[w4.heap.size]? = some (.cells #[.float .f32 i21_3r0, .float .f32 i21_3r1, .float .f32 i21_3r2, .float .f32 i21_3r3, .float .f32 i21_3r4, .float .f32 i21_3r5, .float .f32 i21_3r6, .float .f32 i21_3r7, .float .f32 i21_3r8, .float .f32 i21_3r9] 32 (0, 0)) := S31.frmb.heap (Ne.symm sp12) (E28.heap i21_3B)
        refine da_op rfl (d_cl (vs := [.pointer (some ⟨w.heap.size, 0, none⟩), .agg #[.float .f32 q28_0r0, .float .f32 q28_0r1, .float .f32 q28_0r2], .float .f32 p4r]) en50 (ac i21_S7 (ac rfl (ac rfl rfl))) rfl ?_)
        refine (c50 s21.2.2.2.2 m27 p4 w.heap.size 0 #[.float .f32 i21_4r0, .float .f32 i21_4r1, .float .f32 i21_4r2, .float .f32 i21_4r3, .float .f32 i21_4r4, .float .f32 i21_4r5, .float .f32 i21_4r6, .float .f32 i21_4r7, .float .f32 i21_4r8, .float .f32 i21_4r9] 32 (0, 0) i21_4r0 i21_4r1 i21_4r2 i21_4r3 i21_4r4 i21_4r5 i21_4r6 i21_4r7 i21_4r8 i21_4r9 q28_0r0 q28_0r1 q28_0r2 p4r m34 w31 hm34 i21_4h0 i21_4h1 i21_4h2 i21_4h3 i21_4h4 i21_4h5 i21_4h6 i21_4h7 i21_4h8 i21_4h9 B35 rfl q28_0h0 q28_0h1 q28_0h2 p4h).mono ?_
        rintro _ w38 ⟨q38_0r0, q38_0r1, q38_0r2, q38_0r3, q38_0r4, q38_0r5, q38_0r6, q38_0r7, q38_0r8, q38_0r9, rfl, q38_0h0, q38_0h1, q38_0h2, q38_0h3, q38_0h4, q38_0h5, q38_0h6, q38_0h7, q38_0h8, q38_0h9, E38⟩
        refine ⟨_, rfl, ?_⟩
        have X39 : Ext w w38 := X32.trans E38
        refine da_op rfl (d_mv (v := .tuple #[.agg #[.float .f32 q38_0r0, .float .f32 q38_0r1, .float .f32 q38_0r2, .float .f32 q38_0r3, .float .f32 q38_0r4, .float .f32 q38_0r5, .float .f32 q38_0r6, .float .f32 q38_0r7, .float .f32 q38_0r8, .float .f32 q38_0r9], .bool m34.2]) rfl ?_)
        refine da_op rfl (d_extract (v := .agg #[.float .f32 q38_0r0, .float .f32 q38_0r1, .float .f32 q38_0r2, .float .f32 q38_0r3, .float .f32 q38_0r4, .float .f32 q38_0r5, .float .f32 q38_0r6, .float .f32 q38_0r7, .float .f32 q38_0r8, .float .f32 q38_0r9]) rfl rfl ?_)
        refine da_op rfl (d_extract (v := .bool m34.2) rfl rfl ?_)
        have B41 : OS w38 29 encSVector i21_0v s21.1 := B36.ext E38
        have B42 : w38.heap[w1.heap.size]? = some (.cells #[.float .f32 q28_0r0, .float .f32 q28_0r1, .float .f32 q28_0r2] 29 (0, 0)) := E38.heap B33
        have B43 : w38.heap[w4.heap.size]? = some (.cells #[.float .f32 i21_3r0, .float .f32 i21_3r1, .float .f32 i21_3r2, .float .f32 i21_3r3, .float .f32 i21_3r4, .float .f32 i21_3r5, .float .f32 i21_3r6, .float .f32 i21_3r7, .float .f32 i21_3r8, .float .f32 i21_3r9] 32 (0, 0)) := E38.heap B37
        have B44 : w38.heap[w.heap.size]? = some (.cells #[.float .f32 i21_4r0, .float .f32 i21_4r1, .float .f32 i21_4r2, .float .f32 i21_4r3, .float .f32 i21_4r4, .float .f32 i21_4r5, .float .f32 i21_4r6, .float .f32 i21_4r7, .float .f32 i21_4r8, .float .f32 i21_4r9] 32 (0, 0)) := E38.heap B35
        refine da_op rfl (d_alloc (cs := #[.float .f32 0, .float .f32 0, .float .f32 0, .float .f32 0, .float .f32 0, .float .f32 0, .float .f32 0, .float .f32 0, .float .f32 0, .float .f32 0]) zero32 rfl fun w40 B40 E40 => ?_)
        have own45 : w.heap.size ≤ w38.heap.size := Nat.le_trans X39.size (Nat.le_refl _)
        have sp46 : ¬ i21_0v.ownBlock = some w38.heap.size := OS.ne_new B41 (Nat.le_refl _)
        have sp47 : w1.heap.size ≠ w38.heap.size := Nat.ne_of_lt (Nat.lt_of_lt_of_le (lt_heap B42) (Nat.le_refl _))
        have sp48 : w4.heap.size ≠ w38.heap.size := Nat.ne_of_lt (Nat.lt_of_lt_of_le (lt_heap B43) (Nat.le_refl _))
        have sp49 : w.heap.size ≠ w38.heap.size := Nat.ne_of_lt (Nat.lt_of_lt_of_le (lt_heap B44) (Nat.le_refl _))
        have X50 : Ext w w40 := X39.trans E40
        refine da_op rfl (d_store (vs := #[.float .f32 q38_0r0, .float .f32 q38_0r1, .float .f32 q38_0r2, .float .f32 q38_0r3, .float .f32 q38_0r4, .float .f32 q38_0r5, .float .f32 q38_0r6, .float .f32 q38_0r7, .float .f32 q38_0r8, .float .f32 q38_0r9]) rfl rfl B40 size32 (Nat.le_of_ble_eq_true rfl) rfl fun w51 S51 => ?_)
        have X52 : Ext w w51 := Ext.step X50 S51.frmb (fun k _ hk => hk ▸ own45)
        have B53 : w51.heap[w38.heap.size]? = some (.cells #[.float .f32 q38_0r0, .float .f32 q38_0r1, .float .f32 q38_0r2, .float .f32 q38_0r3, .float .f32 q38_0r4, .float .f32 q38_0r5, .float .f32 q38_0r6, .float .f32 q38_0r7, .float .f32 q38_0r8, .float .f32 q38_0r9] 32 (0, 0)) := S51.here
        refine da_op rfl (d_as (v := .bool m34.2) rfl ?_)
        refine da_nil ?_
        refine W_seq ?_
        refine W_seq ?_
        have B55 : OS w51 29 encSVector i21_0v s21.1 := (B41.ext E40).frm S51.frmb (rb sp46)
        have B56 : w51.heap[w1.heap.size]? = some (.cells #[.float .f32 q28_0r0, .float .f32 q28_0r1, .float .f32 q28_0r2] 29 (0, 0)) := S51.frmb.heap sp47 (E40.heap B42)
        have B57 : w51.heap[w4.heap.size]? = some (.cells #[.float .f32 i21_3r0, .float .f32 i21_3r1, .float .f32 i21_3r2, .float .f32 i21_3r3, .float .f32 i21_3r4, .float .f32 i21_3r5, .float .f32 i21_3r6, .float .f32 i21_3r7, .float .f32 i21_3r8, .float .f32 i21_3r9] 32 (0, 0)) := S51.frmb.heap sp48 (E40.heap B43)
        have B58 : w51.heap[w.heap.size]? = some (.cells #[.float .f32 i21_4r0, .float .f32 i21_4r1, .float .f32 i21_4r2, .float .f32 i21_4r3, .float .f32 i21_4r4, .float .f32 i21_4r5, .float .f32 i21_4r6, .float .f32 i21_4r7, .float .f32 i21_4r8, .float .f32 i21_4r9] 32 (0, 0)) := S51.frmb.heap sp49 (E40.heap B44)
        obtain ⟨m54, hm54, hr⟩ := letv_out hr
        refine W_cut (fun σ' w' => σ' 48 = .bool m54 ∧ Ext w51 w') rfl ?_ ?_
        · skip
          have hr := hm54
          refine da_op rfl (d_mv (v := .bool m34.2) rfl ?_)
          refine da_op rfl (d_not rfl ?_)
          refine da_op rfl (d_mv (v := .bool (!m34.2)) rfl ?_)
          rcases Bool.eq_false_or_eq_true m34.2 with hc59 | hc59
          · skip
            replace hr := bif_t hr hc59
            refine da_on rfl (Eq.trans (show sl _ _ _ = .bool (!m34.2) from rfl) (congrArg Value.bool (congrArg not hc59))) (d_loads (vs := #[.float .f32 q28_0r0, .float .f32 q28_0r1, .float .f32 q28_0r2]) i21_S8 agg29 size29 B56 rfl ?_)
            obtain ⟨m60, hm60, hr⟩ := letv_out hr
            refine da_on rfl (Eq.trans (show sl _ _ _ = .bool (!m34.2) from rfl) (congrArg Value.bool (congrArg not hc59))) (d_cl (vs := [.agg #[.float .f32 q28_0r0, .float .f32 q28_0r1, .float .f32 q28_0r2]]) en47 (ac rfl rfl) rfl ?_)
            refine (c47 m27 q28_0r0 q28_0r1 q28_0r2 m60 w51 hm60 q28_0h0 q28_0h1 q28_0h2).mono ?_
            rintro _ w61 ⟨rfl, E61⟩
            refine ⟨_, rfl, ?_⟩
            have X62 : Ext w w61 := X52.trans E61
            refine da_on rfl (Eq.trans (show sl _ _ _ = .bool (!m34.2) from rfl) (congrArg Value.bool (congrArg not hc59))) (d_not rfl ?_)
            refine da_op rfl (d_pick (b := false) (Eq.trans (show ev _ _ = .bool (!m34.2) from rfl) (congrArg Value.bool (congrArg not hc59))) ?_)
            refine da_op rfl (d_mv (v := .bool (!m60)) rfl ?_)
            rcases Bool.eq_false_or_eq_true m60 with hc63 | hc63
            · skip
              replace hr := bif_t hr hc63
              obtain ⟨m64, hm64, hr⟩ := letv_out hr
              have B65 : w61.heap[w38.heap.size]? = some (.cells #[.float .f32 q38_0r0, .float .f32 q38_0r1, .float .f32 q38_0r2, .float .f32 q38_0r3, .float .f32 q38_0r4, .float .f32 q38_0r5, .float .f32 q38_0r6, .float .f32 q38_0r7, .float .f32 q38_0r8, .float .f32 q38_0r9] 32 (0, 0)) := E61.heap B53
              have B66 : OS w61 29 encSVector i21_0v s21.1 := B55.ext E61
              have B67 : w61.heap[w1.heap.size]? = some (.cells #[.float .f32 q28_0r0, .float .f32 q28_0r1, .float .f32 q28_0r2] 29 (0, 0)) := E61.heap B56
              have B68 : w61.heap[w4.heap.size]? = some (.cells #[.float .f32 i21_3r0, .float .f32 i21_3r1, .float .f32 i21_3r2, .float .f32 i21_3r3, .float .f32 i21_3r4, .float .f32 i21_3r5, .float .f32 i21_3r6, .float .f32 i21_3r7, .float .f32 i21_3r8, .float .f32 i21_3r9] 32 (0, 0)) := E61.heap B57
              have B69 : w61.heap[w.heap.size]? = some (.cells #[.float .f32 i21_4r0, .float .f32 i21_4r1, .float .f32 i21_4r2, .float .f32 i21_4r3, .float .f32 i21_4r4, .float .f32 i21_4r5, .float .f32 i21_4r6, .float .f32 i21_4r7, .float .f32 i21_4r8, .float .f32 i21_4r9] 32 (0, 0)) := E61.heap B58
              refine da_on rfl (Eq.trans (show sl _ _ _ = .bool (!m60) from rfl) (congrArg Value.bool (congrArg not hc63))) (d_cl (vs := [.pointer (some ⟨w38.heap.size, 0, none⟩)]) en51 (ac rfl rfl) rfl ?_)
              refine (c51 m34.1 w38.heap.size 0 #[.float .f32 q38_0r0, .float .f32 q38_0r1, .float .f32 q38_0r2, .float .f32 q38_0r3, .float .f32 q38_0r4, .float .f32 q38_0r5, .float .f32 q38_0r6, .float .f32 q38_0r7, .float .f32 q38_0r8, .float .f32 q38_0r9] 32 (0, 0) q38_0r0 q38_0r1 q38_0r2 q38_0r3 q38_0r4 q38_0r5 q38_0r6 q38_0r7 q38_0r8 q38_0r9 m64 w61 hm64 q38_0h0 q38_0h1 q38_0h2 q38_0h3 q38_0h4 q38_0h5 q38_0h6 q38_0h7 q38_0h8 q38_0h9 B65 rfl).mono ?_
              rintro _ w70 ⟨q70_0r0, q70_0r1, q70_0r2, rfl, q70_0h0, q70_0h1, q70_0h2, E70⟩
              refine ⟨_, rfl, ?_⟩
              have X71 : Ext w w70 := X62.trans E70
              obtain ⟨m72, hm72, hr⟩ := letv_out hr
              have B73 : OS w70 29 encSVector i21_0v s21.1 := B66.ext E70
              have B74 : w70.heap[w1.heap.size]? = some (.cells #[.float .f32 q28_0r0, .float .f32 q28_0r1, .float .f32 q28_0r2] 29 (0, 0)) := E70.heap B67
              have B75 : w70.heap[w4.heap.size]? = some (.cells #[.float .f32 i21_3r0, .float .f32 i21_3r1, .float .f32 i21_3r2, .float .f32 i21_3r3, .float .f32 i21_3r4, .float .f32 i21_3r5, .float .f32 i21_3r6, .float .f32 i21_3r7, .float .f32 i21_3r8, .float .f32 i21_3r9] 32 (0, 0)) := E70.heap B68
              have B76 : w70.heap[w.heap.size]? = some (.cells #[.float .f32 i21_4r0, .float .f32 i21_4r1, .float .f32 i21_4r2, .float .f32 i21_4r3, .float .f32 i21_4r4, .float .f32 i21_4r5, .float .f32 i21_4r6, .float .f32 i21_4r7, .float .f32 i21_4r8, .float .f32 i21_4r9] 32 (0, 0)) := E70.heap B69
              have B77 : w70.heap[w38.heap.size]? = some (.cells #[.float .f32 q38_0r0, .float .f32 q38_0r1, .float .f32 q38_0r2, .float .f32 q38_0r3, .float .f32 q38_0r4, .float .f32 q38_0r5, .float .f32 q38_0r6, .float .f32 q38_0r7, .float .f32 q38_0r8, .float .f32 q38_0r9] 32 (0, 0)) := E70.heap B65
              refine da_on rfl (Eq.trans (show sl _ _ _ = .bool (!m60) from rfl) (congrArg Value.bool (congrArg not hc63))) (d_cl (vs := [.agg #[.float .f32 q70_0r0, .float .f32 q70_0r1, .float .f32 q70_0r2]]) en47 (ac rfl rfl) rfl ?_)
              refine (c47 m64 q70_0r0 q70_0r1 q70_0r2 m72 w70 hm72 q70_0h0 q70_0h1 q70_0h2).mono ?_
              rintro _ w78 ⟨rfl, E78⟩
              refine ⟨_, rfl, ?_⟩
              have X79 : Ext w w78 := X71.trans E78
              refine da_on rfl (Eq.trans (show sl _ _ _ = .bool (!m60) from rfl) (congrArg Value.bool (congrArg not hc63))) (d_not rfl ?_)
              refine da_op rfl (d_pick (b := false) (Eq.trans (show ev _ _ = .bool (!m60) from rfl) (congrArg Value.bool (congrArg not hc63))) ?_)
              refine da_nil ?_
              subst hr
              exact ⟨rfl, (Ext.trans (Ext.trans (Ext.trans (Ext.refl w51) E61) E70) E78)⟩
            · skip
              replace hr := bif_f hr hc63
              refine da_off rfl (Eq.trans (show sl _ _ _ = .bool (!m60) from rfl) (congrArg Value.bool (congrArg not hc63))) (by decide) ?_
              refine da_off rfl (Eq.trans (show sl _ _ _ = .bool (!m60) from rfl) (congrArg Value.bool (congrArg not hc63))) (by decide) ?_
              refine da_off rfl (Eq.trans (show sl _ _ _ = .bool (!m60) from rfl) (congrArg Value.bool (congrArg not hc63))) (by decide) ?_
              refine da_op rfl (d_pick (b := true) (Eq.trans (show ev _ _ = .bool (!m60) from rfl) (congrArg Value.bool (congrArg not hc63))) ?_)
              refine da_nil ?_
              subst hr
              exact ⟨rfl, (Ext.trans (Ext.refl w51) E61)⟩
          · skip
            replace hr := bif_f hr hc59
            refine da_off rfl (Eq.trans (show sl _ _ _ = .bool (!m34.2) from rfl) (congrArg Value.bool (congrArg not hc59))) (by decide) ?_
            refine da_off rfl (Eq.trans (show sl _ _ _ = .bool (!m34.2) from rfl) (congrArg Value.bool (congrArg not hc59))) (by decide) ?_
            refine da_off rfl (Eq.trans (show sl _ _ _ = .bool (!m34.2) from rfl) (congrArg Value.bool (congrArg not hc59))) (by decide) ?_
            refine da_op rfl (d_pick (b := true) (Eq.trans (show ev _ _ = .bool (!m34.2) from rfl) (congrArg Value.bool (congrArg not hc59))) ?_)
            refine da_op rfl (d_mv (v := .bool true) rfl ?_)
            refine da_off rfl rfl (by decide) ?_
            refine da_off rfl rfl (by decide) ?_
            refine da_off rfl rfl (by decide) ?_
            refine da_op rfl (d_pick (b := true) rfl ?_)
            refine da_nil ?_
            subst hr
            exact ⟨rfl, (Ext.refl w51)⟩
        · skip
          rintro σ54 w54 o54 ⟨s48_54, E54⟩
          have s17_54 : σ54 17 = i21_0v := (o54 17 rfl).trans i21_S17
          have s18_54 : σ54 18 = .int .i64 s21.2.1 := (o54 18 rfl).trans i21_S18
          have s2_54 : σ54 2 = .float .f32 p2r := (o54 2 rfl).trans i21_S2
          have s3_54 : σ54 3 = .float .f32 p3r := (o54 3 rfl).trans i21_S3
          have s4_54 : σ54 4 = .float .f32 p4r := (o54 4 rfl).trans i21_S4
          have s5_54 : σ54 5 = .int .i64 p5 := (o54 5 rfl).trans i21_S5
          have s6_54 : σ54 6 = .bool p6 := (o54 6 rfl).trans i21_S6
          have s7_54 : σ54 7 = .pointer (some ⟨w.heap.size, 0, none⟩) := (o54 7 rfl).trans i21_S7
          have s8_54 : σ54 8 = .pointer (some ⟨w1.heap.size, 0, none⟩) := (o54 8 rfl).trans i21_S8
          have s14_54 : σ54 14 = .pointer (some ⟨w4.heap.size, 0, none⟩) := (o54 14 rfl).trans i21_S14
          have s19_54 : σ54 19 = .pointer (some ⟨w38.heap.size, 0, none⟩) := (o54 19 rfl).trans rfl
          have X80 : Ext w w54 := X52.trans E54
          refine W_cond (b := m54) s48_54 (fun hc81 => ?_) (fun hc81 => ?_)
          · skip
            replace hr := bif_t hr hc81
            refine W_seq ?_
            refine W_region rfl ?_
            refine da_op rfl (d_bd (vs := []) (cs := #[.float .f32 0, .float .f32 0, .float .f32 0, .float .f32 0, .float .f32 0, .float .f32 0, .float .f32 0, .float .f32 0, .float .f32 0, .float .f32 0]) rfl (by kernel_rfl) ?_)
            have B82 : w54.heap[w4.heap.size]? = some (.cells #[.float .f32 i21_3r0, .float .f32 i21_3r1, .float .f32 i21_3r2, .float .f32 i21_3r3, .float .f32 i21_3r4, .float .f32 i21_3r5, .float .f32 i21_3r6, .float .f32 i21_3r7, .float .f32 i21_3r8, .float .f32 i21_3r9] 32 (0, 0)) := E54.heap B57
            refine da_op rfl (d_store (vs := #[.float .f32 0, .float .f32 0, .float .f32 0, .float .f32 0, .float .f32 0, .float .f32 0, .float .f32 0, .float .f32 0, .float .f32 0, .float .f32 0]) s14_54 rfl B82 size32 (Nat.le_of_ble_eq_true rfl) rfl fun w83 S83 => ?_)
            have X84 : Ext w w83 := Ext.step X80 S83.frmb (fun k _ hk => hk ▸ own10)
            have B85 : w83.heap[w4.heap.size]? = some (.cells #[.float .f32 0, .float .f32 0, .float .f32 0, .float .f32 0, .float .f32 0, .float .f32 0, .float .f32 0, .float .f32 0, .float .f32 0, .float .f32 0] 32 (0, 0)) := S83.here
            refine da_op rfl (d_as (v := .slice none 0 0) rfl ?_)
            refine da_op rfl (d_as (v := .bool false) rfl ?_)
            refine da_nil ?_
            refine W_ret ?_
            obtain rfl := Option.some.inj hr
            exact ⟨_, rfl, rfl, (.slice none 0 0), 0, 0, 0, 0, 0, 0, 0, 0, 0, 0, rfl, rfl, s14_54, (OS.nil _ 29 encSVector), (fun k hk => by cases hk), cn_f32_0, cn_f32_0, cn_f32_0, cn_f32_0, cn_f32_0, cn_f32_0, cn_f32_0, cn_f32_0, cn_f32_0, cn_f32_0, B85, (by intro e; cases e), X84⟩
          · skip
            replace hr := bif_f hr hc81
            refine W_skip ?_
            refine W_seq ?_
            refine W_region rfl ?_
            have B86 : w54.heap[w38.heap.size]? = some (.cells #[.float .f32 q38_0r0, .float .f32 q38_0r1, .float .f32 q38_0r2, .float .f32 q38_0r3, .float .f32 q38_0r4, .float .f32 q38_0r5, .float .f32 q38_0r6, .float .f32 q38_0r7, .float .f32 q38_0r8, .float .f32 q38_0r9] 32 (0, 0)) := E54.heap B53
            refine da_op rfl (d_loads (vs := #[.float .f32 q38_0r0, .float .f32 q38_0r1, .float .f32 q38_0r2, .float .f32 q38_0r3, .float .f32 q38_0r4, .float .f32 q38_0r5, .float .f32 q38_0r6, .float .f32 q38_0r7, .float .f32 q38_0r8, .float .f32 q38_0r9]) s19_54 agg32 size32 B86 rfl ?_)
            have B87 : w54.heap[w.heap.size]? = some (.cells #[.float .f32 i21_4r0, .float .f32 i21_4r1, .float .f32 i21_4r2, .float .f32 i21_4r3, .float .f32 i21_4r4, .float .f32 i21_4r5, .float .f32 i21_4r6, .float .f32 i21_4r7, .float .f32 i21_4r8, .float .f32 i21_4r9] 32 (0, 0)) := E54.heap B58
            refine da_op rfl (d_store (vs := #[.float .f32 q38_0r0, .float .f32 q38_0r1, .float .f32 q38_0r2, .float .f32 q38_0r3, .float .f32 q38_0r4, .float .f32 q38_0r5, .float .f32 q38_0r6, .float .f32 q38_0r7, .float .f32 q38_0r8, .float .f32 q38_0r9]) s7_54 rfl B87 size32 (Nat.le_of_ble_eq_true rfl) rfl fun w88 S88 => ?_)
            have X89 : Ext w w88 := Ext.step X80 S88.frmb (fun k _ hk => hk ▸ own2)
            have B90 : w88.heap[w.heap.size]? = some (.cells #[.float .f32 q38_0r0, .float .f32 q38_0r1, .float .f32 q38_0r2, .float .f32 q38_0r3, .float .f32 q38_0r4, .float .f32 q38_0r5, .float .f32 q38_0r6, .float .f32 q38_0r7, .float .f32 q38_0r8, .float .f32 q38_0r9] 32 (0, 0)) := S88.here
            refine da_nil ?_
            refine W_region rfl ?_
            refine da_op rfl (d_mv (v := i21_0v) s17_54 ?_)
            obtain ⟨m91, hm91, hr⟩ := letv_out hr
            have B92 : OS w88 29 encSVector i21_0v s21.1 := (B55.ext E54).frm S88.frmb (rb i21_A2)
            have B93 : w88.heap[w1.heap.size]? = some (.cells #[.float .f32 q28_0r0, .float .f32 q28_0r1, .float .f32 q28_0r2] 29 (0, 0)) := S88.frmb.heap (Ne.symm sp6) (E54.heap B56)
            have B94 : w88.heap[w4.heap.size]? = some (.cells #[.float .f32 i21_3r0, .float .f32 i21_3r1, .float .f32 i21_3r2, .float .f32 i21_3r3, .float .f32 i21_3r4, .float .f32 i21_3r5, .float .f32 i21_3r6, .float .f32 i21_3r7, .float .f32 i21_3r8, .float .f32 i21_3r9] 32 (0, 0)) := S88.frmb.heap (Ne.symm sp11) (E54.heap B57)
            refine da_op rfl (d_cl (vs := [.pointer (some ⟨w.heap.size, 0, none⟩)]) en51 (ac s7_54 rfl) rfl ?_)
            refine (c51 m34.1 w.heap.size 0 #[.float .f32 q38_0r0, .float .f32 q38_0r1, .float .f32 q38_0r2, .float .f32 q38_0r3, .float .f32 q38_0r4, .float .f32 q38_0r5, .float .f32 q38_0r6, .float .f32 q38_0r7, .float .f32 q38_0r8, .float .f32 q38_0r9] 32 (0, 0) q38_0r0 q38_0r1 q38_0r2 q38_0r3 q38_0r4 q38_0r5 q38_0r6 q38_0r7 q38_0r8 q38_0r9 m91 w88 hm91 q38_0h0 q38_0h1 q38_0h2 q38_0h3 q38_0h4 q38_0h5 q38_0h6 q38_0h7 q38_0h8 q38_0h9 B90 rfl).mono ?_
            rintro _ w95 ⟨q95_0r0, q95_0r1, q95_0r2, rfl, q95_0h0, q95_0h1, q95_0h2, E95⟩
            refine ⟨_, rfl, ?_⟩
            have X96 : Ext w w95 := X89.trans E95
            have B98 : OS w95 29 encSVector i21_0v s21.1 := B92.ext E95
            have B99 : w95.heap[w1.heap.size]? = some (.cells #[.float .f32 q28_0r0, .float .f32 q28_0r1, .float .f32 q28_0r2] 29 (0, 0)) := E95.heap B93
            have B100 : w95.heap[w4.heap.size]? = some (.cells #[.float .f32 i21_3r0, .float .f32 i21_3r1, .float .f32 i21_3r2, .float .f32 i21_3r3, .float .f32 i21_3r4, .float .f32 i21_3r5, .float .f32 i21_3r6, .float .f32 i21_3r7, .float .f32 i21_3r8, .float .f32 i21_3r9] 32 (0, 0)) := E95.heap B94
            have B101 : w95.heap[w.heap.size]? = some (.cells #[.float .f32 q38_0r0, .float .f32 q38_0r1, .float .f32 q38_0r2, .float .f32 q38_0r3, .float .f32 q38_0r4, .float .f32 q38_0r5, .float .f32 q38_0r6, .float .f32 q38_0r7, .float .f32 q38_0r8, .float .f32 q38_0r9] 32 (0, 0)) := E95.heap B90
            refine da_op rfl (d_bslice (vs := [(0, .agg #[.float .f32 q95_0r0, .float .f32 q95_0r1, .float .f32 q95_0r2])]) (cs := #[.float .f32 q95_0r0, .float .f32 q95_0r1, .float .f32 q95_0r2]) un33 (pc rfl rfl) (by kernel_rfl) fun w97 B97 E97 => ?_)
            have fr97 : ∀ k, (Value.slice (some ⟨w95.heap.size, 0, none⟩) 1 1).ownBlock = some k → w95.heap.size ≤ k := fun k hk => by cases hk; exact Nat.le_refl _
            have own97 : ∀ k, (Value.slice (some ⟨w95.heap.size, 0, none⟩) 1 1).ownBlock = some k → w.heap.size ≤ k := fun k hk => Nat.le_trans X96.size (fr97 k hk)
            have sp102 : ∀ k, i21_0v.ownBlock = some k → ¬ (Value.slice (some ⟨w95.heap.size, 0, none⟩) 1 1).ownBlock = some k := apart_fresh B98 fr97
            have sp103 : ¬ (Value.slice (some ⟨w95.heap.size, 0, none⟩) 1 1).ownBlock = some w1.heap.size := ne_fresh fr97 (lt_heap B99)
            have sp104 : ¬ (Value.slice (some ⟨w95.heap.size, 0, none⟩) 1 1).ownBlock = some w4.heap.size := ne_fresh fr97 (lt_heap B100)
            have sp105 : ¬ (Value.slice (some ⟨w95.heap.size, 0, none⟩) 1 1).ownBlock = some w.heap.size := ne_fresh fr97 (lt_heap B101)
            have X106 : Ext w w97 := X96.trans E97
            have O97 : OS w97 29 encSVector (Value.slice (some ⟨w95.heap.size, 0, none⟩) 1 1) [m91] := OS.box (xs := [m91]) B97 (lc_f q95_0h0 (lc_f q95_0h1 (lc_f q95_0h2 rfl))) (Nat.le_of_ble_eq_true rfl)
            obtain ⟨m107, hm107, hr⟩ := bind_out hr
            have B108 : OS w97 29 encSVector i21_0v s21.1 := B98.ext E97
            have B109 : w97.heap[w1.heap.size]? = some (.cells #[.float .f32 q28_0r0, .float .f32 q28_0r1, .float .f32 q28_0r2] 29 (0, 0)) := E97.heap B99
            have B110 : w97.heap[w4.heap.size]? = some (.cells #[.float .f32 i21_3r0, .float .f32 i21_3r1, .float .f32 i21_3r2, .float .f32 i21_3r3, .float .f32 i21_3r4, .float .f32 i21_3r5, .float .f32 i21_3r6, .float .f32 i21_3r7, .float .f32 i21_3r8, .float .f32 i21_3r9] 32 (0, 0)) := E97.heap B100
            have B111 : w97.heap[w.heap.size]? = some (.cells #[.float .f32 q38_0r0, .float .f32 q38_0r1, .float .f32 q38_0r2, .float .f32 q38_0r3, .float .f32 q38_0r4, .float .f32 q38_0r5, .float .f32 q38_0r6, .float .f32 q38_0r7, .float .f32 q38_0r8, .float .f32 q38_0r9] 32 (0, 0)) := E97.heap B101
            refine da_op rfl (d_append (e := encSVector) (v := i21_0v) (y := (Value.slice (some ⟨w95.heap.size, 0, none⟩) 1 1)) un33 info29 rfl (by kernel_rfl) (by kernel_rfl) (by decide) (by decide) rfl rfl B108 O97.rs hm107 fun v112 w112 O112 Fm112 at_112 nl112 => ?_)
            have own112 : ∀ k, v112.ownBlock = some k → w.heap.size ≤ k := app_own (w := w97) at_112 i21_0O X106.size
            have sp113 : ¬ v112.ownBlock = some w1.heap.size := app_nb at_112 i21_A0 (lt_heap B109)
            have sp114 : ¬ v112.ownBlock = some w4.heap.size := app_nb at_112 i21_A1 (lt_heap B110)
            have sp115 : ¬ v112.ownBlock = some w.heap.size := app_nb at_112 i21_A2 (lt_heap B111)
            have sp116 : ∀ k, (Value.slice (some ⟨w95.heap.size, 0, none⟩) 1 1).ownBlock = some k → ¬ v112.ownBlock = some k := app_nr at_112 (apart_symm sp102) O97
            have X117 : Ext w w112 := Ext.step X106 Fm112 (fun k _ hk => i21_0O k hk)
            refine da_op rfl (d_as (v := v112) rfl ?_)
            refine da_nil ?_
            refine W_region rfl ?_
            refine da_op rfl (d_mv (v := .int .i64 s21.2.1) s18_54 ?_)
            refine da_op rfl (d_iarith rfl rfl (.inl ⟨rfl, rfl⟩) ?_)
            refine da_op rfl (d_as (v := .int .i64 (IntKind.i64.wrap (s21.2.1 + 1))) rfl ?_)
            refine da_nil ?_
            have B118 : w112.heap[w1.heap.size]? = some (.cells #[.float .f32 q28_0r0, .float .f32 q28_0r1, .float .f32 q28_0r2] 29 (0, 0)) := Fm112.heap i21_A0 B109
            have B119 : w112.heap[w4.heap.size]? = some (.cells #[.float .f32 i21_3r0, .float .f32 i21_3r1, .float .f32 i21_3r2, .float .f32 i21_3r3, .float .f32 i21_3r4, .float .f32 i21_3r5, .float .f32 i21_3r6, .float .f32 i21_3r7, .float .f32 i21_3r8, .float .f32 i21_3r9] 32 (0, 0)) := Fm112.heap i21_A1 B110
            have B120 : w112.heap[w.heap.size]? = some (.cells #[.float .f32 q38_0r0, .float .f32 q38_0r1, .float .f32 q38_0r2, .float .f32 q38_0r3, .float .f32 q38_0r4, .float .f32 q38_0r5, .float .f32 q38_0r6, .float .f32 q38_0r7, .float .f32 q38_0r8, .float .f32 q38_0r9] 32 (0, 0)) := Fm112.heap i21_A2 B111
            obtain rfl := Option.some.inj hr
            exact ⟨_, rfl, ⟨v112, q28_0r0, q28_0r1, q28_0r2, i21_3r0, i21_3r1, i21_3r2, i21_3r3, i21_3r4, i21_3r5, i21_3r6, i21_3r7, i21_3r8, i21_3r9, q38_0r0, q38_0r1, q38_0r2, q38_0r3, q38_0r4, q38_0r5, q38_0r6, q38_0r7, q38_0r8, q38_0r9, rfl, rfl, s2_54, s3_54, s4_54, s5_54, s6_54, s7_54, s8_54, s14_54, O112, own112, q28_0h0, q28_0h1, q28_0h2, B118, i21_3h0, i21_3h1, i21_3h2, i21_3h3, i21_3h4, i21_3h5, i21_3h6, i21_3h7, i21_3h8, i21_3h9, B119, q38_0h0, q38_0h1, q38_0h2, q38_0h3, q38_0h4, q38_0h5, q38_0h6, q38_0h7, q38_0h8, q38_0h9, B120, sp113, sp114, sp115, X117⟩⟩
      · skip
        replace hr := bif_f hr hc26
        refine W_skip ?_
        refine W_seq ?_
        refine W_region rfl ?_
        refine da_op rfl (d_loads (vs := #[.float .f32 i21_2r0, .float .f32 i21_2r1, .float .f32 i21_2r2]) i21_S8 agg29 size29 i21_2B rfl ?_)
        refine da_op rfl (d_mv (v := .float .f32 p4r) i21_S4 ?_)
        obtain ⟨m121, hm121, hr⟩ := letv_out hr
        refine da_op rfl (d_cl (vs := [.pointer (some ⟨w.heap.size, 0, none⟩), .agg #[.float .f32 i21_2r0, .float .f32 i21_2r1, .float .f32 i21_2r2], .float .f32 p4r]) en50 (ac i21_S7 (ac rfl (ac rfl rfl))) rfl ?_)
        refine (c50 s21.2.2.2.2 s21.2.2.1 p4 w.heap.size 0 #[.float .f32 i21_4r0, .float .f32 i21_4r1, .float .f32 i21_4r2, .float .f32 i21_4r3, .float .f32 i21_4r4, .float .f32 i21_4r5, .float .f32 i21_4r6, .float .f32 i21_4r7, .float .f32 i21_4r8, .float .f32 i21_4r9] 32 (0, 0) i21_4r0 i21_4r1 i21_4r2 i21_4r3 i21_4r4 i21_4r5 i21_4r6 i21_4r7 i21_4r8 i21_4r9 i21_2r0 i21_2r1 i21_2r2 p4r m121 wl21 hm121 i21_4h0 i21_4h1 i21_4h2 i21_4h3 i21_4h4 i21_4h5 i21_4h6 i21_4h7 i21_4h8 i21_4h9 i21_4B rfl i21_2h0 i21_2h1 i21_2h2 p4h).mono ?_
        rintro _ w122 ⟨q122_0r0, q122_0r1, q122_0r2, q122_0r3, q122_0r4, q122_0r5, q122_0r6, q122_0r7, q122_0r8, q122_0r9, rfl, q122_0h0, q122_0h1, q122_0h2, q122_0h3, q122_0h4, q122_0h5, q122_0h6, q122_0h7, q122_0h8, q122_0h9, E122⟩
        refine ⟨_, rfl, ?_⟩
        have X123 : Ext w w122 := i21_X.trans E122
        refine da_op rfl (d_mv (v := .tuple #[.agg #[.float .f32 q122_0r0, .float .f32 q122_0r1, .float .f32 q122_0r2, .float .f32 q122_0r3, .float .f32 q122_0r4, .float .f32 q122_0r5, .float .f32 q122_0r6, .float .f32 q122_0r7, .float .f32 q122_0r8, .float .f32 q122_0r9], .bool m121.2]) rfl ?_)
        refine da_op rfl (d_extract (v := .agg #[.float .f32 q122_0r0, .float .f32 q122_0r1, .float .f32 q122_0r2, .float .f32 q122_0r3, .float .f32 q122_0r4, .float .f32 q122_0r5, .float .f32 q122_0r6, .float .f32 q122_0r7, .float .f32 q122_0r8, .float .f32 q122_0r9]) rfl rfl ?_)
        refine da_op rfl (d_extract (v := .bool m121.2) rfl rfl ?_)
        have B125 : OS w122 29 encSVector i21_0v s21.1 := i21_0R.ext E122
        have B126 : w122.heap[w1.heap.size]? = some (.cells #[.float .f32 i21_2r0, .float .f32 i21_2r1, .float .f32 i21_2r2] 29 (0, 0)) := E122.heap i21_2B
        have B127 : w122.heap[w4.heap.size]? = some (.cells #[.float .f32 i21_3r0, .float .f32 i21_3r1, .float .f32 i21_3r2, .float .f32 i21_3r3, .float .f32 i21_3r4, .float .f32 i21_3r5, .float .f32 i21_3r6, .float .f32 i21_3r7, .float .f32 i21_3r8, .float .f32 i21_3r9] 32 (0, 0)) := E122.heap i21_3B
        have B128 : w122.heap[w.heap.size]? = some (.cells #[.float .f32 i21_4r0, .float .f32 i21_4r1, .float .f32 i21_4r2, .float .f32 i21_4r3, .float .f32 i21_4r4, .float .f32 i21_4r5, .float .f32 i21_4r6, .float .f32 i21_4r7, .float .f32 i21_4r8, .float .f32 i21_4r9] 32 (0, 0)) := E122.heap i21_4B
        refine da_op rfl (d_alloc (cs := #[.float .f32 0, .float .f32 0, .float .f32 0, .float .f32 0, .float .f32 0, .float .f32 0, .float .f32 0, .float .f32 0, .float .f32 0, .float .f32 0]) zero32 rfl fun w124 B124 E124 => ?_)
        have own129 : w.heap.size ≤ w122.heap.size := Nat.le_trans X123.size (Nat.le_refl _)
        have sp130 : ¬ i21_0v.ownBlock = some w122.heap.size := OS.ne_new B125 (Nat.le_refl _)
        have sp131 : w1.heap.size ≠ w122.heap.size := Nat.ne_of_lt (Nat.lt_of_lt_of_le (lt_heap B126) (Nat.le_refl _))
        have sp132 : w4.heap.size ≠ w122.heap.size := Nat.ne_of_lt (Nat.lt_of_lt_of_le (lt_heap B127) (Nat.le_refl _))
        have sp133 : w.heap.size ≠ w122.heap.size := Nat.ne_of_lt (Nat.lt_of_lt_of_le (lt_heap B128) (Nat.le_refl _))
        have X134 : Ext w w124 := X123.trans E124
        refine da_op rfl (d_store (vs := #[.float .f32 q122_0r0, .float .f32 q122_0r1, .float .f32 q122_0r2, .float .f32 q122_0r3, .float .f32 q122_0r4, .float .f32 q122_0r5, .float .f32 q122_0r6, .float .f32 q122_0r7, .float .f32 q122_0r8, .float .f32 q122_0r9]) rfl rfl B124 size32 (Nat.le_of_ble_eq_true rfl) rfl fun w135 S135 => ?_)
        have X136 : Ext w w135 := Ext.step X134 S135.frmb (fun k _ hk => hk ▸ own129)
        have B137 : w135.heap[w122.heap.size]? = some (.cells #[.float .f32 q122_0r0, .float .f32 q122_0r1, .float .f32 q122_0r2, .float .f32 q122_0r3, .float .f32 q122_0r4, .float .f32 q122_0r5, .float .f32 q122_0r6, .float .f32 q122_0r7, .float .f32 q122_0r8, .float .f32 q122_0r9] 32 (0, 0)) := S135.here
        refine da_op rfl (d_as (v := .bool m121.2) rfl ?_)
        refine da_nil ?_
        refine W_seq ?_
        refine W_seq ?_
        have B139 : OS w135 29 encSVector i21_0v s21.1 := (B125.ext E124).frm S135.frmb (rb sp130)
        have B140 : w135.heap[w1.heap.size]? = some (.cells #[.float .f32 i21_2r0, .float .f32 i21_2r1, .float .f32 i21_2r2] 29 (0, 0)) := S135.frmb.heap sp131 (E124.heap B126)
        have B141 : w135.heap[w4.heap.size]? = some (.cells #[.float .f32 i21_3r0, .float .f32 i21_3r1, .float .f32 i21_3r2, .float .f32 i21_3r3, .float .f32 i21_3r4, .float .f32 i21_3r5, .float .f32 i21_3r6, .float .f32 i21_3r7, .float .f32 i21_3r8, .float .f32 i21_3r9] 32 (0, 0)) := S135.frmb.heap sp132 (E124.heap B127)
        have B142 : w135.heap[w.heap.size]? = some (.cells #[.float .f32 i21_4r0, .float .f32 i21_4r1, .float .f32 i21_4r2, .float .f32 i21_4r3, .float .f32 i21_4r4, .float .f32 i21_4r5, .float .f32 i21_4r6, .float .f32 i21_4r7, .float .f32 i21_4r8, .float .f32 i21_4r9] 32 (0, 0)) := S135.frmb.heap sp133 (E124.heap B128)
        obtain ⟨m138, hm138, hr⟩ := letv_out hr
        refine W_cut (fun σ' w' => σ' 48 = .bool m138 ∧ Ext w135 w') rfl ?_ ?_
        · skip
          have hr := hm138
          refine da_op rfl (d_mv (v := .bool m121.2) rfl ?_)
          refine da_op rfl (d_not rfl ?_)
          refine da_op rfl (d_mv (v := .bool (!m121.2)) rfl ?_)
          rcases Bool.eq_false_or_eq_true m121.2 with hc143 | hc143
          · skip
            replace hr := bif_t hr hc143
            refine da_on rfl (Eq.trans (show sl _ _ _ = .bool (!m121.2) from rfl) (congrArg Value.bool (congrArg not hc143))) (d_loads (vs := #[.float .f32 i21_2r0, .float .f32 i21_2r1, .float .f32 i21_2r2]) i21_S8 agg29 size29 B140 rfl ?_)
            obtain ⟨m144, hm144, hr⟩ := letv_out hr
            refine da_on rfl (Eq.trans (show sl _ _ _ = .bool (!m121.2) from rfl) (congrArg Value.bool (congrArg not hc143))) (d_cl (vs := [.agg #[.float .f32 i21_2r0, .float .f32 i21_2r1, .float .f32 i21_2r2]]) en47 (ac rfl rfl) rfl ?_)
            refine (c47 s21.2.2.1 i21_2r0 i21_2r1 i21_2r2 m144 w135 hm144 i21_2h0 i21_2h1 i21_2h2).mono ?_
            rintro _ w145 ⟨rfl, E145⟩
            refine ⟨_, rfl, ?_⟩
            have X146 : Ext w w145 := X136.trans E145
            refine da_on rfl (Eq.trans (show sl _ _ _ = .bool (!m121.2) from rfl) (congrArg Value.bool (congrArg not hc143))) (d_not rfl ?_)
            refine da_op rfl (d_pick (b := false) (Eq.trans (show ev _ _ = .bool (!m121.2) from rfl) (congrArg Value.bool (congrArg not hc143))) ?_)
            refine da_op rfl (d_mv (v := .bool (!m144)) rfl ?_)
            rcases Bool.eq_false_or_eq_true m144 with hc147 | hc147
            · skip
              replace hr := bif_t hr hc147
              obtain ⟨m148, hm148, hr⟩ := letv_out hr
              have B149 : w145.heap[w122.heap.size]? = some (.cells #[.float .f32 q122_0r0, .float .f32 q122_0r1, .float .f32 q122_0r2, .float .f32 q122_0r3, .float .f32 q122_0r4, .float .f32 q122_0r5, .float .f32 q122_0r6, .float .f32 q122_0r7, .float .f32 q122_0r8, .float .f32 q122_0r9] 32 (0, 0)) := E145.heap B137
              have B150 : OS w145 29 encSVector i21_0v s21.1 := B139.ext E145
              have B151 : w145.heap[w1.heap.size]? = some (.cells #[.float .f32 i21_2r0, .float .f32 i21_2r1, .float .f32 i21_2r2] 29 (0, 0)) := E145.heap B140
              have B152 : w145.heap[w4.heap.size]? = some (.cells #[.float .f32 i21_3r0, .float .f32 i21_3r1, .float .f32 i21_3r2, .float .f32 i21_3r3, .float .f32 i21_3r4, .float .f32 i21_3r5, .float .f32 i21_3r6, .float .f32 i21_3r7, .float .f32 i21_3r8, .float .f32 i21_3r9] 32 (0, 0)) := E145.heap B141
              have B153 : w145.heap[w.heap.size]? = some (.cells #[.float .f32 i21_4r0, .float .f32 i21_4r1, .float .f32 i21_4r2, .float .f32 i21_4r3, .float .f32 i21_4r4, .float .f32 i21_4r5, .float .f32 i21_4r6, .float .f32 i21_4r7, .float .f32 i21_4r8, .float .f32 i21_4r9] 32 (0, 0)) := E145.heap B142
              refine da_on rfl (Eq.trans (show sl _ _ _ = .bool (!m144) from rfl) (congrArg Value.bool (congrArg not hc147))) (d_cl (vs := [.pointer (some ⟨w122.heap.size, 0, none⟩)]) en51 (ac rfl rfl) rfl ?_)
              refine (c51 m121.1 w122.heap.size 0 #[.float .f32 q122_0r0, .float .f32 q122_0r1, .float .f32 q122_0r2, .float .f32 q122_0r3, .float .f32 q122_0r4, .float .f32 q122_0r5, .float .f32 q122_0r6, .float .f32 q122_0r7, .float .f32 q122_0r8, .float .f32 q122_0r9] 32 (0, 0) q122_0r0 q122_0r1 q122_0r2 q122_0r3 q122_0r4 q122_0r5 q122_0r6 q122_0r7 q122_0r8 q122_0r9 m148 w145 hm148 q122_0h0 q122_0h1 q122_0h2 q122_0h3 q122_0h4 q122_0h5 q122_0h6 q122_0h7 q122_0h8 q122_0h9 B149 rfl).mono ?_
              rintro _ w154 ⟨q154_0r0, q154_0r1, q154_0r2, rfl, q154_0h0, q154_0h1, q154_0h2, E154⟩
              refine ⟨_, rfl, ?_⟩
              have X155 : Ext w w154 := X146.trans E154
              obtain ⟨m156, hm156, hr⟩ := letv_out hr
              have B157 : OS w154 29 encSVector i21_0v s21.1 := B150.ext E154
              have B158 : w154.heap[w1.heap.size]? = some (.cells #[.float .f32 i21_2r0, .float .f32 i21_2r1, .float .f32 i21_2r2] 29 (0, 0)) := E154.heap B151
              have B159 : w154.heap[w4.heap.size]? = some (.cells #[.float .f32 i21_3r0, .float .f32 i21_3r1, .float .f32 i21_3r2, .float .f32 i21_3r3, .float .f32 i21_3r4, .float .f32 i21_3r5, .float .f32 i21_3r6, .float .f32 i21_3r7, .float .f32 i21_3r8, .float .f32 i21_3r9] 32 (0, 0)) := E154.heap B152
              have B160 : w154.heap[w.heap.size]? = some (.cells #[.float .f32 i21_4r0, .float .f32 i21_4r1, .float .f32 i21_4r2, .float .f32 i21_4r3, .float .f32 i21_4r4, .float .f32 i21_4r5, .float .f32 i21_4r6, .float .f32 i21_4r7, .float .f32 i21_4r8, .float .f32 i21_4r9] 32 (0, 0)) := E154.heap B153
              have B161 : w154.heap[w122.heap.size]? = some (.cells #[.float .f32 q122_0r0, .float .f32 q122_0r1, .float .f32 q122_0r2, .float .f32 q122_0r3, .float .f32 q122_0r4, .float .f32 q122_0r5, .float .f32 q122_0r6, .float .f32 q122_0r7, .float .f32 q122_0r8, .float .f32 q122_0r9] 32 (0, 0)) := E154.heap B149
              refine da_on rfl (Eq.trans (show sl _ _ _ = .bool (!m144) from rfl) (congrArg Value.bool (congrArg not hc147))) (d_cl (vs := [.agg #[.float .f32 q154_0r0, .float .f32 q154_0r1, .float .f32 q154_0r2]]) en47 (ac rfl rfl) rfl ?_)
              refine (c47 m148 q154_0r0 q154_0r1 q154_0r2 m156 w154 hm156 q154_0h0 q154_0h1 q154_0h2).mono ?_
              rintro _ w162 ⟨rfl, E162⟩
              refine ⟨_, rfl, ?_⟩
              have X163 : Ext w w162 := X155.trans E162
              refine da_on rfl (Eq.trans (show sl _ _ _ = .bool (!m144) from rfl) (congrArg Value.bool (congrArg not hc147))) (d_not rfl ?_)
              refine da_op rfl (d_pick (b := false) (Eq.trans (show ev _ _ = .bool (!m144) from rfl) (congrArg Value.bool (congrArg not hc147))) ?_)
              refine da_nil ?_
              subst hr
              exact ⟨rfl, (Ext.trans (Ext.trans (Ext.trans (Ext.refl w135) E145) E154) E162)⟩
            · skip
              replace hr := bif_f hr hc147
              refine da_off rfl (Eq.trans (show sl _ _ _ = .bool (!m144) from rfl) (congrArg Value.bool (congrArg not hc147))) (by decide) ?_
              refine da_off rfl (Eq.trans (show sl _ _ _ = .bool (!m144) from rfl) (congrArg Value.bool (congrArg not hc147))) (by decide) ?_
              refine da_off rfl (Eq.trans (show sl _ _ _ = .bool (!m144) from rfl) (congrArg Value.bool (congrArg not hc147))) (by decide) ?_
              refine da_op rfl (d_pick (b := true) (Eq.trans (show ev _ _ = .bool (!m144) from rfl) (congrArg Value.bool (congrArg not hc147))) ?_)
              refine da_nil ?_
              subst hr
              exact ⟨rfl, (Ext.trans (Ext.refl w135) E145)⟩
          · skip
            replace hr := bif_f hr hc143
            refine da_off rfl (Eq.trans (show sl _ _ _ = .bool (!m121.2) from rfl) (congrArg Value.bool (congrArg not hc143))) (by decide) ?_
            refine da_off rfl (Eq.trans (show sl _ _ _ = .bool (!m121.2) from rfl) (congrArg Value.bool (congrArg not hc143))) (by decide) ?_
            refine da_off rfl (Eq.trans (show sl _ _ _ = .bool (!m121.2) from rfl) (congrArg Value.bool (congrArg not hc143))) (by decide) ?_
            refine da_op rfl (d_pick (b := true) (Eq.trans (show ev _ _ = .bool (!m121.2) from rfl) (congrArg Value.bool (congrArg not hc143))) ?_)
            refine da_op rfl (d_mv (v := .bool true) rfl ?_)
            refine da_off rfl rfl (by decide) ?_
            refine da_off rfl rfl (by decide) ?_
            refine da_off rfl rfl (by decide) ?_
            refine da_op rfl (d_pick (b := true) rfl ?_)
            refine da_nil ?_
            subst hr
            exact ⟨rfl, (Ext.refl w135)⟩
        · skip
          rintro σ138 w138 o138 ⟨s48_138, E138⟩
          have s17_138 : σ138 17 = i21_0v := (o138 17 rfl).trans i21_S17
          have s18_138 : σ138 18 = .int .i64 s21.2.1 := (o138 18 rfl).trans i21_S18
          have s2_138 : σ138 2 = .float .f32 p2r := (o138 2 rfl).trans i21_S2
          have s3_138 : σ138 3 = .float .f32 p3r := (o138 3 rfl).trans i21_S3
          have s4_138 : σ138 4 = .float .f32 p4r := (o138 4 rfl).trans i21_S4
          have s5_138 : σ138 5 = .int .i64 p5 := (o138 5 rfl).trans i21_S5
          have s6_138 : σ138 6 = .bool p6 := (o138 6 rfl).trans i21_S6
          have s7_138 : σ138 7 = .pointer (some ⟨w.heap.size, 0, none⟩) := (o138 7 rfl).trans i21_S7
          have s8_138 : σ138 8 = .pointer (some ⟨w1.heap.size, 0, none⟩) := (o138 8 rfl).trans i21_S8
          have s14_138 : σ138 14 = .pointer (some ⟨w4.heap.size, 0, none⟩) := (o138 14 rfl).trans i21_S14
          have s19_138 : σ138 19 = .pointer (some ⟨w122.heap.size, 0, none⟩) := (o138 19 rfl).trans rfl
          have X164 : Ext w w138 := X136.trans E138
          refine W_cond (b := m138) s48_138 (fun hc165 => ?_) (fun hc165 => ?_)
          · skip
            replace hr := bif_t hr hc165
            refine W_seq ?_
            refine W_region rfl ?_
            refine da_op rfl (d_bd (vs := []) (cs := #[.float .f32 0, .float .f32 0, .float .f32 0, .float .f32 0, .float .f32 0, .float .f32 0, .float .f32 0, .float .f32 0, .float .f32 0, .float .f32 0]) rfl (by kernel_rfl) ?_)
            have B166 : w138.heap[w4.heap.size]? = some (.cells #[.float .f32 i21_3r0, .float .f32 i21_3r1, .float .f32 i21_3r2, .float .f32 i21_3r3, .float .f32 i21_3r4, .float .f32 i21_3r5, .float .f32 i21_3r6, .float .f32 i21_3r7, .float .f32 i21_3r8, .float .f32 i21_3r9] 32 (0, 0)) := E138.heap B141
            refine da_op rfl (d_store (vs := #[.float .f32 0, .float .f32 0, .float .f32 0, .float .f32 0, .float .f32 0, .float .f32 0, .float .f32 0, .float .f32 0, .float .f32 0, .float .f32 0]) s14_138 rfl B166 size32 (Nat.le_of_ble_eq_true rfl) rfl fun w167 S167 => ?_)
            have X168 : Ext w w167 := Ext.step X164 S167.frmb (fun k _ hk => hk ▸ own10)
            have B169 : w167.heap[w4.heap.size]? = some (.cells #[.float .f32 0, .float .f32 0, .float .f32 0, .float .f32 0, .float .f32 0, .float .f32 0, .float .f32 0, .float .f32 0, .float .f32 0, .float .f32 0] 32 (0, 0)) := S167.here
            refine da_op rfl (d_as (v := .slice none 0 0) rfl ?_)
            refine da_op rfl (d_as (v := .bool false) rfl ?_)
            refine da_nil ?_
            refine W_ret ?_
            obtain rfl := Option.some.inj hr
            exact ⟨_, rfl, rfl, (.slice none 0 0), 0, 0, 0, 0, 0, 0, 0, 0, 0, 0, rfl, rfl, s14_138, (OS.nil _ 29 encSVector), (fun k hk => by cases hk), cn_f32_0, cn_f32_0, cn_f32_0, cn_f32_0, cn_f32_0, cn_f32_0, cn_f32_0, cn_f32_0, cn_f32_0, cn_f32_0, B169, (by intro e; cases e), X168⟩
          · skip
            replace hr := bif_f hr hc165
            refine W_skip ?_
            refine W_seq ?_
            refine W_region rfl ?_
            have B170 : w138.heap[w122.heap.size]? = some (.cells #[.float .f32 q122_0r0, .float .f32 q122_0r1, .float .f32 q122_0r2, .float .f32 q122_0r3, .float .f32 q122_0r4, .float .f32 q122_0r5, .float .f32 q122_0r6, .float .f32 q122_0r7, .float .f32 q122_0r8, .float .f32 q122_0r9] 32 (0, 0)) := E138.heap B137
            refine da_op rfl (d_loads (vs := #[.float .f32 q122_0r0, .float .f32 q122_0r1, .float .f32 q122_0r2, .float .f32 q122_0r3, .float .f32 q122_0r4, .float .f32 q122_0r5, .float .f32 q122_0r6, .float .f32 q122_0r7, .float .f32 q122_0r8, .float .f32 q122_0r9]) s19_138 agg32 size32 B170 rfl ?_)
            have B171 : w138.heap[w.heap.size]? = some (.cells #[.float .f32 i21_4r0, .float .f32 i21_4r1, .float .f32 i21_4r2, .float .f32 i21_4r3, .float .f32 i21_4r4, .float .f32 i21_4r5, .float .f32 i21_4r6, .float .f32 i21_4r7, .float .f32 i21_4r8, .float .f32 i21_4r9] 32 (0, 0)) := E138.heap B142
            refine da_op rfl (d_store (vs := #[.float .f32 q122_0r0, .float .f32 q122_0r1, .float .f32 q122_0r2, .float .f32 q122_0r3, .float .f32 q122_0r4, .float .f32 q122_0r5, .float .f32 q122_0r6, .float .f32 q122_0r7, .float .f32 q122_0r8, .float .f32 q122_0r9]) s7_138 rfl B171 size32 (Nat.le_of_ble_eq_true rfl) rfl fun w172 S172 => ?_)
            have X173 : Ext w w172 := Ext.step X164 S172.frmb (fun k _ hk => hk ▸ own2)
            have B174 : w172.heap[w.heap.size]? = some (.cells #[.float .f32 q122_0r0, .float .f32 q122_0r1, .float .f32 q122_0r2, .float .f32 q122_0r3, .float .f32 q122_0r4, .float .f32 q122_0r5, .float .f32 q122_0r6, .float .f32 q122_0r7, .float .f32 q122_0r8, .float .f32 q122_0r9] 32 (0, 0)) := S172.here
            refine da_nil ?_
            refine W_region rfl ?_
            refine da_op rfl (d_mv (v := i21_0v) s17_138 ?_)
            obtain ⟨m175, hm175, hr⟩ := letv_out hr
            have B176 : OS w172 29 encSVector i21_0v s21.1 := (B139.ext E138).frm S172.frmb (rb i21_A2)
            have B177 : w172.heap[w1.heap.size]? = some (.cells #[.float .f32 i21_2r0, .float .f32 i21_2r1, .float .f32 i21_2r2] 29 (0, 0)) := S172.frmb.heap (Ne.symm sp6) (E138.heap B140)
            have B178 : w172.heap[w4.heap.size]? = some (.cells #[.float .f32 i21_3r0, .float .f32 i21_3r1, .float .f32 i21_3r2, .float .f32 i21_3r3, .float .f32 i21_3r4, .float .f32 i21_3r5, .float .f32 i21_3r6, .float .f32 i21_3r7, .float .f32 i21_3r8, .float .f32 i21_3r9] 32 (0, 0)) := S172.frmb.heap (Ne.symm sp11) (E138.heap B141)
            refine da_op rfl (d_cl (vs := [.pointer (some ⟨w.heap.size, 0, none⟩)]) en51 (ac s7_138 rfl) rfl ?_)
            refine (c51 m121.1 w.heap.size 0 #[.float .f32 q122_0r0, .float .f32 q122_0r1, .float .f32 q122_0r2, .float .f32 q122_0r3, .float .f32 q122_0r4, .float .f32 q122_0r5, .float .f32 q122_0r6, .float .f32 q122_0r7, .float .f32 q122_0r8, .float .f32 q122_0r9] 32 (0, 0) q122_0r0 q122_0r1 q122_0r2 q122_0r3 q122_0r4 q122_0r5 q122_0r6 q122_0r7 q122_0r8 q122_0r9 m175 w172 hm175 q122_0h0 q122_0h1 q122_0h2 q122_0h3 q122_0h4 q122_0h5 q122_0h6 q122_0h7 q122_0h8 q122_0h9 B174 rfl).mono ?_
            rintro _ w179 ⟨q179_0r0, q179_0r1, q179_0r2, rfl, q179_0h0, q179_0h1, q179_0h2, E179⟩
            refine ⟨_, rfl, ?_⟩
            have X180 : Ext w w179 := X173.trans E179
            have B182 : OS w179 29 encSVector i21_0v s21.1 := B176.ext E179
            have B183 : w179.heap[w1.heap.size]? = some (.cells #[.float .f32 i21_2r0, .float .f32 i21_2r1, .float .f32 i21_2r2] 29 (0, 0)) := E179.heap B177
            have B184 : w179.heap[w4.heap.size]? = some (.cells #[.float .f32 i21_3r0, .float .f32 i21_3r1, .float .f32 i21_3r2, .float .f32 i21_3r3, .float .f32 i21_3r4, .float .f32 i21_3r5, .float .f32 i21_3r6, .float .f32 i21_3r7, .float .f32 i21_3r8, .float .f32 i21_3r9] 32 (0, 0)) := E179.heap B178
            have B185 : w179.heap[w.heap.size]? = some (.cells #[.float .f32 q122_0r0, .float .f32 q122_0r1, .float .f32 q122_0r2, .float .f32 q122_0r3, .float .f32 q122_0r4, .float .f32 q122_0r5, .float .f32 q122_0r6, .float .f32 q122_0r7, .float .f32 q122_0r8, .float .f32 q122_0r9] 32 (0, 0)) := E179.heap B174
            refine da_op rfl (d_bslice (vs := [(0, .agg #[.float .f32 q179_0r0, .float .f32 q179_0r1, .float .f32 q179_0r2])]) (cs := #[.float .f32 q179_0r0, .float .f32 q179_0r1, .float .f32 q179_0r2]) un33 (pc rfl rfl) (by kernel_rfl) fun w181 B181 E181 => ?_)
            have fr181 : ∀ k, (Value.slice (some ⟨w179.heap.size, 0, none⟩) 1 1).ownBlock = some k → w179.heap.size ≤ k := fun k hk => by cases hk; exact Nat.le_refl _
            have own181 : ∀ k, (Value.slice (some ⟨w179.heap.size, 0, none⟩) 1 1).ownBlock = some k → w.heap.size ≤ k := fun k hk => Nat.le_trans X180.size (fr181 k hk)
            have sp186 : ∀ k, i21_0v.ownBlock = some k → ¬ (Value.slice (some ⟨w179.heap.size, 0, none⟩) 1 1).ownBlock = some k := apart_fresh B182 fr181
            have sp187 : ¬ (Value.slice (some ⟨w179.heap.size, 0, none⟩) 1 1).ownBlock = some w1.heap.size := ne_fresh fr181 (lt_heap B183)
            have sp188 : ¬ (Value.slice (some ⟨w179.heap.size, 0, none⟩) 1 1).ownBlock = some w4.heap.size := ne_fresh fr181 (lt_heap B184)
            have sp189 : ¬ (Value.slice (some ⟨w179.heap.size, 0, none⟩) 1 1).ownBlock = some w.heap.size := ne_fresh fr181 (lt_heap B185)
            have X190 : Ext w w181 := X180.trans E181
            have O181 : OS w181 29 encSVector (Value.slice (some ⟨w179.heap.size, 0, none⟩) 1 1) [m175] := OS.box (xs := [m175]) B181 (lc_f q179_0h0 (lc_f q179_0h1 (lc_f q179_0h2 rfl))) (Nat.le_of_ble_eq_true rfl)
            obtain ⟨m191, hm191, hr⟩ := bind_out hr
            have B192 : OS w181 29 encSVector i21_0v s21.1 := B182.ext E181
            have B193 : w181.heap[w1.heap.size]? = some (.cells #[.float .f32 i21_2r0, .float .f32 i21_2r1, .float .f32 i21_2r2] 29 (0, 0)) := E181.heap B183
            have B194 : w181.heap[w4.heap.size]? = some (.cells #[.float .f32 i21_3r0, .float .f32 i21_3r1, .float .f32 i21_3r2, .float .f32 i21_3r3, .float .f32 i21_3r4, .float .f32 i21_3r5, .float .f32 i21_3r6, .float .f32 i21_3r7, .float .f32 i21_3r8, .float .f32 i21_3r9] 32 (0, 0)) := E181.heap B184
            have B195 : w181.heap[w.heap.size]? = some (.cells #[.float .f32 q122_0r0, .float .f32 q122_0r1, .float .f32 q122_0r2, .float .f32 q122_0r3, .float .f32 q122_0r4, .float .f32 q122_0r5, .float .f32 q122_0r6, .float .f32 q122_0r7, .float .f32 q122_0r8, .float .f32 q122_0r9] 32 (0, 0)) := E181.heap B185
            refine da_op rfl (d_append (e := encSVector) (v := i21_0v) (y := (Value.slice (some ⟨w179.heap.size, 0, none⟩) 1 1)) un33 info29 rfl (by kernel_rfl) (by kernel_rfl) (by decide) (by decide) rfl rfl B192 O181.rs hm191 fun v196 w196 O196 Fm196 at_196 nl196 => ?_)
            have own196 : ∀ k, v196.ownBlock = some k → w.heap.size ≤ k := app_own (w := w181) at_196 i21_0O X190.size
            have sp197 : ¬ v196.ownBlock = some w1.heap.size := app_nb at_196 i21_A0 (lt_heap B193)
            have sp198 : ¬ v196.ownBlock = some w4.heap.size := app_nb at_196 i21_A1 (lt_heap B194)
            have sp199 : ¬ v196.ownBlock = some w.heap.size := app_nb at_196 i21_A2 (lt_heap B195)
            have sp200 : ∀ k, (Value.slice (some ⟨w179.heap.size, 0, none⟩) 1 1).ownBlock = some k → ¬ v196.ownBlock = some k := app_nr at_196 (apart_symm sp186) O181
            have X201 : Ext w w196 := Ext.step X190 Fm196 (fun k _ hk => i21_0O k hk)
            refine da_op rfl (d_as (v := v196) rfl ?_)
            refine da_nil ?_
            refine W_region rfl ?_
            refine da_op rfl (d_mv (v := .int .i64 s21.2.1) s18_138 ?_)
            refine da_op rfl (d_iarith rfl rfl (.inl ⟨rfl, rfl⟩) ?_)
            refine da_op rfl (d_as (v := .int .i64 (IntKind.i64.wrap (s21.2.1 + 1))) rfl ?_)
            refine da_nil ?_
            have B202 : w196.heap[w1.heap.size]? = some (.cells #[.float .f32 i21_2r0, .float .f32 i21_2r1, .float .f32 i21_2r2] 29 (0, 0)) := Fm196.heap i21_A0 B193
            have B203 : w196.heap[w4.heap.size]? = some (.cells #[.float .f32 i21_3r0, .float .f32 i21_3r1, .float .f32 i21_3r2, .float .f32 i21_3r3, .float .f32 i21_3r4, .float .f32 i21_3r5, .float .f32 i21_3r6, .float .f32 i21_3r7, .float .f32 i21_3r8, .float .f32 i21_3r9] 32 (0, 0)) := Fm196.heap i21_A1 B194
            have B204 : w196.heap[w.heap.size]? = some (.cells #[.float .f32 q122_0r0, .float .f32 q122_0r1, .float .f32 q122_0r2, .float .f32 q122_0r3, .float .f32 q122_0r4, .float .f32 q122_0r5, .float .f32 q122_0r6, .float .f32 q122_0r7, .float .f32 q122_0r8, .float .f32 q122_0r9] 32 (0, 0)) := Fm196.heap i21_A2 B195
            obtain rfl := Option.some.inj hr
            exact ⟨_, rfl, ⟨v196, i21_2r0, i21_2r1, i21_2r2, i21_3r0, i21_3r1, i21_3r2, i21_3r3, i21_3r4, i21_3r5, i21_3r6, i21_3r7, i21_3r8, i21_3r9, q122_0r0, q122_0r1, q122_0r2, q122_0r3, q122_0r4, q122_0r5, q122_0r6, q122_0r7, q122_0r8, q122_0r9, rfl, rfl, s2_138, s3_138, s4_138, s5_138, s6_138, s7_138, s8_138, s14_138, O196, own196, i21_2h0, i21_2h1, i21_2h2, B202, i21_3h0, i21_3h1, i21_3h2, i21_3h3, i21_3h4, i21_3h5, i21_3h6, i21_3h7, i21_3h8, i21_3h9, B203, q122_0h0, q122_0h1, q122_0h2, q122_0h3, q122_0h4, q122_0h5, q122_0h6, q122_0h7, q122_0h8, q122_0h9, B204, sp197, sp198, sp199, X201⟩⟩
    · skip
      replace hr := bif_f hr hc25
      refine W_exit ?_
      obtain rfl := Option.some.inj hr
      exact ⟨_, rfl, rfl, i21_0v, i21_2r0, i21_2r1, i21_2r2, i21_3r0, i21_3r1, i21_3r2, i21_3r3, i21_3r4, i21_3r5, i21_3r6, i21_3r7, i21_3r8, i21_3r9, i21_4r0, i21_4r1, i21_4r2, i21_4r3, i21_4r4, i21_4r5, i21_4r6, i21_4r7, i21_4r8, i21_4r9, i21_S17, i21_S7, i21_S14, i21_0R, i21_0O, i21_2h0, i21_2h1, i21_2h2, i21_2B, i21_3h0, i21_3h1, i21_3h2, i21_3h3, i21_3h4, i21_3h5, i21_3h6, i21_3h7, i21_3h8, i21_3h9, i21_3B, i21_4h0, i21_4h1, i21_4h2, i21_4h3, i21_4h4, i21_4h5, i21_4h6, i21_4h7, i21_4h8, i21_4h9, i21_4B, i21_A0, i21_A1, i21_A2, i21_X⟩
  · skip
    intro ex σx21 wx21 hq
    rcases m21 with m21 | m21
    · skip
      obtain ⟨rfl, q21_0_0v, q21_0_1r0, q21_0_1r1, q21_0_1r2, q21_0_2r0, q21_0_2r1, q21_0_2r2, q21_0_2r3, q21_0_2r4, q21_0_2r5, q21_0_2r6, q21_0_2r7, q21_0_2r8, q21_0_2r9, q21_0_3r0, q21_0_3r1, q21_0_3r2, q21_0_3r3, q21_0_3r4, q21_0_3r5, q21_0_3r6, q21_0_3r7, q21_0_3r8, q21_0_3r9, q21_0_S17, q21_0_S7, q21_0_S14, q21_0_0R, q21_0_0O, q21_0_1h0, q21_0_1h1, q21_0_1h2, q21_0_1B, q21_0_2h0, q21_0_2h1, q21_0_2h2, q21_0_2h3, q21_0_2h4, q21_0_2h5, q21_0_2h6, q21_0_2h7, q21_0_2h8, q21_0_2h9, q21_0_2B, q21_0_3h0, q21_0_3h1, q21_0_3h2, q21_0_3h3, q21_0_3h4, q21_0_3h5, q21_0_3h6, q21_0_3h7, q21_0_3h8, q21_0_3h9, q21_0_3B, q21_0_A0, q21_0_A1, q21_0_A2, q21_0_X⟩ := hq
      refine W_seq ?_
      refine W_region rfl ?_
      refine da_op rfl (d_loads (vs := #[.float .f32 q21_0_3r0, .float .f32 q21_0_3r1, .float .f32 q21_0_3r2, .float .f32 q21_0_3r3, .float .f32 q21_0_3r4, .float .f32 q21_0_3r5, .float .f32 q21_0_3r6, .float .f32 q21_0_3r7, .float .f32 q21_0_3r8, .float .f32 q21_0_3r9]) q21_0_S7 agg32 size32 q21_0_3B rfl ?_)
      refine da_op rfl (d_mv (v := q21_0_0v) q21_0_S17 ?_)
      refine da_op rfl (d_store (vs := #[.float .f32 q21_0_3r0, .float .f32 q21_0_3r1, .float .f32 q21_0_3r2, .float .f32 q21_0_3r3, .float .f32 q21_0_3r4, .float .f32 q21_0_3r5, .float .f32 q21_0_3r6, .float .f32 q21_0_3r7, .float .f32 q21_0_3r8, .float .f32 q21_0_3r9]) q21_0_S14 rfl q21_0_2B size32 (Nat.le_of_ble_eq_true rfl) rfl fun w205 S205 => ?_)
      have X206 : Ext w w205 := Ext.step q21_0_X S205.frmb (fun k _ hk => hk ▸ own10)
      have B207 : w205.heap[w4.heap.size]? = some (.cells #[.float .f32 q21_0_3r0, .float .f32 q21_0_3r1, .float .f32 q21_0_3r2, .float .f32 q21_0_3r3, .float .f32 q21_0_3r4, .float .f32 q21_0_3r5, .float .f32 q21_0_3r6, .float .f32 q21_0_3r7, .float .f32 q21_0_3r8, .float .f32 q21_0_3r9] 32 (0, 0)) := S205.here
      refine da_op rfl (d_as (v := q21_0_0v) rfl ?_)
      refine da_op rfl (d_as (v := .bool true) rfl ?_)
      refine da_nil ?_
      refine W_ret ?_
      have B208 : OS w205 29 encSVector q21_0_0v m21.1 := q21_0_0R.frm S205.frmb (rb q21_0_A1)
      obtain rfl := Option.some.inj hr
      refine ⟨_, res3 (rv_cells (vs := #[.float .f32 q21_0_3r0, .float .f32 q21_0_3r1, .float .f32 q21_0_3r2, .float .f32 q21_0_3r3, .float .f32 q21_0_3r4, .float .f32 q21_0_3r5, .float .f32 q21_0_3r6, .float .f32 q21_0_3r7, .float .f32 q21_0_3r8, .float .f32 q21_0_3r9]) q21_0_S14 agg32 size32 B207 rfl) (rv_tmp rfl) (rv_tmp rfl), ?_⟩
      exact ⟨q21_0_3r0, q21_0_3r1, q21_0_3r2, q21_0_3r3, q21_0_3r4, q21_0_3r5, q21_0_3r6, q21_0_3r7, q21_0_3r8, q21_0_3r9, q21_0_0v, rfl, q21_0_3h0, q21_0_3h1, q21_0_3h2, q21_0_3h3, q21_0_3h4, q21_0_3h5, q21_0_3h6, q21_0_3h7, q21_0_3h8, q21_0_3h9, B208, q21_0_0O, X206⟩
    · skip
      obtain ⟨rfl, q21_1_0v, q21_1_2r0, q21_1_2r1, q21_1_2r2, q21_1_2r3, q21_1_2r4, q21_1_2r5, q21_1_2r6, q21_1_2r7, q21_1_2r8, q21_1_2r9, q21_1_S15, q21_1_S16, q21_1_S14, q21_1_0R, q21_1_0O, q21_1_2h0, q21_1_2h1, q21_1_2h2, q21_1_2h3, q21_1_2h4, q21_1_2h5, q21_1_2h6, q21_1_2h7, q21_1_2h8, q21_1_2h9, q21_1_2B, q21_1_A0, q21_1_X⟩ := hq
      obtain rfl := Option.some.inj hr
      refine ⟨_, res3 (rv_cells (vs := #[.float .f32 q21_1_2r0, .float .f32 q21_1_2r1, .float .f32 q21_1_2r2, .float .f32 q21_1_2r3, .float .f32 q21_1_2r4, .float .f32 q21_1_2r5, .float .f32 q21_1_2r6, .float .f32 q21_1_2r7, .float .f32 q21_1_2r8, .float .f32 q21_1_2r9]) q21_1_S14 agg32 size32 q21_1_2B rfl) (rv_tmp q21_1_S15) (rv_tmp q21_1_S16), ?_⟩
      exact ⟨q21_1_2r0, q21_1_2r1, q21_1_2r2, q21_1_2r3, q21_1_2r4, q21_1_2r5, q21_1_2r6, q21_1_2r7, q21_1_2r8, q21_1_2r9, q21_1_0v, rfl, q21_1_2h0, q21_1_2h1, q21_1_2h2, q21_1_2h3, q21_1_2h4, q21_1_2h5, q21_1_2h6, q21_1_2h7, q21_1_2h8, q21_1_2h9, q21_1_0R, q21_1_0O, q21_1_X⟩
set_option maxHeartbeats 4000000 in
theorem c6 (p0 : STop) (p1 : SVector) (p2 : Nat) (p3 : Int) (p0r0 : Nat) (p0r1 : Nat) (p0r2 : Nat) (p0r3 : Nat) (p0r4 : Nat) (p0r5 : Nat) (p0r6 : Nat) (p0r7 : Nat) (p0r8 : Nat) (p0r9 : Nat) (p1r0 : Nat) (p1r1 : Nat) (p1r2 : Nat) (p2r : Nat) (r : STop × List SVector × Bool) (w : World) (hr : M.spec_RunTop p0 p1 p2 p3 = some r) (p0h0 : cn .f32 p0r0 = p0.moments.x) (p0h1 : cn .f32 p0r1 = p0.moments.y) (p0h2 : cn .f32 p0r2 = p0.moments.z) (p0h3 : cn .f32 p0r3 = p0.turn.w) (p0h4 : cn .f32 p0r4 = p0.turn.x) (p0h5 : cn .f32 p0r5 = p0.turn.y) (p0h6 : cn .f32 p0r6 = p0.turn.z) (p0h7 : cn .f32 p0r7 = p0.speed.x) (p0h8 : cn .f32 p0r8 = p0.speed.y) (p0h9 : cn .f32 p0r9 = p0.speed.z) (p1h0 : cn .f32 p1r0 = p1.x) (p1h1 : cn .f32 p1r1 = p1.y) (p1h2 : cn .f32 p1r2 = p1.z) (p2h : cn .f32 p2r = p2) :
    Calls Try.prog 6 #[.agg #[.float .f32 p0r0, .float .f32 p0r1, .float .f32 p0r2, .float .f32 p0r3, .float .f32 p0r4, .float .f32 p0r5, .float .f32 p0r6, .float .f32 p0r7, .float .f32 p0r8, .float .f32 p0r9], .agg #[.float .f32 p1r0, .float .f32 p1r1, .float .f32 p1r2], .float .f32 p2r, .int .i64 p3] w fun e w' => ∃ q0r0 : Nat, ∃ q0r1 : Nat, ∃ q0r2 : Nat, ∃ q0r3 : Nat, ∃ q0r4 : Nat, ∃ q0r5 : Nat, ∃ q0r6 : Nat, ∃ q0r7 : Nat, ∃ q0r8 : Nat, ∃ q0r9 : Nat, ∃ q1v : Value, e = .returned (.tuple #[.agg #[.float .f32 q0r0, .float .f32 q0r1, .float .f32 q0r2, .float .f32 q0r3, .float .f32 q0r4, .float .f32 q0r5, .float .f32 q0r6, .float .f32 q0r7, .float .f32 q0r8, .float .f32 q0r9], q1v, .bool r.2.2]) ∧ cn .f32 q0r0 = r.1.moments.x ∧ cn .f32 q0r1 = r.1.moments.y ∧ cn .f32 q0r2 = r.1.moments.z ∧ cn .f32 q0r3 = r.1.turn.w ∧ cn .f32 q0r4 = r.1.turn.x ∧ cn .f32 q0r5 = r.1.turn.y ∧ cn .f32 q0r6 = r.1.turn.z ∧ cn .f32 q0r7 = r.1.speed.x ∧ cn .f32 q0r8 = r.1.speed.y ∧ cn .f32 q0r9 = r.1.speed.z ∧ OS w' 29 encSVector q1v r.2.1 ∧ (∀ k, q1v.ownBlock = some k → w.heap.size ≤ k) ∧ Ext w w' := by
  refine calls_of_W Try.func6 rfl (Nat.le_of_ble_eq_true rfl) ?_
  refine W_seq ?_
  refine W_region rfl ?_
  refine da_op rfl (d_box (cs := #[.float .f32 p0r0, .float .f32 p0r1, .float .f32 p0r2, .float .f32 p0r3, .float .f32 p0r4, .float .f32 p0r5, .float .f32 p0r6, .float .f32 p0r7, .float .f32 p0r8, .float .f32 p0r9]) rfl fun w1 B1 E1 => ?_)
  have own2 : w.heap.size ≤ w.heap.size := Nat.le_trans (Ext.refl w).size (Nat.le_refl _)
  have X3 : Ext w w1 := (Ext.refl w).trans E1
  refine da_op rfl (d_box (cs := #[.float .f32 p1r0, .float .f32 p1r1, .float .f32 p1r2]) rfl fun w4 B4 E4 => ?_)
  have own5 : w.heap.size ≤ w1.heap.size := Nat.le_trans X3.size (Nat.le_refl _)
  have sp6 : w.heap.size ≠ w1.heap.size := Nat.ne_of_lt (Nat.lt_of_lt_of_le (lt_heap B1) (Nat.le_refl _))
  have X7 : Ext w w4 := X3.trans E4
  have B9 : w4.heap[w.heap.size]? = some (.cells #[.float .f32 p0r0, .float .f32 p0r1, .float .f32 p0r2, .float .f32 p0r3, .float .f32 p0r4, .float .f32 p0r5, .float .f32 p0r6, .float .f32 p0r7, .float .f32 p0r8, .float .f32 p0r9] 32 (0, 0)) := E4.heap B1
  refine da_op rfl (d_alloc (cs := #[.float .f32 0, .float .f32 0, .float .f32 0, .float .f32 0, .float .f32 0, .float .f32 0, .float .f32 0, .float .f32 0, .float .f32 0, .float .f32 0]) zero32 rfl fun w8 B8 E8 => ?_)
  have own10 : w.heap.size ≤ w4.heap.size := Nat.le_trans X7.size (Nat.le_refl _)
  have sp11 : w.heap.size ≠ w4.heap.size := Nat.ne_of_lt (Nat.lt_of_lt_of_le (lt_heap B9) (Nat.le_refl _))
  have sp12 : w1.heap.size ≠ w4.heap.size := Nat.ne_of_lt (Nat.lt_of_lt_of_le (lt_heap B4) (Nat.le_refl _))
  have X13 : Ext w w8 := X7.trans E8
  refine da_op rfl (d_as (v := .slice none 0 0) rfl ?_)
  refine da_op rfl (d_as (v := .bool false) rfl ?_)
  refine da_nil ?_
  refine W_seq ?_
  refine W_seq ?_
  have B15 : w8.heap[w.heap.size]? = some (.cells #[.float .f32 p0r0, .float .f32 p0r1, .float .f32 p0r2, .float .f32 p0r3, .float .f32 p0r4, .float .f32 p0r5, .float .f32 p0r6, .float .f32 p0r7, .float .f32 p0r8, .float .f32 p0r9] 32 (0, 0)) := E8.heap B9
  have B16 : w8.heap[w1.heap.size]? = some (.cells #[.float .f32 p1r0, .float .f32 p1r1, .float .f32 p1r2] 29 (0, 0)) := E8.heap B4
  obtain ⟨m14, hm14, hr⟩ := letv_out hr
  refine W_cut (fun σ' w' => σ' 19 = .bool m14 ∧ Ext w8 w') rfl ?_ ?_
  · skip
    have hr := hm14
    refine da_op rfl (d_loads (vs := #[.float .f32 p1r0, .float .f32 p1r1, .float .f32 p1r2]) rfl agg29 size29 B16 rfl ?_)
    refine da_op rfl (d_mv (v := .float .f32 p2r) rfl ?_)
    obtain ⟨m17, hm17, hr⟩ := letv_out hr
    refine da_op rfl (d_cl (vs := [.pointer (some ⟨w.heap.size, 0, none⟩), .agg #[.float .f32 p1r0, .float .f32 p1r1, .float .f32 p1r2], .float .f32 p2r]) en21 (ac rfl (ac rfl (ac rfl rfl))) rfl ?_)
    refine (c21 p0 p1 p2 w.heap.size 0 #[.float .f32 p0r0, .float .f32 p0r1, .float .f32 p0r2, .float .f32 p0r3, .float .f32 p0r4, .float .f32 p0r5, .float .f32 p0r6, .float .f32 p0r7, .float .f32 p0r8, .float .f32 p0r9] 32 (0, 0) p0r0 p0r1 p0r2 p0r3 p0r4 p0r5 p0r6 p0r7 p0r8 p0r9 p1r0 p1r1 p1r2 p2r m17 w8 hm17 p0h0 p0h1 p0h2 p0h3 p0h4 p0h5 p0h6 p0h7 p0h8 p0h9 B15 rfl p1h0 p1h1 p1h2 p2h).mono ?_
    rintro _ w18 ⟨rfl, E18⟩
    refine ⟨_, rfl, ?_⟩
    have X19 : Ext w w18 := X13.trans E18
    refine da_op rfl (d_not rfl ?_)
    refine da_op rfl (d_mv (v := .bool (!m17)) rfl ?_)
    rcases Bool.eq_false_or_eq_true m17 with hc20 | hc20
    · skip
      replace hr := bif_t hr hc20
      refine da_on rfl (Eq.trans (show sl _ _ _ = .bool (!m17) from rfl) (congrArg Value.bool (congrArg not hc20))) (d_mv (v := .int .i64 p3) rfl ?_)
      obtain ⟨m21, hm21, hr⟩ := letv_out hr
      have B22 : w18.heap[w.heap.size]? = some (.cells #[.float .f32 p0r0, .float .f32 p0r1, .float .f32 p0r2, .float .f32 p0r3, .float .f32 p0r4, .float .f32 p0r5, .float .f32 p0r6, .float .f32 p0r7, .float .f32 p0r8, .float .f32 p0r9] 32 (0, 0)) := E18.heap B15
      have B23 : w18.heap[w1.heap.size]? = some (.cells #[.float .f32 p1r0, .float .f32 p1r1, .float .f32 p1r2] 29 (0, 0)) := E18.heap B16
      have B24 : w18.heap[w4.heap.size]? = some (.cells #[.float .f32 0, .float .f32 0, .float .f32 0, .float .f32 0, .float .f32 0, .float .f32 0, .float .f32 0, .float .f32 0, .float .f32 0, .float .f32 0] 32 (0, 0)) := E18.heap B8
      refine da_on rfl (Eq.trans (show sl _ _ _ = .bool (!m17) from rfl) (congrArg Value.bool (congrArg not hc20))) (d_cl (vs := [.int .i64 p3]) en22 (ac rfl rfl) rfl ?_)
      refine (c22 p3 m21 w18 hm21 ).mono ?_
      rintro _ w25 ⟨rfl, E25⟩
      refine ⟨_, rfl, ?_⟩
      have X26 : Ext w w25 := X19.trans E25
      refine da_on rfl (Eq.trans (show sl _ _ _ = .bool (!m17) from rfl) (congrArg Value.bool (congrArg not hc20))) (d_not rfl ?_)
      refine da_op rfl (d_pick (b := false) (Eq.trans (show ev _ _ = .bool (!m17) from rfl) (congrArg Value.bool (congrArg not hc20))) ?_)
      refine da_nil ?_
      subst hr
      exact ⟨rfl, (Ext.trans (Ext.trans (Ext.refl w8) E18) E25)⟩
    · skip
      replace hr := bif_f hr hc20
      refine da_off rfl (Eq.trans (show sl _ _ _ = .bool (!m17) from rfl) (congrArg Value.bool (congrArg not hc20))) (by decide) ?_
      refine da_off rfl (Eq.trans (show sl _ _ _ = .bool (!m17) from rfl) (congrArg Value.bool (congrArg not hc20))) (by decide) ?_
      refine da_off rfl (Eq.trans (show sl _ _ _ = .bool (!m17) from rfl) (congrArg Value.bool (congrArg not hc20))) (by decide) ?_
      refine da_op rfl (d_pick (b := true) (Eq.trans (show ev _ _ = .bool (!m17) from rfl) (congrArg Value.bool (congrArg not hc20))) ?_)
      refine da_nil ?_
      subst hr
      exact ⟨rfl, (Ext.trans (Ext.refl w8) E18)⟩
  · skip
    rintro σ14 w14 o14 ⟨s19_14, E14⟩
    have s2_14 : σ14 2 = .float .f32 p2r := (o14 2 rfl).trans rfl
    have s3_14 : σ14 3 = .int .i64 p3 := (o14 3 rfl).trans rfl
    have s4_14 : σ14 4 = .pointer (some ⟨w.heap.size, 0, none⟩) := (o14 4 rfl).trans rfl
    have s5_14 : σ14 5 = .pointer (some ⟨w1.heap.size, 0, none⟩) := (o14 5 rfl).trans rfl
    have s8_14 : σ14 8 = .pointer (some ⟨w4.heap.size, 0, none⟩) := (o14 8 rfl).trans rfl
    have X27 : Ext w w14 := X13.trans E14
    refine W_cond (b := m14) s19_14 (fun hc28 => ?_) (fun hc28 => ?_)
    · skip
      replace hr := bif_t hr hc28
      refine W_seq ?_
      refine W_region rfl ?_
      refine da_op rfl (d_bd (vs := []) (cs := #[.float .f32 0, .float .f32 0, .float .f32 0, .float .f32 0, .float .f32 0, .float .f32 0, .float .f32 0, .float .f32 0, .float .f32 0, .float .f32 0]) rfl (by kernel_rfl) ?_)
      have B29 : w14.heap[w4.heap.size]? = some (.cells #[.float .f32 0, .float .f32 0, .float .f32 0, .float .f32 0, .float .f32 0, .float .f32 0, .float .f32 0, .float .f32 0, .float .f32 0, .float .f32 0] 32 (0, 0)) := E14.heap B8
      refine da_op rfl (d_store (vs := #[.float .f32 0, .float .f32 0, .float .f32 0, .float .f32 0, .float .f32 0, .float .f32 0, .float .f32 0, .float .f32 0, .float .f32 0, .float .f32 0]) s8_14 rfl B29 size32 (Nat.le_of_ble_eq_true rfl) rfl fun w30 S30 => ?_)
      have X31 : Ext w w30 := Ext.step X27 S30.frmb (fun k _ hk => hk ▸ own10)
      have B32 : w30.heap[w4.heap.size]? = some (.cells #[.float .f32 0, .float .f32 0, .float .f32 0, .float .f32 0, .float .f32 0, .float .f32 0, .float .f32 0, .float .f32 0, .float .f32 0, .float .f32 0] 32 (0, 0)) := S30.here
      refine da_op rfl (d_as (v := .slice none 0 0) rfl ?_)
      refine da_op rfl (d_as (v := .bool false) rfl ?_)
      refine da_nil ?_
      refine W_ret ?_
      obtain rfl := Option.some.inj hr
      refine ⟨_, res3 (rv_cells (vs := #[.float .f32 0, .float .f32 0, .float .f32 0, .float .f32 0, .float .f32 0, .float .f32 0, .float .f32 0, .float .f32 0, .float .f32 0, .float .f32 0]) s8_14 agg32 size32 B32 rfl) (rv_tmp rfl) (rv_tmp rfl), ?_⟩
      exact ⟨0, 0, 0, 0, 0, 0, 0, 0, 0, 0, (.slice none 0 0), rfl, cn_f32_0, cn_f32_0, cn_f32_0, cn_f32_0, cn_f32_0, cn_f32_0, cn_f32_0, cn_f32_0, cn_f32_0, cn_f32_0, (OS.nil _ 29 encSVector), (fun k hk => by cases hk), X31⟩
    · skip
      replace hr := bif_f hr hc28
      refine W_skip ?_
      refine W_seq ?_
      refine W_region rfl ?_
      have B33 : w14.heap[w.heap.size]? = some (.cells #[.float .f32 p0r0, .float .f32 p0r1, .float .f32 p0r2, .float .f32 p0r3, .float .f32 p0r4, .float .f32 p0r5, .float .f32 p0r6, .float .f32 p0r7, .float .f32 p0r8, .float .f32 p0r9] 32 (0, 0)) := E14.heap B15
      refine da_op rfl (d_loads (vs := #[.float .f32 p0r0, .float .f32 p0r1, .float .f32 p0r2, .float .f32 p0r3, .float .f32 p0r4, .float .f32 p0r5, .float .f32 p0r6, .float .f32 p0r7, .float .f32 p0r8, .float .f32 p0r9]) s4_14 agg32 size32 B33 rfl ?_)
      have B34 : w14.heap[w1.heap.size]? = some (.cells #[.float .f32 p1r0, .float .f32 p1r1, .float .f32 p1r2] 29 (0, 0)) := E14.heap B16
      refine da_op rfl (d_loads (vs := #[.float .f32 p1r0, .float .f32 p1r1, .float .f32 p1r2]) s5_14 agg29 size29 B34 rfl ?_)
      refine da_op rfl (d_mv (v := .float .f32 p2r) s2_14 ?_)
      refine da_op rfl (d_mv (v := .int .i64 p3) s3_14 ?_)
      obtain ⟨m35, hm35, hr⟩ := bind_out hr
      have B36 : w14.heap[w4.heap.size]? = some (.cells #[.float .f32 0, .float .f32 0, .float .f32 0, .float .f32 0, .float .f32 0, .float .f32 0, .float .f32 0, .float .f32 0, .float .f32 0, .float .f32 0] 32 (0, 0)) := E14.heap B8
      refine da_op rfl (d_cl (vs := [.agg #[.float .f32 p0r0, .float .f32 p0r1, .float .f32 p0r2, .float .f32 p0r3, .float .f32 p0r4, .float .f32 p0r5, .float .f32 p0r6, .float .f32 p0r7, .float .f32 p0r8, .float .f32 p0r9], .agg #[.float .f32 p1r0, .float .f32 p1r1, .float .f32 p1r2], .float .f32 0, .float .f32 0, .float .f32 p2r, .int .i64 p3, .bool false]) en23 (ac rfl (ac rfl (ac rfl (ac rfl (ac rfl (ac rfl (ac rfl rfl))))))) rfl ?_)
      refine (c23 p0 p1 0 0 p2 p3 false p0r0 p0r1 p0r2 p0r3 p0r4 p0r5 p0r6 p0r7 p0r8 p0r9 p1r0 p1r1 p1r2 0 0 p2r m35 w14 hm35 p0h0 p0h1 p0h2 p0h3 p0h4 p0h5 p0h6 p0h7 p0h8 p0h9 p1h0 p1h1 p1h2 cn_f32_0 cn_f32_0 p2h).mono ?_
      rintro _ w37 ⟨q37_0r0, q37_0r1, q37_0r2, q37_0r3, q37_0r4, q37_0r5, q37_0r6, q37_0r7, q37_0r8, q37_0r9, q37_1v, rfl, q37_0h0, q37_0h1, q37_0h2, q37_0h3, q37_0h4, q37_0h5, q37_0h6, q37_0h7, q37_0h8, q37_0h9, q37_1R, q37_1F, E37⟩
      refine ⟨_, rfl, ?_⟩
      have own38 : ∀ k, q37_1v.ownBlock = some k → w.heap.size ≤ k := fun k hk => Nat.le_trans X27.size (q37_1F k hk)
      have sp39 : ¬ q37_1v.ownBlock = some w.heap.size := ne_fresh q37_1F (lt_heap B33)
      have sp40 : ¬ q37_1v.ownBlock = some w1.heap.size := ne_fresh q37_1F (lt_heap B34)
      have sp41 : ¬ q37_1v.ownBlock = some w4.heap.size := ne_fresh q37_1F (lt_heap B36)
      have X42 : Ext w w37 := X27.trans E37
      refine da_op rfl (d_extract (v := .agg #[.float .f32 q37_0r0, .float .f32 q37_0r1, .float .f32 q37_0r2, .float .f32 q37_0r3, .float .f32 q37_0r4, .float .f32 q37_0r5, .float .f32 q37_0r6, .float .f32 q37_0r7, .float .f32 q37_0r8, .float .f32 q37_0r9]) rfl rfl ?_)
      refine da_op rfl (d_extract (v := q37_1v) rfl rfl ?_)
      refine da_op rfl (d_extract (v := .bool m35.2.2) rfl rfl ?_)
      have B43 : w37.heap[w4.heap.size]? = some (.cells #[.float .f32 0, .float .f32 0, .float .f32 0, .float .f32 0, .float .f32 0, .float .f32 0, .float .f32 0, .float .f32 0, .float .f32 0, .float .f32 0] 32 (0, 0)) := E37.heap B36
      refine da_op rfl (d_store (vs := #[.float .f32 q37_0r0, .float .f32 q37_0r1, .float .f32 q37_0r2, .float .f32 q37_0r3, .float .f32 q37_0r4, .float .f32 q37_0r5, .float .f32 q37_0r6, .float .f32 q37_0r7, .float .f32 q37_0r8, .float .f32 q37_0r9]) s8_14 rfl B43 size32 (Nat.le_of_ble_eq_true rfl) rfl fun w44 S44 => ?_)
      have X45 : Ext w w44 := Ext.step X42 S44.frmb (fun k _ hk => hk ▸ own10)
      have B46 : w44.heap[w4.heap.size]? = some (.cells #[.float .f32 q37_0r0, .float .f32 q37_0r1, .float .f32 q37_0r2, .float .f32 q37_0r3, .float .f32 q37_0r4, .float .f32 q37_0r5, .float .f32 q37_0r6, .float .f32 q37_0r7, .float .f32 q37_0r8, .float .f32 q37_0r9] 32 (0, 0)) := S44.here
      refine da_op rfl (d_as (v := q37_1v) rfl ?_)
      refine da_op rfl (d_as (v := .bool m35.2.2) rfl ?_)
      refine da_nil ?_
      refine W_ret ?_
      have B47 : OS w44 29 encSVector q37_1v m35.2.1 := q37_1R.frm S44.frmb (rb sp41)
      obtain rfl := Option.some.inj hr
      refine ⟨_, res3 (rv_cells (vs := #[.float .f32 q37_0r0, .float .f32 q37_0r1, .float .f32 q37_0r2, .float .f32 q37_0r3, .float .f32 q37_0r4, .float .f32 q37_0r5, .float .f32 q37_0r6, .float .f32 q37_0r7, .float .f32 q37_0r8, .float .f32 q37_0r9]) s8_14 agg32 size32 B46 rfl) (rv_tmp rfl) (rv_tmp rfl), ?_⟩
      exact ⟨q37_0r0, q37_0r1, q37_0r2, q37_0r3, q37_0r4, q37_0r5, q37_0r6, q37_0r7, q37_0r8, q37_0r9, q37_1v, rfl, q37_0h0, q37_0h1, q37_0h2, q37_0h3, q37_0h4, q37_0h5, q37_0h6, q37_0h7, q37_0h8, q37_0h9, B47, own38, X45⟩
set_option maxHeartbeats 4000000 in
theorem c53 (p0 : Nat) (p0r : Nat) (r : Bool) (w : World) (hr : M.impl_IsFinite p0 = r) (p0h : cn .f32 p0r = p0) :
    Calls Try.prog 53 #[.float .f32 p0r] w fun e w' => e = .returned (.bool r) ∧ Ext w w' := by
  refine calls_of_W Try.func53 rfl (Nat.le_of_ble_eq_true rfl) ?_
  refine W_seq ?_
  refine W_region rfl ?_
  refine da_op rfl (d_as (v := .bool false) rfl ?_)
  refine da_nil ?_
  refine W_seq ?_
  refine W_region rfl ?_
  refine da_op rfl (d_mv (v := .float .f32 p0r) rfl ?_)
  refine da_op rfl (d_mv (v := .float .f32 p0r) rfl ?_)
  refine da_op rfl (d_fop (k := .f32) fSub rfl rfl p0h p0h fun r1 w1 h1 _ E1 => ?_)
  have X2 : Ext w w1 := (Ext.refl w).trans E1
  refine da_op rfl (d_fcmp (k := .f32) cEql rfl rfl h1 cn_f32_0 ?_)
  refine da_op rfl (d_as (v := .bool (fcmp .eql .f32 (fop .sub .f32 p0 p0) 0)) rfl ?_)
  refine da_nil ?_
  refine W_ret ?_
  subst hr
  refine ⟨_, res1 (rv_tmp rfl), ?_⟩
  exact ⟨rfl, X2⟩
set_option maxHeartbeats 4000000 in
theorem c61 (p0 : Nat) (p0r : Nat) (r : Bool) (w : World) (hr : M.impl_finite_1 p0 = r) (p0h : cn .f32 p0r = p0) :
    Calls Try.prog 61 #[.float .f32 p0r] w fun e w' => e = .returned (.bool r) ∧ Ext w w' := by
  refine calls_of_W Try.func61 rfl (Nat.le_of_ble_eq_true rfl) ?_
  refine W_seq ?_
  refine W_region rfl ?_
  refine da_op rfl (d_as (v := .bool false) rfl ?_)
  refine da_nil ?_
  refine W_seq ?_
  refine W_region rfl ?_
  refine da_op rfl (d_mv (v := .float .f32 p0r) rfl ?_)
  obtain ⟨m1, hm1, hr⟩ := letv_out hr
  refine da_op rfl (d_cl (vs := [.float .f32 p0r]) en53 (ac rfl rfl) rfl ?_)
  refine (c53 p0 p0r m1 w hm1 p0h).mono ?_
  rintro _ w2 ⟨rfl, E2⟩
  refine ⟨_, rfl, ?_⟩
  have X3 : Ext w w2 := (Ext.refl w).trans E2
  refine da_op rfl (d_not rfl ?_)
  refine da_op rfl (d_as (v := .bool (!m1)) rfl ?_)
  refine da_nil ?_
  refine W_ret ?_
  subst hr
  refine ⟨_, res1 (rv_tmp rfl), ?_⟩
  exact ⟨rfl, X3⟩
set_option maxHeartbeats 4000000 in
theorem c99_f61 (p0 : List Nat) (p0v : Value) (r : Int) (w : World) (hr : M.slices_IndexFunc___float32_float32__f61 p0 = some r) (p0R : RS w encF_f32 p0v p0) :
    Calls Try.prog 99 #[p0v, .func (.func 61) #[] #[]] w fun e w' => e = .returned (.int .i64 r) ∧ Ext w w' := by
  refine calls_of_W Try.func99 rfl (Nat.le_of_ble_eq_true rfl) ?_
  refine W_seq ?_
  refine W_region rfl ?_
  refine da_op rfl (d_as (v := .int .i64 0) rfl ?_)
  refine da_nil ?_
  refine W_seq ?_
  refine W_seq ?_
  refine W_region rfl ?_
  refine da_op rfl (d_mv (v := p0v) rfl ?_)
  refine da_op rfl (d_len (e := encF_f32) un48 rfl p0R ?_)
  refine da_op rfl (d_mv (v := .int .i64 0) rfl ?_)
  refine da_nil ?_
  refine W_block ?_
  obtain ⟨m1, hm1, hr⟩ := bind_out hr
  refine W_loopM hm1 (fun (s1 : Int) σ w' => σ 8 = .int .i64 s1 ∧ σ 0 = p0v ∧ σ 1 = .func (.func 61) #[] #[] ∧ σ 7 = .int .i64 ((p0).length : Int) ∧ Ext w w') (fun (e1 : (Unit ⊕ Int)) ex σ w' => sel e1 (fun e1 => ex = .exit 0 ∧ Ext w w') (fun e1 => ex = .ret ∧ σ 4 = .int .i64 e1 ∧ Ext w w')) ⟨rfl, rfl, rfl, rfl, (Ext.refl w)⟩ ?_ ?_
  · skip
    rintro s1 σl1 wl1 r1l ⟨i1_S8, i1_S0, i1_S1, i1_S7, i1_X⟩ hr
    refine W_seq ?_
    refine W_region rfl ?_
    refine da_op rfl (d_icmp cLss i1_S8 i1_S7 ?_)
    refine da_nil ?_
    refine W_seq ?_
    refine W_cond (b := (icmp .lss s1 ((p0).length : Int))) rfl (fun hc2 => ?_) (fun hc2 => ?_)
    · skip
      replace hr := bif_t hr hc2
      refine W_skip ?_
      refine W_seq ?_
      refine W_block ?_
      refine W_seq ?_
      refine W_region rfl ?_
      refine da_op rfl (d_mv (v := .int .i64 s1) i1_S8 ?_)
      refine da_op rfl (d_as (v := .int .i64 s1) rfl ?_)
      refine da_nil ?_
      refine W_seq ?_
      refine W_region rfl ?_
      refine da_op rfl (d_mv (v := .func (.func 61) #[] #[]) i1_S1 ?_)
      refine da_op rfl (d_mv (v := p0v) i1_S0 ?_)
      refine da_op rfl (d_mv (v := .int .i64 s1) rfl ?_)
      obtain ⟨m3, hm3, hr⟩ := bind_out hr
      have B5 : RS wl1 encF_f32 p0v p0 := p0R.ext i1_X
      refine da_op rfl (d_index (e := encF_f32) (v := p0v) un48 size22 rfl rfl B5 hm3 fun g4 o4 cu4 T4 fr4 vs4 hv4 hg4 hp4 hq4 => ?_)
      obtain ⟨e4_r0, rfl, e4_h0⟩ := dec_encF_f32 hq4
      refine da_op rfl (d_load (v := .float .f32 e4_r0) rfl agg22 hg4 (sub_get (vs := #[.float .f32 e4_r0]) hp4 (i := 0) rfl) ?_)
      obtain ⟨m6, hm6, hr⟩ := letv_out hr
      refine da_op rfl (d_clv (vs := [.float .f32 e4_r0]) (cap := []) en61 rfl (ac rfl rfl) ?_)
      refine (c61 m3 e4_r0 m6 wl1 hm6 e4_h0).mono ?_
      rintro _ w7 ⟨rfl, E7⟩
      refine ⟨_, rfl, ?_⟩
      have X8 : Ext w w7 := i1_X.trans E7
      refine da_nil ?_
      refine W_cond (b := m6) rfl (fun hc9 => ?_) (fun hc9 => ?_)
      · skip
        replace hr := bif_t hr hc9
        refine W_seq ?_
        refine W_region rfl ?_
        refine da_op rfl (d_mv (v := .int .i64 s1) rfl ?_)
        refine da_op rfl (d_as (v := .int .i64 s1) rfl ?_)
        refine da_nil ?_
        refine W_ret ?_
        obtain rfl := Option.some.inj hr
        exact ⟨_, rfl, rfl, rfl, X8⟩
      · skip
        replace hr := bif_f hr hc9
        refine W_skip ?_
        refine W_region rfl ?_
        refine da_op rfl (d_iarith i1_S8 rfl (.inl ⟨rfl, rfl⟩) ?_)
        refine da_op rfl (d_mv (v := .int .i64 (IntKind.i64.wrap (s1 + 1))) rfl ?_)
        refine da_nil ?_
        obtain rfl := Option.some.inj hr
        exact ⟨_, rfl, ⟨rfl, i1_S0, i1_S1, i1_S7, X8⟩⟩
    · skip
      replace hr := bif_f hr hc2
      refine W_exit ?_
      obtain rfl := Option.some.inj hr
      exact ⟨_, rfl, rfl, i1_X⟩
  · skip
    intro ex σx1 wx1 hq
    rcases m1 with m1 | m1
    · skip
      obtain ⟨rfl, q1_0_X⟩ := hq
      refine W_seq ?_
      refine W_region rfl ?_
      refine da_op rfl (d_as (v := .int .i64 (-1)) rfl ?_)
      refine da_nil ?_
      refine W_ret ?_
      obtain rfl := Option.some.inj hr
      refine ⟨_, res1 (rv_tmp rfl), ?_⟩
      exact ⟨rfl, q1_0_X⟩
    · skip
      obtain ⟨rfl, q1_1_S4, q1_1_X⟩ := hq
      obtain rfl := Option.some.inj hr
      refine ⟨_, res1 (rv_tmp q1_1_S4), ?_⟩
      exact ⟨rfl, q1_1_X⟩
set_option maxHeartbeats 4000000 in
theorem c60_f61 (p0 : List Nat) (p0v : Value) (r : Bool) (w : World) (hr : M.slices_ContainsFunc___float32_float32__f61 p0 = some r) (p0R : RS w encF_f32 p0v p0) :
    Calls Try.prog 60 #[p0v, .func (.func 61) #[] #[]] w fun e w' => e = .returned (.bool r) ∧ Ext w w' := by
  refine calls_of_W Try.func60 rfl (Nat.le_of_ble_eq_true rfl) ?_
  refine W_seq ?_
  refine W_region rfl ?_
  refine da_op rfl (d_as (v := .bool false) rfl ?_)
  refine da_nil ?_
  refine W_seq ?_
  refine W_region rfl ?_
  refine da_op rfl (d_mv (v := p0v) rfl ?_)
  refine da_op rfl (d_mv (v := .func (.func 61) #[] #[]) rfl ?_)
  obtain ⟨m1, hm1, hr⟩ := bind_out hr
  refine da_op rfl (d_cl (vs := [p0v, .func (.func 61) #[] #[]]) en99 (ac rfl (ac rfl rfl)) rfl ?_)
  refine (c99_f61 p0 p0v m1 w hm1 p0R).mono ?_
  rintro _ w2 ⟨rfl, E2⟩
  refine ⟨_, rfl, ?_⟩
  have X3 : Ext w w2 := (Ext.refl w).trans E2
  refine da_op rfl (d_icmp cGeq rfl rfl ?_)
  refine da_op rfl (d_as (v := .bool (icmp .geq m1 0)) rfl ?_)
  refine da_nil ?_
  refine W_ret ?_
  obtain rfl := Option.some.inj hr
  refine ⟨_, res1 (rv_tmp rfl), ?_⟩
  exact ⟨rfl, X3⟩
set_option maxHeartbeats 4000000 in
theorem c32 (p0 : List Nat) (p0v : Value) (r : Bool) (w : World) (hr : M.impl_finite p0 = some r) (p0R : RS w encF_f32 p0v p0) :
    Calls Try.prog 32 #[p0v] w fun e w' => e = .returned (.bool r) ∧ Ext w w' := by
  refine calls_of_W Try.func32 rfl (Nat.le_of_ble_eq_true rfl) ?_
  refine W_seq ?_
  refine W_region rfl ?_
  refine da_op rfl (d_as (v := .bool false) rfl ?_)
  refine da_nil ?_
  refine W_seq ?_
  refine W_region rfl ?_
  refine da_op rfl (d_mv (v := p0v) rfl ?_)
  obtain ⟨m1, hm1, hr⟩ := bind_out hr
  refine da_op rfl (d_cl (vs := [p0v, .func (.func 61) #[] #[]]) en60 (ac rfl (ac rfl rfl)) rfl ?_)
  refine (c60_f61 p0 p0v m1 w hm1 p0R).mono ?_
  rintro _ w2 ⟨rfl, E2⟩
  refine ⟨_, rfl, ?_⟩
  have X3 : Ext w w2 := (Ext.refl w).trans E2
  refine da_op rfl (d_not rfl ?_)
  refine da_op rfl (d_as (v := .bool (!m1)) rfl ?_)
  refine da_nil ?_
  refine W_ret ?_
  obtain rfl := Option.some.inj hr
  refine ⟨_, res1 (rv_tmp rfl), ?_⟩
  exact ⟨rfl, X3⟩
set_option maxHeartbeats 4000000 in
theorem c25 (p0 : SVector) (p0r0 : Nat) (p0r1 : Nat) (p0r2 : Nat) (r : Bool) (w : World) (hr : M.impl_finiteVector p0 = some r) (p0h0 : cn .f32 p0r0 = p0.x) (p0h1 : cn .f32 p0r1 = p0.y) (p0h2 : cn .f32 p0r2 = p0.z) :
    Calls Try.prog 25 #[.agg #[.float .f32 p0r0, .float .f32 p0r1, .float .f32 p0r2]] w fun e w' => e = .returned (.bool r) ∧ Ext w w' := by
  refine calls_of_W Try.func25 rfl (Nat.le_of_ble_eq_true rfl) ?_
  refine W_seq ?_
  refine W_region rfl ?_
  refine da_op rfl (d_box (cs := #[.float .f32 p0r0, .float .f32 p0r1, .float .f32 p0r2]) rfl fun w1 B1 E1 => ?_)
  have own2 : w.heap.size ≤ w.heap.size := Nat.le_trans (Ext.refl w).size (Nat.le_refl _)
  have X3 : Ext w w1 := (Ext.refl w).trans E1
  refine da_op rfl (d_as (v := .bool false) rfl ?_)
  refine da_nil ?_
  refine W_seq ?_
  refine W_region rfl ?_
  refine da_op rfl (d_fieldAddr rfl (fa29_0 _ _) ?_)
  refine da_op rfl (d_load (v := .float .f32 p0r0) rfl agg22 B1 rfl ?_)
  refine da_op rfl (d_fieldAddr rfl (fa29_1 _ _) ?_)
  refine da_op rfl (d_load (v := .float .f32 p0r1) rfl agg22 B1 rfl ?_)
  refine da_op rfl (d_fieldAddr rfl (fa29_2 _ _) ?_)
  refine da_op rfl (d_load (v := .float .f32 p0r2) rfl agg22 B1 rfl ?_)
  refine da_op rfl (d_bslice (vs := [(0, .float .f32 p0r0), (1, .float .f32 p0r1), (2, .float .f32 p0r2)]) (cs := #[.float .f32 p0r0, .float .f32 p0r1, .float .f32 p0r2]) un48 (pc rfl (pc rfl (pc rfl rfl))) (by kernel_rfl) fun w4 B4 E4 => ?_)
  have fr4 : ∀ k, (Value.slice (some ⟨w1.heap.size, 0, none⟩) 3 3).ownBlock = some k → w1.heap.size ≤ k := fun k hk => by cases hk; exact Nat.le_refl _
  have own4 : ∀ k, (Value.slice (some ⟨w1.heap.size, 0, none⟩) 3 3).ownBlock = some k → w.heap.size ≤ k := fun k hk => Nat.le_trans X3.size (fr4 k hk)
  have sp5 : ¬ (Value.slice (some ⟨w1.heap.size, 0, none⟩) 3 3).ownBlock = some w.heap.size := ne_fresh fr4 (lt_heap B1)
  have X6 : Ext w w4 := X3.trans E4
  have O4 : OS w4 22 encF_f32 (Value.slice (some ⟨w1.heap.size, 0, none⟩) 3 3) [p0.x, p0.y, p0.z] := OS.box (xs := [p0.x, p0.y, p0.z]) B4 (lc_f p0h0 (lc_f p0h1 (lc_f p0h2 rfl))) (Nat.le_of_ble_eq_true rfl)
  obtain ⟨m7, hm7, hr⟩ := bind_out hr
  have B8 : w4.heap[w.heap.size]? = some (.cells #[.float .f32 p0r0, .float .f32 p0r1, .float .f32 p0r2] 29 (0, 0)) := E4.heap B1
  refine da_op rfl (d_cl (vs := [(Value.slice (some ⟨w1.heap.size, 0, none⟩) 3 3)]) en32 (ac rfl rfl) rfl ?_)
  refine (c32 ([p0.x, p0.y, p0.z]) (Value.slice (some ⟨w1.heap.size, 0, none⟩) 3 3) m7 w4 hm7 O4.rs).mono ?_
  rintro _ w9 ⟨rfl, E9⟩
  refine ⟨_, rfl, ?_⟩
  have X10 : Ext w w9 := X6.trans E9
  refine da_op rfl (d_as (v := .bool m7) rfl ?_)
  refine da_nil ?_
  refine W_ret ?_
  obtain rfl := Option.some.inj hr
  refine ⟨_, res1 (rv_tmp rfl), ?_⟩
  exact ⟨rfl, X10⟩
set_option maxHeartbeats 4000000 in
theorem c70 (p0 : Nat) (p0r : Nat) (r : Bool) (w : World) (hr : M.impl_lengthOk p0 = r) (p0h : cn .f32 p0r = p0) :
    Calls Try.prog 70 #[.float .f32 p0r] w fun e w' => e = .returned (.bool r) ∧ Ext w w' := by
  refine calls_of_W Try.func70 rfl (Nat.le_of_ble_eq_true rfl) ?_
  refine W_seq ?_
  refine W_region rfl ?_
  refine da_op rfl (d_as (v := .bool false) rfl ?_)
  refine da_nil ?_
  refine W_seq ?_
  obtain ⟨m1, hm1, hr⟩ := letv_out hr
  refine W_cut (fun σ' w' => σ' 2 = .bool m1 ∧ Ext w w') rfl ?_ ?_
  · skip
    have hr := hm1
    refine da_op rfl (d_mv (v := .float .f32 p0r) rfl ?_)
    obtain ⟨m2, hm2, hr⟩ := letv_out hr
    refine da_op rfl (d_cl (vs := [.float .f32 p0r]) en53 (ac rfl rfl) rfl ?_)
    refine (c53 p0 p0r m2 w hm2 p0h).mono ?_
    rintro _ w3 ⟨rfl, E3⟩
    refine ⟨_, rfl, ?_⟩
    have X4 : Ext w w3 := (Ext.refl w).trans E3
    refine da_op rfl (d_mv (v := .bool m2) rfl ?_)
    rcases Bool.eq_false_or_eq_true m2 with hc5 | hc5
    · skip
      replace hr := bif_t hr hc5
      refine da_on rfl (Eq.trans (show sl _ _ _ = .bool m2 from rfl) (congrArg Value.bool hc5)) (d_mv (v := .float .f32 p0r) rfl ?_)
      refine da_on rfl (Eq.trans (show sl _ _ _ = .bool m2 from rfl) (congrArg Value.bool hc5)) (d_fcmp (k := .f32) cGtr rfl rfl p0h cn_f32_0 ?_)
      refine da_op rfl (d_pick (b := true) (Eq.trans (show ev _ _ = .bool m2 from rfl) (congrArg Value.bool hc5)) ?_)
      refine da_op rfl (d_as (v := .bool (fcmp .gtr .f32 p0 0)) rfl ?_)
      refine da_nil ?_
      subst hr
      exact ⟨rfl, (Ext.trans (Ext.refl w) E3)⟩
    · skip
      replace hr := bif_f hr hc5
      refine da_off rfl (Eq.trans (show sl _ _ _ = .bool m2 from rfl) (congrArg Value.bool hc5)) (by decide) ?_
      refine da_off rfl (Eq.trans (show sl _ _ _ = .bool m2 from rfl) (congrArg Value.bool hc5)) (by decide) ?_
      refine da_op rfl (d_pick (b := false) (Eq.trans (show ev _ _ = .bool m2 from rfl) (congrArg Value.bool hc5)) ?_)
      refine da_op rfl (d_as (v := .bool false) rfl ?_)
      refine da_nil ?_
      subst hr
      exact ⟨rfl, (Ext.trans (Ext.refl w) E3)⟩
  · skip
    rintro σ1 w1 o1 ⟨s2_1, E1⟩
    have X6 : Ext w w1 := (Ext.refl w).trans E1
    refine W_ret ?_
    subst hr
    refine ⟨_, res1 (rv_tmp s2_1), ?_⟩
    exact ⟨rfl, X6⟩
set_option maxHeartbeats 4000000 in
theorem c112 (p0 : SSpin) (p0b p0o : Nat) (p0c : Array Value) (p0T : TypeId) (p0f : Nat × Nat) (p0r0 : Nat) (p0r1 : Nat) (p0r2 : Nat) (p0r3 : Nat) (r : List Nat) (w : World) (hr : M.impl_Spin_numbers p0 = r) (p0h0 : cn .f32 p0r0 = p0.w) (p0h1 : cn .f32 p0r1 = p0.x) (p0h2 : cn .f32 p0r2 = p0.y) (p0h3 : cn .f32 p0r3 = p0.z) (p0B : w.heap[p0b]? = some (.cells p0c p0T p0f)) (p0P : (p0c.toList.drop p0o).take 4 = [.float .f32 p0r0, .float .f32 p0r1, .float .f32 p0r2, .float .f32 p0r3]) :
    Calls Try.prog 112 #[.pointer (some ⟨p0b, p0o, none⟩)] w fun e w' => ∃ q0v : Value, e = .returned (q0v) ∧ OS w' 22 encF_f32 q0v r ∧ (∀ k, q0v.ownBlock = some k → w.heap.size ≤ k) ∧ Ext w w' := by
  refine calls_of_W Try.func112 rfl (Nat.le_of_ble_eq_true rfl) ?_
  refine W_seq ?_
  refine W_region rfl ?_
  refine da_op rfl (d_as (v := .slice none 0 0) rfl ?_)
  refine da_nil ?_
  refine W_seq ?_
  refine W_any [] [{ V := fun _ v _ => v = (.pointer (some ⟨p0b, p0o, none⟩)) }, { V := fun _ v _ => v = (.pointer (some ⟨p0b, p0o, none⟩)) }, { V := fun _ v _ => v = (.pointer (some ⟨p0b, p0o, none⟩)) }, { V := fun _ v _ => v = (.float .f32 p0r0) }, { V := fun _ v _ => v = (.pointer (some ⟨p0b, p0o, none⟩)) }, { V := fun _ v _ => v = (.pointer (some ⟨p0b, p0o, none⟩)) }, { V := fun _ v _ => v = (.pointer (some ⟨p0b, p0o + 1, none⟩)) }, { V := fun _ v _ => v = (.float .f32 p0r1) }, { V := fun _ v _ => v = (.pointer (some ⟨p0b, p0o, none⟩)) }, { V := fun _ v _ => v = (.pointer (some ⟨p0b, p0o, none⟩)) }, { V := fun _ v _ => v = (.pointer (some ⟨p0b, p0o + 2, none⟩)) }, { V := fun _ v _ => v = (.float .f32 p0r2) }, { V := fun _ v _ => v = (.pointer (some ⟨p0b, p0o, none⟩)) }, { V := fun _ v _ => v = (.pointer (some ⟨p0b, p0o, none⟩)) }, { V := fun _ v _ => v = (.pointer (some ⟨p0b, p0o + 3, none⟩)) }, { V := fun _ v _ => v = (.float .f32 p0r3) }, { V := fun _ v w' => ∃ d1_16v : Value, v = d1_16v ∧ (∀ k, d1_16v.ownBlock = some k → w.heap.size ≤ k) ∧ OS w' 22 encF_f32 d1_16v ([p0.w, p0.x, p0.y, p0.z]) }, { V := fun _ v w' => ∃ d1_16v : Value, v = d1_16v ∧ (∀ k, d1_16v.ownBlock = some k → w.heap.size ≤ k) ∧ OS w' 22 encF_f32 d1_16v ([p0.w, p0.x, p0.y, p0.z]) }] mixed (by kernel_rfl) ⟨trivial, trivial, trivial, trivial, trivial, trivial, trivial, trivial, trivial, trivial, trivial, trivial, trivial, trivial, trivial, trivial, trivial, trivial, trivial⟩ ⟨?_, ?_, ?_, ?_, ?_, ?_, ?_, ?_, ?_, ?_, ?_, ?_, ?_, ?_, ?_, ?_, ?_, ?_, trivial⟩ ?_
  · skip
    refine ⟨fun _ _ _ _ _ _ h _ => h, fun _ _ h _ => h, fun σ' w' hA hE hD hP => ?_⟩
    have t0 : σ' 0 = .pointer (some ⟨p0b, p0o, none⟩) := (hA 0 rfl).trans rfl
    have B0_2 : w'.heap[p0b]? = some (.cells p0c p0T p0f) := hE.heap not_oth0 p0B
    refine dg_op rfl (d_mv (v := .pointer (some ⟨p0b, p0o, none⟩)) t0 ?_)
    exact ⟨rfl, own_none (Ext.refl w')⟩
  · skip
    refine ⟨fun _ _ _ _ _ _ h _ => h, fun _ _ h _ => h, fun σ' w' hA hE hD hP => ?_⟩
    have t3 : σ' 3 = (.pointer (some ⟨p0b, p0o, none⟩)) := hD 0 rfl
    have B0_3 : w'.heap[p0b]? = some (.cells p0c p0T p0f) := hE.heap not_oth0 p0B
    refine dg_op rfl (d_nil t3 ?_)
    exact ⟨rfl, own_none (Ext.refl w')⟩
  · skip
    refine ⟨fun _ _ _ _ _ _ h _ => h, fun _ _ h _ => h, fun σ' w' hA hE hD hP => ?_⟩
    have t4 : σ' 4 = (.pointer (some ⟨p0b, p0o, none⟩)) := hD 1 rfl
    have B0_4 : w'.heap[p0b]? = some (.cells p0c p0T p0f) := hE.heap not_oth0 p0B
    refine dg_op rfl (d_fieldAddr t4 (fa30_0 _ _) ?_)
    exact ⟨rfl, own_none (Ext.refl w')⟩
  · skip
    refine ⟨fun _ _ _ _ _ _ h _ => h, fun _ _ h _ => h, fun σ' w' hA hE hD hP => ?_⟩
    have t5 : σ' 5 = (.pointer (some ⟨p0b, p0o, none⟩)) := hD 2 rfl
    have B0_5 : w'.heap[p0b]? = some (.cells p0c p0T p0f) := hE.heap not_oth0 p0B
    refine dg_op rfl (d_load (v := .float .f32 p0r0) t5 agg22 B0_5 (sub_get (vs := #[.float .f32 p0r0, .float .f32 p0r1, .float .f32 p0r2, .float .f32 p0r3]) p0P (i := 0) rfl) ?_)
    exact ⟨rfl, own_none (Ext.refl w')⟩
  · skip
    refine ⟨fun _ _ _ _ _ _ h _ => h, fun _ _ h _ => h, fun σ' w' hA hE hD hP => ?_⟩
    have t0 : σ' 0 = .pointer (some ⟨p0b, p0o, none⟩) := (hA 0 rfl).trans rfl
    have B0_6 : w'.heap[p0b]? = some (.cells p0c p0T p0f) := hE.heap not_oth0 p0B
    refine dg_op rfl (d_mv (v := .pointer (some ⟨p0b, p0o, none⟩)) t0 ?_)
    exact ⟨rfl, own_none (Ext.refl w')⟩
  · skip
    refine ⟨fun _ _ _ _ _ _ h _ => h, fun _ _ h _ => h, fun σ' w' hA hE hD hP => ?_⟩
    have t7 : σ' 7 = (.pointer (some ⟨p0b, p0o, none⟩)) := hD 4 rfl
    have B0_7 : w'.heap[p0b]? = some (.cells p0c p0T p0f) := hE.heap not_oth0 p0B
    refine dg_op rfl (d_nil t7 ?_)
    exact ⟨rfl, own_none (Ext.refl w')⟩
  · skip
    refine ⟨fun _ _ _ _ _ _ h _ => h, fun _ _ h _ => h, fun σ' w' hA hE hD hP => ?_⟩
    have t8 : σ' 8 = (.pointer (some ⟨p0b, p0o, none⟩)) := hD 5 rfl
    have B0_8 : w'.heap[p0b]? = some (.cells p0c p0T p0f) := hE.heap not_oth0 p0B
    refine dg_op rfl (d_fieldAddr t8 (fa30_1 _ _) ?_)
    exact ⟨rfl, own_none (Ext.refl w')⟩
  · skip
    refine ⟨fun _ _ _ _ _ _ h _ => h, fun _ _ h _ => h, fun σ' w' hA hE hD hP => ?_⟩
    have t9 : σ' 9 = (.pointer (some ⟨p0b, p0o + 1, none⟩)) := hD 6 rfl
    have B0_9 : w'.heap[p0b]? = some (.cells p0c p0T p0f) := hE.heap not_oth0 p0B
    refine dg_op rfl (d_load (v := .float .f32 p0r1) t9 agg22 B0_9 (sub_get (vs := #[.float .f32 p0r0, .float .f32 p0r1, .float .f32 p0r2, .float .f32 p0r3]) p0P (i := 1) rfl) ?_)
    exact ⟨rfl, own_none (Ext.refl w')⟩
  · skip
    refine ⟨fun _ _ _ _ _ _ h _ => h, fun _ _ h _ => h, fun σ' w' hA hE hD hP => ?_⟩
    have t0 : σ' 0 = .pointer (some ⟨p0b, p0o, none⟩) := (hA 0 rfl).trans rfl
    have B0_10 : w'.heap[p0b]? = some (.cells p0c p0T p0f) := hE.heap not_oth0 p0B
    refine dg_op rfl (d_mv (v := .pointer (some ⟨p0b, p0o, none⟩)) t0 ?_)
    exact ⟨rfl, own_none (Ext.refl w')⟩
  · skip
    refine ⟨fun _ _ _ _ _ _ h _ => h, fun _ _ h _ => h, fun σ' w' hA hE hD hP => ?_⟩
    have t11 : σ' 11 = (.pointer (some ⟨p0b, p0o, none⟩)) := hD 8 rfl
    have B0_11 : w'.heap[p0b]? = some (.cells p0c p0T p0f) := hE.heap not_oth0 p0B
    refine dg_op rfl (d_nil t11 ?_)
    exact ⟨rfl, own_none (Ext.refl w')⟩
  · skip
    refine ⟨fun _ _ _ _ _ _ h _ => h, fun _ _ h _ => h, fun σ' w' hA hE hD hP => ?_⟩
    have t12 : σ' 12 = (.pointer (some ⟨p0b, p0o, none⟩)) := hD 9 rfl
    have B0_12 : w'.heap[p0b]? = some (.cells p0c p0T p0f) := hE.heap not_oth0 p0B
    refine dg_op rfl (d_fieldAddr t12 (fa30_2 _ _) ?_)
    exact ⟨rfl, own_none (Ext.refl w')⟩
  · skip
    refine ⟨fun _ _ _ _ _ _ h _ => h, fun _ _ h _ => h, fun σ' w' hA hE hD hP => ?_⟩
    have t13 : σ' 13 = (.pointer (some ⟨p0b, p0o + 2, none⟩)) := hD 10 rfl
    have B0_13 : w'.heap[p0b]? = some (.cells p0c p0T p0f) := hE.heap not_oth0 p0B
    refine dg_op rfl (d_load (v := .float .f32 p0r2) t13 agg22 B0_13 (sub_get (vs := #[.float .f32 p0r0, .float .f32 p0r1, .float .f32 p0r2, .float .f32 p0r3]) p0P (i := 2) rfl) ?_)
    exact ⟨rfl, own_none (Ext.refl w')⟩
  · skip
    refine ⟨fun _ _ _ _ _ _ h _ => h, fun _ _ h _ => h, fun σ' w' hA hE hD hP => ?_⟩
    have t0 : σ' 0 = .pointer (some ⟨p0b, p0o, none⟩) := (hA 0 rfl).trans rfl
    have B0_14 : w'.heap[p0b]? = some (.cells p0c p0T p0f) := hE.heap not_oth0 p0B
    refine dg_op rfl (d_mv (v := .pointer (some ⟨p0b, p0o, none⟩)) t0 ?_)
    exact ⟨rfl, own_none (Ext.refl w')⟩
  · skip
    refine ⟨fun _ _ _ _ _ _ h _ => h, fun _ _ h _ => h, fun σ' w' hA hE hD hP => ?_⟩
    have t15 : σ' 15 = (.pointer (some ⟨p0b, p0o, none⟩)) := hD 12 rfl
    have B0_15 : w'.heap[p0b]? = some (.cells p0c p0T p0f) := hE.heap not_oth0 p0B
    refine dg_op rfl (d_nil t15 ?_)
    exact ⟨rfl, own_none (Ext.refl w')⟩
  · skip
    refine ⟨fun _ _ _ _ _ _ h _ => h, fun _ _ h _ => h, fun σ' w' hA hE hD hP => ?_⟩
    have t16 : σ' 16 = (.pointer (some ⟨p0b, p0o, none⟩)) := hD 13 rfl
    have B0_16 : w'.heap[p0b]? = some (.cells p0c p0T p0f) := hE.heap not_oth0 p0B
    refine dg_op rfl (d_fieldAddr t16 (fa30_3 _ _) ?_)
    exact ⟨rfl, own_none (Ext.refl w')⟩
  · skip
    refine ⟨fun _ _ _ _ _ _ h _ => h, fun _ _ h _ => h, fun σ' w' hA hE hD hP => ?_⟩
    have t17 : σ' 17 = (.pointer (some ⟨p0b, p0o + 3, none⟩)) := hD 14 rfl
    have B0_17 : w'.heap[p0b]? = some (.cells p0c p0T p0f) := hE.heap not_oth0 p0B
    refine dg_op rfl (d_load (v := .float .f32 p0r3) t17 agg22 B0_17 (sub_get (vs := #[.float .f32 p0r0, .float .f32 p0r1, .float .f32 p0r2, .float .f32 p0r3]) p0P (i := 3) rfl) ?_)
    exact ⟨rfl, own_none (Ext.refl w')⟩
  · skip
    refine ⟨fun _ _ _ w' w'' _ ⟨d1_16v, hv, d1_16vL, d1_16vR⟩ hF => ⟨d1_16v, hv, d1_16vL, d1_16vR.frm hF (fun k hk => not_oth0)⟩, fun _ _ h _ => h, fun σ' w' hA hE hD hP => ?_⟩
    have t6 : σ' 6 = (.float .f32 p0r0) := hD 3 rfl
    have t10 : σ' 10 = (.float .f32 p0r1) := hD 7 rfl
    have t14 : σ' 14 = (.float .f32 p0r2) := hD 11 rfl
    have t18 : σ' 18 = (.float .f32 p0r3) := hD 15 rfl
    refine dg_op rfl (d_bslice (vs := [(0, .float .f32 p0r0), (1, .float .f32 p0r1), (2, .float .f32 p0r2), (3, .float .f32 p0r3)]) (cs := #[.float .f32 p0r0, .float .f32 p0r1, .float .f32 p0r2, .float .f32 p0r3]) un48 (pc t6 (pc t10 (pc t14 (pc t18 rfl)))) (by kernel_rfl) fun w18 B18 E18 => ?_)
    have fr18 : ∀ k, (Value.slice (some ⟨w'.heap.size, 0, none⟩) 4 4).ownBlock = some k → w'.heap.size ≤ k := fun k hk => by cases hk; exact Nat.le_refl _
    have X19 : Ext w' w18 := (Ext.refl w').trans E18
    have O18 : OS w18 22 encF_f32 (Value.slice (some ⟨w'.heap.size, 0, none⟩) 4 4) [p0.w, p0.x, p0.y, p0.z] := OS.box (xs := [p0.w, p0.x, p0.y, p0.z]) B18 (lc_f p0h0 (lc_f p0h1 (lc_f p0h2 (lc_f p0h3 rfl)))) (Nat.le_of_ble_eq_true rfl)
    exact ⟨⟨(Value.slice (some ⟨w'.heap.size, 0, none⟩) 4 4), rfl, (fun k hk => Nat.le_trans hE.size (fr18 k hk)), O18⟩, own_none X19⟩
  · skip
    refine ⟨fun _ _ _ w' w'' _ ⟨d1_16v, hv, d1_16vL, d1_16vR⟩ hF => ⟨d1_16v, hv, d1_16vL, d1_16vR.frm hF (fun k hk => not_oth0)⟩, fun _ _ h _ => h, fun σ' w' hA hE hD hP => ?_⟩
    obtain ⟨d1_16v, t19, d1_16vL, d1_16vR⟩ : ∃ d1_16v : Value, σ' 19 = d1_16v ∧ (∀ k, d1_16v.ownBlock = some k → w.heap.size ≤ k) ∧ OS w' 22 encF_f32 d1_16v ([p0.w, p0.x, p0.y, p0.z]) := hD 16 rfl
    refine dg_op rfl (d_as (v := d1_16v) t19 ?_)
    exact ⟨⟨d1_16v, rfl, d1_16vL, d1_16vR⟩, own_none (Ext.refl w')⟩
  · skip
    intro σ1 w1 A1 E1 V1
    have E1x : Ext w w1 := ext_of_oth0 E1
    obtain ⟨z1_2_16v, s2_1, z1_2_16vL, z1_2_16vR⟩ : ∃ z1_2_16v : Value, σ1 2 = z1_2_16v ∧ (∀ k, z1_2_16v.ownBlock = some k → w.heap.size ≤ k) ∧ OS w1 22 encF_f32 z1_2_16v ([p0.w, p0.x, p0.y, p0.z]) := V1 17 (Nat.le_of_ble_eq_true rfl)
    have own20 : ∀ k, z1_2_16v.ownBlock = some k → w.heap.size ≤ k := fun k hk => Nat.le_trans (Ext.refl w).size (z1_2_16vL k hk)
    have X21 : Ext w w1 := (Ext.refl w).trans E1x
    refine W_ret ?_
    subst hr
    refine ⟨_, res1 (rv_tmp s2_1), ?_⟩
    exact ⟨z1_2_16v, rfl, z1_2_16vR, own20, X21⟩
end Go.Proofs
