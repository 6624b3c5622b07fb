import Derived.Test.YtdcienojgkioiaaCf
namespace Go.Proofs
open Go Go.Fl Go.RowKit Go.Rg
set_option maxRecDepth 100000
set_option linter.unusedVariables false
attribute [local irreducible] Go.Calls doAll Does DoesG W Wr
set_option maxHeartbeats 4000000 in
theorem c8 (p0 : SVector) (p0r0 : Nat) (p0r1 : Nat) (p0r2 : Nat) (r : SVector) (w : World) (hr : M.laws_toVector p0 = r) (p0h0 : cn .f32 p0r0 = p0.x) (p0h1 : cn .f32 p0r1 = p0.y) (p0h2 : cn .f32 p0r2 = p0.z) :
    Calls Try.prog 8 #[.agg #[.float .f32 p0r0, .float .f32 p0r1, .float .f32 p0r2]] w fun e w' => ∃ q0r0 : Nat, ∃ q0r1 : Nat, ∃ q0r2 : Nat, e = .returned (.agg #[.float .f32 q0r0, .float .f32 q0r1, .float .f32 q0r2]) ∧ cn .f32 q0r0 = r.x ∧ cn .f32 q0r1 = r.y ∧ cn .f32 q0r2 = r.z ∧ Ext w w' := by
  refine calls_of_W Try.func8 rfl (Nat.le_of_ble_eq_true rfl) ?_
  refine W_seq ?_
  refine W_region rfl ?_
  refine da_op rfl (d_box (cs := #[.float .f32 p0r0, .float .f32 p0r1, .float .f32 p0r2]) rfl fun w1 B1 E1 => ?_)
  have own2 : w.heap.size ≤ w.heap.size := Nat.le_trans (Ext.refl w).size (Nat.le_refl _)
  have X3 : Ext w w1 := (Ext.refl w).trans E1
  refine da_op rfl (d_alloc (cs := #[.float .f32 0, .float .f32 0, .float .f32 0]) zero29 rfl fun w4 B4 E4 => ?_)
  have own5 : w.heap.size ≤ w1.heap.size := Nat.le_trans X3.size (Nat.le_refl _)
  have sp6 : w.heap.size ≠ w1.heap.size := Nat.ne_of_lt (Nat.lt_of_lt_of_le (lt_heap B1) (Nat.le_refl _))
  have X7 : Ext w w4 := X3.trans E4
  refine da_nil ?_
  refine W_seq ?_
  refine W_region rfl ?_
  have B9 : w4.heap[w.heap.size]? = some (.cells #[.float .f32 p0r0, .float .f32 p0r1, .float .f32 p0r2] 24 (0, 0)) := E4.heap B1
  refine da_op rfl (d_alloc (cs := #[.float .f32 0, .float .f32 0, .float .f32 0]) zero29 rfl fun w8 B8 E8 => ?_)
  have own10 : w.heap.size ≤ w4.heap.size := Nat.le_trans X7.size (Nat.le_refl _)
  have sp11 : w.heap.size ≠ w4.heap.size := Nat.ne_of_lt (Nat.lt_of_lt_of_le (lt_heap B9) (Nat.le_refl _))
  have sp12 : w1.heap.size ≠ w4.heap.size := Nat.ne_of_lt (Nat.lt_of_lt_of_le (lt_heap B4) (Nat.le_refl _))
  have X13 : Ext w w8 := X7.trans E8
  refine da_nil ?_
  refine W_seq ?_
  refine W_region rfl ?_
  refine da_op rfl (d_fieldAddr rfl (fa24_0 _ _) ?_)
  have B14 : w8.heap[w.heap.size]? = some (.cells #[.float .f32 p0r0, .float .f32 p0r1, .float .f32 p0r2] 24 (0, 0)) := E8.heap B9
  refine da_op rfl (d_load (v := .float .f32 p0r0) rfl agg22 B14 rfl ?_)
  refine da_op rfl (d_fieldAddr rfl (fa29_0 _ _) ?_)
  refine da_op rfl (d_store (vs := #[.float .f32 p0r0]) rfl rfl B8 size22 (Nat.le_of_ble_eq_true rfl) rfl fun w15 S15 => ?_)
  have X16 : Ext w w15 := Ext.step X13 S15.frmb (fun k _ hk => hk ▸ own10)
  have B17 : w15.heap[w4.heap.size]? = some (.cells #[.float .f32 p0r0, .float .f32 0, .float .f32 0] 29 (0, 0)) := S15.here
  refine da_nil ?_
  refine W_seq ?_
  refine W_region rfl ?_
  refine da_op rfl (d_fieldAddr rfl (fa24_1 _ _) ?_)
  have B18 : w15.heap[w.heap.size]? = some (.cells #[.float .f32 p0r0, .float .f32 p0r1, .float .f32 p0r2] 24 (0, 0)) := S15.frmb.heap sp11 B14
  refine da_op rfl (d_load (v := .float .f32 p0r1) rfl agg22 B18 rfl ?_)
  refine da_op rfl (d_fieldAddr rfl (fa29_1 _ _) ?_)
  refine da_op rfl (d_store (vs := #[.float .f32 p0r1]) rfl rfl B17 size22 (Nat.le_of_ble_eq_true rfl) rfl fun w19 S19 => ?_)
  have X20 : Ext w w19 := Ext.step X16 S19.frmb (fun k _ hk => hk ▸ own10)
  have B21 : w19.heap[w4.heap.size]? = some (.cells #[.float .f32 p0r0, .float .f32 p0r1, .float .f32 0] 29 (0, 0)) := S19.here
  refine da_nil ?_
  refine W_seq ?_
  refine W_region rfl ?_
  refine da_op rfl (d_fieldAddr rfl (fa24_2 _ _) ?_)
  have B22 : w19.heap[w.heap.size]? = some (.cells #[.float .f32 p0r0, .float .f32 p0r1, .float .f32 p0r2] 24 (0, 0)) := S19.frmb.heap sp11 B18
  refine da_op rfl (d_load (v := .float .f32 p0r2) rfl agg22 B22 rfl ?_)
  refine da_op rfl (d_fieldAddr rfl (fa29_2 _ _) ?_)
  refine da_op rfl (d_store (vs := #[.float .f32 p0r2]) rfl rfl B21 size22 (Nat.le_of_ble_eq_true rfl) rfl fun w23 S23 => ?_)
  have X24 : Ext w w23 := Ext.step X20 S23.frmb (fun k _ hk => hk ▸ own10)
  have B25 : w23.heap[w4.heap.size]? = some (.cells #[.float .f32 p0r0, .float .f32 p0r1, .float .f32 p0r2] 29 (0, 0)) := S23.here
  refine da_nil ?_
  refine W_seq ?_
  refine W_region rfl ?_
  refine da_op rfl (d_loads (vs := #[.float .f32 p0r0, .float .f32 p0r1, .float .f32 p0r2]) rfl agg29 size29 B25 rfl ?_)
  have B26 : w23.heap[w1.heap.size]? = some (.cells #[.float .f32 0, .float .f32 0, .float .f32 0] 29 (0, 0)) := S23.frmb.heap sp12 (S19.frmb.heap sp12 (S15.frmb.heap sp12 (E8.heap B4)))
  refine da_op rfl (d_store (vs := #[.float .f32 p0r0, .float .f32 p0r1, .float .f32 p0r2]) rfl rfl B26 size29 (Nat.le_of_ble_eq_true rfl) rfl fun w27 S27 => ?_)
  have X28 : Ext w w27 := Ext.step X24 S27.frmb (fun k _ hk => hk ▸ own5)
  have B29 : w27.heap[w1.heap.size]? = some (.cells #[.float .f32 p0r0, .float .f32 p0r1, .float .f32 p0r2] 29 (0, 0)) := S27.here
  refine da_nil ?_
  refine W_ret ?_
  subst hr
  refine ⟨_, res1 (rv_cells (vs := #[.float .f32 p0r0, .float .f32 p0r1, .float .f32 p0r2]) rfl agg29 size29 B29 rfl), ?_⟩
  exact ⟨p0r0, p0r1, p0r2, rfl, p0h0, p0h1, p0h2, X28⟩
set_option maxHeartbeats 4000000 in
theorem c24 (p0 : SSpin) (p0r0 : Nat) (p0r1 : Nat) (p0r2 : Nat) (p0r3 : Nat) (r : SSpin) (w : World) (hr : M.laws_toSpin p0 = r) (p0h0 : cn .f32 p0r0 = p0.w) (p0h1 : cn .f32 p0r1 = p0.x) (p0h2 : cn .f32 p0r2 = p0.y) (p0h3 : cn .f32 p0r3 = p0.z) :
    Calls Try.prog 24 #[.agg #[.float .f32 p0r0, .float .f32 p0r1, .float .f32 p0r2, .float .f32 p0r3]] w fun e w' => ∃ q0r0 : Nat, ∃ q0r1 : Nat, ∃ q0r2 : Nat, ∃ q0r3 : Nat, e = .returned (.agg #[.float .f32 q0r0, .float .f32 q0r1, .float .f32 q0r2, .float .f32 q0r3]) ∧ cn .f32 q0r0 = r.w ∧ cn .f32 q0r1 = r.x ∧ cn .f32 q0r2 = r.y ∧ cn .f32 q0r3 = r.z ∧ Ext w w' := by
  refine calls_of_W Try.func24 rfl (Nat.le_of_ble_eq_true rfl) ?_
  refine W_seq ?_
  refine W_region rfl ?_
  refine da_op rfl (d_box (cs := #[.float .f32 p0r0, .float .f32 p0r1, .float .f32 p0r2, .float .f32 p0r3]) rfl fun w1 B1 E1 => ?_)
  have own2 : w.heap.size ≤ w.heap.size := Nat.le_trans (Ext.refl w).size (Nat.le_refl _)
  have X3 : Ext w w1 := (Ext.refl w).trans E1
  refine da_op rfl (d_alloc (cs := #[.float .f32 0, .float .f32 0, .float .f32 0, .float .f32 0]) zero30 rfl fun w4 B4 E4 => ?_)
  have own5 : w.heap.size ≤ w1.heap.size := Nat.le_trans X3.size (Nat.le_refl _)
  have sp6 : w.heap.size ≠ w1.heap.size := Nat.ne_of_lt (Nat.lt_of_lt_of_le (lt_heap B1) (Nat.le_refl _))
  have X7 : Ext w w4 := X3.trans E4
  refine da_nil ?_
  refine W_seq ?_
  refine W_region rfl ?_
  have B9 : w4.heap[w.heap.size]? = some (.cells #[.float .f32 p0r0, .float .f32 p0r1, .float .f32 p0r2, .float .f32 p0r3] 26 (0, 0)) := E4.heap B1
  refine da_op rfl (d_alloc (cs := #[.float .f32 0, .float .f32 0, .float .f32 0, .float .f32 0]) zero30 rfl fun w8 B8 E8 => ?_)
  have own10 : w.heap.size ≤ w4.heap.size := Nat.le_trans X7.size (Nat.le_refl _)
  have sp11 : w.heap.size ≠ w4.heap.size := Nat.ne_of_lt (Nat.lt_of_lt_of_le (lt_heap B9) (Nat.le_refl _))
  have sp12 : w1.heap.size ≠ w4.heap.size := Nat.ne_of_lt (Nat.lt_of_lt_of_le (lt_heap B4) (Nat.le_refl _))
  have X13 : Ext w w8 := X7.trans E8
  refine da_nil ?_
  refine W_seq ?_
  refine W_region rfl ?_
  refine da_op rfl (d_fieldAddr rfl (fa26_0 _ _) ?_)
  have B14 : w8.heap[w.heap.size]? = some (.cells #[.float .f32 p0r0, .float .f32 p0r1, .float .f32 p0r2, .float .f32 p0r3] 26 (0, 0)) := E8.heap B9
  refine da_op rfl (d_load (v := .float .f32 p0r0) rfl agg22 B14 rfl ?_)
  refine da_op rfl (d_fieldAddr rfl (fa30_0 _ _) ?_)
  refine da_op rfl (d_store (vs := #[.float .f32 p0r0]) rfl rfl B8 size22 (Nat.le_of_ble_eq_true rfl) rfl fun w15 S15 => ?_)
  have X16 : Ext w w15 := Ext.step X13 S15.frmb (fun k _ hk => hk ▸ own10)
  have B17 : w15.heap[w4.heap.size]? = some (.cells #[.float .f32 p0r0, .float .f32 0, .float .f32 0, .float .f32 0] 30 (0, 0)) := S15.here
  refine da_nil ?_
  refine W_seq ?_
  refine W_region rfl ?_
  refine da_op rfl (d_fieldAddr rfl (fa26_1 _ _) ?_)
  have B18 : w15.heap[w.heap.size]? = some (.cells #[.float .f32 p0r0, .float .f32 p0r1, .float .f32 p0r2, .float .f32 p0r3] 26 (0, 0)) := S15.frmb.heap sp11 B14
  refine da_op rfl (d_load (v := .float .f32 p0r1) rfl agg22 B18 rfl ?_)
  refine da_op rfl (d_fieldAddr rfl (fa30_1 _ _) ?_)
  refine da_op rfl (d_store (vs := #[.float .f32 p0r1]) rfl rfl B17 size22 (Nat.le_of_ble_eq_true rfl) rfl fun w19 S19 => ?_)
  have X20 : Ext w w19 := Ext.step X16 S19.frmb (fun k _ hk => hk ▸ own10)
  have B21 : w19.heap[w4.heap.size]? = some (.cells #[.float .f32 p0r0, .float .f32 p0r1, .float .f32 0, .float .f32 0] 30 (0, 0)) := S19.here
  refine da_nil ?_
  refine W_seq ?_
  refine W_region rfl ?_
  refine da_op rfl (d_fieldAddr rfl (fa26_2 _ _) ?_)
  have B22 : w19.heap[w.heap.size]? = some (.cells #[.float .f32 p0r0, .float .f32 p0r1, .float .f32 p0r2, .float .f32 p0r3] 26 (0, 0)) := S19.frmb.heap sp11 B18
  refine da_op rfl (d_load (v := .float .f32 p0r2) rfl agg22 B22 rfl ?_)
  refine da_op rfl (d_fieldAddr rfl (fa30_2 _ _) ?_)
  refine da_op rfl (d_store (vs := #[.float .f32 p0r2]) rfl rfl B21 size22 (Nat.le_of_ble_eq_true rfl) rfl fun w23 S23 => ?_)
  have X24 : Ext w w23 := Ext.step X20 S23.frmb (fun k _ hk => hk ▸ own10)
  have B25 : w23.heap[w4.heap.size]? = some (.cells #[.float .f32 p0r0, .float .f32 p0r1, .float .f32 p0r2, .float .f32 0] 30 (0, 0)) := S23.here
  refine da_nil ?_
  refine W_seq ?_
  refine W_region rfl ?_
  refine da_op rfl (d_fieldAddr rfl (fa26_3 _ _) ?_)
  have B26 : w23.heap[w.heap.size]? = some (.cells #[.float .f32 p0r0, .float .f32 p0r1, .float .f32 p0r2, .float .f32 p0r3] 26 (0, 0)) := S23.frmb.heap sp11 B22
  refine da_op rfl (d_load (v := .float .f32 p0r3) rfl agg22 B26 rfl ?_)
  refine da_op rfl (d_fieldAddr rfl (fa30_3 _ _) ?_)
  refine da_op rfl (d_store (vs := #[.float .f32 p0r3]) rfl rfl B25 size22 (Nat.le_of_ble_eq_true rfl) rfl fun w27 S27 => ?_)
  have X28 : Ext w w27 := Ext.step X24 S27.frmb (fun k _ hk => hk ▸ own10)
  have B29 : w27.heap[w4.heap.size]? = some (.cells #[.float .f32 p0r0, .float .f32 p0r1, .float .f32 p0r2, .float .f32 p0r3] 30 (0, 0)) := S27.here
  refine da_nil ?_
  refine W_seq ?_
  refine W_region rfl ?_
  refine da_op rfl (d_loads (vs := #[.float .f32 p0r0, .float .f32 p0r1, .float .f32 p0r2, .float .f32 p0r3]) rfl agg30 size30 B29 rfl ?_)
  have B30 : w27.heap[w1.heap.size]? = some (.cells #[.float .f32 0, .float .f32 0, .float .f32 0, .float .f32 0] 30 (0, 0)) := S27.frmb.heap sp12 (S23.frmb.heap sp12 (S19.frmb.heap sp12 (S15.frmb.heap sp12 (E8.heap B4))))
  refine da_op rfl (d_store (vs := #[.float .f32 p0r0, .float .f32 p0r1, .float .f32 p0r2, .float .f32 p0r3]) rfl rfl B30 size30 (Nat.le_of_ble_eq_true rfl) rfl fun w31 S31 => ?_)
  have X32 : Ext w w31 := Ext.step X28 S31.frmb (fun k _ hk => hk ▸ own5)
  have B33 : w31.heap[w1.heap.size]? = some (.cells #[.float .f32 p0r0, .float .f32 p0r1, .float .f32 p0r2, .float .f32 p0r3] 30 (0, 0)) := S31.here
  refine da_nil ?_
  refine W_ret ?_
  subst hr
  refine ⟨_, res1 (rv_cells (vs := #[.float .f32 p0r0, .float .f32 p0r1, .float .f32 p0r2, .float .f32 p0r3]) rfl agg30 size30 B33 rfl), ?_⟩
  exact ⟨p0r0, p0r1, p0r2, p0r3, rfl, p0h0, p0h1, p0h2, p0h3, X32⟩
set_option maxHeartbeats 4000000 in
theorem c7 (p0 : STop) (p0r0 : Nat) (p0r1 : Nat) (p0r2 : Nat) (p0r3 : Nat) (p0r4 : Nat) (p0r5 : Nat) (p0r6 : Nat) (p0r7 : Nat) (p0r8 : Nat) (p0r9 : Nat) (r : STop) (w : World) (hr : M.laws_toTop p0 = r) (p0h0 : cn .f32 p0r0 = p0.moments.x) (p0h1 : cn .f32 p0r1 = p0.moments.y) (p0h2 : cn .f32 p0r2 = p0.moments.z) (p0h3 : cn .f32 p0r3 = p0.turn.w) (p0h4 : cn .f32 p0r4 = p0.turn.x) (p0h5 : cn .f32 p0r5 = p0.turn.y) (p0h6 : cn .f32 p0r6 = p0.turn.z) (p0h7 : cn .f32 p0r7 = p0.speed.x) (p0h8 : cn .f32 p0r8 = p0.speed.y) (p0h9 : cn .f32 p0r9 = p0.speed.z) :
    Calls Try.prog 7 #[.agg #[.float .f32 p0r0, .float .f32 p0r1, .float .f32 p0r2, .float .f32 p0r3, .float .f32 p0r4, .float .f32 p0r5, .float .f32 p0r6, .float .f32 p0r7, .float .f32 p0r8, .float .f32 p0r9]] w fun e w' => ∃ q0r0 : Nat, ∃ q0r1 : Nat, ∃ q0r2 : Nat, ∃ q0r3 : Nat, ∃ q0r4 : Nat, ∃ q0r5 : Nat, ∃ q0r6 : Nat, ∃ q0r7 : Nat, ∃ q0r8 : Nat, ∃ q0r9 : Nat, e = .returned (.agg #[.float .f32 q0r0, .float .f32 q0r1, .float .f32 q0r2, .float .f32 q0r3, .float .f32 q0r4, .float .f32 q0r5, .float .f32 q0r6, .float .f32 q0r7, .float .f32 q0r8, .float .f32 q0r9]) ∧ cn .f32 q0r0 = r.moments.x ∧ cn .f32 q0r1 = r.moments.y ∧ cn .f32 q0r2 = r.moments.z ∧ cn .f32 q0r3 = r.turn.w ∧ cn .f32 q0r4 = r.turn.x ∧ cn .f32 q0r5 = r.turn.y ∧ cn .f32 q0r6 = r.turn.z ∧ cn .f32 q0r7 = r.speed.x ∧ cn .f32 q0r8 = r.speed.y ∧ cn .f32 q0r9 = r.speed.z ∧ Ext w w' := by
  refine calls_of_W Try.func7 rfl (Nat.le_of_ble_eq_true rfl) ?_
  refine W_seq ?_
  refine W_region rfl ?_
  refine da_op rfl (d_box (cs := #[.float .f32 p0r0, .float .f32 p0r1, .float .f32 p0r2, .float .f32 p0r3, .float .f32 p0r4, .float .f32 p0r5, .float .f32 p0r6, .float .f32 p0r7, .float .f32 p0r8, .float .f32 p0r9]) rfl fun w1 B1 E1 => ?_)
  have own2 : w.heap.size ≤ w.heap.size := Nat.le_trans (Ext.refl w).size (Nat.le_refl _)
  have X3 : Ext w w1 := (Ext.refl w).trans E1
  refine da_op rfl (d_alloc (cs := #[.float .f32 0, .float .f32 0, .float .f32 0, .float .f32 0, .float .f32 0, .float .f32 0, .float .f32 0, .float .f32 0, .float .f32 0, .float .f32 0]) zero32 rfl fun w4 B4 E4 => ?_)
  have own5 : w.heap.size ≤ w1.heap.size := Nat.le_trans X3.size (Nat.le_refl _)
  have sp6 : w.heap.size ≠ w1.heap.size := Nat.ne_of_lt (Nat.lt_of_lt_of_le (lt_heap B1) (Nat.le_refl _))
  have X7 : Ext w w4 := X3.trans E4
  refine da_nil ?_
  refine W_seq ?_
  refine W_region rfl ?_
  have B9 : w4.heap[w.heap.size]? = some (.cells #[.float .f32 p0r0, .float .f32 p0r1, .float .f32 p0r2, .float .f32 p0r3, .float .f32 p0r4, .float .f32 p0r5, .float .f32 p0r6, .float .f32 p0r7, .float .f32 p0r8, .float .f32 p0r9] 28 (0, 0)) := E4.heap B1
  refine da_op rfl (d_alloc (cs := #[.float .f32 0, .float .f32 0, .float .f32 0, .float .f32 0, .float .f32 0, .float .f32 0, .float .f32 0, .float .f32 0, .float .f32 0, .float .f32 0]) zero32 rfl fun w8 B8 E8 => ?_)
  have own10 : w.heap.size ≤ w4.heap.size := Nat.le_trans X7.size (Nat.le_refl _)
  have sp11 : w.heap.size ≠ w4.heap.size := Nat.ne_of_lt (Nat.lt_of_lt_of_le (lt_heap B9) (Nat.le_refl _))
  have sp12 : w1.heap.size ≠ w4.heap.size := Nat.ne_of_lt (Nat.lt_of_lt_of_le (lt_heap B4) (Nat.le_refl _))
  have X13 : Ext w w8 := X7.trans E8
  refine da_nil ?_
  refine W_seq ?_
  refine W_region rfl ?_
  refine da_op rfl (d_fieldAddr rfl (fa28_0 _ _) ?_)
  have B14 : w8.heap[w.heap.size]? = some (.cells #[.float .f32 p0r0, .float .f32 p0r1, .float .f32 p0r2, .float .f32 p0r3, .float .f32 p0r4, .float .f32 p0r5, .float .f32 p0r6, .float .f32 p0r7, .float .f32 p0r8, .float .f32 p0r9] 28 (0, 0)) := E8.heap B9
  refine da_op rfl (d_loads (vs := #[.float .f32 p0r0, .float .f32 p0r1, .float .f32 p0r2]) rfl agg24 size24 B14 rfl ?_)
  obtain ⟨m15, hm15, hr⟩ := letv_out hr
  have B16 : w8.heap[w1.heap.size]? = some (.cells #[.float .f32 0, .float .f32 0, .float .f32 0, .float .f32 0, .float .f32 0, .float .f32 0, .float .f32 0, .float .f32 0, .float .f32 0, .float .f32 0] 32 (0, 0)) := E8.heap B4
  refine da_op rfl (d_cl (vs := [.agg #[.float .f32 p0r0, .float .f32 p0r1, .float .f32 p0r2]]) en8 (ac rfl rfl) rfl ?_)
  refine (c8 (⟨p0.moments.x, p0.moments.y, p0.moments.z⟩ : SVector) p0r0 p0r1 p0r2 m15 w8 hm15 p0h0 p0h1 p0h2).mono ?_
  rintro _ w17 ⟨q17_0r0, q17_0r1, q17_0r2, rfl, q17_0h0, q17_0h1, q17_0h2, E17⟩
  refine ⟨_, rfl, ?_⟩
  have X18 : Ext w w17 := X13.trans E17
  refine da_op rfl (d_fieldAddr rfl (fa32_0 _ _) ?_)
  have B19 : w17.heap[w4.heap.size]? = some (.cells #[.float .f32 0, .float .f32 0, .float .f32 0, .float .f32 0, .float .f32 0, .float .f32 0, .float .f32 0, .float .f32 0, .float .f32 0, .float .f32 0] 32 (0, 0)) := E17.heap B8
  refine da_op rfl (d_store (vs := #[.float .f32 q17_0r0, .float .f32 q17_0r1, .float .f32 q17_0r2]) rfl rfl B19 size29 (Nat.le_of_ble_eq_true rfl) rfl fun w20 S20 => ?_)
  have X21 : Ext w w20 := Ext.step X18 S20.frmb (fun k _ hk => hk ▸ own10)
  have B22 : w20.heap[w4.heap.size]? = some (.cells #[.float .f32 q17_0r0, .float .f32 q17_0r1, .float .f32 q17_0r2, .float .f32 0, .float .f32 0, .float .f32 0, .float .f32 0, .float .f32 0, .float .f32 0, .float .f32 0] 32 (0, 0)) := S20.here
  refine da_nil ?_
  refine W_seq ?_
  refine W_region rfl ?_
  refine da_op rfl (d_fieldAddr rfl (fa28_1 _ _) ?_)
  have B23 : w20.heap[w.heap.size]? = some (.cells #[.float .f32 p0r0, .float .f32 p0r1, .float .f32 p0r2, .float .f32 p0r3, .float .f32 p0r4, .float .f32 p0r5, .float .f32 p0r6, .float .f32 p0r7, .float .f32 p0r8, .float .f32 p0r9] 28 (0, 0)) := S20.frmb.heap sp11 (E17.heap B14)
  refine da_op rfl (d_loads (vs := #[.float .f32 p0r3, .float .f32 p0r4, .float .f32 p0r5, .float .f32 p0r6]) rfl agg26 size26 B23 rfl ?_)
  obtain ⟨m24, hm24, hr⟩ := letv_out hr
  have B25 : w20.heap[w1.heap.size]? = some (.cells #[.float .f32 0, .float .f32 0, .float .f32 0, .float .f32 0, .float .f32 0, .float .f32 0, .float .f32 0, .float .f32 0, .float .f32 0, .float .f32 0] 32 (0, 0)) := S20.frmb.heap sp12 (E17.heap B16)
  refine da_op rfl (d_cl (vs := [.agg #[.float .f32 p0r3, .float .f32 p0r4, .float .f32 p0r5, .float .f32 p0r6]]) en24 (ac rfl rfl) rfl ?_)
  refine (c24 (⟨p0.turn.w, p0.turn.x, p0.turn.y, p0.turn.z⟩ : SSpin) p0r3 p0r4 p0r5 p0r6 m24 w20 hm24 p0h3 p0h4 p0h5 p0h6).mono ?_
  rintro _ w26 ⟨q26_0r0, q26_0r1, q26_0r2, q26_0r3, rfl, q26_0h0, q26_0h1, q26_0h2, q26_0h3, E26⟩
  refine ⟨_, rfl, ?_⟩
  have X27 : Ext w w26 := X21.trans E26
  refine da_op rfl (d_fieldAddr rfl (fa32_1 _ _) ?_)
  have B28 : w26.heap[w4.heap.size]? = some (.cells #[.float .f32 q17_0r0, .float .f32 q17_0r1, .float .f32 q17_0r2, .float .f32 0, .float .f32 0, .float .f32 0, .float .f32 0, .float .f32 0, .float .f32 0, .float .f32 0] 32 (0, 0)) := E26.heap B22
  refine da_op rfl (d_store (vs := #[.float .f32 q26_0r0, .float .f32 q26_0r1, .float .f32 q26_0r2, .float .f32 q26_0r3]) rfl rfl B28 size30 (Nat.le_of_ble_eq_true rfl) rfl fun w29 S29 => ?_)
  have X30 : Ext w w29 := Ext.step X27 S29.frmb (fun k _ hk => hk ▸ own10)
  have B31 : w29.heap[w4.heap.size]? = some (.cells #[.float .f32 q17_0r0, .float .f32 q17_0r1, .float .f32 q17_0r2, .float .f32 q26_0r0, .float .f32 q26_0r1, .float .f32 q26_0r2, .float .f32 q26_0r3, .float .f32 0, .float .f32 0, .float .f32 0] 32 (0, 0)) := S29.here
  refine da_nil ?_
  refine W_seq ?_
  refine W_region rfl ?_
  refine da_op rfl (d_fieldAddr rfl (fa28_2 _ _) ?_)
  have B32 : w29.heap[w.heap.size]? = some (.cells #[.float .f32 p0r0, .float .f32 p0r1, .float .f32 p0r2, .float .f32 p0r3, .float .f32 p0r4, .float .f32 p0r5, .float .f32 p0r6, .float .f32 p0r7, .float .f32 p0r8, .float .f32 p0r9] 28 (0, 0)) := S29.frmb.heap sp11 (E26.heap B23)
  refine da_op rfl (d_loads (vs := #[.float .f32 p0r7, .float .f32 p0r8, .float .f32 p0r9]) rfl agg24 size24 B32 rfl ?_)
  obtain ⟨m33, hm33, hr⟩ := letv_out hr
  have B34 : w29.heap[w1.heap.size]? = some (.cells #[.float .f32 0, .float .f32 0, .float .f32 0, .float .f32 0, .float .f32 0, .float .f32 0, .float .f32 0, .float .f32 0, .float .f32 0, .float .f32 0] 32 (0, 0)) := S29.frmb.heap sp12 (E26.heap B25)
  refine da_op rfl (d_cl (vs := [.agg #[.float .f32 p0r7, .float .f32 p0r8, .float .f32 p0r9]]) en8 (ac rfl rfl) rfl ?_)
  refine (c8 (⟨p0.speed.x, p0.speed.y, p0.speed.z⟩ : SVector) p0r7 p0r8 p0r9 m33 w29 hm33 p0h7 p0h8 p0h9).mono ?_
  rintro _ w35 ⟨q35_0r0, q35_0r1, q35_0r2, rfl, q35_0h0, q35_0h1, q35_0h2, E35⟩
  refine ⟨_, rfl, ?_⟩
  have X36 : Ext w w35 := X30.trans E35
  refine da_op rfl (d_fieldAddr rfl (fa32_2 _ _) ?_)
  have B37 : w35.heap[w4.heap.size]? = some (.cells #[.float .f32 q17_0r0, .float .f32 q17_0r1, .float .f32 q17_0r2, .float .f32 q26_0r0, .float .f32 q26_0r1, .float .f32 q26_0r2, .float .f32 q26_0r3, .float .f32 0, .float .f32 0, .float .f32 0] 32 (0, 0)) := E35.heap B31
  refine da_op rfl (d_store (vs := #[.float .f32 q35_0r0, .float .f32 q35_0r1, .float .f32 q35_0r2]) rfl rfl B37 size29 (Nat.le_of_ble_eq_true rfl) rfl fun w38 S38 => ?_)
  have X39 : Ext w w38 := Ext.step X36 S38.frmb (fun k _ hk => hk ▸ own10)
  have B40 : w38.heap[w4.heap.size]? = some (.cells #[.float .f32 q17_0r0, .float .f32 q17_0r1, .float .f32 q17_0r2, .float .f32 q26_0r0, .float .f32 q26_0r1, .float .f32 q26_0r2, .float .f32 q26_0r3, .float .f32 q35_0r0, .float .f32 q35_0r1, .float .f32 q35_0r2] 32 (0, 0)) := S38.here
  refine da_nil ?_
  refine W_seq ?_
  refine W_region rfl ?_
  refine da_op rfl (d_loads (vs := #[.float .f32 q17_0r0, .float .f32 q17_0r1, .float .f32 q17_0r2, .float .f32 q26_0r0, .float .f32 q26_0r1, .float .f32 q26_0r2, .float .f32 q26_0r3, .float .f32 q35_0r0, .float .f32 q35_0r1, .float .f32 q35_0r2]) rfl agg32 size32 B40 rfl ?_)
  have B41 : w38.heap[w1.heap.size]? = some (.cells #[.float .f32 0, .float .f32 0, .float .f32 0, .float .f32 0, .float .f32 0, .float .f32 0, .float .f32 0, .float .f32 0, .float .f32 0, .float .f32 0] 32 (0, 0)) := S38.frmb.heap sp12 (E35.heap B34)
  refine da_op rfl (d_store (vs := #[.float .f32 q17_0r0, .float .f32 q17_0r1, .float .f32 q17_0r2, .float .f32 q26_0r0, .float .f32 q26_0r1, .float .f32 q26_0r2, .float .f32 q26_0r3, .float .f32 q35_0r0, .float .f32 q35_0r1, .float .f32 q35_0r2]) rfl rfl B41 size32 (Nat.le_of_ble_eq_true rfl) rfl fun w42 S42 => ?_)
  have X43 : Ext w w42 := Ext.step X39 S42.frmb (fun k _ hk => hk ▸ own5)
  have B44 : w42.heap[w1.heap.size]? = some (.cells #[.float .f32 q17_0r0, .float .f32 q17_0r1, .float .f32 q17_0r2, .float .f32 q26_0r0, .float .f32 q26_0r1, .float .f32 q26_0r2, .float .f32 q26_0r3, .float .f32 q35_0r0, .float .f32 q35_0r1, .float .f32 q35_0r2] 32 (0, 0)) := S42.here
  refine da_nil ?_
  refine W_ret ?_
  subst hr
  refine ⟨_, res1 (rv_cells (vs := #[.float .f32 q17_0r0, .float .f32 q17_0r1, .float .f32 q17_0r2, .float .f32 q26_0r0, .float .f32 q26_0r1, .float .f32 q26_0r2, .float .f32 q26_0r3, .float .f32 q35_0r0, .float .f32 q35_0r1, .float .f32 q35_0r2]) rfl agg32 size32 B44 rfl), ?_⟩
  exact ⟨q17_0r0, q17_0r1, q17_0r2, q26_0r0, q26_0r1, q26_0r2, q26_0r3, q35_0r0, q35_0r1, q35_0r2, rfl, q17_0h0, q17_0h1, q17_0h2, q26_0h0, q26_0h1, q26_0h2, q26_0h3, q35_0h0, q35_0h1, q35_0h2, X43⟩
set_option maxHeartbeats 4000000 in
theorem c31 (p0 : Nat) (p0r : Nat) (r : Bool) (w : World) (hr : M.spec_l01Finite p0 = r) (p0h : cn .f32 p0r = p0) :
    Calls Try.prog 31 #[.float .f32 p0r] w fun e w' => e = .returned (.bool r) ∧ Ext w w' := by
  refine calls_of_W Try.func31 rfl (Nat.le_of_ble_eq_true rfl) ?_
  refine W_seq ?_
  refine W_region rfl ?_
  refine da_op rfl (d_as (v := .bool false) rfl ?_)
  refine da_nil ?_
  refine W_seq ?_
  refine W_region rfl ?_
  refine da_op rfl (d_mv (v := .float .f32 p0r) rfl ?_)
  refine da_op rfl (d_mv (v := .float .f32 p0r) rfl ?_)
  refine da_op rfl (d_fop (k := .f32) fSub rfl rfl p0h p0h fun r1 w1 h1 _ E1 => ?_)
  have X2 : Ext w w1 := (Ext.refl w).trans E1
  refine da_op rfl (d_fcmp (k := .f32) cEql rfl rfl h1 cn_f32_0 ?_)
  refine da_op rfl (d_as (v := .bool (fcmp .eql .f32 (fop .sub .f32 p0 p0) 0)) rfl ?_)
  refine da_nil ?_
  refine W_ret ?_
  subst hr
  refine ⟨_, res1 (rv_tmp rfl), ?_⟩
  exact ⟨rfl, X2⟩
set_option maxHeartbeats 4000000 in
theorem c58 (p0 : Nat) (p0r : Nat) (r : Bool) (w : World) (hr : M.spec_l02Above p0 = r) (p0h : cn .f32 p0r = p0) :
    Calls Try.prog 58 #[.float .f32 p0r] w fun e w' => e = .returned (.bool r) ∧ Ext w w' := by
  refine calls_of_W Try.func58 rfl (Nat.le_of_ble_eq_true rfl) ?_
  refine W_seq ?_
  refine W_region rfl ?_
  refine da_op rfl (d_as (v := .bool false) rfl ?_)
  refine da_nil ?_
  refine W_seq ?_
  obtain ⟨m1, hm1, hr⟩ := letv_out hr
  refine W_cut (fun σ' w' => σ' 2 = .bool m1 ∧ Ext w w') rfl ?_ ?_
  · skip
    have hr := hm1
    refine da_op rfl (d_mv (v := .float .f32 p0r) rfl ?_)
    obtain ⟨m2, hm2, hr⟩ := letv_out hr
    refine da_op rfl (d_cl (vs := [.float .f32 p0r]) en31 (ac rfl rfl) rfl ?_)
    refine (c31 p0 p0r m2 w hm2 p0h).mono ?_
    rintro _ w3 ⟨rfl, E3⟩
    refine ⟨_, rfl, ?_⟩
    have X4 : Ext w w3 := (Ext.refl w).trans E3
    refine da_op rfl (d_mv (v := .bool m2) rfl ?_)
    rcases Bool.eq_false_or_eq_true m2 with hc5 | hc5
    · skip
      replace hr := bif_t hr hc5
      refine da_on rfl (Eq.trans (show sl _ _ _ = .bool m2 from rfl) (congrArg Value.bool hc5)) (d_mv (v := .float .f32 p0r) rfl ?_)
      refine da_on rfl (Eq.trans (show sl _ _ _ = .bool m2 from rfl) (congrArg Value.bool hc5)) (d_fcmp (k := .f32) cGtr rfl rfl p0h cn_f32_0 ?_)
      refine da_op rfl (d_pick (b := true) (Eq.trans (show ev _ _ = .bool m2 from rfl) (congrArg Value.bool hc5)) ?_)
      refine da_op rfl (d_as (v := .bool (fcmp .gtr .f32 p0 0)) rfl ?_)
      refine da_nil ?_
      subst hr
      exact ⟨rfl, (Ext.trans (Ext.refl w) E3)⟩
    · skip
      replace hr := bif_f hr hc5
      refine da_off rfl (Eq.trans (show sl _ _ _ = .bool m2 from rfl) (congrArg Value.bool hc5)) (by decide) ?_
      refine da_off rfl (Eq.trans (show sl _ _ _ = .bool m2 from rfl) (congrArg Value.bool hc5)) (by decide) ?_
      refine da_op rfl (d_pick (b := false) (Eq.trans (show ev _ _ = .bool m2 from rfl) (congrArg Value.bool hc5)) ?_)
      refine da_op rfl (d_as (v := .bool false) rfl ?_)
      refine da_nil ?_
      subst hr
      exact ⟨rfl, (Ext.trans (Ext.refl w) E3)⟩
  · skip
    rintro σ1 w1 o1 ⟨s2_1, E1⟩
    have X6 : Ext w w1 := (Ext.refl w).trans E1
    refine W_ret ?_
    subst hr
    refine ⟨_, res1 (rv_tmp s2_1), ?_⟩
    exact ⟨rfl, X6⟩
set_option maxHeartbeats 4000000 in
theorem c59 (p0 : SSpin) (p0b p0o : Nat) (p0c : Array Value) (p0T : TypeId) (p0f : Nat × Nat) (p0r0 : Nat) (p0r1 : Nat) (p0r2 : Nat) (p0r3 : Nat) (r : Bool) (w : World) (hr : M.spec_l04Spin p0 = r) (p0h0 : cn .f32 p0r0 = p0.w) (p0h1 : cn .f32 p0r1 = p0.x) (p0h2 : cn .f32 p0r2 = p0.y) (p0h3 : cn .f32 p0r3 = p0.z) (p0B : w.heap[p0b]? = some (.cells p0c p0T p0f)) (p0P : (p0c.toList.drop p0o).take 4 = [.float .f32 p0r0, .float .f32 p0r1, .float .f32 p0r2, .float .f32 p0r3]) :
    Calls Try.prog 59 #[.pointer (some ⟨p0b, p0o, none⟩)] w fun e w' => e = .returned (.bool r) ∧ Ext w w' := by
  refine calls_of_W Try.func59 rfl (Nat.le_of_ble_eq_true rfl) ?_
  refine W_seq ?_
  refine W_region rfl ?_
  refine da_op rfl (d_as (v := .bool false) rfl ?_)
  refine da_nil ?_
  refine W_seq ?_
  refine W_seq ?_
  obtain ⟨m1, hm1, hr⟩ := letv_out hr
  refine W_cut (fun σ' w' => σ' 32 = .bool m1 ∧ Ext w w') rfl ?_ ?_
  · skip
    have hr := hm1
    refine da_op rfl (d_mv (v := .pointer (some ⟨p0b, p0o, none⟩)) rfl ?_)
    refine da_op rfl (d_nil rfl ?_)
    refine da_op rfl (d_fieldAddr rfl (fa30_0 _ _) ?_)
    refine da_op rfl (d_load (v := .float .f32 p0r0) rfl agg22 p0B (sub_get (vs := #[.float .f32 p0r0, .float .f32 p0r1, .float .f32 p0r2, .float .f32 p0r3]) p0P (i := 0) rfl) ?_)
    obtain ⟨m2, hm2, hr⟩ := letv_out hr
    refine da_op rfl (d_cl (vs := [.float .f32 p0r0]) en31 (ac rfl rfl) rfl ?_)
    refine (c31 p0.w p0r0 m2 w hm2 p0h0).mono ?_
    rintro _ w3 ⟨rfl, E3⟩
    refine ⟨_, rfl, ?_⟩
    have X4 : Ext w w3 := (Ext.refl w).trans E3
    refine da_op rfl (d_not rfl ?_)
    refine da_op rfl (d_mv (v := .bool (!m2)) rfl ?_)
    rcases Bool.eq_false_or_eq_true m2 with hc5 | hc5
    · skip
      replace hr := bif_t hr hc5
      refine da_on rfl (Eq.trans (show sl _ _ _ = .bool (!m2) from rfl) (congrArg Value.bool (congrArg not hc5))) (d_mv (v := .pointer (some ⟨p0b, p0o, none⟩)) rfl ?_)
      refine da_on rfl (Eq.trans (show sl _ _ _ = .bool (!m2) from rfl) (congrArg Value.bool (congrArg not hc5))) (d_nil rfl ?_)
      refine da_on rfl (Eq.trans (show sl _ _ _ = .bool (!m2) from rfl) (congrArg Value.bool (congrArg not hc5))) (d_fieldAddr rfl (fa30_1 _ _) ?_)
      have B6 : w3.heap[p0b]? = some (.cells p0c p0T p0f) := X4.heap p0B
      refine da_on rfl (Eq.trans (show sl _ _ _ = .bool (!m2) from rfl) (congrArg Value.bool (congrArg not hc5))) (d_load (v := .float .f32 p0r1) rfl agg22 B6 (sub_get (vs := #[.float .f32 p0r0, .float .f32 p0r1, .float .f32 p0r2, .float .f32 p0r3]) p0P (i := 1) rfl) ?_)
      obtain ⟨m7, hm7, hr⟩ := letv_out hr
      refine da_on rfl (Eq.trans (show sl _ _ _ = .bool (!m2) from rfl) (congrArg Value.bool (congrArg not hc5))) (d_cl (vs := [.float .f32 p0r1]) en31 (ac rfl rfl) rfl ?_)
      refine (c31 p0.x p0r1 m7 w3 hm7 p0h1).mono ?_
      rintro _ w8 ⟨rfl, E8⟩
      refine ⟨_, rfl, ?_⟩
      have X9 : Ext w w8 := X4.trans E8
      refine da_on rfl (Eq.trans (show sl _ _ _ = .bool (!m2) from rfl) (congrArg Value.bool (congrArg not hc5))) (d_not rfl ?_)
      refine da_op rfl (d_pick (b := false) (Eq.trans (show ev _ _ = .bool (!m2) from rfl) (congrArg Value.bool (congrArg not hc5))) ?_)
      refine da_op rfl (d_mv (v := .bool (!m7)) rfl ?_)
      rcases Bool.eq_false_or_eq_true m7 with hc10 | hc10
      · skip
        replace hr := bif_t hr hc10
        refine da_on rfl (Eq.trans (show sl _ _ _ = .bool (!m7) from rfl) (congrArg Value.bool (congrArg not hc10))) (d_mv (v := .pointer (some ⟨p0b, p0o, none⟩)) rfl ?_)
        refine da_on rfl (Eq.trans (show sl _ _ _ = .bool (!m7) from rfl) (congrArg Value.bool (congrArg not hc10))) (d_nil rfl ?_)
        refine da_on rfl (Eq.trans (show sl _ _ _ = .bool (!m7) from rfl) (congrArg Value.bool (congrArg not hc10))) (d_fieldAddr rfl (fa30_2 _ _) ?_)
        have B11 : w8.heap[p0b]? = some (.cells p0c p0T p0f) := X9.heap p0B
        refine da_on rfl (Eq.trans (show sl _ _ _ = .bool (!m7) from rfl) (congrArg Value.bool (congrArg not hc10))) (d_load (v := .float .f32 p0r2) rfl agg22 B11 (sub_get (vs := #[.float .f32 p0r0, .float .f32 p0r1, .float .f32 p0r2, .float .f32 p0r3]) p0P (i := 2) rfl) ?_)
        obtain ⟨m12, hm12, hr⟩ := letv_out hr
        refine da_on rfl (Eq.trans (show sl _ _ _ = .bool (!m7) from rfl) (congrArg Value.bool (congrArg not hc10))) (d_cl (vs := [.float .f32 p0r2]) en31 (ac rfl rfl) rfl ?_)
        refine (c31 p0.y p0r2 m12 w8 hm12 p0h2).mono ?_
        rintro _ w13 ⟨rfl, E13⟩
        refine ⟨_, rfl, ?_⟩
        have X14 : Ext w w13 := X9.trans E13
        refine da_on rfl (Eq.trans (show sl _ _ _ = .bool (!m7) from rfl) (congrArg Value.bool (congrArg not hc10))) (d_not rfl ?_)
        refine da_op rfl (d_pick (b := false) (Eq.trans (show ev _ _ = .bool (!m7) from rfl) (congrArg Value.bool (congrArg not hc10))) ?_)
        refine da_op rfl (d_mv (v := .bool (!m12)) rfl ?_)
        rcases Bool.eq_false_or_eq_true m12 with hc15 | hc15
        · skip
          replace hr := bif_t hr hc15
          refine da_on rfl (Eq.trans (show sl _ _ _ = .bool (!m12) from rfl) (congrArg Value.bool (congrArg not hc15))) (d_mv (v := .pointer (some ⟨p0b, p0o, none⟩)) rfl ?_)
          refine da_on rfl (Eq.trans (show sl _ _ _ = .bool (!m12) from rfl) (congrArg Value.bool (congrArg not hc15))) (d_nil rfl ?_)
          refine da_on rfl (Eq.trans (show sl _ _ _ = .bool (!m12) from rfl) (congrArg Value.bool (congrArg not hc15))) (d_fieldAddr rfl (fa30_3 _ _) ?_)
          have B16 : w13.heap[p0b]? = some (.cells p0c p0T p0f) := X14.heap p0B
          refine da_on rfl (Eq.trans (show sl _ _ _ = .bool (!m12) from rfl) (congrArg Value.bool (congrArg not hc15))) (d_load (v := .float .f32 p0r3) rfl agg22 B16 (sub_get (vs := #[.float .f32 p0r0, .float .f32 p0r1, .float .f32 p0r2, .float .f32 p0r3]) p0P (i := 3) rfl) ?_)
          obtain ⟨m17, hm17, hr⟩ := letv_out hr
          refine da_on rfl (Eq.trans (show sl _ _ _ = .bool (!m12) from rfl) (congrArg Value.bool (congrArg not hc15))) (d_cl (vs := [.float .f32 p0r3]) en31 (ac rfl rfl) rfl ?_)
          refine (c31 p0.z p0r3 m17 w13 hm17 p0h3).mono ?_
          rintro _ w18 ⟨rfl, E18⟩
          refine ⟨_, rfl, ?_⟩
          have X19 : Ext w w18 := X14.trans E18
          refine da_on rfl (Eq.trans (show sl _ _ _ = .bool (!m12) from rfl) (congrArg Value.bool (congrArg not hc15))) (d_not rfl ?_)
          refine da_op rfl (d_pick (b := false) (Eq.trans (show ev _ _ = .bool (!m12) from rfl) (congrArg Value.bool (congrArg not hc15))) ?_)
          refine da_nil ?_
          subst hr
          exact ⟨rfl, (Ext.trans (Ext.trans (Ext.trans (Ext.trans (Ext.refl w) E3) E8) E13) E18)⟩
        · skip
          replace hr := bif_f hr hc15
          refine da_off rfl (Eq.trans (show sl _ _ _ = .bool (!m12) from rfl) (congrArg Value.bool (congrArg not hc15))) (by decide) ?_
          refine da_off rfl (Eq.trans (show sl _ _ _ = .bool (!m12) from rfl) (congrArg Value.bool (congrArg not hc15))) (by decide) ?_
          refine da_off rfl (Eq.trans (show sl _ _ _ = .bool (!m12) from rfl) (congrArg Value.bool (congrArg not hc15))) (by decide) ?_
          refine da_off rfl (Eq.trans (show sl _ _ _ = .bool (!m12) from rfl) (congrArg Value.bool (congrArg not hc15))) (by decide) ?_
          refine da_off rfl (Eq.trans (show sl _ _ _ = .bool (!m12) from rfl) (congrArg Value.bool (congrArg not hc15))) (by decide) ?_
          refine da_off rfl (Eq.trans (show sl _ _ _ = .bool (!m12) from rfl) (congrArg Value.bool (congrArg not hc15))) (by decide) ?_
          refine da_op rfl (d_pick (b := true) (Eq.trans (show ev _ _ = .bool (!m12) from rfl) (congrArg Value.bool (congrArg not hc15))) ?_)
          refine da_nil ?_
          subst hr
          exact ⟨rfl, (Ext.trans (Ext.trans (Ext.trans (Ext.refl w) E3) E8) E13)⟩
      · skip
        replace hr := bif_f hr hc10
        refine da_off rfl (Eq.trans (show sl _ _ _ = .bool (!m7) from rfl) (congrArg Value.bool (congrArg not hc10))) (by decide) ?_
        refine da_off rfl (Eq.trans (show sl _ _ _ = .bool (!m7) from rfl) (congrArg Value.bool (congrArg not hc10))) (by decide) ?_
        refine da_off rfl (Eq.trans (show sl _ _ _ = .bool (!m7) from rfl) (congrArg Value.bool (congrArg not hc10))) (by decide) ?_
        refine da_off rfl (Eq.trans (show sl _ _ _ = .bool (!m7) from rfl) (congrArg Value.bool (congrArg not hc10))) (by decide) ?_
        refine da_off rfl (Eq.trans (show sl _ _ _ = .bool (!m7) from rfl) (congrArg Value.bool (congrArg not hc10))) (by decide) ?_
        refine da_off rfl (Eq.trans (show sl _ _ _ = .bool (!m7) from rfl) (congrArg Value.bool (congrArg not hc10))) (by decide) ?_
        refine da_op rfl (d_pick (b := true) (Eq.trans (show ev _ _ = .bool (!m7) from rfl) (congrArg Value.bool (congrArg not hc10))) ?_)
        refine da_op rfl (d_mv (v := .bool true) rfl ?_)
        refine da_off rfl rfl (by decide) ?_
        refine da_off rfl rfl (by decide) ?_
        refine da_off rfl rfl (by decide) ?_
        refine da_off rfl rfl (by decide) ?_
        refine da_off rfl rfl (by decide) ?_
        refine da_off rfl rfl (by decide) ?_
        refine da_op rfl (d_pick (b := true) rfl ?_)
        refine da_nil ?_
        subst hr
        exact ⟨rfl, (Ext.trans (Ext.trans (Ext.refl w) E3) E8)⟩
    · skip
      replace hr := bif_f hr hc5
      refine da_off rfl (Eq.trans (show sl _ _ _ = .bool (!m2) from rfl) (congrArg Value.bool (congrArg not hc5))) (by decide) ?_
      refine da_off rfl (Eq.trans (show sl _ _ _ = .bool (!m2) from rfl) (congrArg Value.bool (congrArg not hc5))) (by decide) ?_
      refine da_off rfl (Eq.trans (show sl _ _ _ = .bool (!m2) from rfl) (congrArg Value.bool (congrArg not hc5))) (by decide) ?_
      refine da_off rfl (Eq.trans (show sl _ _ _ = .bool (!m2) from rfl) (congrArg Value.bool (congrArg not hc5))) (by decide) ?_
      refine da_off rfl (Eq.trans (show sl _ _ _ = .bool (!m2) from rfl) (congrArg Value.bool (congrArg not hc5))) (by decide) ?_
      refine da_off rfl (Eq.trans (show sl _ _ _ = .bool (!m2) from rfl) (congrArg Value.bool (congrArg not hc5))) (by decide) ?_
      refine da_op rfl (d_pick (b := true) (Eq.trans (show ev _ _ = .bool (!m2) from rfl) (congrArg Value.bool (congrArg not hc5))) ?_)
      refine da_op rfl (d_mv (v := .bool true) rfl ?_)
      refine da_off rfl rfl (by decide) ?_
      refine da_off rfl rfl (by decide) ?_
      refine da_off rfl rfl (by decide) ?_
      refine da_off rfl rfl (by decide) ?_
      refine da_off rfl rfl (by decide) ?_
      refine da_off rfl rfl (by decide) ?_
      refine da_op rfl (d_pick (b := true) rfl ?_)
      refine da_op rfl (d_mv (v := .bool true) rfl ?_)
      refine da_off rfl rfl (by decide) ?_
      refine da_off rfl rfl (by decide) ?_
      refine da_off rfl rfl (by decide) ?_
      refine da_off rfl rfl (by decide) ?_
      refine da_off rfl rfl (by decide) ?_
      refine da_off rfl rfl (by decide) ?_
      refine da_op rfl (d_pick (b := true) rfl ?_)
      refine da_nil ?_
      subst hr
      exact ⟨rfl, (Ext.trans (Ext.refl w) E3)⟩
  · skip
    rintro σ1 w1 o1 ⟨s32_1, E1⟩
    have s0_1 : σ1 0 = .pointer (some ⟨p0b, p0o, none⟩) := (o1 0 rfl).trans rfl
    have X20 : Ext w w1 := (Ext.refl w).trans E1
    refine W_cond (b := m1) s32_1 (fun hc21 => ?_) (fun hc21 => ?_)
    · skip
      replace hr := bif_t hr hc21
      refine W_seq ?_
      refine W_region rfl ?_
      refine da_op rfl (d_as (v := .bool false) rfl ?_)
      refine da_nil ?_
      refine W_ret ?_
      subst hr
      refine ⟨_, res1 (rv_tmp rfl), ?_⟩
      exact ⟨rfl, X20⟩
    · skip
      replace hr := bif_f hr hc21
      refine W_skip ?_
      refine W_seq ?_
      obtain ⟨m22, hm22, hr⟩ := letv_out hr
      refine W_cut (fun σ' w' => σ' 2 = .bool m22 ∧ Ext w1 w') rfl ?_ ?_
      · skip
        have hr := hm22
        refine da_op rfl (d_mv (v := .pointer (some ⟨p0b, p0o, none⟩)) s0_1 ?_)
        refine da_op rfl (d_nil rfl ?_)
        refine da_op rfl (d_fieldAddr rfl (fa30_0 _ _) ?_)
        have B23 : w1.heap[p0b]? = some (.cells p0c p0T p0f) := X20.heap p0B
        refine da_op rfl (d_load (v := .float .f32 p0r0) rfl agg22 B23 (sub_get (vs := #[.float .f32 p0r0, .float .f32 p0r1, .float .f32 p0r2, .float .f32 p0r3]) p0P (i := 0) rfl) ?_)
        refine da_op rfl (d_fcmp (k := .f32) cNeq rfl rfl p0h0 cn_f32_0 ?_)
        refine da_op rfl (d_mv (v := .bool (fcmp .neq .f32 p0.w 0)) rfl ?_)
        rcases Bool.eq_false_or_eq_true (fcmp .neq .f32 p0.w 0) with hc24 | hc24
        · skip
          replace hr := bif_t hr hc24
          refine da_off rfl (Eq.trans (show sl _ _ _ = .bool (fcmp .neq .f32 p0.w 0) from rfl) (congrArg Value.bool hc24)) (by decide) ?_
          refine da_off rfl (Eq.trans (show sl _ _ _ = .bool (fcmp .neq .f32 p0.w 0) from rfl) (congrArg Value.bool hc24)) (by decide) ?_
          refine da_off rfl (Eq.trans (show sl _ _ _ = .bool (fcmp .neq .f32 p0.w 0) from rfl) (congrArg Value.bool hc24)) (by decide) ?_
          refine da_off rfl (Eq.trans (show sl _ _ _ = .bool (fcmp .neq .f32 p0.w 0) from rfl) (congrArg Value.bool hc24)) (by decide) ?_
          refine da_off rfl (Eq.trans (show sl _ _ _ = .bool (fcmp .neq .f32 p0.w 0) from rfl) (congrArg Value.bool hc24)) (by decide) ?_
          refine da_op rfl (d_pick (b := true) (Eq.trans (show ev _ _ = .bool (fcmp .neq .f32 p0.w 0) from rfl) (congrArg Value.bool hc24)) ?_)
          refine da_op rfl (d_mv (v := .bool true) rfl ?_)
          refine da_off rfl rfl (by decide) ?_
          refine da_off rfl rfl (by decide) ?_
          refine da_off rfl rfl (by decide) ?_
          refine da_off rfl rfl (by decide) ?_
          refine da_off rfl rfl (by decide) ?_
          refine da_op rfl (d_pick (b := true) rfl ?_)
          refine da_op rfl (d_mv (v := .bool true) rfl ?_)
          refine da_off rfl rfl (by decide) ?_
          refine da_off rfl rfl (by decide) ?_
          refine da_off rfl rfl (by decide) ?_
          refine da_off rfl rfl (by decide) ?_
          refine da_off rfl rfl (by decide) ?_
          refine da_op rfl (d_pick (b := true) rfl ?_)
          refine da_op rfl (d_as (v := .bool true) rfl ?_)
          refine da_nil ?_
          subst hr
          exact ⟨rfl, (Ext.refl w1)⟩
        · skip
          replace hr := bif_f hr hc24
          refine da_on rfl (Eq.trans (show sl _ _ _ = .bool (fcmp .neq .f32 p0.w 0) from rfl) (congrArg Value.bool hc24)) (d_mv (v := .pointer (some ⟨p0b, p0o, none⟩)) s0_1 ?_)
          refine da_on rfl (Eq.trans (show sl _ _ _ = .bool (fcmp .neq .f32 p0.w 0) from rfl) (congrArg Value.bool hc24)) (d_nil rfl ?_)
          refine da_on rfl (Eq.trans (show sl _ _ _ = .bool (fcmp .neq .f32 p0.w 0) from rfl) (congrArg Value.bool hc24)) (d_fieldAddr rfl (fa30_1 _ _) ?_)
          refine da_on rfl (Eq.trans (show sl _ _ _ = .bool (fcmp .neq .f32 p0.w 0) from rfl) (congrArg Value.bool hc24)) (d_load (v := .float .f32 p0r1) rfl agg22 B23 (sub_get (vs := #[.float .f32 p0r0, .float .f32 p0r1, .float .f32 p0r2, .float .f32 p0r3]) p0P (i := 1) rfl) ?_)
          refine da_on rfl (Eq.trans (show sl _ _ _ = .bool (fcmp .neq .f32 p0.w 0) from rfl) (congrArg Value.bool hc24)) (d_fcmp (k := .f32) cNeq rfl rfl p0h1 cn_f32_0 ?_)
          refine da_op rfl (d_pick (b := false) (Eq.trans (show ev _ _ = .bool (fcmp .neq .f32 p0.w 0) from rfl) (congrArg Value.bool hc24)) ?_)
          refine da_op rfl (d_mv (v := .bool (fcmp .neq .f32 p0.x 0)) rfl ?_)
          rcases Bool.eq_false_or_eq_true (fcmp .neq .f32 p0.x 0) with hc25 | hc25
          · skip
            replace hr := bif_t hr hc25
            refine da_off rfl (Eq.trans (show sl _ _ _ = .bool (fcmp .neq .f32 p0.x 0) from rfl) (congrArg Value.bool hc25)) (by decide) ?_
            refine da_off rfl (Eq.trans (show sl _ _ _ = .bool (fcmp .neq .f32 p0.x 0) from rfl) (congrArg Value.bool hc25)) (by decide) ?_
            refine da_off rfl (Eq.trans (show sl _ _ _ = .bool (fcmp .neq .f32 p0.x 0) from rfl) (congrArg Value.bool hc25)) (by decide) ?_
            refine da_off rfl (Eq.trans (show sl _ _ _ = .bool (fcmp .neq .f32 p0.x 0) from rfl) (congrArg Value.bool hc25)) (by decide) ?_
            refine da_off rfl (Eq.trans (show sl _ _ _ = .bool (fcmp .neq .f32 p0.x 0) from rfl) (congrArg Value.bool hc25)) (by decide) ?_
            refine da_op rfl (d_pick (b := true) (Eq.trans (show ev _ _ = .bool (fcmp .neq .f32 p0.x 0) from rfl) (congrArg Value.bool hc25)) ?_)
            refine da_op rfl (d_mv (v := .bool true) rfl ?_)
            refine da_off rfl rfl (by decide) ?_
            refine da_off rfl rfl (by decide) ?_
            refine da_off rfl rfl (by decide) ?_
            refine da_off rfl rfl (by decide) ?_
            refine da_off rfl rfl (by decide) ?_
            refine da_op rfl (d_pick (b := true) rfl ?_)
            refine da_op rfl (d_as (v := .bool true) rfl ?_)
            refine da_nil ?_
            subst hr
            exact ⟨rfl, (Ext.refl w1)⟩
          · skip
            replace hr := bif_f hr hc25
            refine da_on rfl (Eq.trans (show sl _ _ _ = .bool (fcmp .neq .f32 p0.x 0) from rfl) (congrArg Value.bool hc25)) (d_mv (v := .pointer (some ⟨p0b, p0o, none⟩)) s0_1 ?_)
            refine da_on rfl (Eq.trans (show sl _ _ _ = .bool (fcmp .neq .f32 p0.x 0) from rfl) (congrArg Value.bool hc25)) (d_nil rfl ?_)
            refine da_on rfl (Eq.trans (show sl _ _ _ = .bool (fcmp .neq .f32 p0.x 0) from rfl) (congrArg Value.bool hc25)) (d_fieldAddr rfl (fa30_2 _ _) ?_)
            refine da_on rfl (Eq.trans (show sl _ _ _ = .bool (fcmp .neq .f32 p0.x 0) from rfl) (congrArg Value.bool hc25)) (d_load (v := .float .f32 p0r2) rfl agg22 B23 (sub_get (vs := #[.float .f32 p0r0, .float .f32 p0r1, .float .f32 p0r2, .float .f32 p0r3]) p0P (i := 2) rfl) ?_)
            refine da_on rfl (Eq.trans (show sl _ _ _ = .bool (fcmp .neq .f32 p0.x 0) from rfl) (congrArg Value.bool hc25)) (d_fcmp (k := .f32) cNeq rfl rfl p0h2 cn_f32_0 ?_)
            refine da_op rfl (d_pick (b := false) (Eq.trans (show ev _ _ = .bool (fcmp .neq .f32 p0.x 0) from rfl) (congrArg Value.bool hc25)) ?_)
            refine da_op rfl (d_mv (v := .bool (fcmp .neq .f32 p0.y 0)) rfl ?_)
            rcases Bool.eq_false_or_eq_true (fcmp .neq .f32 p0.y 0) with hc26 | hc26
            · skip
              replace hr := bif_t hr hc26
              refine da_off rfl (Eq.trans (show sl _ _ _ = .bool (fcmp .neq .f32 p0.y 0) from rfl) (congrArg Value.bool hc26)) (by decide) ?_
              refine da_off rfl (Eq.trans (show sl _ _ _ = .bool (fcmp .neq .f32 p0.y 0) from rfl) (congrArg Value.bool hc26)) (by decide) ?_
              refine da_off rfl (Eq.trans (show sl _ _ _ = .bool (fcmp .neq .f32 p0.y 0) from rfl) (congrArg Value.bool hc26)) (by decide) ?_
              refine da_off rfl (Eq.trans (show sl _ _ _ = .bool (fcmp .neq .f32 p0.y 0) from rfl) (congrArg Value.bool hc26)) (by decide) ?_
              refine da_off rfl (Eq.trans (show sl _ _ _ = .bool (fcmp .neq .f32 p0.y 0) from rfl) (congrArg Value.bool hc26)) (by decide) ?_
              refine da_op rfl (d_pick (b := true) (Eq.trans (show ev _ _ = .bool (fcmp .neq .f32 p0.y 0) from rfl) (congrArg Value.bool hc26)) ?_)
              refine da_op rfl (d_as (v := .bool true) rfl ?_)
              refine da_nil ?_
              subst hr
              exact ⟨rfl, (Ext.refl w1)⟩
            · skip
              replace hr := bif_f hr hc26
              refine da_on rfl (Eq.trans (show sl _ _ _ = .bool (fcmp .neq .f32 p0.y 0) from rfl) (congrArg Value.bool hc26)) (d_mv (v := .pointer (some ⟨p0b, p0o, none⟩)) s0_1 ?_)
              refine da_on rfl (Eq.trans (show sl _ _ _ = .bool (fcmp .neq .f32 p0.y 0) from rfl) (congrArg Value.bool hc26)) (d_nil rfl ?_)
              refine da_on rfl (Eq.trans (show sl _ _ _ = .bool (fcmp .neq .f32 p0.y 0) from rfl) (congrArg Value.bool hc26)) (d_fieldAddr rfl (fa30_3 _ _) ?_)
              refine da_on rfl (Eq.trans (show sl _ _ _ = .bool (fcmp .neq .f32 p0.y 0) from rfl) (congrArg Value.bool hc26)) (d_load (v := .float .f32 p0r3) rfl agg22 B23 (sub_get (vs := #[.float .f32 p0r0, .float .f32 p0r1, .float .f32 p0r2, .float .f32 p0r3]) p0P (i := 3) rfl) ?_)
              refine da_on rfl (Eq.trans (show sl _ _ _ = .bool (fcmp .neq .f32 p0.y 0) from rfl) (congrArg Value.bool hc26)) (d_fcmp (k := .f32) cNeq rfl rfl p0h3 cn_f32_0 ?_)
              refine da_op rfl (d_pick (b := false) (Eq.trans (show ev _ _ = .bool (fcmp .neq .f32 p0.y 0) from rfl) (congrArg Value.bool hc26)) ?_)
              refine da_op rfl (d_as (v := .bool (fcmp .neq .f32 p0.z 0)) rfl ?_)
              refine da_nil ?_
              subst hr
              exact ⟨rfl, (Ext.refl w1)⟩
      · skip
        rintro σ22 w22 o22 ⟨s2_22, E22⟩
        have X27 : Ext w w22 := X20.trans E22
        refine W_ret ?_
        subst hr
        refine ⟨_, res1 (rv_tmp s2_22), ?_⟩
        exact ⟨rfl, X27⟩
set_option maxHeartbeats 4000000 in
theorem c47 (p0 : SVector) (p0r0 : Nat) (p0r1 : Nat) (p0r2 : Nat) (r : Bool) (w : World) (hr : M.spec_l01VFinite p0 = r) (p0h0 : cn .f32 p0r0 = p0.x) (p0h1 : cn .f32 p0r1 = p0.y) (p0h2 : cn .f32 p0r2 = p0.z) :
    Calls Try.prog 47 #[.agg #[.float .f32 p0r0, .float .f32 p0r1, .float .f32 p0r2]] w fun e w' => e = .returned (.bool r) ∧ Ext w w' := by
  refine calls_of_W Try.func47 rfl (Nat.le_of_ble_eq_true rfl) ?_
  refine W_seq ?_
  refine W_region rfl ?_
  refine da_op rfl (d_box (cs := #[.float .f32 p0r0, .float .f32 p0r1, .float .f32 p0r2]) rfl fun w1 B1 E1 => ?_)
  have own2 : w.heap.size ≤ w.heap.size := Nat.le_trans (Ext.refl w).size (Nat.le_refl _)
  have X3 : Ext w w1 := (Ext.refl w).trans E1
  refine da_op rfl (d_as (v := .bool false) rfl ?_)
  refine da_nil ?_
  refine W_seq ?_
  obtain ⟨m4, hm4, hr⟩ := letv_out hr
  refine W_cut (fun σ' w' => σ' 2 = .bool m4 ∧ Ext w1 w') rfl ?_ ?_
  · skip
    have hr := hm4
    refine da_op rfl (d_fieldAddr rfl (fa29_0 _ _) ?_)
    refine da_op rfl (d_load (v := .float .f32 p0r0) rfl agg22 B1 rfl ?_)
    obtain ⟨m5, hm5, hr⟩ := letv_out hr
    refine da_op rfl (d_cl (vs := [.float .f32 p0r0]) en31 (ac rfl rfl) rfl ?_)
    refine (c31 p0.x p0r0 m5 w1 hm5 p0h0).mono ?_
    rintro _ w6 ⟨rfl, E6⟩
    refine ⟨_, rfl, ?_⟩
    have X7 : Ext w w6 := X3.trans E6
    refine da_op rfl (d_mv (v := .bool m5) rfl ?_)
    rcases Bool.eq_false_or_eq_true m5 with hc8 | hc8
    · skip
      replace hr := bif_t hr hc8
      refine da_on rfl (Eq.trans (show sl _ _ _ = .bool m5 from rfl) (congrArg Value.bool hc8)) (d_fieldAddr rfl (fa29_1 _ _) ?_)
      have B9 : w6.heap[w.heap.size]? = some (.cells #[.float .f32 p0r0, .float .f32 p0r1, .float .f32 p0r2] 29 (0, 0)) := E6.heap B1
      refine da_on rfl (Eq.trans (show sl _ _ _ = .bool m5 from rfl) (congrArg Value.bool hc8)) (d_load (v := .float .f32 p0r1) rfl agg22 B9 rfl ?_)
      obtain ⟨m10, hm10, hr⟩ := letv_out hr
      refine da_on rfl (Eq.trans (show sl _ _ _ = .bool m5 from rfl) (congrArg Value.bool hc8)) (d_cl (vs := [.float .f32 p0r1]) en31 (ac rfl rfl) rfl ?_)
      refine (c31 p0.y p0r1 m10 w6 hm10 p0h1).mono ?_
      rintro _ w11 ⟨rfl, E11⟩
      refine ⟨_, rfl, ?_⟩
      have X12 : Ext w w11 := X7.trans E11
      refine da_op rfl (d_pick (b := true) (Eq.trans (show ev _ _ = .bool m5 from rfl) (congrArg Value.bool hc8)) ?_)
      refine da_op rfl (d_mv (v := .bool m10) rfl ?_)
      rcases Bool.eq_false_or_eq_true m10 with hc13 | hc13
      · skip
        replace hr := bif_t hr hc13
        refine da_on rfl (Eq.trans (show sl _ _ _ = .bool m10 from rfl) (congrArg Value.bool hc13)) (d_fieldAddr rfl (fa29_2 _ _) ?_)
        have B14 : w11.heap[w.heap.size]? = some (.cells #[.float .f32 p0r0, .float .f32 p0r1, .float .f32 p0r2] 29 (0, 0)) := E11.heap B9
        refine da_on rfl (Eq.trans (show sl _ _ _ = .bool m10 from rfl) (congrArg Value.bool hc13)) (d_load (v := .float .f32 p0r2) rfl agg22 B14 rfl ?_)
        obtain ⟨m15, hm15, hr⟩ := letv_out hr
        refine da_on rfl (Eq.trans (show sl _ _ _ = .bool m10 from rfl) (congrArg Value.bool hc13)) (d_cl (vs := [.float .f32 p0r2]) en31 (ac rfl rfl) rfl ?_)
        refine (c31 p0.z p0r2 m15 w11 hm15 p0h2).mono ?_
        rintro _ w16 ⟨rfl, E16⟩
        refine ⟨_, rfl, ?_⟩
        have X17 : Ext w w16 := X12.trans E16
        refine da_op rfl (d_pick (b := true) (Eq.trans (show ev _ _ = .bool m10 from rfl) (congrArg Value.bool hc13)) ?_)
        refine da_op rfl (d_as (v := .bool m15) rfl ?_)
        refine da_nil ?_
        subst hr
        exact ⟨rfl, (Ext.trans (Ext.trans (Ext.trans (Ext.refl w1) E6) E11) E16)⟩
      · skip
        replace hr := bif_f hr hc13
        refine da_off rfl (Eq.trans (show sl _ _ _ = .bool m10 from rfl) (congrArg Value.bool hc13)) (by decide) ?_
        refine da_off rfl (Eq.trans (show sl _ _ _ = .bool m10 from rfl) (congrArg Value.bool hc13)) (by decide) ?_
        refine da_off rfl (Eq.trans (show sl _ _ _ = .bool m10 from rfl) (congrArg Value.bool hc13)) (by decide) ?_
        refine da_op rfl (d_pick (b := false) (Eq.trans (show ev _ _ = .bool m10 from rfl) (congrArg Value.bool hc13)) ?_)
        refine da_op rfl (d_as (v := .bool false) rfl ?_)
        refine da_nil ?_
        subst hr
        exact ⟨rfl, (Ext.trans (Ext.trans (Ext.refl w1) E6) E11)⟩
    · skip
      replace hr := bif_f hr hc8
      refine da_off rfl (Eq.trans (show sl _ _ _ = .bool m5 from rfl) (congrArg Value.bool hc8)) (by decide) ?_
      refine da_off rfl (Eq.trans (show sl _ _ _ = .bool m5 from rfl) (congrArg Value.bool hc8)) (by decide) ?_
      refine da_off rfl (Eq.trans (show sl _ _ _ = .bool m5 from rfl) (congrArg Value.bool hc8)) (by decide) ?_
      refine da_op rfl (d_pick (b := false) (Eq.trans (show ev _ _ = .bool m5 from rfl) (congrArg Value.bool hc8)) ?_)
      refine da_op rfl (d_mv (v := .bool false) rfl ?_)
      refine da_off rfl rfl (by decide) ?_
      refine da_off rfl rfl (by decide) ?_
      refine da_off rfl rfl (by decide) ?_
      refine da_op rfl (d_pick (b := false) rfl ?_)
      refine da_op rfl (d_as (v := .bool false) rfl ?_)
      refine da_nil ?_
      subst hr
      exact ⟨rfl, (Ext.trans (Ext.refl w1) E6)⟩
  · skip
    rintro σ4 w4 o4 ⟨s2_4, E4⟩
    have X18 : Ext w w4 := X3.trans E4
    refine W_ret ?_
    subst hr
    refine ⟨_, res1 (rv_tmp s2_4), ?_⟩
    exact ⟨rfl, X18⟩
set_option maxHeartbeats 4000000 in
theorem c30 (p0 : STop) (p0b p0o : Nat) (p0c : Array Value) (p0T : TypeId) (p0f : Nat × Nat) (p0r0 : Nat) (p0r1 : Nat) (p0r2 : Nat) (p0r3 : Nat) (p0r4 : Nat) (p0r5 : Nat) (p0r6 : Nat) (p0r7 : Nat) (p0r8 : Nat) (p0r9 : Nat) (r : Bool) (w : World) (hr : M.spec_l04Is p0 = r) (p0h0 : cn .f32 p0r0 = p0.moments.x) (p0h1 : cn .f32 p0r1 = p0.moments.y) (p0h2 : cn .f32 p0r2 = p0.moments.z) (p0h3 : cn .f32 p0r3 = p0.turn.w) (p0h4 : cn .f32 p0r4 = p0.turn.x) (p0h5 : cn .f32 p0r5 = p0.turn.y) (p0h6 : cn .f32 p0r6 = p0.turn.z) (p0h7 : cn .f32 p0r7 = p0.speed.x) (p0h8 : cn .f32 p0r8 = p0.speed.y) (p0h9 : cn .f32 p0r9 = p0.speed.z) (p0B : w.heap[p0b]? = some (.cells p0c p0T p0f)) (p0P : (p0c.toList.drop p0o).take 10 = [.float .f32 p0r0, .float .f32 p0r1, .float .f32 p0r2, .float .f32 p0r3, .float .f32 p0r4, .float .f32 p0r5, .float .f32 p0r6, .float .f32 p0r7, .float .f32 p0r8, .float .f32 p0r9]) :
    Calls Try.prog 30 #[.pointer (some ⟨p0b, p0o, none⟩)] w fun e w' => e = .returned (.bool r) ∧ Ext w w' := by
  refine calls_of_W Try.func30 rfl (Nat.le_of_ble_eq_true rfl) ?_
  refine W_seq ?_
  refine W_region rfl ?_
  refine da_op rfl (d_as (v := .bool false) rfl ?_)
  refine da_nil ?_
  refine W_seq ?_
  obtain ⟨m1, hm1, hr⟩ := letv_out hr
  refine W_cut (fun σ' w' => σ' 2 = .bool m1 ∧ Ext w w') rfl ?_ ?_
  · skip
    have hr := hm1
    refine da_op rfl (d_mv (v := .pointer (some ⟨p0b, p0o, none⟩)) rfl ?_)
    refine da_op rfl (d_nil rfl ?_)
    refine da_op rfl (d_fieldAddr rfl (fa32_0 _ _) ?_)
    refine da_op rfl (d_fieldAddr rfl (fa29_0 _ _) ?_)
    refine da_op rfl (d_load (v := .float .f32 p0r0) rfl agg22 p0B (sub_get (vs := #[.float .f32 p0r0, .float .f32 p0r1, .float .f32 p0r2, .float .f32 p0r3, .float .f32 p0r4, .float .f32 p0r5, .float .f32 p0r6, .float .f32 p0r7, .float .f32 p0r8, .float .f32 p0r9]) p0P (i := 0) rfl) ?_)
    obtain ⟨m2, hm2, hr⟩ := letv_out hr
    refine da_op rfl (d_cl (vs := [.float .f32 p0r0]) en58 (ac rfl rfl) rfl ?_)
    refine (c58 p0.moments.x p0r0 m2 w hm2 p0h0).mono ?_
    rintro _ w3 ⟨rfl, E3⟩
    refine ⟨_, rfl, ?_⟩
    have X4 : Ext w w3 := (Ext.refl w).trans E3
    refine da_op rfl (d_mv (v := .bool m2) rfl ?_)
    rcases Bool.eq_false_or_eq_true m2 with hc5 | hc5
    · skip
      replace hr := bif_t hr hc5
      refine da_on rfl (Eq.trans (show sl _ _ _ = .bool m2 from rfl) (congrArg Value.bool hc5)) (d_mv (v := .pointer (some ⟨p0b, p0o, none⟩)) rfl ?_)
      refine da_on rfl (Eq.trans (show sl _ _ _ = .bool m2 from rfl) (congrArg Value.bool hc5)) (d_nil rfl ?_)
      refine da_on rfl (Eq.trans (show sl _ _ _ = .bool m2 from rfl) (congrArg Value.bool hc5)) (d_fieldAddr rfl (fa32_0 _ _) ?_)
      refine da_on rfl (Eq.trans (show sl _ _ _ = .bool m2 from rfl) (congrArg Value.bool hc5)) (d_fieldAddr rfl (fa29_1 _ _) ?_)
      have B6 : w3.heap[p0b]? = some (.cells p0c p0T p0f) := X4.heap p0B
      refine da_on rfl (Eq.trans (show sl _ _ _ = .bool m2 from rfl) (congrArg Value.bool hc5)) (d_load (v := .float .f32 p0r1) rfl agg22 B6 (sub_get (vs := #[.float .f32 p0r0, .float .f32 p0r1, .float .f32 p0r2, .float .f32 p0r3, .float .f32 p0r4, .float .f32 p0r5, .float .f32 p0r6, .float .f32 p0r7, .float .f32 p0r8, .float .f32 p0r9]) p0P (i := 1) rfl) ?_)
      obtain ⟨m7, hm7, hr⟩ := letv_out hr
      refine da_on rfl (Eq.trans (show sl _ _ _ = .bool m2 from rfl) (congrArg Value.bool hc5)) (d_cl (vs := [.float .f32 p0r1]) en58 (ac rfl rfl) rfl ?_)
      refine (c58 p0.moments.y p0r1 m7 w3 hm7 p0h1).mono ?_
      rintro _ w8 ⟨rfl, E8⟩
      refine ⟨_, rfl, ?_⟩
      have X9 : Ext w w8 := X4.trans E8
      refine da_op rfl (d_pick (b := true) (Eq.trans (show ev _ _ = .bool m2 from rfl) (congrArg Value.bool hc5)) ?_)
      refine da_op rfl (d_mv (v := .bool m7) rfl ?_)
      rcases Bool.eq_false_or_eq_true m7 with hc10 | hc10
      · skip
        replace hr := bif_t hr hc10
        refine da_on rfl (Eq.trans (show sl _ _ _ = .bool m7 from rfl) (congrArg Value.bool hc10)) (d_mv (v := .pointer (some ⟨p0b, p0o, none⟩)) rfl ?_)
        refine da_on rfl (Eq.trans (show sl _ _ _ = .bool m7 from rfl) (congrArg Value.bool hc10)) (d_nil rfl ?_)
        refine da_on rfl (Eq.trans (show sl _ _ _ = .bool m7 from rfl) (congrArg Value.bool hc10)) (d_fieldAddr rfl (fa32_0 _ _) ?_)
        refine da_on rfl (Eq.trans (show sl _ _ _ = .bool m7 from rfl) (congrArg Value.bool hc10)) (d_fieldAddr rfl (fa29_2 _ _) ?_)
        have B11 : w8.heap[p0b]? = some (.cells p0c p0T p0f) := X9.heap p0B
        refine da_on rfl (Eq.trans (show sl _ _ _ = .bool m7 from rfl) (congrArg Value.bool hc10)) (d_load (v := .float .f32 p0r2) rfl agg22 B11 (sub_get (vs := #[.float .f32 p0r0, .float .f32 p0r1, .float .f32 p0r2, .float .f32 p0r3, .float .f32 p0r4, .float .f32 p0r5, .float .f32 p0r6, .float .f32 p0r7, .float .f32 p0r8, .float .f32 p0r9]) p0P (i := 2) rfl) ?_)
        obtain ⟨m12, hm12, hr⟩ := letv_out hr
        refine da_on rfl (Eq.trans (show sl _ _ _ = .bool m7 from rfl) (congrArg Value.bool hc10)) (d_cl (vs := [.float .f32 p0r2]) en58 (ac rfl rfl) rfl ?_)
        refine (c58 p0.moments.z p0r2 m12 w8 hm12 p0h2).mono ?_
        rintro _ w13 ⟨rfl, E13⟩
        refine ⟨_, rfl, ?_⟩
        have X14 : Ext w w13 := X9.trans E13
        refine da_op rfl (d_pick (b := true) (Eq.trans (show ev _ _ = .bool m7 from rfl) (congrArg Value.bool hc10)) ?_)
        refine da_op rfl (d_mv (v := .bool m12) rfl ?_)
        rcases Bool.eq_false_or_eq_true m12 with hc15 | hc15
        · skip
          replace hr := bif_t hr hc15
          refine da_on rfl (Eq.trans (show sl _ _ _ = .bool m12 from rfl) (congrArg Value.bool hc15)) (d_mv (v := .pointer (some ⟨p0b, p0o, none⟩)) rfl ?_)
          refine da_on rfl (Eq.trans (show sl _ _ _ = .bool m12 from rfl) (congrArg Value.bool hc15)) (d_nil rfl ?_)
          refine da_on rfl (Eq.trans (show sl _ _ _ = .bool m12 from rfl) (congrArg Value.bool hc15)) (d_fieldAddr rfl (fa32_1 _ _) ?_)
          obtain ⟨m16, hm16, hr⟩ := letv_out hr
          have B17 : w13.heap[p0b]? = some (.cells p0c p0T p0f) := X14.heap p0B
          refine da_on rfl (Eq.trans (show sl _ _ _ = .bool m12 from rfl) (congrArg Value.bool hc15)) (d_cl (vs := [.pointer (some ⟨p0b, p0o + 3, none⟩)]) en59 (ac rfl rfl) rfl ?_)
          refine (c59 (⟨p0.turn.w, p0.turn.x, p0.turn.y, p0.turn.z⟩ : SSpin) p0b (p0o + 3) p0c p0T p0f p0r3 p0r4 p0r5 p0r6 m16 w13 hm16 p0h3 p0h4 p0h5 p0h6 B17 (sub_take (vs := #[.float .f32 p0r0, .float .f32 p0r1, .float .f32 p0r2, .float .f32 p0r3, .float .f32 p0r4, .float .f32 p0r5, .float .f32 p0r6, .float .f32 p0r7, .float .f32 p0r8, .float .f32 p0r9]) (us := #[.float .f32 p0r3, .float .f32 p0r4, .float .f32 p0r5, .float .f32 p0r6]) (i := 3) p0P rfl (Nat.le_of_ble_eq_true rfl))).mono ?_
          rintro _ w18 ⟨rfl, E18⟩
          refine ⟨_, rfl, ?_⟩
          have X19 : Ext w w18 := X14.trans E18
          refine da_op rfl (d_pick (b := true) (Eq.trans (show ev _ _ = .bool m12 from rfl) (congrArg Value.bool hc15)) ?_)
          refine da_op rfl (d_mv (v := .bool m16) rfl ?_)
          rcases Bool.eq_false_or_eq_true m16 with hc20 | hc20
          · skip
            replace hr := bif_t hr hc20
            refine da_on rfl (Eq.trans (show sl _ _ _ = .bool m16 from rfl) (congrArg Value.bool hc20)) (d_mv (v := .pointer (some ⟨p0b, p0o, none⟩)) rfl ?_)
            refine da_on rfl (Eq.trans (show sl _ _ _ = .bool m16 from rfl) (congrArg Value.bool hc20)) (d_nil rfl ?_)
            refine da_on rfl (Eq.trans (show sl _ _ _ = .bool m16 from rfl) (congrArg Value.bool hc20)) (d_fieldAddr rfl (fa32_2 _ _) ?_)
            have B21 : w18.heap[p0b]? = some (.cells p0c p0T p0f) := X19.heap p0B
            refine da_on rfl (Eq.trans (show sl _ _ _ = .bool m16 from rfl) (congrArg Value.bool hc20)) (d_loads (vs := #[.float .f32 p0r7, .float .f32 p0r8, .float .f32 p0r9]) rfl agg29 size29 B21 (sub_take (vs := #[.float .f32 p0r0, .float .f32 p0r1, .float .f32 p0r2, .float .f32 p0r3, .float .f32 p0r4, .float .f32 p0r5, .float .f32 p0r6, .float .f32 p0r7, .float .f32 p0r8, .float .f32 p0r9]) (us := #[.float .f32 p0r7, .float .f32 p0r8, .float .f32 p0r9]) (i := 7) p0P rfl (Nat.le_of_ble_eq_true rfl)) ?_)
            obtain ⟨m22, hm22, hr⟩ := letv_out hr
            refine da_on rfl (Eq.trans (show sl _ _ _ = .bool m16 from rfl) (congrArg Value.bool hc20)) (d_cl (vs := [.agg #[.float .f32 p0r7, .float .f32 p0r8, .float .f32 p0r9]]) en47 (ac rfl rfl) rfl ?_)
            refine (c47 (⟨p0.speed.x, p0.speed.y, p0.speed.z⟩ : SVector) p0r7 p0r8 p0r9 m22 w18 hm22 p0h7 p0h8 p0h9).mono ?_
            rintro _ w23 ⟨rfl, E23⟩
            refine ⟨_, rfl, ?_⟩
            have X24 : Ext w w23 := X19.trans E23
            refine da_op rfl (d_pick (b := true) (Eq.trans (show ev _ _ = .bool m16 from rfl) (congrArg Value.bool hc20)) ?_)
            refine da_op rfl (d_as (v := .bool m22) rfl ?_)
            refine da_nil ?_
            subst hr
            exact ⟨rfl, (Ext.trans (Ext.trans (Ext.trans (Ext.trans (Ext.trans (Ext.refl w) E3) E8) E13) E18) E23)⟩
          · skip
            replace hr := bif_f hr hc20
            refine da_off rfl (Eq.trans (show sl _ _ _ = .bool m16 from rfl) (congrArg Value.bool hc20)) (by decide) ?_
            refine da_off rfl (Eq.trans (show sl _ _ _ = .bool m16 from rfl) (congrArg Value.bool hc20)) (by decide) ?_
            refine da_off rfl (Eq.trans (show sl _ _ _ = .bool m16 from rfl) (congrArg Value.bool hc20)) (by decide) ?_
            refine da_off rfl (Eq.trans (show sl _ _ _ = .bool m16 from rfl) (congrArg Value.bool hc20)) (by decide) ?_
            refine da_off rfl (Eq.trans (show sl _ _ _ = .bool m16 from rfl) (congrArg Value.bool hc20)) (by decide) ?_
            refine da_op rfl (d_pick (b := false) (Eq.trans (show ev _ _ = .bool m16 from rfl) (congrArg Value.bool hc20)) ?_)
            refine da_op rfl (d_as (v := .bool false) rfl ?_)
            refine da_nil ?_
            subst hr
            exact ⟨rfl, (Ext.trans (Ext.trans (Ext.trans (Ext.trans (Ext.refl w) E3) E8) E13) E18)⟩
        · skip
          replace hr := bif_f hr hc15
          refine da_off rfl (Eq.trans (show sl _ _ _ = .bool m12 from rfl) (congrArg Value.bool hc15)) (by decide) ?_
          refine da_off rfl (Eq.trans (show sl _ _ _ = .bool m12 from rfl) (congrArg Value.bool hc15)) (by decide) ?_
          refine da_off rfl (Eq.trans (show sl _ _ _ = .bool m12 from rfl) (congrArg Value.bool hc15)) (by decide) ?_
          refine da_off rfl (Eq.trans (show sl _ _ _ = .bool m12 from rfl) (congrArg Value.bool hc15)) (by decide) ?_
          refine da_op rfl (d_pick (b := false) (Eq.trans (show ev _ _ = .bool m12 from rfl) (congrArg Value.bool hc15)) ?_)
          refine da_op rfl (d_mv (v := .bool false) rfl ?_)
          refine da_off rfl rfl (by decide) ?_
          refine da_off rfl rfl (by decide) ?_
          refine da_off rfl rfl (by decide) ?_
          refine da_off rfl rfl (by decide) ?_
          refine da_off rfl rfl (by decide) ?_
          refine da_op rfl (d_pick (b := false) rfl ?_)
          refine da_op rfl (d_as (v := .bool false) rfl ?_)
          refine da_nil ?_
          subst hr
          exact ⟨rfl, (Ext.trans (Ext.trans (Ext.trans (Ext.refl w) E3) E8) E13)⟩
      · skip
        replace hr := bif_f hr hc10
        refine da_off rfl (Eq.trans (show sl _ _ _ = .bool m7 from rfl) (congrArg Value.bool hc10)) (by decide) ?_
        refine da_off rfl (Eq.trans (show sl _ _ _ = .bool m7 from rfl) (congrArg Value.bool hc10)) (by decide) ?_
        refine da_off rfl (Eq.trans (show sl _ _ _ = .bool m7 from rfl) (congrArg Value.bool hc10)) (by decide) ?_
        refine da_off rfl (Eq.trans (show sl _ _ _ = .bool m7 from rfl) (congrArg Value.bool hc10)) (by decide) ?_
        refine da_off rfl (Eq.trans (show sl _ _ _ = .bool m7 from rfl) (congrArg Value.bool hc10)) (by decide) ?_
        refine da_off rfl (Eq.trans (show sl _ _ _ = .bool m7 from rfl) (congrArg Value.bool hc10)) (by decide) ?_
        refine da_op rfl (d_pick (b := false) (Eq.trans (show ev _ _ = .bool m7 from rfl) (congrArg Value.bool hc10)) ?_)
        refine da_op rfl (d_mv (v := .bool false) rfl ?_)
        refine da_off rfl rfl (by decide) ?_
        refine da_off rfl rfl (by decide) ?_
        refine da_off rfl rfl (by decide) ?_
        refine da_off rfl rfl (by decide) ?_
        refine da_op rfl (d_pick (b := false) rfl ?_)
        refine da_op rfl (d_mv (v := .bool false) rfl ?_)
        refine da_off rfl rfl (by decide) ?_
        refine da_off rfl rfl (by decide) ?_
        refine da_off rfl rfl (by decide) ?_
        refine da_off rfl rfl (by decide) ?_
        refine da_off rfl rfl (by decide) ?_
        refine da_op rfl (d_pick (b := false) rfl ?_)
        refine da_op rfl (d_as (v := .bool false) rfl ?_)
        refine da_nil ?_
        subst hr
        exact ⟨rfl, (Ext.trans (Ext.trans (Ext.refl w) E3) E8)⟩
    · skip
      replace hr := bif_f hr hc5
      refine da_off rfl (Eq.trans (show sl _ _ _ = .bool m2 from rfl) (congrArg Value.bool hc5)) (by decide) ?_
      refine da_off rfl (Eq.trans (show sl _ _ _ = .bool m2 from rfl) (congrArg Value.bool hc5)) (by decide) ?_
      refine da_off rfl (Eq.trans (show sl _ _ _ = .bool m2 from rfl) (congrArg Value.bool hc5)) (by decide) ?_
      refine da_off rfl (Eq.trans (show sl _ _ _ = .bool m2 from rfl) (congrArg Value.bool hc5)) (by decide) ?_
      refine da_off rfl (Eq.trans (show sl _ _ _ = .bool m2 from rfl) (congrArg Value.bool hc5)) (by decide) ?_
      refine da_off rfl (Eq.trans (show sl _ _ _ = .bool m2 from rfl) (congrArg Value.bool hc5)) (by decide) ?_
      refine da_op rfl (d_pick (b := false) (Eq.trans (show ev _ _ = .bool m2 from rfl) (congrArg Value.bool hc5)) ?_)
      refine da_op rfl (d_mv (v := .bool false) rfl ?_)
      refine da_off rfl rfl (by decide) ?_
      refine da_off rfl rfl (by decide) ?_
      refine da_off rfl rfl (by decide) ?_
      refine da_off rfl rfl (by decide) ?_
      refine da_off rfl rfl (by decide) ?_
      refine da_off rfl rfl (by decide) ?_
      refine da_op rfl (d_pick (b := false) rfl ?_)
      refine da_op rfl (d_mv (v := .bool false) rfl ?_)
      refine da_off rfl rfl (by decide) ?_
      refine da_off rfl rfl (by decide) ?_
      refine da_off rfl rfl (by decide) ?_
      refine da_off rfl rfl (by decide) ?_
      refine da_op rfl (d_pick (b := false) rfl ?_)
      refine da_op rfl (d_mv (v := .bool false) rfl ?_)
      refine da_off rfl rfl (by decide) ?_
      refine da_off rfl rfl (by decide) ?_
      refine da_off rfl rfl (by decide) ?_
      refine da_off rfl rfl (by decide) ?_
      refine da_off rfl rfl (by decide) ?_
      refine da_op rfl (d_pick (b := false) rfl ?_)
      refine da_op rfl (d_as (v := .bool false) rfl ?_)
      refine da_nil ?_
      subst hr
      exact ⟨rfl, (Ext.trans (Ext.refl w) E3)⟩
  · skip
    rintro σ1 w1 o1 ⟨s2_1, E1⟩
    have X25 : Ext w w1 := (Ext.refl w).trans E1
    refine W_ret ?_
    subst hr
    refine ⟨_, res1 (rv_tmp s2_1), ?_⟩
    exact ⟨rfl, X25⟩
set_option maxHeartbeats 4000000 in
theorem c21 (p0 : STop) (p1 : SVector) (p2 : Nat) (p0b p0o : Nat) (p0c : Array Value) (p0T : TypeId) (p0f : Nat × Nat) (p0r0 : Nat) (p0r1 : Nat) (p0r2 : Nat) (p0r3 : Nat) (p0r4 : Nat) (p0r5 : Nat) (p0r6 : Nat) (p0r7 : Nat) (p0r8 : Nat) (p0r9 : Nat) (p1r0 : Nat) (p1r1 : Nat) (p1r2 : Nat) (p2r : Nat) (r : Bool) (w : World) (hr : M.spec_l04Can p0 p1 p2 = r) (p0h0 : cn .f32 p0r0 = p0.moments.x) (p0h1 : cn .f32 p0r1 = p0.moments.y) (p0h2 : cn .f32 p0r2 = p0.moments.z) (p0h3 : cn .f32 p0r3 = p0.turn.w) (p0h4 : cn .f32 p0r4 = p0.turn.x) (p0h5 : cn .f32 p0r5 = p0.turn.y) (p0h6 : cn .f32 p0r6 = p0.turn.z) (p0h7 : cn .f32 p0r7 = p0.speed.x) (p0h8 : cn .f32 p0r8 = p0.speed.y) (p0h9 : cn .f32 p0r9 = p0.speed.z) (p0B : w.heap[p0b]? = some (.cells p0c p0T p0f)) (p0P : (p0c.toList.drop p0o).take 10 = [.float .f32 p0r0, .float .f32 p0r1, .float .f32 p0r2, .float .f32 p0r3, .float .f32 p0r4, .float .f32 p0r5, .float .f32 p0r6, .float .f32 p0r7, .float .f32 p0r8, .float .f32 p0r9]) (p1h0 : cn .f32 p1r0 = p1.x) (p1h1 : cn .f32 p1r1 = p1.y) (p1h2 : cn .f32 p1r2 = p1.z) (p2h : cn .f32 p2r = p2) :
    Calls Try.prog 21 #[.pointer (some ⟨p0b, p0o, none⟩), .agg #[.float .f32 p1r0, .float .f32 p1r1, .float .f32 p1r2], .float .f32 p2r] w fun e w' => e = .returned (.bool r) ∧ Ext w w' := by
  refine calls_of_W Try.func21 rfl (Nat.le_of_ble_eq_true rfl) ?_
  refine W_seq ?_
  refine W_region rfl ?_
  refine da_op rfl (d_box (cs := #[.float .f32 p1r0, .float .f32 p1r1, .float .f32 p1r2]) rfl fun w1 B1 E1 => ?_)
  have own2 : w.heap.size ≤ w.heap.size := Nat.le_trans (Ext.refl w).size (Nat.le_refl _)
  have X3 : Ext w w1 := (Ext.refl w).trans E1
  refine da_op rfl (d_as (v := .bool false) rfl ?_)
  refine da_nil ?_
  refine W_seq ?_
  obtain ⟨m4, hm4, hr⟩ := letv_out hr
  refine W_cut (fun σ' w' => σ' 6 = .bool m4 ∧ Ext w1 w') rfl ?_ ?_
  · skip
    have hr := hm4
    refine da_op rfl (d_mv (v := .pointer (some ⟨p0b, p0o, none⟩)) rfl ?_)
    obtain ⟨m5, hm5, hr⟩ := letv_out hr
    have B6 : w1.heap[p0b]? = some (.cells p0c p0T p0f) := X3.heap p0B
    refine da_op rfl (d_cl (vs := [.pointer (some ⟨p0b, p0o, none⟩)]) en30 (ac rfl rfl) rfl ?_)
    refine (c30 (⟨(⟨p0.moments.x, p0.moments.y, p0.moments.z⟩ : SVector), (⟨p0.turn.w, p0.turn.x, p0.turn.y, p0.turn.z⟩ : SSpin), (⟨p0.speed.x, p0.speed.y, p0.speed.z⟩ : SVector)⟩ : STop) p0b p0o p0c p0T p0f p0r0 p0r1 p0r2 p0r3 p0r4 p0r5 p0r6 p0r7 p0r8 p0r9 m5 w1 hm5 p0h0 p0h1 p0h2 p0h3 p0h4 p0h5 p0h6 p0h7 p0h8 p0h9 B6 (sub_take (vs := #[.float .f32 p0r0, .float .f32 p0r1, .float .f32 p0r2, .float .f32 p0r3, .float .f32 p0r4, .float .f32 p0r5, .float .f32 p0r6, .float .f32 p0r7, .float .f32 p0r8, .float .f32 p0r9]) (us := #[.float .f32 p0r0, .float .f32 p0r1, .float .f32 p0r2, .float .f32 p0r3, .float .f32 p0r4, .float .f32 p0r5, .float .f32 p0r6, .float .f32 p0r7, .float .f32 p0r8, .float .f32 p0r9]) (i := 0) p0P rfl (Nat.le_of_ble_eq_true rfl))).mono ?_
    rintro _ w7 ⟨rfl, E7⟩
    refine ⟨_, rfl, ?_⟩
    have X8 : Ext w w7 := X3.trans E7
    refine da_op rfl (d_mv (v := .bool m5) rfl ?_)
    rcases Bool.eq_false_or_eq_true m5 with hc9 | hc9
    · skip
      replace hr := bif_t hr hc9
      have B10 : w7.heap[w.heap.size]? = some (.cells #[.float .f32 p1r0, .float .f32 p1r1, .float .f32 p1r2] 29 (0, 0)) := E7.heap B1
      refine da_on rfl (Eq.trans (show sl _ _ _ = .bool m5 from rfl) (congrArg Value.bool hc9)) (d_loads (vs := #[.float .f32 p1r0, .float .f32 p1r1, .float .f32 p1r2]) rfl agg29 size29 B10 rfl ?_)
      obtain ⟨m11, hm11, hr⟩ := letv_out hr
      refine da_on rfl (Eq.trans (show sl _ _ _ = .bool m5 from rfl) (congrArg Value.bool hc9)) (d_cl (vs := [.agg #[.float .f32 p1r0, .float .f32 p1r1, .float .f32 p1r2]]) en47 (ac rfl rfl) rfl ?_)
      refine (c47 (⟨p1.x, p1.y, p1.z⟩ : SVector) p1r0 p1r1 p1r2 m11 w7 hm11 p1h0 p1h1 p1h2).mono ?_
      rintro _ w12 ⟨rfl, E12⟩
      refine ⟨_, rfl, ?_⟩
      have X13 : Ext w w12 := X8.trans E12
      refine da_op rfl (d_pick (b := true) (Eq.trans (show ev _ _ = .bool m5 from rfl) (congrArg Value.bool hc9)) ?_)
      refine da_op rfl (d_mv (v := .bool m11) rfl ?_)
      rcases Bool.eq_false_or_eq_true m11 with hc14 | hc14
      · skip
        replace hr := bif_t hr hc14
        refine da_on rfl (Eq.trans (show sl _ _ _ = .bool m11 from rfl) (congrArg Value.bool hc14)) (d_mv (v := .float .f32 p2r) rfl ?_)
        obtain ⟨m15, hm15, hr⟩ := letv_out hr
        have B16 : w12.heap[w.heap.size]? = some (.cells #[.float .f32 p1r0, .float .f32 p1r1, .float .f32 p1r2] 29 (0, 0)) := E12.heap B10
        refine da_on rfl (Eq.trans (show sl _ _ _ = .bool m11 from rfl) (congrArg Value.bool hc14)) (d_cl (vs := [.float .f32 p2r]) en31 (ac rfl rfl) rfl ?_)
        refine (c31 p2 p2r m15 w12 hm15 p2h).mono ?_
        rintro _ w17 ⟨rfl, E17⟩
        refine ⟨_, rfl, ?_⟩
        have X18 : Ext w w17 := X13.trans E17
        refine da_op rfl (d_pick (b := true) (Eq.trans (show ev _ _ = .bool m11 from rfl) (congrArg Value.bool hc14)) ?_)
        refine da_op rfl (d_as (v := .bool m15) rfl ?_)
        refine da_nil ?_
        subst hr
        exact ⟨rfl, (Ext.trans (Ext.trans (Ext.trans (Ext.refl w1) E7) E12) E17)⟩
      · skip
        replace hr := bif_f hr hc14
        refine da_off rfl (Eq.trans (show sl _ _ _ = .bool m11 from rfl) (congrArg Value.bool hc14)) (by decide) ?_
        refine da_off rfl (Eq.trans (show sl _ _ _ = .bool m11 from rfl) (congrArg Value.bool hc14)) (by decide) ?_
        refine da_op rfl (d_pick (b := false) (Eq.trans (show ev _ _ = .bool m11 from rfl) (congrArg Value.bool hc14)) ?_)
        refine da_op rfl (d_as (v := .bool false) rfl ?_)
        refine da_nil ?_
        subst hr
        exact ⟨rfl, (Ext.trans (Ext.trans (Ext.refl w1) E7) E12)⟩
    · skip
      replace hr := bif_f hr hc9
      refine da_off rfl (Eq.trans (show sl _ _ _ = .bool m5 from rfl) (congrArg Value.bool hc9)) (by decide) ?_
      refine da_off rfl (Eq.trans (show sl _ _ _ = .bool m5 from rfl) (congrArg Value.bool hc9)) (by decide) ?_
      refine da_op rfl (d_pick (b := false) (Eq.trans (show ev _ _ = .bool m5 from rfl) (congrArg Value.bool hc9)) ?_)
      refine da_op rfl (d_mv (v := .bool false) rfl ?_)
      refine da_off rfl rfl (by decide) ?_
      refine da_off rfl rfl (by decide) ?_
      refine da_op rfl (d_pick (b := false) rfl ?_)
      refine da_op rfl (d_as (v := .bool false) rfl ?_)
      refine da_nil ?_
      subst hr
      exact ⟨rfl, (Ext.trans (Ext.refl w1) E7)⟩
  · skip
    rintro σ4 w4 o4 ⟨s6_4, E4⟩
    have X19 : Ext w w4 := X3.trans E4
    refine W_ret ?_
    subst hr
    refine ⟨_, res1 (rv_tmp s6_4), ?_⟩
    exact ⟨rfl, X19⟩
set_option maxHeartbeats 4000000 in
theorem c48 (p0 : Int) (p1 : Int) (p2 : Int) (r : Bool) (w : World) (hr : M.spec_l00In p0 p1 p2 = r)  :
    Calls Try.prog 48 #[.int .i64 p0, .int .i64 p1, .int .i64 p2] w fun e w' => e = .returned (.bool r) ∧ Ext w w' := by
  refine calls_of_W Try.func48 rfl (Nat.le_of_ble_eq_true rfl) ?_
  refine W_seq ?_
  refine W_region rfl ?_
  refine da_op rfl (d_as (v := .bool false) rfl ?_)
  refine da_nil ?_
  refine W_seq ?_
  obtain ⟨m1, hm1, hr⟩ := letv_out hr
  refine W_cut (fun σ' w' => σ' 6 = .bool m1 ∧ Ext w w') rfl ?_ ?_
  · skip
    have hr := hm1
    refine da_op rfl (d_mv (v := .int .i64 p0) rfl ?_)
    refine da_op rfl (d_mv (v := .int .i64 p1) rfl ?_)
    refine da_op rfl (d_icmp cGeq rfl rfl ?_)
    refine da_op rfl (d_mv (v := .bool (icmp .geq p0 p1)) rfl ?_)
    rcases Bool.eq_false_or_eq_true (icmp .geq p0 p1) with hc2 | hc2
    · skip
      replace hr := bif_t hr hc2
      refine da_on rfl (Eq.trans (show sl _ _ _ = .bool (icmp .geq p0 p1) from rfl) (congrArg Value.bool hc2)) (d_mv (v := .int .i64 p0) rfl ?_)
      refine da_on rfl (Eq.trans (show sl _ _ _ = .bool (icmp .geq p0 p1) from rfl) (congrArg Value.bool hc2)) (d_mv (v := .int .i64 p2) rfl ?_)
      refine da_on rfl (Eq.trans (show sl _ _ _ = .bool (icmp .geq p0 p1) from rfl) (congrArg Value.bool hc2)) (d_icmp cLeq rfl rfl ?_)
      refine da_op rfl (d_pick (b := true) (Eq.trans (show ev _ _ = .bool (icmp .geq p0 p1) from rfl) (congrArg Value.bool hc2)) ?_)
      refine da_op rfl (d_as (v := .bool (icmp .leq p0 p2)) rfl ?_)
      refine da_nil ?_
      subst hr
      exact ⟨rfl, (Ext.refl w)⟩
    · skip
      replace hr := bif_f hr hc2
      refine da_off rfl (Eq.trans (show sl _ _ _ = .bool (icmp .geq p0 p1) from rfl) (congrArg Value.bool hc2)) (by decide) ?_
      refine da_off rfl (Eq.trans (show sl _ _ _ = .bool (icmp .geq p0 p1) from rfl) (congrArg Value.bool hc2)) (by decide) ?_
      refine da_off rfl (Eq.trans (show sl _ _ _ = .bool (icmp .geq p0 p1) from rfl) (congrArg Value.bool hc2)) (by decide) ?_
      refine da_op rfl (d_pick (b := false) (Eq.trans (show ev _ _ = .bool (icmp .geq p0 p1) from rfl) (congrArg Value.bool hc2)) ?_)
      refine da_op rfl (d_as (v := .bool false) rfl ?_)
      refine da_nil ?_
      subst hr
      exact ⟨rfl, (Ext.refl w)⟩
  · skip
    rintro σ1 w1 o1 ⟨s6_1, E1⟩
    have X3 : Ext w w1 := (Ext.refl w).trans E1
    refine W_ret ?_
    subst hr
    refine ⟨_, res1 (rv_tmp s6_1), ?_⟩
    exact ⟨rfl, X3⟩
set_option maxHeartbeats 4000000 in
theorem c22 (p0 : Int) (r : Bool) (w : World) (hr : M.spec_l04Steps p0 = r)  :
    Calls Try.prog 22 #[.int .i64 p0] w fun e w' => e = .returned (.bool r) ∧ Ext w w' := by
  refine calls_of_W Try.func22 rfl (Nat.le_of_ble_eq_true rfl) ?_
  refine W_seq ?_
  refine W_region rfl ?_
  refine da_op rfl (d_as (v := .bool false) rfl ?_)
  refine da_nil ?_
  refine W_seq ?_
  refine W_region rfl ?_
  refine da_op rfl (d_mv (v := .int .i64 p0) rfl ?_)
  obtain ⟨m1, hm1, hr⟩ := letv_out hr
  refine da_op rfl (d_cl (vs := [.int .i64 p0, .int .i64 0, .int .i64 128]) en48 (ac rfl (ac rfl (ac rfl rfl))) rfl ?_)
  refine (c48 p0 0 128 m1 w hm1 ).mono ?_
  rintro _ w2 ⟨rfl, E2⟩
  refine ⟨_, rfl, ?_⟩
  have X3 : Ext w w2 := (Ext.refl w).trans E2
  refine da_op rfl (d_as (v := .bool m1) rfl ?_)
  refine da_nil ?_
  refine W_ret ?_
  subst hr
  refine ⟨_, res1 (rv_tmp rfl), ?_⟩
  exact ⟨rfl, X3⟩
set_option maxHeartbeats 4000000 in
theorem c86 (p0 : SSpin) (p0r0 : Nat) (p0r1 : Nat) (p0r2 : Nat) (p0r3 : Nat) (r : SSpin) (w : World) (hr : M.spec_l04Back p0 = r) (p0h0 : cn .f32 p0r0 = p0.w) (p0h1 : cn .f32 p0r1 = p0.x) (p0h2 : cn .f32 p0r2 = p0.y) (p0h3 : cn .f32 p0r3 = p0.z) :
    Calls Try.prog 86 #[.agg #[.float .f32 p0r0, .float .f32 p0r1, .float .f32 p0r2, .float .f32 p0r3]] w fun e w' => ∃ q0r0 : Nat, ∃ q0r1 : Nat, ∃ q0r2 : Nat, ∃ q0r3 : Nat, e = .returned (.agg #[.float .f32 q0r0, .float .f32 q0r1, .float .f32 q0r2, .float .f32 q0r3]) ∧ cn .f32 q0r0 = r.w ∧ cn .f32 q0r1 = r.x ∧ cn .f32 q0r2 = r.y ∧ cn .f32 q0r3 = r.z ∧ Ext w w' := by
  refine calls_of_W Try.func86 rfl (Nat.le_of_ble_eq_true rfl) ?_
  refine W_seq ?_
  refine W_region rfl ?_
  refine da_op rfl (d_box (cs := #[.float .f32 p0r0, .float .f32 p0r1, .float .f32 p0r2, .float .f32 p0r3]) rfl fun w1 B1 E1 => ?_)
  have own2 : w.heap.size ≤ w.heap.size := Nat.le_trans (Ext.refl w).size (Nat.le_refl _)
  have X3 : Ext w w1 := (Ext.refl w).trans E1
  refine da_op rfl (d_alloc (cs := #[.float .f32 0, .float .f32 0, .float .f32 0, .float .f32 0]) zero30 rfl fun w4 B4 E4 => ?_)
  have own5 : w.heap.size ≤ w1.heap.size := Nat.le_trans X3.size (Nat.le_refl _)
  have sp6 : w.heap.size ≠ w1.heap.size := Nat.ne_of_lt (Nat.lt_of_lt_of_le (lt_heap B1) (Nat.le_refl _))
  have X7 : Ext w w4 := X3.trans E4
  refine da_nil ?_
  refine W_seq ?_
  refine W_region rfl ?_
  refine da_op rfl (d_fieldAddr rfl (fa30_0 _ _) ?_)
  have B8 : w4.heap[w.heap.size]? = some (.cells #[.float .f32 p0r0, .float .f32 p0r1, .float .f32 p0r2, .float .f32 p0r3] 30 (0, 0)) := E4.heap B1
  refine da_op rfl (d_load (v := .float .f32 p0r0) rfl agg22 B8 rfl ?_)
  refine da_op rfl (d_fieldAddr rfl (fa30_1 _ _) ?_)
  refine da_op rfl (d_load (v := .float .f32 p0r1) rfl agg22 B8 rfl ?_)
  refine da_op rfl (d_fneg (k := .f32) rfl p0h1 fun r9 h9 _ => ?_)
  refine da_op rfl (d_fieldAddr rfl (fa30_2 _ _) ?_)
  refine da_op rfl (d_load (v := .float .f32 p0r2) rfl agg22 B8 rfl ?_)
  refine da_op rfl (d_fneg (k := .f32) rfl p0h2 fun r10 h10 _ => ?_)
  refine da_op rfl (d_fieldAddr rfl (fa30_3 _ _) ?_)
  refine da_op rfl (d_load (v := .float .f32 p0r3) rfl agg22 B8 rfl ?_)
  refine da_op rfl (d_fneg (k := .f32) rfl p0h3 fun r11 h11 _ => ?_)
  refine da_op rfl (d_bd (vs := [(0, .float .f32 p0r0), (1, .float .f32 r9), (2, .float .f32 r10), (3, .float .f32 r11)]) (cs := #[.float .f32 p0r0, .float .f32 r9, .float .f32 r10, .float .f32 r11]) (pc rfl (pc rfl (pc rfl (pc rfl rfl)))) (by kernel_rfl) ?_)
  refine da_op rfl (d_store (vs := #[.float .f32 p0r0, .float .f32 r9, .float .f32 r10, .float .f32 r11]) rfl rfl B4 size30 (Nat.le_of_ble_eq_true rfl) rfl fun w12 S12 => ?_)
  have X13 : Ext w w12 := Ext.step X7 S12.frmb (fun k _ hk => hk ▸ own5)
  have B14 : w12.heap[w1.heap.size]? = some (.cells #[.float .f32 p0r0, .float .f32 r9, .float .f32 r10, .float .f32 r11] 30 (0, 0)) := S12.here
  refine da_nil ?_
  refine W_ret ?_
  subst hr
  refine ⟨_, res1 (rv_cells (vs := #[.float .f32 p0r0, .float .f32 r9, .float .f32 r10, .float .f32 r11]) rfl agg30 size30 B14 rfl), ?_⟩
  exact ⟨p0r0, r9, r10, r11, rfl, p0h0, h9, h10, h11, X13⟩
set_option maxHeartbeats 4000000 in
theorem c110 (p0 : SSpin) (p0r0 : Nat) (p0r1 : Nat) (p0r2 : Nat) (p0r3 : Nat) (r : SVector) (w : World) (hr : M.spec_l04Part p0 = r) (p0h0 : cn .f32 p0r0 = p0.w) (p0h1 : cn .f32 p0r1 = p0.x) (p0h2 : cn .f32 p0r2 = p0.y) (p0h3 : cn .f32 p0r3 = p0.z) :
    Calls Try.prog 110 #[.agg #[.float .f32 p0r0, .float .f32 p0r1, .float .f32 p0r2, .float .f32 p0r3]] w fun e w' => ∃ q0r0 : Nat, ∃ q0r1 : Nat, ∃ q0r2 : Nat, e = .returned (.agg #[.float .f32 q0r0, .float .f32 q0r1, .float .f32 q0r2]) ∧ cn .f32 q0r0 = r.x ∧ cn .f32 q0r1 = r.y ∧ cn .f32 q0r2 = r.z ∧ Ext w w' := by
  refine calls_of_W Try.func110 rfl (Nat.le_of_ble_eq_true rfl) ?_
  refine W_seq ?_
  refine W_region rfl ?_
  refine da_op rfl (d_box (cs := #[.float .f32 p0r0, .float .f32 p0r1, .float .f32 p0r2, .float .f32 p0r3]) rfl fun w1 B1 E1 => ?_)
  have own2 : w.heap.size ≤ w.heap.size := Nat.le_trans (Ext.refl w).size (Nat.le_refl _)
  have X3 : Ext w w1 := (Ext.refl w).trans E1
  refine da_op rfl (d_alloc (cs := #[.float .f32 0, .float .f32 0, .float .f32 0]) zero29 rfl fun w4 B4 E4 => ?_)
  have own5 : w.heap.size ≤ w1.heap.size := Nat.le_trans X3.size (Nat.le_refl _)
  have sp6 : w.heap.size ≠ w1.heap.size := Nat.ne_of_lt (Nat.lt_of_lt_of_le (lt_heap B1) (Nat.le_refl _))
  have X7 : Ext w w4 := X3.trans E4
  refine da_nil ?_
  refine W_seq ?_
  refine W_region rfl ?_
  refine da_op rfl (d_fieldAddr rfl (fa30_1 _ _) ?_)
  have B8 : w4.heap[w.heap.size]? = some (.cells #[.float .f32 p0r0, .float .f32 p0r1, .float .f32 p0r2, .float .f32 p0r3] 30 (0, 0)) := E4.heap B1
  refine da_op rfl (d_load (v := .float .f32 p0r1) rfl agg22 B8 rfl ?_)
  refine da_op rfl (d_fieldAddr rfl (fa30_2 _ _) ?_)
  refine da_op rfl (d_load (v := .float .f32 p0r2) rfl agg22 B8 rfl ?_)
  refine da_op rfl (d_fieldAddr rfl (fa30_3 _ _) ?_)
  refine da_op rfl (d_load (v := .float .f32 p0r3) rfl agg22 B8 rfl ?_)
  refine da_op rfl (d_bd (vs := [(0, .float .f32 p0r1), (1, .float .f32 p0r2), (2, .float .f32 p0r3)]) (cs := #[.float .f32 p0r1, .float .f32 p0r2, .float .f32 p0r3]) (pc rfl (pc rfl (pc rfl rfl))) (by kernel_rfl) ?_)
  refine da_op rfl (d_store (vs := #[.float .f32 p0r1, .float .f32 p0r2, .float .f32 p0r3]) rfl rfl B4 size29 (Nat.le_of_ble_eq_true rfl) rfl fun w9 S9 => ?_)
  have X10 : Ext w w9 := Ext.step X7 S9.frmb (fun k _ hk => hk ▸ own5)
  have B11 : w9.heap[w1.heap.size]? = some (.cells #[.float .f32 p0r1, .float .f32 p0r2, .float .f32 p0r3] 29 (0, 0)) := S9.here
  refine da_nil ?_
  refine W_ret ?_
  subst hr
  refine ⟨_, res1 (rv_cells (vs := #[.float .f32 p0r1, .float .f32 p0r2, .float .f32 p0r3]) rfl agg29 size29 B11 rfl), ?_⟩
  exact ⟨p0r1, p0r2, p0r3, rfl, p0h1, p0h2, p0h3, X10⟩
set_option maxHeartbeats 4000000 in
theorem c84 (p0 : SVector) (p1 : SVector) (p0r0 : Nat) (p0r1 : Nat) (p0r2 : Nat) (p1r0 : Nat) (p1r1 : Nat) (p1r2 : Nat) (r : SVector) (w : World) (hr : M.spec_l01Cross p0 p1 = r) (p0h0 : cn .f32 p0r0 = p0.x) (p0h1 : cn .f32 p0r1 = p0.y) (p0h2 : cn .f32 p0r2 = p0.z) (p1h0 : cn .f32 p1r0 = p1.x) (p1h1 : cn .f32 p1r1 = p1.y) (p1h2 : cn .f32 p1r2 = p1.z) :
    Calls Try.prog 84 #[.agg #[.float .f32 p0r0, .float .f32 p0r1, .float .f32 p0r2], .agg #[.float .f32 p1r0, .float .f32 p1r1, .float .f32 p1r2]] w fun e w' => ∃ q0r0 : Nat, ∃ q0r1 : Nat, ∃ q0r2 : Nat, e = .returned (.agg #[.float .f32 q0r0, .float .f32 q0r1, .float .f32 q0r2]) ∧ cn .f32 q0r0 = r.x ∧ cn .f32 q0r1 = r.y ∧ cn .f32 q0r2 = r.z ∧ Ext w w' := by
  refine calls_of_W Try.func84 rfl (Nat.le_of_ble_eq_true rfl) ?_
  refine W_seq ?_
  refine W_region rfl ?_
  refine da_op rfl (d_box (cs := #[.float .f32 p0r0, .float .f32 p0r1, .float .f32 p0r2]) rfl fun w1 B1 E1 => ?_)
  have own2 : w.heap.size ≤ w.heap.size := Nat.le_trans (Ext.refl w).size (Nat.le_refl _)
  have X3 : Ext w w1 := (Ext.refl w).trans E1
  refine da_op rfl (d_box (cs := #[.float .f32 p1r0, .float .f32 p1r1, .float .f32 p1r2]) rfl fun w4 B4 E4 => ?_)
  have own5 : w.heap.size ≤ w1.heap.size := Nat.le_trans X3.size (Nat.le_refl _)
  have sp6 : w.heap.size ≠ w1.heap.size := Nat.ne_of_lt (Nat.lt_of_lt_of_le (lt_heap B1) (Nat.le_refl _))
  have X7 : Ext w w4 := X3.trans E4
  have B9 : w4.heap[w.heap.size]? = some (.cells #[.float .f32 p0r0, .float .f32 p0r1, .float .f32 p0r2] 29 (0, 0)) := E4.heap B1
  refine da_op rfl (d_alloc (cs := #[.float .f32 0, .float .f32 0, .float .f32 0]) zero29 rfl fun w8 B8 E8 => ?_)
  have own10 : w.heap.size ≤ w4.heap.size := Nat.le_trans X7.size (Nat.le_refl _)
  have sp11 : w.heap.size ≠ w4.heap.size := Nat.ne_of_lt (Nat.lt_of_lt_of_le (lt_heap B9) (Nat.le_refl _))
  have sp12 : w1.heap.size ≠ w4.heap.size := Nat.ne_of_lt (Nat.lt_of_lt_of_le (lt_heap B4) (Nat.le_refl _))
  have X13 : Ext w w8 := X7.trans E8
  refine da_nil ?_
  refine W_seq ?_
  refine W_region rfl ?_
  refine da_op rfl (d_fieldAddr rfl (fa29_1 _ _) ?_)
  have B14 : w8.heap[w.heap.size]? = some (.cells #[.float .f32 p0r0, .float .f32 p0r1, .float .f32 p0r2] 29 (0, 0)) := E8.heap B9
  refine da_op rfl (d_load (v := .float .f32 p0r1) rfl agg22 B14 rfl ?_)
  refine da_op rfl (d_fieldAddr rfl (fa29_2 _ _) ?_)
  have B15 : w8.heap[w1.heap.size]? = some (.cells #[.float .f32 p1r0, .float .f32 p1r1, .float .f32 p1r2] 29 (0, 0)) := E8.heap B4
  refine da_op rfl (d_load (v := .float .f32 p1r2) rfl agg22 B15 rfl ?_)
  refine da_op rfl (d_fop (k := .f32) fMul rfl rfl p0h1 p1h2 fun r16 w16 h16 _ E16 => ?_)
  have X17 : Ext w w16 := X13.trans E16
  refine da_op rfl (d_fieldAddr rfl (fa29_2 _ _) ?_)
  have B18 : w16.heap[w.heap.size]? = some (.cells #[.float .f32 p0r0, .float .f32 p0r1, .float .f32 p0r2] 29 (0, 0)) := E16.heap B14
  refine da_op rfl (d_load (v := .float .f32 p0r2) rfl agg22 B18 rfl ?_)
  refine da_op rfl (d_fieldAddr rfl (fa29_1 _ _) ?_)
  have B19 : w16.heap[w1.heap.size]? = some (.cells #[.float .f32 p1r0, .float .f32 p1r1, .float .f32 p1r2] 29 (0, 0)) := E16.heap B15
  refine da_op rfl (d_load (v := .float .f32 p1r1) rfl agg22 B19 rfl ?_)
  refine da_op rfl (d_fop (k := .f32) fMul rfl rfl p0h2 p1h1 fun r20 w20 h20 _ E20 => ?_)
  have X21 : Ext w w20 := X17.trans E20
  refine da_op rfl (d_fop (k := .f32) fSub rfl rfl h16 h20 fun r22 w22 h22 _ E22 => ?_)
  have X23 : Ext w w22 := X21.trans E22
  refine da_op rfl (d_fieldAddr rfl (fa29_2 _ _) ?_)
  have B24 : w22.heap[w.heap.size]? = some (.cells #[.float .f32 p0r0, .float .f32 p0r1, .float .f32 p0r2] 29 (0, 0)) := E22.heap (E20.heap B18)
  refine da_op rfl (d_load (v := .float .f32 p0r2) rfl agg22 B24 rfl ?_)
  refine da_op rfl (d_fieldAddr rfl (fa29_0 _ _) ?_)
  have B25 : w22.heap[w1.heap.size]? = some (.cells #[.float .f32 p1r0, .float .f32 p1r1, .float .f32 p1r2] 29 (0, 0)) := E22.heap (E20.heap B19)
  refine da_op rfl (d_load (v := .float .f32 p1r0) rfl agg22 B25 rfl ?_)
  refine da_op rfl (d_fop (k := .f32) fMul rfl rfl p0h2 p1h0 fun r26 w26 h26 _ E26 => ?_)
  have X27 : Ext w w26 := X23.trans E26
  refine da_op rfl (d_fieldAddr rfl (fa29_0 _ _) ?_)
  have B28 : w26.heap[w.heap.size]? = some (.cells #[.float .f32 p0r0, .float .f32 p0r1, .float .f32 p0r2] 29 (0, 0)) := E26.heap B24
  refine da_op rfl (d_load (v := .float .f32 p0r0) rfl agg22 B28 rfl ?_)
  refine da_op rfl (d_fieldAddr rfl (fa29_2 _ _) ?_)
  have B29 : w26.heap[w1.heap.size]? = some (.cells #[.float .f32 p1r0, .float .f32 p1r1, .float .f32 p1r2] 29 (0, 0)) := E26.heap B25
  refine da_op rfl (d_load (v := .float .f32 p1r2) rfl agg22 B29 rfl ?_)
  refine da_op rfl (d_fop (k := .f32) fMul rfl rfl p0h0 p1h2 fun r30 w30 h30 _ E30 => ?_)
  have X31 : Ext w w30 := X27.trans E30
  refine da_op rfl (d_fop (k := .f32) fSub rfl rfl h26 h30 fun r32 w32 h32 _ E32 => ?_)
  have X33 : Ext w w32 := X31.trans E32
  refine da_op rfl (d_fieldAddr rfl (fa29_0 _ _) ?_)
  have B34 : w32.heap[w.heap.size]? = some (.cells #[.float .f32 p0r0, .float .f32 p0r1, .float .f32 p0r2] 29 (0, 0)) := E32.heap (E30.heap B28)
  refine da_op rfl (d_load (v := .float .f32 p0r0) rfl agg22 B34 rfl ?_)
  refine da_op rfl (d_fieldAddr rfl (fa29_1 _ _) ?_)
  have B35 : w32.heap[w1.heap.size]? = some (.cells #[.float .f32 p1r0, .float .f32 p1r1, .float .f32 p1r2] 29 (0, 0)) := E32.heap (E30.heap B29)
  refine da_op rfl (d_load (v := .float .f32 p1r1) rfl agg22 B35 rfl ?_)
  refine da_op rfl (d_fop (k := .f32) fMul rfl rfl p0h0 p1h1 fun r36 w36 h36 _ E36 => ?_)
  have X37 : Ext w w36 := X33.trans E36
  refine da_op rfl (d_fieldAddr rfl (fa29_1 _ _) ?_)
  have B38 : w36.heap[w.heap.size]? = some (.cells #[.float .f32 p0r0, .float .f32 p0r1, .float .f32 p0r2] 29 (0, 0)) := E36.heap B34
  refine da_op rfl (d_load (v := .float .f32 p0r1) rfl agg22 B38 rfl ?_)
  refine da_op rfl (d_fieldAddr rfl (fa29_0 _ _) ?_)
  have B39 : w36.heap[w1.heap.size]? = some (.cells #[.float .f32 p1r0, .float .f32 p1r1, .float .f32 p1r2] 29 (0, 0)) := E36.heap B35
  refine da_op rfl (d_load (v := .float .f32 p1r0) rfl agg22 B39 rfl ?_)
  refine da_op rfl (d_fop (k := .f32) fMul rfl rfl p0h1 p1h0 fun r40 w40 h40 _ E40 => ?_)
  have X41 : Ext w w40 := X37.trans E40
  refine da_op rfl (d_fop (k := .f32) fSub rfl rfl h36 h40 fun r42 w42 h42 _ E42 => ?_)
  have X43 : Ext w w42 := X41.trans E42
  refine da_op rfl (d_bd (vs := [(0, .float .f32 r22), (1, .float .f32 r32), (2, .float .f32 r42)]) (cs := #[.float .f32 r22, .float .f32 r32, .float .f32 r42]) (pc rfl (pc rfl (pc rfl rfl))) (by kernel_rfl) ?_)
  have B44 : w42.heap[w4.heap.size]? = some (.cells #[.float .f32 0, .float .f32 0, .float .f32 0] 29 (0, 0)) := E42.heap (E40.heap (E36.heap (E32.heap (E30.heap (E26.heap (E22.heap (E20.heap (E16.heap B8))))))))
  refine da_op rfl (d_store (vs := #[.float .f32 r22, .float .f32 r32, .float .f32 r42]) rfl rfl B44 size29 (Nat.le_of_ble_eq_true rfl) rfl fun w45 S45 => ?_)
  have X46 : Ext w w45 := Ext.step X43 S45.frmb (fun k _ hk => hk ▸ own10)
  have B47 : w45.heap[w4.heap.size]? = some (.cells #[.float .f32 r22, .float .f32 r32, .float .f32 r42] 29 (0, 0)) := S45.here
  refine da_nil ?_
  refine W_ret ?_
  subst hr
  refine ⟨_, res1 (rv_cells (vs := #[.float .f32 r22, .float .f32 r32, .float .f32 r42]) rfl agg29 size29 B47 rfl), ?_⟩
  exact ⟨r22, r32, r42, rfl, h22, h32, h42, X46⟩
set_option maxHeartbeats 4000000 in
theorem c88 (p0 : SVector) (p1 : Nat) (p0r0 : Nat) (p0r1 : Nat) (p0r2 : Nat) (p1r : Nat) (r : SVector) (w : World) (hr : M.spec_l01Scale p0 p1 = r) (p0h0 : cn .f32 p0r0 = p0.x) (p0h1 : cn .f32 p0r1 = p0.y) (p0h2 : cn .f32 p0r2 = p0.z) (p1h : cn .f32 p1r = p1) :
    Calls Try.prog 88 #[.agg #[.float .f32 p0r0, .float .f32 p0r1, .float .f32 p0r2], .float .f32 p1r] w fun e w' => ∃ q0r0 : Nat, ∃ q0r1 : Nat, ∃ q0r2 : Nat, e = .returned (.agg #[.float .f32 q0r0, .float .f32 q0r1, .float .f32 q0r2]) ∧ cn .f32 q0r0 = r.x ∧ cn .f32 q0r1 = r.y ∧ cn .f32 q0r2 = r.z ∧ Ext w w' := by
  refine calls_of_W Try.func88 rfl (Nat.le_of_ble_eq_true rfl) ?_
  refine W_seq ?_
  refine W_region rfl ?_
  refine da_op rfl (d_box (cs := #[.float .f32 p0r0, .float .f32 p0r1, .float .f32 p0r2]) rfl fun w1 B1 E1 => ?_)
  have own2 : w.heap.size ≤ w.heap.size := Nat.le_trans (Ext.refl w).size (Nat.le_refl _)
  have X3 : Ext w w1 := (Ext.refl w).trans E1
  refine da_op rfl (d_alloc (cs := #[.float .f32 0, .float .f32 0, .float .f32 0]) zero29 rfl fun w4 B4 E4 => ?_)
  have own5 : w.heap.size ≤ w1.heap.size := Nat.le_trans X3.size (Nat.le_refl _)
  have sp6 : w.heap.size ≠ w1.heap.size := Nat.ne_of_lt (Nat.lt_of_lt_of_le (lt_heap B1) (Nat.le_refl _))
  have X7 : Ext w w4 := X3.trans E4
  refine da_nil ?_
  refine W_seq ?_
  refine W_region rfl ?_
  refine da_op rfl (d_fieldAddr rfl (fa29_0 _ _) ?_)
  have B8 : w4.heap[w.heap.size]? = some (.cells #[.float .f32 p0r0, .float .f32 p0r1, .float .f32 p0r2] 29 (0, 0)) := E4.heap B1
  refine da_op rfl (d_load (v := .float .f32 p0r0) rfl agg22 B8 rfl ?_)
  refine da_op rfl (d_mv (v := .float .f32 p1r) rfl ?_)
  refine da_op rfl (d_fop (k := .f32) fMul rfl rfl p0h0 p1h fun r9 w9 h9 _ E9 => ?_)
  have X10 : Ext w w9 := X7.trans E9
  refine da_op rfl (d_fieldAddr rfl (fa29_1 _ _) ?_)
  have B11 : w9.heap[w.heap.size]? = some (.cells #[.float .f32 p0r0, .float .f32 p0r1, .float .f32 p0r2] 29 (0, 0)) := E9.heap B8
  refine da_op rfl (d_load (v := .float .f32 p0r1) rfl agg22 B11 rfl ?_)
  refine da_op rfl (d_mv (v := .float .f32 p1r) rfl ?_)
  refine da_op rfl (d_fop (k := .f32) fMul rfl rfl p0h1 p1h fun r12 w12 h12 _ E12 => ?_)
  have X13 : Ext w w12 := X10.trans E12
  refine da_op rfl (d_fieldAddr rfl (fa29_2 _ _) ?_)
  have B14 : w12.heap[w.heap.size]? = some (.cells #[.float .f32 p0r0, .float .f32 p0r1, .float .f32 p0r2] 29 (0, 0)) := E12.heap B11
  refine da_op rfl (d_load (v := .float .f32 p0r2) rfl agg22 B14 rfl ?_)
  refine da_op rfl (d_mv (v := .float .f32 p1r) rfl ?_)
  refine da_op rfl (d_fop (k := .f32) fMul rfl rfl p0h2 p1h fun r15 w15 h15 _ E15 => ?_)
  have X16 : Ext w w15 := X13.trans E15
  refine da_op rfl (d_bd (vs := [(0, .float .f32 r9), (1, .float .f32 r12), (2, .float .f32 r15)]) (cs := #[.float .f32 r9, .float .f32 r12, .float .f32 r15]) (pc rfl (pc rfl (pc rfl rfl))) (by kernel_rfl) ?_)
  have B17 : w15.heap[w1.heap.size]? = some (.cells #[.float .f32 0, .float .f32 0, .float .f32 0] 29 (0, 0)) := E15.heap (E12.heap (E9.heap B4))
  refine da_op rfl (d_store (vs := #[.float .f32 r9, .float .f32 r12, .float .f32 r15]) rfl rfl B17 size29 (Nat.le_of_ble_eq_true rfl) rfl fun w18 S18 => ?_)
  have X19 : Ext w w18 := Ext.step X16 S18.frmb (fun k _ hk => hk ▸ own5)
  have B20 : w18.heap[w1.heap.size]? = some (.cells #[.float .f32 r9, .float .f32 r12, .float .f32 r15] 29 (0, 0)) := S18.here
  refine da_nil ?_
  refine W_ret ?_
  subst hr
  refine ⟨_, res1 (rv_cells (vs := #[.float .f32 r9, .float .f32 r12, .float .f32 r15]) rfl agg29 size29 B20 rfl), ?_⟩
  exact ⟨r9, r12, r15, rfl, h9, h12, h15, X19⟩
set_option maxHeartbeats 4000000 in
theorem c87 (p0 : SVector) (p1 : SVector) (p0r0 : Nat) (p0r1 : Nat) (p0r2 : Nat) (p1r0 : Nat) (p1r1 : Nat) (p1r2 : Nat) (r : SVector) (w : World) (hr : M.spec_l01Add p0 p1 = r) (p0h0 : cn .f32 p0r0 = p0.x) (p0h1 : cn .f32 p0r1 = p0.y) (p0h2 : cn .f32 p0r2 = p0.z) (p1h0 : cn .f32 p1r0 = p1.x) (p1h1 : cn .f32 p1r1 = p1.y) (p1h2 : cn .f32 p1r2 = p1.z) :
    Calls Try.prog 87 #[.agg #[.float .f32 p0r0, .float .f32 p0r1, .float .f32 p0r2], .agg #[.float .f32 p1r0, .float .f32 p1r1, .float .f32 p1r2]] w fun e w' => ∃ q0r0 : Nat, ∃ q0r1 : Nat, ∃ q0r2 : Nat, e = .returned (.agg #[.float .f32 q0r0, .float .f32 q0r1, .float .f32 q0r2]) ∧ cn .f32 q0r0 = r.x ∧ cn .f32 q0r1 = r.y ∧ cn .f32 q0r2 = r.z ∧ Ext w w' := by
  refine calls_of_W Try.func87 rfl (Nat.le_of_ble_eq_true rfl) ?_
  refine W_seq ?_
  refine W_region rfl ?_
  refine da_op rfl (d_box (cs := #[.float .f32 p0r0, .float .f32 p0r1, .float .f32 p0r2]) rfl fun w1 B1 E1 => ?_)
  have own2 : w.heap.size ≤ w.heap.size := Nat.le_trans (Ext.refl w).size (Nat.le_refl _)
  have X3 : Ext w w1 := (Ext.refl w).trans E1
  refine da_op rfl (d_box (cs := #[.float .f32 p1r0, .float .f32 p1r1, .float .f32 p1r2]) rfl fun w4 B4 E4 => ?_)
  have own5 : w.heap.size ≤ w1.heap.size := Nat.le_trans X3.size (Nat.le_refl _)
  have sp6 : w.heap.size ≠ w1.heap.size := Nat.ne_of_lt (Nat.lt_of_lt_of_le (lt_heap B1) (Nat.le_refl _))
  have X7 : Ext w w4 := X3.trans E4
  have B9 : w4.heap[w.heap.size]? = some (.cells #[.float .f32 p0r0, .float .f32 p0r1, .float .f32 p0r2] 29 (0, 0)) := E4.heap B1
  refine da_op rfl (d_alloc (cs := #[.float .f32 0, .float .f32 0, .float .f32 0]) zero29 rfl fun w8 B8 E8 => ?_)
  have own10 : w.heap.size ≤ w4.heap.size := Nat.le_trans X7.size (Nat.le_refl _)
  have sp11 : w.heap.size ≠ w4.heap.size := Nat.ne_of_lt (Nat.lt_of_lt_of_le (lt_heap B9) (Nat.le_refl _))
  have sp12 : w1.heap.size ≠ w4.heap.size := Nat.ne_of_lt (Nat.lt_of_lt_of_le (lt_heap B4) (Nat.le_refl _))
  have X13 : Ext w w8 := X7.trans E8
  refine da_nil ?_
  refine W_seq ?_
  refine W_region rfl ?_
  refine da_op rfl (d_fieldAddr rfl (fa29_0 _ _) ?_)
  have B14 : w8.heap[w.heap.size]? = some (.cells #[.float .f32 p0r0, .float .f32 p0r1, .float .f32 p0r2] 29 (0, 0)) := E8.heap B9
  refine da_op rfl (d_load (v := .float .f32 p0r0) rfl agg22 B14 rfl ?_)
  refine da_op rfl (d_fieldAddr rfl (fa29_0 _ _) ?_)
  have B15 : w8.heap[w1.heap.size]? = some (.cells #[.float .f32 p1r0, .float .f32 p1r1, .float .f32 p1r2] 29 (0, 0)) := E8.heap B4
  refine da_op rfl (d_load (v := .float .f32 p1r0) rfl agg22 B15 rfl ?_)
  refine da_op rfl (d_fop (k := .f32) fAdd rfl rfl p0h0 p1h0 fun r16 w16 h16 _ E16 => ?_)
  have X17 : Ext w w16 := X13.trans E16
  refine da_op rfl (d_fieldAddr rfl (fa29_1 _ _) ?_)
  have B18 : w16.heap[w.heap.size]? = some (.cells #[.float .f32 p0r0, .float .f32 p0r1, .float .f32 p0r2] 29 (0, 0)) := E16.heap B14
  refine da_op rfl (d_load (v := .float .f32 p0r1) rfl agg22 B18 rfl ?_)
  refine da_op rfl (d_fieldAddr rfl (fa29_1 _ _) ?_)
  have B19 : w16.heap[w1.heap.size]? = some (.cells #[.float .f32 p1r0, .float .f32 p1r1, .float .f32 p1r2] 29 (0, 0)) := E16.heap B15
  refine da_op rfl (d_load (v := .float .f32 p1r1) rfl agg22 B19 rfl ?_)
  refine da_op rfl (d_fop (k := .f32) fAdd rfl rfl p0h1 p1h1 fun r20 w20 h20 _ E20 => ?_)
  have X21 : Ext w w20 := X17.trans E20
  refine da_op rfl (d_fieldAddr rfl (fa29_2 _ _) ?_)
  have B22 : w20.heap[w.heap.size]? = some (.cells #[.float .f32 p0r0, .float .f32 p0r1, .float .f32 p0r2] 29 (0, 0)) := E20.heap B18
  refine da_op rfl (d_load (v := .float .f32 p0r2) rfl agg22 B22 rfl ?_)
  refine da_op rfl (d_fieldAddr rfl (fa29_2 _ _) ?_)
  have B23 : w20.heap[w1.heap.size]? = some (.cells #[.float .f32 p1r0, .float .f32 p1r1, .float .f32 p1r2] 29 (0, 0)) := E20.heap B19
  refine da_op rfl (d_load (v := .float .f32 p1r2) rfl agg22 B23 rfl ?_)
  refine da_op rfl (d_fop (k := .f32) fAdd rfl rfl p0h2 p1h2 fun r24 w24 h24 _ E24 => ?_)
  have X25 : Ext w w24 := X21.trans E24
  refine da_op rfl (d_bd (vs := [(0, .float .f32 r16), (1, .float .f32 r20), (2, .float .f32 r24)]) (cs := #[.float .f32 r16, .float .f32 r20, .float .f32 r24]) (pc rfl (pc rfl (pc rfl rfl))) (by kernel_rfl) ?_)
  have B26 : w24.heap[w4.heap.size]? = some (.cells #[.float .f32 0, .float .f32 0, .float .f32 0] 29 (0, 0)) := E24.heap (E20.heap (E16.heap B8))
  refine da_op rfl (d_store (vs := #[.float .f32 r16, .float .f32 r20, .float .f32 r24]) rfl rfl B26 size29 (Nat.le_of_ble_eq_true rfl) rfl fun w27 S27 => ?_)
  have X28 : Ext w w27 := Ext.step X25 S27.frmb (fun k _ hk => hk ▸ own10)
  have B29 : w27.heap[w4.heap.size]? = some (.cells #[.float .f32 r16, .float .f32 r20, .float .f32 r24] 29 (0, 0)) := S27.here
  refine da_nil ?_
  refine W_ret ?_
  subst hr
  refine ⟨_, res1 (rv_cells (vs := #[.float .f32 r16, .float .f32 r20, .float .f32 r24]) rfl agg29 size29 B29 rfl), ?_⟩
  exact ⟨r16, r20, r24, rfl, h16, h20, h24, X28⟩
set_option maxHeartbeats 4000000 in
theorem c85 (p0 : SSpin) (p1 : SVector) (p0r0 : Nat) (p0r1 : Nat) (p0r2 : Nat) (p0r3 : Nat) (p1r0 : Nat) (p1r1 : Nat) (p1r2 : Nat) (r : SVector) (w : World) (hr : M.spec_l04Turn p0 p1 = r) (p0h0 : cn .f32 p0r0 = p0.w) (p0h1 : cn .f32 p0r1 = p0.x) (p0h2 : cn .f32 p0r2 = p0.y) (p0h3 : cn .f32 p0r3 = p0.z) (p1h0 : cn .f32 p1r0 = p1.x) (p1h1 : cn .f32 p1r1 = p1.y) (p1h2 : cn .f32 p1r2 = p1.z) :
    Calls Try.prog 85 #[.agg #[.float .f32 p0r0, .float .f32 p0r1, .float .f32 p0r2, .float .f32 p0r3], .agg #[.float .f32 p1r0, .float .f32 p1r1, .float .f32 p1r2]] w fun e w' => ∃ q0r0 : Nat, ∃ q0r1 : Nat, ∃ q0r2 : Nat, e = .returned (.agg #[.float .f32 q0r0, .float .f32 q0r1, .float .f32 q0r2]) ∧ cn .f32 q0r0 = r.x ∧ cn .f32 q0r1 = r.y ∧ cn .f32 q0r2 = r.z ∧ Ext w w' := by
  refine calls_of_W Try.func85 rfl (Nat.le_of_ble_eq_true rfl) ?_
  refine W_seq ?_
  refine W_region rfl ?_
  refine da_op rfl (d_box (cs := #[.float .f32 p0r0, .float .f32 p0r1, .float .f32 p0r2, .float .f32 p0r3]) rfl fun w1 B1 E1 => ?_)
  have own2 : w.heap.size ≤ w.heap.size := Nat.le_trans (Ext.refl w).size (Nat.le_refl _)
  have X3 : Ext w w1 := (Ext.refl w).trans E1
  refine da_op rfl (d_box (cs := #[.float .f32 p1r0, .float .f32 p1r1, .float .f32 p1r2]) rfl fun w4 B4 E4 => ?_)
  have own5 : w.heap.size ≤ w1.heap.size := Nat.le_trans X3.size (Nat.le_refl _)
  have sp6 : w.heap.size ≠ w1.heap.size := Nat.ne_of_lt (Nat.lt_of_lt_of_le (lt_heap B1) (Nat.le_refl _))
  have X7 : Ext w w4 := X3.trans E4
  have B9 : w4.heap[w.heap.size]? = some (.cells #[.float .f32 p0r0, .float .f32 p0r1, .float .f32 p0r2, .float .f32 p0r3] 30 (0, 0)) := E4.heap B1
  refine da_op rfl (d_alloc (cs := #[.float .f32 0, .float .f32 0, .float .f32 0]) zero29 rfl fun w8 B8 E8 => ?_)
  have own10 : w.heap.size ≤ w4.heap.size := Nat.le_trans X7.size (Nat.le_refl _)
  have sp11 : w.heap.size ≠ w4.heap.size := Nat.ne_of_lt (Nat.lt_of_lt_of_le (lt_heap B9) (Nat.le_refl _))
  have sp12 : w1.heap.size ≠ w4.heap.size := Nat.ne_of_lt (Nat.lt_of_lt_of_le (lt_heap B4) (Nat.le_refl _))
  have X13 : Ext w w8 := X7.trans E8
  refine da_nil ?_
  refine W_seq ?_
  refine W_region rfl ?_
  have B14 : w8.heap[w.heap.size]? = some (.cells #[.float .f32 p0r0, .float .f32 p0r1, .float .f32 p0r2, .float .f32 p0r3] 30 (0, 0)) := E8.heap B9
  refine da_op rfl (d_loads (vs := #[.float .f32 p0r0, .float .f32 p0r1, .float .f32 p0r2, .float .f32 p0r3]) rfl agg30 size30 B14 rfl ?_)
  obtain ⟨m15, hm15, hr⟩ := letv_out hr
  have B16 : w8.heap[w1.heap.size]? = some (.cells #[.float .f32 p1r0, .float .f32 p1r1, .float .f32 p1r2] 29 (0, 0)) := E8.heap B4
  refine da_op rfl (d_cl (vs := [.agg #[.float .f32 p0r0, .float .f32 p0r1, .float .f32 p0r2, .float .f32 p0r3]]) en110 (ac rfl rfl) rfl ?_)
  refine (c110 (⟨p0.w, p0.x, p0.y, p0.z⟩ : SSpin) p0r0 p0r1 p0r2 p0r3 m15 w8 hm15 p0h0 p0h1 p0h2 p0h3).mono ?_
  rintro _ w17 ⟨q17_0r0, q17_0r1, q17_0r2, rfl, q17_0h0, q17_0h1, q17_0h2, E17⟩
  refine ⟨_, rfl, ?_⟩
  have X18 : Ext w w17 := X13.trans E17
  have B20 : w17.heap[w.heap.size]? = some (.cells #[.float .f32 p0r0, .float .f32 p0r1, .float .f32 p0r2, .float .f32 p0r3] 30 (0, 0)) := E17.heap B14
  have B21 : w17.heap[w1.heap.size]? = some (.cells #[.float .f32 p1r0, .float .f32 p1r1, .float .f32 p1r2] 29 (0, 0)) := E17.heap B16
  have B22 : w17.heap[w4.heap.size]? = some (.cells #[.float .f32 0, .float .f32 0, .float .f32 0] 29 (0, 0)) := E17.heap B8
  refine da_op rfl (d_alloc (cs := #[.float .f32 0, .float .f32 0, .float .f32 0]) zero29 rfl fun w19 B19 E19 => ?_)
  have own23 : w.heap.size ≤ w17.heap.size := Nat.le_trans X18.size (Nat.le_refl _)
  have sp24 : w.heap.size ≠ w17.heap.size := Nat.ne_of_lt (Nat.lt_of_lt_of_le (lt_heap B20) (Nat.le_refl _))
  have sp25 : w1.heap.size ≠ w17.heap.size := Nat.ne_of_lt (Nat.lt_of_lt_of_le (lt_heap B21) (Nat.le_refl _))
  have sp26 : w4.heap.size ≠ w17.heap.size := Nat.ne_of_lt (Nat.lt_of_lt_of_le (lt_heap B22) (Nat.le_refl _))
  have X27 : Ext w w19 := X18.trans E19
  refine da_op rfl (d_store (vs := #[.float .f32 q17_0r0, .float .f32 q17_0r1, .float .f32 q17_0r2]) rfl rfl B19 size29 (Nat.le_of_ble_eq_true rfl) rfl fun w28 S28 => ?_)
  have X29 : Ext w w28 := Ext.step X27 S28.frmb (fun k _ hk => hk ▸ own23)
  have B30 : w28.heap[w17.heap.size]? = some (.cells #[.float .f32 q17_0r0, .float .f32 q17_0r1, .float .f32 q17_0r2] 29 (0, 0)) := S28.here
  refine da_nil ?_
  refine W_seq ?_
  refine W_region rfl ?_
  refine da_op rfl (d_loads (vs := #[.float .f32 q17_0r0, .float .f32 q17_0r1, .float .f32 q17_0r2]) rfl agg29 size29 B30 rfl ?_)
  have B31 : w28.heap[w1.heap.size]? = some (.cells #[.float .f32 p1r0, .float .f32 p1r1, .float .f32 p1r2] 29 (0, 0)) := S28.frmb.heap sp25 (E19.heap B21)
  refine da_op rfl (d_loads (vs := #[.float .f32 p1r0, .float .f32 p1r1, .float .f32 p1r2]) rfl agg29 size29 B31 rfl ?_)
  obtain ⟨m32, hm32, hr⟩ := letv_out hr
  have B33 : w28.heap[w.heap.size]? = some (.cells #[.float .f32 p0r0, .float .f32 p0r1, .float .f32 p0r2, .float .f32 p0r3] 30 (0, 0)) := S28.frmb.heap sp24 (E19.heap B20)
  have B34 : w28.heap[w4.heap.size]? = some (.cells #[.float .f32 0, .float .f32 0, .float .f32 0] 29 (0, 0)) := S28.frmb.heap sp26 (E19.heap B22)
  refine da_op rfl (d_cl (vs := [.agg #[.float .f32 q17_0r0, .float .f32 q17_0r1, .float .f32 q17_0r2], .agg #[.float .f32 p1r0, .float .f32 p1r1, .float .f32 p1r2]]) en84 (ac rfl (ac rfl rfl)) rfl ?_)
  refine (c84 (⟨m15.x, m15.y, m15.z⟩ : SVector) (⟨p1.x, p1.y, p1.z⟩ : SVector) q17_0r0 q17_0r1 q17_0r2 p1r0 p1r1 p1r2 m32 w28 hm32 q17_0h0 q17_0h1 q17_0h2 p1h0 p1h1 p1h2).mono ?_
  rintro _ w35 ⟨q35_0r0, q35_0r1, q35_0r2, rfl, q35_0h0, q35_0h1, q35_0h2, E35⟩
  refine ⟨_, rfl, ?_⟩
  have X36 : Ext w w35 := X29.trans E35
  obtain ⟨m37, hm37, hr⟩ := letv_out hr
  have B38 : w35.heap[w.heap.size]? = some (.cells #[.float .f32 p0r0, .float .f32 p0r1, .float .f32 p0r2, .float .f32 p0r3] 30 (0, 0)) := E35.heap B33
  have B39 : w35.heap[w1.heap.size]? = some (.cells #[.float .f32 p1r0, .float .f32 p1r1, .float .f32 p1r2] 29 (0, 0)) := E35.heap B31
  have B40 : w35.heap[w4.heap.size]? = some (.cells #[.float .f32 0, .float .f32 0, .float .f32 0] 29 (0, 0)) := E35.heap B34
  have B41 : w35.heap[w17.heap.size]? = some (.cells #[.float .f32 q17_0r0, .float .f32 q17_0r1, .float .f32 q17_0r2] 29 (0, 0)) := E35.heap B30
  refine da_op rfl (d_cl (vs := [.agg #[.float .f32 q35_0r0, .float .f32 q35_0r1, .float .f32 q35_0r2], .float .f32 1073741824]) en88 (ac rfl (ac rfl rfl)) rfl ?_)
  refine (c88 m32 1073741824 q35_0r0 q35_0r1 q35_0r2 1073741824 m37 w35 hm37 q35_0h0 q35_0h1 q35_0h2 cn_f32_1073741824).mono ?_
  rintro _ w42 ⟨q42_0r0, q42_0r1, q42_0r2, rfl, q42_0h0, q42_0h1, q42_0h2, E42⟩
  refine ⟨_, rfl, ?_⟩
  have X43 : Ext w w42 := X36.trans E42
  have B45 : w42.heap[w.heap.size]? = some (.cells #[.float .f32 p0r0, .float .f32 p0r1, .float .f32 p0r2, .float .f32 p0r3] 30 (0, 0)) := E42.heap B38
  have B46 : w42.heap[w1.heap.size]? = some (.cells #[.float .f32 p1r0, .float .f32 p1r1, .float .f32 p1r2] 29 (0, 0)) := E42.heap B39
  have B47 : w42.heap[w4.heap.size]? = some (.cells #[.float .f32 0, .float .f32 0, .float .f32 0] 29 (0, 0)) := E42.heap B40
  have B48 : w42.heap[w17.heap.size]? = some (.cells #[.float .f32 q17_0r0, .float .f32 q17_0r1, .float .f32 q17_0r2] 29 (0, 0)) := E42.heap B41
  refine da_op rfl (d_alloc (cs := #[.float .f32 0, .float .f32 0, .float .f32 0]) zero29 rfl fun w44 B44 E44 => ?_)
  have own49 : w.heap.size ≤ w42.heap.size := Nat.le_trans X43.size (Nat.le_refl _)
  have sp50 : w.heap.size ≠ w42.heap.size := Nat.ne_of_lt (Nat.lt_of_lt_of_le (lt_heap B45) (Nat.le_refl _))
  have sp51 : w1.heap.size ≠ w42.heap.size := Nat.ne_of_lt (Nat.lt_of_lt_of_le (lt_heap B46) (Nat.le_refl _))
  have sp52 : w4.heap.size ≠ w42.heap.size := Nat.ne_of_lt (Nat.lt_of_lt_of_le (lt_heap B47) (Nat.le_refl _))
  have sp53 : w17.heap.size ≠ w42.heap.size := Nat.ne_of_lt (Nat.lt_of_lt_of_le (lt_heap B48) (Nat.le_refl _))
  have X54 : Ext w w44 := X43.trans E44
  refine da_op rfl (d_store (vs := #[.float .f32 q42_0r0, .float .f32 q42_0r1, .float .f32 q42_0r2]) rfl rfl B44 size29 (Nat.le_of_ble_eq_true rfl) rfl fun w55 S55 => ?_)
  have X56 : Ext w w55 := Ext.step X54 S55.frmb (fun k _ hk => hk ▸ own49)
  have B57 : w55.heap[w42.heap.size]? = some (.cells #[.float .f32 q42_0r0, .float .f32 q42_0r1, .float .f32 q42_0r2] 29 (0, 0)) := S55.here
  refine da_nil ?_
  refine W_seq ?_
  have B59 : w55.heap[w.heap.size]? = some (.cells #[.float .f32 p0r0, .float .f32 p0r1, .float .f32 p0r2, .float .f32 p0r3] 30 (0, 0)) := S55.frmb.heap sp50 (E44.heap B45)
  have B60 : w55.heap[w1.heap.size]? = some (.cells #[.float .f32 p1r0, .float .f32 p1r1, .float .f32 p1r2] 29 (0, 0)) := S55.frmb.heap sp51 (E44.heap B46)
  have B61 : w55.heap[w4.heap.size]? = some (.cells #[.float .f32 0, .float .f32 0, .float .f32 0] 29 (0, 0)) := S55.frmb.heap sp52 (E44.heap B47)
  have B62 : w55.heap[w17.heap.size]? = some (.cells #[.float .f32 q17_0r0, .float .f32 q17_0r1, .float .f32 q17_0r2] 29 (0, 0)) := S55.frmb.heap sp53 (E44.heap B48)
  obtain ⟨m63, hm63, hr⟩ := letv_out hr
  obtain ⟨m64, hm64, hr⟩ := letv_out hr
  obtain ⟨m65, hm65, hr⟩ := letv_out hr
  obtain ⟨m66, hm66, hr⟩ := letv_out hr
  refine W_any [fun k _ => k = w4.heap.size] [{ V := fun _ v _ => v = (.agg #[.float .f32 p1r0, .float .f32 p1r1, .float .f32 p1r2]) }, { V := fun _ v _ => v = (.agg #[.float .f32 q42_0r0, .float .f32 q42_0r1, .float .f32 q42_0r2]) }, { V := fun _ v _ => v = (.pointer (some ⟨w.heap.size, 0, none⟩)) }, { V := fun _ v _ => v = (.float .f32 p0r0) }, { V := fun _ v _ => ∃ d58_4_0r0 : Nat, ∃ d58_4_0r1 : Nat, ∃ d58_4_0r2 : Nat, v = (.agg #[.float .f32 d58_4_0r0, .float .f32 d58_4_0r1, .float .f32 d58_4_0r2]) ∧ cn .f32 d58_4_0r0 = m63.x ∧ cn .f32 d58_4_0r1 = m63.y ∧ cn .f32 d58_4_0r2 = m63.z }, { V := fun _ v _ => ∃ d58_5_0r0 : Nat, ∃ d58_5_0r1 : Nat, ∃ d58_5_0r2 : Nat, v = (.agg #[.float .f32 d58_5_0r0, .float .f32 d58_5_0r1, .float .f32 d58_5_0r2]) ∧ cn .f32 d58_5_0r0 = m64.x ∧ cn .f32 d58_5_0r1 = m64.y ∧ cn .f32 d58_5_0r2 = m64.z }, { V := fun _ v _ => v = (.agg #[.float .f32 q17_0r0, .float .f32 q17_0r1, .float .f32 q17_0r2]) }, { V := fun _ v _ => v = (.agg #[.float .f32 q42_0r0, .float .f32 q42_0r1, .float .f32 q42_0r2]) }, { V := fun _ v _ => ∃ d58_8_0r0 : Nat, ∃ d58_8_0r1 : Nat, ∃ d58_8_0r2 : Nat, v = (.agg #[.float .f32 d58_8_0r0, .float .f32 d58_8_0r1, .float .f32 d58_8_0r2]) ∧ cn .f32 d58_8_0r0 = m65.x ∧ cn .f32 d58_8_0r1 = m65.y ∧ cn .f32 d58_8_0r2 = m65.z }, { V := fun _ v _ => ∃ d58_9_0r0 : Nat, ∃ d58_9_0r1 : Nat, ∃ d58_9_0r2 : Nat, v = (.agg #[.float .f32 d58_9_0r0, .float .f32 d58_9_0r1, .float .f32 d58_9_0r2]) ∧ cn .f32 d58_9_0r0 = m66.x ∧ cn .f32 d58_9_0r1 = m66.y ∧ cn .f32 d58_9_0r2 = m66.z }, ⟨fun _ _ w' => ∃ d58_9_0r0 : Nat, ∃ d58_9_0r1 : Nat, ∃ d58_9_0r2 : Nat, w'.heap[w4.heap.size]? = some (.cells #[.float .f32 d58_9_0r0, .float .f32 d58_9_0r1, .float .f32 d58_9_0r2] 29 (0, 0)) ∧ cn .f32 d58_9_0r0 = m66.x ∧ cn .f32 d58_9_0r1 = m66.y ∧ cn .f32 d58_9_0r2 = m66.z, some 0, fun w' => w'.heap[w4.heap.size]? = some (.cells #[.float .f32 0, .float .f32 0, .float .f32 0] 29 (0, 0))⟩] mixed (by kernel_rfl) ⟨trivial, trivial, trivial, trivial, trivial, trivial, trivial, trivial, trivial, trivial, B61, trivial⟩ ⟨?_, ?_, ?_, ?_, ?_, ?_, ?_, ?_, ?_, ?_, ?_, trivial⟩ ?_
  · skip
    refine ⟨fun _ _ _ _ _ _ h _ => h, fun _ _ h _ => h, fun σ' w' hA hE hD hP => ?_⟩
    have t3 : σ' 3 = .pointer (some ⟨w1.heap.size, 0, none⟩) := (hA 3 rfl).trans rfl
    have B0_67 : w'.heap[w1.heap.size]? = some (.cells #[.float .f32 p1r0, .float .f32 p1r1, .float .f32 p1r2] 29 (0, 0)) := hE.heap (not_oth1 sp12) B60
    refine dg_op rfl (d_loads (vs := #[.float .f32 p1r0, .float .f32 p1r1, .float .f32 p1r2]) t3 agg29 size29 B0_67 rfl ?_)
    exact ⟨rfl, own_none (Ext.refl w')⟩
  · skip
    refine ⟨fun _ _ _ _ _ _ h _ => h, fun _ _ h _ => h, fun σ' w' hA hE hD hP => ?_⟩
    have t6 : σ' 6 = .pointer (some ⟨w42.heap.size, 0, none⟩) := (hA 6 rfl).trans rfl
    have B0_68 : w'.heap[w42.heap.size]? = some (.cells #[.float .f32 q42_0r0, .float .f32 q42_0r1, .float .f32 q42_0r2] 29 (0, 0)) := hE.heap (not_oth1 (Ne.symm sp52)) B57
    refine dg_op rfl (d_loads (vs := #[.float .f32 q42_0r0, .float .f32 q42_0r1, .float .f32 q42_0r2]) t6 agg29 size29 B0_68 rfl ?_)
    exact ⟨rfl, own_none (Ext.refl w')⟩
  · skip
    refine ⟨fun _ _ _ _ _ _ h _ => h, fun _ _ h _ => h, fun σ' w' hA hE hD hP => ?_⟩
    have t2 : σ' 2 = .pointer (some ⟨w.heap.size, 0, none⟩) := (hA 2 rfl).trans rfl
    have B0_69 : w'.heap[w.heap.size]? = some (.cells #[.float .f32 p0r0, .float .f32 p0r1, .float .f32 p0r2, .float .f32 p0r3] 30 (0, 0)) := hE.heap (not_oth1 sp11) B59
    refine dg_op rfl (d_fieldAddr t2 (fa30_0 _ _) ?_)
    exact ⟨rfl, own_none (Ext.refl w')⟩
  · skip
    refine ⟨fun _ _ _ _ _ _ h _ => h, fun _ _ h _ => h, fun σ' w' hA hE hD hP => ?_⟩
    have t15 : σ' 15 = (.pointer (some ⟨w.heap.size, 0, none⟩)) := hD 2 rfl
    have B0_70 : w'.heap[w.heap.size]? = some (.cells #[.float .f32 p0r0, .float .f32 p0r1, .float .f32 p0r2, .float .f32 p0r3] 30 (0, 0)) := hE.heap (not_oth1 sp11) B59
    refine dg_op rfl (d_load (v := .float .f32 p0r0) t15 agg22 B0_70 rfl ?_)
    exact ⟨rfl, own_none (Ext.refl w')⟩
  · skip
    refine ⟨fun _ _ _ _ _ _ h _ => h, fun _ _ h _ => h, fun σ' w' hA hE hD hP => ?_⟩
    have t14 : σ' 14 = (.agg #[.float .f32 q42_0r0, .float .f32 q42_0r1, .float .f32 q42_0r2]) := hD 1 rfl
    have t16 : σ' 16 = (.float .f32 p0r0) := hD 3 rfl
    refine dg_op rfl (d_cl (vs := [.agg #[.float .f32 q42_0r0, .float .f32 q42_0r1, .float .f32 q42_0r2], .float .f32 p0r0]) en88 (ac t14 (ac t16 rfl)) rfl ?_)
    refine (c88 (⟨m37.x, m37.y, m37.z⟩ : SVector) p0.w q42_0r0 q42_0r1 q42_0r2 p0r0 m63 w' hm63 q42_0h0 q42_0h1 q42_0h2 p0h0).mono ?_
    rintro _ w71 ⟨q71_0r0, q71_0r1, q71_0r2, rfl, q71_0h0, q71_0h1, q71_0h2, E71⟩
    refine ⟨_, rfl, ?_⟩
    have X72 : Ext w' w71 := (Ext.refl w').trans E71
    exact ⟨⟨q71_0r0, q71_0r1, q71_0r2, rfl, q71_0h0, q71_0h1, q71_0h2⟩, own_none X72⟩
  · skip
    refine ⟨fun _ _ _ _ _ _ h _ => h, fun _ _ h _ => h, fun σ' w' hA hE hD hP => ?_⟩
    have t13 : σ' 13 = (.agg #[.float .f32 p1r0, .float .f32 p1r1, .float .f32 p1r2]) := hD 0 rfl
    obtain ⟨d58_4_0r0, d58_4_0r1, d58_4_0r2, t17, d58_4_0h0, d58_4_0h1, d58_4_0h2⟩ : ∃ d58_4_0r0 : Nat, ∃ d58_4_0r1 : Nat, ∃ d58_4_0r2 : Nat, σ' 17 = (.agg #[.float .f32 d58_4_0r0, .float .f32 d58_4_0r1, .float .f32 d58_4_0r2]) ∧ cn .f32 d58_4_0r0 = m63.x ∧ cn .f32 d58_4_0r1 = m63.y ∧ cn .f32 d58_4_0r2 = m63.z := hD 4 rfl
    refine dg_op rfl (d_cl (vs := [.agg #[.float .f32 p1r0, .float .f32 p1r1, .float .f32 p1r2], .agg #[.float .f32 d58_4_0r0, .float .f32 d58_4_0r1, .float .f32 d58_4_0r2]]) en87 (ac t13 (ac t17 rfl)) rfl ?_)
    refine (c87 (⟨p1.x, p1.y, p1.z⟩ : SVector) m63 p1r0 p1r1 p1r2 d58_4_0r0 d58_4_0r1 d58_4_0r2 m64 w' hm64 p1h0 p1h1 p1h2 d58_4_0h0 d58_4_0h1 d58_4_0h2).mono ?_
    rintro _ w73 ⟨q73_0r0, q73_0r1, q73_0r2, rfl, q73_0h0, q73_0h1, q73_0h2, E73⟩
    refine ⟨_, rfl, ?_⟩
    have X74 : Ext w' w73 := (Ext.refl w').trans E73
    exact ⟨⟨q73_0r0, q73_0r1, q73_0r2, rfl, q73_0h0, q73_0h1, q73_0h2⟩, own_none X74⟩
  · skip
    refine ⟨fun _ _ _ _ _ _ h _ => h, fun _ _ h _ => h, fun σ' w' hA hE hD hP => ?_⟩
    have t5 : σ' 5 = .pointer (some ⟨w17.heap.size, 0, none⟩) := (hA 5 rfl).trans rfl
    have B0_75 : w'.heap[w17.heap.size]? = some (.cells #[.float .f32 q17_0r0, .float .f32 q17_0r1, .float .f32 q17_0r2] 29 (0, 0)) := hE.heap (not_oth1 (Ne.symm sp26)) B62
    refine dg_op rfl (d_loads (vs := #[.float .f32 q17_0r0, .float .f32 q17_0r1, .float .f32 q17_0r2]) t5 agg29 size29 B0_75 rfl ?_)
    exact ⟨rfl, own_none (Ext.refl w')⟩
  · skip
    refine ⟨fun _ _ _ _ _ _ h _ => h, fun _ _ h _ => h, fun σ' w' hA hE hD hP => ?_⟩
    have t6 : σ' 6 = .pointer (some ⟨w42.heap.size, 0, none⟩) := (hA 6 rfl).trans rfl
    have B0_76 : w'.heap[w42.heap.size]? = some (.cells #[.float .f32 q42_0r0, .float .f32 q42_0r1, .float .f32 q42_0r2] 29 (0, 0)) := hE.heap (not_oth1 (Ne.symm sp52)) B57
    refine dg_op rfl (d_loads (vs := #[.float .f32 q42_0r0, .float .f32 q42_0r1, .float .f32 q42_0r2]) t6 agg29 size29 B0_76 rfl ?_)
    exact ⟨rfl, own_none (Ext.refl w')⟩
  · skip
    refine ⟨fun _ _ _ _ _ _ h _ => h, fun _ _ h _ => h, fun σ' w' hA hE hD hP => ?_⟩
    have t19 : σ' 19 = (.agg #[.float .f32 q17_0r0, .float .f32 q17_0r1, .float .f32 q17_0r2]) := hD 6 rfl
    have t20 : σ' 20 = (.agg #[.float .f32 q42_0r0, .float .f32 q42_0r1, .float .f32 q42_0r2]) := hD 7 rfl
    refine dg_op rfl (d_cl (vs := [.agg #[.float .f32 q17_0r0, .float .f32 q17_0r1, .float .f32 q17_0r2], .agg #[.float .f32 q42_0r0, .float .f32 q42_0r1, .float .f32 q42_0r2]]) en84 (ac t19 (ac t20 rfl)) rfl ?_)
    refine (c84 (⟨m15.x, m15.y, m15.z⟩ : SVector) (⟨m37.x, m37.y, m37.z⟩ : SVector) q17_0r0 q17_0r1 q17_0r2 q42_0r0 q42_0r1 q42_0r2 m65 w' hm65 q17_0h0 q17_0h1 q17_0h2 q42_0h0 q42_0h1 q42_0h2).mono ?_
    rintro _ w77 ⟨q77_0r0, q77_0r1, q77_0r2, rfl, q77_0h0, q77_0h1, q77_0h2, E77⟩
    refine ⟨_, rfl, ?_⟩
    have X78 : Ext w' w77 := (Ext.refl w').trans E77
    exact ⟨⟨q77_0r0, q77_0r1, q77_0r2, rfl, q77_0h0, q77_0h1, q77_0h2⟩, own_none X78⟩
  · skip
    refine ⟨fun _ _ _ _ _ _ h _ => h, fun _ _ h _ => h, fun σ' w' hA hE hD hP => ?_⟩
    obtain ⟨d58_5_0r0, d58_5_0r1, d58_5_0r2, t18, d58_5_0h0, d58_5_0h1, d58_5_0h2⟩ : ∃ d58_5_0r0 : Nat, ∃ d58_5_0r1 : Nat, ∃ d58_5_0r2 : Nat, σ' 18 = (.agg #[.float .f32 d58_5_0r0, .float .f32 d58_5_0r1, .float .f32 d58_5_0r2]) ∧ cn .f32 d58_5_0r0 = m64.x ∧ cn .f32 d58_5_0r1 = m64.y ∧ cn .f32 d58_5_0r2 = m64.z := hD 5 rfl
    obtain ⟨d58_8_0r0, d58_8_0r1, d58_8_0r2, t21, d58_8_0h0, d58_8_0h1, d58_8_0h2⟩ : ∃ d58_8_0r0 : Nat, ∃ d58_8_0r1 : Nat, ∃ d58_8_0r2 : Nat, σ' 21 = (.agg #[.float .f32 d58_8_0r0, .float .f32 d58_8_0r1, .float .f32 d58_8_0r2]) ∧ cn .f32 d58_8_0r0 = m65.x ∧ cn .f32 d58_8_0r1 = m65.y ∧ cn .f32 d58_8_0r2 = m65.z := hD 8 rfl
    refine dg_op rfl (d_cl (vs := [.agg #[.float .f32 d58_5_0r0, .float .f32 d58_5_0r1, .float .f32 d58_5_0r2], .agg #[.float .f32 d58_8_0r0, .float .f32 d58_8_0r1, .float .f32 d58_8_0r2]]) en87 (ac t18 (ac t21 rfl)) rfl ?_)
    refine (c87 m64 m65 d58_5_0r0 d58_5_0r1 d58_5_0r2 d58_8_0r0 d58_8_0r1 d58_8_0r2 m66 w' hm66 d58_5_0h0 d58_5_0h1 d58_5_0h2 d58_8_0h0 d58_8_0h1 d58_8_0h2).mono ?_
    rintro _ w79 ⟨q79_0r0, q79_0r1, q79_0r2, rfl, q79_0h0, q79_0h1, q79_0h2, E79⟩
    refine ⟨_, rfl, ?_⟩
    have X80 : Ext w' w79 := (Ext.refl w').trans E79
    exact ⟨⟨q79_0r0, q79_0r1, q79_0r2, rfl, q79_0h0, q79_0h1, q79_0h2⟩, own_none X80⟩
  · skip
    refine ⟨fun _ _ _ w' w'' _ ⟨d58_9_0r0, d58_9_0r1, d58_9_0r2, hB, d58_9_0h0, d58_9_0h1, d58_9_0h2⟩ hF => ⟨d58_9_0r0, d58_9_0r1, d58_9_0r2, hF.heap not_oth1s hB, d58_9_0h0, d58_9_0h1, d58_9_0h2⟩, fun _ _ h hF => hF.heap not_oth1s h, fun σ' w' hA hE hD hP => ?_⟩
    have t4 : σ' 4 = .pointer (some ⟨w4.heap.size, 0, none⟩) := (hA 4 rfl).trans rfl
    obtain ⟨d58_9_0r0, d58_9_0r1, d58_9_0r2, t22, d58_9_0h0, d58_9_0h1, d58_9_0h2⟩ : ∃ d58_9_0r0 : Nat, ∃ d58_9_0r1 : Nat, ∃ d58_9_0r2 : Nat, σ' 22 = (.agg #[.float .f32 d58_9_0r0, .float .f32 d58_9_0r1, .float .f32 d58_9_0r2]) ∧ cn .f32 d58_9_0r0 = m66.x ∧ cn .f32 d58_9_0r1 = m66.y ∧ cn .f32 d58_9_0r2 = m66.z := hD 9 rfl
    have B0_81 : w'.heap[w4.heap.size]? = some (.cells #[.float .f32 0, .float .f32 0, .float .f32 0] 29 (0, 0)) := (hP 10 _ _ rfl rfl (.inl rfl)).1
    refine dg_op rfl (d_store (vs := #[.float .f32 d58_9_0r0, .float .f32 d58_9_0r1, .float .f32 d58_9_0r2]) t4 (congrArg Value.cells t22) B0_81 size29 (Nat.le_of_ble_eq_true rfl) rfl fun w82 S82 => ?_)
    have B83 : w82.heap[w4.heap.size]? = some (.cells #[.float .f32 d58_9_0r0, .float .f32 d58_9_0r1, .float .f32 d58_9_0r2] 29 (0, 0)) := S82.here
    exact ⟨⟨d58_9_0r0, d58_9_0r1, d58_9_0r2, B83, d58_9_0h0, d58_9_0h1, d58_9_0h2⟩, own_some (j := 0) rfl S82.frmb⟩
  · skip
    intro σ58 w58 A58 E58 V58
    obtain ⟨z58_m0_9_0r0, z58_m0_9_0r1, z58_m0_9_0r2, Bm0_58, z58_m0_9_0h0, z58_m0_9_0h1, z58_m0_9_0h2⟩ : ∃ z58_m0_9_0r0 : Nat, ∃ z58_m0_9_0r1 : Nat, ∃ z58_m0_9_0r2 : Nat, w58.heap[w4.heap.size]? = some (.cells #[.float .f32 z58_m0_9_0r0, .float .f32 z58_m0_9_0r1, .float .f32 z58_m0_9_0r2] 29 (0, 0)) ∧ cn .f32 z58_m0_9_0r0 = m66.x ∧ cn .f32 z58_m0_9_0r1 = m66.y ∧ cn .f32 z58_m0_9_0r2 = m66.z := V58 10 (Nat.le_of_ble_eq_true rfl)
    have s4_58 : σ58 4 = .pointer (some ⟨w4.heap.size, 0, none⟩) := (A58 4 rfl).trans rfl
    have X84 : Ext w w58 := Ext.step X56 E58 (oth_own1 (fun k _ hk => hk ▸ own10))
    refine W_ret ?_
    subst hr
    refine ⟨_, res1 (rv_cells (vs := #[.float .f32 z58_m0_9_0r0, .float .f32 z58_m0_9_0r1, .float .f32 z58_m0_9_0r2]) s4_58 agg29 size29 Bm0_58 rfl), ?_⟩
    exact ⟨z58_m0_9_0r0, z58_m0_9_0r1, z58_m0_9_0r2, rfl, z58_m0_9_0h0, z58_m0_9_0h1, z58_m0_9_0h2, X84⟩
set_option maxHeartbeats 4000000 in
theorem c49 (p0 : STop) (p1 : Nat) (p2 : Nat) (p0b p0o : Nat) (p0c : Array Value) (p0T : TypeId) (p0f : Nat × Nat) (p0r0 : Nat) (p0r1 : Nat) (p0r2 : Nat) (p0r3 : Nat) (p0r4 : Nat) (p0r5 : Nat) (p0r6 : Nat) (p0r7 : Nat) (p0r8 : Nat) (p0r9 : Nat) (p1r : Nat) (p2r : Nat) (r : SVector) (w : World) (hr : M.spec_l04Heavy p0 p1 p2 = r) (p0h0 : cn .f32 p0r0 = p0.moments.x) (p0h1 : cn .f32 p0r1 = p0.moments.y) (p0h2 : cn .f32 p0r2 = p0.moments.z) (p0h3 : cn .f32 p0r3 = p0.turn.w) (p0h4 : cn .f32 p0r4 = p0.turn.x) (p0h5 : cn .f32 p0r5 = p0.turn.y) (p0h6 : cn .f32 p0r6 = p0.turn.z) (p0h7 : cn .f32 p0r7 = p0.speed.x) (p0h8 : cn .f32 p0r8 = p0.speed.y) (p0h9 : cn .f32 p0r9 = p0.speed.z) (p0B : w.heap[p0b]? = some (.cells p0c p0T p0f)) (p0P : (p0c.toList.drop p0o).take 10 = [.float .f32 p0r0, .float .f32 p0r1, .float .f32 p0r2, .float .f32 p0r3, .float .f32 p0r4, .float .f32 p0r5, .float .f32 p0r6, .float .f32 p0r7, .float .f32 p0r8, .float .f32 p0r9]) (p1h : cn .f32 p1r = p1) (p2h : cn .f32 p2r = p2) :
    Calls Try.prog 49 #[.pointer (some ⟨p0b, p0o, none⟩), .float .f32 p1r, .float .f32 p2r] w fun e w' => ∃ q0r0 : Nat, ∃ q0r1 : Nat, ∃ q0r2 : Nat, e = .returned (.agg #[.float .f32 q0r0, .float .f32 q0r1, .float .f32 q0r2]) ∧ cn .f32 q0r0 = r.x ∧ cn .f32 q0r1 = r.y ∧ cn .f32 q0r2 = r.z ∧ Ext w w' := by
  refine calls_of_W Try.func49 rfl (Nat.le_of_ble_eq_true rfl) ?_
  refine W_seq ?_
  refine W_region rfl ?_
  refine da_op rfl (d_alloc (cs := #[.float .f32 0, .float .f32 0, .float .f32 0]) zero29 rfl fun w1 B1 E1 => ?_)
  have own2 : w.heap.size ≤ w.heap.size := Nat.le_trans (Ext.refl w).size (Nat.le_refl _)
  have X3 : Ext w w1 := (Ext.refl w).trans E1
  refine da_nil ?_
  refine W_seq ?_
  refine W_region rfl ?_
  refine da_op rfl (d_mv (v := .float .f32 p1r) rfl ?_)
  refine da_op rfl (d_bd (vs := [(2, .float .f32 p1r)]) (cs := #[.float .f32 0, .float .f32 0, .float .f32 p1r]) (pc rfl rfl) (by kernel_rfl) ?_)
  refine da_op rfl (d_mv (v := .pointer (some ⟨p0b, p0o, none⟩)) rfl ?_)
  refine da_op rfl (d_nil rfl ?_)
  refine da_op rfl (d_fieldAddr rfl (fa32_1 _ _) ?_)
  have B4 : w1.heap[p0b]? = some (.cells p0c p0T p0f) := X3.heap p0B
  refine da_op rfl (d_loads (vs := #[.float .f32 p0r3, .float .f32 p0r4, .float .f32 p0r5, .float .f32 p0r6]) rfl agg30 size30 B4 (sub_take (vs := #[.float .f32 p0r0, .float .f32 p0r1, .float .f32 p0r2, .float .f32 p0r3, .float .f32 p0r4, .float .f32 p0r5, .float .f32 p0r6, .float .f32 p0r7, .float .f32 p0r8, .float .f32 p0r9]) (us := #[.float .f32 p0r3, .float .f32 p0r4, .float .f32 p0r5, .float .f32 p0r6]) (i := 3) p0P rfl (Nat.le_of_ble_eq_true rfl)) ?_)
  obtain ⟨m5, hm5, hr⟩ := letv_out hr
  refine da_op rfl (d_cl (vs := [.agg #[.float .f32 p0r3, .float .f32 p0r4, .float .f32 p0r5, .float .f32 p0r6]]) en86 (ac rfl rfl) rfl ?_)
  refine (c86 (⟨p0.turn.w, p0.turn.x, p0.turn.y, p0.turn.z⟩ : SSpin) p0r3 p0r4 p0r5 p0r6 m5 w1 hm5 p0h3 p0h4 p0h5 p0h6).mono ?_
  rintro _ w6 ⟨q6_0r0, q6_0r1, q6_0r2, q6_0r3, rfl, q6_0h0, q6_0h1, q6_0h2, q6_0h3, E6⟩
  refine ⟨_, rfl, ?_⟩
  have X7 : Ext w w6 := X3.trans E6
  refine da_op rfl (d_mv (v := .float .f32 p2r) rfl ?_)
  refine da_op rfl (d_fneg (k := .f32) rfl p2h fun r8 h8 _ => ?_)
  refine da_op rfl (d_bd (vs := [(2, .float .f32 r8)]) (cs := #[.float .f32 0, .float .f32 0, .float .f32 r8]) (pc rfl rfl) (by kernel_rfl) ?_)
  obtain ⟨m9, hm9, hr⟩ := letv_out hr
  have B10 : w6.heap[w.heap.size]? = some (.cells #[.float .f32 0, .float .f32 0, .float .f32 0] 29 (0, 0)) := E6.heap B1
  refine da_op rfl (d_cl (vs := [.agg #[.float .f32 q6_0r0, .float .f32 q6_0r1, .float .f32 q6_0r2, .float .f32 q6_0r3], .agg #[.float .f32 0, .float .f32 0, .float .f32 r8]]) en85 (ac rfl (ac rfl rfl)) rfl ?_)
  refine (c85 m5 (⟨0, 0, (fneg .f32 p2)⟩ : SVector) q6_0r0 q6_0r1 q6_0r2 q6_0r3 0 0 r8 m9 w6 hm9 q6_0h0 q6_0h1 q6_0h2 q6_0h3 cn_f32_0 cn_f32_0 h8).mono ?_
  rintro _ w11 ⟨q11_0r0, q11_0r1, q11_0r2, rfl, q11_0h0, q11_0h1, q11_0h2, E11⟩
  refine ⟨_, rfl, ?_⟩
  have X12 : Ext w w11 := X7.trans E11
  obtain ⟨m13, hm13, hr⟩ := letv_out hr
  have B14 : w11.heap[w.heap.size]? = some (.cells #[.float .f32 0, .float .f32 0, .float .f32 0] 29 (0, 0)) := E11.heap B10
  refine da_op rfl (d_cl (vs := [.agg #[.float .f32 0, .float .f32 0, .float .f32 p1r], .agg #[.float .f32 q11_0r0, .float .f32 q11_0r1, .float .f32 q11_0r2]]) en84 (ac rfl (ac rfl rfl)) rfl ?_)
  refine (c84 (⟨0, 0, p1⟩ : SVector) m9 0 0 p1r q11_0r0 q11_0r1 q11_0r2 m13 w11 hm13 cn_f32_0 cn_f32_0 p1h q11_0h0 q11_0h1 q11_0h2).mono ?_
  rintro _ w15 ⟨q15_0r0, q15_0r1, q15_0r2, rfl, q15_0h0, q15_0h1, q15_0h2, E15⟩
  refine ⟨_, rfl, ?_⟩
  have X16 : Ext w w15 := X12.trans E15
  have B17 : w15.heap[w.heap.size]? = some (.cells #[.float .f32 0, .float .f32 0, .float .f32 0] 29 (0, 0)) := E15.heap B14
  refine da_op rfl (d_store (vs := #[.float .f32 q15_0r0, .float .f32 q15_0r1, .float .f32 q15_0r2]) rfl rfl B17 size29 (Nat.le_of_ble_eq_true rfl) rfl fun w18 S18 => ?_)
  have X19 : Ext w w18 := Ext.step X16 S18.frmb (fun k _ hk => hk ▸ own2)
  have B20 : w18.heap[w.heap.size]? = some (.cells #[.float .f32 q15_0r0, .float .f32 q15_0r1, .float .f32 q15_0r2] 29 (0, 0)) := S18.here
  refine da_nil ?_
  refine W_ret ?_
  subst hr
  refine ⟨_, res1 (rv_cells (vs := #[.float .f32 q15_0r0, .float .f32 q15_0r1, .float .f32 q15_0r2]) rfl agg29 size29 B20 rfl), ?_⟩
  exact ⟨q15_0r0, q15_0r1, q15_0r2, rfl, q15_0h0, q15_0h1, q15_0h2, X19⟩
set_option maxHeartbeats 4000000 in
theorem c89 (p0 : STop) (p1 : SVector) (p2 : SVector) (p0b p0o : Nat) (p0c : Array Value) (p0T : TypeId) (p0f : Nat × Nat) (p0r0 : Nat) (p0r1 : Nat) (p0r2 : Nat) (p0r3 : Nat) (p0r4 : Nat) (p0r5 : Nat) (p0r6 : Nat) (p0r7 : Nat) (p0r8 : Nat) (p0r9 : Nat) (p1r0 : Nat) (p1r1 : Nat) (p1r2 : Nat) (p2r0 : Nat) (p2r1 : Nat) (p2r2 : Nat) (r : SVector) (w : World) (hr : M.spec_l04Rate p0 p1 p2 = r) (p0h0 : cn .f32 p0r0 = p0.moments.x) (p0h1 : cn .f32 p0r1 = p0.moments.y) (p0h2 : cn .f32 p0r2 = p0.moments.z) (p0h3 : cn .f32 p0r3 = p0.turn.w) (p0h4 : cn .f32 p0r4 = p0.turn.x) (p0h5 : cn .f32 p0r5 = p0.turn.y) (p0h6 : cn .f32 p0r6 = p0.turn.z) (p0h7 : cn .f32 p0r7 = p0.speed.x) (p0h8 : cn .f32 p0r8 = p0.speed.y) (p0h9 : cn .f32 p0r9 = p0.speed.z) (p0B : w.heap[p0b]? = some (.cells p0c p0T p0f)) (p0P : (p0c.toList.drop p0o).take 10 = [.float .f32 p0r0, .float .f32 p0r1, .float .f32 p0r2, .float .f32 p0r3, .float .f32 p0r4, .float .f32 p0r5, .float .f32 p0r6, .float .f32 p0r7, .float .f32 p0r8, .float .f32 p0r9]) (p1h0 : cn .f32 p1r0 = p1.x) (p1h1 : cn .f32 p1r1 = p1.y) (p1h2 : cn .f32 p1r2 = p1.z) (p2h0 : cn .f32 p2r0 = p2.x) (p2h1 : cn .f32 p2r1 = p2.y) (p2h2 : cn .f32 p2r2 = p2.z) :
    Calls Try.prog 89 #[.pointer (some ⟨p0b, p0o, none⟩), .agg #[.float .f32 p1r0, .float .f32 p1r1, .float .f32 p1r2], .agg #[.float .f32 p2r0, .float .f32 p2r1, .float .f32 p2r2]] w fun e w' => ∃ q0r0 : Nat, ∃ q0r1 : Nat, ∃ q0r2 : Nat, e = .returned (.agg #[.float .f32 q0r0, .float .f32 q0r1, .float .f32 q0r2]) ∧ cn .f32 q0r0 = r.x ∧ cn .f32 q0r1 = r.y ∧ cn .f32 q0r2 = r.z ∧ Ext w w' := by
  refine calls_of_W Try.func89 rfl (Nat.le_of_ble_eq_true rfl) ?_
  refine W_seq ?_
  refine W_region rfl ?_
  refine da_op rfl (d_box (cs := #[.float .f32 p1r0, .float .f32 p1r1, .float .f32 p1r2]) rfl fun w1 B1 E1 => ?_)
  have own2 : w.heap.size ≤ w.heap.size := Nat.le_trans (Ext.refl w).size (Nat.le_refl _)
  have X3 : Ext w w1 := (Ext.refl w).trans E1
  refine da_op rfl (d_box (cs := #[.float .f32 p2r0, .float .f32 p2r1, .float .f32 p2r2]) rfl fun w4 B4 E4 => ?_)
  have own5 : w.heap.size ≤ w1.heap.size := Nat.le_trans X3.size (Nat.le_refl _)
  have sp6 : w.heap.size ≠ w1.heap.size := Nat.ne_of_lt (Nat.lt_of_lt_of_le (lt_heap B1) (Nat.le_refl _))
  have X7 : Ext w w4 := X3.trans E4
  have B9 : w4.heap[w.heap.size]? = some (.cells #[.float .f32 p1r0, .float .f32 p1r1, .float .f32 p1r2] 29 (0, 0)) := E4.heap B1
  refine da_op rfl (d_alloc (cs := #[.float .f32 0, .float .f32 0, .float .f32 0]) zero29 rfl fun w8 B8 E8 => ?_)
  have own10 : w.heap.size ≤ w4.heap.size := Nat.le_trans X7.size (Nat.le_refl _)
  have sp11 : w.heap.size ≠ w4.heap.size := Nat.ne_of_lt (Nat.lt_of_lt_of_le (lt_heap B9) (Nat.le_refl _))
  have sp12 : w1.heap.size ≠ w4.heap.size := Nat.ne_of_lt (Nat.lt_of_lt_of_le (lt_heap B4) (Nat.le_refl _))
  have X13 : Ext w w8 := X7.trans E8
  refine da_nil ?_
  refine W_seq ?_
  refine W_region rfl ?_
  refine da_op rfl (d_mv (v := .pointer (some ⟨p0b, p0o, none⟩)) rfl ?_)
  refine da_op rfl (d_nil rfl ?_)
  refine da_op rfl (d_fieldAddr rfl (fa32_0 _ _) ?_)
  have B14 : w8.heap[p0b]? = some (.cells p0c p0T p0f) := X13.heap p0B
  refine da_op rfl (d_loads (vs := #[.float .f32 p0r0, .float .f32 p0r1, .float .f32 p0r2]) rfl agg29 size29 B14 (sub_take (vs := #[.float .f32 p0r0, .float .f32 p0r1, .float .f32 p0r2, .float .f32 p0r3, .float .f32 p0r4, .float .f32 p0r5, .float .f32 p0r6, .float .f32 p0r7, .float .f32 p0r8, .float .f32 p0r9]) (us := #[.float .f32 p0r0, .float .f32 p0r1, .float .f32 p0r2]) (i := 0) p0P rfl (Nat.le_of_ble_eq_true rfl)) ?_)
  have B16 : w8.heap[w.heap.size]? = some (.cells #[.float .f32 p1r0, .float .f32 p1r1, .float .f32 p1r2] 29 (0, 0)) := E8.heap B9
  have B17 : w8.heap[w1.heap.size]? = some (.cells #[.float .f32 p2r0, .float .f32 p2r1, .float .f32 p2r2] 29 (0, 0)) := E8.heap B4
  refine da_op rfl (d_alloc (cs := #[.float .f32 0, .float .f32 0, .float .f32 0]) zero29 rfl fun w15 B15 E15 => ?_)
  have own18 : w.heap.size ≤ w8.heap.size := Nat.le_trans X13.size (Nat.le_refl _)
  have sp19 : w.heap.size ≠ w8.heap.size := Nat.ne_of_lt (Nat.lt_of_lt_of_le (lt_heap B16) (Nat.le_refl _))
  have sp20 : w1.heap.size ≠ w8.heap.size := Nat.ne_of_lt (Nat.lt_of_lt_of_le (lt_heap B17) (Nat.le_refl _))
  have sp21 : w4.heap.size ≠ w8.heap.size := Nat.ne_of_lt (Nat.lt_of_lt_of_le (lt_heap B8) (Nat.le_refl _))
  have X22 : Ext w w15 := X13.trans E15
  refine da_op rfl (d_store (vs := #[.float .f32 p0r0, .float .f32 p0r1, .float .f32 p0r2]) rfl rfl B15 size29 (Nat.le_of_ble_eq_true rfl) rfl fun w23 S23 => ?_)
  have X24 : Ext w w23 := Ext.step X22 S23.frmb (fun k _ hk => hk ▸ own18)
  have B25 : w23.heap[w8.heap.size]? = some (.cells #[.float .f32 p0r0, .float .f32 p0r1, .float .f32 p0r2] 29 (0, 0)) := S23.here
  refine da_nil ?_
  refine W_seq ?_
  refine W_region rfl ?_
  refine da_op rfl (d_fieldAddr rfl (fa29_1 _ _) ?_)
  refine da_op rfl (d_load (v := .float .f32 p0r1) rfl agg22 B25 rfl ?_)
  refine da_op rfl (d_fieldAddr rfl (fa29_2 _ _) ?_)
  refine da_op rfl (d_load (v := .float .f32 p0r2) rfl agg22 B25 rfl ?_)
  refine da_op rfl (d_fop (k := .f32) fSub rfl rfl p0h1 p0h2 fun r26 w26 h26 _ E26 => ?_)
  have X27 : Ext w w26 := X24.trans E26
  refine da_op rfl (d_fieldAddr rfl (fa29_1 _ _) ?_)
  have B28 : w26.heap[w.heap.size]? = some (.cells #[.float .f32 p1r0, .float .f32 p1r1, .float .f32 p1r2] 29 (0, 0)) := E26.heap (S23.frmb.heap sp19 (E15.heap B16))
  refine da_op rfl (d_load (v := .float .f32 p1r1) rfl agg22 B28 rfl ?_)
  refine da_op rfl (d_fieldAddr rfl (fa29_2 _ _) ?_)
  refine da_op rfl (d_load (v := .float .f32 p1r2) rfl agg22 B28 rfl ?_)
  refine da_op rfl (d_fop (k := .f32) fMul rfl rfl p1h1 p1h2 fun r29 w29 h29 _ E29 => ?_)
  have X30 : Ext w w29 := X27.trans E29
  refine da_op rfl (d_fop (k := .f32) fMul rfl rfl h26 h29 fun r31 w31 h31 _ E31 => ?_)
  have X32 : Ext w w31 := X30.trans E31
  refine da_op rfl (d_fieldAddr rfl (fa29_0 _ _) ?_)
  have B33 : w31.heap[w1.heap.size]? = some (.cells #[.float .f32 p2r0, .float .f32 p2r1, .float .f32 p2r2] 29 (0, 0)) := E31.heap (E29.heap (E26.heap (S23.frmb.heap sp20 (E15.heap B17))))
  refine da_op rfl (d_load (v := .float .f32 p2r0) rfl agg22 B33 rfl ?_)
  refine da_op rfl (d_fop (k := .f32) fAdd rfl rfl h31 p2h0 fun r34 w34 h34 _ E34 => ?_)
  have X35 : Ext w w34 := X32.trans E34
  refine da_op rfl (d_fieldAddr rfl (fa29_0 _ _) ?_)
  have B36 : w34.heap[w8.heap.size]? = some (.cells #[.float .f32 p0r0, .float .f32 p0r1, .float .f32 p0r2] 29 (0, 0)) := E34.heap (E31.heap (E29.heap (E26.heap B25)))
  refine da_op rfl (d_load (v := .float .f32 p0r0) rfl agg22 B36 rfl ?_)
  refine da_op rfl (d_fop (k := .f32) fQuo rfl rfl h34 p0h0 fun r37 w37 h37 _ E37 => ?_)
  have X38 : Ext w w37 := X35.trans E37
  refine da_op rfl (d_bd (vs := [(0, .float .f32 r37)]) (cs := #[.float .f32 r37, .float .f32 0, .float .f32 0]) (pc rfl rfl) (by kernel_rfl) ?_)
  have B40 : w37.heap[w.heap.size]? = some (.cells #[.float .f32 p1r0, .float .f32 p1r1, .float .f32 p1r2] 29 (0, 0)) := E37.heap (E34.heap (E31.heap (E29.heap B28)))
  have B41 : w37.heap[w1.heap.size]? = some (.cells #[.float .f32 p2r0, .float .f32 p2r1, .float .f32 p2r2] 29 (0, 0)) := E37.heap (E34.heap B33)
  have B42 : w37.heap[w4.heap.size]? = some (.cells #[.float .f32 0, .float .f32 0, .float .f32 0] 29 (0, 0)) := E37.heap (E34.heap (E31.heap (E29.heap (E26.heap (S23.frmb.heap sp21 (E15.heap B8))))))
  have B43 : w37.heap[w8.heap.size]? = some (.cells #[.float .f32 p0r0, .float .f32 p0r1, .float .f32 p0r2] 29 (0, 0)) := E37.heap B36
  refine da_op rfl (d_alloc (cs := #[.float .f32 0, .float .f32 0, .float .f32 0]) zero29 rfl fun w39 B39 E39 => ?_)
  have own44 : w.heap.size ≤ w37.heap.size := Nat.le_trans X38.size (Nat.le_refl _)
  have sp45 : w.heap.size ≠ w37.heap.size := Nat.ne_of_lt (Nat.lt_of_lt_of_le (lt_heap B40) (Nat.le_refl _))
  have sp46 : w1.heap.size ≠ w37.heap.size := Nat.ne_of_lt (Nat.lt_of_lt_of_le (lt_heap B41) (Nat.le_refl _))
  have sp47 : w4.heap.size ≠ w37.heap.size := Nat.ne_of_lt (Nat.lt_of_lt_of_le (lt_heap B42) (Nat.le_refl _))
  have sp48 : w8.heap.size ≠ w37.heap.size := Nat.ne_of_lt (Nat.lt_of_lt_of_le (lt_heap B43) (Nat.le_refl _))
  have X49 : Ext w w39 := X38.trans E39
  refine da_op rfl (d_store (vs := #[.float .f32 r37, .float .f32 0, .float .f32 0]) rfl rfl B39 size29 (Nat.le_of_ble_eq_true rfl) rfl fun w50 S50 => ?_)
  have X51 : Ext w w50 := Ext.step X49 S50.frmb (fun k _ hk => hk ▸ own44)
  have B52 : w50.heap[w37.heap.size]? = some (.cells #[.float .f32 r37, .float .f32 0, .float .f32 0] 29 (0, 0)) := S50.here
  refine da_nil ?_
  refine W_seq ?_
  refine W_region rfl ?_
  refine da_op rfl (d_fieldAddr rfl (fa29_2 _ _) ?_)
  have B53 : w50.heap[w8.heap.size]? = some (.cells #[.float .f32 p0r0, .float .f32 p0r1, .float .f32 p0r2] 29 (0, 0)) := S50.frmb.heap sp48 (E39.heap B43)
  refine da_op rfl (d_load (v := .float .f32 p0r2) rfl agg22 B53 rfl ?_)
  refine da_op rfl (d_fieldAddr rfl (fa29_0 _ _) ?_)
  refine da_op rfl (d_load (v := .float .f32 p0r0) rfl agg22 B53 rfl ?_)
  refine da_op rfl (d_fop (k := .f32) fSub rfl rfl p0h2 p0h0 fun r54 w54 h54 _ E54 => ?_)
  have X55 : Ext w w54 := X51.trans E54
  refine da_op rfl (d_fieldAddr rfl (fa29_2 _ _) ?_)
  have B56 : w54.heap[w.heap.size]? = some (.cells #[.float .f32 p1r0, .float .f32 p1r1, .float .f32 p1r2] 29 (0, 0)) := E54.heap (S50.frmb.heap sp45 (E39.heap B40))
  refine da_op rfl (d_load (v := .float .f32 p1r2) rfl agg22 B56 rfl ?_)
  refine da_op rfl (d_fieldAddr rfl (fa29_0 _ _) ?_)
  refine da_op rfl (d_load (v := .float .f32 p1r0) rfl agg22 B56 rfl ?_)
  refine da_op rfl (d_fop (k := .f32) fMul rfl rfl p1h2 p1h0 fun r57 w57 h57 _ E57 => ?_)
  have X58 : Ext w w57 := X55.trans E57
  refine da_op rfl (d_fop (k := .f32) fMul rfl rfl h54 h57 fun r59 w59 h59 _ E59 => ?_)
  have X60 : Ext w w59 := X58.trans E59
  refine da_op rfl (d_fieldAddr rfl (fa29_1 _ _) ?_)
  have B61 : w59.heap[w1.heap.size]? = some (.cells #[.float .f32 p2r0, .float .f32 p2r1, .float .f32 p2r2] 29 (0, 0)) := E59.heap (E57.heap (E54.heap (S50.frmb.heap sp46 (E39.heap B41))))
  refine da_op rfl (d_load (v := .float .f32 p2r1) rfl agg22 B61 rfl ?_)
  refine da_op rfl (d_fop (k := .f32) fAdd rfl rfl h59 p2h1 fun r62 w62 h62 _ E62 => ?_)
  have X63 : Ext w w62 := X60.trans E62
  refine da_op rfl (d_fieldAddr rfl (fa29_1 _ _) ?_)
  have B64 : w62.heap[w8.heap.size]? = some (.cells #[.float .f32 p0r0, .float .f32 p0r1, .float .f32 p0r2] 29 (0, 0)) := E62.heap (E59.heap (E57.heap (E54.heap B53)))
  refine da_op rfl (d_load (v := .float .f32 p0r1) rfl agg22 B64 rfl ?_)
  refine da_op rfl (d_fop (k := .f32) fQuo rfl rfl h62 p0h1 fun r65 w65 h65 _ E65 => ?_)
  have X66 : Ext w w65 := X63.trans E65
  refine da_op rfl (d_fieldAddr rfl (fa29_1 _ _) ?_)
  have B67 : w65.heap[w37.heap.size]? = some (.cells #[.float .f32 r37, .float .f32 0, .float .f32 0] 29 (0, 0)) := E65.heap (E62.heap (E59.heap (E57.heap (E54.heap B52))))
  refine da_op rfl (d_store (vs := #[.float .f32 r65]) rfl rfl B67 size22 (Nat.le_of_ble_eq_true rfl) rfl fun w68 S68 => ?_)
  have X69 : Ext w w68 := Ext.step X66 S68.frmb (fun k _ hk => hk ▸ own44)
  have B70 : w68.heap[w37.heap.size]? = some (.cells #[.float .f32 r37, .float .f32 r65, .float .f32 0] 29 (0, 0)) := S68.here
  refine da_nil ?_
  refine W_seq ?_
  refine W_region rfl ?_
  refine da_op rfl (d_fieldAddr rfl (fa29_0 _ _) ?_)
  have B71 : w68.heap[w8.heap.size]? = some (.cells #[.float .f32 p0r0, .float .f32 p0r1, .float .f32 p0r2] 29 (0, 0)) := S68.frmb.heap sp48 (E65.heap B64)
  refine da_op rfl (d_load (v := .float .f32 p0r0) rfl agg22 B71 rfl ?_)
  refine da_op rfl (d_fieldAddr rfl (fa29_1 _ _) ?_)
  refine da_op rfl (d_load (v := .float .f32 p0r1) rfl agg22 B71 rfl ?_)
  refine da_op rfl (d_fop (k := .f32) fSub rfl rfl p0h0 p0h1 fun r72 w72 h72 _ E72 => ?_)
  have X73 : Ext w w72 := X69.trans E72
  refine da_op rfl (d_fieldAddr rfl (fa29_0 _ _) ?_)
  have B74 : w72.heap[w.heap.size]? = some (.cells #[.float .f32 p1r0, .float .f32 p1r1, .float .f32 p1r2] 29 (0, 0)) := E72.heap (S68.frmb.heap sp45 (E65.heap (E62.heap (E59.heap (E57.heap B56)))))
  refine da_op rfl (d_load (v := .float .f32 p1r0) rfl agg22 B74 rfl ?_)
  refine da_op rfl (d_fieldAddr rfl (fa29_1 _ _) ?_)
  refine da_op rfl (d_load (v := .float .f32 p1r1) rfl agg22 B74 rfl ?_)
  refine da_op rfl (d_fop (k := .f32) fMul rfl rfl p1h0 p1h1 fun r75 w75 h75 _ E75 => ?_)
  have X76 : Ext w w75 := X73.trans E75
  refine da_op rfl (d_fop (k := .f32) fMul rfl rfl h72 h75 fun r77 w77 h77 _ E77 => ?_)
  have X78 : Ext w w77 := X76.trans E77
  refine da_op rfl (d_fieldAddr rfl (fa29_2 _ _) ?_)
  have B79 : w77.heap[w1.heap.size]? = some (.cells #[.float .f32 p2r0, .float .f32 p2r1, .float .f32 p2r2] 29 (0, 0)) := E77.heap (E75.heap (E72.heap (S68.frmb.heap sp46 (E65.heap (E62.heap B61)))))
  refine da_op rfl (d_load (v := .float .f32 p2r2) rfl agg22 B79 rfl ?_)
  refine da_op rfl (d_fop (k := .f32) fAdd rfl rfl h77 p2h2 fun r80 w80 h80 _ E80 => ?_)
  have X81 : Ext w w80 := X78.trans E80
  refine da_op rfl (d_fieldAddr rfl (fa29_2 _ _) ?_)
  have B82 : w80.heap[w8.heap.size]? = some (.cells #[.float .f32 p0r0, .float .f32 p0r1, .float .f32 p0r2] 29 (0, 0)) := E80.heap (E77.heap (E75.heap (E72.heap B71)))
  refine da_op rfl (d_load (v := .float .f32 p0r2) rfl agg22 B82 rfl ?_)
  refine da_op rfl (d_fop (k := .f32) fQuo rfl rfl h80 p0h2 fun r83 w83 h83 _ E83 => ?_)
  have X84 : Ext w w83 := X81.trans E83
  refine da_op rfl (d_fieldAddr rfl (fa29_2 _ _) ?_)
  have B85 : w83.heap[w37.heap.size]? = some (.cells #[.float .f32 r37, .float .f32 r65, .float .f32 0] 29 (0, 0)) := E83.heap (E80.heap (E77.heap (E75.heap (E72.heap B70))))
  refine da_op rfl (d_store (vs := #[.float .f32 r83]) rfl rfl B85 size22 (Nat.le_of_ble_eq_true rfl) rfl fun w86 S86 => ?_)
  have X87 : Ext w w86 := Ext.step X84 S86.frmb (fun k _ hk => hk ▸ own44)
  have B88 : w86.heap[w37.heap.size]? = some (.cells #[.float .f32 r37, .float .f32 r65, .float .f32 r83] 29 (0, 0)) := S86.here
  refine da_nil ?_
  refine W_seq ?_
  refine W_region rfl ?_
  refine da_op rfl (d_loads (vs := #[.float .f32 r37, .float .f32 r65, .float .f32 r83]) rfl agg29 size29 B88 rfl ?_)
  have B89 : w86.heap[w4.heap.size]? = some (.cells #[.float .f32 0, .float .f32 0, .float .f32 0] 29 (0, 0)) := S86.frmb.heap sp47 (E83.heap (E80.heap (E77.heap (E75.heap (E72.heap (S68.frmb.heap sp47 (E65.heap (E62.heap (E59.heap (E57.heap (E54.heap (S50.frmb.heap sp47 (E39.heap B42)))))))))))))
  refine da_op rfl (d_store (vs := #[.float .f32 r37, .float .f32 r65, .float .f32 r83]) rfl rfl B89 size29 (Nat.le_of_ble_eq_true rfl) rfl fun w90 S90 => ?_)
  have X91 : Ext w w90 := Ext.step X87 S90.frmb (fun k _ hk => hk ▸ own10)
  have B92 : w90.heap[w4.heap.size]? = some (.cells #[.float .f32 r37, .float .f32 r65, .float .f32 r83] 29 (0, 0)) := S90.here
  refine da_nil ?_
  refine W_ret ?_
  subst hr
  refine ⟨_, res1 (rv_cells (vs := #[.float .f32 r37, .float .f32 r65, .float .f32 r83]) rfl agg29 size29 B92 rfl), ?_⟩
  exact ⟨r37, r65, r83, rfl, h37, h65, h83, X91⟩
set_option maxHeartbeats 4000000 in
theorem c90 (p0 : SSpin) (p1 : SSpin) (p0r0 : Nat) (p0r1 : Nat) (p0r2 : Nat) (p0r3 : Nat) (p1r0 : Nat) (p1r1 : Nat) (p1r2 : Nat) (p1r3 : Nat) (r : SSpin) (w : World) (hr : M.spec_l04Times p0 p1 = r) (p0h0 : cn .f32 p0r0 = p0.w) (p0h1 : cn .f32 p0r1 = p0.x) (p0h2 : cn .f32 p0r2 = p0.y) (p0h3 : cn .f32 p0r3 = p0.z) (p1h0 : cn .f32 p1r0 = p1.w) (p1h1 : cn .f32 p1r1 = p1.x) (p1h2 : cn .f32 p1r2 = p1.y) (p1h3 : cn .f32 p1r3 = p1.z) :
    Calls Try.prog 90 #[.agg #[.float .f32 p0r0, .float .f32 p0r1, .float .f32 p0r2, .float .f32 p0r3], .agg #[.float .f32 p1r0, .float .f32 p1r1, .float .f32 p1r2, .float .f32 p1r3]] w fun e w' => ∃ q0r0 : Nat, ∃ q0r1 : Nat, ∃ q0r2 : Nat, ∃ q0r3 : Nat, e = .returned (.agg #[.float .f32 q0r0, .float .f32 q0r1, .float .f32 q0r2, .float .f32 q0r3]) ∧ cn .f32 q0r0 = r.w ∧ cn .f32 q0r1 = r.x ∧ cn .f32 q0r2 = r.y ∧ cn .f32 q0r3 = r.z ∧ Ext w w' := by
  refine calls_of_W Try.func90 rfl (Nat.le_of_ble_eq_true rfl) ?_
  refine W_seq ?_
  refine W_region rfl ?_
  refine da_op rfl (d_box (cs := #[.float .f32 p0r0, .float .f32 p0r1, .float .f32 p0r2, .float .f32 p0r3]) rfl fun w1 B1 E1 => ?_)
  have own2 : w.heap.size ≤ w.heap.size := Nat.le_trans (Ext.refl w).size (Nat.le_refl _)
  have X3 : Ext w w1 := (Ext.refl w).trans E1
  refine da_op rfl (d_box (cs := #[.float .f32 p1r0, .float .f32 p1r1, .float .f32 p1r2, .float .f32 p1r3]) rfl fun w4 B4 E4 => ?_)
  have own5 : w.heap.size ≤ w1.heap.size := Nat.le_trans X3.size (Nat.le_refl _)
  have sp6 : w.heap.size ≠ w1.heap.size := Nat.ne_of_lt (Nat.lt_of_lt_of_le (lt_heap B1) (Nat.le_refl _))
  have X7 : Ext w w4 := X3.trans E4
  have B9 : w4.heap[w.heap.size]? = some (.cells #[.float .f32 p0r0, .float .f32 p0r1, .float .f32 p0r2, .float .f32 p0r3] 30 (0, 0)) := E4.heap B1
  refine da_op rfl (d_alloc (cs := #[.float .f32 0, .float .f32 0, .float .f32 0, .float .f32 0]) zero30 rfl fun w8 B8 E8 => ?_)
  have own10 : w.heap.size ≤ w4.heap.size := Nat.le_trans X7.size (Nat.le_refl _)
  have sp11 : w.heap.size ≠ w4.heap.size := Nat.ne_of_lt (Nat.lt_of_lt_of_le (lt_heap B9) (Nat.le_refl _))
  have sp12 : w1.heap.size ≠ w4.heap.size := Nat.ne_of_lt (Nat.lt_of_lt_of_le (lt_heap B4) (Nat.le_refl _))
  have X13 : Ext w w8 := X7.trans E8
  refine da_nil ?_
  refine W_seq ?_
  refine W_region rfl ?_
  refine da_op rfl (d_fieldAddr rfl (fa30_0 _ _) ?_)
  have B14 : w8.heap[w.heap.size]? = some (.cells #[.float .f32 p0r0, .float .f32 p0r1, .float .f32 p0r2, .float .f32 p0r3] 30 (0, 0)) := E8.heap B9
  refine da_op rfl (d_load (v := .float .f32 p0r0) rfl agg22 B14 rfl ?_)
  refine da_op rfl (d_fieldAddr rfl (fa30_0 _ _) ?_)
  have B15 : w8.heap[w1.heap.size]? = some (.cells #[.float .f32 p1r0, .float .f32 p1r1, .float .f32 p1r2, .float .f32 p1r3] 30 (0, 0)) := E8.heap B4
  refine da_op rfl (d_load (v := .float .f32 p1r0) rfl agg22 B15 rfl ?_)
  refine da_op rfl (d_fop (k := .f32) fMul rfl rfl p0h0 p1h0 fun r16 w16 h16 _ E16 => ?_)
  have X17 : Ext w w16 := X13.trans E16
  refine da_op rfl (d_fieldAddr rfl (fa30_1 _ _) ?_)
  have B18 : w16.heap[w.heap.size]? = some (.cells #[.float .f32 p0r0, .float .f32 p0r1, .float .f32 p0r2, .float .f32 p0r3] 30 (0, 0)) := E16.heap B14
  refine da_op rfl (d_load (v := .float .f32 p0r1) rfl agg22 B18 rfl ?_)
  refine da_op rfl (d_fieldAddr rfl (fa30_1 _ _) ?_)
  have B19 : w16.heap[w1.heap.size]? = some (.cells #[.float .f32 p1r0, .float .f32 p1r1, .float .f32 p1r2, .float .f32 p1r3] 30 (0, 0)) := E16.heap B15
  refine da_op rfl (d_load (v := .float .f32 p1r1) rfl agg22 B19 rfl ?_)
  refine da_op rfl (d_fop (k := .f32) fMul rfl rfl p0h1 p1h1 fun r20 w20 h20 _ E20 => ?_)
  have X21 : Ext w w20 := X17.trans E20
  refine da_op rfl (d_fop (k := .f32) fSub rfl rfl h16 h20 fun r22 w22 h22 _ E22 => ?_)
  have X23 : Ext w w22 := X21.trans E22
  refine da_op rfl (d_fieldAddr rfl (fa30_2 _ _) ?_)
  have B24 : w22.heap[w.heap.size]? = some (.cells #[.float .f32 p0r0, .float .f32 p0r1, .float .f32 p0r2, .float .f32 p0r3] 30 (0, 0)) := E22.heap (E20.heap B18)
  refine da_op rfl (d_load (v := .float .f32 p0r2) rfl agg22 B24 rfl ?_)
  refine da_op rfl (d_fieldAddr rfl (fa30_2 _ _) ?_)
  have B25 : w22.heap[w1.heap.size]? = some (.cells #[.float .f32 p1r0, .float .f32 p1r1, .float .f32 p1r2, .float .f32 p1r3] 30 (0, 0)) := E22.heap (E20.heap B19)
  refine da_op rfl (d_load (v := .float .f32 p1r2) rfl agg22 B25 rfl ?_)
  refine da_op rfl (d_fop (k := .f32) fMul rfl rfl p0h2 p1h2 fun r26 w26 h26 _ E26 => ?_)
  have X27 : Ext w w26 := X23.trans E26
  refine da_op rfl (d_fop (k := .f32) fSub rfl rfl h22 h26 fun r28 w28 h28 _ E28 => ?_)
  have X29 : Ext w w28 := X27.trans E28
  refine da_op rfl (d_fieldAddr rfl (fa30_3 _ _) ?_)
  have B30 : w28.heap[w.heap.size]? = some (.cells #[.float .f32 p0r0, .float .f32 p0r1, .float .f32 p0r2, .float .f32 p0r3] 30 (0, 0)) := E28.heap (E26.heap B24)
  refine da_op rfl (d_load (v := .float .f32 p0r3) rfl agg22 B30 rfl ?_)
  refine da_op rfl (d_fieldAddr rfl (fa30_3 _ _) ?_)
  have B31 : w28.heap[w1.heap.size]? = some (.cells #[.float .f32 p1r0, .float .f32 p1r1, .float .f32 p1r2, .float .f32 p1r3] 30 (0, 0)) := E28.heap (E26.heap B25)
  refine da_op rfl (d_load (v := .float .f32 p1r3) rfl agg22 B31 rfl ?_)
  refine da_op rfl (d_fop (k := .f32) fMul rfl rfl p0h3 p1h3 fun r32 w32 h32 _ E32 => ?_)
  have X33 : Ext w w32 := X29.trans E32
  refine da_op rfl (d_fop (k := .f32) fSub rfl rfl h28 h32 fun r34 w34 h34 _ E34 => ?_)
  have X35 : Ext w w34 := X33.trans E34
  refine da_op rfl (d_bd (vs := [(0, .float .f32 r34)]) (cs := #[.float .f32 r34, .float .f32 0, .float .f32 0, .float .f32 0]) (pc rfl rfl) (by kernel_rfl) ?_)
  have B37 : w34.heap[w.heap.size]? = some (.cells #[.float .f32 p0r0, .float .f32 p0r1, .float .f32 p0r2, .float .f32 p0r3] 30 (0, 0)) := E34.heap (E32.heap B30)
  have B38 : w34.heap[w1.heap.size]? = some (.cells #[.float .f32 p1r0, .float .f32 p1r1, .float .f32 p1r2, .float .f32 p1r3] 30 (0, 0)) := E34.heap (E32.heap B31)
  have B39 : w34.heap[w4.heap.size]? = some (.cells #[.float .f32 0, .float .f32 0, .float .f32 0, .float .f32 0] 30 (0, 0)) := E34.heap (E32.heap (E28.heap (E26.heap (E22.heap (E20.heap (E16.heap B8))))))
  refine da_op rfl (d_alloc (cs := #[.float .f32 0, .float .f32 0, .float .f32 0, .float .f32 0]) zero30 rfl fun w36 B36 E36 => ?_)
  have own40 : w.heap.size ≤ w34.heap.size := Nat.le_trans X35.size (Nat.le_refl _)
  have sp41 : w.heap.size ≠ w34.heap.size := Nat.ne_of_lt (Nat.lt_of_lt_of_le (lt_heap B37) (Nat.le_refl _))
  have sp42 : w1.heap.size ≠ w34.heap.size := Nat.ne_of_lt (Nat.lt_of_lt_of_le (lt_heap B38) (Nat.le_refl _))
  have sp43 : w4.heap.size ≠ w34.heap.size := Nat.ne_of_lt (Nat.lt_of_lt_of_le (lt_heap B39) (Nat.le_refl _))
  have X44 : Ext w w36 := X35.trans E36
  refine da_op rfl (d_store (vs := #[.float .f32 r34, .float .f32 0, .float .f32 0, .float .f32 0]) rfl rfl B36 size30 (Nat.le_of_ble_eq_true rfl) rfl fun w45 S45 => ?_)
  have X46 : Ext w w45 := Ext.step X44 S45.frmb (fun k _ hk => hk ▸ own40)
  have B47 : w45.heap[w34.heap.size]? = some (.cells #[.float .f32 r34, .float .f32 0, .float .f32 0, .float .f32 0] 30 (0, 0)) := S45.here
  refine da_nil ?_
  refine W_seq ?_
  refine W_region rfl ?_
  refine da_op rfl (d_fieldAddr rfl (fa30_0 _ _) ?_)
  have B48 : w45.heap[w.heap.size]? = some (.cells #[.float .f32 p0r0, .float .f32 p0r1, .float .f32 p0r2, .float .f32 p0r3] 30 (0, 0)) := S45.frmb.heap sp41 (E36.heap B37)
  refine da_op rfl (d_load (v := .float .f32 p0r0) rfl agg22 B48 rfl ?_)
  refine da_op rfl (d_fieldAddr rfl (fa30_1 _ _) ?_)
  have B49 : w45.heap[w1.heap.size]? = some (.cells #[.float .f32 p1r0, .float .f32 p1r1, .float .f32 p1r2, .float .f32 p1r3] 30 (0, 0)) := S45.frmb.heap sp42 (E36.heap B38)
  refine da_op rfl (d_load (v := .float .f32 p1r1) rfl agg22 B49 rfl ?_)
  refine da_op rfl (d_fop (k := .f32) fMul rfl rfl p0h0 p1h1 fun r50 w50 h50 _ E50 => ?_)
  have X51 : Ext w w50 := X46.trans E50
  refine da_op rfl (d_fieldAddr rfl (fa30_1 _ _) ?_)
  have B52 : w50.heap[w.heap.size]? = some (.cells #[.float .f32 p0r0, .float .f32 p0r1, .float .f32 p0r2, .float .f32 p0r3] 30 (0, 0)) := E50.heap B48
  refine da_op rfl (d_load (v := .float .f32 p0r1) rfl agg22 B52 rfl ?_)
  refine da_op rfl (d_fieldAddr rfl (fa30_0 _ _) ?_)
  have B53 : w50.heap[w1.heap.size]? = some (.cells #[.float .f32 p1r0, .float .f32 p1r1, .float .f32 p1r2, .float .f32 p1r3] 30 (0, 0)) := E50.heap B49
  refine da_op rfl (d_load (v := .float .f32 p1r0) rfl agg22 B53 rfl ?_)
  refine da_op rfl (d_fop (k := .f32) fMul rfl rfl p0h1 p1h0 fun r54 w54 h54 _ E54 => ?_)
  have X55 : Ext w w54 := X51.trans E54
  refine da_op rfl (d_fop (k := .f32) fAdd rfl rfl h50 h54 fun r56 w56 h56 _ E56 => ?_)
  have X57 : Ext w w56 := X55.trans E56
  refine da_op rfl (d_fieldAddr rfl (fa30_2 _ _) ?_)
  have B58 : w56.heap[w.heap.size]? = some (.cells #[.float .f32 p0r0, .float .f32 p0r1, .float .f32 p0r2, .float .f32 p0r3] 30 (0, 0)) := E56.heap (E54.heap B52)
  refine da_op rfl (d_load (v := .float .f32 p0r2) rfl agg22 B58 rfl ?_)
  refine da_op rfl (d_fieldAddr rfl (fa30_3 _ _) ?_)
  have B59 : w56.heap[w1.heap.size]? = some (.cells #[.float .f32 p1r0, .float .f32 p1r1, .float .f32 p1r2, .float .f32 p1r3] 30 (0, 0)) := E56.heap (E54.heap B53)
  refine da_op rfl (d_load (v := .float .f32 p1r3) rfl agg22 B59 rfl ?_)
  refine da_op rfl (d_fop (k := .f32) fMul rfl rfl p0h2 p1h3 fun r60 w60 h60 _ E60 => ?_)
  have X61 : Ext w w60 := X57.trans E60
  refine da_op rfl (d_fop (k := .f32) fAdd rfl rfl h56 h60 fun r62 w62 h62 _ E62 => ?_)
  have X63 : Ext w w62 := X61.trans E62
  refine da_op rfl (d_fieldAddr rfl (fa30_3 _ _) ?_)
  have B64 : w62.heap[w.heap.size]? = some (.cells #[.float .f32 p0r0, .float .f32 p0r1, .float .f32 p0r2, .float .f32 p0r3] 30 (0, 0)) := E62.heap (E60.heap B58)
  refine da_op rfl (d_load (v := .float .f32 p0r3) rfl agg22 B64 rfl ?_)
  refine da_op rfl (d_fieldAddr rfl (fa30_2 _ _) ?_)
  have B65 : w62.heap[w1.heap.size]? = some (.cells #[.float .f32 p1r0, .float .f32 p1r1, .float .f32 p1r2, .float .f32 p1r3] 30 (0, 0)) := E62.heap (E60.heap B59)
  refine da_op rfl (d_load (v := .float .f32 p1r2) rfl agg22 B65 rfl ?_)
  refine da_op rfl (d_fop (k := .f32) fMul rfl rfl p0h3 p1h2 fun r66 w66 h66 _ E66 => ?_)
  have X67 : Ext w w66 := X63.trans E66
  refine da_op rfl (d_fop (k := .f32) fSub rfl rfl h62 h66 fun r68 w68 h68 _ E68 => ?_)
  have X69 : Ext w w68 := X67.trans E68
  refine da_op rfl (d_fieldAddr rfl (fa30_1 _ _) ?_)
  have B70 : w68.heap[w34.heap.size]? = some (.cells #[.float .f32 r34, .float .f32 0, .float .f32 0, .float .f32 0] 30 (0, 0)) := E68.heap (E66.heap (E62.heap (E60.heap (E56.heap (E54.heap (E50.heap B47))))))
  refine da_op rfl (d_store (vs := #[.float .f32 r68]) rfl rfl B70 size22 (Nat.le_of_ble_eq_true rfl) rfl fun w71 S71 => ?_)
  have X72 : Ext w w71 := Ext.step X69 S71.frmb (fun k _ hk => hk ▸ own40)
  have B73 : w71.heap[w34.heap.size]? = some (.cells #[.float .f32 r34, .float .f32 r68, .float .f32 0, .float .f32 0] 30 (0, 0)) := S71.here
  refine da_nil ?_
  refine W_seq ?_
  refine W_region rfl ?_
  refine da_op rfl (d_fieldAddr rfl (fa30_0 _ _) ?_)
  have B74 : w71.heap[w.heap.size]? = some (.cells #[.float .f32 p0r0, .float .f32 p0r1, .float .f32 p0r2, .float .f32 p0r3] 30 (0, 0)) := S71.frmb.heap sp41 (E68.heap (E66.heap B64))
  refine da_op rfl (d_load (v := .float .f32 p0r0) rfl agg22 B74 rfl ?_)
  refine da_op rfl (d_fieldAddr rfl (fa30_2 _ _) ?_)
  have B75 : w71.heap[w1.heap.size]? = some (.cells #[.float .f32 p1r0, .float .f32 p1r1, .float .f32 p1r2, .float .f32 p1r3] 30 (0, 0)) := S71.frmb.heap sp42 (E68.heap (E66.heap B65))
  refine da_op rfl (d_load (v := .float .f32 p1r2) rfl agg22 B75 rfl ?_)
  refine da_op rfl (d_fop (k := .f32) fMul rfl rfl p0h0 p1h2 fun r76 w76 h76 _ E76 => ?_)
  have X77 : Ext w w76 := X72.trans E76
  refine da_op rfl (d_fieldAddr rfl (fa30_1 _ _) ?_)
  have B78 : w76.heap[w.heap.size]? = some (.cells #[.float .f32 p0r0, .float .f32 p0r1, .float .f32 p0r2, .float .f32 p0r3] 30 (0, 0)) := E76.heap B74
  refine da_op rfl (d_load (v := .float .f32 p0r1) rfl agg22 B78 rfl ?_)
  refine da_op rfl (d_fieldAddr rfl (fa30_3 _ _) ?_)
  have B79 : w76.heap[w1.heap.size]? = some (.cells #[.float .f32 p1r0, .float .f32 p1r1, .float .f32 p1r2, .float .f32 p1r3] 30 (0, 0)) := E76.heap B75
  refine da_op rfl (d_load (v := .float .f32 p1r3) rfl agg22 B79 rfl ?_)
  refine da_op rfl (d_fop (k := .f32) fMul rfl rfl p0h1 p1h3 fun r80 w80 h80 _ E80 => ?_)
  have X81 : Ext w w80 := X77.trans E80
  refine da_op rfl (d_fop (k := .f32) fSub rfl rfl h76 h80 fun r82 w82 h82 _ E82 => ?_)
  have X83 : Ext w w82 := X81.trans E82
  refine da_op rfl (d_fieldAddr rfl (fa30_2 _ _) ?_)
  have B84 : w82.heap[w.heap.size]? = some (.cells #[.float .f32 p0r0, .float .f32 p0r1, .float .f32 p0r2, .float .f32 p0r3] 30 (0, 0)) := E82.heap (E80.heap B78)
  refine da_op rfl (d_load (v := .float .f32 p0r2) rfl agg22 B84 rfl ?_)
  refine da_op rfl (d_fieldAddr rfl (fa30_0 _ _) ?_)
  have B85 : w82.heap[w1.heap.size]? = some (.cells #[.float .f32 p1r0, .float .f32 p1r1, .float .f32 p1r2, .float .f32 p1r3] 30 (0, 0)) := E82.heap (E80.heap B79)
  refine da_op rfl (d_load (v := .float .f32 p1r0) rfl agg22 B85 rfl ?_)
  refine da_op rfl (d_fop (k := .f32) fMul rfl rfl p0h2 p1h0 fun r86 w86 h86 _ E86 => ?_)
  have X87 : Ext w w86 := X83.trans E86
  refine da_op rfl (d_fop (k := .f32) fAdd rfl rfl h82 h86 fun r88 w88 h88 _ E88 => ?_)
  have X89 : Ext w w88 := X87.trans E88
  refine da_op rfl (d_fieldAddr rfl (fa30_3 _ _) ?_)
  have B90 : w88.heap[w.heap.size]? = some (.cells #[.float .f32 p0r0, .float .f32 p0r1, .float .f32 p0r2, .float .f32 p0r3] 30 (0, 0)) := E88.heap (E86.heap B84)
  refine da_op rfl (d_load (v := .float .f32 p0r3) rfl agg22 B90 rfl ?_)
  refine da_op rfl (d_fieldAddr rfl (fa30_1 _ _) ?_)
  have B91 : w88.heap[w1.heap.size]? = some (.cells #[.float .f32 p1r0, .float .f32 p1r1, .float .f32 p1r2, .float .f32 p1r3] 30 (0, 0)) := E88.heap (E86.heap B85)
  refine da_op rfl (d_load (v := .float .f32 p1r1) rfl agg22 B91 rfl ?_)
  refine da_op rfl (d_fop (k := .f32) fMul rfl rfl p0h3 p1h1 fun r92 w92 h92 _ E92 => ?_)
  have X93 : Ext w w92 := X89.trans E92
  refine da_op rfl (d_fop (k := .f32) fAdd rfl rfl h88 h92 fun r94 w94 h94 _ E94 => ?_)
  have X95 : Ext w w94 := X93.trans E94
  refine da_op rfl (d_fieldAddr rfl (fa30_2 _ _) ?_)
  have B96 : w94.heap[w34.heap.size]? = some (.cells #[.float .f32 r34, .float .f32 r68, .float .f32 0, .float .f32 0] 30 (0, 0)) := E94.heap (E92.heap (E88.heap (E86.heap (E82.heap (E80.heap (E76.heap B73))))))
  refine da_op rfl (d_store (vs := #[.float .f32 r94]) rfl rfl B96 size22 (Nat.le_of_ble_eq_true rfl) rfl fun w97 S97 => ?_)
  have X98 : Ext w w97 := Ext.step X95 S97.frmb (fun k _ hk => hk ▸ own40)
  have B99 : w97.heap[w34.heap.size]? = some (.cells #[.float .f32 r34, .float .f32 r68, .float .f32 r94, .float .f32 0] 30 (0, 0)) := S97.here
  refine da_nil ?_
  refine W_seq ?_
  refine W_region rfl ?_
  refine da_op rfl (d_fieldAddr rfl (fa30_0 _ _) ?_)
  have B100 : w97.heap[w.heap.size]? = some (.cells #[.float .f32 p0r0, .float .f32 p0r1, .float .f32 p0r2, .float .f32 p0r3] 30 (0, 0)) := S97.frmb.heap sp41 (E94.heap (E92.heap B90))
  refine da_op rfl (d_load (v := .float .f32 p0r0) rfl agg22 B100 rfl ?_)
  refine da_op rfl (d_fieldAddr rfl (fa30_3 _ _) ?_)
  have B101 : w97.heap[w1.heap.size]? = some (.cells #[.float .f32 p1r0, .float .f32 p1r1, .float .f32 p1r2, .float .f32 p1r3] 30 (0, 0)) := S97.frmb.heap sp42 (E94.heap (E92.heap B91))
  refine da_op rfl (d_load (v := .float .f32 p1r3) rfl agg22 B101 rfl ?_)
  refine da_op rfl (d_fop (k := .f32) fMul rfl rfl p0h0 p1h3 fun r102 w102 h102 _ E102 => ?_)
  have X103 : Ext w w102 := X98.trans E102
  refine da_op rfl (d_fieldAddr rfl (fa30_1 _ _) ?_)
  have B104 : w102.heap[w.heap.size]? = some (.cells #[.float .f32 p0r0, .float .f32 p0r1, .float .f32 p0r2, .float .f32 p0r3] 30 (0, 0)) := E102.heap B100
  refine da_op rfl (d_load (v := .float .f32 p0r1) rfl agg22 B104 rfl ?_)
  refine da_op rfl (d_fieldAddr rfl (fa30_2 _ _) ?_)
  have B105 : w102.heap[w1.heap.size]? = some (.cells #[.float .f32 p1r0, .float .f32 p1r1, .float .f32 p1r2, .float .f32 p1r3] 30 (0, 0)) := E102.heap B101
  refine da_op rfl (d_load (v := .float .f32 p1r2) rfl agg22 B105 rfl ?_)
  refine da_op rfl (d_fop (k := .f32) fMul rfl rfl p0h1 p1h2 fun r106 w106 h106 _ E106 => ?_)
  have X107 : Ext w w106 := X103.trans E106
  refine da_op rfl (d_fop (k := .f32) fAdd rfl rfl h102 h106 fun r108 w108 h108 _ E108 => ?_)
  have X109 : Ext w w108 := X107.trans E108
  refine da_op rfl (d_fieldAddr rfl (fa30_2 _ _) ?_)
  have B110 : w108.heap[w.heap.size]? = some (.cells #[.float .f32 p0r0, .float .f32 p0r1, .float .f32 p0r2, .float .f32 p0r3] 30 (0, 0)) := E108.heap (E106.heap B104)
  refine da_op rfl (d_load (v := .float .f32 p0r2) rfl agg22 B110 rfl ?_)
  refine da_op rfl (d_fieldAddr rfl (fa30_1 _ _) ?_)
  have B111 : w108.heap[w1.heap.size]? = some (.cells #[.float .f32 p1r0, .float .f32 p1r1, .float .f32 p1r2, .float .f32 p1r3] 30 (0, 0)) := E108.heap (E106.heap B105)
  refine da_op rfl (d_load (v := .float .f32 p1r1) rfl agg22 B111 rfl ?_)
  refine da_op rfl (d_fop (k := .f32) fMul rfl rfl p0h2 p1h1 fun r112 w112 h112 _ E112 => ?_)
  have X113 : Ext w w112 := X109.trans E112
  refine da_op rfl (d_fop (k := .f32) fSub rfl rfl h108 h112 fun r114 w114 h114 _ E114 => ?_)
  have X115 : Ext w w114 := X113.trans E114
  refine da_op rfl (d_fieldAddr rfl (fa30_3 _ _) ?_)
  have B116 : w114.heap[w.heap.size]? = some (.cells #[.float .f32 p0r0, .float .f32 p0r1, .float .f32 p0r2, .float .f32 p0r3] 30 (0, 0)) := E114.heap (E112.heap B110)
  refine da_op rfl (d_load (v := .float .f32 p0r3) rfl agg22 B116 rfl ?_)
  refine da_op rfl (d_fieldAddr rfl (fa30_0 _ _) ?_)
  have B117 : w114.heap[w1.heap.size]? = some (.cells #[.float .f32 p1r0, .float .f32 p1r1, .float .f32 p1r2, .float .f32 p1r3] 30 (0, 0)) := E114.heap (E112.heap B111)
  refine da_op rfl (d_load (v := .float .f32 p1r0) rfl agg22 B117 rfl ?_)
  refine da_op rfl (d_fop (k := .f32) fMul rfl rfl p0h3 p1h0 fun r118 w118 h118 _ E118 => ?_)
  have X119 : Ext w w118 := X115.trans E118
  refine da_op rfl (d_fop (k := .f32) fAdd rfl rfl h114 h118 fun r120 w120 h120 _ E120 => ?_)
  have X121 : Ext w w120 := X119.trans E120
  refine da_op rfl (d_fieldAddr rfl (fa30_3 _ _) ?_)
  have B122 : w120.heap[w34.heap.size]? = some (.cells #[.float .f32 r34, .float .f32 r68, .float .f32 r94, .float .f32 0] 30 (0, 0)) := E120.heap (E118.heap (E114.heap (E112.heap (E108.heap (E106.heap (E102.heap B99))))))
  refine da_op rfl (d_store (vs := #[.float .f32 r120]) rfl rfl B122 size22 (Nat.le_of_ble_eq_true rfl) rfl fun w123 S123 => ?_)
  have X124 : Ext w w123 := Ext.step X121 S123.frmb (fun k _ hk => hk ▸ own40)
  have B125 : w123.heap[w34.heap.size]? = some (.cells #[.float .f32 r34, .float .f32 r68, .float .f32 r94, .float .f32 r120] 30 (0, 0)) := S123.here
  refine da_nil ?_
  refine W_seq ?_
  refine W_region rfl ?_
  refine da_op rfl (d_loads (vs := #[.float .f32 r34, .float .f32 r68, .float .f32 r94, .float .f32 r120]) rfl agg30 size30 B125 rfl ?_)
  have B126 : w123.heap[w4.heap.size]? = some (.cells #[.float .f32 0, .float .f32 0, .float .f32 0, .float .f32 0] 30 (0, 0)) := S123.frmb.heap sp43 (E120.heap (E118.heap (E114.heap (E112.heap (E108.heap (E106.heap (E102.heap (S97.frmb.heap sp43 (E94.heap (E92.heap (E88.heap (E86.heap (E82.heap (E80.heap (E76.heap (S71.frmb.heap sp43 (E68.heap (E66.heap (E62.heap (E60.heap (E56.heap (E54.heap (E50.heap (S45.frmb.heap sp43 (E36.heap B39)))))))))))))))))))))))))
  refine da_op rfl (d_store (vs := #[.float .f32 r34, .float .f32 r68, .float .f32 r94, .float .f32 r120]) rfl rfl B126 size30 (Nat.le_of_ble_eq_true rfl) rfl fun w127 S127 => ?_)
  have X128 : Ext w w127 := Ext.step X124 S127.frmb (fun k _ hk => hk ▸ own10)
  have B129 : w127.heap[w4.heap.size]? = some (.cells #[.float .f32 r34, .float .f32 r68, .float .f32 r94, .float .f32 r120] 30 (0, 0)) := S127.here
  refine da_nil ?_
  refine W_ret ?_
  subst hr
  refine ⟨_, res1 (rv_cells (vs := #[.float .f32 r34, .float .f32 r68, .float .f32 r94, .float .f32 r120]) rfl agg30 size30 B129 rfl), ?_⟩
  exact ⟨r34, r68, r94, r120, rfl, h34, h68, h94, h120, X128⟩
set_option maxHeartbeats 4000000 in
theorem c134 (p0 : Nat) (p0r : Nat) (r : Nat) (w : World) (hr : M.math_Sqrt p0 = r) (p0h : cn .f64 p0r = p0) :
    Calls Try.prog 134 #[.float .f64 p0r] w fun e w' => ∃ q0r : Nat, e = .returned (.float .f64 q0r) ∧ cn .f64 q0r = r ∧ Ext w w' := by
  refine calls_of_W Try.func134 rfl (Nat.le_of_ble_eq_true rfl) ?_
  refine W_seq ?_
  refine W_region rfl ?_
  refine da_op rfl (d_as (v := .float .f64 0) rfl ?_)
  refine da_nil ?_
  refine W_seq ?_
  refine W_region rfl ?_
  refine da_op rfl (d_mv (v := .float .f64 p0r) rfl ?_)
  refine da_op rfl (d_sqrt sqrtF0 sqrtF1 sqrtF2 (Option.isNone_iff_eq_none.1 sqrtF3) sqrtF4 rfl rfl p0h fun r1 w1 h1 _ E1 => ?_)
  have X2 : Ext w w1 := (Ext.refl w).trans E1
  refine da_op rfl (d_as (v := .float .f64 r1) rfl ?_)
  refine da_nil ?_
  refine W_ret ?_
  subst hr
  refine ⟨_, res1 (rv_tmp rfl), ?_⟩
  exact ⟨r1, rfl, h1, X2⟩
set_option maxHeartbeats 4000000 in
theorem c133 (p0 : Nat) (p0r : Nat) (r : Nat) (w : World) (hr : M.spec_l01Narrow p0 = r) (p0h : cn .f64 p0r = p0) (p0N : Nar p0) :
    Calls Try.prog 133 #[.float .f64 p0r] w fun e w' => ∃ q0r : Nat, e = .returned (.float .f32 q0r) ∧ cn .f32 q0r = r ∧ Ext w w' := by
  refine calls_of_W Try.func133 rfl (Nat.le_of_ble_eq_true rfl) ?_
  refine W_seq ?_
  refine W_region rfl ?_
  refine da_op rfl (d_as (v := .float .f32 0) rfl ?_)
  refine da_nil ?_
  refine W_seq ?_
  refine W_region rfl ?_
  refine da_op rfl (d_mv (v := .float .f64 p0r) rfl ?_)
  refine da_op rfl (d_narrow un95 un22 rfl p0h p0N fun r1 w1 h1 _ E1 => ?_)
  have X2 : Ext w w1 := (Ext.refl w).trans E1
  refine da_op rfl (d_as (v := .float .f32 r1) rfl ?_)
  refine da_nil ?_
  refine W_ret ?_
  subst hr
  refine ⟨_, res1 (rv_tmp rfl), ?_⟩
  exact ⟨r1, rfl, h1, X2⟩
set_option maxHeartbeats 4000000 in
theorem c127 (p0 : Nat) (p0r : Nat) (r : Nat) (w : World) (hr : M.spec_l01Sqrt p0 = r) (p0h : cn .f32 p0r = p0) :
    Calls Try.prog 127 #[.float .f32 p0r] w fun e w' => ∃ q0r : Nat, e = .returned (.float .f32 q0r) ∧ cn .f32 q0r = r ∧ Ext w w' := by
  refine calls_of_W Try.func127 rfl (Nat.le_of_ble_eq_true rfl) ?_
  refine W_seq ?_
  refine W_region rfl ?_
  refine da_op rfl (d_as (v := .float .f32 0) rfl ?_)
  refine da_nil ?_
  refine W_seq ?_
  refine W_region rfl ?_
  refine da_op rfl (d_mv (v := .float .f32 p0r) rfl ?_)
  refine da_op rfl (d_widen un22 un95 rfl p0h fun r1 w1 h1 _ E1 => ?_)
  have X2 : Ext w w1 := (Ext.refl w).trans E1
  obtain ⟨m3, hm3, hr⟩ := letv_out hr
  refine da_op rfl (d_cl (vs := [.float .f64 r1]) en134 (ac rfl rfl) rfl ?_)
  refine (c134 (widen p0) r1 m3 w1 hm3 h1).mono ?_
  rintro _ w4 ⟨q4_0r, rfl, q4_0h, E4⟩
  refine ⟨_, rfl, ?_⟩
  have X5 : Ext w w4 := X2.trans E4
  obtain ⟨m6, hm6, hr⟩ := letv_out hr
  refine da_op rfl (d_cl (vs := [.float .f64 q4_0r]) en133 (ac rfl rfl) rfl ?_)
  refine (c133 m3 q4_0r m6 w4 hm6 q4_0h (by rw [← hm3]; exact nar_sqrt _)).mono ?_
  rintro _ w7 ⟨q7_0r, rfl, q7_0h, E7⟩
  refine ⟨_, rfl, ?_⟩
  have X8 : Ext w w7 := X5.trans E7
  refine da_op rfl (d_as (v := .float .f32 q7_0r) rfl ?_)
  refine da_nil ?_
  refine W_ret ?_
  subst hr
  refine ⟨_, res1 (rv_tmp rfl), ?_⟩
  exact ⟨q7_0r, rfl, q7_0h, X8⟩
set_option maxHeartbeats 4000000 in
theorem c111 (p0 : SSpin) (p0r0 : Nat) (p0r1 : Nat) (p0r2 : Nat) (p0r3 : Nat) (r : Nat) (w : World) (hr : M.spec_l04Size p0 = r) (p0h0 : cn .f32 p0r0 = p0.w) (p0h1 : cn .f32 p0r1 = p0.x) (p0h2 : cn .f32 p0r2 = p0.y) (p0h3 : cn .f32 p0r3 = p0.z) :
    Calls Try.prog 111 #[.agg #[.float .f32 p0r0, .float .f32 p0r1, .float .f32 p0r2, .float .f32 p0r3]] w fun e w' => ∃ q0r : Nat, e = .returned (.float .f32 q0r) ∧ cn .f32 q0r = r ∧ Ext w w' := by
  refine calls_of_W Try.func111 rfl (Nat.le_of_ble_eq_true rfl) ?_
  refine W_seq ?_
  refine W_region rfl ?_
  refine da_op rfl (d_box (cs := #[.float .f32 p0r0, .float .f32 p0r1, .float .f32 p0r2, .float .f32 p0r3]) rfl fun w1 B1 E1 => ?_)
  have own2 : w.heap.size ≤ w.heap.size := Nat.le_trans (Ext.refl w).size (Nat.le_refl _)
  have X3 : Ext w w1 := (Ext.refl w).trans E1
  refine da_op rfl (d_as (v := .float .f32 0) rfl ?_)
  refine da_nil ?_
  refine W_seq ?_
  refine W_region rfl ?_
  refine da_op rfl (d_fieldAddr rfl (fa30_0 _ _) ?_)
  refine da_op rfl (d_load (v := .float .f32 p0r0) rfl agg22 B1 rfl ?_)
  refine da_op rfl (d_fieldAddr rfl (fa30_0 _ _) ?_)
  refine da_op rfl (d_load (v := .float .f32 p0r0) rfl agg22 B1 rfl ?_)
  refine da_op rfl (d_fop (k := .f32) fMul rfl rfl p0h0 p0h0 fun r4 w4 h4 _ E4 => ?_)
  have X5 : Ext w w4 := X3.trans E4
  refine da_op rfl (d_fieldAddr rfl (fa30_1 _ _) ?_)
  have B6 : w4.heap[w.heap.size]? = some (.cells #[.float .f32 p0r0, .float .f32 p0r1, .float .f32 p0r2, .float .f32 p0r3] 30 (0, 0)) := E4.heap B1
  refine da_op rfl (d_load (v := .float .f32 p0r1) rfl agg22 B6 rfl ?_)
  refine da_op rfl (d_fieldAddr rfl (fa30_1 _ _) ?_)
  refine da_op rfl (d_load (v := .float .f32 p0r1) rfl agg22 B6 rfl ?_)
  refine da_op rfl (d_fop (k := .f32) fMul rfl rfl p0h1 p0h1 fun r7 w7 h7 _ E7 => ?_)
  have X8 : Ext w w7 := X5.trans E7
  refine da_op rfl (d_fop (k := .f32) fAdd rfl rfl h4 h7 fun r9 w9 h9 _ E9 => ?_)
  have X10 : Ext w w9 := X8.trans E9
  refine da_op rfl (d_fieldAddr rfl (fa30_2 _ _) ?_)
  have B11 : w9.heap[w.heap.size]? = some (.cells #[.float .f32 p0r0, .float .f32 p0r1, .float .f32 p0r2, .float .f32 p0r3] 30 (0, 0)) := E9.heap (E7.heap B6)
  refine da_op rfl (d_load (v := .float .f32 p0r2) rfl agg22 B11 rfl ?_)
  refine da_op rfl (d_fieldAddr rfl (fa30_2 _ _) ?_)
  refine da_op rfl (d_load (v := .float .f32 p0r2) rfl agg22 B11 rfl ?_)
  refine da_op rfl (d_fop (k := .f32) fMul rfl rfl p0h2 p0h2 fun r12 w12 h12 _ E12 => ?_)
  have X13 : Ext w w12 := X10.trans E12
  refine da_op rfl (d_fop (k := .f32) fAdd rfl rfl h9 h12 fun r14 w14 h14 _ E14 => ?_)
  have X15 : Ext w w14 := X13.trans E14
  refine da_op rfl (d_fieldAddr rfl (fa30_3 _ _) ?_)
  have B16 : w14.heap[w.heap.size]? = some (.cells #[.float .f32 p0r0, .float .f32 p0r1, .float .f32 p0r2, .float .f32 p0r3] 30 (0, 0)) := E14.heap (E12.heap B11)
  refine da_op rfl (d_load (v := .float .f32 p0r3) rfl agg22 B16 rfl ?_)
  refine da_op rfl (d_fieldAddr rfl (fa30_3 _ _) ?_)
  refine da_op rfl (d_load (v := .float .f32 p0r3) rfl agg22 B16 rfl ?_)
  refine da_op rfl (d_fop (k := .f32) fMul rfl rfl p0h3 p0h3 fun r17 w17 h17 _ E17 => ?_)
  have X18 : Ext w w17 := X15.trans E17
  refine da_op rfl (d_fop (k := .f32) fAdd rfl rfl h14 h17 fun r19 w19 h19 _ E19 => ?_)
  have X20 : Ext w w19 := X18.trans E19
  obtain ⟨m21, hm21, hr⟩ := letv_out hr
  have B22 : w19.heap[w.heap.size]? = some (.cells #[.float .f32 p0r0, .float .f32 p0r1, .float .f32 p0r2, .float .f32 p0r3] 30 (0, 0)) := E19.heap (E17.heap B16)
  refine da_op rfl (d_cl (vs := [.float .f32 r19]) en127 (ac rfl rfl) rfl ?_)
  refine (c127 (fop .add .f32 (fop .add .f32 (fop .add .f32 (fop .mul .f32 p0.w p0.w) (fop .mul .f32 p0.x p0.x)) (fop .mul .f32 p0.y p0.y)) (fop .mul .f32 p0.z p0.z)) r19 m21 w19 hm21 h19).mono ?_
  rintro _ w23 ⟨q23_0r, rfl, q23_0h, E23⟩
  refine ⟨_, rfl, ?_⟩
  have X24 : Ext w w23 := X20.trans E23
  refine da_op rfl (d_as (v := .float .f32 q23_0r) rfl ?_)
  refine da_nil ?_
  refine W_ret ?_
  subst hr
  refine ⟨_, res1 (rv_tmp rfl), ?_⟩
  exact ⟨q23_0r, rfl, q23_0h, X24⟩
set_option maxHeartbeats 4000000 in
theorem c91 (p0 : SSpin) (p0r0 : Nat) (p0r1 : Nat) (p0r2 : Nat) (p0r3 : Nat) (r : SSpin × Bool) (w : World) (hr : M.spec_l04Norm p0 = r) (p0h0 : cn .f32 p0r0 = p0.w) (p0h1 : cn .f32 p0r1 = p0.x) (p0h2 : cn .f32 p0r2 = p0.y) (p0h3 : cn .f32 p0r3 = p0.z) :
    Calls Try.prog 91 #[.agg #[.float .f32 p0r0, .float .f32 p0r1, .float .f32 p0r2, .float .f32 p0r3]] w fun e w' => ∃ q0r0 : Nat, ∃ q0r1 : Nat, ∃ q0r2 : Nat, ∃ q0r3 : Nat, e = .returned (.tuple #[.agg #[.float .f32 q0r0, .float .f32 q0r1, .float .f32 q0r2, .float .f32 q0r3], .bool r.2]) ∧ cn .f32 q0r0 = r.1.w ∧ cn .f32 q0r1 = r.1.x ∧ cn .f32 q0r2 = r.1.y ∧ cn .f32 q0r3 = r.1.z ∧ Ext w w' := by
  refine calls_of_W Try.func91 rfl (Nat.le_of_ble_eq_true rfl) ?_
  refine W_seq ?_
  refine W_region rfl ?_
  refine da_op rfl (d_box (cs := #[.float .f32 p0r0, .float .f32 p0r1, .float .f32 p0r2, .float .f32 p0r3]) rfl fun w1 B1 E1 => ?_)
  have own2 : w.heap.size ≤ w.heap.size := Nat.le_trans (Ext.refl w).size (Nat.le_refl _)
  have X3 : Ext w w1 := (Ext.refl w).trans E1
  refine da_op rfl (d_alloc (cs := #[.float .f32 0, .float .f32 0, .float .f32 0, .float .f32 0]) zero30 rfl fun w4 B4 E4 => ?_)
  have own5 : w.heap.size ≤ w1.heap.size := Nat.le_trans X3.size (Nat.le_refl _)
  have sp6 : w.heap.size ≠ w1.heap.size := Nat.ne_of_lt (Nat.lt_of_lt_of_le (lt_heap B1) (Nat.le_refl _))
  have X7 : Ext w w4 := X3.trans E4
  refine da_op rfl (d_as (v := .bool false) rfl ?_)
  refine da_nil ?_
  refine W_seq ?_
  refine W_region rfl ?_
  have B8 : w4.heap[w.heap.size]? = some (.cells #[.float .f32 p0r0, .float .f32 p0r1, .float .f32 p0r2, .float .f32 p0r3] 30 (0, 0)) := E4.heap B1
  refine da_op rfl (d_loads (vs := #[.float .f32 p0r0, .float .f32 p0r1, .float .f32 p0r2, .float .f32 p0r3]) rfl agg30 size30 B8 rfl ?_)
  obtain ⟨m9, hm9, hr⟩ := letv_out hr
  refine da_op rfl (d_cl (vs := [.agg #[.float .f32 p0r0, .float .f32 p0r1, .float .f32 p0r2, .float .f32 p0r3]]) en111 (ac rfl rfl) rfl ?_)
  refine (c111 (⟨p0.w, p0.x, p0.y, p0.z⟩ : SSpin) p0r0 p0r1 p0r2 p0r3 m9 w4 hm9 p0h0 p0h1 p0h2 p0h3).mono ?_
  rintro _ w10 ⟨q10_0r, rfl, q10_0h, E10⟩
  refine ⟨_, rfl, ?_⟩
  have X11 : Ext w w10 := X7.trans E10
  refine da_op rfl (d_as (v := .float .f32 q10_0r) rfl ?_)
  refine da_nil ?_
  refine W_seq ?_
  refine W_region rfl ?_
  refine da_op rfl (d_fieldAddr rfl (fa30_0 _ _) ?_)
  have B12 : w10.heap[w.heap.size]? = some (.cells #[.float .f32 p0r0, .float .f32 p0r1, .float .f32 p0r2, .float .f32 p0r3] 30 (0, 0)) := E10.heap B8
  refine da_op rfl (d_load (v := .float .f32 p0r0) rfl agg22 B12 rfl ?_)
  refine da_op rfl (d_mv (v := .float .f32 q10_0r) rfl ?_)
  refine da_op rfl (d_fop (k := .f32) fQuo rfl rfl p0h0 q10_0h fun r13 w13 h13 _ E13 => ?_)
  have X14 : Ext w w13 := X11.trans E13
  refine da_op rfl (d_fieldAddr rfl (fa30_1 _ _) ?_)
  have B15 : w13.heap[w.heap.size]? = some (.cells #[.float .f32 p0r0, .float .f32 p0r1, .float .f32 p0r2, .float .f32 p0r3] 30 (0, 0)) := E13.heap B12
  refine da_op rfl (d_load (v := .float .f32 p0r1) rfl agg22 B15 rfl ?_)
  refine da_op rfl (d_mv (v := .float .f32 q10_0r) rfl ?_)
  refine da_op rfl (d_fop (k := .f32) fQuo rfl rfl p0h1 q10_0h fun r16 w16 h16 _ E16 => ?_)
  have X17 : Ext w w16 := X14.trans E16
  refine da_op rfl (d_fieldAddr rfl (fa30_2 _ _) ?_)
  have B18 : w16.heap[w.heap.size]? = some (.cells #[.float .f32 p0r0, .float .f32 p0r1, .float .f32 p0r2, .float .f32 p0r3] 30 (0, 0)) := E16.heap B15
  refine da_op rfl (d_load (v := .float .f32 p0r2) rfl agg22 B18 rfl ?_)
  refine da_op rfl (d_mv (v := .float .f32 q10_0r) rfl ?_)
  refine da_op rfl (d_fop (k := .f32) fQuo rfl rfl p0h2 q10_0h fun r19 w19 h19 _ E19 => ?_)
  have X20 : Ext w w19 := X17.trans E19
  refine da_op rfl (d_fieldAddr rfl (fa30_3 _ _) ?_)
  have B21 : w19.heap[w.heap.size]? = some (.cells #[.float .f32 p0r0, .float .f32 p0r1, .float .f32 p0r2, .float .f32 p0r3] 30 (0, 0)) := E19.heap B18
  refine da_op rfl (d_load (v := .float .f32 p0r3) rfl agg22 B21 rfl ?_)
  refine da_op rfl (d_mv (v := .float .f32 q10_0r) rfl ?_)
  refine da_op rfl (d_fop (k := .f32) fQuo rfl rfl p0h3 q10_0h fun r22 w22 h22 _ E22 => ?_)
  have X23 : Ext w w22 := X20.trans E22
  refine da_op rfl (d_bd (vs := [(0, .float .f32 r13), (1, .float .f32 r16), (2, .float .f32 r19), (3, .float .f32 r22)]) (cs := #[.float .f32 r13, .float .f32 r16, .float .f32 r19, .float .f32 r22]) (pc rfl (pc rfl (pc rfl (pc rfl rfl)))) (by kernel_rfl) ?_)
  have B25 : w22.heap[w.heap.size]? = some (.cells #[.float .f32 p0r0, .float .f32 p0r1, .float .f32 p0r2, .float .f32 p0r3] 30 (0, 0)) := E22.heap B21
  have B26 : w22.heap[w1.heap.size]? = some (.cells #[.float .f32 0, .float .f32 0, .float .f32 0, .float .f32 0] 30 (0, 0)) := E22.heap (E19.heap (E16.heap (E13.heap (E10.heap B4))))
  refine da_op rfl (d_alloc (cs := #[.float .f32 0, .float .f32 0, .float .f32 0, .float .f32 0]) zero30 rfl fun w24 B24 E24 => ?_)
  have own27 : w.heap.size ≤ w22.heap.size := Nat.le_trans X23.size (Nat.le_refl _)
  have sp28 : w.heap.size ≠ w22.heap.size := Nat.ne_of_lt (Nat.lt_of_lt_of_le (lt_heap B25) (Nat.le_refl _))
  have sp29 : w1.heap.size ≠ w22.heap.size := Nat.ne_of_lt (Nat.lt_of_lt_of_le (lt_heap B26) (Nat.le_refl _))
  have X30 : Ext w w24 := X23.trans E24
  refine da_op rfl (d_store (vs := #[.float .f32 r13, .float .f32 r16, .float .f32 r19, .float .f32 r22]) rfl rfl B24 size30 (Nat.le_of_ble_eq_true rfl) rfl fun w31 S31 => ?_)
  have X32 : Ext w w31 := Ext.step X30 S31.frmb (fun k _ hk => hk ▸ own27)
  have B33 : w31.heap[w22.heap.size]? = some (.cells #[.float .f32 r13, .float .f32 r16, .float .f32 r19, .float .f32 r22] 30 (0, 0)) := S31.here
  refine da_nil ?_
  refine W_seq ?_
  refine W_seq ?_
  have B35 : w31.heap[w.heap.size]? = some (.cells #[.float .f32 p0r0, .float .f32 p0r1, .float .f32 p0r2, .float .f32 p0r3] 30 (0, 0)) := S31.frmb.heap sp28 (E24.heap B25)
  have B36 : w31.heap[w1.heap.size]? = some (.cells #[.float .f32 0, .float .f32 0, .float .f32 0, .float .f32 0] 30 (0, 0)) := S31.frmb.heap sp29 (E24.heap B26)
  obtain ⟨m34, hm34, hr⟩ := letv_out hr
  refine W_cut (fun σ' w' => σ' 30 = .bool m34 ∧ Ext w31 w') rfl ?_ ?_
  · skip
    have hr := hm34
    obtain ⟨m37, hm37, hr⟩ := letv_out hr
    refine da_op rfl (d_cl (vs := [.pointer (some ⟨w.heap.size, 0, none⟩)]) en59 (ac rfl rfl) rfl ?_)
    refine (c59 (⟨p0.w, p0.x, p0.y, p0.z⟩ : SSpin) w.heap.size 0 #[.float .f32 p0r0, .float .f32 p0r1, .float .f32 p0r2, .float .f32 p0r3] 30 (0, 0) p0r0 p0r1 p0r2 p0r3 m37 w31 hm37 p0h0 p0h1 p0h2 p0h3 B35 rfl).mono ?_
    rintro _ w38 ⟨rfl, E38⟩
    refine ⟨_, rfl, ?_⟩
    have X39 : Ext w w38 := X32.trans E38
    refine da_op rfl (d_not rfl ?_)
    refine da_op rfl (d_mv (v := .bool (!m37)) rfl ?_)
    rcases Bool.eq_false_or_eq_true m37 with hc40 | hc40
    · skip
      replace hr := bif_t hr hc40
      obtain ⟨m41, hm41, hr⟩ := letv_out hr
      have B42 : w38.heap[w22.heap.size]? = some (.cells #[.float .f32 r13, .float .f32 r16, .float .f32 r19, .float .f32 r22] 30 (0, 0)) := E38.heap B33
      have B43 : w38.heap[w.heap.size]? = some (.cells #[.float .f32 p0r0, .float .f32 p0r1, .float .f32 p0r2, .float .f32 p0r3] 30 (0, 0)) := E38.heap B35
      have B44 : w38.heap[w1.heap.size]? = some (.cells #[.float .f32 0, .float .f32 0, .float .f32 0, .float .f32 0] 30 (0, 0)) := E38.heap B36
      refine da_on rfl (Eq.trans (show sl _ _ _ = .bool (!m37) from rfl) (congrArg Value.bool (congrArg not hc40))) (d_cl (vs := [.pointer (some ⟨w22.heap.size, 0, none⟩)]) en59 (ac rfl rfl) rfl ?_)
      refine (c59 (⟨(fop .quo .f32 p0.w m9), (fop .quo .f32 p0.x m9), (fop .quo .f32 p0.y m9), (fop .quo .f32 p0.z m9)⟩ : SSpin) w22.heap.size 0 #[.float .f32 r13, .float .f32 r16, .float .f32 r19, .float .f32 r22] 30 (0, 0) r13 r16 r19 r22 m41 w38 hm41 h13 h16 h19 h22 B42 rfl).mono ?_
      rintro _ w45 ⟨rfl, E45⟩
      refine ⟨_, rfl, ?_⟩
      have X46 : Ext w w45 := X39.trans E45
      refine da_on rfl (Eq.trans (show sl _ _ _ = .bool (!m37) from rfl) (congrArg Value.bool (congrArg not hc40))) (d_not rfl ?_)
      refine da_op rfl (d_pick (b := false) (Eq.trans (show ev _ _ = .bool (!m37) from rfl) (congrArg Value.bool (congrArg not hc40))) ?_)
      refine da_nil ?_
      subst hr
      exact ⟨rfl, (Ext.trans (Ext.trans (Ext.refl w31) E38) E45)⟩
    · skip
      replace hr := bif_f hr hc40
      refine da_off rfl (Eq.trans (show sl _ _ _ = .bool (!m37) from rfl) (congrArg Value.bool (congrArg not hc40))) (by decide) ?_
      refine da_off rfl (Eq.trans (show sl _ _ _ = .bool (!m37) from rfl) (congrArg Value.bool (congrArg not hc40))) (by decide) ?_
      refine da_op rfl (d_pick (b := true) (Eq.trans (show ev _ _ = .bool (!m37) from rfl) (congrArg Value.bool (congrArg not hc40))) ?_)
      refine da_nil ?_
      subst hr
      exact ⟨rfl, (Ext.trans (Ext.refl w31) E38)⟩
  · skip
    rintro σ34 w34 o34 ⟨s30_34, E34⟩
    have s2_34 : σ34 2 = .pointer (some ⟨w1.heap.size, 0, none⟩) := (o34 2 rfl).trans rfl
    have s5_34 : σ34 5 = .pointer (some ⟨w22.heap.size, 0, none⟩) := (o34 5 rfl).trans rfl
    have X47 : Ext w w34 := X32.trans E34
    refine W_cond (b := m34) s30_34 (fun hc48 => ?_) (fun hc48 => ?_)
    · skip
      replace hr := bif_t hr hc48
      refine W_seq ?_
      refine W_region rfl ?_
      refine da_op rfl (d_bd (vs := []) (cs := #[.float .f32 0, .float .f32 0, .float .f32 0, .float .f32 0]) rfl (by kernel_rfl) ?_)
      have B49 : w34.heap[w1.heap.size]? = some (.cells #[.float .f32 0, .float .f32 0, .float .f32 0, .float .f32 0] 30 (0, 0)) := E34.heap B36
      refine da_op rfl (d_store (vs := #[.float .f32 0, .float .f32 0, .float .f32 0, .float .f32 0]) s2_34 rfl B49 size30 (Nat.le_of_ble_eq_true rfl) rfl fun w50 S50 => ?_)
      have X51 : Ext w w50 := Ext.step X47 S50.frmb (fun k _ hk => hk ▸ own5)
      have B52 : w50.heap[w1.heap.size]? = some (.cells #[.float .f32 0, .float .f32 0, .float .f32 0, .float .f32 0] 30 (0, 0)) := S50.here
      refine da_op rfl (d_as (v := .bool false) rfl ?_)
      refine da_nil ?_
      refine W_ret ?_
      subst hr
      refine ⟨_, res2 (rv_cells (vs := #[.float .f32 0, .float .f32 0, .float .f32 0, .float .f32 0]) s2_34 agg30 size30 B52 rfl) (rv_tmp rfl), ?_⟩
      exact ⟨0, 0, 0, 0, rfl, cn_f32_0, cn_f32_0, cn_f32_0, cn_f32_0, X51⟩
    · skip
      replace hr := bif_f hr hc48
      refine W_skip ?_
      refine W_seq ?_
      refine W_region rfl ?_
      have B53 : w34.heap[w22.heap.size]? = some (.cells #[.float .f32 r13, .float .f32 r16, .float .f32 r19, .float .f32 r22] 30 (0, 0)) := E34.heap B33
      refine da_op rfl (d_loads (vs := #[.float .f32 r13, .float .f32 r16, .float .f32 r19, .float .f32 r22]) s5_34 agg30 size30 B53 rfl ?_)
      have B54 : w34.heap[w1.heap.size]? = some (.cells #[.float .f32 0, .float .f32 0, .float .f32 0, .float .f32 0] 30 (0, 0)) := E34.heap B36
      refine da_op rfl (d_store (vs := #[.float .f32 r13, .float .f32 r16, .float .f32 r19, .float .f32 r22]) s2_34 rfl B54 size30 (Nat.le_of_ble_eq_true rfl) rfl fun w55 S55 => ?_)
      have X56 : Ext w w55 := Ext.step X47 S55.frmb (fun k _ hk => hk ▸ own5)
      have B57 : w55.heap[w1.heap.size]? = some (.cells #[.float .f32 r13, .float .f32 r16, .float .f32 r19, .float .f32 r22] 30 (0, 0)) := S55.here
      refine da_op rfl (d_as (v := .bool true) rfl ?_)
      refine da_nil ?_
      refine W_ret ?_
      subst hr
      refine ⟨_, res2 (rv_cells (vs := #[.float .f32 r13, .float .f32 r16, .float .f32 r19, .float .f32 r22]) s2_34 agg30 size30 B57 rfl) (rv_tmp rfl), ?_⟩
      exact ⟨r13, r16, r19, r22, rfl, h13, h16, h19, h22, X56⟩
end Go.Proofs
