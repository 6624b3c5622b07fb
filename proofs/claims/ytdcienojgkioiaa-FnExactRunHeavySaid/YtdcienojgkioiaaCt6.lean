import Derived.Test.YtdcienojgkioiaaCt5
namespace Go.Proofs
open Go Go.Fl Go.RowKit Go.Rg
set_option maxRecDepth 100000
set_option linter.unusedVariables false
attribute [local irreducible] Go.Calls doAll Does DoesG W Wr
set_option maxHeartbeats 4000000 in
theorem c33 (p0 : STop) (p1 : Nat) (p2 : Nat) (p0r0 : Nat) (p0r1 : Nat) (p0r2 : Nat) (p0r3 : Nat) (p0r4 : Nat) (p0r5 : Nat) (p0r6 : Nat) (p0r7 : Nat) (p0r8 : Nat) (p0r9 : Nat) (p1b p1o : Nat) (p1c : Array Value) (p1T : TypeId) (p1f : Nat × Nat) (p1r0 : Nat) (p2b p2o : Nat) (p2c : Array Value) (p2T : TypeId) (p2f : Nat × Nat) (p2r0 : Nat) (r : SVector × Bool) (w : World) (hr : M.impl_RunHeavy_1 p0 p1 p2 = some r) (p0h0 : cn .f32 p0r0 = p0.moments.x) (p0h1 : cn .f32 p0r1 = p0.moments.y) (p0h2 : cn .f32 p0r2 = p0.moments.z) (p0h3 : cn .f32 p0r3 = p0.turn.w) (p0h4 : cn .f32 p0r4 = p0.turn.x) (p0h5 : cn .f32 p0r5 = p0.turn.y) (p0h6 : cn .f32 p0r6 = p0.turn.z) (p0h7 : cn .f32 p0r7 = p0.speed.x) (p0h8 : cn .f32 p0r8 = p0.speed.y) (p0h9 : cn .f32 p0r9 = p0.speed.z) (p1h0 : cn .f32 p1r0 = p1) (p1B : w.heap[p1b]? = some (.cells p1c p1T p1f)) (p1P : (p1c.toList.drop p1o).take 1 = [.float .f32 p1r0]) (p2h0 : cn .f32 p2r0 = p2) (p2B : w.heap[p2b]? = some (.cells p2c p2T p2f)) (p2P : (p2c.toList.drop p2o).take 1 = [.float .f32 p2r0]) :
    Calls Try.prog 33 #[.agg #[.float .f32 p0r0, .float .f32 p0r1, .float .f32 p0r2, .float .f32 p0r3, .float .f32 p0r4, .float .f32 p0r5, .float .f32 p0r6, .float .f32 p0r7, .float .f32 p0r8, .float .f32 p0r9], .pointer (some ⟨p1b, p1o, none⟩), .pointer (some ⟨p2b, p2o, none⟩)] w fun e w' => ∃ q0r0 : Nat, ∃ q0r1 : Nat, ∃ q0r2 : Nat, e = .returned (.tuple #[.agg #[.float .f32 q0r0, .float .f32 q0r1, .float .f32 q0r2], .bool r.2]) ∧ cn .f32 q0r0 = r.1.x ∧ cn .f32 q0r1 = r.1.y ∧ cn .f32 q0r2 = r.1.z ∧ Ext w w' := by
  refine calls_of_W Try.func33 rfl (Nat.le_of_ble_eq_true rfl) ?_
  refine W_seq ?_
  refine W_region rfl ?_
  refine da_op rfl (d_box (cs := #[.float .f32 p0r0, .float .f32 p0r1, .float .f32 p0r2, .float .f32 p0r3, .float .f32 p0r4, .float .f32 p0r5, .float .f32 p0r6, .float .f32 p0r7, .float .f32 p0r8, .float .f32 p0r9]) rfl fun w1 B1 E1 => ?_)
  have own2 : w.heap.size ≤ w.heap.size := Nat.le_trans (Ext.refl w).size (Nat.le_refl _)
  have X3 : Ext w w1 := (Ext.refl w).trans E1
  refine da_op rfl (d_alloc (cs := #[.float .f32 0, .float .f32 0, .float .f32 0]) zero29 rfl fun w4 B4 E4 => ?_)
  have own5 : w.heap.size ≤ w1.heap.size := Nat.le_trans X3.size (Nat.le_refl _)
  have sp6 : w.heap.size ≠ w1.heap.size := Nat.ne_of_lt (Nat.lt_of_lt_of_le (lt_heap B1) (Nat.le_refl _))
  have X7 : Ext w w4 := X3.trans E4
  refine da_op rfl (d_as (v := .bool false) rfl ?_)
  refine da_nil ?_
  refine W_seq ?_
  refine W_region rfl ?_
  have B8 : w4.heap[w.heap.size]? = some (.cells #[.float .f32 p0r0, .float .f32 p0r1, .float .f32 p0r2, .float .f32 p0r3, .float .f32 p0r4, .float .f32 p0r5, .float .f32 p0r6, .float .f32 p0r7, .float .f32 p0r8, .float .f32 p0r9] 32 (0, 0)) := E4.heap B1
  refine da_op rfl (d_loads (vs := #[.float .f32 p0r0, .float .f32 p0r1, .float .f32 p0r2, .float .f32 p0r3, .float .f32 p0r4, .float .f32 p0r5, .float .f32 p0r6, .float .f32 p0r7, .float .f32 p0r8, .float .f32 p0r9]) rfl agg32 size32 B8 rfl ?_)
  have B9 : w4.heap[p1b]? = some (.cells p1c p1T p1f) := X7.heap p1B
  refine da_op rfl (d_load (v := .float .f32 p1r0) rfl agg22 B9 (sub_get (vs := #[.float .f32 p1r0]) p1P (i := 0) rfl) ?_)
  have B10 : w4.heap[p2b]? = some (.cells p2c p2T p2f) := X7.heap p2B
  refine da_op rfl (d_load (v := .float .f32 p2r0) rfl agg22 B10 (sub_get (vs := #[.float .f32 p2r0]) p2P (i := 0) rfl) ?_)
  obtain ⟨m11, hm11, hr⟩ := bind_out hr
  refine da_op rfl (d_cl (vs := [.agg #[.float .f32 p0r0, .float .f32 p0r1, .float .f32 p0r2, .float .f32 p0r3, .float .f32 p0r4, .float .f32 p0r5, .float .f32 p0r6, .float .f32 p0r7, .float .f32 p0r8, .float .f32 p0r9], .float .f32 p1r0, .float .f32 p2r0]) en34 (ac rfl (ac rfl (ac rfl rfl))) rfl ?_)
  refine (c34 p0 p1 p2 p0r0 p0r1 p0r2 p0r3 p0r4 p0r5 p0r6 p0r7 p0r8 p0r9 p1r0 p2r0 m11 w4 hm11 p0h0 p0h1 p0h2 p0h3 p0h4 p0h5 p0h6 p0h7 p0h8 p0h9 p1h0 p2h0).mono ?_
  rintro _ w12 ⟨q12_0r0, q12_0r1, q12_0r2, rfl, q12_0h0, q12_0h1, q12_0h2, E12⟩
  refine ⟨_, rfl, ?_⟩
  have X13 : Ext w w12 := X7.trans E12
  refine da_op rfl (d_extract (v := .agg #[.float .f32 q12_0r0, .float .f32 q12_0r1, .float .f32 q12_0r2]) rfl rfl ?_)
  refine da_op rfl (d_extract (v := .bool m11.2) rfl rfl ?_)
  have B14 : w12.heap[w1.heap.size]? = some (.cells #[.float .f32 0, .float .f32 0, .float .f32 0] 29 (0, 0)) := E12.heap B4
  refine da_op rfl (d_store (vs := #[.float .f32 q12_0r0, .float .f32 q12_0r1, .float .f32 q12_0r2]) rfl rfl B14 size29 (Nat.le_of_ble_eq_true rfl) rfl fun w15 S15 => ?_)
  have X16 : Ext w w15 := Ext.step X13 S15.frmb (fun k _ hk => hk ▸ own5)
  have B17 : w15.heap[w1.heap.size]? = some (.cells #[.float .f32 q12_0r0, .float .f32 q12_0r1, .float .f32 q12_0r2] 29 (0, 0)) := S15.here
  refine da_op rfl (d_as (v := .bool m11.2) rfl ?_)
  refine da_nil ?_
  refine W_ret ?_
  obtain rfl := Option.some.inj hr
  refine ⟨_, res2 (rv_cells (vs := #[.float .f32 q12_0r0, .float .f32 q12_0r1, .float .f32 q12_0r2]) rfl agg29 size29 B17 rfl) (rv_tmp rfl), ?_⟩
  exact ⟨q12_0r0, q12_0r1, q12_0r2, rfl, q12_0h0, q12_0h1, q12_0h2, X16⟩
set_option maxHeartbeats 4000000 in
theorem c26_f33 (p0 : STop) (p1 : Nat) (p2 : Int) (p3c0 : Nat) (p3c1 : Nat) (p0r0 : Nat) (p0r1 : Nat) (p0r2 : Nat) (p0r3 : Nat) (p0r4 : Nat) (p0r5 : Nat) (p0r6 : Nat) (p0r7 : Nat) (p0r8 : Nat) (p0r9 : Nat) (p1r : Nat) (p3c0b p3c0o : Nat) (p3c0c : Array Value) (p3c0T : TypeId) (p3c0f : Nat × Nat) (p3c0r0 : Nat) (p3c1b p3c1o : Nat) (p3c1c : Array Value) (p3c1T : TypeId) (p3c1f : Nat × Nat) (p3c1r0 : Nat) (r : STop × List SVector × Bool) (w : World) (hr : M.impl_runTop_f33 p0 p1 p2 p3c0 p3c1 = some r) (p0h0 : cn .f32 p0r0 = p0.moments.x) (p0h1 : cn .f32 p0r1 = p0.moments.y) (p0h2 : cn .f32 p0r2 = p0.moments.z) (p0h3 : cn .f32 p0r3 = p0.turn.w) (p0h4 : cn .f32 p0r4 = p0.turn.x) (p0h5 : cn .f32 p0r5 = p0.turn.y) (p0h6 : cn .f32 p0r6 = p0.turn.z) (p0h7 : cn .f32 p0r7 = p0.speed.x) (p0h8 : cn .f32 p0r8 = p0.speed.y) (p0h9 : cn .f32 p0r9 = p0.speed.z) (p1h : cn .f32 p1r = p1) (p3c0h0 : cn .f32 p3c0r0 = p3c0) (p3c0B : w.heap[p3c0b]? = some (.cells p3c0c p3c0T p3c0f)) (p3c0P : (p3c0c.toList.drop p3c0o).take 1 = [.float .f32 p3c0r0]) (p3c1h0 : cn .f32 p3c1r0 = p3c1) (p3c1B : w.heap[p3c1b]? = some (.cells p3c1c p3c1T p3c1f)) (p3c1P : (p3c1c.toList.drop p3c1o).take 1 = [.float .f32 p3c1r0]) :
    Calls Try.prog 26 #[.agg #[.float .f32 p0r0, .float .f32 p0r1, .float .f32 p0r2, .float .f32 p0r3, .float .f32 p0r4, .float .f32 p0r5, .float .f32 p0r6, .float .f32 p0r7, .float .f32 p0r8, .float .f32 p0r9], .float .f32 p1r, .int .i64 p2, .func (.func 33) #[] #[.pointer (some ⟨p3c0b, p3c0o, none⟩), .pointer (some ⟨p3c1b, p3c1o, none⟩)]] w fun e w' => ∃ q0r0 : Nat, ∃ q0r1 : Nat, ∃ q0r2 : Nat, ∃ q0r3 : Nat, ∃ q0r4 : Nat, ∃ q0r5 : Nat, ∃ q0r6 : Nat, ∃ q0r7 : Nat, ∃ q0r8 : Nat, ∃ q0r9 : Nat, ∃ q1v : Value, e = .returned (.tuple #[.agg #[.float .f32 q0r0, .float .f32 q0r1, .float .f32 q0r2, .float .f32 q0r3, .float .f32 q0r4, .float .f32 q0r5, .float .f32 q0r6, .float .f32 q0r7, .float .f32 q0r8, .float .f32 q0r9], q1v, .bool r.2.2]) ∧ cn .f32 q0r0 = r.1.moments.x ∧ cn .f32 q0r1 = r.1.moments.y ∧ cn .f32 q0r2 = r.1.moments.z ∧ cn .f32 q0r3 = r.1.turn.w ∧ cn .f32 q0r4 = r.1.turn.x ∧ cn .f32 q0r5 = r.1.turn.y ∧ cn .f32 q0r6 = r.1.turn.z ∧ cn .f32 q0r7 = r.1.speed.x ∧ cn .f32 q0r8 = r.1.speed.y ∧ cn .f32 q0r9 = r.1.speed.z ∧ OS w' 29 encSVector q1v r.2.1 ∧ (∀ k, q1v.ownBlock = some k → w.heap.size ≤ k) ∧ Ext w w' := by
  refine calls_of_W Try.func26 rfl (Nat.le_of_ble_eq_true rfl) ?_
  refine W_seq ?_
  refine W_region rfl ?_
  refine da_op rfl (d_box (cs := #[.float .f32 p0r0, .float .f32 p0r1, .float .f32 p0r2, .float .f32 p0r3, .float .f32 p0r4, .float .f32 p0r5, .float .f32 p0r6, .float .f32 p0r7, .float .f32 p0r8, .float .f32 p0r9]) rfl fun w1 B1 E1 => ?_)
  have own2 : w.heap.size ≤ w.heap.size := Nat.le_trans (Ext.refl w).size (Nat.le_refl _)
  have X3 : Ext w w1 := (Ext.refl w).trans E1
  refine da_op rfl (d_alloc (cs := #[.float .f32 0, .float .f32 0, .float .f32 0, .float .f32 0, .float .f32 0, .float .f32 0, .float .f32 0, .float .f32 0, .float .f32 0, .float .f32 0]) zero32 rfl fun w4 B4 E4 => ?_)
  have own5 : w.heap.size ≤ w1.heap.size := Nat.le_trans X3.size (Nat.le_refl _)
  have sp6 : w.heap.size ≠ w1.heap.size := Nat.ne_of_lt (Nat.lt_of_lt_of_le (lt_heap B1) (Nat.le_refl _))
  have X7 : Ext w w4 := X3.trans E4
  refine da_op rfl (d_as (v := .slice none 0 0) rfl ?_)
  refine da_op rfl (d_as (v := .bool false) rfl ?_)
  refine da_nil ?_
  refine W_seq ?_
  refine W_seq ?_
  have B9 : w4.heap[w.heap.size]? = some (.cells #[.float .f32 p0r0, .float .f32 p0r1, .float .f32 p0r2, .float .f32 p0r3, .float .f32 p0r4, .float .f32 p0r5, .float .f32 p0r6, .float .f32 p0r7, .float .f32 p0r8, .float .f32 p0r9] 32 (0, 0)) := E4.heap B1
  obtain ⟨m8, hm8, hr⟩ := bind_out hr
  refine W_cut (fun σ' w' => σ' 28 = .bool m8 ∧ Ext w4 w') rfl ?_ ?_
  · skip
    have hr := hm8
    refine da_op rfl (d_loads (vs := #[.float .f32 p0r0, .float .f32 p0r1, .float .f32 p0r2, .float .f32 p0r3, .float .f32 p0r4, .float .f32 p0r5, .float .f32 p0r6, .float .f32 p0r7, .float .f32 p0r8, .float .f32 p0r9]) rfl agg32 size32 B9 rfl ?_)
    obtain ⟨m10, hm10, hr⟩ := bind_out hr
    refine da_op rfl (d_cl (vs := [.agg #[.float .f32 p0r0, .float .f32 p0r1, .float .f32 p0r2, .float .f32 p0r3, .float .f32 p0r4, .float .f32 p0r5, .float .f32 p0r6, .float .f32 p0r7, .float .f32 p0r8, .float .f32 p0r9]]) en52 (ac rfl rfl) rfl ?_)
    refine (c52 p0 p0r0 p0r1 p0r2 p0r3 p0r4 p0r5 p0r6 p0r7 p0r8 p0r9 m10 w4 hm10 p0h0 p0h1 p0h2 p0h3 p0h4 p0h5 p0h6 p0h7 p0h8 p0h9).mono ?_
    rintro _ w11 ⟨rfl, E11⟩
    refine ⟨_, rfl, ?_⟩
    have X12 : Ext w w11 := X7.trans E11
    refine da_op rfl (d_not rfl ?_)
    refine da_op rfl (d_mv (v := .bool (!m10)) rfl ?_)
    rcases Bool.eq_false_or_eq_true m10 with hc13 | hc13
    · skip
      replace hr := bif_t hr hc13
      refine da_on rfl (Eq.trans (show sl _ _ _ = .bool (!m10) from rfl) (congrArg Value.bool (congrArg not hc13))) (d_mv (v := .float .f32 p1r) rfl ?_)
      obtain ⟨m14, hm14, hr⟩ := letv_out hr
      have B15 : w11.heap[w.heap.size]? = some (.cells #[.float .f32 p0r0, .float .f32 p0r1, .float .f32 p0r2, .float .f32 p0r3, .float .f32 p0r4, .float .f32 p0r5, .float .f32 p0r6, .float .f32 p0r7, .float .f32 p0r8, .float .f32 p0r9] 32 (0, 0)) := E11.heap B9
      have B16 : w11.heap[w1.heap.size]? = some (.cells #[.float .f32 0, .float .f32 0, .float .f32 0, .float .f32 0, .float .f32 0, .float .f32 0, .float .f32 0, .float .f32 0, .float .f32 0, .float .f32 0] 32 (0, 0)) := E11.heap B4
      refine da_on rfl (Eq.trans (show sl _ _ _ = .bool (!m10) from rfl) (congrArg Value.bool (congrArg not hc13))) (d_cl (vs := [.float .f32 p1r]) en53 (ac rfl rfl) rfl ?_)
      refine (c53 p1 p1r m14 w11 hm14 p1h).mono ?_
      rintro _ w17 ⟨rfl, E17⟩
      refine ⟨_, rfl, ?_⟩
      have X18 : Ext w w17 := X12.trans E17
      refine da_on rfl (Eq.trans (show sl _ _ _ = .bool (!m10) from rfl) (congrArg Value.bool (congrArg not hc13))) (d_not rfl ?_)
      refine da_op rfl (d_pick (b := false) (Eq.trans (show ev _ _ = .bool (!m10) from rfl) (congrArg Value.bool (congrArg not hc13))) ?_)
      refine da_op rfl (d_mv (v := .bool (!m14)) rfl ?_)
      rcases Bool.eq_false_or_eq_true m14 with hc19 | hc19
      · skip
        replace hr := bif_t hr hc19
        refine da_on rfl (Eq.trans (show sl _ _ _ = .bool (!m14) from rfl) (congrArg Value.bool (congrArg not hc19))) (d_mv (v := .int .i64 p2) rfl ?_)
        obtain ⟨m20, hm20, hr⟩ := letv_out hr
        have B21 : w17.heap[w.heap.size]? = some (.cells #[.float .f32 p0r0, .float .f32 p0r1, .float .f32 p0r2, .float .f32 p0r3, .float .f32 p0r4, .float .f32 p0r5, .float .f32 p0r6, .float .f32 p0r7, .float .f32 p0r8, .float .f32 p0r9] 32 (0, 0)) := E17.heap B15
        have B22 : w17.heap[w1.heap.size]? = some (.cells #[.float .f32 0, .float .f32 0, .float .f32 0, .float .f32 0, .float .f32 0, .float .f32 0, .float .f32 0, .float .f32 0, .float .f32 0, .float .f32 0] 32 (0, 0)) := E17.heap B16
        refine da_on rfl (Eq.trans (show sl _ _ _ = .bool (!m14) from rfl) (congrArg Value.bool (congrArg not hc19))) (d_cl (vs := [.int .i64 p2, .int .i64 0, .int .i64 128]) en54 (ac rfl (ac rfl (ac rfl rfl))) rfl ?_)
        refine (c54 p2 0 128 m20 w17 hm20 ).mono ?_
        rintro _ w23 ⟨rfl, E23⟩
        refine ⟨_, rfl, ?_⟩
        have X24 : Ext w w23 := X18.trans E23
        refine da_on rfl (Eq.trans (show sl _ _ _ = .bool (!m14) from rfl) (congrArg Value.bool (congrArg not hc19))) (d_not rfl ?_)
        refine da_op rfl (d_pick (b := false) (Eq.trans (show ev _ _ = .bool (!m14) from rfl) (congrArg Value.bool (congrArg not hc19))) ?_)
        refine da_nil ?_
        obtain rfl := Option.some.inj hr
        exact ⟨rfl, (Ext.trans (Ext.trans (Ext.trans (Ext.refl w4) E11) E17) E23)⟩
      · skip
        replace hr := bif_f hr hc19
        refine da_off rfl (Eq.trans (show sl _ _ _ = .bool (!m14) from rfl) (congrArg Value.bool (congrArg not hc19))) (by decide) ?_
        refine da_off rfl (Eq.trans (show sl _ _ _ = .bool (!m14) from rfl) (congrArg Value.bool (congrArg not hc19))) (by decide) ?_
        refine da_off rfl (Eq.trans (show sl _ _ _ = .bool (!m14) from rfl) (congrArg Value.bool (congrArg not hc19))) (by decide) ?_
        refine da_op rfl (d_pick (b := true) (Eq.trans (show ev _ _ = .bool (!m14) from rfl) (congrArg Value.bool (congrArg not hc19))) ?_)
        refine da_nil ?_
        obtain rfl := Option.some.inj hr
        exact ⟨rfl, (Ext.trans (Ext.trans (Ext.refl w4) E11) E17)⟩
    · skip
      replace hr := bif_f hr hc13
      refine da_off rfl (Eq.trans (show sl _ _ _ = .bool (!m10) from rfl) (congrArg Value.bool (congrArg not hc13))) (by decide) ?_
      refine da_off rfl (Eq.trans (show sl _ _ _ = .bool (!m10) from rfl) (congrArg Value.bool (congrArg not hc13))) (by decide) ?_
      refine da_off rfl (Eq.trans (show sl _ _ _ = .bool (!m10) from rfl) (congrArg Value.bool (congrArg not hc13))) (by decide) ?_
      refine da_op rfl (d_pick (b := true) (Eq.trans (show ev _ _ = .bool (!m10) from rfl) (congrArg Value.bool (congrArg not hc13))) ?_)
      refine da_op rfl (d_mv (v := .bool true) rfl ?_)
      refine da_off rfl rfl (by decide) ?_
      refine da_off rfl rfl (by decide) ?_
      refine da_off rfl rfl (by decide) ?_
      refine da_op rfl (d_pick (b := true) rfl ?_)
      refine da_nil ?_
      obtain rfl := Option.some.inj hr
      exact ⟨rfl, (Ext.trans (Ext.refl w4) E11)⟩
  · skip
    rintro σ8 w8 o8 ⟨s28_8, E8⟩
    have s1_8 : σ8 1 = .float .f32 p1r := (o8 1 rfl).trans rfl
    have s2_8 : σ8 2 = .int .i64 p2 := (o8 2 rfl).trans rfl
    have s3_8 : σ8 3 = .func (.func 33) #[] #[.pointer (some ⟨p3c0b, p3c0o, none⟩), .pointer (some ⟨p3c1b, p3c1o, none⟩)] := (o8 3 rfl).trans rfl
    have s4_8 : σ8 4 = .pointer (some ⟨w.heap.size, 0, none⟩) := (o8 4 rfl).trans rfl
    have s8_8 : σ8 8 = .pointer (some ⟨w1.heap.size, 0, none⟩) := (o8 8 rfl).trans rfl
    have X25 : Ext w w8 := X7.trans E8
    refine W_cond (b := m8) s28_8 (fun hc26 => ?_) (fun hc26 => ?_)
    · skip
      replace hr := bif_t hr hc26
      refine W_seq ?_
      refine W_region rfl ?_
      refine da_op rfl (d_bd (vs := []) (cs := #[.float .f32 0, .float .f32 0, .float .f32 0, .float .f32 0, .float .f32 0, .float .f32 0, .float .f32 0, .float .f32 0, .float .f32 0, .float .f32 0]) rfl (by kernel_rfl) ?_)
      have B27 : w8.heap[w1.heap.size]? = some (.cells #[.float .f32 0, .float .f32 0, .float .f32 0, .float .f32 0, .float .f32 0, .float .f32 0, .float .f32 0, .float .f32 0, .float .f32 0, .float .f32 0] 32 (0, 0)) := E8.heap B4
      refine da_op rfl (d_store (vs := #[.float .f32 0, .float .f32 0, .float .f32 0, .float .f32 0, .float .f32 0, .float .f32 0, .float .f32 0, .float .f32 0, .float .f32 0, .float .f32 0]) s8_8 rfl B27 size32 (Nat.le_of_ble_eq_true rfl) rfl fun w28 S28 => ?_)
      have X29 : Ext w w28 := Ext.step X25 S28.frmb (fun k _ hk => hk ▸ own5)
      have B30 : w28.heap[w1.heap.size]? = some (.cells #[.float .f32 0, .float .f32 0, .float .f32 0, .float .f32 0, .float .f32 0, .float .f32 0, .float .f32 0, .float .f32 0, .float .f32 0, .float .f32 0] 32 (0, 0)) := S28.here
      refine da_op rfl (d_as (v := .slice none 0 0) rfl ?_)
      refine da_op rfl (d_as (v := .bool false) rfl ?_)
      refine da_nil ?_
      refine W_ret ?_
      obtain rfl := Option.some.inj hr
      refine ⟨_, res3 (rv_cells (vs := #[.float .f32 0, .float .f32 0, .float .f32 0, .float .f32 0, .float .f32 0, .float .f32 0, .float .f32 0, .float .f32 0, .float .f32 0, .float .f32 0]) s8_8 agg32 size32 B30 rfl) (rv_tmp rfl) (rv_tmp rfl), ?_⟩
      exact ⟨0, 0, 0, 0, 0, 0, 0, 0, 0, 0, (.slice none 0 0), rfl, cn_f32_0, cn_f32_0, cn_f32_0, cn_f32_0, cn_f32_0, cn_f32_0, cn_f32_0, cn_f32_0, cn_f32_0, cn_f32_0, (OS.nil _ 29 encSVector), (fun k hk => by cases hk), X29⟩
    · skip
      replace hr := bif_f hr hc26
      refine W_skip ?_
      refine W_seq ?_
      refine W_region rfl ?_
      have B32 : w8.heap[w.heap.size]? = some (.cells #[.float .f32 p0r0, .float .f32 p0r1, .float .f32 p0r2, .float .f32 p0r3, .float .f32 p0r4, .float .f32 p0r5, .float .f32 p0r6, .float .f32 p0r7, .float .f32 p0r8, .float .f32 p0r9] 32 (0, 0)) := E8.heap B9
      have B33 : w8.heap[w1.heap.size]? = some (.cells #[.float .f32 0, .float .f32 0, .float .f32 0, .float .f32 0, .float .f32 0, .float .f32 0, .float .f32 0, .float .f32 0, .float .f32 0, .float .f32 0] 32 (0, 0)) := E8.heap B4
      refine da_op rfl (d_bslice0 un33 size29 fun w31 B31 E31 => ?_)
      have fr31 : ∀ k, (Value.slice (some ⟨w8.heap.size, 0, none⟩) 0 0).ownBlock = some k → w8.heap.size ≤ k := fun k hk => by cases hk; exact Nat.le_refl _
      have own31 : ∀ k, (Value.slice (some ⟨w8.heap.size, 0, none⟩) 0 0).ownBlock = some k → w.heap.size ≤ k := fun k hk => Nat.le_trans X25.size (fr31 k hk)
      have sp34 : ¬ (Value.slice (some ⟨w8.heap.size, 0, none⟩) 0 0).ownBlock = some w.heap.size := ne_fresh fr31 (lt_heap B32)
      have sp35 : ¬ (Value.slice (some ⟨w8.heap.size, 0, none⟩) 0 0).ownBlock = some w1.heap.size := ne_fresh fr31 (lt_heap B33)
      have X36 : Ext w w31 := X25.trans E31
      have O31 : OS w31 29 encSVector (Value.slice (some ⟨w8.heap.size, 0, none⟩) 0 0) ([] : List SVector) := OS.box (xs := ([] : List SVector)) B31 rfl (Nat.le_of_ble_eq_true rfl)
      refine da_op rfl (d_as (v := (Value.slice (some ⟨w8.heap.size, 0, none⟩) 0 0)) rfl ?_)
      refine da_nil ?_
      refine W_seq ?_
      refine W_seq ?_
      refine W_region rfl ?_
      refine da_op rfl (d_mv (v := .int .i64 p2) s2_8 ?_)
      refine da_op rfl (d_mv (v := .int .i64 0) rfl ?_)
      refine da_nil ?_
      refine W_block ?_
      have B38 : w31.heap[w.heap.size]? = some (.cells #[.float .f32 p0r0, .float .f32 p0r1, .float .f32 p0r2, .float .f32 p0r3, .float .f32 p0r4, .float .f32 p0r5, .float .f32 p0r6, .float .f32 p0r7, .float .f32 p0r8, .float .f32 p0r9] 32 (0, 0)) := E31.heap B32
      have B39 : w31.heap[w1.heap.size]? = some (.cells #[.float .f32 0, .float .f32 0, .float .f32 0, .float .f32 0, .float .f32 0, .float .f32 0, .float .f32 0, .float .f32 0, .float .f32 0, .float .f32 0] 32 (0, 0)) := E31.heap B33
      obtain ⟨m37, hm37, hr⟩ := bind_out hr
      refine W_loopM hm37 (fun (s37 : List SVector × Int × STop × STop) σ w' => ∃ i37_0v : Value, ∃ i37_2r0 : Nat, ∃ i37_2r1 : Nat, ∃ i37_2r2 : Nat, ∃ i37_2r3 : Nat, ∃ i37_2r4 : Nat, ∃ i37_2r5 : Nat, ∃ i37_2r6 : Nat, ∃ i37_2r7 : Nat, ∃ i37_2r8 : Nat, ∃ i37_2r9 : Nat, ∃ i37_3r0 : Nat, ∃ i37_3r1 : Nat, ∃ i37_3r2 : Nat, ∃ i37_3r3 : Nat, ∃ i37_3r4 : Nat, ∃ i37_3r5 : Nat, ∃ i37_3r6 : Nat, ∃ i37_3r7 : Nat, ∃ i37_3r8 : Nat, ∃ i37_3r9 : Nat, σ 11 = i37_0v ∧ σ 32 = .int .i64 s37.2.1 ∧ σ 1 = .float .f32 p1r ∧ σ 3 = .func (.func 33) #[] #[.pointer (some ⟨p3c0b, p3c0o, none⟩), .pointer (some ⟨p3c1b, p3c1o, none⟩)] ∧ σ 4 = .pointer (some ⟨w.heap.size, 0, none⟩) ∧ σ 8 = .pointer (some ⟨w1.heap.size, 0, none⟩) ∧ σ 31 = .int .i64 p2 ∧ OS w' 29 encSVector i37_0v s37.1 ∧ (∀ k, i37_0v.ownBlock = some k → w.heap.size ≤ k) ∧ cn .f32 i37_2r0 = s37.2.2.1.moments.x ∧ cn .f32 i37_2r1 = s37.2.2.1.moments.y ∧ cn .f32 i37_2r2 = s37.2.2.1.moments.z ∧ cn .f32 i37_2r3 = s37.2.2.1.turn.w ∧ cn .f32 i37_2r4 = s37.2.2.1.turn.x ∧ cn .f32 i37_2r5 = s37.2.2.1.turn.y ∧ cn .f32 i37_2r6 = s37.2.2.1.turn.z ∧ cn .f32 i37_2r7 = s37.2.2.1.speed.x ∧ cn .f32 i37_2r8 = s37.2.2.1.speed.y ∧ cn .f32 i37_2r9 = s37.2.2.1.speed.z ∧ w'.heap[w1.heap.size]? = some (.cells #[.float .f32 i37_2r0, .float .f32 i37_2r1, .float .f32 i37_2r2, .float .f32 i37_2r3, .float .f32 i37_2r4, .float .f32 i37_2r5, .float .f32 i37_2r6, .float .f32 i37_2r7, .float .f32 i37_2r8, .float .f32 i37_2r9] 32 (0, 0)) ∧ cn .f32 i37_3r0 = s37.2.2.2.moments.x ∧ cn .f32 i37_3r1 = s37.2.2.2.moments.y ∧ cn .f32 i37_3r2 = s37.2.2.2.moments.z ∧ cn .f32 i37_3r3 = s37.2.2.2.turn.w ∧ cn .f32 i37_3r4 = s37.2.2.2.turn.x ∧ cn .f32 i37_3r5 = s37.2.2.2.turn.y ∧ cn .f32 i37_3r6 = s37.2.2.2.turn.z ∧ cn .f32 i37_3r7 = s37.2.2.2.speed.x ∧ cn .f32 i37_3r8 = s37.2.2.2.speed.y ∧ cn .f32 i37_3r9 = s37.2.2.2.speed.z ∧ w'.heap[w.heap.size]? = some (.cells #[.float .f32 i37_3r0, .float .f32 i37_3r1, .float .f32 i37_3r2, .float .f32 i37_3r3, .float .f32 i37_3r4, .float .f32 i37_3r5, .float .f32 i37_3r6, .float .f32 i37_3r7, .float .f32 i37_3r8, .float .f32 i37_3r9] 32 (0, 0)) ∧ ¬ i37_0v.ownBlock = some w1.heap.size ∧ ¬ i37_0v.ownBlock = some w.heap.size ∧ Ext w w') (fun (e37 : ((List SVector × STop × STop) ⊕ (List SVector × Bool × STop))) ex σ w' => sel e37 (fun e37 => ex = .exit 0 ∧ ∃ q37_0_0v : Value, ∃ q37_0_1r0 : Nat, ∃ q37_0_1r1 : Nat, ∃ q37_0_1r2 : Nat, ∃ q37_0_1r3 : Nat, ∃ q37_0_1r4 : Nat, ∃ q37_0_1r5 : Nat, ∃ q37_0_1r6 : Nat, ∃ q37_0_1r7 : Nat, ∃ q37_0_1r8 : Nat, ∃ q37_0_1r9 : Nat, ∃ q37_0_2r0 : Nat, ∃ q37_0_2r1 : Nat, ∃ q37_0_2r2 : Nat, ∃ q37_0_2r3 : Nat, ∃ q37_0_2r4 : Nat, ∃ q37_0_2r5 : Nat, ∃ q37_0_2r6 : Nat, ∃ q37_0_2r7 : Nat, ∃ q37_0_2r8 : Nat, ∃ q37_0_2r9 : Nat, σ 11 = q37_0_0v ∧ σ 4 = .pointer (some ⟨w.heap.size, 0, none⟩) ∧ σ 8 = .pointer (some ⟨w1.heap.size, 0, none⟩) ∧ OS w' 29 encSVector q37_0_0v e37.1 ∧ (∀ k, q37_0_0v.ownBlock = some k → w.heap.size ≤ k) ∧ cn .f32 q37_0_1r0 = e37.2.1.moments.x ∧ cn .f32 q37_0_1r1 = e37.2.1.moments.y ∧ cn .f32 q37_0_1r2 = e37.2.1.moments.z ∧ cn .f32 q37_0_1r3 = e37.2.1.turn.w ∧ cn .f32 q37_0_1r4 = e37.2.1.turn.x ∧ cn .f32 q37_0_1r5 = e37.2.1.turn.y ∧ cn .f32 q37_0_1r6 = e37.2.1.turn.z ∧ cn .f32 q37_0_1r7 = e37.2.1.speed.x ∧ cn .f32 q37_0_1r8 = e37.2.1.speed.y ∧ cn .f32 q37_0_1r9 = e37.2.1.speed.z ∧ w'.heap[w1.heap.size]? = some (.cells #[.float .f32 q37_0_1r0, .float .f32 q37_0_1r1, .float .f32 q37_0_1r2, .float .f32 q37_0_1r3, .float .f32 q37_0_1r4, .float .f32 q37_0_1r5, .float .f32 q37_0_1r6, .float .f32 q37_0_1r7, .float .f32 q37_0_1r8, .float .f32 q37_0_1r9] 32 (0, 0)) ∧ cn .f32 q37_0_2r0 = e37.2.2.moments.x ∧ cn .f32 q37_0_2r1 = e37.2.2.moments.y ∧ cn .f32 q37_0_2r2 = e37.2.2.moments.z ∧ cn .f32 q37_0_2r3 = e37.2.2.turn.w ∧ cn .f32 q37_0_2r4 = e37.2.2.turn.x ∧ cn .f32 q37_0_2r5 = e37.2.2.turn.y ∧ cn .f32 q37_0_2r6 = e37.2.2.turn.z ∧ cn .f32 q37_0_2r7 = e37.2.2.speed.x ∧ cn .f32 q37_0_2r8 = e37.2.2.speed.y ∧ cn .f32 q37_0_2r9 = e37.2.2.speed.z ∧ w'.heap[w.heap.size]? = some (.cells #[.float .f32 q37_0_2r0, .float .f32 q37_0_2r1, .float .f32 q37_0_2r2, .float .f32 q37_0_2r3, .float .f32 q37_0_2r4, .float .f32 q37_0_2r5, .float .f32 q37_0_2r6, .float .f32 q37_0_2r7, .float .f32 q37_0_2r8, .float .f32 q37_0_2r9] 32 (0, 0)) ∧ ¬ q37_0_0v.ownBlock = some w1.heap.size ∧ ¬ q37_0_0v.ownBlock = some w.heap.size ∧ Ext w w') (fun e37 => ex = .ret ∧ ∃ q37_1_0v : Value, ∃ q37_1_2r0 : Nat, ∃ q37_1_2r1 : Nat, ∃ q37_1_2r2 : Nat, ∃ q37_1_2r3 : Nat, ∃ q37_1_2r4 : Nat, ∃ q37_1_2r5 : Nat, ∃ q37_1_2r6 : Nat, ∃ q37_1_2r7 : Nat, ∃ q37_1_2r8 : Nat, ∃ q37_1_2r9 : Nat, σ 9 = q37_1_0v ∧ σ 10 = .bool e37.2.1 ∧ σ 8 = .pointer (some ⟨w1.heap.size, 0, none⟩) ∧ OS w' 29 encSVector q37_1_0v e37.1 ∧ (∀ k, q37_1_0v.ownBlock = some k → w.heap.size ≤ k) ∧ cn .f32 q37_1_2r0 = e37.2.2.moments.x ∧ cn .f32 q37_1_2r1 = e37.2.2.moments.y ∧ cn .f32 q37_1_2r2 = e37.2.2.moments.z ∧ cn .f32 q37_1_2r3 = e37.2.2.turn.w ∧ cn .f32 q37_1_2r4 = e37.2.2.turn.x ∧ cn .f32 q37_1_2r5 = e37.2.2.turn.y ∧ cn .f32 q37_1_2r6 = e37.2.2.turn.z ∧ cn .f32 q37_1_2r7 = e37.2.2.speed.x ∧ cn .f32 q37_1_2r8 = e37.2.2.speed.y ∧ cn .f32 q37_1_2r9 = e37.2.2.speed.z ∧ w'.heap[w1.heap.size]? = some (.cells #[.float .f32 q37_1_2r0, .float .f32 q37_1_2r1, .float .f32 q37_1_2r2, .float .f32 q37_1_2r3, .float .f32 q37_1_2r4, .float .f32 q37_1_2r5, .float .f32 q37_1_2r6, .float .f32 q37_1_2r7, .float .f32 q37_1_2r8, .float .f32 q37_1_2r9] 32 (0, 0)) ∧ ¬ q37_1_0v.ownBlock = some w1.heap.size ∧ Ext w w')) ⟨(Value.slice (some ⟨w8.heap.size, 0, none⟩) 0 0), 0, 0, 0, 0, 0, 0, 0, 0, 0, 0, p0r0, p0r1, p0r2, p0r3, p0r4, p0r5, p0r6, p0r7, p0r8, p0r9, rfl, rfl, s1_8, s3_8, s4_8, s8_8, rfl, O31, own31, cn_f32_0, cn_f32_0, cn_f32_0, cn_f32_0, cn_f32_0, cn_f32_0, cn_f32_0, cn_f32_0, cn_f32_0, cn_f32_0, B39, p0h0, p0h1, p0h2, p0h3, p0h4, p0h5, p0h6, p0h7, p0h8, p0h9, B38, sp35, sp34, X36⟩ ?_ ?_
      · skip
        rintro s37 σl37 wl37 r37l ⟨i37_0v, i37_2r0, i37_2r1, i37_2r2, i37_2r3, i37_2r4, i37_2r5, i37_2r6, i37_2r7, i37_2r8, i37_2r9, i37_3r0, i37_3r1, i37_3r2, i37_3r3, i37_3r4, i37_3r5, i37_3r6, i37_3r7, i37_3r8, i37_3r9, i37_S11, i37_S32, i37_S1, i37_S3, i37_S4, i37_S8, i37_S31, i37_0R, i37_0O, i37_2h0, i37_2h1, i37_2h2, i37_2h3, i37_2h4, i37_2h5, i37_2h6, i37_2h7, i37_2h8, i37_2h9, i37_2B, i37_3h0, i37_3h1, i37_3h2, i37_3h3, i37_3h4, i37_3h5, i37_3h6, i37_3h7, i37_3h8, i37_3h9, i37_3B, i37_A0, i37_A1, i37_X⟩ hr
        refine W_seq ?_
        refine W_region rfl ?_
        refine da_op rfl (d_icmp cLss i37_S32 i37_S31 ?_)
        refine da_nil ?_
        refine W_seq ?_
        refine W_cond (b := (icmp .lss s37.2.1 p2)) rfl (fun hc40 => ?_) (fun hc40 => ?_)
        · skip
          replace hr := bif_t hr hc40
          refine W_skip ?_
          refine W_seq ?_
          refine W_block ?_
          refine W_seq ?_
          refine W_region rfl ?_
          refine da_op rfl (d_mv (v := .func (.func 33) #[] #[.pointer (some ⟨p3c0b, p3c0o, none⟩), .pointer (some ⟨p3c1b, p3c1o, none⟩)]) i37_S3 ?_)
          refine da_op rfl (d_loads (vs := #[.float .f32 i37_3r0, .float .f32 i37_3r1, .float .f32 i37_3r2, .float .f32 i37_3r3, .float .f32 i37_3r4, .float .f32 i37_3r5, .float .f32 i37_3r6, .float .f32 i37_3r7, .float .f32 i37_3r8, .float .f32 i37_3r9]) i37_S4 agg32 size32 i37_3B rfl ?_)
          obtain ⟨m41, hm41, hr⟩ := bind_out hr
          have B42 : wl37.heap[p3c0b]? = some (.cells p3c0c p3c0T p3c0f) := i37_X.heap p3c0B
          have B43 : wl37.heap[p3c1b]? = some (.cells p3c1c p3c1T p3c1f) := i37_X.heap p3c1B
          refine da_op rfl (d_clv (vs := [.agg #[.float .f32 i37_3r0, .float .f32 i37_3r1, .float .f32 i37_3r2, .float .f32 i37_3r3, .float .f32 i37_3r4, .float .f32 i37_3r5, .float .f32 i37_3r6, .float .f32 i37_3r7, .float .f32 i37_3r8, .float .f32 i37_3r9]]) (cap := [.pointer (some ⟨p3c0b, p3c0o, none⟩), .pointer (some ⟨p3c1b, p3c1o, none⟩)]) en33 rfl (ac rfl rfl) ?_)
          refine (c33 s37.2.2.2 p3c0 p3c1 i37_3r0 i37_3r1 i37_3r2 i37_3r3 i37_3r4 i37_3r5 i37_3r6 i37_3r7 i37_3r8 i37_3r9 p3c0b p3c0o p3c0c p3c0T p3c0f p3c0r0 p3c1b p3c1o p3c1c p3c1T p3c1f p3c1r0 m41 wl37 hm41 i37_3h0 i37_3h1 i37_3h2 i37_3h3 i37_3h4 i37_3h5 i37_3h6 i37_3h7 i37_3h8 i37_3h9 p3c0h0 B42 (sub_take (vs := #[.float .f32 p3c0r0]) (us := #[.float .f32 p3c0r0]) (i := 0) p3c0P rfl (Nat.le_of_ble_eq_true rfl)) p3c1h0 B43 (sub_take (vs := #[.float .f32 p3c1r0]) (us := #[.float .f32 p3c1r0]) (i := 0) p3c1P rfl (Nat.le_of_ble_eq_true rfl))).mono ?_
          rintro _ w44 ⟨q44_0r0, q44_0r1, q44_0r2, rfl, q44_0h0, q44_0h1, q44_0h2, E44⟩
          refine ⟨_, rfl, ?_⟩
          have X45 : Ext w w44 := i37_X.trans E44
          refine da_op rfl (d_mv (v := .tuple #[.agg #[.float .f32 q44_0r0, .float .f32 q44_0r1, .float .f32 q44_0r2], .bool m41.2]) rfl ?_)
          refine da_op rfl (d_extract (v := .agg #[.float .f32 q44_0r0, .float .f32 q44_0r1, .float .f32 q44_0r2]) rfl rfl ?_)
          refine da_op rfl (d_extract (v := .bool m41.2) rfl rfl ?_)
          have B47 : OS w44 29 encSVector i37_0v s37.1 := i37_0R.ext E44
          have B48 : w44.heap[w1.heap.size]? = some (.cells #[.float .f32 i37_2r0, .float .f32 i37_2r1, .float .f32 i37_2r2, .float .f32 i37_2r3, .float .f32 i37_2r4, .float .f32 i37_2r5, .float .f32 i37_2r6, .float .f32 i37_2r7, .float .f32 i37_2r8, .float .f32 i37_2r9] 32 (0, 0)) := E44.heap i37_2B
          have B49 : w44.heap[w.heap.size]? = some (.cells #[.float .f32 i37_3r0, .float .f32 i37_3r1, .float .f32 i37_3r2, .float .f32 i37_3r3, .float .f32 i37_3r4, .float .f32 i37_3r5, .float .f32 i37_3r6, .float .f32 i37_3r7, .float .f32 i37_3r8, .float .f32 i37_3r9] 32 (0, 0)) := E44.heap i37_3B
          refine da_op rfl (d_alloc (cs := #[.float .f32 0, .float .f32 0, .float .f32 0]) zero29 rfl fun w46 B46 E46 => ?_)
          have own50 : w.heap.size ≤ w44.heap.size := Nat.le_trans X45.size (Nat.le_refl _)
          have sp51 : ¬ i37_0v.ownBlock = some w44.heap.size := OS.ne_new B47 (Nat.le_refl _)
          have sp52 : w1.heap.size ≠ w44.heap.size := Nat.ne_of_lt (Nat.lt_of_lt_of_le (lt_heap B48) (Nat.le_refl _))
          have sp53 : w.heap.size ≠ w44.heap.size := Nat.ne_of_lt (Nat.lt_of_lt_of_le (lt_heap B49) (Nat.le_refl _))
          have X54 : Ext w w46 := X45.trans E46
          refine da_op rfl (d_store (vs := #[.float .f32 q44_0r0, .float .f32 q44_0r1, .float .f32 q44_0r2]) rfl rfl B46 size29 (Nat.le_of_ble_eq_true rfl) rfl fun w55 S55 => ?_)
          have X56 : Ext w w55 := Ext.step X54 S55.frmb (fun k _ hk => hk ▸ own50)
          have B57 : w55.heap[w44.heap.size]? = some (.cells #[.float .f32 q44_0r0, .float .f32 q44_0r1, .float .f32 q44_0r2] 29 (0, 0)) := S55.here
          refine da_op rfl (d_as (v := .bool m41.2) rfl ?_)
          refine da_nil ?_
          refine W_seq ?_
          refine W_region rfl ?_
          have B58 : w55.heap[w.heap.size]? = some (.cells #[.float .f32 i37_3r0, .float .f32 i37_3r1, .float .f32 i37_3r2, .float .f32 i37_3r3, .float .f32 i37_3r4, .float .f32 i37_3r5, .float .f32 i37_3r6, .float .f32 i37_3r7, .float .f32 i37_3r8, .float .f32 i37_3r9] 32 (0, 0)) := S55.frmb.heap sp53 (E46.heap B49)
          refine da_op rfl (d_loads (vs := #[.float .f32 i37_3r0, .float .f32 i37_3r1, .float .f32 i37_3r2, .float .f32 i37_3r3, .float .f32 i37_3r4, .float .f32 i37_3r5, .float .f32 i37_3r6, .float .f32 i37_3r7, .float .f32 i37_3r8, .float .f32 i37_3r9]) i37_S4 agg32 size32 B58 rfl ?_)
          refine da_op rfl (d_loads (vs := #[.float .f32 q44_0r0, .float .f32 q44_0r1, .float .f32 q44_0r2]) rfl agg29 size29 B57 rfl ?_)
          refine da_op rfl (d_mv (v := .float .f32 p1r) i37_S1 ?_)
          obtain ⟨m59, hm59, hr⟩ := bind_out hr
          have B60 : OS w55 29 encSVector i37_0v s37.1 := (B47.ext E46).frm S55.frmb (rb sp51)
          have B61 : w55.heap[w1.heap.size]? = some (.cells #[.float .f32 i37_2r0, .float .f32 i37_2r1, .float .f32 i37_2r2, .float .f32 i37_2r3, .float .f32 i37_2r4, .float .f32 i37_2r5, .float .f32 i37_2r6, .float .f32 i37_2r7, .float .f32 i37_2r8, .float .f32 i37_2r9] 32 (0, 0)) := S55.frmb.heap sp52 (E46.heap B48)
          refine da_op rfl (d_cl (vs := [.agg #[.float .f32 i37_3r0, .float .f32 i37_3r1, .float .f32 i37_3r2, .float .f32 i37_3r3, .float .f32 i37_3r4, .float .f32 i37_3r5, .float .f32 i37_3r6, .float .f32 i37_3r7, .float .f32 i37_3r8, .float .f32 i37_3r9], .agg #[.float .f32 q44_0r0, .float .f32 q44_0r1, .float .f32 q44_0r2], .float .f32 p1r]) en55 (ac rfl (ac rfl (ac rfl rfl))) rfl ?_)
          refine (c55 s37.2.2.2 m41.1 p1 i37_3r0 i37_3r1 i37_3r2 i37_3r3 i37_3r4 i37_3r5 i37_3r6 i37_3r7 i37_3r8 i37_3r9 q44_0r0 q44_0r1 q44_0r2 p1r m59 w55 hm59 i37_3h0 i37_3h1 i37_3h2 i37_3h3 i37_3h4 i37_3h5 i37_3h6 i37_3h7 i37_3h8 i37_3h9 q44_0h0 q44_0h1 q44_0h2 p1h).mono ?_
          rintro _ w62 ⟨q62_0r0, q62_0r1, q62_0r2, q62_0r3, q62_0r4, q62_0r5, q62_0r6, q62_0r7, q62_0r8, q62_0r9, rfl, q62_0h0, q62_0h1, q62_0h2, q62_0h3, q62_0h4, q62_0h5, q62_0h6, q62_0h7, q62_0h8, q62_0h9, E62⟩
          refine ⟨_, rfl, ?_⟩
          have X63 : Ext w w62 := X56.trans E62
          refine da_op rfl (d_mv (v := .tuple #[.agg #[.float .f32 q62_0r0, .float .f32 q62_0r1, .float .f32 q62_0r2, .float .f32 q62_0r3, .float .f32 q62_0r4, .float .f32 q62_0r5, .float .f32 q62_0r6, .float .f32 q62_0r7, .float .f32 q62_0r8, .float .f32 q62_0r9], .bool m59.2]) rfl ?_)
          refine da_op rfl (d_extract (v := .agg #[.float .f32 q62_0r0, .float .f32 q62_0r1, .float .f32 q62_0r2, .float .f32 q62_0r3, .float .f32 q62_0r4, .float .f32 q62_0r5, .float .f32 q62_0r6, .float .f32 q62_0r7, .float .f32 q62_0r8, .float .f32 q62_0r9]) rfl rfl ?_)
          refine da_op rfl (d_extract (v := .bool m59.2) rfl rfl ?_)
          have B65 : OS w62 29 encSVector i37_0v s37.1 := B60.ext E62
          have B66 : w62.heap[w1.heap.size]? = some (.cells #[.float .f32 i37_2r0, .float .f32 i37_2r1, .float .f32 i37_2r2, .float .f32 i37_2r3, .float .f32 i37_2r4, .float .f32 i37_2r5, .float .f32 i37_2r6, .float .f32 i37_2r7, .float .f32 i37_2r8, .float .f32 i37_2r9] 32 (0, 0)) := E62.heap B61
          have B67 : w62.heap[w.heap.size]? = some (.cells #[.float .f32 i37_3r0, .float .f32 i37_3r1, .float .f32 i37_3r2, .float .f32 i37_3r3, .float .f32 i37_3r4, .float .f32 i37_3r5, .float .f32 i37_3r6, .float .f32 i37_3r7, .float .f32 i37_3r8, .float .f32 i37_3r9] 32 (0, 0)) := E62.heap B58
          have B68 : w62.heap[w44.heap.size]? = some (.cells #[.float .f32 q44_0r0, .float .f32 q44_0r1, .float .f32 q44_0r2] 29 (0, 0)) := E62.heap B57
          refine da_op rfl (d_alloc (cs := #[.float .f32 0, .float .f32 0, .float .f32 0, .float .f32 0, .float .f32 0, .float .f32 0, .float .f32 0, .float .f32 0, .float .f32 0, .float .f32 0]) zero32 rfl fun w64 B64 E64 => ?_)
          have own69 : w.heap.size ≤ w62.heap.size := Nat.le_trans X63.size (Nat.le_refl _)
          have sp70 : ¬ i37_0v.ownBlock = some w62.heap.size := OS.ne_new B65 (Nat.le_refl _)
          have sp71 : w1.heap.size ≠ w62.heap.size := Nat.ne_of_lt (Nat.lt_of_lt_of_le (lt_heap B66) (Nat.le_refl _))
          have sp72 : w.heap.size ≠ w62.heap.size := Nat.ne_of_lt (Nat.lt_of_lt_of_le (lt_heap B67) (Nat.le_refl _))
          have sp73 : w44.heap.size ≠ w62.heap.size := Nat.ne_of_lt (Nat.lt_of_lt_of_le (lt_heap B68) (Nat.le_refl _))
          have X74 : Ext w w64 := X63.trans E64
          refine da_op rfl (d_store (vs := #[.float .f32 q62_0r0, .float .f32 q62_0r1, .float .f32 q62_0r2, .float .f32 q62_0r3, .float .f32 q62_0r4, .float .f32 q62_0r5, .float .f32 q62_0r6, .float .f32 q62_0r7, .float .f32 q62_0r8, .float .f32 q62_0r9]) rfl rfl B64 size32 (Nat.le_of_ble_eq_true rfl) rfl fun w75 S75 => ?_)
          have X76 : Ext w w75 := Ext.step X74 S75.frmb (fun k _ hk => hk ▸ own69)
          have B77 : w75.heap[w62.heap.size]? = some (.cells #[.float .f32 q62_0r0, .float .f32 q62_0r1, .float .f32 q62_0r2, .float .f32 q62_0r3, .float .f32 q62_0r4, .float .f32 q62_0r5, .float .f32 q62_0r6, .float .f32 q62_0r7, .float .f32 q62_0r8, .float .f32 q62_0r9] 32 (0, 0)) := S75.here
          refine da_op rfl (d_as (v := .bool m59.2) rfl ?_)
          refine da_nil ?_
          refine W_seq ?_
          refine W_seq ?_
          have B79 : OS w75 29 encSVector i37_0v s37.1 := (B65.ext E64).frm S75.frmb (rb sp70)
          have B80 : w75.heap[w1.heap.size]? = some (.cells #[.float .f32 i37_2r0, .float .f32 i37_2r1, .float .f32 i37_2r2, .float .f32 i37_2r3, .float .f32 i37_2r4, .float .f32 i37_2r5, .float .f32 i37_2r6, .float .f32 i37_2r7, .float .f32 i37_2r8, .float .f32 i37_2r9] 32 (0, 0)) := S75.frmb.heap sp71 (E64.heap B66)
          have B81 : w75.heap[w.heap.size]? = some (.cells #[.float .f32 i37_3r0, .float .f32 i37_3r1, .float .f32 i37_3r2, .float .f32 i37_3r3, .float .f32 i37_3r4, .float .f32 i37_3r5, .float .f32 i37_3r6, .float .f32 i37_3r7, .float .f32 i37_3r8, .float .f32 i37_3r9] 32 (0, 0)) := S75.frmb.heap sp72 (E64.heap B67)
          obtain ⟨m78, hm78, hr⟩ := bind_out hr
          refine W_cut (fun σ' w' => σ' 57 = .bool m78 ∧ Ext w75 w') rfl ?_ ?_
          · skip
            have hr := hm78
            refine da_op rfl (d_mv (v := .bool m41.2) rfl ?_)
            refine da_op rfl (d_not rfl ?_)
            refine da_op rfl (d_mv (v := .bool (!m41.2)) rfl ?_)
            rcases Bool.eq_false_or_eq_true m41.2 with hc82 | hc82
            · skip
              replace hr := bif_t hr hc82
              refine da_on rfl (Eq.trans (show sl _ _ _ = .bool (!m41.2) from rfl) (congrArg Value.bool (congrArg not hc82))) (d_mv (v := .bool m59.2) rfl ?_)
              refine da_on rfl (Eq.trans (show sl _ _ _ = .bool (!m41.2) from rfl) (congrArg Value.bool (congrArg not hc82))) (d_not rfl ?_)
              refine da_op rfl (d_pick (b := false) (Eq.trans (show ev _ _ = .bool (!m41.2) from rfl) (congrArg Value.bool (congrArg not hc82))) ?_)
              refine da_op rfl (d_mv (v := .bool (!m59.2)) rfl ?_)
              rcases Bool.eq_false_or_eq_true m59.2 with hc83 | hc83
              · skip
                replace hr := bif_t hr hc83
                obtain ⟨m84, hm84, hr⟩ := letv_out hr
                refine da_on rfl (Eq.trans (show sl _ _ _ = .bool (!m59.2) from rfl) (congrArg Value.bool (congrArg not hc83))) (d_cl (vs := [.pointer (some ⟨w62.heap.size, 0, none⟩)]) en56 (ac rfl rfl) rfl ?_)
                refine (c56 m59.1 w62.heap.size 0 #[.float .f32 q62_0r0, .float .f32 q62_0r1, .float .f32 q62_0r2, .float .f32 q62_0r3, .float .f32 q62_0r4, .float .f32 q62_0r5, .float .f32 q62_0r6, .float .f32 q62_0r7, .float .f32 q62_0r8, .float .f32 q62_0r9] 32 (0, 0) q62_0r0 q62_0r1 q62_0r2 q62_0r3 q62_0r4 q62_0r5 q62_0r6 q62_0r7 q62_0r8 q62_0r9 m84 w75 hm84 q62_0h0 q62_0h1 q62_0h2 q62_0h3 q62_0h4 q62_0h5 q62_0h6 q62_0h7 q62_0h8 q62_0h9 B77 rfl).mono ?_
                rintro _ w85 ⟨q85_0r0, q85_0r1, q85_0r2, rfl, q85_0h0, q85_0h1, q85_0h2, E85⟩
                refine ⟨_, rfl, ?_⟩
                have X86 : Ext w w85 := X76.trans E85
                obtain ⟨m87, hm87, hr⟩ := bind_out hr
                have B88 : OS w85 29 encSVector i37_0v s37.1 := B79.ext E85
                have B89 : w85.heap[w1.heap.size]? = some (.cells #[.float .f32 i37_2r0, .float .f32 i37_2r1, .float .f32 i37_2r2, .float .f32 i37_2r3, .float .f32 i37_2r4, .float .f32 i37_2r5, .float .f32 i37_2r6, .float .f32 i37_2r7, .float .f32 i37_2r8, .float .f32 i37_2r9] 32 (0, 0)) := E85.heap B80
                have B90 : w85.heap[w.heap.size]? = some (.cells #[.float .f32 i37_3r0, .float .f32 i37_3r1, .float .f32 i37_3r2, .float .f32 i37_3r3, .float .f32 i37_3r4, .float .f32 i37_3r5, .float .f32 i37_3r6, .float .f32 i37_3r7, .float .f32 i37_3r8, .float .f32 i37_3r9] 32 (0, 0)) := E85.heap B81
                have B91 : w85.heap[w62.heap.size]? = some (.cells #[.float .f32 q62_0r0, .float .f32 q62_0r1, .float .f32 q62_0r2, .float .f32 q62_0r3, .float .f32 q62_0r4, .float .f32 q62_0r5, .float .f32 q62_0r6, .float .f32 q62_0r7, .float .f32 q62_0r8, .float .f32 q62_0r9] 32 (0, 0)) := E85.heap B77
                refine da_on rfl (Eq.trans (show sl _ _ _ = .bool (!m59.2) from rfl) (congrArg Value.bool (congrArg not hc83))) (d_cl (vs := [.agg #[.float .f32 q85_0r0, .float .f32 q85_0r1, .float .f32 q85_0r2]]) en25 (ac rfl rfl) rfl ?_)
                refine (c25 m84 q85_0r0 q85_0r1 q85_0r2 m87 w85 hm87 q85_0h0 q85_0h1 q85_0h2).mono ?_
                rintro _ w92 ⟨rfl, E92⟩
                refine ⟨_, rfl, ?_⟩
                have X93 : Ext w w92 := X86.trans E92
                refine da_on rfl (Eq.trans (show sl _ _ _ = .bool (!m59.2) from rfl) (congrArg Value.bool (congrArg not hc83))) (d_not rfl ?_)
                refine da_op rfl (d_pick (b := false) (Eq.trans (show ev _ _ = .bool (!m59.2) from rfl) (congrArg Value.bool (congrArg not hc83))) ?_)
                refine da_nil ?_
                obtain rfl := Option.some.inj hr
                exact ⟨rfl, (Ext.trans (Ext.trans (Ext.refl w75) E85) E92)⟩
              · skip
                replace hr := bif_f hr hc83
                refine da_off rfl (Eq.trans (show sl _ _ _ = .bool (!m59.2) from rfl) (congrArg Value.bool (congrArg not hc83))) (by decide) ?_
                refine da_off rfl (Eq.trans (show sl _ _ _ = .bool (!m59.2) from rfl) (congrArg Value.bool (congrArg not hc83))) (by decide) ?_
                refine da_off rfl (Eq.trans (show sl _ _ _ = .bool (!m59.2) from rfl) (congrArg Value.bool (congrArg not hc83))) (by decide) ?_
                refine da_op rfl (d_pick (b := true) (Eq.trans (show ev _ _ = .bool (!m59.2) from rfl) (congrArg Value.bool (congrArg not hc83))) ?_)
                refine da_nil ?_
                obtain rfl := Option.some.inj hr
                exact ⟨rfl, (Ext.refl w75)⟩
            · skip
              replace hr := bif_f hr hc82
              refine da_off rfl (Eq.trans (show sl _ _ _ = .bool (!m41.2) from rfl) (congrArg Value.bool (congrArg not hc82))) (by decide) ?_
              refine da_off rfl (Eq.trans (show sl _ _ _ = .bool (!m41.2) from rfl) (congrArg Value.bool (congrArg not hc82))) (by decide) ?_
              refine da_op rfl (d_pick (b := true) (Eq.trans (show ev _ _ = .bool (!m41.2) from rfl) (congrArg Value.bool (congrArg not hc82))) ?_)
              refine da_op rfl (d_mv (v := .bool true) rfl ?_)
              refine da_off rfl rfl (by decide) ?_
              refine da_off rfl rfl (by decide) ?_
              refine da_off rfl rfl (by decide) ?_
              refine da_op rfl (d_pick (b := true) rfl ?_)
              refine da_nil ?_
              obtain rfl := Option.some.inj hr
              exact ⟨rfl, (Ext.refl w75)⟩
          · skip
            rintro σ78 w78 o78 ⟨s57_78, E78⟩
            have s11_78 : σ78 11 = i37_0v := (o78 11 rfl).trans i37_S11
            have s32_78 : σ78 32 = .int .i64 s37.2.1 := (o78 32 rfl).trans i37_S32
            have s1_78 : σ78 1 = .float .f32 p1r := (o78 1 rfl).trans i37_S1
            have s3_78 : σ78 3 = .func (.func 33) #[] #[.pointer (some ⟨p3c0b, p3c0o, none⟩), .pointer (some ⟨p3c1b, p3c1o, none⟩)] := (o78 3 rfl).trans i37_S3
            have s4_78 : σ78 4 = .pointer (some ⟨w.heap.size, 0, none⟩) := (o78 4 rfl).trans i37_S4
            have s8_78 : σ78 8 = .pointer (some ⟨w1.heap.size, 0, none⟩) := (o78 8 rfl).trans i37_S8
            have s31_78 : σ78 31 = .int .i64 p2 := (o78 31 rfl).trans i37_S31
            have s14_78 : σ78 14 = .pointer (some ⟨w62.heap.size, 0, none⟩) := (o78 14 rfl).trans rfl
            have X94 : Ext w w78 := X76.trans E78
            refine W_cond (b := m78) s57_78 (fun hc95 => ?_) (fun hc95 => ?_)
            · skip
              replace hr := bif_t hr hc95
              refine W_seq ?_
              refine W_region rfl ?_
              refine da_op rfl (d_bd (vs := []) (cs := #[.float .f32 0, .float .f32 0, .float .f32 0, .float .f32 0, .float .f32 0, .float .f32 0, .float .f32 0, .float .f32 0, .float .f32 0, .float .f32 0]) rfl (by kernel_rfl) ?_)
              have B96 : w78.heap[w1.heap.size]? = some (.cells #[.float .f32 i37_2r0, .float .f32 i37_2r1, .float .f32 i37_2r2, .float .f32 i37_2r3, .float .f32 i37_2r4, .float .f32 i37_2r5, .float .f32 i37_2r6, .float .f32 i37_2r7, .float .f32 i37_2r8, .float .f32 i37_2r9] 32 (0, 0)) := E78.heap B80
              refine da_op rfl (d_store (vs := #[.float .f32 0, .float .f32 0, .float .f32 0, .float .f32 0, .float .f32 0, .float .f32 0, .float .f32 0, .float .f32 0, .float .f32 0, .float .f32 0]) s8_78 rfl B96 size32 (Nat.le_of_ble_eq_true rfl) rfl fun w97 S97 => ?_)
              have X98 : Ext w w97 := Ext.step X94 S97.frmb (fun k _ hk => hk ▸ own5)
              have B99 : w97.heap[w1.heap.size]? = some (.cells #[.float .f32 0, .float .f32 0, .float .f32 0, .float .f32 0, .float .f32 0, .float .f32 0, .float .f32 0, .float .f32 0, .float .f32 0, .float .f32 0] 32 (0, 0)) := S97.here
              refine da_op rfl (d_as (v := .slice none 0 0) rfl ?_)
              refine da_op rfl (d_as (v := .bool false) rfl ?_)
              refine da_nil ?_
              refine W_ret ?_
              obtain rfl := Option.some.inj hr
              exact ⟨_, rfl, rfl, (.slice none 0 0), 0, 0, 0, 0, 0, 0, 0, 0, 0, 0, rfl, rfl, s8_78, (OS.nil _ 29 encSVector), (fun k hk => by cases hk), cn_f32_0, cn_f32_0, cn_f32_0, cn_f32_0, cn_f32_0, cn_f32_0, cn_f32_0, cn_f32_0, cn_f32_0, cn_f32_0, B99, (by intro e; cases e), X98⟩
            · skip
              replace hr := bif_f hr hc95
              refine W_skip ?_
              have B101 : w78.heap[p3c0b]? = some (.cells p3c0c p3c0T p3c0f) := X94.heap p3c0B
              have B102 : w78.heap[p3c1b]? = some (.cells p3c1c p3c1T p3c1f) := X94.heap p3c1B
              have B103 : OS w78 29 encSVector i37_0v s37.1 := B79.ext E78
              have B104 : w78.heap[w1.heap.size]? = some (.cells #[.float .f32 i37_2r0, .float .f32 i37_2r1, .float .f32 i37_2r2, .float .f32 i37_2r3, .float .f32 i37_2r4, .float .f32 i37_2r5, .float .f32 i37_2r6, .float .f32 i37_2r7, .float .f32 i37_2r8, .float .f32 i37_2r9] 32 (0, 0)) := E78.heap B80
              have B105 : w78.heap[w.heap.size]? = some (.cells #[.float .f32 i37_3r0, .float .f32 i37_3r1, .float .f32 i37_3r2, .float .f32 i37_3r3, .float .f32 i37_3r4, .float .f32 i37_3r5, .float .f32 i37_3r6, .float .f32 i37_3r7, .float .f32 i37_3r8, .float .f32 i37_3r9] 32 (0, 0)) := E78.heap B81
              have B106 : w78.heap[w62.heap.size]? = some (.cells #[.float .f32 q62_0r0, .float .f32 q62_0r1, .float .f32 q62_0r2, .float .f32 q62_0r3, .float .f32 q62_0r4, .float .f32 q62_0r5, .float .f32 q62_0r6, .float .f32 q62_0r7, .float .f32 q62_0r8, .float .f32 q62_0r9] 32 (0, 0)) := E78.heap B77
              obtain ⟨m107, hm107, hr⟩ := letv_out hr
              obtain ⟨m108, hm108, hr⟩ := bind_out hr
              refine W_any [fun k _ => i37_0v.ownBlock = some k, fun k _ => k = w.heap.size] [{ V := fun _ v _ => v = (.agg #[.float .f32 q62_0r0, .float .f32 q62_0r1, .float .f32 q62_0r2, .float .f32 q62_0r3, .float .f32 q62_0r4, .float .f32 q62_0r5, .float .f32 q62_0r6, .float .f32 q62_0r7, .float .f32 q62_0r8, .float .f32 q62_0r9]) }, { V := fun _ v _ => v = i37_0v }, { V := fun _ v _ => ∃ d100_2_0r0 : Nat, ∃ d100_2_0r1 : Nat, ∃ d100_2_0r2 : Nat, v = (.agg #[.float .f32 d100_2_0r0, .float .f32 d100_2_0r1, .float .f32 d100_2_0r2]) ∧ cn .f32 d100_2_0r0 = m107.x ∧ cn .f32 d100_2_0r1 = m107.y ∧ cn .f32 d100_2_0r2 = m107.z }, { V := fun _ v w' => ∃ d100_3v : Value, v = d100_3v ∧ (∀ k, d100_3v.ownBlock = some k → w78.heap.size ≤ k) ∧ OS w' 29 encSVector d100_3v ([m107]) }, ⟨fun _ v w' => ∃ d100_4v : Value, v = d100_4v ∧ (∀ k, d100_4v.ownBlock = some k → i37_0v.ownBlock = some k ∨ w78.heap.size ≤ k) ∧ OS w' 29 encSVector d100_4v m108, some 0, fun w' => OS w' 29 encSVector i37_0v s37.1⟩, ⟨fun _ _ w' => w'.heap[w.heap.size]? = some (.cells #[.float .f32 q62_0r0, .float .f32 q62_0r1, .float .f32 q62_0r2, .float .f32 q62_0r3, .float .f32 q62_0r4, .float .f32 q62_0r5, .float .f32 q62_0r6, .float .f32 q62_0r7, .float .f32 q62_0r8, .float .f32 q62_0r9] 32 (0, 0)), some 1, fun w' => w'.heap[w.heap.size]? = some (.cells #[.float .f32 i37_3r0, .float .f32 i37_3r1, .float .f32 i37_3r2, .float .f32 i37_3r3, .float .f32 i37_3r4, .float .f32 i37_3r5, .float .f32 i37_3r6, .float .f32 i37_3r7, .float .f32 i37_3r8, .float .f32 i37_3r9] 32 (0, 0))⟩, { V := fun sg v _ => v = sg 63 }] mixed (by kernel_rfl) ⟨trivial, trivial, trivial, trivial, B103, B105, trivial, trivial⟩ ⟨?_, ?_, ?_, ?_, ?_, ?_, ?_, trivial⟩ ?_
              · skip
                refine ⟨fun _ _ _ _ _ _ h _ => h, fun _ _ h _ => h, fun σ' w' hA hE hD hP => ?_⟩
                have t14 : σ' 14 = .pointer (some ⟨w62.heap.size, 0, none⟩) := (hA 14 rfl).trans s14_78
                have B0_109 : w'.heap[w62.heap.size]? = some (.cells #[.float .f32 q62_0r0, .float .f32 q62_0r1, .float .f32 q62_0r2, .float .f32 q62_0r3, .float .f32 q62_0r4, .float .f32 q62_0r5, .float .f32 q62_0r6, .float .f32 q62_0r7, .float .f32 q62_0r8, .float .f32 q62_0r9] 32 (0, 0)) := hE.heap (not_oth2 sp70 (Ne.symm sp72)) B106
                refine dg_op rfl (d_loads (vs := #[.float .f32 q62_0r0, .float .f32 q62_0r1, .float .f32 q62_0r2, .float .f32 q62_0r3, .float .f32 q62_0r4, .float .f32 q62_0r5, .float .f32 q62_0r6, .float .f32 q62_0r7, .float .f32 q62_0r8, .float .f32 q62_0r9]) t14 agg32 size32 B0_109 rfl ?_)
                exact ⟨rfl, own_none (Ext.refl w')⟩
              · skip
                refine ⟨fun _ _ _ _ _ _ h _ => h, fun _ _ h _ => h, fun σ' w' hA hE hD hP => ?_⟩
                have t11 : σ' 11 = i37_0v := ((hP 6 _ _ rfl rfl (.inr rfl)).2 11 rfl).trans s11_78
                have B0_110 : OS w' 29 encSVector i37_0v s37.1 := (hP 4 _ _ rfl rfl (.inr rfl)).1
                refine dg_op rfl (d_mv (v := i37_0v) t11 ?_)
                exact ⟨rfl, own_none (Ext.refl w')⟩
              · skip
                refine ⟨fun _ _ _ _ _ _ h _ => h, fun _ _ h _ => h, fun σ' w' hA hE hD hP => ?_⟩
                have t14 : σ' 14 = .pointer (some ⟨w62.heap.size, 0, none⟩) := (hA 14 rfl).trans s14_78
                have B0_111 : w'.heap[w62.heap.size]? = some (.cells #[.float .f32 q62_0r0, .float .f32 q62_0r1, .float .f32 q62_0r2, .float .f32 q62_0r3, .float .f32 q62_0r4, .float .f32 q62_0r5, .float .f32 q62_0r6, .float .f32 q62_0r7, .float .f32 q62_0r8, .float .f32 q62_0r9] 32 (0, 0)) := hE.heap (not_oth2 sp70 (Ne.symm sp72)) B106
                refine dg_op rfl (d_cl (vs := [.pointer (some ⟨w62.heap.size, 0, none⟩)]) en56 (ac t14 rfl) rfl ?_)
                refine (c56 m59.1 w62.heap.size 0 #[.float .f32 q62_0r0, .float .f32 q62_0r1, .float .f32 q62_0r2, .float .f32 q62_0r3, .float .f32 q62_0r4, .float .f32 q62_0r5, .float .f32 q62_0r6, .float .f32 q62_0r7, .float .f32 q62_0r8, .float .f32 q62_0r9] 32 (0, 0) q62_0r0 q62_0r1 q62_0r2 q62_0r3 q62_0r4 q62_0r5 q62_0r6 q62_0r7 q62_0r8 q62_0r9 m107 w' hm107 q62_0h0 q62_0h1 q62_0h2 q62_0h3 q62_0h4 q62_0h5 q62_0h6 q62_0h7 q62_0h8 q62_0h9 B0_111 rfl).mono ?_
                rintro _ w112 ⟨q112_0r0, q112_0r1, q112_0r2, rfl, q112_0h0, q112_0h1, q112_0h2, E112⟩
                refine ⟨_, rfl, ?_⟩
                have X113 : Ext w' w112 := (Ext.refl w').trans E112
                exact ⟨⟨q112_0r0, q112_0r1, q112_0r2, rfl, q112_0h0, q112_0h1, q112_0h2⟩, own_none X113⟩
              · skip
                refine ⟨fun _ _ _ w' w'' _ ⟨d100_3v, hv, d100_3vL, d100_3vR⟩ hF => ⟨d100_3v, hv, d100_3vL, d100_3vR.frm hF (fun k hk => (not_oth2 (nb_row B103 (d100_3vL k hk)) (nb_box B105 (d100_3vL k hk))))⟩, fun _ _ h _ => h, fun σ' w' hA hE hD hP => ?_⟩
                obtain ⟨d100_2_0r0, d100_2_0r1, d100_2_0r2, t61, d100_2_0h0, d100_2_0h1, d100_2_0h2⟩ : ∃ d100_2_0r0 : Nat, ∃ d100_2_0r1 : Nat, ∃ d100_2_0r2 : Nat, σ' 61 = (.agg #[.float .f32 d100_2_0r0, .float .f32 d100_2_0r1, .float .f32 d100_2_0r2]) ∧ cn .f32 d100_2_0r0 = m107.x ∧ cn .f32 d100_2_0r1 = m107.y ∧ cn .f32 d100_2_0r2 = m107.z := hD 2 rfl
                refine dg_op rfl (d_bslice (vs := [(0, .agg #[.float .f32 d100_2_0r0, .float .f32 d100_2_0r1, .float .f32 d100_2_0r2])]) (cs := #[.float .f32 d100_2_0r0, .float .f32 d100_2_0r1, .float .f32 d100_2_0r2]) un33 (pc t61 rfl) (by kernel_rfl) fun w114 B114 E114 => ?_)
                have fr114 : ∀ k, (Value.slice (some ⟨w'.heap.size, 0, none⟩) 1 1).ownBlock = some k → w'.heap.size ≤ k := fun k hk => by cases hk; exact Nat.le_refl _
                have X115 : Ext w' w114 := (Ext.refl w').trans E114
                have O114 : OS w114 29 encSVector (Value.slice (some ⟨w'.heap.size, 0, none⟩) 1 1) [m107] := OS.box (xs := [m107]) B114 (lc_f d100_2_0h0 (lc_f d100_2_0h1 (lc_f d100_2_0h2 rfl))) (Nat.le_of_ble_eq_true rfl)
                exact ⟨⟨(Value.slice (some ⟨w'.heap.size, 0, none⟩) 1 1), rfl, (fun k hk => Nat.le_trans hE.size (fr114 k hk)), O114⟩, own_none X115⟩
              · skip
                refine ⟨fun _ _ _ w' w'' _ ⟨d100_4v, hv, d100_4vL, d100_4vR⟩ hF => ⟨d100_4v, hv, d100_4vL, d100_4vR.frm hF (fun k hk => (not_oth2a (nb_box2 (d100_4vL k hk) i37_A1 B105)))⟩, fun _ _ h hF => h.frm hF (fun k hk => (not_oth2a ((rb i37_A1) k hk))), fun σ' w' hA hE hD hP => ?_⟩
                have t60 : σ' 60 = i37_0v := hD 1 rfl
                obtain ⟨d100_3v, t62, d100_3vL, d100_3vR⟩ : ∃ d100_3v : Value, σ' 62 = d100_3v ∧ (∀ k, d100_3v.ownBlock = some k → w78.heap.size ≤ k) ∧ OS w' 29 encSVector d100_3v ([m107]) := hD 3 rfl
                have B0_116 : OS w' 29 encSVector i37_0v s37.1 := (hP 4 _ _ rfl rfl (.inl rfl)).1
                refine dg_op rfl (d_append (e := encSVector) (v := i37_0v) (y := d100_3v) un33 info29 rfl (by kernel_rfl) (by kernel_rfl) (by decide) (by decide) t60 t62 B0_116 d100_3vR.rs hm108 fun v117 w117 O117 Fm117 at_117 nl117 => ?_)
                exact ⟨⟨v117, rfl, (app_loc at_117 hE.size), O117⟩, own_some (j := 0) rfl Fm117⟩
              · skip
                refine ⟨fun _ _ _ w' w'' _ hB hF => hF.heap (not_oth2b i37_A1) hB, fun _ _ h hF => hF.heap (not_oth2b i37_A1) h, fun σ' w' hA hE hD hP => ?_⟩
                have t4 : σ' 4 = .pointer (some ⟨w.heap.size, 0, none⟩) := (hA 4 rfl).trans s4_78
                have t59 : σ' 59 = (.agg #[.float .f32 q62_0r0, .float .f32 q62_0r1, .float .f32 q62_0r2, .float .f32 q62_0r3, .float .f32 q62_0r4, .float .f32 q62_0r5, .float .f32 q62_0r6, .float .f32 q62_0r7, .float .f32 q62_0r8, .float .f32 q62_0r9]) := hD 0 rfl
                have B0_118 : w'.heap[w.heap.size]? = some (.cells #[.float .f32 i37_3r0, .float .f32 i37_3r1, .float .f32 i37_3r2, .float .f32 i37_3r3, .float .f32 i37_3r4, .float .f32 i37_3r5, .float .f32 i37_3r6, .float .f32 i37_3r7, .float .f32 i37_3r8, .float .f32 i37_3r9] 32 (0, 0)) := (hP 5 _ _ rfl rfl (.inl rfl)).1
                refine dg_op rfl (d_store (vs := #[.float .f32 q62_0r0, .float .f32 q62_0r1, .float .f32 q62_0r2, .float .f32 q62_0r3, .float .f32 q62_0r4, .float .f32 q62_0r5, .float .f32 q62_0r6, .float .f32 q62_0r7, .float .f32 q62_0r8, .float .f32 q62_0r9]) t4 (congrArg Value.cells t59) B0_118 size32 (Nat.le_of_ble_eq_true rfl) rfl fun w119 S119 => ?_)
                have B120 : w119.heap[w.heap.size]? = some (.cells #[.float .f32 q62_0r0, .float .f32 q62_0r1, .float .f32 q62_0r2, .float .f32 q62_0r3, .float .f32 q62_0r4, .float .f32 q62_0r5, .float .f32 q62_0r6, .float .f32 q62_0r7, .float .f32 q62_0r8, .float .f32 q62_0r9] 32 (0, 0)) := S119.here
                exact ⟨B120, own_some (j := 1) rfl S119.frmb⟩
              · skip
                refine ⟨fun _ _ _ _ _ hs h _ => h.trans (hs 4 rfl).symm, fun _ _ h _ => h, fun σ' w' hA hE hD hP => ?_⟩
                exact dg_op rfl (d_as rfl ⟨rfl, own_none (Ext.refl _)⟩)
              · skip
                intro σ100 w100 A100 E100 V100
                obtain ⟨z100_11_4v, s11_100, z100_11_4vL, z100_11_4vR⟩ : ∃ z100_11_4v : Value, σ100 63 = z100_11_4v ∧ (∀ k, z100_11_4v.ownBlock = some k → i37_0v.ownBlock = some k ∨ w78.heap.size ≤ k) ∧ OS w100 29 encSVector z100_11_4v m108 := V100 4 (Nat.le_of_ble_eq_true rfl)
                have Bm1_100 : w100.heap[w.heap.size]? = some (.cells #[.float .f32 q62_0r0, .float .f32 q62_0r1, .float .f32 q62_0r2, .float .f32 q62_0r3, .float .f32 q62_0r4, .float .f32 q62_0r5, .float .f32 q62_0r6, .float .f32 q62_0r7, .float .f32 q62_0r8, .float .f32 q62_0r9] 32 (0, 0)) := V100 5 (Nat.le_of_ble_eq_true rfl)
                have own121 : ∀ k, z100_11_4v.ownBlock = some k → w.heap.size ≤ k := app_own2 z100_11_4vL i37_0O X94.size
                have sp122 : ¬ z100_11_4v.ownBlock = some w1.heap.size := app_nb2 z100_11_4vL i37_A0 B104
                have sp123 : ¬ z100_11_4v.ownBlock = some w.heap.size := app_nb2 z100_11_4vL i37_A1 B105
                have sp124 : ¬ z100_11_4v.ownBlock = some w62.heap.size := app_nb2 z100_11_4vL sp70 B106
                have s32_100 : σ100 32 = .int .i64 s37.2.1 := (A100 32 rfl).trans s32_78
                have s1_100 : σ100 1 = .float .f32 p1r := (A100 1 rfl).trans s1_78
                have s3_100 : σ100 3 = .func (.func 33) #[] #[.pointer (some ⟨p3c0b, p3c0o, none⟩), .pointer (some ⟨p3c1b, p3c1o, none⟩)] := (A100 3 rfl).trans s3_78
                have s4_100 : σ100 4 = .pointer (some ⟨w.heap.size, 0, none⟩) := (A100 4 rfl).trans s4_78
                have s8_100 : σ100 8 = .pointer (some ⟨w1.heap.size, 0, none⟩) := (A100 8 rfl).trans s8_78
                have s31_100 : σ100 31 = .int .i64 p2 := (A100 31 rfl).trans s31_78
                have X125 : Ext w w100 := Ext.step X94 E100 (oth_own2 (fun k _ hk => i37_0O k hk) (fun k _ hk => hk ▸ own2))
                refine W_region rfl ?_
                refine da_op rfl (d_iarith s32_100 rfl (.inl ⟨rfl, rfl⟩) ?_)
                refine da_op rfl (d_mv (v := .int .i64 (IntKind.i64.wrap (s37.2.1 + 1))) rfl ?_)
                refine da_nil ?_
                have B126 : w100.heap[w1.heap.size]? = some (.cells #[.float .f32 i37_2r0, .float .f32 i37_2r1, .float .f32 i37_2r2, .float .f32 i37_2r3, .float .f32 i37_2r4, .float .f32 i37_2r5, .float .f32 i37_2r6, .float .f32 i37_2r7, .float .f32 i37_2r8, .float .f32 i37_2r9] 32 (0, 0)) := E100.heap (not_oth2 i37_A0 (Ne.symm sp6)) B104
                obtain rfl := Option.some.inj hr
                exact ⟨_, rfl, ⟨z100_11_4v, i37_2r0, i37_2r1, i37_2r2, i37_2r3, i37_2r4, i37_2r5, i37_2r6, i37_2r7, i37_2r8, i37_2r9, q62_0r0, q62_0r1, q62_0r2, q62_0r3, q62_0r4, q62_0r5, q62_0r6, q62_0r7, q62_0r8, q62_0r9, (Eq.trans (show σ100 11 = σ100 63 from V100 6 (Nat.le_of_ble_eq_true rfl)) s11_100), rfl, s1_100, s3_100, s4_100, s8_100, s31_100, z100_11_4vR, own121, i37_2h0, i37_2h1, i37_2h2, i37_2h3, i37_2h4, i37_2h5, i37_2h6, i37_2h7, i37_2h8, i37_2h9, B126, q62_0h0, q62_0h1, q62_0h2, q62_0h3, q62_0h4, q62_0h5, q62_0h6, q62_0h7, q62_0h8, q62_0h9, Bm1_100, sp122, sp123, X125⟩⟩
        · skip
          replace hr := bif_f hr hc40
          refine W_exit ?_
          obtain rfl := Option.some.inj hr
          exact ⟨_, rfl, rfl, i37_0v, i37_2r0, i37_2r1, i37_2r2, i37_2r3, i37_2r4, i37_2r5, i37_2r6, i37_2r7, i37_2r8, i37_2r9, i37_3r0, i37_3r1, i37_3r2, i37_3r3, i37_3r4, i37_3r5, i37_3r6, i37_3r7, i37_3r8, i37_3r9, i37_S11, i37_S4, i37_S8, i37_0R, i37_0O, i37_2h0, i37_2h1, i37_2h2, i37_2h3, i37_2h4, i37_2h5, i37_2h6, i37_2h7, i37_2h8, i37_2h9, i37_2B, i37_3h0, i37_3h1, i37_3h2, i37_3h3, i37_3h4, i37_3h5, i37_3h6, i37_3h7, i37_3h8, i37_3h9, i37_3B, i37_A0, i37_A1, i37_X⟩
      · skip
        intro ex σx37 wx37 hq
        rcases m37 with m37 | m37
        · skip
          obtain ⟨rfl, q37_0_0v, q37_0_1r0, q37_0_1r1, q37_0_1r2, q37_0_1r3, q37_0_1r4, q37_0_1r5, q37_0_1r6, q37_0_1r7, q37_0_1r8, q37_0_1r9, q37_0_2r0, q37_0_2r1, q37_0_2r2, q37_0_2r3, q37_0_2r4, q37_0_2r5, q37_0_2r6, q37_0_2r7, q37_0_2r8, q37_0_2r9, q37_0_S11, q37_0_S4, q37_0_S8, q37_0_0R, q37_0_0O, q37_0_1h0, q37_0_1h1, q37_0_1h2, q37_0_1h3, q37_0_1h4, q37_0_1h5, q37_0_1h6, q37_0_1h7, q37_0_1h8, q37_0_1h9, q37_0_1B, q37_0_2h0, q37_0_2h1, q37_0_2h2, q37_0_2h3, q37_0_2h4, q37_0_2h5, q37_0_2h6, q37_0_2h7, q37_0_2h8, q37_0_2h9, q37_0_2B, q37_0_A0, q37_0_A1, q37_0_X⟩ := hq
          refine W_seq ?_
          refine W_region rfl ?_
          refine da_op rfl (d_loads (vs := #[.float .f32 q37_0_2r0, .float .f32 q37_0_2r1, .float .f32 q37_0_2r2, .float .f32 q37_0_2r3, .float .f32 q37_0_2r4, .float .f32 q37_0_2r5, .float .f32 q37_0_2r6, .float .f32 q37_0_2r7, .float .f32 q37_0_2r8, .float .f32 q37_0_2r9]) q37_0_S4 agg32 size32 q37_0_2B rfl ?_)
          refine da_op rfl (d_mv (v := q37_0_0v) q37_0_S11 ?_)
          refine da_op rfl (d_store (vs := #[.float .f32 q37_0_2r0, .float .f32 q37_0_2r1, .float .f32 q37_0_2r2, .float .f32 q37_0_2r3, .float .f32 q37_0_2r4, .float .f32 q37_0_2r5, .float .f32 q37_0_2r6, .float .f32 q37_0_2r7, .float .f32 q37_0_2r8, .float .f32 q37_0_2r9]) q37_0_S8 rfl q37_0_1B size32 (Nat.le_of_ble_eq_true rfl) rfl fun w127 S127 => ?_)
          have X128 : Ext w w127 := Ext.step q37_0_X S127.frmb (fun k _ hk => hk ▸ own5)
          have B129 : w127.heap[w1.heap.size]? = some (.cells #[.float .f32 q37_0_2r0, .float .f32 q37_0_2r1, .float .f32 q37_0_2r2, .float .f32 q37_0_2r3, .float .f32 q37_0_2r4, .float .f32 q37_0_2r5, .float .f32 q37_0_2r6, .float .f32 q37_0_2r7, .float .f32 q37_0_2r8, .float .f32 q37_0_2r9] 32 (0, 0)) := S127.here
          refine da_op rfl (d_as (v := q37_0_0v) rfl ?_)
          refine da_op rfl (d_as (v := .bool true) rfl ?_)
          refine da_nil ?_
          refine W_ret ?_
          have B130 : OS w127 29 encSVector q37_0_0v m37.1 := q37_0_0R.frm S127.frmb (rb q37_0_A0)
          obtain rfl := Option.some.inj hr
          refine ⟨_, res3 (rv_cells (vs := #[.float .f32 q37_0_2r0, .float .f32 q37_0_2r1, .float .f32 q37_0_2r2, .float .f32 q37_0_2r3, .float .f32 q37_0_2r4, .float .f32 q37_0_2r5, .float .f32 q37_0_2r6, .float .f32 q37_0_2r7, .float .f32 q37_0_2r8, .float .f32 q37_0_2r9]) q37_0_S8 agg32 size32 B129 rfl) (rv_tmp rfl) (rv_tmp rfl), ?_⟩
          exact ⟨q37_0_2r0, q37_0_2r1, q37_0_2r2, q37_0_2r3, q37_0_2r4, q37_0_2r5, q37_0_2r6, q37_0_2r7, q37_0_2r8, q37_0_2r9, q37_0_0v, rfl, q37_0_2h0, q37_0_2h1, q37_0_2h2, q37_0_2h3, q37_0_2h4, q37_0_2h5, q37_0_2h6, q37_0_2h7, q37_0_2h8, q37_0_2h9, B130, q37_0_0O, X128⟩
        · skip
          obtain ⟨rfl, q37_1_0v, q37_1_2r0, q37_1_2r1, q37_1_2r2, q37_1_2r3, q37_1_2r4, q37_1_2r5, q37_1_2r6, q37_1_2r7, q37_1_2r8, q37_1_2r9, q37_1_S9, q37_1_S10, q37_1_S8, q37_1_0R, q37_1_0O, q37_1_2h0, q37_1_2h1, q37_1_2h2, q37_1_2h3, q37_1_2h4, q37_1_2h5, q37_1_2h6, q37_1_2h7, q37_1_2h8, q37_1_2h9, q37_1_2B, q37_1_A0, q37_1_X⟩ := hq
          obtain rfl := Option.some.inj hr
          refine ⟨_, res3 (rv_cells (vs := #[.float .f32 q37_1_2r0, .float .f32 q37_1_2r1, .float .f32 q37_1_2r2, .float .f32 q37_1_2r3, .float .f32 q37_1_2r4, .float .f32 q37_1_2r5, .float .f32 q37_1_2r6, .float .f32 q37_1_2r7, .float .f32 q37_1_2r8, .float .f32 q37_1_2r9]) q37_1_S8 agg32 size32 q37_1_2B rfl) (rv_tmp q37_1_S9) (rv_tmp q37_1_S10), ?_⟩
          exact ⟨q37_1_2r0, q37_1_2r1, q37_1_2r2, q37_1_2r3, q37_1_2r4, q37_1_2r5, q37_1_2r6, q37_1_2r7, q37_1_2r8, q37_1_2r9, q37_1_0v, rfl, q37_1_2h0, q37_1_2h1, q37_1_2h2, q37_1_2h3, q37_1_2h4, q37_1_2h5, q37_1_2h6, q37_1_2h7, q37_1_2h8, q37_1_2h9, q37_1_0R, q37_1_0O, q37_1_X⟩
set_option maxHeartbeats 4000000 in
theorem c15 (p0 : STop) (p1 : Nat) (p2 : Nat) (p3 : Nat) (p4 : Int) (p0r0 : Nat) (p0r1 : Nat) (p0r2 : Nat) (p0r3 : Nat) (p0r4 : Nat) (p0r5 : Nat) (p0r6 : Nat) (p0r7 : Nat) (p0r8 : Nat) (p0r9 : Nat) (p1r : Nat) (p2r : Nat) (p3r : Nat) (r : STop × List SVector × Bool) (w : World) (hr : M.impl_RunHeavy p0 p1 p2 p3 p4 = some r) (p0h0 : cn .f32 p0r0 = p0.moments.x) (p0h1 : cn .f32 p0r1 = p0.moments.y) (p0h2 : cn .f32 p0r2 = p0.moments.z) (p0h3 : cn .f32 p0r3 = p0.turn.w) (p0h4 : cn .f32 p0r4 = p0.turn.x) (p0h5 : cn .f32 p0r5 = p0.turn.y) (p0h6 : cn .f32 p0r6 = p0.turn.z) (p0h7 : cn .f32 p0r7 = p0.speed.x) (p0h8 : cn .f32 p0r8 = p0.speed.y) (p0h9 : cn .f32 p0r9 = p0.speed.z) (p1h : cn .f32 p1r = p1) (p2h : cn .f32 p2r = p2) (p3h : cn .f32 p3r = p3) :
    Calls Try.prog 15 #[.agg #[.float .f32 p0r0, .float .f32 p0r1, .float .f32 p0r2, .float .f32 p0r3, .float .f32 p0r4, .float .f32 p0r5, .float .f32 p0r6, .float .f32 p0r7, .float .f32 p0r8, .float .f32 p0r9], .float .f32 p1r, .float .f32 p2r, .float .f32 p3r, .int .i64 p4] w fun e w' => ∃ q0r0 : Nat, ∃ q0r1 : Nat, ∃ q0r2 : Nat, ∃ q0r3 : Nat, ∃ q0r4 : Nat, ∃ q0r5 : Nat, ∃ q0r6 : Nat, ∃ q0r7 : Nat, ∃ q0r8 : Nat, ∃ q0r9 : Nat, ∃ q1v : Value, e = .returned (.tuple #[.agg #[.float .f32 q0r0, .float .f32 q0r1, .float .f32 q0r2, .float .f32 q0r3, .float .f32 q0r4, .float .f32 q0r5, .float .f32 q0r6, .float .f32 q0r7, .float .f32 q0r8, .float .f32 q0r9], q1v, .bool r.2.2]) ∧ cn .f32 q0r0 = r.1.moments.x ∧ cn .f32 q0r1 = r.1.moments.y ∧ cn .f32 q0r2 = r.1.moments.z ∧ cn .f32 q0r3 = r.1.turn.w ∧ cn .f32 q0r4 = r.1.turn.x ∧ cn .f32 q0r5 = r.1.turn.y ∧ cn .f32 q0r6 = r.1.turn.z ∧ cn .f32 q0r7 = r.1.speed.x ∧ cn .f32 q0r8 = r.1.speed.y ∧ cn .f32 q0r9 = r.1.speed.z ∧ OS w' 29 encSVector q1v r.2.1 ∧ (∀ k, q1v.ownBlock = some k → w.heap.size ≤ k) ∧ Ext w w' := by
  refine calls_of_W Try.func15 rfl (Nat.le_of_ble_eq_true rfl) ?_
  refine W_seq ?_
  refine W_region rfl ?_
  refine da_op rfl (d_box (cs := #[.float .f32 p0r0, .float .f32 p0r1, .float .f32 p0r2, .float .f32 p0r3, .float .f32 p0r4, .float .f32 p0r5, .float .f32 p0r6, .float .f32 p0r7, .float .f32 p0r8, .float .f32 p0r9]) rfl fun w1 B1 E1 => ?_)
  have own2 : w.heap.size ≤ w.heap.size := Nat.le_trans (Ext.refl w).size (Nat.le_refl _)
  have X3 : Ext w w1 := (Ext.refl w).trans E1
  refine da_op rfl (d_box (cs := #[.float .f32 p1r]) rfl fun w4 B4 E4 => ?_)
  have own5 : w.heap.size ≤ w1.heap.size := Nat.le_trans X3.size (Nat.le_refl _)
  have sp6 : w.heap.size ≠ w1.heap.size := Nat.ne_of_lt (Nat.lt_of_lt_of_le (lt_heap B1) (Nat.le_refl _))
  have X7 : Ext w w4 := X3.trans E4
  have B9 : w4.heap[w.heap.size]? = some (.cells #[.float .f32 p0r0, .float .f32 p0r1, .float .f32 p0r2, .float .f32 p0r3, .float .f32 p0r4, .float .f32 p0r5, .float .f32 p0r6, .float .f32 p0r7, .float .f32 p0r8, .float .f32 p0r9] 32 (0, 0)) := E4.heap B1
  refine da_op rfl (d_box (cs := #[.float .f32 p2r]) rfl fun w8 B8 E8 => ?_)
  have own10 : w.heap.size ≤ w4.heap.size := Nat.le_trans X7.size (Nat.le_refl _)
  have sp11 : w.heap.size ≠ w4.heap.size := Nat.ne_of_lt (Nat.lt_of_lt_of_le (lt_heap B9) (Nat.le_refl _))
  have sp12 : w1.heap.size ≠ w4.heap.size := Nat.ne_of_lt (Nat.lt_of_lt_of_le (lt_heap B4) (Nat.le_refl _))
  have X13 : Ext w w8 := X7.trans E8
  have B15 : w8.heap[w.heap.size]? = some (.cells #[.float .f32 p0r0, .float .f32 p0r1, .float .f32 p0r2, .float .f32 p0r3, .float .f32 p0r4, .float .f32 p0r5, .float .f32 p0r6, .float .f32 p0r7, .float .f32 p0r8, .float .f32 p0r9] 32 (0, 0)) := E8.heap B9
  have B16 : w8.heap[w1.heap.size]? = some (.cells #[.float .f32 p1r] 22 (0, 0)) := E8.heap B4
  refine da_op rfl (d_alloc (cs := #[.float .f32 0, .float .f32 0, .float .f32 0, .float .f32 0, .float .f32 0, .float .f32 0, .float .f32 0, .float .f32 0, .float .f32 0, .float .f32 0]) zero32 rfl fun w14 B14 E14 => ?_)
  have own17 : w.heap.size ≤ w8.heap.size := Nat.le_trans X13.size (Nat.le_refl _)
  have sp18 : w.heap.size ≠ w8.heap.size := Nat.ne_of_lt (Nat.lt_of_lt_of_le (lt_heap B15) (Nat.le_refl _))
  have sp19 : w1.heap.size ≠ w8.heap.size := Nat.ne_of_lt (Nat.lt_of_lt_of_le (lt_heap B16) (Nat.le_refl _))
  have sp20 : w4.heap.size ≠ w8.heap.size := Nat.ne_of_lt (Nat.lt_of_lt_of_le (lt_heap B8) (Nat.le_refl _))
  have X21 : Ext w w14 := X13.trans E14
  refine da_op rfl (d_as (v := .slice none 0 0) rfl ?_)
  refine da_op rfl (d_as (v := .bool false) rfl ?_)
  refine da_nil ?_
  refine W_seq ?_
  refine W_seq ?_
  refine W_region rfl ?_
  have B22 : w14.heap[w1.heap.size]? = some (.cells #[.float .f32 p1r] 22 (0, 0)) := E14.heap B16
  refine da_op rfl (d_load (v := .float .f32 p1r) rfl agg22 B22 rfl ?_)
  have B23 : w14.heap[w4.heap.size]? = some (.cells #[.float .f32 p2r] 22 (0, 0)) := E14.heap B8
  refine da_op rfl (d_load (v := .float .f32 p2r) rfl agg22 B23 rfl ?_)
  have B25 : w14.heap[w.heap.size]? = some (.cells #[.float .f32 p0r0, .float .f32 p0r1, .float .f32 p0r2, .float .f32 p0r3, .float .f32 p0r4, .float .f32 p0r5, .float .f32 p0r6, .float .f32 p0r7, .float .f32 p0r8, .float .f32 p0r9] 32 (0, 0)) := E14.heap B15
  refine da_op rfl (d_bslice (vs := [(0, .float .f32 p1r), (1, .float .f32 p2r)]) (cs := #[.float .f32 p1r, .float .f32 p2r]) un48 (pc rfl (pc rfl rfl)) (by kernel_rfl) fun w24 B24 E24 => ?_)
  have fr24 : ∀ k, (Value.slice (some ⟨w14.heap.size, 0, none⟩) 2 2).ownBlock = some k → w14.heap.size ≤ k := fun k hk => by cases hk; exact Nat.le_refl _
  have own24 : ∀ k, (Value.slice (some ⟨w14.heap.size, 0, none⟩) 2 2).ownBlock = some k → w.heap.size ≤ k := fun k hk => Nat.le_trans X21.size (fr24 k hk)
  have sp26 : ¬ (Value.slice (some ⟨w14.heap.size, 0, none⟩) 2 2).ownBlock = some w.heap.size := ne_fresh fr24 (lt_heap B25)
  have sp27 : ¬ (Value.slice (some ⟨w14.heap.size, 0, none⟩) 2 2).ownBlock = some w1.heap.size := ne_fresh fr24 (lt_heap B22)
  have sp28 : ¬ (Value.slice (some ⟨w14.heap.size, 0, none⟩) 2 2).ownBlock = some w4.heap.size := ne_fresh fr24 (lt_heap B23)
  have sp29 : ¬ (Value.slice (some ⟨w14.heap.size, 0, none⟩) 2 2).ownBlock = some w8.heap.size := ne_fresh fr24 (lt_heap B14)
  have X30 : Ext w w24 := X21.trans E24
  have O24 : OS w24 22 encF_f32 (Value.slice (some ⟨w14.heap.size, 0, none⟩) 2 2) [p1, p2] := OS.box (xs := [p1, p2]) B24 (lc_f p1h (lc_f p2h rfl)) (Nat.le_of_ble_eq_true rfl)
  obtain ⟨m31, hm31, hr⟩ := bind_out hr
  have B32 : w24.heap[w.heap.size]? = some (.cells #[.float .f32 p0r0, .float .f32 p0r1, .float .f32 p0r2, .float .f32 p0r3, .float .f32 p0r4, .float .f32 p0r5, .float .f32 p0r6, .float .f32 p0r7, .float .f32 p0r8, .float .f32 p0r9] 32 (0, 0)) := E24.heap B25
  have B33 : w24.heap[w1.heap.size]? = some (.cells #[.float .f32 p1r] 22 (0, 0)) := E24.heap B22
  have B34 : w24.heap[w4.heap.size]? = some (.cells #[.float .f32 p2r] 22 (0, 0)) := E24.heap B23
  have B35 : w24.heap[w8.heap.size]? = some (.cells #[.float .f32 0, .float .f32 0, .float .f32 0, .float .f32 0, .float .f32 0, .float .f32 0, .float .f32 0, .float .f32 0, .float .f32 0, .float .f32 0] 32 (0, 0)) := E24.heap B14
  refine da_op rfl (d_cl (vs := [(Value.slice (some ⟨w14.heap.size, 0, none⟩) 2 2)]) en32 (ac rfl rfl) rfl ?_)
  refine (c32 ([p1, p2]) (Value.slice (some ⟨w14.heap.size, 0, none⟩) 2 2) m31 w24 hm31 O24.rs).mono ?_
  rintro _ w36 ⟨rfl, E36⟩
  refine ⟨_, rfl, ?_⟩
  have X37 : Ext w w36 := X30.trans E36
  refine da_op rfl (d_not rfl ?_)
  refine da_nil ?_
  refine W_cond (b := (!m31)) rfl (fun hc38 => ?_) (fun hc38 => ?_)
  · skip
    replace hr := bif_t hr hc38
    refine W_seq ?_
    refine W_region rfl ?_
    refine da_op rfl (d_bd (vs := []) (cs := #[.float .f32 0, .float .f32 0, .float .f32 0, .float .f32 0, .float .f32 0, .float .f32 0, .float .f32 0, .float .f32 0, .float .f32 0, .float .f32 0]) rfl (by kernel_rfl) ?_)
    have B39 : w36.heap[w8.heap.size]? = some (.cells #[.float .f32 0, .float .f32 0, .float .f32 0, .float .f32 0, .float .f32 0, .float .f32 0, .float .f32 0, .float .f32 0, .float .f32 0, .float .f32 0] 32 (0, 0)) := E36.heap B35
    refine da_op rfl (d_store (vs := #[.float .f32 0, .float .f32 0, .float .f32 0, .float .f32 0, .float .f32 0, .float .f32 0, .float .f32 0, .float .f32 0, .float .f32 0, .float .f32 0]) rfl rfl B39 size32 (Nat.le_of_ble_eq_true rfl) rfl fun w40 S40 => ?_)
    have X41 : Ext w w40 := Ext.step X37 S40.frmb (fun k _ hk => hk ▸ own17)
    have B42 : w40.heap[w8.heap.size]? = some (.cells #[.float .f32 0, .float .f32 0, .float .f32 0, .float .f32 0, .float .f32 0, .float .f32 0, .float .f32 0, .float .f32 0, .float .f32 0, .float .f32 0] 32 (0, 0)) := S40.here
    refine da_op rfl (d_as (v := .slice none 0 0) rfl ?_)
    refine da_op rfl (d_as (v := .bool false) rfl ?_)
    refine da_nil ?_
    refine W_ret ?_
    obtain rfl := Option.some.inj hr
    refine ⟨_, res3 (rv_cells (vs := #[.float .f32 0, .float .f32 0, .float .f32 0, .float .f32 0, .float .f32 0, .float .f32 0, .float .f32 0, .float .f32 0, .float .f32 0, .float .f32 0]) rfl agg32 size32 B42 rfl) (rv_tmp rfl) (rv_tmp rfl), ?_⟩
    exact ⟨0, 0, 0, 0, 0, 0, 0, 0, 0, 0, (.slice none 0 0), rfl, cn_f32_0, cn_f32_0, cn_f32_0, cn_f32_0, cn_f32_0, cn_f32_0, cn_f32_0, cn_f32_0, cn_f32_0, cn_f32_0, (OS.nil _ 29 encSVector), (fun k hk => by cases hk), X41⟩
  · skip
    replace hr := bif_f hr hc38
    refine W_skip ?_
    refine W_seq ?_
    refine W_region rfl ?_
    have B43 : w36.heap[w.heap.size]? = some (.cells #[.float .f32 p0r0, .float .f32 p0r1, .float .f32 p0r2, .float .f32 p0r3, .float .f32 p0r4, .float .f32 p0r5, .float .f32 p0r6, .float .f32 p0r7, .float .f32 p0r8, .float .f32 p0r9] 32 (0, 0)) := E36.heap B32
    refine da_op rfl (d_loads (vs := #[.float .f32 p0r0, .float .f32 p0r1, .float .f32 p0r2, .float .f32 p0r3, .float .f32 p0r4, .float .f32 p0r5, .float .f32 p0r6, .float .f32 p0r7, .float .f32 p0r8, .float .f32 p0r9]) rfl agg32 size32 B43 rfl ?_)
    refine da_op rfl (d_mv (v := .float .f32 p3r) rfl ?_)
    refine da_op rfl (d_mv (v := .int .i64 p4) rfl ?_)
    refine da_op rfl (d_fn (vs := [.pointer (some ⟨w1.heap.size, 0, none⟩), .pointer (some ⟨w4.heap.size, 0, none⟩)]) (ac rfl (ac rfl rfl)) ?_)
    obtain ⟨m44, hm44, hr⟩ := bind_out hr
    have B45 : w36.heap[w1.heap.size]? = some (.cells #[.float .f32 p1r] 22 (0, 0)) := E36.heap B33
    have B46 : w36.heap[w4.heap.size]? = some (.cells #[.float .f32 p2r] 22 (0, 0)) := E36.heap B34
    have B47 : w36.heap[w8.heap.size]? = some (.cells #[.float .f32 0, .float .f32 0, .float .f32 0, .float .f32 0, .float .f32 0, .float .f32 0, .float .f32 0, .float .f32 0, .float .f32 0, .float .f32 0] 32 (0, 0)) := E36.heap B35
    refine da_op rfl (d_cl (vs := [.agg #[.float .f32 p0r0, .float .f32 p0r1, .float .f32 p0r2, .float .f32 p0r3, .float .f32 p0r4, .float .f32 p0r5, .float .f32 p0r6, .float .f32 p0r7, .float .f32 p0r8, .float .f32 p0r9], .float .f32 p3r, .int .i64 p4, .func (.func 33) #[] #[.pointer (some ⟨w1.heap.size, 0, none⟩), .pointer (some ⟨w4.heap.size, 0, none⟩)]]) en26 (ac rfl (ac rfl (ac rfl (ac rfl rfl)))) rfl ?_)
    refine (c26_f33 (⟨(⟨p0.moments.x, p0.moments.y, p0.moments.z⟩ : SVector), (⟨p0.turn.w, p0.turn.x, p0.turn.y, p0.turn.z⟩ : SSpin), (⟨p0.speed.x, p0.speed.y, p0.speed.z⟩ : SVector)⟩ : STop) p3 p4 p1 p2 p0r0 p0r1 p0r2 p0r3 p0r4 p0r5 p0r6 p0r7 p0r8 p0r9 p3r w1.heap.size 0 #[.float .f32 p1r] 22 (0, 0) p1r w4.heap.size 0 #[.float .f32 p2r] 22 (0, 0) p2r m44 w36 hm44 p0h0 p0h1 p0h2 p0h3 p0h4 p0h5 p0h6 p0h7 p0h8 p0h9 p3h p1h B45 rfl p2h B46 rfl).mono ?_
    rintro _ w48 ⟨q48_0r0, q48_0r1, q48_0r2, q48_0r3, q48_0r4, q48_0r5, q48_0r6, q48_0r7, q48_0r8, q48_0r9, q48_1v, rfl, q48_0h0, q48_0h1, q48_0h2, q48_0h3, q48_0h4, q48_0h5, q48_0h6, q48_0h7, q48_0h8, q48_0h9, q48_1R, q48_1F, E48⟩
    refine ⟨_, rfl, ?_⟩
    have own49 : ∀ k, q48_1v.ownBlock = some k → w.heap.size ≤ k := fun k hk => Nat.le_trans X37.size (q48_1F k hk)
    have sp50 : ¬ q48_1v.ownBlock = some w.heap.size := ne_fresh q48_1F (lt_heap B43)
    have sp51 : ¬ q48_1v.ownBlock = some w1.heap.size := ne_fresh q48_1F (lt_heap B45)
    have sp52 : ¬ q48_1v.ownBlock = some w4.heap.size := ne_fresh q48_1F (lt_heap B46)
    have sp53 : ¬ q48_1v.ownBlock = some w8.heap.size := ne_fresh q48_1F (lt_heap B47)
    have X54 : Ext w w48 := X37.trans E48
    refine da_op rfl (d_extract (v := .agg #[.float .f32 q48_0r0, .float .f32 q48_0r1, .float .f32 q48_0r2, .float .f32 q48_0r3, .float .f32 q48_0r4, .float .f32 q48_0r5, .float .f32 q48_0r6, .float .f32 q48_0r7, .float .f32 q48_0r8, .float .f32 q48_0r9]) rfl rfl ?_)
    refine da_op rfl (d_extract (v := q48_1v) rfl rfl ?_)
    refine da_op rfl (d_extract (v := .bool m44.2.2) rfl rfl ?_)
    have B55 : w48.heap[w8.heap.size]? = some (.cells #[.float .f32 0, .float .f32 0, .float .f32 0, .float .f32 0, .float .f32 0, .float .f32 0, .float .f32 0, .float .f32 0, .float .f32 0, .float .f32 0] 32 (0, 0)) := E48.heap B47
    refine da_op rfl (d_store (vs := #[.float .f32 q48_0r0, .float .f32 q48_0r1, .float .f32 q48_0r2, .float .f32 q48_0r3, .float .f32 q48_0r4, .float .f32 q48_0r5, .float .f32 q48_0r6, .float .f32 q48_0r7, .float .f32 q48_0r8, .float .f32 q48_0r9]) rfl rfl B55 size32 (Nat.le_of_ble_eq_true rfl) rfl fun w56 S56 => ?_)
    have X57 : Ext w w56 := Ext.step X54 S56.frmb (fun k _ hk => hk ▸ own17)
    have B58 : w56.heap[w8.heap.size]? = some (.cells #[.float .f32 q48_0r0, .float .f32 q48_0r1, .float .f32 q48_0r2, .float .f32 q48_0r3, .float .f32 q48_0r4, .float .f32 q48_0r5, .float .f32 q48_0r6, .float .f32 q48_0r7, .float .f32 q48_0r8, .float .f32 q48_0r9] 32 (0, 0)) := S56.here
    refine da_op rfl (d_as (v := q48_1v) rfl ?_)
    refine da_op rfl (d_as (v := .bool m44.2.2) rfl ?_)
    refine da_nil ?_
    refine W_ret ?_
    have B59 : OS w56 29 encSVector q48_1v m44.2.1 := q48_1R.frm S56.frmb (rb sp53)
    obtain rfl := Option.some.inj hr
    refine ⟨_, res3 (rv_cells (vs := #[.float .f32 q48_0r0, .float .f32 q48_0r1, .float .f32 q48_0r2, .float .f32 q48_0r3, .float .f32 q48_0r4, .float .f32 q48_0r5, .float .f32 q48_0r6, .float .f32 q48_0r7, .float .f32 q48_0r8, .float .f32 q48_0r9]) rfl agg32 size32 B58 rfl) (rv_tmp rfl) (rv_tmp rfl), ?_⟩
    exact ⟨q48_0r0, q48_0r1, q48_0r2, q48_0r3, q48_0r4, q48_0r5, q48_0r6, q48_0r7, q48_0r8, q48_0r9, q48_1v, rfl, q48_0h0, q48_0h1, q48_0h2, q48_0h3, q48_0h4, q48_0h5, q48_0h6, q48_0h7, q48_0h8, q48_0h9, B59, own49, X57⟩
set_option maxHeartbeats 4000000 in
theorem c4 (p0 : STop) (p1 : Nat) (p2 : Nat) (p3 : Nat) (p4 : Int) (p0r0 : Nat) (p0r1 : Nat) (p0r2 : Nat) (p0r3 : Nat) (p0r4 : Nat) (p0r5 : Nat) (p0r6 : Nat) (p0r7 : Nat) (p0r8 : Nat) (p0r9 : Nat) (p1r : Nat) (p2r : Nat) (p3r : Nat) (r : Bool) (w : World) (hr : M.laws_FnExactRunHeavy p0 p1 p2 p3 p4 = some r) (p0h0 : cn .f32 p0r0 = p0.moments.x) (p0h1 : cn .f32 p0r1 = p0.moments.y) (p0h2 : cn .f32 p0r2 = p0.moments.z) (p0h3 : cn .f32 p0r3 = p0.turn.w) (p0h4 : cn .f32 p0r4 = p0.turn.x) (p0h5 : cn .f32 p0r5 = p0.turn.y) (p0h6 : cn .f32 p0r6 = p0.turn.z) (p0h7 : cn .f32 p0r7 = p0.speed.x) (p0h8 : cn .f32 p0r8 = p0.speed.y) (p0h9 : cn .f32 p0r9 = p0.speed.z) (p1h : cn .f32 p1r = p1) (p2h : cn .f32 p2r = p2) (p3h : cn .f32 p3r = p3) :
    Calls Try.prog 4 #[.agg #[.float .f32 p0r0, .float .f32 p0r1, .float .f32 p0r2, .float .f32 p0r3, .float .f32 p0r4, .float .f32 p0r5, .float .f32 p0r6, .float .f32 p0r7, .float .f32 p0r8, .float .f32 p0r9], .float .f32 p1r, .float .f32 p2r, .float .f32 p3r, .int .i64 p4] w fun e w' => e = .returned (.bool r) ∧ Ext w w' := by
  refine calls_of_W Try.func4 rfl (Nat.le_of_ble_eq_true rfl) ?_
  refine W_seq ?_
  refine W_region rfl ?_
  refine da_op rfl (d_box (cs := #[.float .f32 p0r0, .float .f32 p0r1, .float .f32 p0r2, .float .f32 p0r3, .float .f32 p0r4, .float .f32 p0r5, .float .f32 p0r6, .float .f32 p0r7, .float .f32 p0r8, .float .f32 p0r9]) rfl fun w1 B1 E1 => ?_)
  have own2 : w.heap.size ≤ w.heap.size := Nat.le_trans (Ext.refl w).size (Nat.le_refl _)
  have X3 : Ext w w1 := (Ext.refl w).trans E1
  refine da_op rfl (d_as (v := .bool false) rfl ?_)
  refine da_nil ?_
  refine W_seq ?_
  refine W_region rfl ?_
  refine da_op rfl (d_loads (vs := #[.float .f32 p0r0, .float .f32 p0r1, .float .f32 p0r2, .float .f32 p0r3, .float .f32 p0r4, .float .f32 p0r5, .float .f32 p0r6, .float .f32 p0r7, .float .f32 p0r8, .float .f32 p0r9]) rfl agg28 size28 B1 rfl ?_)
  obtain ⟨m4, hm4, hr⟩ := letv_out hr
  refine da_op rfl (d_cl (vs := [.agg #[.float .f32 p0r0, .float .f32 p0r1, .float .f32 p0r2, .float .f32 p0r3, .float .f32 p0r4, .float .f32 p0r5, .float .f32 p0r6, .float .f32 p0r7, .float .f32 p0r8, .float .f32 p0r9]]) en7 (ac rfl rfl) rfl ?_)
  refine (c7 p0 p0r0 p0r1 p0r2 p0r3 p0r4 p0r5 p0r6 p0r7 p0r8 p0r9 m4 w1 hm4 p0h0 p0h1 p0h2 p0h3 p0h4 p0h5 p0h6 p0h7 p0h8 p0h9).mono ?_
  rintro _ w5 ⟨q5_0r0, q5_0r1, q5_0r2, q5_0r3, q5_0r4, q5_0r5, q5_0r6, q5_0r7, q5_0r8, q5_0r9, rfl, q5_0h0, q5_0h1, q5_0h2, q5_0h3, q5_0h4, q5_0h5, q5_0h6, q5_0h7, q5_0h8, q5_0h9, E5⟩
  refine ⟨_, rfl, ?_⟩
  have X6 : Ext w w5 := X3.trans E5
  refine da_op rfl (d_mv (v := .float .f32 p1r) rfl ?_)
  refine da_op rfl (d_mv (v := .float .f32 p2r) rfl ?_)
  refine da_op rfl (d_mv (v := .float .f32 p3r) rfl ?_)
  refine da_op rfl (d_mv (v := .int .i64 p4) rfl ?_)
  obtain ⟨m7, hm7, hr⟩ := bind_out hr
  have B8 : w5.heap[w.heap.size]? = some (.cells #[.float .f32 p0r0, .float .f32 p0r1, .float .f32 p0r2, .float .f32 p0r3, .float .f32 p0r4, .float .f32 p0r5, .float .f32 p0r6, .float .f32 p0r7, .float .f32 p0r8, .float .f32 p0r9] 28 (0, 0)) := E5.heap B1
  refine da_op rfl (d_cl (vs := [.agg #[.float .f32 q5_0r0, .float .f32 q5_0r1, .float .f32 q5_0r2, .float .f32 q5_0r3, .float .f32 q5_0r4, .float .f32 q5_0r5, .float .f32 q5_0r6, .float .f32 q5_0r7, .float .f32 q5_0r8, .float .f32 q5_0r9], .float .f32 p1r, .float .f32 p2r, .float .f32 p3r, .int .i64 p4]) en14 (ac rfl (ac rfl (ac rfl (ac rfl (ac rfl rfl))))) rfl ?_)
  refine (c14 m4 p1 p2 p3 p4 q5_0r0 q5_0r1 q5_0r2 q5_0r3 q5_0r4 q5_0r5 q5_0r6 q5_0r7 q5_0r8 q5_0r9 p1r p2r p3r m7 w5 hm7 q5_0h0 q5_0h1 q5_0h2 q5_0h3 q5_0h4 q5_0h5 q5_0h6 q5_0h7 q5_0h8 q5_0h9 p1h p2h p3h).mono ?_
  rintro _ w9 ⟨q9_0r0, q9_0r1, q9_0r2, q9_0r3, q9_0r4, q9_0r5, q9_0r6, q9_0r7, q9_0r8, q9_0r9, q9_1v, rfl, q9_0h0, q9_0h1, q9_0h2, q9_0h3, q9_0h4, q9_0h5, q9_0h6, q9_0h7, q9_0h8, q9_0h9, q9_1R, q9_1F, E9⟩
  refine ⟨_, rfl, ?_⟩
  have own10 : ∀ k, q9_1v.ownBlock = some k → w.heap.size ≤ k := fun k hk => Nat.le_trans X6.size (q9_1F k hk)
  have sp11 : ¬ q9_1v.ownBlock = some w.heap.size := ne_fresh q9_1F (lt_heap B8)
  have X12 : Ext w w9 := X6.trans E9
  refine da_op rfl (d_mv (v := .tuple #[.agg #[.float .f32 q9_0r0, .float .f32 q9_0r1, .float .f32 q9_0r2, .float .f32 q9_0r3, .float .f32 q9_0r4, .float .f32 q9_0r5, .float .f32 q9_0r6, .float .f32 q9_0r7, .float .f32 q9_0r8, .float .f32 q9_0r9], q9_1v, .bool m7.2.2]) rfl ?_)
  refine da_op rfl (d_extract (v := .agg #[.float .f32 q9_0r0, .float .f32 q9_0r1, .float .f32 q9_0r2, .float .f32 q9_0r3, .float .f32 q9_0r4, .float .f32 q9_0r5, .float .f32 q9_0r6, .float .f32 q9_0r7, .float .f32 q9_0r8, .float .f32 q9_0r9]) rfl rfl ?_)
  refine da_op rfl (d_extract (v := q9_1v) rfl rfl ?_)
  refine da_op rfl (d_extract (v := .bool m7.2.2) rfl rfl ?_)
  have B14 : w9.heap[w.heap.size]? = some (.cells #[.float .f32 p0r0, .float .f32 p0r1, .float .f32 p0r2, .float .f32 p0r3, .float .f32 p0r4, .float .f32 p0r5, .float .f32 p0r6, .float .f32 p0r7, .float .f32 p0r8, .float .f32 p0r9] 28 (0, 0)) := E9.heap B8
  refine da_op rfl (d_alloc (cs := #[.float .f32 0, .float .f32 0, .float .f32 0, .float .f32 0, .float .f32 0, .float .f32 0, .float .f32 0, .float .f32 0, .float .f32 0, .float .f32 0]) zero32 rfl fun w13 B13 E13 => ?_)
  have own15 : w.heap.size ≤ w9.heap.size := Nat.le_trans X12.size (Nat.le_refl _)
  have sp16 : w.heap.size ≠ w9.heap.size := Nat.ne_of_lt (Nat.lt_of_lt_of_le (lt_heap B14) (Nat.le_refl _))
  have sp17 : ¬ q9_1v.ownBlock = some w9.heap.size := OS.ne_new q9_1R (Nat.le_refl _)
  have X18 : Ext w w13 := X12.trans E13
  refine da_op rfl (d_store (vs := #[.float .f32 q9_0r0, .float .f32 q9_0r1, .float .f32 q9_0r2, .float .f32 q9_0r3, .float .f32 q9_0r4, .float .f32 q9_0r5, .float .f32 q9_0r6, .float .f32 q9_0r7, .float .f32 q9_0r8, .float .f32 q9_0r9]) rfl rfl B13 size32 (Nat.le_of_ble_eq_true rfl) rfl fun w19 S19 => ?_)
  have X20 : Ext w w19 := Ext.step X18 S19.frmb (fun k _ hk => hk ▸ own15)
  have B21 : w19.heap[w9.heap.size]? = some (.cells #[.float .f32 q9_0r0, .float .f32 q9_0r1, .float .f32 q9_0r2, .float .f32 q9_0r3, .float .f32 q9_0r4, .float .f32 q9_0r5, .float .f32 q9_0r6, .float .f32 q9_0r7, .float .f32 q9_0r8, .float .f32 q9_0r9] 32 (0, 0)) := S19.here
  refine da_op rfl (d_as (v := q9_1v) rfl ?_)
  refine da_op rfl (d_as (v := .bool m7.2.2) rfl ?_)
  refine da_nil ?_
  refine W_seq ?_
  refine W_region rfl ?_
  have B22 : w19.heap[w.heap.size]? = some (.cells #[.float .f32 p0r0, .float .f32 p0r1, .float .f32 p0r2, .float .f32 p0r3, .float .f32 p0r4, .float .f32 p0r5, .float .f32 p0r6, .float .f32 p0r7, .float .f32 p0r8, .float .f32 p0r9] 28 (0, 0)) := S19.frmb.heap sp16 (E13.heap B14)
  refine da_op rfl (d_loads (vs := #[.float .f32 p0r0, .float .f32 p0r1, .float .f32 p0r2, .float .f32 p0r3, .float .f32 p0r4, .float .f32 p0r5, .float .f32 p0r6, .float .f32 p0r7, .float .f32 p0r8, .float .f32 p0r9]) rfl agg28 size28 B22 rfl ?_)
  obtain ⟨m23, hm23, hr⟩ := letv_out hr
  have B24 : OS w19 29 encSVector q9_1v m7.2.1 := (q9_1R.ext E13).frm S19.frmb (rb sp17)
  refine da_op rfl (d_cl (vs := [.agg #[.float .f32 p0r0, .float .f32 p0r1, .float .f32 p0r2, .float .f32 p0r3, .float .f32 p0r4, .float .f32 p0r5, .float .f32 p0r6, .float .f32 p0r7, .float .f32 p0r8, .float .f32 p0r9]]) en7 (ac rfl rfl) rfl ?_)
  refine (c7 p0 p0r0 p0r1 p0r2 p0r3 p0r4 p0r5 p0r6 p0r7 p0r8 p0r9 m23 w19 hm23 p0h0 p0h1 p0h2 p0h3 p0h4 p0h5 p0h6 p0h7 p0h8 p0h9).mono ?_
  rintro _ w25 ⟨q25_0r0, q25_0r1, q25_0r2, q25_0r3, q25_0r4, q25_0r5, q25_0r6, q25_0r7, q25_0r8, q25_0r9, rfl, q25_0h0, q25_0h1, q25_0h2, q25_0h3, q25_0h4, q25_0h5, q25_0h6, q25_0h7, q25_0h8, q25_0h9, E25⟩
  refine ⟨_, rfl, ?_⟩
  have X26 : Ext w w25 := X20.trans E25
  refine da_op rfl (d_mv (v := .float .f32 p1r) rfl ?_)
  refine da_op rfl (d_mv (v := .float .f32 p2r) rfl ?_)
  refine da_op rfl (d_mv (v := .float .f32 p3r) rfl ?_)
  refine da_op rfl (d_mv (v := .int .i64 p4) rfl ?_)
  obtain ⟨m27, hm27, hr⟩ := bind_out hr
  have B28 : w25.heap[w.heap.size]? = some (.cells #[.float .f32 p0r0, .float .f32 p0r1, .float .f32 p0r2, .float .f32 p0r3, .float .f32 p0r4, .float .f32 p0r5, .float .f32 p0r6, .float .f32 p0r7, .float .f32 p0r8, .float .f32 p0r9] 28 (0, 0)) := E25.heap B22
  have B29 : OS w25 29 encSVector q9_1v m7.2.1 := B24.ext E25
  have B30 : w25.heap[w9.heap.size]? = some (.cells #[.float .f32 q9_0r0, .float .f32 q9_0r1, .float .f32 q9_0r2, .float .f32 q9_0r3, .float .f32 q9_0r4, .float .f32 q9_0r5, .float .f32 q9_0r6, .float .f32 q9_0r7, .float .f32 q9_0r8, .float .f32 q9_0r9] 32 (0, 0)) := E25.heap B21
  refine da_op rfl (d_cl (vs := [.agg #[.float .f32 q25_0r0, .float .f32 q25_0r1, .float .f32 q25_0r2, .float .f32 q25_0r3, .float .f32 q25_0r4, .float .f32 q25_0r5, .float .f32 q25_0r6, .float .f32 q25_0r7, .float .f32 q25_0r8, .float .f32 q25_0r9], .float .f32 p1r, .float .f32 p2r, .float .f32 p3r, .int .i64 p4]) en15 (ac rfl (ac rfl (ac rfl (ac rfl (ac rfl rfl))))) rfl ?_)
  refine (c15 m23 p1 p2 p3 p4 q25_0r0 q25_0r1 q25_0r2 q25_0r3 q25_0r4 q25_0r5 q25_0r6 q25_0r7 q25_0r8 q25_0r9 p1r p2r p3r m27 w25 hm27 q25_0h0 q25_0h1 q25_0h2 q25_0h3 q25_0h4 q25_0h5 q25_0h6 q25_0h7 q25_0h8 q25_0h9 p1h p2h p3h).mono ?_
  rintro _ w31 ⟨q31_0r0, q31_0r1, q31_0r2, q31_0r3, q31_0r4, q31_0r5, q31_0r6, q31_0r7, q31_0r8, q31_0r9, q31_1v, rfl, q31_0h0, q31_0h1, q31_0h2, q31_0h3, q31_0h4, q31_0h5, q31_0h6, q31_0h7, q31_0h8, q31_0h9, q31_1R, q31_1F, E31⟩
  refine ⟨_, rfl, ?_⟩
  have own32 : ∀ k, q31_1v.ownBlock = some k → w.heap.size ≤ k := fun k hk => Nat.le_trans X26.size (q31_1F k hk)
  have sp33 : ¬ q31_1v.ownBlock = some w.heap.size := ne_fresh q31_1F (lt_heap B28)
  have sp34 : ∀ k, q9_1v.ownBlock = some k → ¬ q31_1v.ownBlock = some k := apart_fresh B29 q31_1F
  have sp35 : ¬ q31_1v.ownBlock = some w9.heap.size := ne_fresh q31_1F (lt_heap B30)
  have X36 : Ext w w31 := X26.trans E31
  refine da_op rfl (d_mv (v := .tuple #[.agg #[.float .f32 q31_0r0, .float .f32 q31_0r1, .float .f32 q31_0r2, .float .f32 q31_0r3, .float .f32 q31_0r4, .float .f32 q31_0r5, .float .f32 q31_0r6, .float .f32 q31_0r7, .float .f32 q31_0r8, .float .f32 q31_0r9], q31_1v, .bool m27.2.2]) rfl ?_)
  refine da_op rfl (d_extract (v := .agg #[.float .f32 q31_0r0, .float .f32 q31_0r1, .float .f32 q31_0r2, .float .f32 q31_0r3, .float .f32 q31_0r4, .float .f32 q31_0r5, .float .f32 q31_0r6, .float .f32 q31_0r7, .float .f32 q31_0r8, .float .f32 q31_0r9]) rfl rfl ?_)
  refine da_op rfl (d_extract (v := q31_1v) rfl rfl ?_)
  refine da_op rfl (d_extract (v := .bool m27.2.2) rfl rfl ?_)
  have B38 : w31.heap[w.heap.size]? = some (.cells #[.float .f32 p0r0, .float .f32 p0r1, .float .f32 p0r2, .float .f32 p0r3, .float .f32 p0r4, .float .f32 p0r5, .float .f32 p0r6, .float .f32 p0r7, .float .f32 p0r8, .float .f32 p0r9] 28 (0, 0)) := E31.heap B28
  have B39 : OS w31 29 encSVector q9_1v m7.2.1 := B29.ext E31
  have B40 : w31.heap[w9.heap.size]? = some (.cells #[.float .f32 q9_0r0, .float .f32 q9_0r1, .float .f32 q9_0r2, .float .f32 q9_0r3, .float .f32 q9_0r4, .float .f32 q9_0r5, .float .f32 q9_0r6, .float .f32 q9_0r7, .float .f32 q9_0r8, .float .f32 q9_0r9] 32 (0, 0)) := E31.heap B30
  refine da_op rfl (d_alloc (cs := #[.float .f32 0, .float .f32 0, .float .f32 0, .float .f32 0, .float .f32 0, .float .f32 0, .float .f32 0, .float .f32 0, .float .f32 0, .float .f32 0]) zero32 rfl fun w37 B37 E37 => ?_)
  have own41 : w.heap.size ≤ w31.heap.size := Nat.le_trans X36.size (Nat.le_refl _)
  have sp42 : w.heap.size ≠ w31.heap.size := Nat.ne_of_lt (Nat.lt_of_lt_of_le (lt_heap B38) (Nat.le_refl _))
  have sp43 : ¬ q9_1v.ownBlock = some w31.heap.size := OS.ne_new B39 (Nat.le_refl _)
  have sp44 : w9.heap.size ≠ w31.heap.size := Nat.ne_of_lt (Nat.lt_of_lt_of_le (lt_heap B40) (Nat.le_refl _))
  have sp45 : ¬ q31_1v.ownBlock = some w31.heap.size := OS.ne_new q31_1R (Nat.le_refl _)
  have X46 : Ext w w37 := X36.trans E37
  refine da_op rfl (d_store (vs := #[.float .f32 q31_0r0, .float .f32 q31_0r1, .float .f32 q31_0r2, .float .f32 q31_0r3, .float .f32 q31_0r4, .float .f32 q31_0r5, .float .f32 q31_0r6, .float .f32 q31_0r7, .float .f32 q31_0r8, .float .f32 q31_0r9]) rfl rfl B37 size32 (Nat.le_of_ble_eq_true rfl) rfl fun w47 S47 => ?_)
  have X48 : Ext w w47 := Ext.step X46 S47.frmb (fun k _ hk => hk ▸ own41)
  have B49 : w47.heap[w31.heap.size]? = some (.cells #[.float .f32 q31_0r0, .float .f32 q31_0r1, .float .f32 q31_0r2, .float .f32 q31_0r3, .float .f32 q31_0r4, .float .f32 q31_0r5, .float .f32 q31_0r6, .float .f32 q31_0r7, .float .f32 q31_0r8, .float .f32 q31_0r9] 32 (0, 0)) := S47.here
  refine da_op rfl (d_as (v := q31_1v) rfl ?_)
  refine da_op rfl (d_as (v := .bool m27.2.2) rfl ?_)
  refine da_nil ?_
  refine W_seq ?_
  refine W_seq ?_
  have B51 : w47.heap[w.heap.size]? = some (.cells #[.float .f32 p0r0, .float .f32 p0r1, .float .f32 p0r2, .float .f32 p0r3, .float .f32 p0r4, .float .f32 p0r5, .float .f32 p0r6, .float .f32 p0r7, .float .f32 p0r8, .float .f32 p0r9] 28 (0, 0)) := S47.frmb.heap sp42 (E37.heap B38)
  have B52 : OS w47 29 encSVector q9_1v m7.2.1 := (B39.ext E37).frm S47.frmb (rb sp43)
  have B53 : w47.heap[w9.heap.size]? = some (.cells #[.float .f32 q9_0r0, .float .f32 q9_0r1, .float .f32 q9_0r2, .float .f32 q9_0r3, .float .f32 q9_0r4, .float .f32 q9_0r5, .float .f32 q9_0r6, .float .f32 q9_0r7, .float .f32 q9_0r8, .float .f32 q9_0r9] 32 (0, 0)) := S47.frmb.heap sp44 (E37.heap B40)
  have B54 : OS w47 29 encSVector q31_1v m27.2.1 := (q31_1R.ext E37).frm S47.frmb (rb sp45)
  obtain ⟨m50, hm50, hr⟩ := bind_out hr
  refine W_cut (fun σ' w' => σ' 58 = .bool m50 ∧ Ext w47 w') rfl ?_ ?_
  · skip
    have hr := hm50
    refine da_op rfl (d_loads (vs := #[.float .f32 q31_0r0, .float .f32 q31_0r1, .float .f32 q31_0r2, .float .f32 q31_0r3, .float .f32 q31_0r4, .float .f32 q31_0r5, .float .f32 q31_0r6, .float .f32 q31_0r7, .float .f32 q31_0r8, .float .f32 q31_0r9]) rfl agg32 size32 B49 rfl ?_)
    refine da_op rfl (d_loads (vs := #[.float .f32 q9_0r0, .float .f32 q9_0r1, .float .f32 q9_0r2, .float .f32 q9_0r3, .float .f32 q9_0r4, .float .f32 q9_0r5, .float .f32 q9_0r6, .float .f32 q9_0r7, .float .f32 q9_0r8, .float .f32 q9_0r9]) rfl agg32 size32 B53 rfl ?_)
    obtain ⟨m55, hm55, hr⟩ := letv_out hr
    refine da_op rfl (d_cl (vs := [.agg #[.float .f32 q31_0r0, .float .f32 q31_0r1, .float .f32 q31_0r2, .float .f32 q31_0r3, .float .f32 q31_0r4, .float .f32 q31_0r5, .float .f32 q31_0r6, .float .f32 q31_0r7, .float .f32 q31_0r8, .float .f32 q31_0r9], .agg #[.float .f32 q9_0r0, .float .f32 q9_0r1, .float .f32 q9_0r2, .float .f32 q9_0r3, .float .f32 q9_0r4, .float .f32 q9_0r5, .float .f32 q9_0r6, .float .f32 q9_0r7, .float .f32 q9_0r8, .float .f32 q9_0r9]]) en10 (ac rfl (ac rfl rfl)) rfl ?_)
    refine (c10 m27.1 (⟨(⟨m7.1.moments.x, m7.1.moments.y, m7.1.moments.z⟩ : SVector), (⟨m7.1.turn.w, m7.1.turn.x, m7.1.turn.y, m7.1.turn.z⟩ : SSpin), (⟨m7.1.speed.x, m7.1.speed.y, m7.1.speed.z⟩ : SVector)⟩ : STop) q31_0r0 q31_0r1 q31_0r2 q31_0r3 q31_0r4 q31_0r5 q31_0r6 q31_0r7 q31_0r8 q31_0r9 q9_0r0 q9_0r1 q9_0r2 q9_0r3 q9_0r4 q9_0r5 q9_0r6 q9_0r7 q9_0r8 q9_0r9 m55 w47 hm55 q31_0h0 q31_0h1 q31_0h2 q31_0h3 q31_0h4 q31_0h5 q31_0h6 q31_0h7 q31_0h8 q31_0h9 q9_0h0 q9_0h1 q9_0h2 q9_0h3 q9_0h4 q9_0h5 q9_0h6 q9_0h7 q9_0h8 q9_0h9).mono ?_
    rintro _ w56 ⟨rfl, E56⟩
    refine ⟨_, rfl, ?_⟩
    have X57 : Ext w w56 := X48.trans E56
    refine da_op rfl (d_not rfl ?_)
    refine da_op rfl (d_mv (v := .bool (!m55)) rfl ?_)
    rcases Bool.eq_false_or_eq_true m55 with hc58 | hc58
    · skip
      replace hr := bif_t hr hc58
      refine da_on rfl (Eq.trans (show sl _ _ _ = .bool (!m55) from rfl) (congrArg Value.bool (congrArg not hc58))) (d_mv (v := q31_1v) rfl ?_)
      refine da_on rfl (Eq.trans (show sl _ _ _ = .bool (!m55) from rfl) (congrArg Value.bool (congrArg not hc58))) (d_mv (v := q9_1v) rfl ?_)
      obtain ⟨m59, hm59, hr⟩ := bind_out hr
      have B60 : OS w56 29 encSVector q31_1v m27.2.1 := B54.ext E56
      have B61 : OS w56 29 encSVector q9_1v m7.2.1 := B52.ext E56
      have B62 : w56.heap[w.heap.size]? = some (.cells #[.float .f32 p0r0, .float .f32 p0r1, .float .f32 p0r2, .float .f32 p0r3, .float .f32 p0r4, .float .f32 p0r5, .float .f32 p0r6, .float .f32 p0r7, .float .f32 p0r8, .float .f32 p0r9] 28 (0, 0)) := E56.heap B51
      have B63 : w56.heap[w9.heap.size]? = some (.cells #[.float .f32 q9_0r0, .float .f32 q9_0r1, .float .f32 q9_0r2, .float .f32 q9_0r3, .float .f32 q9_0r4, .float .f32 q9_0r5, .float .f32 q9_0r6, .float .f32 q9_0r7, .float .f32 q9_0r8, .float .f32 q9_0r9] 32 (0, 0)) := E56.heap B53
      have B64 : w56.heap[w31.heap.size]? = some (.cells #[.float .f32 q31_0r0, .float .f32 q31_0r1, .float .f32 q31_0r2, .float .f32 q31_0r3, .float .f32 q31_0r4, .float .f32 q31_0r5, .float .f32 q31_0r6, .float .f32 q31_0r7, .float .f32 q31_0r8, .float .f32 q31_0r9] 32 (0, 0)) := E56.heap B49
      refine da_on rfl (Eq.trans (show sl _ _ _ = .bool (!m55) from rfl) (congrArg Value.bool (congrArg not hc58))) (d_cl (vs := [q31_1v, q9_1v]) en11 (ac rfl (ac rfl rfl)) rfl ?_)
      refine (c11 m27.2.1 m7.2.1 q31_1v q9_1v m59 w56 hm59 B60.rs B61.rs).mono ?_
      rintro _ w65 ⟨rfl, E65⟩
      refine ⟨_, rfl, ?_⟩
      have X66 : Ext w w65 := X57.trans E65
      refine da_on rfl (Eq.trans (show sl _ _ _ = .bool (!m55) from rfl) (congrArg Value.bool (congrArg not hc58))) (d_not rfl ?_)
      refine da_op rfl (d_pick (b := false) (Eq.trans (show ev _ _ = .bool (!m55) from rfl) (congrArg Value.bool (congrArg not hc58))) ?_)
      refine da_op rfl (d_mv (v := .bool (!m59)) rfl ?_)
      rcases Bool.eq_false_or_eq_true m59 with hc67 | hc67
      · skip
        replace hr := bif_t hr hc67
        refine da_on rfl (Eq.trans (show sl _ _ _ = .bool (!m59) from rfl) (congrArg Value.bool (congrArg not hc67))) (d_mv (v := .bool m27.2.2) rfl ?_)
        refine da_on rfl (Eq.trans (show sl _ _ _ = .bool (!m59) from rfl) (congrArg Value.bool (congrArg not hc67))) (d_mv (v := .bool m7.2.2) rfl ?_)
        refine da_on rfl (Eq.trans (show sl _ _ _ = .bool (!m59) from rfl) (congrArg Value.bool (congrArg not hc67))) (d_bne un4 rfl rfl ?_)
        refine da_op rfl (d_pick (b := false) (Eq.trans (show ev _ _ = .bool (!m59) from rfl) (congrArg Value.bool (congrArg not hc67))) ?_)
        refine da_nil ?_
        obtain rfl := Option.some.inj hr
        exact ⟨rfl, (Ext.trans (Ext.trans (Ext.refl w47) E56) E65)⟩
      · skip
        replace hr := bif_f hr hc67
        refine da_off rfl (Eq.trans (show sl _ _ _ = .bool (!m59) from rfl) (congrArg Value.bool (congrArg not hc67))) (by decide) ?_
        refine da_off rfl (Eq.trans (show sl _ _ _ = .bool (!m59) from rfl) (congrArg Value.bool (congrArg not hc67))) (by decide) ?_
        refine da_off rfl (Eq.trans (show sl _ _ _ = .bool (!m59) from rfl) (congrArg Value.bool (congrArg not hc67))) (by decide) ?_
        refine da_op rfl (d_pick (b := true) (Eq.trans (show ev _ _ = .bool (!m59) from rfl) (congrArg Value.bool (congrArg not hc67))) ?_)
        refine da_nil ?_
        obtain rfl := Option.some.inj hr
        exact ⟨rfl, (Ext.trans (Ext.trans (Ext.refl w47) E56) E65)⟩
    · skip
      replace hr := bif_f hr hc58
      refine da_off rfl (Eq.trans (show sl _ _ _ = .bool (!m55) from rfl) (congrArg Value.bool (congrArg not hc58))) (by decide) ?_
      refine da_off rfl (Eq.trans (show sl _ _ _ = .bool (!m55) from rfl) (congrArg Value.bool (congrArg not hc58))) (by decide) ?_
      refine da_off rfl (Eq.trans (show sl _ _ _ = .bool (!m55) from rfl) (congrArg Value.bool (congrArg not hc58))) (by decide) ?_
      refine da_off rfl (Eq.trans (show sl _ _ _ = .bool (!m55) from rfl) (congrArg Value.bool (congrArg not hc58))) (by decide) ?_
      refine da_op rfl (d_pick (b := true) (Eq.trans (show ev _ _ = .bool (!m55) from rfl) (congrArg Value.bool (congrArg not hc58))) ?_)
      refine da_op rfl (d_mv (v := .bool true) rfl ?_)
      refine da_off rfl rfl (by decide) ?_
      refine da_off rfl rfl (by decide) ?_
      refine da_off rfl rfl (by decide) ?_
      refine da_op rfl (d_pick (b := true) rfl ?_)
      refine da_nil ?_
      obtain rfl := Option.some.inj hr
      exact ⟨rfl, (Ext.trans (Ext.refl w47) E56)⟩
  · skip
    rintro σ50 w50 o50 ⟨s58_50, E50⟩
    have s1_50 : σ50 1 = .float .f32 p1r := (o50 1 rfl).trans rfl
    have s2_50 : σ50 2 = .float .f32 p2r := (o50 2 rfl).trans rfl
    have s3_50 : σ50 3 = .float .f32 p3r := (o50 3 rfl).trans rfl
    have s4_50 : σ50 4 = .int .i64 p4 := (o50 4 rfl).trans rfl
    have s5_50 : σ50 5 = .pointer (some ⟨w.heap.size, 0, none⟩) := (o50 5 rfl).trans rfl
    have s11_50 : σ50 11 = .pointer (some ⟨w9.heap.size, 0, none⟩) := (o50 11 rfl).trans rfl
    have s12_50 : σ50 12 = q9_1v := (o50 12 rfl).trans rfl
    have s13_50 : σ50 13 = .bool m7.2.2 := (o50 13 rfl).trans rfl
    have s15_50 : σ50 15 = q31_1v := (o50 15 rfl).trans rfl
    have X68 : Ext w w50 := X48.trans E50
    refine W_cond (b := m50) s58_50 (fun hc69 => ?_) (fun hc69 => ?_)
    · skip
      replace hr := bif_t hr hc69
      refine W_seq ?_
      refine W_region rfl ?_
      refine da_op rfl (d_as (v := .bool false) rfl ?_)
      refine da_nil ?_
      refine W_ret ?_
      obtain rfl := Option.some.inj hr
      refine ⟨_, res1 (rv_tmp rfl), ?_⟩
      exact ⟨rfl, X68⟩
    · skip
      replace hr := bif_f hr hc69
      refine W_skip ?_
      refine W_seq ?_
      refine W_region rfl ?_
      refine da_op rfl (d_as (v := .int .i64 1) rfl ?_)
      refine da_nil ?_
      refine W_seq ?_
      refine W_region rfl ?_
      refine da_op rfl (d_mv (v := q31_1v) s15_50 ?_)
      refine da_op rfl (d_mv (v := .int .i64 1) rfl ?_)
      obtain ⟨m70, hm70, hr⟩ := bind_out hr
      have B71 : OS w50 29 encSVector q31_1v m27.2.1 := B54.ext E50
      have B72 : w50.heap[w.heap.size]? = some (.cells #[.float .f32 p0r0, .float .f32 p0r1, .float .f32 p0r2, .float .f32 p0r3, .float .f32 p0r4, .float .f32 p0r5, .float .f32 p0r6, .float .f32 p0r7, .float .f32 p0r8, .float .f32 p0r9] 28 (0, 0)) := E50.heap B51
      have B73 : OS w50 29 encSVector q9_1v m7.2.1 := B52.ext E50
      have B74 : w50.heap[w9.heap.size]? = some (.cells #[.float .f32 q9_0r0, .float .f32 q9_0r1, .float .f32 q9_0r2, .float .f32 q9_0r3, .float .f32 q9_0r4, .float .f32 q9_0r5, .float .f32 q9_0r6, .float .f32 q9_0r7, .float .f32 q9_0r8, .float .f32 q9_0r9] 32 (0, 0)) := E50.heap B53
      refine da_op rfl (d_cl (vs := [q31_1v, .int .i64 1]) en12 (ac rfl (ac rfl rfl)) rfl ?_)
      refine (c12 m27.2.1 1 q31_1v m70 w50 hm70 B71).mono ?_
      rintro _ w75 ⟨rfl, q75_m0R, E75⟩
      refine ⟨_, rfl, ?_⟩
      have X76 : Ext w w75 := Ext.step X68 E75 (fun k _ hk => own32 k hk)
      refine da_op rfl (d_as (v := .int .i64 m70.1) rfl ?_)
      refine da_nil ?_
      refine W_seq ?_
      refine W_region rfl ?_
      refine da_op rfl (d_as (v := .int .i64 1) rfl ?_)
      refine da_nil ?_
      refine W_seq ?_
      refine W_region rfl ?_
      refine da_op rfl (d_mv (v := q31_1v) s15_50 ?_)
      refine da_op rfl (d_mv (v := .int .i64 1) rfl ?_)
      obtain ⟨m77, hm77, hr⟩ := bind_out hr
      have B78 : w75.heap[w.heap.size]? = some (.cells #[.float .f32 p0r0, .float .f32 p0r1, .float .f32 p0r2, .float .f32 p0r3, .float .f32 p0r4, .float .f32 p0r5, .float .f32 p0r6, .float .f32 p0r7, .float .f32 p0r8, .float .f32 p0r9] 28 (0, 0)) := E75.heap sp33 B72
      have B79 : OS w75 29 encSVector q9_1v m7.2.1 := B73.frm E75 sp34
      have B80 : w75.heap[w9.heap.size]? = some (.cells #[.float .f32 q9_0r0, .float .f32 q9_0r1, .float .f32 q9_0r2, .float .f32 q9_0r3, .float .f32 q9_0r4, .float .f32 q9_0r5, .float .f32 q9_0r6, .float .f32 q9_0r7, .float .f32 q9_0r8, .float .f32 q9_0r9] 32 (0, 0)) := E75.heap sp35 B74
      refine da_op rfl (d_cl (vs := [q31_1v, .int .i64 1]) en13 (ac rfl (ac rfl rfl)) rfl ?_)
      refine (c13 m70.2 1 q31_1v m77 w75 hm77 q75_m0R.rs).mono ?_
      rintro _ w81 ⟨rfl, E81⟩
      refine ⟨_, rfl, ?_⟩
      have X82 : Ext w w81 := X76.trans E81
      refine da_op rfl (d_as (v := .int .i64 m77) rfl ?_)
      refine da_nil ?_
      refine W_seq ?_
      refine W_seq ?_
      refine W_region rfl ?_
      refine da_op rfl (d_mv (v := .int .i64 m77) rfl ?_)
      refine da_op rfl (d_icmp cLss rfl rfl ?_)
      refine da_nil ?_
      refine W_cond (b := (icmp .lss m77 0)) rfl (fun hc83 => ?_) (fun hc83 => ?_)
      · skip
        replace hr := bif_t hr hc83
        refine W_seq ?_
        refine W_region rfl ?_
        refine da_op rfl (d_as (v := .bool false) rfl ?_)
        refine da_nil ?_
        refine W_ret ?_
        obtain rfl := Option.some.inj hr
        refine ⟨_, res1 (rv_tmp rfl), ?_⟩
        exact ⟨rfl, X82⟩
      · skip
        replace hr := bif_f hr hc83
        refine W_skip ?_
        refine W_seq ?_
        refine W_seq ?_
        refine W_region rfl ?_
        refine da_op rfl (d_mv (v := .int .i64 m77) rfl ?_)
        refine da_op rfl (d_mv (v := .int .i64 m70.1) rfl ?_)
        refine da_op rfl (d_icmp cNeq rfl rfl ?_)
        refine da_nil ?_
        refine W_cond (b := (icmp .neq m77 m70.1)) rfl (fun hc84 => ?_) (fun hc84 => ?_)
        · skip
          replace hr := bif_t hr hc84
          refine W_seq ?_
          refine W_region rfl ?_
          refine da_op rfl (d_as (v := .bool false) rfl ?_)
          refine da_nil ?_
          refine W_ret ?_
          obtain rfl := Option.some.inj hr
          refine ⟨_, res1 (rv_tmp rfl), ?_⟩
          exact ⟨rfl, X82⟩
        · skip
          replace hr := bif_f hr hc84
          refine W_skip ?_
          refine W_seq ?_
          refine W_region rfl ?_
          have B85 : w81.heap[w.heap.size]? = some (.cells #[.float .f32 p0r0, .float .f32 p0r1, .float .f32 p0r2, .float .f32 p0r3, .float .f32 p0r4, .float .f32 p0r5, .float .f32 p0r6, .float .f32 p0r7, .float .f32 p0r8, .float .f32 p0r9] 28 (0, 0)) := E81.heap B78
          refine da_op rfl (d_loads (vs := #[.float .f32 p0r0, .float .f32 p0r1, .float .f32 p0r2, .float .f32 p0r3, .float .f32 p0r4, .float .f32 p0r5, .float .f32 p0r6, .float .f32 p0r7, .float .f32 p0r8, .float .f32 p0r9]) s5_50 agg28 size28 B85 rfl ?_)
          obtain ⟨m86, hm86, hr⟩ := letv_out hr
          have B87 : OS w81 29 encSVector q9_1v m7.2.1 := B79.ext E81
          have B88 : w81.heap[w9.heap.size]? = some (.cells #[.float .f32 q9_0r0, .float .f32 q9_0r1, .float .f32 q9_0r2, .float .f32 q9_0r3, .float .f32 q9_0r4, .float .f32 q9_0r5, .float .f32 q9_0r6, .float .f32 q9_0r7, .float .f32 q9_0r8, .float .f32 q9_0r9] 32 (0, 0)) := E81.heap B80
          have B89 : OS w81 29 encSVector q31_1v m70.2 := q75_m0R.ext E81
          refine da_op rfl (d_cl (vs := [.agg #[.float .f32 p0r0, .float .f32 p0r1, .float .f32 p0r2, .float .f32 p0r3, .float .f32 p0r4, .float .f32 p0r5, .float .f32 p0r6, .float .f32 p0r7, .float .f32 p0r8, .float .f32 p0r9]]) en7 (ac rfl rfl) rfl ?_)
          refine (c7 (⟨(⟨p0.moments.x, p0.moments.y, p0.moments.z⟩ : SVector), (⟨p0.turn.w, p0.turn.x, p0.turn.y, p0.turn.z⟩ : SSpin), (⟨p0.speed.x, p0.speed.y, p0.speed.z⟩ : SVector)⟩ : STop) p0r0 p0r1 p0r2 p0r3 p0r4 p0r5 p0r6 p0r7 p0r8 p0r9 m86 w81 hm86 p0h0 p0h1 p0h2 p0h3 p0h4 p0h5 p0h6 p0h7 p0h8 p0h9).mono ?_
          rintro _ w90 ⟨q90_0r0, q90_0r1, q90_0r2, q90_0r3, q90_0r4, q90_0r5, q90_0r6, q90_0r7, q90_0r8, q90_0r9, rfl, q90_0h0, q90_0h1, q90_0h2, q90_0h3, q90_0h4, q90_0h5, q90_0h6, q90_0h7, q90_0h8, q90_0h9, E90⟩
          refine ⟨_, rfl, ?_⟩
          have X91 : Ext w w90 := X82.trans E90
          refine da_op rfl (d_mv (v := .float .f32 p1r) s1_50 ?_)
          refine da_op rfl (d_mv (v := .float .f32 p2r) s2_50 ?_)
          refine da_op rfl (d_mv (v := .float .f32 p3r) s3_50 ?_)
          refine da_op rfl (d_mv (v := .int .i64 p4) s4_50 ?_)
          obtain ⟨m92, hm92, hr⟩ := bind_out hr
          have B93 : w90.heap[w.heap.size]? = some (.cells #[.float .f32 p0r0, .float .f32 p0r1, .float .f32 p0r2, .float .f32 p0r3, .float .f32 p0r4, .float .f32 p0r5, .float .f32 p0r6, .float .f32 p0r7, .float .f32 p0r8, .float .f32 p0r9] 28 (0, 0)) := E90.heap B85
          have B94 : OS w90 29 encSVector q9_1v m7.2.1 := B87.ext E90
          have B95 : w90.heap[w9.heap.size]? = some (.cells #[.float .f32 q9_0r0, .float .f32 q9_0r1, .float .f32 q9_0r2, .float .f32 q9_0r3, .float .f32 q9_0r4, .float .f32 q9_0r5, .float .f32 q9_0r6, .float .f32 q9_0r7, .float .f32 q9_0r8, .float .f32 q9_0r9] 32 (0, 0)) := E90.heap B88
          have B96 : OS w90 29 encSVector q31_1v m70.2 := B89.ext E90
          refine da_op rfl (d_cl (vs := [.agg #[.float .f32 q90_0r0, .float .f32 q90_0r1, .float .f32 q90_0r2, .float .f32 q90_0r3, .float .f32 q90_0r4, .float .f32 q90_0r5, .float .f32 q90_0r6, .float .f32 q90_0r7, .float .f32 q90_0r8, .float .f32 q90_0r9], .float .f32 p1r, .float .f32 p2r, .float .f32 p3r, .int .i64 p4]) en15 (ac rfl (ac rfl (ac rfl (ac rfl (ac rfl rfl))))) rfl ?_)
          refine (c15 m86 p1 p2 p3 p4 q90_0r0 q90_0r1 q90_0r2 q90_0r3 q90_0r4 q90_0r5 q90_0r6 q90_0r7 q90_0r8 q90_0r9 p1r p2r p3r m92 w90 hm92 q90_0h0 q90_0h1 q90_0h2 q90_0h3 q90_0h4 q90_0h5 q90_0h6 q90_0h7 q90_0h8 q90_0h9 p1h p2h p3h).mono ?_
          rintro _ w97 ⟨q97_0r0, q97_0r1, q97_0r2, q97_0r3, q97_0r4, q97_0r5, q97_0r6, q97_0r7, q97_0r8, q97_0r9, q97_1v, rfl, q97_0h0, q97_0h1, q97_0h2, q97_0h3, q97_0h4, q97_0h5, q97_0h6, q97_0h7, q97_0h8, q97_0h9, q97_1R, q97_1F, E97⟩
          refine ⟨_, rfl, ?_⟩
          have own98 : ∀ k, q97_1v.ownBlock = some k → w.heap.size ≤ k := fun k hk => Nat.le_trans X91.size (q97_1F k hk)
          have sp99 : ¬ q97_1v.ownBlock = some w.heap.size := ne_fresh q97_1F (lt_heap B93)
          have sp100 : ∀ k, q9_1v.ownBlock = some k → ¬ q97_1v.ownBlock = some k := apart_fresh B94 q97_1F
          have sp101 : ¬ q97_1v.ownBlock = some w9.heap.size := ne_fresh q97_1F (lt_heap B95)
          have sp102 : ∀ k, q31_1v.ownBlock = some k → ¬ q97_1v.ownBlock = some k := apart_fresh B96 q97_1F
          have X103 : Ext w w97 := X91.trans E97
          refine da_op rfl (d_mv (v := .tuple #[.agg #[.float .f32 q97_0r0, .float .f32 q97_0r1, .float .f32 q97_0r2, .float .f32 q97_0r3, .float .f32 q97_0r4, .float .f32 q97_0r5, .float .f32 q97_0r6, .float .f32 q97_0r7, .float .f32 q97_0r8, .float .f32 q97_0r9], q97_1v, .bool m92.2.2]) rfl ?_)
          refine da_op rfl (d_extract (v := .agg #[.float .f32 q97_0r0, .float .f32 q97_0r1, .float .f32 q97_0r2, .float .f32 q97_0r3, .float .f32 q97_0r4, .float .f32 q97_0r5, .float .f32 q97_0r6, .float .f32 q97_0r7, .float .f32 q97_0r8, .float .f32 q97_0r9]) rfl rfl ?_)
          refine da_op rfl (d_extract (v := q97_1v) rfl rfl ?_)
          refine da_op rfl (d_extract (v := .bool m92.2.2) rfl rfl ?_)
          have B105 : w97.heap[w.heap.size]? = some (.cells #[.float .f32 p0r0, .float .f32 p0r1, .float .f32 p0r2, .float .f32 p0r3, .float .f32 p0r4, .float .f32 p0r5, .float .f32 p0r6, .float .f32 p0r7, .float .f32 p0r8, .float .f32 p0r9] 28 (0, 0)) := E97.heap B93
          have B106 : OS w97 29 encSVector q9_1v m7.2.1 := B94.ext E97
          have B107 : w97.heap[w9.heap.size]? = some (.cells #[.float .f32 q9_0r0, .float .f32 q9_0r1, .float .f32 q9_0r2, .float .f32 q9_0r3, .float .f32 q9_0r4, .float .f32 q9_0r5, .float .f32 q9_0r6, .float .f32 q9_0r7, .float .f32 q9_0r8, .float .f32 q9_0r9] 32 (0, 0)) := E97.heap B95
          have B108 : OS w97 29 encSVector q31_1v m70.2 := B96.ext E97
          refine da_op rfl (d_alloc (cs := #[.float .f32 0, .float .f32 0, .float .f32 0, .float .f32 0, .float .f32 0, .float .f32 0, .float .f32 0, .float .f32 0, .float .f32 0, .float .f32 0]) zero32 rfl fun w104 B104 E104 => ?_)
          have own109 : w.heap.size ≤ w97.heap.size := Nat.le_trans X103.size (Nat.le_refl _)
          have sp110 : w.heap.size ≠ w97.heap.size := Nat.ne_of_lt (Nat.lt_of_lt_of_le (lt_heap B105) (Nat.le_refl _))
          have sp111 : ¬ q9_1v.ownBlock = some w97.heap.size := OS.ne_new B106 (Nat.le_refl _)
          have sp112 : w9.heap.size ≠ w97.heap.size := Nat.ne_of_lt (Nat.lt_of_lt_of_le (lt_heap B107) (Nat.le_refl _))
          have sp113 : ¬ q31_1v.ownBlock = some w97.heap.size := OS.ne_new B108 (Nat.le_refl _)
          have sp114 : ¬ q97_1v.ownBlock = some w97.heap.size := OS.ne_new q97_1R (Nat.le_refl _)
          have X115 : Ext w w104 := X103.trans E104
          refine da_op rfl (d_store (vs := #[.float .f32 q97_0r0, .float .f32 q97_0r1, .float .f32 q97_0r2, .float .f32 q97_0r3, .float .f32 q97_0r4, .float .f32 q97_0r5, .float .f32 q97_0r6, .float .f32 q97_0r7, .float .f32 q97_0r8, .float .f32 q97_0r9]) rfl rfl B104 size32 (Nat.le_of_ble_eq_true rfl) rfl fun w116 S116 => ?_)
          have X117 : Ext w w116 := Ext.step X115 S116.frmb (fun k _ hk => hk ▸ own109)
          have B118 : w116.heap[w97.heap.size]? = some (.cells #[.float .f32 q97_0r0, .float .f32 q97_0r1, .float .f32 q97_0r2, .float .f32 q97_0r3, .float .f32 q97_0r4, .float .f32 q97_0r5, .float .f32 q97_0r6, .float .f32 q97_0r7, .float .f32 q97_0r8, .float .f32 q97_0r9] 32 (0, 0)) := S116.here
          refine da_op rfl (d_as (v := q97_1v) rfl ?_)
          refine da_op rfl (d_as (v := .bool m92.2.2) rfl ?_)
          refine da_nil ?_
          refine W_seq ?_
          refine W_seq ?_
          have B120 : OS w116 29 encSVector q9_1v m7.2.1 := (B106.ext E104).frm S116.frmb (rb sp111)
          have B121 : w116.heap[w9.heap.size]? = some (.cells #[.float .f32 q9_0r0, .float .f32 q9_0r1, .float .f32 q9_0r2, .float .f32 q9_0r3, .float .f32 q9_0r4, .float .f32 q9_0r5, .float .f32 q9_0r6, .float .f32 q9_0r7, .float .f32 q9_0r8, .float .f32 q9_0r9] 32 (0, 0)) := S116.frmb.heap sp112 (E104.heap B107)
          have B122 : OS w116 29 encSVector q31_1v m70.2 := (B108.ext E104).frm S116.frmb (rb sp113)
          have B123 : OS w116 29 encSVector q97_1v m92.2.1 := (q97_1R.ext E104).frm S116.frmb (rb sp114)
          obtain ⟨m119, hm119, hr⟩ := bind_out hr
          refine W_cut (fun σ' w' => σ' 95 = .bool m119 ∧ Ext w116 w') rfl ?_ ?_
          · skip
            have hr := hm119
            refine da_op rfl (d_loads (vs := #[.float .f32 q97_0r0, .float .f32 q97_0r1, .float .f32 q97_0r2, .float .f32 q97_0r3, .float .f32 q97_0r4, .float .f32 q97_0r5, .float .f32 q97_0r6, .float .f32 q97_0r7, .float .f32 q97_0r8, .float .f32 q97_0r9]) rfl agg32 size32 B118 rfl ?_)
            refine da_op rfl (d_loads (vs := #[.float .f32 q9_0r0, .float .f32 q9_0r1, .float .f32 q9_0r2, .float .f32 q9_0r3, .float .f32 q9_0r4, .float .f32 q9_0r5, .float .f32 q9_0r6, .float .f32 q9_0r7, .float .f32 q9_0r8, .float .f32 q9_0r9]) s11_50 agg32 size32 B121 rfl ?_)
            obtain ⟨m124, hm124, hr⟩ := letv_out hr
            refine da_op rfl (d_cl (vs := [.agg #[.float .f32 q97_0r0, .float .f32 q97_0r1, .float .f32 q97_0r2, .float .f32 q97_0r3, .float .f32 q97_0r4, .float .f32 q97_0r5, .float .f32 q97_0r6, .float .f32 q97_0r7, .float .f32 q97_0r8, .float .f32 q97_0r9], .agg #[.float .f32 q9_0r0, .float .f32 q9_0r1, .float .f32 q9_0r2, .float .f32 q9_0r3, .float .f32 q9_0r4, .float .f32 q9_0r5, .float .f32 q9_0r6, .float .f32 q9_0r7, .float .f32 q9_0r8, .float .f32 q9_0r9]]) en10 (ac rfl (ac rfl rfl)) rfl ?_)
            refine (c10 m92.1 (⟨(⟨m7.1.moments.x, m7.1.moments.y, m7.1.moments.z⟩ : SVector), (⟨m7.1.turn.w, m7.1.turn.x, m7.1.turn.y, m7.1.turn.z⟩ : SSpin), (⟨m7.1.speed.x, m7.1.speed.y, m7.1.speed.z⟩ : SVector)⟩ : STop) q97_0r0 q97_0r1 q97_0r2 q97_0r3 q97_0r4 q97_0r5 q97_0r6 q97_0r7 q97_0r8 q97_0r9 q9_0r0 q9_0r1 q9_0r2 q9_0r3 q9_0r4 q9_0r5 q9_0r6 q9_0r7 q9_0r8 q9_0r9 m124 w116 hm124 q97_0h0 q97_0h1 q97_0h2 q97_0h3 q97_0h4 q97_0h5 q97_0h6 q97_0h7 q97_0h8 q97_0h9 q9_0h0 q9_0h1 q9_0h2 q9_0h3 q9_0h4 q9_0h5 q9_0h6 q9_0h7 q9_0h8 q9_0h9).mono ?_
            rintro _ w125 ⟨rfl, E125⟩
            refine ⟨_, rfl, ?_⟩
            have X126 : Ext w w125 := X117.trans E125
            refine da_op rfl (d_not rfl ?_)
            refine da_op rfl (d_mv (v := .bool (!m124)) rfl ?_)
            rcases Bool.eq_false_or_eq_true m124 with hc127 | hc127
            · skip
              replace hr := bif_t hr hc127
              refine da_on rfl (Eq.trans (show sl _ _ _ = .bool (!m124) from rfl) (congrArg Value.bool (congrArg not hc127))) (d_mv (v := q97_1v) rfl ?_)
              refine da_on rfl (Eq.trans (show sl _ _ _ = .bool (!m124) from rfl) (congrArg Value.bool (congrArg not hc127))) (d_mv (v := q9_1v) s12_50 ?_)
              obtain ⟨m128, hm128, hr⟩ := bind_out hr
              have B129 : OS w125 29 encSVector q97_1v m92.2.1 := B123.ext E125
              have B130 : OS w125 29 encSVector q9_1v m7.2.1 := B120.ext E125
              have B131 : w125.heap[w9.heap.size]? = some (.cells #[.float .f32 q9_0r0, .float .f32 q9_0r1, .float .f32 q9_0r2, .float .f32 q9_0r3, .float .f32 q9_0r4, .float .f32 q9_0r5, .float .f32 q9_0r6, .float .f32 q9_0r7, .float .f32 q9_0r8, .float .f32 q9_0r9] 32 (0, 0)) := E125.heap B121
              have B132 : OS w125 29 encSVector q31_1v m70.2 := B122.ext E125
              have B133 : w125.heap[w97.heap.size]? = some (.cells #[.float .f32 q97_0r0, .float .f32 q97_0r1, .float .f32 q97_0r2, .float .f32 q97_0r3, .float .f32 q97_0r4, .float .f32 q97_0r5, .float .f32 q97_0r6, .float .f32 q97_0r7, .float .f32 q97_0r8, .float .f32 q97_0r9] 32 (0, 0)) := E125.heap B118
              refine da_on rfl (Eq.trans (show sl _ _ _ = .bool (!m124) from rfl) (congrArg Value.bool (congrArg not hc127))) (d_cl (vs := [q97_1v, q9_1v]) en11 (ac rfl (ac rfl rfl)) rfl ?_)
              refine (c11 m92.2.1 m7.2.1 q97_1v q9_1v m128 w125 hm128 B129.rs B130.rs).mono ?_
              rintro _ w134 ⟨rfl, E134⟩
              refine ⟨_, rfl, ?_⟩
              have X135 : Ext w w134 := X126.trans E134
              refine da_on rfl (Eq.trans (show sl _ _ _ = .bool (!m124) from rfl) (congrArg Value.bool (congrArg not hc127))) (d_not rfl ?_)
              refine da_op rfl (d_pick (b := false) (Eq.trans (show ev _ _ = .bool (!m124) from rfl) (congrArg Value.bool (congrArg not hc127))) ?_)
              refine da_op rfl (d_mv (v := .bool (!m128)) rfl ?_)
              rcases Bool.eq_false_or_eq_true m128 with hc136 | hc136
              · skip
                replace hr := bif_t hr hc136
                refine da_on rfl (Eq.trans (show sl _ _ _ = .bool (!m128) from rfl) (congrArg Value.bool (congrArg not hc136))) (d_mv (v := .bool m92.2.2) rfl ?_)
                refine da_on rfl (Eq.trans (show sl _ _ _ = .bool (!m128) from rfl) (congrArg Value.bool (congrArg not hc136))) (d_mv (v := .bool m7.2.2) s13_50 ?_)
                refine da_on rfl (Eq.trans (show sl _ _ _ = .bool (!m128) from rfl) (congrArg Value.bool (congrArg not hc136))) (d_bne un4 rfl rfl ?_)
                refine da_op rfl (d_pick (b := false) (Eq.trans (show ev _ _ = .bool (!m128) from rfl) (congrArg Value.bool (congrArg not hc136))) ?_)
                refine da_nil ?_
                obtain rfl := Option.some.inj hr
                exact ⟨rfl, (Ext.trans (Ext.trans (Ext.refl w116) E125) E134)⟩
              · skip
                replace hr := bif_f hr hc136
                refine da_off rfl (Eq.trans (show sl _ _ _ = .bool (!m128) from rfl) (congrArg Value.bool (congrArg not hc136))) (by decide) ?_
                refine da_off rfl (Eq.trans (show sl _ _ _ = .bool (!m128) from rfl) (congrArg Value.bool (congrArg not hc136))) (by decide) ?_
                refine da_off rfl (Eq.trans (show sl _ _ _ = .bool (!m128) from rfl) (congrArg Value.bool (congrArg not hc136))) (by decide) ?_
                refine da_op rfl (d_pick (b := true) (Eq.trans (show ev _ _ = .bool (!m128) from rfl) (congrArg Value.bool (congrArg not hc136))) ?_)
                refine da_nil ?_
                obtain rfl := Option.some.inj hr
                exact ⟨rfl, (Ext.trans (Ext.trans (Ext.refl w116) E125) E134)⟩
            · skip
              replace hr := bif_f hr hc127
              refine da_off rfl (Eq.trans (show sl _ _ _ = .bool (!m124) from rfl) (congrArg Value.bool (congrArg not hc127))) (by decide) ?_
              refine da_off rfl (Eq.trans (show sl _ _ _ = .bool (!m124) from rfl) (congrArg Value.bool (congrArg not hc127))) (by decide) ?_
              refine da_off rfl (Eq.trans (show sl _ _ _ = .bool (!m124) from rfl) (congrArg Value.bool (congrArg not hc127))) (by decide) ?_
              refine da_off rfl (Eq.trans (show sl _ _ _ = .bool (!m124) from rfl) (congrArg Value.bool (congrArg not hc127))) (by decide) ?_
              refine da_op rfl (d_pick (b := true) (Eq.trans (show ev _ _ = .bool (!m124) from rfl) (congrArg Value.bool (congrArg not hc127))) ?_)
              refine da_op rfl (d_mv (v := .bool true) rfl ?_)
              refine da_off rfl rfl (by decide) ?_
              refine da_off rfl rfl (by decide) ?_
              refine da_off rfl rfl (by decide) ?_
              refine da_op rfl (d_pick (b := true) rfl ?_)
              refine da_nil ?_
              obtain rfl := Option.some.inj hr
              exact ⟨rfl, (Ext.trans (Ext.refl w116) E125)⟩
          · skip
            rintro σ119 w119 o119 ⟨s95_119, E119⟩
            have s15_119 : σ119 15 = q31_1v := (o119 15 rfl).trans s15_50
            have s17_119 : σ119 17 = .int .i64 m70.1 := (o119 17 rfl).trans rfl
            have X137 : Ext w w119 := X117.trans E119
            refine W_cond (b := m119) s95_119 (fun hc138 => ?_) (fun hc138 => ?_)
            · skip
              replace hr := bif_t hr hc138
              refine W_seq ?_
              refine W_region rfl ?_
              refine da_op rfl (d_as (v := .bool false) rfl ?_)
              refine da_nil ?_
              refine W_ret ?_
              obtain rfl := Option.some.inj hr
              refine ⟨_, res1 (rv_tmp rfl), ?_⟩
              exact ⟨rfl, X137⟩
            · skip
              replace hr := bif_f hr hc138
              refine W_skip ?_
              refine W_seq ?_
              refine W_region rfl ?_
              refine da_op rfl (d_as (v := .int .i64 1) rfl ?_)
              refine da_nil ?_
              refine W_seq ?_
              refine W_region rfl ?_
              refine da_op rfl (d_mv (v := q31_1v) s15_119 ?_)
              refine da_op rfl (d_mv (v := .int .i64 1) rfl ?_)
              obtain ⟨m139, hm139, hr⟩ := bind_out hr
              have B140 : OS w119 29 encSVector q31_1v m70.2 := B122.ext E119
              refine da_op rfl (d_cl (vs := [q31_1v, .int .i64 1]) en13 (ac rfl (ac rfl rfl)) rfl ?_)
              refine (c13 m70.2 1 q31_1v m139 w119 hm139 B140.rs).mono ?_
              rintro _ w141 ⟨rfl, E141⟩
              refine ⟨_, rfl, ?_⟩
              have X142 : Ext w w141 := X137.trans E141
              refine da_op rfl (d_as (v := .int .i64 m139) rfl ?_)
              refine da_nil ?_
              refine W_seq ?_
              refine W_seq ?_
              refine W_region rfl ?_
              refine da_op rfl (d_mv (v := .int .i64 m139) rfl ?_)
              refine da_op rfl (d_icmp cLss rfl rfl ?_)
              refine da_nil ?_
              refine W_cond (b := (icmp .lss m139 0)) rfl (fun hc143 => ?_) (fun hc143 => ?_)
              · skip
                replace hr := bif_t hr hc143
                refine W_seq ?_
                refine W_region rfl ?_
                refine da_op rfl (d_as (v := .bool false) rfl ?_)
                refine da_nil ?_
                refine W_ret ?_
                obtain rfl := Option.some.inj hr
                refine ⟨_, res1 (rv_tmp rfl), ?_⟩
                exact ⟨rfl, X142⟩
              · skip
                replace hr := bif_f hr hc143
                refine W_skip ?_
                refine W_seq ?_
                refine W_seq ?_
                refine W_region rfl ?_
                refine da_op rfl (d_mv (v := .int .i64 m139) rfl ?_)
                refine da_op rfl (d_mv (v := .int .i64 m70.1) s17_119 ?_)
                refine da_op rfl (d_icmp cNeq rfl rfl ?_)
                refine da_nil ?_
                refine W_cond (b := (icmp .neq m139 m70.1)) rfl (fun hc144 => ?_) (fun hc144 => ?_)
                · skip
                  replace hr := bif_t hr hc144
                  refine W_seq ?_
                  refine W_region rfl ?_
                  refine da_op rfl (d_as (v := .bool false) rfl ?_)
                  refine da_nil ?_
                  refine W_ret ?_
                  obtain rfl := Option.some.inj hr
                  refine ⟨_, res1 (rv_tmp rfl), ?_⟩
                  exact ⟨rfl, X142⟩
                · skip
                  replace hr := bif_f hr hc144
                  refine W_skip ?_
                  refine W_seq ?_
                  refine W_region rfl ?_
                  refine da_op rfl (d_as (v := .bool true) rfl ?_)
                  refine da_nil ?_
                  refine W_ret ?_
                  obtain rfl := Option.some.inj hr
                  refine ⟨_, res1 (rv_tmp rfl), ?_⟩
                  exact ⟨rfl, X142⟩
end Go.Proofs
