import Derived.Test.YtdcienojgkioiaaCt3
namespace Go.Proofs
open Go Go.Fl Go.RowKit Go.Rg
set_option maxRecDepth 100000
set_option linter.unusedVariables false
attribute [local irreducible] Go.Calls doAll Does DoesG W Wr
set_option maxHeartbeats 4000000 in
theorem c55 (p0 : STop) (p1 : SVector) (p2 : Nat) (p0r0 : Nat) (p0r1 : Nat) (p0r2 : Nat) (p0r3 : Nat) (p0r4 : Nat) (p0r5 : Nat) (p0r6 : Nat) (p0r7 : Nat) (p0r8 : Nat) (p0r9 : Nat) (p1r0 : Nat) (p1r1 : Nat) (p1r2 : Nat) (p2r : Nat) (r : STop × Bool) (w : World) (hr : M.impl_StepTop p0 p1 p2 = some r) (p0h0 : cn .f32 p0r0 = p0.moments.x) (p0h1 : cn .f32 p0r1 = p0.moments.y) (p0h2 : cn .f32 p0r2 = p0.moments.z) (p0h3 : cn .f32 p0r3 = p0.turn.w) (p0h4 : cn .f32 p0r4 = p0.turn.x) (p0h5 : cn .f32 p0r5 = p0.turn.y) (p0h6 : cn .f32 p0r6 = p0.turn.z) (p0h7 : cn .f32 p0r7 = p0.speed.x) (p0h8 : cn .f32 p0r8 = p0.speed.y) (p0h9 : cn .f32 p0r9 = p0.speed.z) (p1h0 : cn .f32 p1r0 = p1.x) (p1h1 : cn .f32 p1r1 = p1.y) (p1h2 : cn .f32 p1r2 = p1.z) (p2h : cn .f32 p2r = p2) :
    Calls Try.prog 55 #[.agg #[.float .f32 p0r0, .float .f32 p0r1, .float .f32 p0r2, .float .f32 p0r3, .float .f32 p0r4, .float .f32 p0r5, .float .f32 p0r6, .float .f32 p0r7, .float .f32 p0r8, .float .f32 p0r9], .agg #[.float .f32 p1r0, .float .f32 p1r1, .float .f32 p1r2], .float .f32 p2r] w fun e w' => ∃ q0r0 : Nat, ∃ q0r1 : Nat, ∃ q0r2 : Nat, ∃ q0r3 : Nat, ∃ q0r4 : Nat, ∃ q0r5 : Nat, ∃ q0r6 : Nat, ∃ q0r7 : Nat, ∃ q0r8 : Nat, ∃ q0r9 : Nat, e = .returned (.tuple #[.agg #[.float .f32 q0r0, .float .f32 q0r1, .float .f32 q0r2, .float .f32 q0r3, .float .f32 q0r4, .float .f32 q0r5, .float .f32 q0r6, .float .f32 q0r7, .float .f32 q0r8, .float .f32 q0r9], .bool r.2]) ∧ cn .f32 q0r0 = r.1.moments.x ∧ cn .f32 q0r1 = r.1.moments.y ∧ cn .f32 q0r2 = r.1.moments.z ∧ cn .f32 q0r3 = r.1.turn.w ∧ cn .f32 q0r4 = r.1.turn.x ∧ cn .f32 q0r5 = r.1.turn.y ∧ cn .f32 q0r6 = r.1.turn.z ∧ cn .f32 q0r7 = r.1.speed.x ∧ cn .f32 q0r8 = r.1.speed.y ∧ cn .f32 q0r9 = r.1.speed.z ∧ Ext w w' := by
  refine calls_of_W Try.func55 rfl (Nat.le_of_ble_eq_true rfl) ?_
  refine W_seq ?_
  refine W_region rfl ?_
  refine da_op rfl (d_box (cs := #[.float .f32 p0r0, .float .f32 p0r1, .float .f32 p0r2, .float .f32 p0r3, .float .f32 p0r4, .float .f32 p0r5, .float .f32 p0r6, .float .f32 p0r7, .float .f32 p0r8, .float .f32 p0r9]) rfl fun w1 B1 E1 => ?_)
  have own2 : w.heap.size ≤ w.heap.size := Nat.le_trans (Ext.refl w).size (Nat.le_refl _)
  have X3 : Ext w w1 := (Ext.refl w).trans E1
  refine da_op rfl (d_box (cs := #[.float .f32 p1r0, .float .f32 p1r1, .float .f32 p1r2]) rfl fun w4 B4 E4 => ?_)
  have own5 : w.heap.size ≤ w1.heap.size := Nat.le_trans X3.size (Nat.le_refl _)
  have sp6 : w.heap.size ≠ w1.heap.size := Nat.ne_of_lt (Nat.lt_of_lt_of_le (lt_heap B1) (Nat.le_refl _))
  have X7 : Ext w w4 := X3.trans E4
  have B9 : w4.heap[w.heap.size]? = some (.cells #[.float .f32 p0r0, .float .f32 p0r1, .float .f32 p0r2, .float .f32 p0r3, .float .f32 p0r4, .float .f32 p0r5, .float .f32 p0r6, .float .f32 p0r7, .float .f32 p0r8, .float .f32 p0r9] 32 (0, 0)) := E4.heap B1
  refine da_op rfl (d_alloc (cs := #[.float .f32 0, .float .f32 0, .float .f32 0, .float .f32 0, .float .f32 0, .float .f32 0, .float .f32 0, .float .f32 0, .float .f32 0, .float .f32 0]) zero32 rfl fun w8 B8 E8 => ?_)
  have own10 : w.heap.size ≤ w4.heap.size := Nat.le_trans X7.size (Nat.le_refl _)
  have sp11 : w.heap.size ≠ w4.heap.size := Nat.ne_of_lt (Nat.lt_of_lt_of_le (lt_heap B9) (Nat.le_refl _))
  have sp12 : w1.heap.size ≠ w4.heap.size := Nat.ne_of_lt (Nat.lt_of_lt_of_le (lt_heap B4) (Nat.le_refl _))
  have X13 : Ext w w8 := X7.trans E8
  refine da_op rfl (d_as (v := .bool false) rfl ?_)
  refine da_nil ?_
  refine W_seq ?_
  refine W_seq ?_
  have B15 : w8.heap[w.heap.size]? = some (.cells #[.float .f32 p0r0, .float .f32 p0r1, .float .f32 p0r2, .float .f32 p0r3, .float .f32 p0r4, .float .f32 p0r5, .float .f32 p0r6, .float .f32 p0r7, .float .f32 p0r8, .float .f32 p0r9] 32 (0, 0)) := E8.heap B9
  have B16 : w8.heap[w1.heap.size]? = some (.cells #[.float .f32 p1r0, .float .f32 p1r1, .float .f32 p1r2] 29 (0, 0)) := E8.heap B4
  obtain ⟨m14, hm14, hr⟩ := bind_out hr
  refine W_cut (fun σ' w' => σ' 27 = .bool m14 ∧ Ext w8 w') rfl ?_ ?_
  · skip
    have hr := hm14
    refine da_op rfl (d_loads (vs := #[.float .f32 p0r0, .float .f32 p0r1, .float .f32 p0r2, .float .f32 p0r3, .float .f32 p0r4, .float .f32 p0r5, .float .f32 p0r6, .float .f32 p0r7, .float .f32 p0r8, .float .f32 p0r9]) rfl agg32 size32 B15 rfl ?_)
    obtain ⟨m17, hm17, hr⟩ := bind_out hr
    refine da_op rfl (d_cl (vs := [.agg #[.float .f32 p0r0, .float .f32 p0r1, .float .f32 p0r2, .float .f32 p0r3, .float .f32 p0r4, .float .f32 p0r5, .float .f32 p0r6, .float .f32 p0r7, .float .f32 p0r8, .float .f32 p0r9]]) en52 (ac rfl rfl) rfl ?_)
    refine (c52 p0 p0r0 p0r1 p0r2 p0r3 p0r4 p0r5 p0r6 p0r7 p0r8 p0r9 m17 w8 hm17 p0h0 p0h1 p0h2 p0h3 p0h4 p0h5 p0h6 p0h7 p0h8 p0h9).mono ?_
    rintro _ w18 ⟨rfl, E18⟩
    refine ⟨_, rfl, ?_⟩
    have X19 : Ext w w18 := X13.trans E18
    refine da_op rfl (d_not rfl ?_)
    refine da_op rfl (d_mv (v := .bool (!m17)) rfl ?_)
    rcases Bool.eq_false_or_eq_true m17 with hc20 | hc20
    · skip
      replace hr := bif_t hr hc20
      have B21 : w18.heap[w1.heap.size]? = some (.cells #[.float .f32 p1r0, .float .f32 p1r1, .float .f32 p1r2] 29 (0, 0)) := E18.heap B16
      refine da_on rfl (Eq.trans (show sl _ _ _ = .bool (!m17) from rfl) (congrArg Value.bool (congrArg not hc20))) (d_loads (vs := #[.float .f32 p1r0, .float .f32 p1r1, .float .f32 p1r2]) rfl agg29 size29 B21 rfl ?_)
      obtain ⟨m22, hm22, hr⟩ := bind_out hr
      have B23 : w18.heap[w.heap.size]? = some (.cells #[.float .f32 p0r0, .float .f32 p0r1, .float .f32 p0r2, .float .f32 p0r3, .float .f32 p0r4, .float .f32 p0r5, .float .f32 p0r6, .float .f32 p0r7, .float .f32 p0r8, .float .f32 p0r9] 32 (0, 0)) := E18.heap B15
      have B24 : w18.heap[w4.heap.size]? = some (.cells #[.float .f32 0, .float .f32 0, .float .f32 0, .float .f32 0, .float .f32 0, .float .f32 0, .float .f32 0, .float .f32 0, .float .f32 0, .float .f32 0] 32 (0, 0)) := E18.heap B8
      refine da_on rfl (Eq.trans (show sl _ _ _ = .bool (!m17) from rfl) (congrArg Value.bool (congrArg not hc20))) (d_cl (vs := [.agg #[.float .f32 p1r0, .float .f32 p1r1, .float .f32 p1r2]]) en25 (ac rfl rfl) rfl ?_)
      refine (c25 p1 p1r0 p1r1 p1r2 m22 w18 hm22 p1h0 p1h1 p1h2).mono ?_
      rintro _ w25 ⟨rfl, E25⟩
      refine ⟨_, rfl, ?_⟩
      have X26 : Ext w w25 := X19.trans E25
      refine da_on rfl (Eq.trans (show sl _ _ _ = .bool (!m17) from rfl) (congrArg Value.bool (congrArg not hc20))) (d_not rfl ?_)
      refine da_op rfl (d_pick (b := false) (Eq.trans (show ev _ _ = .bool (!m17) from rfl) (congrArg Value.bool (congrArg not hc20))) ?_)
      refine da_op rfl (d_mv (v := .bool (!m22)) rfl ?_)
      rcases Bool.eq_false_or_eq_true m22 with hc27 | hc27
      · skip
        replace hr := bif_t hr hc27
        refine da_on rfl (Eq.trans (show sl _ _ _ = .bool (!m22) from rfl) (congrArg Value.bool (congrArg not hc27))) (d_mv (v := .float .f32 p2r) rfl ?_)
        obtain ⟨m28, hm28, hr⟩ := letv_out hr
        have B29 : w25.heap[w.heap.size]? = some (.cells #[.float .f32 p0r0, .float .f32 p0r1, .float .f32 p0r2, .float .f32 p0r3, .float .f32 p0r4, .float .f32 p0r5, .float .f32 p0r6, .float .f32 p0r7, .float .f32 p0r8, .float .f32 p0r9] 32 (0, 0)) := E25.heap B23
        have B30 : w25.heap[w1.heap.size]? = some (.cells #[.float .f32 p1r0, .float .f32 p1r1, .float .f32 p1r2] 29 (0, 0)) := E25.heap B21
        have B31 : w25.heap[w4.heap.size]? = some (.cells #[.float .f32 0, .float .f32 0, .float .f32 0, .float .f32 0, .float .f32 0, .float .f32 0, .float .f32 0, .float .f32 0, .float .f32 0, .float .f32 0] 32 (0, 0)) := E25.heap B24
        refine da_on rfl (Eq.trans (show sl _ _ _ = .bool (!m22) from rfl) (congrArg Value.bool (congrArg not hc27))) (d_cl (vs := [.float .f32 p2r]) en53 (ac rfl rfl) rfl ?_)
        refine (c53 p2 p2r m28 w25 hm28 p2h).mono ?_
        rintro _ w32 ⟨rfl, E32⟩
        refine ⟨_, rfl, ?_⟩
        have X33 : Ext w w32 := X26.trans E32
        refine da_on rfl (Eq.trans (show sl _ _ _ = .bool (!m22) from rfl) (congrArg Value.bool (congrArg not hc27))) (d_not rfl ?_)
        refine da_op rfl (d_pick (b := false) (Eq.trans (show ev _ _ = .bool (!m22) from rfl) (congrArg Value.bool (congrArg not hc27))) ?_)
        refine da_nil ?_
        obtain rfl := Option.some.inj hr
        exact ⟨rfl, (Ext.trans (Ext.trans (Ext.trans (Ext.refl w8) E18) E25) E32)⟩
      · skip
        replace hr := bif_f hr hc27
        refine da_off rfl (Eq.trans (show sl _ _ _ = .bool (!m22) from rfl) (congrArg Value.bool (congrArg not hc27))) (by decide) ?_
        refine da_off rfl (Eq.trans (show sl _ _ _ = .bool (!m22) from rfl) (congrArg Value.bool (congrArg not hc27))) (by decide) ?_
        refine da_off rfl (Eq.trans (show sl _ _ _ = .bool (!m22) from rfl) (congrArg Value.bool (congrArg not hc27))) (by decide) ?_
        refine da_op rfl (d_pick (b := true) (Eq.trans (show ev _ _ = .bool (!m22) from rfl) (congrArg Value.bool (congrArg not hc27))) ?_)
        refine da_nil ?_
        obtain rfl := Option.some.inj hr
        exact ⟨rfl, (Ext.trans (Ext.trans (Ext.refl w8) E18) E25)⟩
    · skip
      replace hr := bif_f hr hc20
      refine da_off rfl (Eq.trans (show sl _ _ _ = .bool (!m17) from rfl) (congrArg Value.bool (congrArg not hc20))) (by decide) ?_
      refine da_off rfl (Eq.trans (show sl _ _ _ = .bool (!m17) from rfl) (congrArg Value.bool (congrArg not hc20))) (by decide) ?_
      refine da_off rfl (Eq.trans (show sl _ _ _ = .bool (!m17) from rfl) (congrArg Value.bool (congrArg not hc20))) (by decide) ?_
      refine da_op rfl (d_pick (b := true) (Eq.trans (show ev _ _ = .bool (!m17) from rfl) (congrArg Value.bool (congrArg not hc20))) ?_)
      refine da_op rfl (d_mv (v := .bool true) rfl ?_)
      refine da_off rfl rfl (by decide) ?_
      refine da_off rfl rfl (by decide) ?_
      refine da_off rfl rfl (by decide) ?_
      refine da_op rfl (d_pick (b := true) rfl ?_)
      refine da_nil ?_
      obtain rfl := Option.some.inj hr
      exact ⟨rfl, (Ext.trans (Ext.refl w8) E18)⟩
  · skip
    rintro σ14 w14 o14 ⟨s27_14, E14⟩
    have s2_14 : σ14 2 = .float .f32 p2r := (o14 2 rfl).trans rfl
    have s3_14 : σ14 3 = .pointer (some ⟨w.heap.size, 0, none⟩) := (o14 3 rfl).trans rfl
    have s4_14 : σ14 4 = .pointer (some ⟨w1.heap.size, 0, none⟩) := (o14 4 rfl).trans rfl
    have s6_14 : σ14 6 = .pointer (some ⟨w4.heap.size, 0, none⟩) := (o14 6 rfl).trans rfl
    have X34 : Ext w w14 := X13.trans E14
    refine W_cond (b := m14) s27_14 (fun hc35 => ?_) (fun hc35 => ?_)
    · skip
      replace hr := bif_t hr hc35
      refine W_seq ?_
      refine W_region rfl ?_
      refine da_op rfl (d_bd (vs := []) (cs := #[.float .f32 0, .float .f32 0, .float .f32 0, .float .f32 0, .float .f32 0, .float .f32 0, .float .f32 0, .float .f32 0, .float .f32 0, .float .f32 0]) rfl (by kernel_rfl) ?_)
      have B36 : w14.heap[w4.heap.size]? = some (.cells #[.float .f32 0, .float .f32 0, .float .f32 0, .float .f32 0, .float .f32 0, .float .f32 0, .float .f32 0, .float .f32 0, .float .f32 0, .float .f32 0] 32 (0, 0)) := E14.heap B8
      refine da_op rfl (d_store (vs := #[.float .f32 0, .float .f32 0, .float .f32 0, .float .f32 0, .float .f32 0, .float .f32 0, .float .f32 0, .float .f32 0, .float .f32 0, .float .f32 0]) s6_14 rfl B36 size32 (Nat.le_of_ble_eq_true rfl) rfl fun w37 S37 => ?_)
      have X38 : Ext w w37 := Ext.step X34 S37.frmb (fun k _ hk => hk ▸ own10)
      have B39 : w37.heap[w4.heap.size]? = some (.cells #[.float .f32 0, .float .f32 0, .float .f32 0, .float .f32 0, .float .f32 0, .float .f32 0, .float .f32 0, .float .f32 0, .float .f32 0, .float .f32 0] 32 (0, 0)) := S37.here
      refine da_op rfl (d_as (v := .bool false) rfl ?_)
      refine da_nil ?_
      refine W_ret ?_
      obtain rfl := Option.some.inj hr
      refine ⟨_, res2 (rv_cells (vs := #[.float .f32 0, .float .f32 0, .float .f32 0, .float .f32 0, .float .f32 0, .float .f32 0, .float .f32 0, .float .f32 0, .float .f32 0, .float .f32 0]) s6_14 agg32 size32 B39 rfl) (rv_tmp rfl), ?_⟩
      exact ⟨0, 0, 0, 0, 0, 0, 0, 0, 0, 0, rfl, cn_f32_0, cn_f32_0, cn_f32_0, cn_f32_0, cn_f32_0, cn_f32_0, cn_f32_0, cn_f32_0, cn_f32_0, cn_f32_0, X38⟩
    · skip
      replace hr := bif_f hr hc35
      refine W_skip ?_
      refine W_seq ?_
      refine W_region rfl ?_
      refine da_op rfl (d_mv (v := .float .f32 p2r) s2_14 ?_)
      refine da_op rfl (d_fop (k := .f32) fQuo rfl rfl p2h cn_f32_1073741824 fun r40 w40 h40 _ E40 => ?_)
      have X41 : Ext w w40 := X34.trans E40
      refine da_op rfl (d_as (v := .float .f32 r40) rfl ?_)
      refine da_nil ?_
      refine W_seq ?_
      refine W_region rfl ?_
      refine da_op rfl (d_fieldAddr s3_14 (fa32_2 _ _) ?_)
      have B42 : w40.heap[w.heap.size]? = some (.cells #[.float .f32 p0r0, .float .f32 p0r1, .float .f32 p0r2, .float .f32 p0r3, .float .f32 p0r4, .float .f32 p0r5, .float .f32 p0r6, .float .f32 p0r7, .float .f32 p0r8, .float .f32 p0r9] 32 (0, 0)) := E40.heap (E14.heap B15)
      refine da_op rfl (d_loads (vs := #[.float .f32 p0r7, .float .f32 p0r8, .float .f32 p0r9]) rfl agg29 size29 B42 rfl ?_)
      have B43 : w40.heap[w1.heap.size]? = some (.cells #[.float .f32 p1r0, .float .f32 p1r1, .float .f32 p1r2] 29 (0, 0)) := E40.heap (E14.heap B16)
      refine da_op rfl (d_loads (vs := #[.float .f32 p1r0, .float .f32 p1r1, .float .f32 p1r2]) s4_14 agg29 size29 B43 rfl ?_)
      obtain ⟨m44, hm44, hr⟩ := letv_out hr
      have B45 : w40.heap[w4.heap.size]? = some (.cells #[.float .f32 0, .float .f32 0, .float .f32 0, .float .f32 0, .float .f32 0, .float .f32 0, .float .f32 0, .float .f32 0, .float .f32 0, .float .f32 0] 32 (0, 0)) := E40.heap (E14.heap B8)
      refine da_op rfl (d_cl (vs := [.pointer (some ⟨w.heap.size, 0, none⟩), .agg #[.float .f32 p0r7, .float .f32 p0r8, .float .f32 p0r9], .agg #[.float .f32 p1r0, .float .f32 p1r1, .float .f32 p1r2]]) en93 (ac s3_14 (ac rfl (ac rfl rfl))) rfl ?_)
      refine (c93 (⟨(⟨p0.moments.x, p0.moments.y, p0.moments.z⟩ : SVector), (⟨p0.turn.w, p0.turn.x, p0.turn.y, p0.turn.z⟩ : SSpin), (⟨p0.speed.x, p0.speed.y, p0.speed.z⟩ : SVector)⟩ : STop) (⟨p0.speed.x, p0.speed.y, p0.speed.z⟩ : SVector) (⟨p1.x, p1.y, p1.z⟩ : SVector) w.heap.size 0 #[.float .f32 p0r0, .float .f32 p0r1, .float .f32 p0r2, .float .f32 p0r3, .float .f32 p0r4, .float .f32 p0r5, .float .f32 p0r6, .float .f32 p0r7, .float .f32 p0r8, .float .f32 p0r9] 32 (0, 0) p0r0 p0r1 p0r2 p0r3 p0r4 p0r5 p0r6 p0r7 p0r8 p0r9 p0r7 p0r8 p0r9 p1r0 p1r1 p1r2 m44 w40 hm44 p0h0 p0h1 p0h2 p0h3 p0h4 p0h5 p0h6 p0h7 p0h8 p0h9 B42 rfl p0h7 p0h8 p0h9 p1h0 p1h1 p1h2).mono ?_
      rintro _ w46 ⟨q46_0r0, q46_0r1, q46_0r2, rfl, q46_0h0, q46_0h1, q46_0h2, E46⟩
      refine ⟨_, rfl, ?_⟩
      have X47 : Ext w w46 := X41.trans E46
      have B49 : w46.heap[w.heap.size]? = some (.cells #[.float .f32 p0r0, .float .f32 p0r1, .float .f32 p0r2, .float .f32 p0r3, .float .f32 p0r4, .float .f32 p0r5, .float .f32 p0r6, .float .f32 p0r7, .float .f32 p0r8, .float .f32 p0r9] 32 (0, 0)) := E46.heap B42
      have B50 : w46.heap[w1.heap.size]? = some (.cells #[.float .f32 p1r0, .float .f32 p1r1, .float .f32 p1r2] 29 (0, 0)) := E46.heap B43
      have B51 : w46.heap[w4.heap.size]? = some (.cells #[.float .f32 0, .float .f32 0, .float .f32 0, .float .f32 0, .float .f32 0, .float .f32 0, .float .f32 0, .float .f32 0, .float .f32 0, .float .f32 0] 32 (0, 0)) := E46.heap B45
      refine da_op rfl (d_alloc (cs := #[.float .f32 0, .float .f32 0, .float .f32 0]) zero29 rfl fun w48 B48 E48 => ?_)
      have own52 : w.heap.size ≤ w46.heap.size := Nat.le_trans X47.size (Nat.le_refl _)
      have sp53 : w.heap.size ≠ w46.heap.size := Nat.ne_of_lt (Nat.lt_of_lt_of_le (lt_heap B49) (Nat.le_refl _))
      have sp54 : w1.heap.size ≠ w46.heap.size := Nat.ne_of_lt (Nat.lt_of_lt_of_le (lt_heap B50) (Nat.le_refl _))
      have sp55 : w4.heap.size ≠ w46.heap.size := Nat.ne_of_lt (Nat.lt_of_lt_of_le (lt_heap B51) (Nat.le_refl _))
      have X56 : Ext w w48 := X47.trans E48
      refine da_op rfl (d_store (vs := #[.float .f32 q46_0r0, .float .f32 q46_0r1, .float .f32 q46_0r2]) rfl rfl B48 size29 (Nat.le_of_ble_eq_true rfl) rfl fun w57 S57 => ?_)
      have X58 : Ext w w57 := Ext.step X56 S57.frmb (fun k _ hk => hk ▸ own52)
      have B59 : w57.heap[w46.heap.size]? = some (.cells #[.float .f32 q46_0r0, .float .f32 q46_0r1, .float .f32 q46_0r2] 29 (0, 0)) := S57.here
      refine da_nil ?_
      refine W_seq ?_
      have B61 : w57.heap[w.heap.size]? = some (.cells #[.float .f32 p0r0, .float .f32 p0r1, .float .f32 p0r2, .float .f32 p0r3, .float .f32 p0r4, .float .f32 p0r5, .float .f32 p0r6, .float .f32 p0r7, .float .f32 p0r8, .float .f32 p0r9] 32 (0, 0)) := S57.frmb.heap sp53 (E48.heap B49)
      have B62 : w57.heap[w1.heap.size]? = some (.cells #[.float .f32 p1r0, .float .f32 p1r1, .float .f32 p1r2] 29 (0, 0)) := S57.frmb.heap sp54 (E48.heap B50)
      have B63 : w57.heap[w4.heap.size]? = some (.cells #[.float .f32 0, .float .f32 0, .float .f32 0, .float .f32 0, .float .f32 0, .float .f32 0, .float .f32 0, .float .f32 0, .float .f32 0, .float .f32 0] 32 (0, 0)) := S57.frmb.heap sp55 (E48.heap B51)
      obtain ⟨m64, hm64, hr⟩ := letv_out hr
      obtain ⟨m65, hm65, hr⟩ := letv_out hr
      refine W_any [(fun k t => w57.heap.size ≤ k ∧ t = some 29)] [{ V := fun _ v _ => v = (.pointer (some ⟨w.heap.size, 7, none⟩)) }, { V := fun _ v _ => v = (.agg #[.float .f32 p0r7, .float .f32 p0r8, .float .f32 p0r9]) }, { V := fun _ v _ => v = (.agg #[.float .f32 q46_0r0, .float .f32 q46_0r1, .float .f32 q46_0r2]) }, { V := fun _ v _ => v = (.float .f32 r40) }, { V := fun _ v _ => ∃ d60_4_0r0 : Nat, ∃ d60_4_0r1 : Nat, ∃ d60_4_0r2 : Nat, v = (.agg #[.float .f32 d60_4_0r0, .float .f32 d60_4_0r1, .float .f32 d60_4_0r2]) ∧ cn .f32 d60_4_0r0 = m64.x ∧ cn .f32 d60_4_0r1 = m64.y ∧ cn .f32 d60_4_0r2 = m64.z }, { V := fun _ v _ => ∃ d60_5_0r0 : Nat, ∃ d60_5_0r1 : Nat, ∃ d60_5_0r2 : Nat, v = (.agg #[.float .f32 d60_5_0r0, .float .f32 d60_5_0r1, .float .f32 d60_5_0r2]) ∧ cn .f32 d60_5_0r0 = m65.x ∧ cn .f32 d60_5_0r1 = m65.y ∧ cn .f32 d60_5_0r2 = m65.z }, { V := fun _ v w' => ∃ d60_6b : Nat, ∃ d60_6c : Array Value, v = (.pointer (some ⟨d60_6b, 0, none⟩)) ∧ w57.heap.size ≤ d60_6b ∧ w'.heap[d60_6b]? = some (.cells d60_6c 29 (0, 0)) ∧ d60_6c.size = 3 }, ⟨fun sg _ w' => ∃ d60_6b : Nat, ∃ d60_5_0r0 : Nat, ∃ d60_5_0r1 : Nat, ∃ d60_5_0r2 : Nat, sg 10 = .pointer (some ⟨d60_6b, 0, none⟩) ∧ w'.heap[d60_6b]? = some (.cells #[.float .f32 d60_5_0r0, .float .f32 d60_5_0r1, .float .f32 d60_5_0r2] 29 (0, 0)) ∧ cn .f32 d60_5_0r0 = m65.x ∧ cn .f32 d60_5_0r1 = m65.y ∧ cn .f32 d60_5_0r2 = m65.z, some 0, fun _ => True⟩] mixed (by kernel_rfl) ⟨trivial, trivial, trivial, trivial, trivial, trivial, trivial, trivial, trivial⟩ ⟨?_, ?_, ?_, ?_, ?_, ?_, ?_, ?_, trivial⟩ ?_
      · skip
        refine ⟨fun _ _ _ _ _ _ h _ => h, fun _ _ h _ => h, fun σ' w' hA hE hD hP => ?_⟩
        have t3 : σ' 3 = .pointer (some ⟨w.heap.size, 0, none⟩) := (hA 3 rfl).trans s3_14
        have B0_66 : w'.heap[w.heap.size]? = some (.cells #[.float .f32 p0r0, .float .f32 p0r1, .float .f32 p0r2, .float .f32 p0r3, .float .f32 p0r4, .float .f32 p0r5, .float .f32 p0r6, .float .f32 p0r7, .float .f32 p0r8, .float .f32 p0r9] 32 (0, 0)) := hE.heap (not_oth1 (not_newT_box B61)) B61
        refine dg_op rfl (d_fieldAddr t3 (fa32_2 _ _) ?_)
        exact ⟨rfl, own_none (Ext.refl w')⟩
      · skip
        refine ⟨fun _ _ _ _ _ _ h _ => h, fun _ _ h _ => h, fun σ' w' hA hE hD hP => ?_⟩
        have t35 : σ' 35 = (.pointer (some ⟨w.heap.size, 7, none⟩)) := hD 0 rfl
        have B0_67 : w'.heap[w.heap.size]? = some (.cells #[.float .f32 p0r0, .float .f32 p0r1, .float .f32 p0r2, .float .f32 p0r3, .float .f32 p0r4, .float .f32 p0r5, .float .f32 p0r6, .float .f32 p0r7, .float .f32 p0r8, .float .f32 p0r9] 32 (0, 0)) := hE.heap (not_oth1 (not_newT_box B61)) B61
        refine dg_op rfl (d_loads (vs := #[.float .f32 p0r7, .float .f32 p0r8, .float .f32 p0r9]) t35 agg29 size29 B0_67 rfl ?_)
        exact ⟨rfl, own_none (Ext.refl w')⟩
      · skip
        refine ⟨fun _ _ _ _ _ _ h _ => h, fun _ _ h _ => h, fun σ' w' hA hE hD hP => ?_⟩
        have t9 : σ' 9 = .pointer (some ⟨w46.heap.size, 0, none⟩) := (hA 9 rfl).trans rfl
        have B0_68 : w'.heap[w46.heap.size]? = some (.cells #[.float .f32 q46_0r0, .float .f32 q46_0r1, .float .f32 q46_0r2] 29 (0, 0)) := hE.heap (not_oth1 (not_newT_box B59)) B59
        refine dg_op rfl (d_loads (vs := #[.float .f32 q46_0r0, .float .f32 q46_0r1, .float .f32 q46_0r2]) t9 agg29 size29 B0_68 rfl ?_)
        exact ⟨rfl, own_none (Ext.refl w')⟩
      · skip
        refine ⟨fun _ _ _ _ _ _ h _ => h, fun _ _ h _ => h, fun σ' w' hA hE hD hP => ?_⟩
        have t8 : σ' 8 = .float .f32 r40 := (hA 8 rfl).trans rfl
        refine dg_op rfl (d_mv (v := .float .f32 r40) t8 ?_)
        exact ⟨rfl, own_none (Ext.refl w')⟩
      · skip
        refine ⟨fun _ _ _ _ _ _ h _ => h, fun _ _ h _ => h, fun σ' w' hA hE hD hP => ?_⟩
        have t37 : σ' 37 = (.agg #[.float .f32 q46_0r0, .float .f32 q46_0r1, .float .f32 q46_0r2]) := hD 2 rfl
        have t38 : σ' 38 = (.float .f32 r40) := hD 3 rfl
        refine dg_op rfl (d_cl (vs := [.agg #[.float .f32 q46_0r0, .float .f32 q46_0r1, .float .f32 q46_0r2], .float .f32 r40]) en95 (ac t37 (ac t38 rfl)) rfl ?_)
        refine (c95 (⟨m44.x, m44.y, m44.z⟩ : SVector) (fop .quo .f32 p2 1073741824) q46_0r0 q46_0r1 q46_0r2 r40 m64 w' hm64 q46_0h0 q46_0h1 q46_0h2 h40).mono ?_
        rintro _ w69 ⟨q69_0r0, q69_0r1, q69_0r2, rfl, q69_0h0, q69_0h1, q69_0h2, E69⟩
        refine ⟨_, rfl, ?_⟩
        have X70 : Ext w' w69 := (Ext.refl w').trans E69
        exact ⟨⟨q69_0r0, q69_0r1, q69_0r2, rfl, q69_0h0, q69_0h1, q69_0h2⟩, own_none X70⟩
      · skip
        refine ⟨fun _ _ _ _ _ _ h _ => h, fun _ _ h _ => h, fun σ' w' hA hE hD hP => ?_⟩
        have t36 : σ' 36 = (.agg #[.float .f32 p0r7, .float .f32 p0r8, .float .f32 p0r9]) := hD 1 rfl
        obtain ⟨d60_4_0r0, d60_4_0r1, d60_4_0r2, t39, d60_4_0h0, d60_4_0h1, d60_4_0h2⟩ : ∃ d60_4_0r0 : Nat, ∃ d60_4_0r1 : Nat, ∃ d60_4_0r2 : Nat, σ' 39 = (.agg #[.float .f32 d60_4_0r0, .float .f32 d60_4_0r1, .float .f32 d60_4_0r2]) ∧ cn .f32 d60_4_0r0 = m64.x ∧ cn .f32 d60_4_0r1 = m64.y ∧ cn .f32 d60_4_0r2 = m64.z := hD 4 rfl
        refine dg_op rfl (d_cl (vs := [.agg #[.float .f32 p0r7, .float .f32 p0r8, .float .f32 p0r9], .agg #[.float .f32 d60_4_0r0, .float .f32 d60_4_0r1, .float .f32 d60_4_0r2]]) en94 (ac t36 (ac t39 rfl)) rfl ?_)
        refine (c94 (⟨p0.speed.x, p0.speed.y, p0.speed.z⟩ : SVector) m64 p0r7 p0r8 p0r9 d60_4_0r0 d60_4_0r1 d60_4_0r2 m65 w' hm65 p0h7 p0h8 p0h9 d60_4_0h0 d60_4_0h1 d60_4_0h2).mono ?_
        rintro _ w71 ⟨q71_0r0, q71_0r1, q71_0r2, rfl, q71_0h0, q71_0h1, q71_0h2, E71⟩
        refine ⟨_, rfl, ?_⟩
        have X72 : Ext w' w71 := (Ext.refl w').trans E71
        exact ⟨⟨q71_0r0, q71_0r1, q71_0r2, rfl, q71_0h0, q71_0h1, q71_0h2⟩, own_none X72⟩
      · skip
        refine ⟨fun _ _ _ w' w'' _ ⟨d60_6b, d60_6c, hv, d60_6ble, d60_6bB, d60_6bZ⟩ hF => let ⟨c2, hB2, hZ2⟩ := hF.shape _ _ _ _ d60_6bB; ⟨d60_6b, c2, hv, d60_6ble, hB2, (hZ2.trans d60_6bZ)⟩, fun _ _ h _ => h, fun σ' w' hA hE hD hP => ?_⟩
        refine dg_op rfl (d_alloc (cs := #[.float .f32 0, .float .f32 0, .float .f32 0]) zero29 rfl fun w73 B73 E73 => ?_)
        have X75 : Ext w' w73 := (Ext.refl w').trans E73
        exact ⟨⟨w'.heap.size, #[.float .f32 0, .float .f32 0, .float .f32 0], rfl, hE.size, B73, rfl⟩, own_none X75⟩
      · skip
        refine ⟨fun _ _ _ w' w'' hs ⟨d60_6b, d60_5_0r0, d60_5_0r1, d60_5_0r2, hb, hB, d60_5_0h0, d60_5_0h1, d60_5_0h2⟩ hF => ⟨d60_6b, d60_5_0r0, d60_5_0r1, d60_5_0r2, (hs 6 rfl).trans hb, hF.heap not_oth1s hB, d60_5_0h0, d60_5_0h1, d60_5_0h2⟩, fun _ _ h _ => h, fun σ' w' hA hE hD hP => ?_⟩
        obtain ⟨d60_6b, d60_6c, t10, d60_6ble, d60_6bB, d60_6bZ⟩ : ∃ d60_6b : Nat, ∃ d60_6c : Array Value, σ' 10 = (.pointer (some ⟨d60_6b, 0, none⟩)) ∧ w57.heap.size ≤ d60_6b ∧ w'.heap[d60_6b]? = some (.cells d60_6c 29 (0, 0)) ∧ d60_6c.size = 3 := hD 6 rfl
        obtain ⟨d60_5_0r0, d60_5_0r1, d60_5_0r2, t40, d60_5_0h0, d60_5_0h1, d60_5_0h2⟩ : ∃ d60_5_0r0 : Nat, ∃ d60_5_0r1 : Nat, ∃ d60_5_0r2 : Nat, σ' 40 = (.agg #[.float .f32 d60_5_0r0, .float .f32 d60_5_0r1, .float .f32 d60_5_0r2]) ∧ cn .f32 d60_5_0r0 = m65.x ∧ cn .f32 d60_5_0r1 = m65.y ∧ cn .f32 d60_5_0r2 = m65.z := hD 5 rfl
        refine dg_op rfl (d_store_new (vs := #[.float .f32 d60_5_0r0, .float .f32 d60_5_0r1, .float .f32 d60_5_0r2]) t10 (congrArg Value.cells t40) d60_6bB d60_6bZ size29 rfl rfl fun w76 S76 => ?_)
        exact ⟨⟨d60_6b, d60_5_0r0, d60_5_0r1, d60_5_0r2, t10, S76.here, d60_5_0h0, d60_5_0h1, d60_5_0h2⟩, own_some (j := 0) rfl (S76.frm.mono (fun k t h => ⟨h.1 ▸ d60_6ble, h.2⟩))⟩
      · skip
        intro σ60 w60 A60 E60 V60
        obtain ⟨z60_10_6b, z60_10_6c, s10_60, z60_10_6ble, z60_10_6bB, z60_10_6bZ⟩ : ∃ z60_10_6b : Nat, ∃ z60_10_6c : Array Value, σ60 10 = (.pointer (some ⟨z60_10_6b, 0, none⟩)) ∧ w57.heap.size ≤ z60_10_6b ∧ w60.heap[z60_10_6b]? = some (.cells z60_10_6c 29 (0, 0)) ∧ z60_10_6c.size = 3 := V60 6 (Nat.le_of_ble_eq_true rfl)
        obtain ⟨z60_m0_6b, z60_m0_5_0r0, z60_m0_5_0r1, z60_m0_5_0r2, hbn60, hBn60, z60_m0_5_0h0, z60_m0_5_0h1, z60_m0_5_0h2⟩ : ∃ z60_m0_6b : Nat, ∃ z60_m0_5_0r0 : Nat, ∃ z60_m0_5_0r1 : Nat, ∃ z60_m0_5_0r2 : Nat, σ60 10 = .pointer (some ⟨z60_m0_6b, 0, none⟩) ∧ w60.heap[z60_m0_6b]? = some (.cells #[.float .f32 z60_m0_5_0r0, .float .f32 z60_m0_5_0r1, .float .f32 z60_m0_5_0r2] 29 (0, 0)) ∧ cn .f32 z60_m0_5_0r0 = m65.x ∧ cn .f32 z60_m0_5_0r1 = m65.y ∧ cn .f32 z60_m0_5_0r2 = m65.z := V60 7 (Nat.le_of_ble_eq_true rfl)
        have hen60 : z60_m0_6b = z60_10_6b := by have := hbn60.symm.trans s10_60; simp only [Value.pointer.injEq, Option.some.injEq, Addr.mk.injEq] at this; exact this.1
        rw [hen60] at hBn60
        have own77 : w.heap.size ≤ z60_10_6b := Nat.le_trans X58.size z60_10_6ble
        have sp78 : w.heap.size ≠ z60_10_6b := Nat.ne_of_lt (Nat.lt_of_lt_of_le (lt_heap B61) z60_10_6ble)
        have sp79 : w1.heap.size ≠ z60_10_6b := Nat.ne_of_lt (Nat.lt_of_lt_of_le (lt_heap B62) z60_10_6ble)
        have sp80 : w4.heap.size ≠ z60_10_6b := Nat.ne_of_lt (Nat.lt_of_lt_of_le (lt_heap B63) z60_10_6ble)
        have sp81 : w46.heap.size ≠ z60_10_6b := Nat.ne_of_lt (Nat.lt_of_lt_of_le (lt_heap B59) z60_10_6ble)
        have s2_60 : σ60 2 = .float .f32 p2r := (A60 2 rfl).trans s2_14
        have s3_60 : σ60 3 = .pointer (some ⟨w.heap.size, 0, none⟩) := (A60 3 rfl).trans s3_14
        have s4_60 : σ60 4 = .pointer (some ⟨w1.heap.size, 0, none⟩) := (A60 4 rfl).trans s4_14
        have s6_60 : σ60 6 = .pointer (some ⟨w4.heap.size, 0, none⟩) := (A60 6 rfl).trans s6_14
        have s8_60 : σ60 8 = .float .f32 r40 := (A60 8 rfl).trans rfl
        have s9_60 : σ60 9 = .pointer (some ⟨w46.heap.size, 0, none⟩) := (A60 9 rfl).trans rfl
        have X82 : Ext w w60 := Ext.step X58 E60 (oth_own1 (fun k _ hk => Nat.le_trans X58.size hk.1))
        refine W_seq ?_
        refine W_region rfl ?_
        refine da_op rfl (d_loads (vs := #[.float .f32 z60_m0_5_0r0, .float .f32 z60_m0_5_0r1, .float .f32 z60_m0_5_0r2]) s10_60 agg29 size29 hBn60 rfl ?_)
        have B83 : w60.heap[w1.heap.size]? = some (.cells #[.float .f32 p1r0, .float .f32 p1r1, .float .f32 p1r2] 29 (0, 0)) := E60.heap (not_oth1 (not_newT_box B62)) B62
        refine da_op rfl (d_loads (vs := #[.float .f32 p1r0, .float .f32 p1r1, .float .f32 p1r2]) s4_60 agg29 size29 B83 rfl ?_)
        obtain ⟨m84, hm84, hr⟩ := letv_out hr
        have B85 : w60.heap[w.heap.size]? = some (.cells #[.float .f32 p0r0, .float .f32 p0r1, .float .f32 p0r2, .float .f32 p0r3, .float .f32 p0r4, .float .f32 p0r5, .float .f32 p0r6, .float .f32 p0r7, .float .f32 p0r8, .float .f32 p0r9] 32 (0, 0)) := E60.heap (not_oth1 (not_newT_box B61)) B61
        have B86 : w60.heap[w4.heap.size]? = some (.cells #[.float .f32 0, .float .f32 0, .float .f32 0, .float .f32 0, .float .f32 0, .float .f32 0, .float .f32 0, .float .f32 0, .float .f32 0, .float .f32 0] 32 (0, 0)) := E60.heap (not_oth1 (not_newT_box B63)) B63
        have B87 : w60.heap[w46.heap.size]? = some (.cells #[.float .f32 q46_0r0, .float .f32 q46_0r1, .float .f32 q46_0r2] 29 (0, 0)) := E60.heap (not_oth1 (not_newT_box B59)) B59
        refine da_op rfl (d_cl (vs := [.pointer (some ⟨w.heap.size, 0, none⟩), .agg #[.float .f32 z60_m0_5_0r0, .float .f32 z60_m0_5_0r1, .float .f32 z60_m0_5_0r2], .agg #[.float .f32 p1r0, .float .f32 p1r1, .float .f32 p1r2]]) en93 (ac s3_60 (ac rfl (ac rfl rfl))) rfl ?_)
        refine (c93 (⟨(⟨p0.moments.x, p0.moments.y, p0.moments.z⟩ : SVector), (⟨p0.turn.w, p0.turn.x, p0.turn.y, p0.turn.z⟩ : SSpin), (⟨p0.speed.x, p0.speed.y, p0.speed.z⟩ : SVector)⟩ : STop) m65 (⟨p1.x, p1.y, p1.z⟩ : SVector) w.heap.size 0 #[.float .f32 p0r0, .float .f32 p0r1, .float .f32 p0r2, .float .f32 p0r3, .float .f32 p0r4, .float .f32 p0r5, .float .f32 p0r6, .float .f32 p0r7, .float .f32 p0r8, .float .f32 p0r9] 32 (0, 0) p0r0 p0r1 p0r2 p0r3 p0r4 p0r5 p0r6 p0r7 p0r8 p0r9 z60_m0_5_0r0 z60_m0_5_0r1 z60_m0_5_0r2 p1r0 p1r1 p1r2 m84 w60 hm84 p0h0 p0h1 p0h2 p0h3 p0h4 p0h5 p0h6 p0h7 p0h8 p0h9 B85 rfl z60_m0_5_0h0 z60_m0_5_0h1 z60_m0_5_0h2 p1h0 p1h1 p1h2).mono ?_
        rintro _ w88 ⟨q88_0r0, q88_0r1, q88_0r2, rfl, q88_0h0, q88_0h1, q88_0h2, E88⟩
        refine ⟨_, rfl, ?_⟩
        have X89 : Ext w w88 := X82.trans E88
        have B91 : w88.heap[w.heap.size]? = some (.cells #[.float .f32 p0r0, .float .f32 p0r1, .float .f32 p0r2, .float .f32 p0r3, .float .f32 p0r4, .float .f32 p0r5, .float .f32 p0r6, .float .f32 p0r7, .float .f32 p0r8, .float .f32 p0r9] 32 (0, 0)) := E88.heap B85
        have B92 : w88.heap[w1.heap.size]? = some (.cells #[.float .f32 p1r0, .float .f32 p1r1, .float .f32 p1r2] 29 (0, 0)) := E88.heap B83
        have B93 : w88.heap[w4.heap.size]? = some (.cells #[.float .f32 0, .float .f32 0, .float .f32 0, .float .f32 0, .float .f32 0, .float .f32 0, .float .f32 0, .float .f32 0, .float .f32 0, .float .f32 0] 32 (0, 0)) := E88.heap B86
        have B94 : w88.heap[w46.heap.size]? = some (.cells #[.float .f32 q46_0r0, .float .f32 q46_0r1, .float .f32 q46_0r2] 29 (0, 0)) := E88.heap B87
        have B95 : w88.heap[z60_10_6b]? = some (.cells #[.float .f32 z60_m0_5_0r0, .float .f32 z60_m0_5_0r1, .float .f32 z60_m0_5_0r2] 29 (0, 0)) := E88.heap hBn60
        refine da_op rfl (d_alloc (cs := #[.float .f32 0, .float .f32 0, .float .f32 0]) zero29 rfl fun w90 B90 E90 => ?_)
        have own96 : w.heap.size ≤ w88.heap.size := Nat.le_trans X89.size (Nat.le_refl _)
        have sp97 : w.heap.size ≠ w88.heap.size := Nat.ne_of_lt (Nat.lt_of_lt_of_le (lt_heap B91) (Nat.le_refl _))
        have sp98 : w1.heap.size ≠ w88.heap.size := Nat.ne_of_lt (Nat.lt_of_lt_of_le (lt_heap B92) (Nat.le_refl _))
        have sp99 : w4.heap.size ≠ w88.heap.size := Nat.ne_of_lt (Nat.lt_of_lt_of_le (lt_heap B93) (Nat.le_refl _))
        have sp100 : w46.heap.size ≠ w88.heap.size := Nat.ne_of_lt (Nat.lt_of_lt_of_le (lt_heap B94) (Nat.le_refl _))
        have sp101 : z60_10_6b ≠ w88.heap.size := Nat.ne_of_lt (Nat.lt_of_lt_of_le (lt_heap B95) (Nat.le_refl _))
        have X102 : Ext w w90 := X89.trans E90
        refine da_op rfl (d_store (vs := #[.float .f32 q88_0r0, .float .f32 q88_0r1, .float .f32 q88_0r2]) rfl rfl B90 size29 (Nat.le_of_ble_eq_true rfl) rfl fun w103 S103 => ?_)
        have X104 : Ext w w103 := Ext.step X102 S103.frmb (fun k _ hk => hk ▸ own96)
        have B105 : w103.heap[w88.heap.size]? = some (.cells #[.float .f32 q88_0r0, .float .f32 q88_0r1, .float .f32 q88_0r2] 29 (0, 0)) := S103.here
        refine da_nil ?_
        refine W_seq ?_
        have B107 : w103.heap[w.heap.size]? = some (.cells #[.float .f32 p0r0, .float .f32 p0r1, .float .f32 p0r2, .float .f32 p0r3, .float .f32 p0r4, .float .f32 p0r5, .float .f32 p0r6, .float .f32 p0r7, .float .f32 p0r8, .float .f32 p0r9] 32 (0, 0)) := S103.frmb.heap sp97 (E90.heap B91)
        have B108 : w103.heap[w4.heap.size]? = some (.cells #[.float .f32 0, .float .f32 0, .float .f32 0, .float .f32 0, .float .f32 0, .float .f32 0, .float .f32 0, .float .f32 0, .float .f32 0, .float .f32 0] 32 (0, 0)) := S103.frmb.heap sp99 (E90.heap B93)
        have B109 : w103.heap[w46.heap.size]? = some (.cells #[.float .f32 q46_0r0, .float .f32 q46_0r1, .float .f32 q46_0r2] 29 (0, 0)) := S103.frmb.heap sp100 (E90.heap B94)
        have B110 : w103.heap[z60_10_6b]? = some (.cells #[.float .f32 z60_m0_5_0r0, .float .f32 z60_m0_5_0r1, .float .f32 z60_m0_5_0r2] 29 (0, 0)) := S103.frmb.heap sp101 (E90.heap B95)
        obtain ⟨m111, hm111, hr⟩ := letv_out hr
        obtain ⟨m112, hm112, hr⟩ := letv_out hr
        obtain ⟨m113, hm113, hr⟩ := bind_out hr
        refine W_any [(fun k t => w103.heap.size ≤ k ∧ t = some 30)] [{ V := fun _ v _ => v = (.pointer (some ⟨w.heap.size, 3, none⟩)) }, { V := fun _ v _ => v = (.agg #[.float .f32 p0r3, .float .f32 p0r4, .float .f32 p0r5, .float .f32 p0r6]) }, { V := fun _ v _ => v = (.pointer (some ⟨w.heap.size, 3, none⟩)) }, { V := fun _ v _ => v = (.agg #[.float .f32 p0r3, .float .f32 p0r4, .float .f32 p0r5, .float .f32 p0r6]) }, { V := fun _ v _ => v = (.pointer (some ⟨z60_10_6b, 0, none⟩)) }, { V := fun _ v _ => v = (.float .f32 z60_m0_5_0r0) }, { V := fun _ v _ => v = (.pointer (some ⟨z60_10_6b, 1, none⟩)) }, { V := fun _ v _ => v = (.float .f32 z60_m0_5_0r1) }, { V := fun _ v _ => v = (.pointer (some ⟨z60_10_6b, 2, none⟩)) }, { V := fun _ v _ => v = (.float .f32 z60_m0_5_0r2) }, { V := fun _ v _ => v = (.agg #[.float .f32 0, .float .f32 z60_m0_5_0r0, .float .f32 z60_m0_5_0r1, .float .f32 z60_m0_5_0r2]) }, { V := fun _ v _ => ∃ d106_11_0r0 : Nat, ∃ d106_11_0r1 : Nat, ∃ d106_11_0r2 : Nat, ∃ d106_11_0r3 : Nat, v = (.agg #[.float .f32 d106_11_0r0, .float .f32 d106_11_0r1, .float .f32 d106_11_0r2, .float .f32 d106_11_0r3]) ∧ cn .f32 d106_11_0r0 = m111.w ∧ cn .f32 d106_11_0r1 = m111.x ∧ cn .f32 d106_11_0r2 = m111.y ∧ cn .f32 d106_11_0r3 = m111.z }, { V := fun _ v _ => v = (.float .f32 r40) }, { V := fun _ v _ => ∃ d106_13_0r0 : Nat, ∃ d106_13_0r1 : Nat, ∃ d106_13_0r2 : Nat, ∃ d106_13_0r3 : Nat, v = (.agg #[.float .f32 d106_13_0r0, .float .f32 d106_13_0r1, .float .f32 d106_13_0r2, .float .f32 d106_13_0r3]) ∧ cn .f32 d106_13_0r0 = m112.w ∧ cn .f32 d106_13_0r1 = m112.x ∧ cn .f32 d106_13_0r2 = m112.y ∧ cn .f32 d106_13_0r3 = m112.z }, { V := fun _ v _ => ∃ d106_14_0r0 : Nat, ∃ d106_14_0r1 : Nat, ∃ d106_14_0r2 : Nat, ∃ d106_14_0r3 : Nat, v = (.tuple #[.agg #[.float .f32 d106_14_0r0, .float .f32 d106_14_0r1, .float .f32 d106_14_0r2, .float .f32 d106_14_0r3], .bool m113.2]) ∧ cn .f32 d106_14_0r0 = m113.1.w ∧ cn .f32 d106_14_0r1 = m113.1.x ∧ cn .f32 d106_14_0r2 = m113.1.y ∧ cn .f32 d106_14_0r3 = m113.1.z }, { V := fun _ v _ => ∃ d106_14_0r0 : Nat, ∃ d106_14_0r1 : Nat, ∃ d106_14_0r2 : Nat, ∃ d106_14_0r3 : Nat, v = (.tuple #[.agg #[.float .f32 d106_14_0r0, .float .f32 d106_14_0r1, .float .f32 d106_14_0r2, .float .f32 d106_14_0r3], .bool m113.2]) ∧ cn .f32 d106_14_0r0 = m113.1.w ∧ cn .f32 d106_14_0r1 = m113.1.x ∧ cn .f32 d106_14_0r2 = m113.1.y ∧ cn .f32 d106_14_0r3 = m113.1.z }, { V := fun _ v _ => ∃ d106_14_0r0 : Nat, ∃ d106_14_0r1 : Nat, ∃ d106_14_0r2 : Nat, ∃ d106_14_0r3 : Nat, v = (.agg #[.float .f32 d106_14_0r0, .float .f32 d106_14_0r1, .float .f32 d106_14_0r2, .float .f32 d106_14_0r3]) ∧ cn .f32 d106_14_0r0 = m113.1.w ∧ cn .f32 d106_14_0r1 = m113.1.x ∧ cn .f32 d106_14_0r2 = m113.1.y ∧ cn .f32 d106_14_0r3 = m113.1.z }, { V := fun _ v _ => v = (.bool m113.2) }, { V := fun _ v w' => ∃ d106_18b : Nat, ∃ d106_18c : Array Value, v = (.pointer (some ⟨d106_18b, 0, none⟩)) ∧ w103.heap.size ≤ d106_18b ∧ w'.heap[d106_18b]? = some (.cells d106_18c 30 (0, 0)) ∧ d106_18c.size = 4 }, ⟨fun sg _ w' => ∃ d106_18b : Nat, ∃ d106_14_0r0 : Nat, ∃ d106_14_0r1 : Nat, ∃ d106_14_0r2 : Nat, ∃ d106_14_0r3 : Nat, sg 12 = .pointer (some ⟨d106_18b, 0, none⟩) ∧ w'.heap[d106_18b]? = some (.cells #[.float .f32 d106_14_0r0, .float .f32 d106_14_0r1, .float .f32 d106_14_0r2, .float .f32 d106_14_0r3] 30 (0, 0)) ∧ cn .f32 d106_14_0r0 = m113.1.w ∧ cn .f32 d106_14_0r1 = m113.1.x ∧ cn .f32 d106_14_0r2 = m113.1.y ∧ cn .f32 d106_14_0r3 = m113.1.z, some 0, fun _ => True⟩, { V := fun _ v _ => v = (.bool m113.2) }] mixed (by kernel_rfl) ⟨trivial, trivial, trivial, trivial, trivial, trivial, trivial, trivial, trivial, trivial, trivial, trivial, trivial, trivial, trivial, trivial, trivial, trivial, trivial, trivial, trivial, trivial⟩ ⟨?_, ?_, ?_, ?_, ?_, ?_, ?_, ?_, ?_, ?_, ?_, ?_, ?_, ?_, ?_, ?_, ?_, ?_, ?_, ?_, ?_, trivial⟩ ?_
        · skip
          refine ⟨fun _ _ _ _ _ _ h _ => h, fun _ _ h _ => h, fun σ' w' hA hE hD hP => ?_⟩
          have t3 : σ' 3 = .pointer (some ⟨w.heap.size, 0, none⟩) := (hA 3 rfl).trans s3_60
          have B0_114 : w'.heap[w.heap.size]? = some (.cells #[.float .f32 p0r0, .float .f32 p0r1, .float .f32 p0r2, .float .f32 p0r3, .float .f32 p0r4, .float .f32 p0r5, .float .f32 p0r6, .float .f32 p0r7, .float .f32 p0r8, .float .f32 p0r9] 32 (0, 0)) := hE.heap (not_oth1 (not_newT_box B107)) B107
          refine dg_op rfl (d_fieldAddr t3 (fa32_1 _ _) ?_)
          exact ⟨rfl, own_none (Ext.refl w')⟩
        · skip
          refine ⟨fun _ _ _ _ _ _ h _ => h, fun _ _ h _ => h, fun σ' w' hA hE hD hP => ?_⟩
          have t45 : σ' 45 = (.pointer (some ⟨w.heap.size, 3, none⟩)) := hD 0 rfl
          have B0_115 : w'.heap[w.heap.size]? = some (.cells #[.float .f32 p0r0, .float .f32 p0r1, .float .f32 p0r2, .float .f32 p0r3, .float .f32 p0r4, .float .f32 p0r5, .float .f32 p0r6, .float .f32 p0r7, .float .f32 p0r8, .float .f32 p0r9] 32 (0, 0)) := hE.heap (not_oth1 (not_newT_box B107)) B107
          refine dg_op rfl (d_loads (vs := #[.float .f32 p0r3, .float .f32 p0r4, .float .f32 p0r5, .float .f32 p0r6]) t45 agg30 size30 B0_115 rfl ?_)
          exact ⟨rfl, own_none (Ext.refl w')⟩
        · skip
          refine ⟨fun _ _ _ _ _ _ h _ => h, fun _ _ h _ => h, fun σ' w' hA hE hD hP => ?_⟩
          have t3 : σ' 3 = .pointer (some ⟨w.heap.size, 0, none⟩) := (hA 3 rfl).trans s3_60
          have B0_116 : w'.heap[w.heap.size]? = some (.cells #[.float .f32 p0r0, .float .f32 p0r1, .float .f32 p0r2, .float .f32 p0r3, .float .f32 p0r4, .float .f32 p0r5, .float .f32 p0r6, .float .f32 p0r7, .float .f32 p0r8, .float .f32 p0r9] 32 (0, 0)) := hE.heap (not_oth1 (not_newT_box B107)) B107
          refine dg_op rfl (d_fieldAddr t3 (fa32_1 _ _) ?_)
          exact ⟨rfl, own_none (Ext.refl w')⟩
        · skip
          refine ⟨fun _ _ _ _ _ _ h _ => h, fun _ _ h _ => h, fun σ' w' hA hE hD hP => ?_⟩
          have t47 : σ' 47 = (.pointer (some ⟨w.heap.size, 3, none⟩)) := hD 2 rfl
          have B0_117 : w'.heap[w.heap.size]? = some (.cells #[.float .f32 p0r0, .float .f32 p0r1, .float .f32 p0r2, .float .f32 p0r3, .float .f32 p0r4, .float .f32 p0r5, .float .f32 p0r6, .float .f32 p0r7, .float .f32 p0r8, .float .f32 p0r9] 32 (0, 0)) := hE.heap (not_oth1 (not_newT_box B107)) B107
          refine dg_op rfl (d_loads (vs := #[.float .f32 p0r3, .float .f32 p0r4, .float .f32 p0r5, .float .f32 p0r6]) t47 agg30 size30 B0_117 rfl ?_)
          exact ⟨rfl, own_none (Ext.refl w')⟩
        · skip
          refine ⟨fun _ _ _ _ _ _ h _ => h, fun _ _ h _ => h, fun σ' w' hA hE hD hP => ?_⟩
          have t10 : σ' 10 = .pointer (some ⟨z60_10_6b, 0, none⟩) := (hA 10 rfl).trans s10_60
          have B0_118 : w'.heap[z60_10_6b]? = some (.cells #[.float .f32 z60_m0_5_0r0, .float .f32 z60_m0_5_0r1, .float .f32 z60_m0_5_0r2] 29 (0, 0)) := hE.heap (not_oth1 (not_newT_box B110)) B110
          refine dg_op rfl (d_fieldAddr t10 (fa29_0 _ _) ?_)
          exact ⟨rfl, own_none (Ext.refl w')⟩
        · skip
          refine ⟨fun _ _ _ _ _ _ h _ => h, fun _ _ h _ => h, fun σ' w' hA hE hD hP => ?_⟩
          have t49 : σ' 49 = (.pointer (some ⟨z60_10_6b, 0, none⟩)) := hD 4 rfl
          have B0_119 : w'.heap[z60_10_6b]? = some (.cells #[.float .f32 z60_m0_5_0r0, .float .f32 z60_m0_5_0r1, .float .f32 z60_m0_5_0r2] 29 (0, 0)) := hE.heap (not_oth1 (not_newT_box B110)) B110
          refine dg_op rfl (d_load (v := .float .f32 z60_m0_5_0r0) t49 agg22 B0_119 rfl ?_)
          exact ⟨rfl, own_none (Ext.refl w')⟩
        · skip
          refine ⟨fun _ _ _ _ _ _ h _ => h, fun _ _ h _ => h, fun σ' w' hA hE hD hP => ?_⟩
          have t10 : σ' 10 = .pointer (some ⟨z60_10_6b, 0, none⟩) := (hA 10 rfl).trans s10_60
          have B0_120 : w'.heap[z60_10_6b]? = some (.cells #[.float .f32 z60_m0_5_0r0, .float .f32 z60_m0_5_0r1, .float .f32 z60_m0_5_0r2] 29 (0, 0)) := hE.heap (not_oth1 (not_newT_box B110)) B110
          refine dg_op rfl (d_fieldAddr t10 (fa29_1 _ _) ?_)
          exact ⟨rfl, own_none (Ext.refl w')⟩
        · skip
          refine ⟨fun _ _ _ _ _ _ h _ => h, fun _ _ h _ => h, fun σ' w' hA hE hD hP => ?_⟩
          have t51 : σ' 51 = (.pointer (some ⟨z60_10_6b, 1, none⟩)) := hD 6 rfl
          have B0_121 : w'.heap[z60_10_6b]? = some (.cells #[.float .f32 z60_m0_5_0r0, .float .f32 z60_m0_5_0r1, .float .f32 z60_m0_5_0r2] 29 (0, 0)) := hE.heap (not_oth1 (not_newT_box B110)) B110
          refine dg_op rfl (d_load (v := .float .f32 z60_m0_5_0r1) t51 agg22 B0_121 rfl ?_)
          exact ⟨rfl, own_none (Ext.refl w')⟩
        · skip
          refine ⟨fun _ _ _ _ _ _ h _ => h, fun _ _ h _ => h, fun σ' w' hA hE hD hP => ?_⟩
          have t10 : σ' 10 = .pointer (some ⟨z60_10_6b, 0, none⟩) := (hA 10 rfl).trans s10_60
          have B0_122 : w'.heap[z60_10_6b]? = some (.cells #[.float .f32 z60_m0_5_0r0, .float .f32 z60_m0_5_0r1, .float .f32 z60_m0_5_0r2] 29 (0, 0)) := hE.heap (not_oth1 (not_newT_box B110)) B110
          refine dg_op rfl (d_fieldAddr t10 (fa29_2 _ _) ?_)
          exact ⟨rfl, own_none (Ext.refl w')⟩
        · skip
          refine ⟨fun _ _ _ _ _ _ h _ => h, fun _ _ h _ => h, fun σ' w' hA hE hD hP => ?_⟩
          have t53 : σ' 53 = (.pointer (some ⟨z60_10_6b, 2, none⟩)) := hD 8 rfl
          have B0_123 : w'.heap[z60_10_6b]? = some (.cells #[.float .f32 z60_m0_5_0r0, .float .f32 z60_m0_5_0r1, .float .f32 z60_m0_5_0r2] 29 (0, 0)) := hE.heap (not_oth1 (not_newT_box B110)) B110
          refine dg_op rfl (d_load (v := .float .f32 z60_m0_5_0r2) t53 agg22 B0_123 rfl ?_)
          exact ⟨rfl, own_none (Ext.refl w')⟩
        · skip
          refine ⟨fun _ _ _ _ _ _ h _ => h, fun _ _ h _ => h, fun σ' w' hA hE hD hP => ?_⟩
          have t50 : σ' 50 = (.float .f32 z60_m0_5_0r0) := hD 5 rfl
          have t52 : σ' 52 = (.float .f32 z60_m0_5_0r1) := hD 7 rfl
          have t54 : σ' 54 = (.float .f32 z60_m0_5_0r2) := hD 9 rfl
          refine dg_op rfl (d_bd (vs := [(0, .float .f32 0), (1, .float .f32 z60_m0_5_0r0), (2, .float .f32 z60_m0_5_0r1), (3, .float .f32 z60_m0_5_0r2)]) (cs := #[.float .f32 0, .float .f32 z60_m0_5_0r0, .float .f32 z60_m0_5_0r1, .float .f32 z60_m0_5_0r2]) (pc rfl (pc t50 (pc t52 (pc t54 rfl)))) (by kernel_rfl) ?_)
          exact ⟨rfl, own_none (Ext.refl w')⟩
        · skip
          refine ⟨fun _ _ _ _ _ _ h _ => h, fun _ _ h _ => h, fun σ' w' hA hE hD hP => ?_⟩
          have t48 : σ' 48 = (.agg #[.float .f32 p0r3, .float .f32 p0r4, .float .f32 p0r5, .float .f32 p0r6]) := hD 3 rfl
          have t55 : σ' 55 = (.agg #[.float .f32 0, .float .f32 z60_m0_5_0r0, .float .f32 z60_m0_5_0r1, .float .f32 z60_m0_5_0r2]) := hD 10 rfl
          refine dg_op rfl (d_cl (vs := [.agg #[.float .f32 p0r3, .float .f32 p0r4, .float .f32 p0r5, .float .f32 p0r6], .agg #[.float .f32 0, .float .f32 z60_m0_5_0r0, .float .f32 z60_m0_5_0r1, .float .f32 z60_m0_5_0r2]]) en98 (ac t48 (ac t55 rfl)) rfl ?_)
          refine (c98 (⟨p0.turn.w, p0.turn.x, p0.turn.y, p0.turn.z⟩ : SSpin) (⟨0, m65.x, m65.y, m65.z⟩ : SSpin) p0r3 p0r4 p0r5 p0r6 0 z60_m0_5_0r0 z60_m0_5_0r1 z60_m0_5_0r2 m111 w' hm111 p0h3 p0h4 p0h5 p0h6 cn_f32_0 z60_m0_5_0h0 z60_m0_5_0h1 z60_m0_5_0h2).mono ?_
          rintro _ w124 ⟨q124_0r0, q124_0r1, q124_0r2, q124_0r3, rfl, q124_0h0, q124_0h1, q124_0h2, q124_0h3, E124⟩
          refine ⟨_, rfl, ?_⟩
          have X125 : Ext w' w124 := (Ext.refl w').trans E124
          exact ⟨⟨q124_0r0, q124_0r1, q124_0r2, q124_0r3, rfl, q124_0h0, q124_0h1, q124_0h2, q124_0h3⟩, own_none X125⟩
        · skip
          refine ⟨fun _ _ _ _ _ _ h _ => h, fun _ _ h _ => h, fun σ' w' hA hE hD hP => ?_⟩
          have t8 : σ' 8 = .float .f32 r40 := (hA 8 rfl).trans s8_60
          refine dg_op rfl (d_mv (v := .float .f32 r40) t8 ?_)
          exact ⟨rfl, own_none (Ext.refl w')⟩
        · skip
          refine ⟨fun _ _ _ _ _ _ h _ => h, fun _ _ h _ => h, fun σ' w' hA hE hD hP => ?_⟩
          have t46 : σ' 46 = (.agg #[.float .f32 p0r3, .float .f32 p0r4, .float .f32 p0r5, .float .f32 p0r6]) := hD 1 rfl
          obtain ⟨d106_11_0r0, d106_11_0r1, d106_11_0r2, d106_11_0r3, t56, d106_11_0h0, d106_11_0h1, d106_11_0h2, d106_11_0h3⟩ : ∃ d106_11_0r0 : Nat, ∃ d106_11_0r1 : Nat, ∃ d106_11_0r2 : Nat, ∃ d106_11_0r3 : Nat, σ' 56 = (.agg #[.float .f32 d106_11_0r0, .float .f32 d106_11_0r1, .float .f32 d106_11_0r2, .float .f32 d106_11_0r3]) ∧ cn .f32 d106_11_0r0 = m111.w ∧ cn .f32 d106_11_0r1 = m111.x ∧ cn .f32 d106_11_0r2 = m111.y ∧ cn .f32 d106_11_0r3 = m111.z := hD 11 rfl
          have t57 : σ' 57 = (.float .f32 r40) := hD 12 rfl
          refine dg_op rfl (d_cl (vs := [.agg #[.float .f32 p0r3, .float .f32 p0r4, .float .f32 p0r5, .float .f32 p0r6], .agg #[.float .f32 d106_11_0r0, .float .f32 d106_11_0r1, .float .f32 d106_11_0r2, .float .f32 d106_11_0r3], .float .f32 r40]) en97 (ac t46 (ac t56 (ac t57 rfl))) rfl ?_)
          refine (c97 (⟨p0.turn.w, p0.turn.x, p0.turn.y, p0.turn.z⟩ : SSpin) m111 (fop .quo .f32 p2 1073741824) p0r3 p0r4 p0r5 p0r6 d106_11_0r0 d106_11_0r1 d106_11_0r2 d106_11_0r3 r40 m112 w' hm112 p0h3 p0h4 p0h5 p0h6 d106_11_0h0 d106_11_0h1 d106_11_0h2 d106_11_0h3 h40).mono ?_
          rintro _ w126 ⟨q126_0r0, q126_0r1, q126_0r2, q126_0r3, rfl, q126_0h0, q126_0h1, q126_0h2, q126_0h3, E126⟩
          refine ⟨_, rfl, ?_⟩
          have X127 : Ext w' w126 := (Ext.refl w').trans E126
          exact ⟨⟨q126_0r0, q126_0r1, q126_0r2, q126_0r3, rfl, q126_0h0, q126_0h1, q126_0h2, q126_0h3⟩, own_none X127⟩
        · skip
          refine ⟨fun _ _ _ _ _ _ h _ => h, fun _ _ h _ => h, fun σ' w' hA hE hD hP => ?_⟩
          obtain ⟨d106_13_0r0, d106_13_0r1, d106_13_0r2, d106_13_0r3, t58, d106_13_0h0, d106_13_0h1, d106_13_0h2, d106_13_0h3⟩ : ∃ d106_13_0r0 : Nat, ∃ d106_13_0r1 : Nat, ∃ d106_13_0r2 : Nat, ∃ d106_13_0r3 : Nat, σ' 58 = (.agg #[.float .f32 d106_13_0r0, .float .f32 d106_13_0r1, .float .f32 d106_13_0r2, .float .f32 d106_13_0r3]) ∧ cn .f32 d106_13_0r0 = m112.w ∧ cn .f32 d106_13_0r1 = m112.x ∧ cn .f32 d106_13_0r2 = m112.y ∧ cn .f32 d106_13_0r3 = m112.z := hD 13 rfl
          refine dg_op rfl (d_cl (vs := [.agg #[.float .f32 d106_13_0r0, .float .f32 d106_13_0r1, .float .f32 d106_13_0r2, .float .f32 d106_13_0r3]]) en96 (ac t58 rfl) rfl ?_)
          refine (c96 m112 d106_13_0r0 d106_13_0r1 d106_13_0r2 d106_13_0r3 m113 w' hm113 d106_13_0h0 d106_13_0h1 d106_13_0h2 d106_13_0h3).mono ?_
          rintro _ w128 ⟨q128_0r0, q128_0r1, q128_0r2, q128_0r3, rfl, q128_0h0, q128_0h1, q128_0h2, q128_0h3, E128⟩
          refine ⟨_, rfl, ?_⟩
          have X129 : Ext w' w128 := (Ext.refl w').trans E128
          exact ⟨⟨q128_0r0, q128_0r1, q128_0r2, q128_0r3, rfl, q128_0h0, q128_0h1, q128_0h2, q128_0h3⟩, own_none X129⟩
        · skip
          refine ⟨fun _ _ _ _ _ _ h _ => h, fun _ _ h _ => h, fun σ' w' hA hE hD hP => ?_⟩
          obtain ⟨d106_14_0r0, d106_14_0r1, d106_14_0r2, d106_14_0r3, t59, d106_14_0h0, d106_14_0h1, d106_14_0h2, d106_14_0h3⟩ : ∃ d106_14_0r0 : Nat, ∃ d106_14_0r1 : Nat, ∃ d106_14_0r2 : Nat, ∃ d106_14_0r3 : Nat, σ' 59 = (.tuple #[.agg #[.float .f32 d106_14_0r0, .float .f32 d106_14_0r1, .float .f32 d106_14_0r2, .float .f32 d106_14_0r3], .bool m113.2]) ∧ cn .f32 d106_14_0r0 = m113.1.w ∧ cn .f32 d106_14_0r1 = m113.1.x ∧ cn .f32 d106_14_0r2 = m113.1.y ∧ cn .f32 d106_14_0r3 = m113.1.z := hD 14 rfl
          refine dg_op rfl (d_mv (v := .tuple #[.agg #[.float .f32 d106_14_0r0, .float .f32 d106_14_0r1, .float .f32 d106_14_0r2, .float .f32 d106_14_0r3], .bool m113.2]) t59 ?_)
          exact ⟨⟨d106_14_0r0, d106_14_0r1, d106_14_0r2, d106_14_0r3, rfl, d106_14_0h0, d106_14_0h1, d106_14_0h2, d106_14_0h3⟩, own_none (Ext.refl w')⟩
        · skip
          refine ⟨fun _ _ _ _ _ _ h _ => h, fun _ _ h _ => h, fun σ' w' hA hE hD hP => ?_⟩
          obtain ⟨d106_14_0r0, d106_14_0r1, d106_14_0r2, d106_14_0r3, t44, d106_14_0h0, d106_14_0h1, d106_14_0h2, d106_14_0h3⟩ : ∃ d106_14_0r0 : Nat, ∃ d106_14_0r1 : Nat, ∃ d106_14_0r2 : Nat, ∃ d106_14_0r3 : Nat, σ' 44 = (.tuple #[.agg #[.float .f32 d106_14_0r0, .float .f32 d106_14_0r1, .float .f32 d106_14_0r2, .float .f32 d106_14_0r3], .bool m113.2]) ∧ cn .f32 d106_14_0r0 = m113.1.w ∧ cn .f32 d106_14_0r1 = m113.1.x ∧ cn .f32 d106_14_0r2 = m113.1.y ∧ cn .f32 d106_14_0r3 = m113.1.z := hD 15 rfl
          refine dg_op rfl (d_extract (v := .agg #[.float .f32 d106_14_0r0, .float .f32 d106_14_0r1, .float .f32 d106_14_0r2, .float .f32 d106_14_0r3]) t44 rfl ?_)
          exact ⟨⟨d106_14_0r0, d106_14_0r1, d106_14_0r2, d106_14_0r3, rfl, d106_14_0h0, d106_14_0h1, d106_14_0h2, d106_14_0h3⟩, own_none (Ext.refl w')⟩
        · skip
          refine ⟨fun _ _ _ _ _ _ h _ => h, fun _ _ h _ => h, fun σ' w' hA hE hD hP => ?_⟩
          obtain ⟨d106_14_0r0, d106_14_0r1, d106_14_0r2, d106_14_0r3, t44, d106_14_0h0, d106_14_0h1, d106_14_0h2, d106_14_0h3⟩ : ∃ d106_14_0r0 : Nat, ∃ d106_14_0r1 : Nat, ∃ d106_14_0r2 : Nat, ∃ d106_14_0r3 : Nat, σ' 44 = (.tuple #[.agg #[.float .f32 d106_14_0r0, .float .f32 d106_14_0r1, .float .f32 d106_14_0r2, .float .f32 d106_14_0r3], .bool m113.2]) ∧ cn .f32 d106_14_0r0 = m113.1.w ∧ cn .f32 d106_14_0r1 = m113.1.x ∧ cn .f32 d106_14_0r2 = m113.1.y ∧ cn .f32 d106_14_0r3 = m113.1.z := hD 15 rfl
          refine dg_op rfl (d_extract (v := .bool m113.2) t44 rfl ?_)
          exact ⟨rfl, own_none (Ext.refl w')⟩
        · skip
          refine ⟨fun _ _ _ w' w'' _ ⟨d106_18b, d106_18c, hv, d106_18ble, d106_18bB, d106_18bZ⟩ hF => let ⟨c2, hB2, hZ2⟩ := hF.shape _ _ _ _ d106_18bB; ⟨d106_18b, c2, hv, d106_18ble, hB2, (hZ2.trans d106_18bZ)⟩, fun _ _ h _ => h, fun σ' w' hA hE hD hP => ?_⟩
          refine dg_op rfl (d_alloc (cs := #[.float .f32 0, .float .f32 0, .float .f32 0, .float .f32 0]) zero30 rfl fun w130 B130 E130 => ?_)
          have X132 : Ext w' w130 := (Ext.refl w').trans E130
          exact ⟨⟨w'.heap.size, #[.float .f32 0, .float .f32 0, .float .f32 0, .float .f32 0], rfl, hE.size, B130, rfl⟩, own_none X132⟩
        · skip
          refine ⟨fun _ _ _ w' w'' hs ⟨d106_18b, d106_14_0r0, d106_14_0r1, d106_14_0r2, d106_14_0r3, hb, hB, d106_14_0h0, d106_14_0h1, d106_14_0h2, d106_14_0h3⟩ hF => ⟨d106_18b, d106_14_0r0, d106_14_0r1, d106_14_0r2, d106_14_0r3, (hs 18 rfl).trans hb, hF.heap not_oth1s hB, d106_14_0h0, d106_14_0h1, d106_14_0h2, d106_14_0h3⟩, fun _ _ h _ => h, fun σ' w' hA hE hD hP => ?_⟩
          obtain ⟨d106_18b, d106_18c, t12, d106_18ble, d106_18bB, d106_18bZ⟩ : ∃ d106_18b : Nat, ∃ d106_18c : Array Value, σ' 12 = (.pointer (some ⟨d106_18b, 0, none⟩)) ∧ w103.heap.size ≤ d106_18b ∧ w'.heap[d106_18b]? = some (.cells d106_18c 30 (0, 0)) ∧ d106_18c.size = 4 := hD 18 rfl
          obtain ⟨d106_14_0r0, d106_14_0r1, d106_14_0r2, d106_14_0r3, t60, d106_14_0h0, d106_14_0h1, d106_14_0h2, d106_14_0h3⟩ : ∃ d106_14_0r0 : Nat, ∃ d106_14_0r1 : Nat, ∃ d106_14_0r2 : Nat, ∃ d106_14_0r3 : Nat, σ' 60 = (.agg #[.float .f32 d106_14_0r0, .float .f32 d106_14_0r1, .float .f32 d106_14_0r2, .float .f32 d106_14_0r3]) ∧ cn .f32 d106_14_0r0 = m113.1.w ∧ cn .f32 d106_14_0r1 = m113.1.x ∧ cn .f32 d106_14_0r2 = m113.1.y ∧ cn .f32 d106_14_0r3 = m113.1.z := hD 16 rfl
          refine dg_op rfl (d_store_new (vs := #[.float .f32 d106_14_0r0, .float .f32 d106_14_0r1, .float .f32 d106_14_0r2, .float .f32 d106_14_0r3]) t12 (congrArg Value.cells t60) d106_18bB d106_18bZ size30 rfl rfl fun w133 S133 => ?_)
          exact ⟨⟨d106_18b, d106_14_0r0, d106_14_0r1, d106_14_0r2, d106_14_0r3, t12, S133.here, d106_14_0h0, d106_14_0h1, d106_14_0h2, d106_14_0h3⟩, own_some (j := 0) rfl (S133.frm.mono (fun k t h => ⟨h.1 ▸ d106_18ble, h.2⟩))⟩
        · skip
          refine ⟨fun _ _ _ _ _ _ h _ => h, fun _ _ h _ => h, fun σ' w' hA hE hD hP => ?_⟩
          have t61 : σ' 61 = (.bool m113.2) := hD 17 rfl
          refine dg_op rfl (d_as (v := .bool m113.2) t61 ?_)
          exact ⟨rfl, own_none (Ext.refl w')⟩
        · skip
          intro σ106 w106 A106 E106 V106
          obtain ⟨z106_12_18b, z106_12_18c, s12_106, z106_12_18ble, z106_12_18bB, z106_12_18bZ⟩ : ∃ z106_12_18b : Nat, ∃ z106_12_18c : Array Value, σ106 12 = (.pointer (some ⟨z106_12_18b, 0, none⟩)) ∧ w103.heap.size ≤ z106_12_18b ∧ w106.heap[z106_12_18b]? = some (.cells z106_12_18c 30 (0, 0)) ∧ z106_12_18c.size = 4 := V106 18 (Nat.le_of_ble_eq_true rfl)
          have s13_106 : σ106 13 = (.bool m113.2) := V106 20 (Nat.le_of_ble_eq_true rfl)
          obtain ⟨z106_m0_18b, z106_m0_14_0r0, z106_m0_14_0r1, z106_m0_14_0r2, z106_m0_14_0r3, hbn106, hBn106, z106_m0_14_0h0, z106_m0_14_0h1, z106_m0_14_0h2, z106_m0_14_0h3⟩ : ∃ z106_m0_18b : Nat, ∃ z106_m0_14_0r0 : Nat, ∃ z106_m0_14_0r1 : Nat, ∃ z106_m0_14_0r2 : Nat, ∃ z106_m0_14_0r3 : Nat, σ106 12 = .pointer (some ⟨z106_m0_18b, 0, none⟩) ∧ w106.heap[z106_m0_18b]? = some (.cells #[.float .f32 z106_m0_14_0r0, .float .f32 z106_m0_14_0r1, .float .f32 z106_m0_14_0r2, .float .f32 z106_m0_14_0r3] 30 (0, 0)) ∧ cn .f32 z106_m0_14_0r0 = m113.1.w ∧ cn .f32 z106_m0_14_0r1 = m113.1.x ∧ cn .f32 z106_m0_14_0r2 = m113.1.y ∧ cn .f32 z106_m0_14_0r3 = m113.1.z := V106 19 (Nat.le_of_ble_eq_true rfl)
          have hen106 : z106_m0_18b = z106_12_18b := by have := hbn106.symm.trans s12_106; simp only [Value.pointer.injEq, Option.some.injEq, Addr.mk.injEq] at this; exact this.1
          rw [hen106] at hBn106
          have own134 : w.heap.size ≤ z106_12_18b := Nat.le_trans X104.size z106_12_18ble
          have sp135 : w.heap.size ≠ z106_12_18b := Nat.ne_of_lt (Nat.lt_of_lt_of_le (lt_heap B107) z106_12_18ble)
          have sp136 : w4.heap.size ≠ z106_12_18b := Nat.ne_of_lt (Nat.lt_of_lt_of_le (lt_heap B108) z106_12_18ble)
          have sp137 : w46.heap.size ≠ z106_12_18b := Nat.ne_of_lt (Nat.lt_of_lt_of_le (lt_heap B109) z106_12_18ble)
          have sp138 : z60_10_6b ≠ z106_12_18b := Nat.ne_of_lt (Nat.lt_of_lt_of_le (lt_heap B110) z106_12_18ble)
          have sp139 : w88.heap.size ≠ z106_12_18b := Nat.ne_of_lt (Nat.lt_of_lt_of_le (lt_heap B105) z106_12_18ble)
          have s2_106 : σ106 2 = .float .f32 p2r := (A106 2 rfl).trans s2_60
          have s3_106 : σ106 3 = .pointer (some ⟨w.heap.size, 0, none⟩) := (A106 3 rfl).trans s3_60
          have s6_106 : σ106 6 = .pointer (some ⟨w4.heap.size, 0, none⟩) := (A106 6 rfl).trans s6_60
          have s9_106 : σ106 9 = .pointer (some ⟨w46.heap.size, 0, none⟩) := (A106 9 rfl).trans s9_60
          have s10_106 : σ106 10 = .pointer (some ⟨z60_10_6b, 0, none⟩) := (A106 10 rfl).trans s10_60
          have s11_106 : σ106 11 = .pointer (some ⟨w88.heap.size, 0, none⟩) := (A106 11 rfl).trans rfl
          have X140 : Ext w w106 := Ext.step X104 E106 (oth_own1 (fun k _ hk => Nat.le_trans X104.size hk.1))
          refine W_seq ?_
          have B142 : w106.heap[w.heap.size]? = some (.cells #[.float .f32 p0r0, .float .f32 p0r1, .float .f32 p0r2, .float .f32 p0r3, .float .f32 p0r4, .float .f32 p0r5, .float .f32 p0r6, .float .f32 p0r7, .float .f32 p0r8, .float .f32 p0r9] 32 (0, 0)) := E106.heap (not_oth1 (not_newT_box B107)) B107
          have B143 : w106.heap[w4.heap.size]? = some (.cells #[.float .f32 0, .float .f32 0, .float .f32 0, .float .f32 0, .float .f32 0, .float .f32 0, .float .f32 0, .float .f32 0, .float .f32 0, .float .f32 0] 32 (0, 0)) := E106.heap (not_oth1 (not_newT_box B108)) B108
          have B144 : w106.heap[w46.heap.size]? = some (.cells #[.float .f32 q46_0r0, .float .f32 q46_0r1, .float .f32 q46_0r2] 29 (0, 0)) := E106.heap (not_oth1 (not_newT_box B109)) B109
          have B145 : w106.heap[z60_10_6b]? = some (.cells #[.float .f32 z60_m0_5_0r0, .float .f32 z60_m0_5_0r1, .float .f32 z60_m0_5_0r2] 29 (0, 0)) := E106.heap (not_oth1 (not_newT_box B110)) B110
          have B146 : w106.heap[w88.heap.size]? = some (.cells #[.float .f32 q88_0r0, .float .f32 q88_0r1, .float .f32 q88_0r2] 29 (0, 0)) := E106.heap (not_oth1 (not_newT_box B105)) B105
          obtain ⟨m147, hm147, hr⟩ := letv_out hr
          obtain ⟨m148, hm148, hr⟩ := letv_out hr
          refine W_any [(fun k t => w106.heap.size ≤ k ∧ t = some 32)] [{ V := fun _ v _ => v = (.pointer (some ⟨w.heap.size, 0, none⟩)) }, { V := fun _ v _ => v = (.agg #[.float .f32 p0r0, .float .f32 p0r1, .float .f32 p0r2]) }, { V := fun _ v _ => v = (.agg #[.float .f32 z106_m0_14_0r0, .float .f32 z106_m0_14_0r1, .float .f32 z106_m0_14_0r2, .float .f32 z106_m0_14_0r3]) }, { V := fun _ v _ => v = (.pointer (some ⟨w.heap.size, 7, none⟩)) }, { V := fun _ v _ => v = (.agg #[.float .f32 p0r7, .float .f32 p0r8, .float .f32 p0r9]) }, { V := fun _ v _ => v = (.agg #[.float .f32 q88_0r0, .float .f32 q88_0r1, .float .f32 q88_0r2]) }, { V := fun _ v _ => v = (.float .f32 p2r) }, { V := fun _ v _ => ∃ d141_7_0r0 : Nat, ∃ d141_7_0r1 : Nat, ∃ d141_7_0r2 : Nat, v = (.agg #[.float .f32 d141_7_0r0, .float .f32 d141_7_0r1, .float .f32 d141_7_0r2]) ∧ cn .f32 d141_7_0r0 = m147.x ∧ cn .f32 d141_7_0r1 = m147.y ∧ cn .f32 d141_7_0r2 = m147.z }, { V := fun _ v _ => ∃ d141_8_0r0 : Nat, ∃ d141_8_0r1 : Nat, ∃ d141_8_0r2 : Nat, v = (.agg #[.float .f32 d141_8_0r0, .float .f32 d141_8_0r1, .float .f32 d141_8_0r2]) ∧ cn .f32 d141_8_0r0 = m148.x ∧ cn .f32 d141_8_0r1 = m148.y ∧ cn .f32 d141_8_0r2 = m148.z }, { V := fun _ v _ => ∃ d141_8_0r0 : Nat, ∃ d141_8_0r1 : Nat, ∃ d141_8_0r2 : Nat, v = (.agg #[.float .f32 p0r0, .float .f32 p0r1, .float .f32 p0r2, .float .f32 z106_m0_14_0r0, .float .f32 z106_m0_14_0r1, .float .f32 z106_m0_14_0r2, .float .f32 z106_m0_14_0r3, .float .f32 d141_8_0r0, .float .f32 d141_8_0r1, .float .f32 d141_8_0r2]) ∧ cn .f32 d141_8_0r0 = m148.x ∧ cn .f32 d141_8_0r1 = m148.y ∧ cn .f32 d141_8_0r2 = m148.z }, { V := fun _ v w' => ∃ d141_10b : Nat, ∃ d141_10c : Array Value, v = (.pointer (some ⟨d141_10b, 0, none⟩)) ∧ w106.heap.size ≤ d141_10b ∧ w'.heap[d141_10b]? = some (.cells d141_10c 32 (0, 0)) ∧ d141_10c.size = 10 }, ⟨fun sg _ w' => ∃ d141_10b : Nat, ∃ d141_8_0r0 : Nat, ∃ d141_8_0r1 : Nat, ∃ d141_8_0r2 : Nat, sg 14 = .pointer (some ⟨d141_10b, 0, none⟩) ∧ w'.heap[d141_10b]? = some (.cells #[.float .f32 p0r0, .float .f32 p0r1, .float .f32 p0r2, .float .f32 z106_m0_14_0r0, .float .f32 z106_m0_14_0r1, .float .f32 z106_m0_14_0r2, .float .f32 z106_m0_14_0r3, .float .f32 d141_8_0r0, .float .f32 d141_8_0r1, .float .f32 d141_8_0r2] 32 (0, 0)) ∧ cn .f32 d141_8_0r0 = m148.x ∧ cn .f32 d141_8_0r1 = m148.y ∧ cn .f32 d141_8_0r2 = m148.z, some 0, fun _ => True⟩] mixed (by kernel_rfl) ⟨trivial, trivial, trivial, trivial, trivial, trivial, trivial, trivial, trivial, trivial, trivial, trivial, trivial⟩ ⟨?_, ?_, ?_, ?_, ?_, ?_, ?_, ?_, ?_, ?_, ?_, ?_, trivial⟩ ?_
          · skip
            refine ⟨fun _ _ _ _ _ _ h _ => h, fun _ _ h _ => h, fun σ' w' hA hE hD hP => ?_⟩
            have t3 : σ' 3 = .pointer (some ⟨w.heap.size, 0, none⟩) := (hA 3 rfl).trans s3_106
            have B0_149 : w'.heap[w.heap.size]? = some (.cells #[.float .f32 p0r0, .float .f32 p0r1, .float .f32 p0r2, .float .f32 p0r3, .float .f32 p0r4, .float .f32 p0r5, .float .f32 p0r6, .float .f32 p0r7, .float .f32 p0r8, .float .f32 p0r9] 32 (0, 0)) := hE.heap (not_oth1 (not_newT_box B142)) B142
            refine dg_op rfl (d_fieldAddr t3 (fa32_0 _ _) ?_)
            exact ⟨rfl, own_none (Ext.refl w')⟩
          · skip
            refine ⟨fun _ _ _ _ _ _ h _ => h, fun _ _ h _ => h, fun σ' w' hA hE hD hP => ?_⟩
            have t62 : σ' 62 = (.pointer (some ⟨w.heap.size, 0, none⟩)) := hD 0 rfl
            have B0_150 : w'.heap[w.heap.size]? = some (.cells #[.float .f32 p0r0, .float .f32 p0r1, .float .f32 p0r2, .float .f32 p0r3, .float .f32 p0r4, .float .f32 p0r5, .float .f32 p0r6, .float .f32 p0r7, .float .f32 p0r8, .float .f32 p0r9] 32 (0, 0)) := hE.heap (not_oth1 (not_newT_box B142)) B142
            refine dg_op rfl (d_loads (vs := #[.float .f32 p0r0, .float .f32 p0r1, .float .f32 p0r2]) t62 agg29 size29 B0_150 rfl ?_)
            exact ⟨rfl, own_none (Ext.refl w')⟩
          · skip
            refine ⟨fun _ _ _ _ _ _ h _ => h, fun _ _ h _ => h, fun σ' w' hA hE hD hP => ?_⟩
            have t12 : σ' 12 = .pointer (some ⟨z106_12_18b, 0, none⟩) := (hA 12 rfl).trans s12_106
            have B0_151 : w'.heap[z106_12_18b]? = some (.cells #[.float .f32 z106_m0_14_0r0, .float .f32 z106_m0_14_0r1, .float .f32 z106_m0_14_0r2, .float .f32 z106_m0_14_0r3] 30 (0, 0)) := hE.heap (not_oth1 (not_newT_box hBn106)) hBn106
            refine dg_op rfl (d_loads (vs := #[.float .f32 z106_m0_14_0r0, .float .f32 z106_m0_14_0r1, .float .f32 z106_m0_14_0r2, .float .f32 z106_m0_14_0r3]) t12 agg30 size30 B0_151 rfl ?_)
            exact ⟨rfl, own_none (Ext.refl w')⟩
          · skip
            refine ⟨fun _ _ _ _ _ _ h _ => h, fun _ _ h _ => h, fun σ' w' hA hE hD hP => ?_⟩
            have t3 : σ' 3 = .pointer (some ⟨w.heap.size, 0, none⟩) := (hA 3 rfl).trans s3_106
            have B0_152 : w'.heap[w.heap.size]? = some (.cells #[.float .f32 p0r0, .float .f32 p0r1, .float .f32 p0r2, .float .f32 p0r3, .float .f32 p0r4, .float .f32 p0r5, .float .f32 p0r6, .float .f32 p0r7, .float .f32 p0r8, .float .f32 p0r9] 32 (0, 0)) := hE.heap (not_oth1 (not_newT_box B142)) B142
            refine dg_op rfl (d_fieldAddr t3 (fa32_2 _ _) ?_)
            exact ⟨rfl, own_none (Ext.refl w')⟩
          · skip
            refine ⟨fun _ _ _ _ _ _ h _ => h, fun _ _ h _ => h, fun σ' w' hA hE hD hP => ?_⟩
            have t65 : σ' 65 = (.pointer (some ⟨w.heap.size, 7, none⟩)) := hD 3 rfl
            have B0_153 : w'.heap[w.heap.size]? = some (.cells #[.float .f32 p0r0, .float .f32 p0r1, .float .f32 p0r2, .float .f32 p0r3, .float .f32 p0r4, .float .f32 p0r5, .float .f32 p0r6, .float .f32 p0r7, .float .f32 p0r8, .float .f32 p0r9] 32 (0, 0)) := hE.heap (not_oth1 (not_newT_box B142)) B142
            refine dg_op rfl (d_loads (vs := #[.float .f32 p0r7, .float .f32 p0r8, .float .f32 p0r9]) t65 agg29 size29 B0_153 rfl ?_)
            exact ⟨rfl, own_none (Ext.refl w')⟩
          · skip
            refine ⟨fun _ _ _ _ _ _ h _ => h, fun _ _ h _ => h, fun σ' w' hA hE hD hP => ?_⟩
            have t11 : σ' 11 = .pointer (some ⟨w88.heap.size, 0, none⟩) := (hA 11 rfl).trans s11_106
            have B0_154 : w'.heap[w88.heap.size]? = some (.cells #[.float .f32 q88_0r0, .float .f32 q88_0r1, .float .f32 q88_0r2] 29 (0, 0)) := hE.heap (not_oth1 (not_newT_box B146)) B146
            refine dg_op rfl (d_loads (vs := #[.float .f32 q88_0r0, .float .f32 q88_0r1, .float .f32 q88_0r2]) t11 agg29 size29 B0_154 rfl ?_)
            exact ⟨rfl, own_none (Ext.refl w')⟩
          · skip
            refine ⟨fun _ _ _ _ _ _ h _ => h, fun _ _ h _ => h, fun σ' w' hA hE hD hP => ?_⟩
            have t2 : σ' 2 = .float .f32 p2r := (hA 2 rfl).trans s2_106
            refine dg_op rfl (d_mv (v := .float .f32 p2r) t2 ?_)
            exact ⟨rfl, own_none (Ext.refl w')⟩
          · skip
            refine ⟨fun _ _ _ _ _ _ h _ => h, fun _ _ h _ => h, fun σ' w' hA hE hD hP => ?_⟩
            have t67 : σ' 67 = (.agg #[.float .f32 q88_0r0, .float .f32 q88_0r1, .float .f32 q88_0r2]) := hD 5 rfl
            have t68 : σ' 68 = (.float .f32 p2r) := hD 6 rfl
            refine dg_op rfl (d_cl (vs := [.agg #[.float .f32 q88_0r0, .float .f32 q88_0r1, .float .f32 q88_0r2], .float .f32 p2r]) en95 (ac t67 (ac t68 rfl)) rfl ?_)
            refine (c95 (⟨m84.x, m84.y, m84.z⟩ : SVector) p2 q88_0r0 q88_0r1 q88_0r2 p2r m147 w' hm147 q88_0h0 q88_0h1 q88_0h2 p2h).mono ?_
            rintro _ w155 ⟨q155_0r0, q155_0r1, q155_0r2, rfl, q155_0h0, q155_0h1, q155_0h2, E155⟩
            refine ⟨_, rfl, ?_⟩
            have X156 : Ext w' w155 := (Ext.refl w').trans E155
            exact ⟨⟨q155_0r0, q155_0r1, q155_0r2, rfl, q155_0h0, q155_0h1, q155_0h2⟩, own_none X156⟩
          · skip
            refine ⟨fun _ _ _ _ _ _ h _ => h, fun _ _ h _ => h, fun σ' w' hA hE hD hP => ?_⟩
            have t66 : σ' 66 = (.agg #[.float .f32 p0r7, .float .f32 p0r8, .float .f32 p0r9]) := hD 4 rfl
            obtain ⟨d141_7_0r0, d141_7_0r1, d141_7_0r2, t69, d141_7_0h0, d141_7_0h1, d141_7_0h2⟩ : ∃ d141_7_0r0 : Nat, ∃ d141_7_0r1 : Nat, ∃ d141_7_0r2 : Nat, σ' 69 = (.agg #[.float .f32 d141_7_0r0, .float .f32 d141_7_0r1, .float .f32 d141_7_0r2]) ∧ cn .f32 d141_7_0r0 = m147.x ∧ cn .f32 d141_7_0r1 = m147.y ∧ cn .f32 d141_7_0r2 = m147.z := hD 7 rfl
            refine dg_op rfl (d_cl (vs := [.agg #[.float .f32 p0r7, .float .f32 p0r8, .float .f32 p0r9], .agg #[.float .f32 d141_7_0r0, .float .f32 d141_7_0r1, .float .f32 d141_7_0r2]]) en94 (ac t66 (ac t69 rfl)) rfl ?_)
            refine (c94 (⟨p0.speed.x, p0.speed.y, p0.speed.z⟩ : SVector) m147 p0r7 p0r8 p0r9 d141_7_0r0 d141_7_0r1 d141_7_0r2 m148 w' hm148 p0h7 p0h8 p0h9 d141_7_0h0 d141_7_0h1 d141_7_0h2).mono ?_
            rintro _ w157 ⟨q157_0r0, q157_0r1, q157_0r2, rfl, q157_0h0, q157_0h1, q157_0h2, E157⟩
            refine ⟨_, rfl, ?_⟩
            have X158 : Ext w' w157 := (Ext.refl w').trans E157
            exact ⟨⟨q157_0r0, q157_0r1, q157_0r2, rfl, q157_0h0, q157_0h1, q157_0h2⟩, own_none X158⟩
          · skip
            refine ⟨fun _ _ _ _ _ _ h _ => h, fun _ _ h _ => h, fun σ' w' hA hE hD hP => ?_⟩
            have t63 : σ' 63 = (.agg #[.float .f32 p0r0, .float .f32 p0r1, .float .f32 p0r2]) := hD 1 rfl
            have t64 : σ' 64 = (.agg #[.float .f32 z106_m0_14_0r0, .float .f32 z106_m0_14_0r1, .float .f32 z106_m0_14_0r2, .float .f32 z106_m0_14_0r3]) := hD 2 rfl
            obtain ⟨d141_8_0r0, d141_8_0r1, d141_8_0r2, t70, d141_8_0h0, d141_8_0h1, d141_8_0h2⟩ : ∃ d141_8_0r0 : Nat, ∃ d141_8_0r1 : Nat, ∃ d141_8_0r2 : Nat, σ' 70 = (.agg #[.float .f32 d141_8_0r0, .float .f32 d141_8_0r1, .float .f32 d141_8_0r2]) ∧ cn .f32 d141_8_0r0 = m148.x ∧ cn .f32 d141_8_0r1 = m148.y ∧ cn .f32 d141_8_0r2 = m148.z := hD 8 rfl
            refine dg_op rfl (d_bd (vs := [(0, .agg #[.float .f32 p0r0, .float .f32 p0r1, .float .f32 p0r2]), (1, .agg #[.float .f32 z106_m0_14_0r0, .float .f32 z106_m0_14_0r1, .float .f32 z106_m0_14_0r2, .float .f32 z106_m0_14_0r3]), (2, .agg #[.float .f32 d141_8_0r0, .float .f32 d141_8_0r1, .float .f32 d141_8_0r2])]) (cs := #[.float .f32 p0r0, .float .f32 p0r1, .float .f32 p0r2, .float .f32 z106_m0_14_0r0, .float .f32 z106_m0_14_0r1, .float .f32 z106_m0_14_0r2, .float .f32 z106_m0_14_0r3, .float .f32 d141_8_0r0, .float .f32 d141_8_0r1, .float .f32 d141_8_0r2]) (pc t63 (pc t64 (pc t70 rfl))) (by kernel_rfl) ?_)
            exact ⟨⟨d141_8_0r0, d141_8_0r1, d141_8_0r2, rfl, d141_8_0h0, d141_8_0h1, d141_8_0h2⟩, own_none (Ext.refl w')⟩
          · skip
            refine ⟨fun _ _ _ w' w'' _ ⟨d141_10b, d141_10c, hv, d141_10ble, d141_10bB, d141_10bZ⟩ hF => let ⟨c2, hB2, hZ2⟩ := hF.shape _ _ _ _ d141_10bB; ⟨d141_10b, c2, hv, d141_10ble, hB2, (hZ2.trans d141_10bZ)⟩, fun _ _ h _ => h, fun σ' w' hA hE hD hP => ?_⟩
            refine dg_op rfl (d_alloc (cs := #[.float .f32 0, .float .f32 0, .float .f32 0, .float .f32 0, .float .f32 0, .float .f32 0, .float .f32 0, .float .f32 0, .float .f32 0, .float .f32 0]) zero32 rfl fun w159 B159 E159 => ?_)
            have X161 : Ext w' w159 := (Ext.refl w').trans E159
            exact ⟨⟨w'.heap.size, #[.float .f32 0, .float .f32 0, .float .f32 0, .float .f32 0, .float .f32 0, .float .f32 0, .float .f32 0, .float .f32 0, .float .f32 0, .float .f32 0], rfl, hE.size, B159, rfl⟩, own_none X161⟩
          · skip
            refine ⟨fun _ _ _ w' w'' hs ⟨d141_10b, d141_8_0r0, d141_8_0r1, d141_8_0r2, hb, hB, d141_8_0h0, d141_8_0h1, d141_8_0h2⟩ hF => ⟨d141_10b, d141_8_0r0, d141_8_0r1, d141_8_0r2, (hs 10 rfl).trans hb, hF.heap not_oth1s hB, d141_8_0h0, d141_8_0h1, d141_8_0h2⟩, fun _ _ h _ => h, fun σ' w' hA hE hD hP => ?_⟩
            obtain ⟨d141_10b, d141_10c, t14, d141_10ble, d141_10bB, d141_10bZ⟩ : ∃ d141_10b : Nat, ∃ d141_10c : Array Value, σ' 14 = (.pointer (some ⟨d141_10b, 0, none⟩)) ∧ w106.heap.size ≤ d141_10b ∧ w'.heap[d141_10b]? = some (.cells d141_10c 32 (0, 0)) ∧ d141_10c.size = 10 := hD 10 rfl
            obtain ⟨d141_8_0r0, d141_8_0r1, d141_8_0r2, t71, d141_8_0h0, d141_8_0h1, d141_8_0h2⟩ : ∃ d141_8_0r0 : Nat, ∃ d141_8_0r1 : Nat, ∃ d141_8_0r2 : Nat, σ' 71 = (.agg #[.float .f32 p0r0, .float .f32 p0r1, .float .f32 p0r2, .float .f32 z106_m0_14_0r0, .float .f32 z106_m0_14_0r1, .float .f32 z106_m0_14_0r2, .float .f32 z106_m0_14_0r3, .float .f32 d141_8_0r0, .float .f32 d141_8_0r1, .float .f32 d141_8_0r2]) ∧ cn .f32 d141_8_0r0 = m148.x ∧ cn .f32 d141_8_0r1 = m148.y ∧ cn .f32 d141_8_0r2 = m148.z := hD 9 rfl
            refine dg_op rfl (d_store_new (vs := #[.float .f32 p0r0, .float .f32 p0r1, .float .f32 p0r2, .float .f32 z106_m0_14_0r0, .float .f32 z106_m0_14_0r1, .float .f32 z106_m0_14_0r2, .float .f32 z106_m0_14_0r3, .float .f32 d141_8_0r0, .float .f32 d141_8_0r1, .float .f32 d141_8_0r2]) t14 (congrArg Value.cells t71) d141_10bB d141_10bZ size32 rfl rfl fun w162 S162 => ?_)
            exact ⟨⟨d141_10b, d141_8_0r0, d141_8_0r1, d141_8_0r2, t14, S162.here, d141_8_0h0, d141_8_0h1, d141_8_0h2⟩, own_some (j := 0) rfl (S162.frm.mono (fun k t h => ⟨h.1 ▸ d141_10ble, h.2⟩))⟩
          · skip
            intro σ141 w141 A141 E141 V141
            obtain ⟨z141_14_10b, z141_14_10c, s14_141, z141_14_10ble, z141_14_10bB, z141_14_10bZ⟩ : ∃ z141_14_10b : Nat, ∃ z141_14_10c : Array Value, σ141 14 = (.pointer (some ⟨z141_14_10b, 0, none⟩)) ∧ w106.heap.size ≤ z141_14_10b ∧ w141.heap[z141_14_10b]? = some (.cells z141_14_10c 32 (0, 0)) ∧ z141_14_10c.size = 10 := V141 10 (Nat.le_of_ble_eq_true rfl)
            obtain ⟨z141_m0_10b, z141_m0_8_0r0, z141_m0_8_0r1, z141_m0_8_0r2, hbn141, hBn141, z141_m0_8_0h0, z141_m0_8_0h1, z141_m0_8_0h2⟩ : ∃ z141_m0_10b : Nat, ∃ z141_m0_8_0r0 : Nat, ∃ z141_m0_8_0r1 : Nat, ∃ z141_m0_8_0r2 : Nat, σ141 14 = .pointer (some ⟨z141_m0_10b, 0, none⟩) ∧ w141.heap[z141_m0_10b]? = some (.cells #[.float .f32 p0r0, .float .f32 p0r1, .float .f32 p0r2, .float .f32 z106_m0_14_0r0, .float .f32 z106_m0_14_0r1, .float .f32 z106_m0_14_0r2, .float .f32 z106_m0_14_0r3, .float .f32 z141_m0_8_0r0, .float .f32 z141_m0_8_0r1, .float .f32 z141_m0_8_0r2] 32 (0, 0)) ∧ cn .f32 z141_m0_8_0r0 = m148.x ∧ cn .f32 z141_m0_8_0r1 = m148.y ∧ cn .f32 z141_m0_8_0r2 = m148.z := V141 11 (Nat.le_of_ble_eq_true rfl)
            have hen141 : z141_m0_10b = z141_14_10b := by have := hbn141.symm.trans s14_141; simp only [Value.pointer.injEq, Option.some.injEq, Addr.mk.injEq] at this; exact this.1
            rw [hen141] at hBn141
            have own163 : w.heap.size ≤ z141_14_10b := Nat.le_trans X140.size z141_14_10ble
            have sp164 : w.heap.size ≠ z141_14_10b := Nat.ne_of_lt (Nat.lt_of_lt_of_le (lt_heap B142) z141_14_10ble)
            have sp165 : w4.heap.size ≠ z141_14_10b := Nat.ne_of_lt (Nat.lt_of_lt_of_le (lt_heap B143) z141_14_10ble)
            have sp166 : w46.heap.size ≠ z141_14_10b := Nat.ne_of_lt (Nat.lt_of_lt_of_le (lt_heap B144) z141_14_10ble)
            have sp167 : z60_10_6b ≠ z141_14_10b := Nat.ne_of_lt (Nat.lt_of_lt_of_le (lt_heap B145) z141_14_10ble)
            have sp168 : w88.heap.size ≠ z141_14_10b := Nat.ne_of_lt (Nat.lt_of_lt_of_le (lt_heap B146) z141_14_10ble)
            have sp169 : z106_12_18b ≠ z141_14_10b := Nat.ne_of_lt (Nat.lt_of_lt_of_le (lt_heap hBn106) z141_14_10ble)
            have s6_141 : σ141 6 = .pointer (some ⟨w4.heap.size, 0, none⟩) := (A141 6 rfl).trans s6_106
            have s9_141 : σ141 9 = .pointer (some ⟨w46.heap.size, 0, none⟩) := (A141 9 rfl).trans s9_106
            have s10_141 : σ141 10 = .pointer (some ⟨z60_10_6b, 0, none⟩) := (A141 10 rfl).trans s10_106
            have s11_141 : σ141 11 = .pointer (some ⟨w88.heap.size, 0, none⟩) := (A141 11 rfl).trans s11_106
            have s13_141 : σ141 13 = .bool m113.2 := (A141 13 rfl).trans s13_106
            have X170 : Ext w w141 := Ext.step X140 E141 (oth_own1 (fun k _ hk => Nat.le_trans X140.size hk.1))
            refine W_seq ?_
            refine W_seq ?_
            have B172 : w141.heap[w4.heap.size]? = some (.cells #[.float .f32 0, .float .f32 0, .float .f32 0, .float .f32 0, .float .f32 0, .float .f32 0, .float .f32 0, .float .f32 0, .float .f32 0, .float .f32 0] 32 (0, 0)) := E141.heap (not_oth1 (not_newT_box B143)) B143
            have B173 : w141.heap[w46.heap.size]? = some (.cells #[.float .f32 q46_0r0, .float .f32 q46_0r1, .float .f32 q46_0r2] 29 (0, 0)) := E141.heap (not_oth1 (not_newT_box B144)) B144
            have B174 : w141.heap[z60_10_6b]? = some (.cells #[.float .f32 z60_m0_5_0r0, .float .f32 z60_m0_5_0r1, .float .f32 z60_m0_5_0r2] 29 (0, 0)) := E141.heap (not_oth1 (not_newT_box B145)) B145
            have B175 : w141.heap[w88.heap.size]? = some (.cells #[.float .f32 q88_0r0, .float .f32 q88_0r1, .float .f32 q88_0r2] 29 (0, 0)) := E141.heap (not_oth1 (not_newT_box B146)) B146
            obtain ⟨m171, hm171, hr⟩ := bind_out hr
            refine W_cut (fun σ' w' => σ' 93 = .bool m171 ∧ Ext w141 w') rfl ?_ ?_
            · skip
              have hr := hm171
              refine da_op rfl (d_mv (v := .bool m113.2) s13_141 ?_)
              refine da_op rfl (d_not rfl ?_)
              refine da_op rfl (d_mv (v := .bool (!m113.2)) rfl ?_)
              rcases Bool.eq_false_or_eq_true m113.2 with hc176 | hc176
              · skip
                replace hr := bif_t hr hc176
                refine da_on rfl (Eq.trans (show sl _ _ _ = .bool (!m113.2) from rfl) (congrArg Value.bool (congrArg not hc176))) (d_loads (vs := #[.float .f32 q46_0r0, .float .f32 q46_0r1, .float .f32 q46_0r2]) s9_141 agg29 size29 B173 rfl ?_)
                obtain ⟨m177, hm177, hr⟩ := bind_out hr
                refine da_on rfl (Eq.trans (show sl _ _ _ = .bool (!m113.2) from rfl) (congrArg Value.bool (congrArg not hc176))) (d_cl (vs := [.agg #[.float .f32 q46_0r0, .float .f32 q46_0r1, .float .f32 q46_0r2]]) en25 (ac rfl rfl) rfl ?_)
                refine (c25 (⟨m44.x, m44.y, m44.z⟩ : SVector) q46_0r0 q46_0r1 q46_0r2 m177 w141 hm177 q46_0h0 q46_0h1 q46_0h2).mono ?_
                rintro _ w178 ⟨rfl, E178⟩
                refine ⟨_, rfl, ?_⟩
                have X179 : Ext w w178 := X170.trans E178
                refine da_on rfl (Eq.trans (show sl _ _ _ = .bool (!m113.2) from rfl) (congrArg Value.bool (congrArg not hc176))) (d_not rfl ?_)
                refine da_op rfl (d_pick (b := false) (Eq.trans (show ev _ _ = .bool (!m113.2) from rfl) (congrArg Value.bool (congrArg not hc176))) ?_)
                refine da_op rfl (d_mv (v := .bool (!m177)) rfl ?_)
                rcases Bool.eq_false_or_eq_true m177 with hc180 | hc180
                · skip
                  replace hr := bif_t hr hc180
                  have B181 : w178.heap[z60_10_6b]? = some (.cells #[.float .f32 z60_m0_5_0r0, .float .f32 z60_m0_5_0r1, .float .f32 z60_m0_5_0r2] 29 (0, 0)) := E178.heap B174
                  refine da_on rfl (Eq.trans (show sl _ _ _ = .bool (!m177) from rfl) (congrArg Value.bool (congrArg not hc180))) (d_loads (vs := #[.float .f32 z60_m0_5_0r0, .float .f32 z60_m0_5_0r1, .float .f32 z60_m0_5_0r2]) s10_141 agg29 size29 B181 rfl ?_)
                  obtain ⟨m182, hm182, hr⟩ := bind_out hr
                  have B183 : w178.heap[w4.heap.size]? = some (.cells #[.float .f32 0, .float .f32 0, .float .f32 0, .float .f32 0, .float .f32 0, .float .f32 0, .float .f32 0, .float .f32 0, .float .f32 0, .float .f32 0] 32 (0, 0)) := E178.heap B172
                  have B184 : w178.heap[w46.heap.size]? = some (.cells #[.float .f32 q46_0r0, .float .f32 q46_0r1, .float .f32 q46_0r2] 29 (0, 0)) := E178.heap B173
                  have B185 : w178.heap[w88.heap.size]? = some (.cells #[.float .f32 q88_0r0, .float .f32 q88_0r1, .float .f32 q88_0r2] 29 (0, 0)) := E178.heap B175
                  have B186 : w178.heap[z141_14_10b]? = some (.cells #[.float .f32 p0r0, .float .f32 p0r1, .float .f32 p0r2, .float .f32 z106_m0_14_0r0, .float .f32 z106_m0_14_0r1, .float .f32 z106_m0_14_0r2, .float .f32 z106_m0_14_0r3, .float .f32 z141_m0_8_0r0, .float .f32 z141_m0_8_0r1, .float .f32 z141_m0_8_0r2] 32 (0, 0)) := E178.heap hBn141
                  refine da_on rfl (Eq.trans (show sl _ _ _ = .bool (!m177) from rfl) (congrArg Value.bool (congrArg not hc180))) (d_cl (vs := [.agg #[.float .f32 z60_m0_5_0r0, .float .f32 z60_m0_5_0r1, .float .f32 z60_m0_5_0r2]]) en25 (ac rfl rfl) rfl ?_)
                  refine (c25 (⟨m65.x, m65.y, m65.z⟩ : SVector) z60_m0_5_0r0 z60_m0_5_0r1 z60_m0_5_0r2 m182 w178 hm182 z60_m0_5_0h0 z60_m0_5_0h1 z60_m0_5_0h2).mono ?_
                  rintro _ w187 ⟨rfl, E187⟩
                  refine ⟨_, rfl, ?_⟩
                  have X188 : Ext w w187 := X179.trans E187
                  refine da_on rfl (Eq.trans (show sl _ _ _ = .bool (!m177) from rfl) (congrArg Value.bool (congrArg not hc180))) (d_not rfl ?_)
                  refine da_op rfl (d_pick (b := false) (Eq.trans (show ev _ _ = .bool (!m177) from rfl) (congrArg Value.bool (congrArg not hc180))) ?_)
                  refine da_op rfl (d_mv (v := .bool (!m182)) rfl ?_)
                  rcases Bool.eq_false_or_eq_true m182 with hc189 | hc189
                  · skip
                    replace hr := bif_t hr hc189
                    have B190 : w187.heap[w88.heap.size]? = some (.cells #[.float .f32 q88_0r0, .float .f32 q88_0r1, .float .f32 q88_0r2] 29 (0, 0)) := E187.heap B185
                    refine da_on rfl (Eq.trans (show sl _ _ _ = .bool (!m182) from rfl) (congrArg Value.bool (congrArg not hc189))) (d_loads (vs := #[.float .f32 q88_0r0, .float .f32 q88_0r1, .float .f32 q88_0r2]) s11_141 agg29 size29 B190 rfl ?_)
                    obtain ⟨m191, hm191, hr⟩ := bind_out hr
                    have B192 : w187.heap[w4.heap.size]? = some (.cells #[.float .f32 0, .float .f32 0, .float .f32 0, .float .f32 0, .float .f32 0, .float .f32 0, .float .f32 0, .float .f32 0, .float .f32 0, .float .f32 0] 32 (0, 0)) := E187.heap B183
                    have B193 : w187.heap[w46.heap.size]? = some (.cells #[.float .f32 q46_0r0, .float .f32 q46_0r1, .float .f32 q46_0r2] 29 (0, 0)) := E187.heap B184
                    have B194 : w187.heap[z60_10_6b]? = some (.cells #[.float .f32 z60_m0_5_0r0, .float .f32 z60_m0_5_0r1, .float .f32 z60_m0_5_0r2] 29 (0, 0)) := E187.heap B181
                    have B195 : w187.heap[z141_14_10b]? = some (.cells #[.float .f32 p0r0, .float .f32 p0r1, .float .f32 p0r2, .float .f32 z106_m0_14_0r0, .float .f32 z106_m0_14_0r1, .float .f32 z106_m0_14_0r2, .float .f32 z106_m0_14_0r3, .float .f32 z141_m0_8_0r0, .float .f32 z141_m0_8_0r1, .float .f32 z141_m0_8_0r2] 32 (0, 0)) := E187.heap B186
                    refine da_on rfl (Eq.trans (show sl _ _ _ = .bool (!m182) from rfl) (congrArg Value.bool (congrArg not hc189))) (d_cl (vs := [.agg #[.float .f32 q88_0r0, .float .f32 q88_0r1, .float .f32 q88_0r2]]) en25 (ac rfl rfl) rfl ?_)
                    refine (c25 (⟨m84.x, m84.y, m84.z⟩ : SVector) q88_0r0 q88_0r1 q88_0r2 m191 w187 hm191 q88_0h0 q88_0h1 q88_0h2).mono ?_
                    rintro _ w196 ⟨rfl, E196⟩
                    refine ⟨_, rfl, ?_⟩
                    have X197 : Ext w w196 := X188.trans E196
                    refine da_on rfl (Eq.trans (show sl _ _ _ = .bool (!m182) from rfl) (congrArg Value.bool (congrArg not hc189))) (d_not rfl ?_)
                    refine da_op rfl (d_pick (b := false) (Eq.trans (show ev _ _ = .bool (!m182) from rfl) (congrArg Value.bool (congrArg not hc189))) ?_)
                    refine da_op rfl (d_mv (v := .bool (!m191)) rfl ?_)
                    rcases Bool.eq_false_or_eq_true m191 with hc198 | hc198
                    · skip
                      replace hr := bif_t hr hc198
                      have B199 : w196.heap[z141_14_10b]? = some (.cells #[.float .f32 p0r0, .float .f32 p0r1, .float .f32 p0r2, .float .f32 z106_m0_14_0r0, .float .f32 z106_m0_14_0r1, .float .f32 z106_m0_14_0r2, .float .f32 z106_m0_14_0r3, .float .f32 z141_m0_8_0r0, .float .f32 z141_m0_8_0r1, .float .f32 z141_m0_8_0r2] 32 (0, 0)) := E196.heap B195
                      refine da_on rfl (Eq.trans (show sl _ _ _ = .bool (!m191) from rfl) (congrArg Value.bool (congrArg not hc198))) (d_loads (vs := #[.float .f32 p0r0, .float .f32 p0r1, .float .f32 p0r2, .float .f32 z106_m0_14_0r0, .float .f32 z106_m0_14_0r1, .float .f32 z106_m0_14_0r2, .float .f32 z106_m0_14_0r3, .float .f32 z141_m0_8_0r0, .float .f32 z141_m0_8_0r1, .float .f32 z141_m0_8_0r2]) s14_141 agg32 size32 B199 rfl ?_)
                      obtain ⟨m200, hm200, hr⟩ := bind_out hr
                      have B201 : w196.heap[w4.heap.size]? = some (.cells #[.float .f32 0, .float .f32 0, .float .f32 0, .float .f32 0, .float .f32 0, .float .f32 0, .float .f32 0, .float .f32 0, .float .f32 0, .float .f32 0] 32 (0, 0)) := E196.heap B192
                      have B202 : w196.heap[w46.heap.size]? = some (.cells #[.float .f32 q46_0r0, .float .f32 q46_0r1, .float .f32 q46_0r2] 29 (0, 0)) := E196.heap B193
                      have B203 : w196.heap[z60_10_6b]? = some (.cells #[.float .f32 z60_m0_5_0r0, .float .f32 z60_m0_5_0r1, .float .f32 z60_m0_5_0r2] 29 (0, 0)) := E196.heap B194
                      have B204 : w196.heap[w88.heap.size]? = some (.cells #[.float .f32 q88_0r0, .float .f32 q88_0r1, .float .f32 q88_0r2] 29 (0, 0)) := E196.heap B190
                      refine da_on rfl (Eq.trans (show sl _ _ _ = .bool (!m191) from rfl) (congrArg Value.bool (congrArg not hc198))) (d_cl (vs := [.agg #[.float .f32 p0r0, .float .f32 p0r1, .float .f32 p0r2, .float .f32 z106_m0_14_0r0, .float .f32 z106_m0_14_0r1, .float .f32 z106_m0_14_0r2, .float .f32 z106_m0_14_0r3, .float .f32 z141_m0_8_0r0, .float .f32 z141_m0_8_0r1, .float .f32 z141_m0_8_0r2]]) en52 (ac rfl rfl) rfl ?_)
                      refine (c52 (⟨(⟨p0.moments.x, p0.moments.y, p0.moments.z⟩ : SVector), m113.1, m148⟩ : STop) p0r0 p0r1 p0r2 z106_m0_14_0r0 z106_m0_14_0r1 z106_m0_14_0r2 z106_m0_14_0r3 z141_m0_8_0r0 z141_m0_8_0r1 z141_m0_8_0r2 m200 w196 hm200 p0h0 p0h1 p0h2 z106_m0_14_0h0 z106_m0_14_0h1 z106_m0_14_0h2 z106_m0_14_0h3 z141_m0_8_0h0 z141_m0_8_0h1 z141_m0_8_0h2).mono ?_
                      rintro _ w205 ⟨rfl, E205⟩
                      refine ⟨_, rfl, ?_⟩
                      have X206 : Ext w w205 := X197.trans E205
                      refine da_on rfl (Eq.trans (show sl _ _ _ = .bool (!m191) from rfl) (congrArg Value.bool (congrArg not hc198))) (d_not rfl ?_)
                      refine da_op rfl (d_pick (b := false) (Eq.trans (show ev _ _ = .bool (!m191) from rfl) (congrArg Value.bool (congrArg not hc198))) ?_)
                      refine da_nil ?_
                      obtain rfl := Option.some.inj hr
                      exact ⟨rfl, (Ext.trans (Ext.trans (Ext.trans (Ext.trans (Ext.refl w141) E178) E187) E196) E205)⟩
                    · skip
                      replace hr := bif_f hr hc198
                      refine da_off rfl (Eq.trans (show sl _ _ _ = .bool (!m191) from rfl) (congrArg Value.bool (congrArg not hc198))) (by decide) ?_
                      refine da_off rfl (Eq.trans (show sl _ _ _ = .bool (!m191) from rfl) (congrArg Value.bool (congrArg not hc198))) (by decide) ?_
                      refine da_off rfl (Eq.trans (show sl _ _ _ = .bool (!m191) from rfl) (congrArg Value.bool (congrArg not hc198))) (by decide) ?_
                      refine da_op rfl (d_pick (b := true) (Eq.trans (show ev _ _ = .bool (!m191) from rfl) (congrArg Value.bool (congrArg not hc198))) ?_)
                      refine da_nil ?_
                      obtain rfl := Option.some.inj hr
                      exact ⟨rfl, (Ext.trans (Ext.trans (Ext.trans (Ext.refl w141) E178) E187) E196)⟩
                  · skip
                    replace hr := bif_f hr hc189
                    refine da_off rfl (Eq.trans (show sl _ _ _ = .bool (!m182) from rfl) (congrArg Value.bool (congrArg not hc189))) (by decide) ?_
                    refine da_off rfl (Eq.trans (show sl _ _ _ = .bool (!m182) from rfl) (congrArg Value.bool (congrArg not hc189))) (by decide) ?_
                    refine da_off rfl (Eq.trans (show sl _ _ _ = .bool (!m182) from rfl) (congrArg Value.bool (congrArg not hc189))) (by decide) ?_
                    refine da_op rfl (d_pick (b := true) (Eq.trans (show ev _ _ = .bool (!m182) from rfl) (congrArg Value.bool (congrArg not hc189))) ?_)
                    refine da_op rfl (d_mv (v := .bool true) rfl ?_)
                    refine da_off rfl rfl (by decide) ?_
                    refine da_off rfl rfl (by decide) ?_
                    refine da_off rfl rfl (by decide) ?_
                    refine da_op rfl (d_pick (b := true) rfl ?_)
                    refine da_nil ?_
                    obtain rfl := Option.some.inj hr
                    exact ⟨rfl, (Ext.trans (Ext.trans (Ext.refl w141) E178) E187)⟩
                · skip
                  replace hr := bif_f hr hc180
                  refine da_off rfl (Eq.trans (show sl _ _ _ = .bool (!m177) from rfl) (congrArg Value.bool (congrArg not hc180))) (by decide) ?_
                  refine da_off rfl (Eq.trans (show sl _ _ _ = .bool (!m177) from rfl) (congrArg Value.bool (congrArg not hc180))) (by decide) ?_
                  refine da_off rfl (Eq.trans (show sl _ _ _ = .bool (!m177) from rfl) (congrArg Value.bool (congrArg not hc180))) (by decide) ?_
                  refine da_op rfl (d_pick (b := true) (Eq.trans (show ev _ _ = .bool (!m177) from rfl) (congrArg Value.bool (congrArg not hc180))) ?_)
                  refine da_op rfl (d_mv (v := .bool true) rfl ?_)
                  refine da_off rfl rfl (by decide) ?_
                  refine da_off rfl rfl (by decide) ?_
                  refine da_off rfl rfl (by decide) ?_
                  refine da_op rfl (d_pick (b := true) rfl ?_)
                  refine da_op rfl (d_mv (v := .bool true) rfl ?_)
                  refine da_off rfl rfl (by decide) ?_
                  refine da_off rfl rfl (by decide) ?_
                  refine da_off rfl rfl (by decide) ?_
                  refine da_op rfl (d_pick (b := true) rfl ?_)
                  refine da_nil ?_
                  obtain rfl := Option.some.inj hr
                  exact ⟨rfl, (Ext.trans (Ext.refl w141) E178)⟩
              · skip
                replace hr := bif_f hr hc176
                refine da_off rfl (Eq.trans (show sl _ _ _ = .bool (!m113.2) from rfl) (congrArg Value.bool (congrArg not hc176))) (by decide) ?_
                refine da_off rfl (Eq.trans (show sl _ _ _ = .bool (!m113.2) from rfl) (congrArg Value.bool (congrArg not hc176))) (by decide) ?_
                refine da_off rfl (Eq.trans (show sl _ _ _ = .bool (!m113.2) from rfl) (congrArg Value.bool (congrArg not hc176))) (by decide) ?_
                refine da_op rfl (d_pick (b := true) (Eq.trans (show ev _ _ = .bool (!m113.2) from rfl) (congrArg Value.bool (congrArg not hc176))) ?_)
                refine da_op rfl (d_mv (v := .bool true) rfl ?_)
                refine da_off rfl rfl (by decide) ?_
                refine da_off rfl rfl (by decide) ?_
                refine da_off rfl rfl (by decide) ?_
                refine da_op rfl (d_pick (b := true) rfl ?_)
                refine da_op rfl (d_mv (v := .bool true) rfl ?_)
                refine da_off rfl rfl (by decide) ?_
                refine da_off rfl rfl (by decide) ?_
                refine da_off rfl rfl (by decide) ?_
                refine da_op rfl (d_pick (b := true) rfl ?_)
                refine da_op rfl (d_mv (v := .bool true) rfl ?_)
                refine da_off rfl rfl (by decide) ?_
                refine da_off rfl rfl (by decide) ?_
                refine da_off rfl rfl (by decide) ?_
                refine da_op rfl (d_pick (b := true) rfl ?_)
                refine da_nil ?_
                obtain rfl := Option.some.inj hr
                exact ⟨rfl, (Ext.refl w141)⟩
            · skip
              rintro σ171 w171 o171 ⟨s93_171, E171⟩
              have s6_171 : σ171 6 = .pointer (some ⟨w4.heap.size, 0, none⟩) := (o171 6 rfl).trans s6_141
              have s14_171 : σ171 14 = .pointer (some ⟨z141_14_10b, 0, none⟩) := (o171 14 rfl).trans s14_141
              have X207 : Ext w w171 := X170.trans E171
              refine W_cond (b := m171) s93_171 (fun hc208 => ?_) (fun hc208 => ?_)
              · skip
                replace hr := bif_t hr hc208
                refine W_seq ?_
                refine W_region rfl ?_
                refine da_op rfl (d_bd (vs := []) (cs := #[.float .f32 0, .float .f32 0, .float .f32 0, .float .f32 0, .float .f32 0, .float .f32 0, .float .f32 0, .float .f32 0, .float .f32 0, .float .f32 0]) rfl (by kernel_rfl) ?_)
                have B209 : w171.heap[w4.heap.size]? = some (.cells #[.float .f32 0, .float .f32 0, .float .f32 0, .float .f32 0, .float .f32 0, .float .f32 0, .float .f32 0, .float .f32 0, .float .f32 0, .float .f32 0] 32 (0, 0)) := E171.heap B172
                refine da_op rfl (d_store (vs := #[.float .f32 0, .float .f32 0, .float .f32 0, .float .f32 0, .float .f32 0, .float .f32 0, .float .f32 0, .float .f32 0, .float .f32 0, .float .f32 0]) s6_171 rfl B209 size32 (Nat.le_of_ble_eq_true rfl) rfl fun w210 S210 => ?_)
                have X211 : Ext w w210 := Ext.step X207 S210.frmb (fun k _ hk => hk ▸ own10)
                have B212 : w210.heap[w4.heap.size]? = some (.cells #[.float .f32 0, .float .f32 0, .float .f32 0, .float .f32 0, .float .f32 0, .float .f32 0, .float .f32 0, .float .f32 0, .float .f32 0, .float .f32 0] 32 (0, 0)) := S210.here
                refine da_op rfl (d_as (v := .bool false) rfl ?_)
                refine da_nil ?_
                refine W_ret ?_
                obtain rfl := Option.some.inj hr
                refine ⟨_, res2 (rv_cells (vs := #[.float .f32 0, .float .f32 0, .float .f32 0, .float .f32 0, .float .f32 0, .float .f32 0, .float .f32 0, .float .f32 0, .float .f32 0, .float .f32 0]) s6_171 agg32 size32 B212 rfl) (rv_tmp rfl), ?_⟩
                exact ⟨0, 0, 0, 0, 0, 0, 0, 0, 0, 0, rfl, cn_f32_0, cn_f32_0, cn_f32_0, cn_f32_0, cn_f32_0, cn_f32_0, cn_f32_0, cn_f32_0, cn_f32_0, cn_f32_0, X211⟩
              · skip
                replace hr := bif_f hr hc208
                refine W_skip ?_
                refine W_seq ?_
                refine W_region rfl ?_
                have B213 : w171.heap[z141_14_10b]? = some (.cells #[.float .f32 p0r0, .float .f32 p0r1, .float .f32 p0r2, .float .f32 z106_m0_14_0r0, .float .f32 z106_m0_14_0r1, .float .f32 z106_m0_14_0r2, .float .f32 z106_m0_14_0r3, .float .f32 z141_m0_8_0r0, .float .f32 z141_m0_8_0r1, .float .f32 z141_m0_8_0r2] 32 (0, 0)) := E171.heap hBn141
                refine da_op rfl (d_loads (vs := #[.float .f32 p0r0, .float .f32 p0r1, .float .f32 p0r2, .float .f32 z106_m0_14_0r0, .float .f32 z106_m0_14_0r1, .float .f32 z106_m0_14_0r2, .float .f32 z106_m0_14_0r3, .float .f32 z141_m0_8_0r0, .float .f32 z141_m0_8_0r1, .float .f32 z141_m0_8_0r2]) s14_171 agg32 size32 B213 rfl ?_)
                have B214 : w171.heap[w4.heap.size]? = some (.cells #[.float .f32 0, .float .f32 0, .float .f32 0, .float .f32 0, .float .f32 0, .float .f32 0, .float .f32 0, .float .f32 0, .float .f32 0, .float .f32 0] 32 (0, 0)) := E171.heap B172
                refine da_op rfl (d_store (vs := #[.float .f32 p0r0, .float .f32 p0r1, .float .f32 p0r2, .float .f32 z106_m0_14_0r0, .float .f32 z106_m0_14_0r1, .float .f32 z106_m0_14_0r2, .float .f32 z106_m0_14_0r3, .float .f32 z141_m0_8_0r0, .float .f32 z141_m0_8_0r1, .float .f32 z141_m0_8_0r2]) s6_171 rfl B214 size32 (Nat.le_of_ble_eq_true rfl) rfl fun w215 S215 => ?_)
                have X216 : Ext w w215 := Ext.step X207 S215.frmb (fun k _ hk => hk ▸ own10)
                have B217 : w215.heap[w4.heap.size]? = some (.cells #[.float .f32 p0r0, .float .f32 p0r1, .float .f32 p0r2, .float .f32 z106_m0_14_0r0, .float .f32 z106_m0_14_0r1, .float .f32 z106_m0_14_0r2, .float .f32 z106_m0_14_0r3, .float .f32 z141_m0_8_0r0, .float .f32 z141_m0_8_0r1, .float .f32 z141_m0_8_0r2] 32 (0, 0)) := S215.here
                refine da_op rfl (d_as (v := .bool true) rfl ?_)
                refine da_nil ?_
                refine W_ret ?_
                obtain rfl := Option.some.inj hr
                refine ⟨_, res2 (rv_cells (vs := #[.float .f32 p0r0, .float .f32 p0r1, .float .f32 p0r2, .float .f32 z106_m0_14_0r0, .float .f32 z106_m0_14_0r1, .float .f32 z106_m0_14_0r2, .float .f32 z106_m0_14_0r3, .float .f32 z141_m0_8_0r0, .float .f32 z141_m0_8_0r1, .float .f32 z141_m0_8_0r2]) s6_171 agg32 size32 B217 rfl) (rv_tmp rfl), ?_⟩
                exact ⟨p0r0, p0r1, p0r2, z106_m0_14_0r0, z106_m0_14_0r1, z106_m0_14_0r2, z106_m0_14_0r3, z141_m0_8_0r0, z141_m0_8_0r1, z141_m0_8_0r2, rfl, p0h0, p0h1, p0h2, z106_m0_14_0h0, z106_m0_14_0h1, z106_m0_14_0h2, z106_m0_14_0h3, z141_m0_8_0h0, z141_m0_8_0h1, z141_m0_8_0h2, X216⟩
set_option maxHeartbeats 4000000 in
theorem c101 (p0 : SSpin) (p0b p0o : Nat) (p0c : Array Value) (p0T : TypeId) (p0f : Nat × Nat) (p0r0 : Nat) (p0r1 : Nat) (p0r2 : Nat) (p0r3 : Nat) (r : SVector) (w : World) (hr : M.impl_Spin_vector p0 = r) (p0h0 : cn .f32 p0r0 = p0.w) (p0h1 : cn .f32 p0r1 = p0.x) (p0h2 : cn .f32 p0r2 = p0.y) (p0h3 : cn .f32 p0r3 = p0.z) (p0B : w.heap[p0b]? = some (.cells p0c p0T p0f)) (p0P : (p0c.toList.drop p0o).take 4 = [.float .f32 p0r0, .float .f32 p0r1, .float .f32 p0r2, .float .f32 p0r3]) :
    Calls Try.prog 101 #[.pointer (some ⟨p0b, p0o, none⟩)] w fun e w' => ∃ q0r0 : Nat, ∃ q0r1 : Nat, ∃ q0r2 : Nat, e = .returned (.agg #[.float .f32 q0r0, .float .f32 q0r1, .float .f32 q0r2]) ∧ cn .f32 q0r0 = r.x ∧ cn .f32 q0r1 = r.y ∧ cn .f32 q0r2 = r.z ∧ Ext w w' := by
  refine calls_of_W Try.func101 rfl (Nat.le_of_ble_eq_true rfl) ?_
  refine W_seq ?_
  refine W_region rfl ?_
  refine da_op rfl (d_alloc (cs := #[.float .f32 0, .float .f32 0, .float .f32 0]) zero29 rfl fun w1 B1 E1 => ?_)
  have own2 : w.heap.size ≤ w.heap.size := Nat.le_trans (Ext.refl w).size (Nat.le_refl _)
  have X3 : Ext w w1 := (Ext.refl w).trans E1
  refine da_nil ?_
  refine W_seq ?_
  have B5 : w1.heap[p0b]? = some (.cells p0c p0T p0f) := X3.heap p0B
  refine W_any [fun k _ => k = w.heap.size] [{ V := fun _ v _ => v = (.pointer (some ⟨p0b, p0o, none⟩)) }, { V := fun _ v _ => v = (.pointer (some ⟨p0b, p0o, none⟩)) }, { V := fun _ v _ => v = (.pointer (some ⟨p0b, p0o + 1, none⟩)) }, { V := fun _ v _ => v = (.float .f32 p0r1) }, { V := fun _ v _ => v = (.pointer (some ⟨p0b, p0o, none⟩)) }, { V := fun _ v _ => v = (.pointer (some ⟨p0b, p0o, none⟩)) }, { V := fun _ v _ => v = (.pointer (some ⟨p0b, p0o + 2, none⟩)) }, { V := fun _ v _ => v = (.float .f32 p0r2) }, { V := fun _ v _ => v = (.pointer (some ⟨p0b, p0o, none⟩)) }, { V := fun _ v _ => v = (.pointer (some ⟨p0b, p0o, none⟩)) }, { V := fun _ v _ => v = (.pointer (some ⟨p0b, p0o + 3, none⟩)) }, { V := fun _ v _ => v = (.float .f32 p0r3) }, { V := fun _ v _ => v = (.agg #[.float .f32 p0r1, .float .f32 p0r2, .float .f32 p0r3]) }, ⟨fun _ _ w' => w'.heap[w.heap.size]? = some (.cells #[.float .f32 p0r1, .float .f32 p0r2, .float .f32 p0r3] 29 (0, 0)), some 0, fun w' => w'.heap[w.heap.size]? = some (.cells #[.float .f32 0, .float .f32 0, .float .f32 0] 29 (0, 0))⟩] mixed (by kernel_rfl) ⟨trivial, trivial, trivial, trivial, trivial, trivial, trivial, trivial, trivial, trivial, trivial, trivial, trivial, B1, trivial⟩ ⟨?_, ?_, ?_, ?_, ?_, ?_, ?_, ?_, ?_, ?_, ?_, ?_, ?_, ?_, trivial⟩ ?_
  · skip
    refine ⟨fun _ _ _ _ _ _ h _ => h, fun _ _ h _ => h, fun σ' w' hA hE hD hP => ?_⟩
    have t0 : σ' 0 = .pointer (some ⟨p0b, p0o, none⟩) := (hA 0 rfl).trans rfl
    have B0_6 : w'.heap[p0b]? = some (.cells p0c p0T p0f) := hE.heap (not_oth1 (old_bb p0B own2)) B5
    refine dg_op rfl (d_mv (v := .pointer (some ⟨p0b, p0o, none⟩)) t0 ?_)
    exact ⟨rfl, own_none (Ext.refl w')⟩
  · skip
    refine ⟨fun _ _ _ _ _ _ h _ => h, fun _ _ h _ => h, fun σ' w' hA hE hD hP => ?_⟩
    have t3 : σ' 3 = (.pointer (some ⟨p0b, p0o, none⟩)) := hD 0 rfl
    have B0_7 : w'.heap[p0b]? = some (.cells p0c p0T p0f) := hE.heap (not_oth1 (old_bb p0B own2)) B5
    refine dg_op rfl (d_nil t3 ?_)
    exact ⟨rfl, own_none (Ext.refl w')⟩
  · skip
    refine ⟨fun _ _ _ _ _ _ h _ => h, fun _ _ h _ => h, fun σ' w' hA hE hD hP => ?_⟩
    have t4 : σ' 4 = (.pointer (some ⟨p0b, p0o, none⟩)) := hD 1 rfl
    have B0_8 : w'.heap[p0b]? = some (.cells p0c p0T p0f) := hE.heap (not_oth1 (old_bb p0B own2)) B5
    refine dg_op rfl (d_fieldAddr t4 (fa30_1 _ _) ?_)
    exact ⟨rfl, own_none (Ext.refl w')⟩
  · skip
    refine ⟨fun _ _ _ _ _ _ h _ => h, fun _ _ h _ => h, fun σ' w' hA hE hD hP => ?_⟩
    have t5 : σ' 5 = (.pointer (some ⟨p0b, p0o + 1, none⟩)) := hD 2 rfl
    have B0_9 : w'.heap[p0b]? = some (.cells p0c p0T p0f) := hE.heap (not_oth1 (old_bb p0B own2)) B5
    refine dg_op rfl (d_load (v := .float .f32 p0r1) t5 agg22 B0_9 (sub_get (vs := #[.float .f32 p0r0, .float .f32 p0r1, .float .f32 p0r2, .float .f32 p0r3]) p0P (i := 1) rfl) ?_)
    exact ⟨rfl, own_none (Ext.refl w')⟩
  · skip
    refine ⟨fun _ _ _ _ _ _ h _ => h, fun _ _ h _ => h, fun σ' w' hA hE hD hP => ?_⟩
    have t0 : σ' 0 = .pointer (some ⟨p0b, p0o, none⟩) := (hA 0 rfl).trans rfl
    have B0_10 : w'.heap[p0b]? = some (.cells p0c p0T p0f) := hE.heap (not_oth1 (old_bb p0B own2)) B5
    refine dg_op rfl (d_mv (v := .pointer (some ⟨p0b, p0o, none⟩)) t0 ?_)
    exact ⟨rfl, own_none (Ext.refl w')⟩
  · skip
    refine ⟨fun _ _ _ _ _ _ h _ => h, fun _ _ h _ => h, fun σ' w' hA hE hD hP => ?_⟩
    have t7 : σ' 7 = (.pointer (some ⟨p0b, p0o, none⟩)) := hD 4 rfl
    have B0_11 : w'.heap[p0b]? = some (.cells p0c p0T p0f) := hE.heap (not_oth1 (old_bb p0B own2)) B5
    refine dg_op rfl (d_nil t7 ?_)
    exact ⟨rfl, own_none (Ext.refl w')⟩
  · skip
    refine ⟨fun _ _ _ _ _ _ h _ => h, fun _ _ h _ => h, fun σ' w' hA hE hD hP => ?_⟩
    have t8 : σ' 8 = (.pointer (some ⟨p0b, p0o, none⟩)) := hD 5 rfl
    have B0_12 : w'.heap[p0b]? = some (.cells p0c p0T p0f) := hE.heap (not_oth1 (old_bb p0B own2)) B5
    refine dg_op rfl (d_fieldAddr t8 (fa30_2 _ _) ?_)
    exact ⟨rfl, own_none (Ext.refl w')⟩
  · skip
    refine ⟨fun _ _ _ _ _ _ h _ => h, fun _ _ h _ => h, fun σ' w' hA hE hD hP => ?_⟩
    have t9 : σ' 9 = (.pointer (some ⟨p0b, p0o + 2, none⟩)) := hD 6 rfl
    have B0_13 : w'.heap[p0b]? = some (.cells p0c p0T p0f) := hE.heap (not_oth1 (old_bb p0B own2)) B5
    refine dg_op rfl (d_load (v := .float .f32 p0r2) t9 agg22 B0_13 (sub_get (vs := #[.float .f32 p0r0, .float .f32 p0r1, .float .f32 p0r2, .float .f32 p0r3]) p0P (i := 2) rfl) ?_)
    exact ⟨rfl, own_none (Ext.refl w')⟩
  · skip
    refine ⟨fun _ _ _ _ _ _ h _ => h, fun _ _ h _ => h, fun σ' w' hA hE hD hP => ?_⟩
    have t0 : σ' 0 = .pointer (some ⟨p0b, p0o, none⟩) := (hA 0 rfl).trans rfl
    have B0_14 : w'.heap[p0b]? = some (.cells p0c p0T p0f) := hE.heap (not_oth1 (old_bb p0B own2)) B5
    refine dg_op rfl (d_mv (v := .pointer (some ⟨p0b, p0o, none⟩)) t0 ?_)
    exact ⟨rfl, own_none (Ext.refl w')⟩
  · skip
    refine ⟨fun _ _ _ _ _ _ h _ => h, fun _ _ h _ => h, fun σ' w' hA hE hD hP => ?_⟩
    have t11 : σ' 11 = (.pointer (some ⟨p0b, p0o, none⟩)) := hD 8 rfl
    have B0_15 : w'.heap[p0b]? = some (.cells p0c p0T p0f) := hE.heap (not_oth1 (old_bb p0B own2)) B5
    refine dg_op rfl (d_nil t11 ?_)
    exact ⟨rfl, own_none (Ext.refl w')⟩
  · skip
    refine ⟨fun _ _ _ _ _ _ h _ => h, fun _ _ h _ => h, fun σ' w' hA hE hD hP => ?_⟩
    have t12 : σ' 12 = (.pointer (some ⟨p0b, p0o, none⟩)) := hD 9 rfl
    have B0_16 : w'.heap[p0b]? = some (.cells p0c p0T p0f) := hE.heap (not_oth1 (old_bb p0B own2)) B5
    refine dg_op rfl (d_fieldAddr t12 (fa30_3 _ _) ?_)
    exact ⟨rfl, own_none (Ext.refl w')⟩
  · skip
    refine ⟨fun _ _ _ _ _ _ h _ => h, fun _ _ h _ => h, fun σ' w' hA hE hD hP => ?_⟩
    have t13 : σ' 13 = (.pointer (some ⟨p0b, p0o + 3, none⟩)) := hD 10 rfl
    have B0_17 : w'.heap[p0b]? = some (.cells p0c p0T p0f) := hE.heap (not_oth1 (old_bb p0B own2)) B5
    refine dg_op rfl (d_load (v := .float .f32 p0r3) t13 agg22 B0_17 (sub_get (vs := #[.float .f32 p0r0, .float .f32 p0r1, .float .f32 p0r2, .float .f32 p0r3]) p0P (i := 3) rfl) ?_)
    exact ⟨rfl, own_none (Ext.refl w')⟩
  · skip
    refine ⟨fun _ _ _ _ _ _ h _ => h, fun _ _ h _ => h, fun σ' w' hA hE hD hP => ?_⟩
    have t6 : σ' 6 = (.float .f32 p0r1) := hD 3 rfl
    have t10 : σ' 10 = (.float .f32 p0r2) := hD 7 rfl
    have t14 : σ' 14 = (.float .f32 p0r3) := hD 11 rfl
    refine dg_op rfl (d_bd (vs := [(0, .float .f32 p0r1), (1, .float .f32 p0r2), (2, .float .f32 p0r3)]) (cs := #[.float .f32 p0r1, .float .f32 p0r2, .float .f32 p0r3]) (pc t6 (pc t10 (pc t14 rfl))) (by kernel_rfl) ?_)
    exact ⟨rfl, own_none (Ext.refl w')⟩
  · skip
    refine ⟨fun _ _ _ w' w'' _ hB hF => hF.heap not_oth1s hB, fun _ _ h hF => hF.heap not_oth1s h, fun σ' w' hA hE hD hP => ?_⟩
    have t2 : σ' 2 = .pointer (some ⟨w.heap.size, 0, none⟩) := (hA 2 rfl).trans rfl
    have t15 : σ' 15 = (.agg #[.float .f32 p0r1, .float .f32 p0r2, .float .f32 p0r3]) := hD 12 rfl
    have B0_18 : w'.heap[w.heap.size]? = some (.cells #[.float .f32 0, .float .f32 0, .float .f32 0] 29 (0, 0)) := (hP 13 _ _ rfl rfl (.inl rfl)).1
    refine dg_op rfl (d_store (vs := #[.float .f32 p0r1, .float .f32 p0r2, .float .f32 p0r3]) t2 (congrArg Value.cells t15) B0_18 size29 (Nat.le_of_ble_eq_true rfl) rfl fun w19 S19 => ?_)
    have B20 : w19.heap[w.heap.size]? = some (.cells #[.float .f32 p0r1, .float .f32 p0r2, .float .f32 p0r3] 29 (0, 0)) := S19.here
    exact ⟨B20, own_some (j := 0) rfl S19.frmb⟩
  · skip
    intro σ4 w4 A4 E4 V4
    have Bm0_4 : w4.heap[w.heap.size]? = some (.cells #[.float .f32 p0r1, .float .f32 p0r2, .float .f32 p0r3] 29 (0, 0)) := V4 13 (Nat.le_of_ble_eq_true rfl)
    have s2_4 : σ4 2 = .pointer (some ⟨w.heap.size, 0, none⟩) := (A4 2 rfl).trans rfl
    have X21 : Ext w w4 := Ext.step X3 E4 (oth_own1 (fun k _ hk => hk ▸ own2))
    refine W_ret ?_
    subst hr
    refine ⟨_, res1 (rv_cells (vs := #[.float .f32 p0r1, .float .f32 p0r2, .float .f32 p0r3]) s2_4 agg29 size29 Bm0_4 rfl), ?_⟩
    exact ⟨p0r1, p0r2, p0r3, rfl, p0h1, p0h2, p0h3, X21⟩
set_option maxHeartbeats 4000000 in
theorem c100 (p0 : Nat) (p1 : Nat) (p2 : Nat) (p3 : Nat) (p0r : Nat) (p1r : Nat) (p2r : Nat) (p3r : Nat) (r : Nat) (w : World) (hr : M.impl_crossed p0 p1 p2 p3 = r) (p0h : cn .f32 p0r = p0) (p1h : cn .f32 p1r = p1) (p2h : cn .f32 p2r = p2) (p3h : cn .f32 p3r = p3) :
    Calls Try.prog 100 #[.float .f32 p0r, .float .f32 p1r, .float .f32 p2r, .float .f32 p3r] w fun e w' => ∃ q0r : Nat, e = .returned (.float .f32 q0r) ∧ cn .f32 q0r = r ∧ Ext w w' := by
  refine calls_of_W Try.func100 rfl (Nat.le_of_ble_eq_true rfl) ?_
  refine W_seq ?_
  refine W_region rfl ?_
  refine da_op rfl (d_as (v := .float .f32 0) rfl ?_)
  refine da_nil ?_
  refine W_seq ?_
  refine W_region rfl ?_
  refine da_op rfl (d_mv (v := .float .f32 p0r) rfl ?_)
  refine da_op rfl (d_mv (v := .float .f32 p1r) rfl ?_)
  refine da_op rfl (d_fop (k := .f32) fMul rfl rfl p0h p1h fun r1 w1 h1 _ E1 => ?_)
  have X2 : Ext w w1 := (Ext.refl w).trans E1
  refine da_op rfl (d_mv (v := .float .f32 p2r) rfl ?_)
  refine da_op rfl (d_mv (v := .float .f32 p3r) rfl ?_)
  refine da_op rfl (d_fop (k := .f32) fMul rfl rfl p2h p3h fun r3 w3 h3 _ E3 => ?_)
  have X4 : Ext w w3 := X2.trans E3
  refine da_op rfl (d_fop (k := .f32) fSub rfl rfl h1 h3 fun r5 w5 h5 _ E5 => ?_)
  have X6 : Ext w w5 := X4.trans E5
  refine da_op rfl (d_as (v := .float .f32 r5) rfl ?_)
  refine da_nil ?_
  refine W_ret ?_
  subst hr
  refine ⟨_, res1 (rv_tmp rfl), ?_⟩
  exact ⟨r5, rfl, h5, X6⟩
set_option maxHeartbeats 4000000 in
theorem c63 (p0 : SVector) (p1 : SVector) (p0r0 : Nat) (p0r1 : Nat) (p0r2 : Nat) (p1r0 : Nat) (p1r1 : Nat) (p1r2 : Nat) (r : SVector) (w : World) (hr : M.impl_CrossOf p0 p1 = r) (p0h0 : cn .f32 p0r0 = p0.x) (p0h1 : cn .f32 p0r1 = p0.y) (p0h2 : cn .f32 p0r2 = p0.z) (p1h0 : cn .f32 p1r0 = p1.x) (p1h1 : cn .f32 p1r1 = p1.y) (p1h2 : cn .f32 p1r2 = p1.z) :
    Calls Try.prog 63 #[.agg #[.float .f32 p0r0, .float .f32 p0r1, .float .f32 p0r2], .agg #[.float .f32 p1r0, .float .f32 p1r1, .float .f32 p1r2]] w fun e w' => ∃ q0r0 : Nat, ∃ q0r1 : Nat, ∃ q0r2 : Nat, e = .returned (.agg #[.float .f32 q0r0, .float .f32 q0r1, .float .f32 q0r2]) ∧ cn .f32 q0r0 = r.x ∧ cn .f32 q0r1 = r.y ∧ cn .f32 q0r2 = r.z ∧ Ext w w' := by
  refine calls_of_W Try.func63 rfl (Nat.le_of_ble_eq_true rfl) ?_
  refine W_seq ?_
  refine W_region rfl ?_
  refine da_op rfl (d_box (cs := #[.float .f32 p0r0, .float .f32 p0r1, .float .f32 p0r2]) rfl fun w1 B1 E1 => ?_)
  have own2 : w.heap.size ≤ w.heap.size := Nat.le_trans (Ext.refl w).size (Nat.le_refl _)
  have X3 : Ext w w1 := (Ext.refl w).trans E1
  refine da_op rfl (d_box (cs := #[.float .f32 p1r0, .float .f32 p1r1, .float .f32 p1r2]) rfl fun w4 B4 E4 => ?_)
  have own5 : w.heap.size ≤ w1.heap.size := Nat.le_trans X3.size (Nat.le_refl _)
  have sp6 : w.heap.size ≠ w1.heap.size := Nat.ne_of_lt (Nat.lt_of_lt_of_le (lt_heap B1) (Nat.le_refl _))
  have X7 : Ext w w4 := X3.trans E4
  have B9 : w4.heap[w.heap.size]? = some (.cells #[.float .f32 p0r0, .float .f32 p0r1, .float .f32 p0r2] 29 (0, 0)) := E4.heap B1
  refine da_op rfl (d_alloc (cs := #[.float .f32 0, .float .f32 0, .float .f32 0]) zero29 rfl fun w8 B8 E8 => ?_)
  have own10 : w.heap.size ≤ w4.heap.size := Nat.le_trans X7.size (Nat.le_refl _)
  have sp11 : w.heap.size ≠ w4.heap.size := Nat.ne_of_lt (Nat.lt_of_lt_of_le (lt_heap B9) (Nat.le_refl _))
  have sp12 : w1.heap.size ≠ w4.heap.size := Nat.ne_of_lt (Nat.lt_of_lt_of_le (lt_heap B4) (Nat.le_refl _))
  have X13 : Ext w w8 := X7.trans E8
  refine da_nil ?_
  refine W_seq ?_
  have B15 : w8.heap[w.heap.size]? = some (.cells #[.float .f32 p0r0, .float .f32 p0r1, .float .f32 p0r2] 29 (0, 0)) := E8.heap B9
  have B16 : w8.heap[w1.heap.size]? = some (.cells #[.float .f32 p1r0, .float .f32 p1r1, .float .f32 p1r2] 29 (0, 0)) := E8.heap B4
  obtain ⟨m17, hm17, hr⟩ := letv_out hr
  obtain ⟨m18, hm18, hr⟩ := letv_out hr
  obtain ⟨m19, hm19, hr⟩ := letv_out hr
  refine W_any [fun k _ => k = w4.heap.size] [{ V := fun _ v _ => v = (.pointer (some ⟨w.heap.size, 1, none⟩)) }, { V := fun _ v _ => v = (.float .f32 p0r1) }, { V := fun _ v _ => v = (.pointer (some ⟨w1.heap.size, 2, none⟩)) }, { V := fun _ v _ => v = (.float .f32 p1r2) }, { V := fun _ v _ => v = (.pointer (some ⟨w.heap.size, 2, none⟩)) }, { V := fun _ v _ => v = (.float .f32 p0r2) }, { V := fun _ v _ => v = (.pointer (some ⟨w1.heap.size, 1, none⟩)) }, { V := fun _ v _ => v = (.float .f32 p1r1) }, { V := fun _ v _ => ∃ d14_8_0r : Nat, v = (.float .f32 d14_8_0r) ∧ cn .f32 d14_8_0r = m17 }, { V := fun _ v _ => v = (.pointer (some ⟨w.heap.size, 2, none⟩)) }, { V := fun _ v _ => v = (.float .f32 p0r2) }, { V := fun _ v _ => v = (.pointer (some ⟨w1.heap.size, 0, none⟩)) }, { V := fun _ v _ => v = (.float .f32 p1r0) }, { V := fun _ v _ => v = (.pointer (some ⟨w.heap.size, 0, none⟩)) }, { V := fun _ v _ => v = (.float .f32 p0r0) }, { V := fun _ v _ => v = (.pointer (some ⟨w1.heap.size, 2, none⟩)) }, { V := fun _ v _ => v = (.float .f32 p1r2) }, { V := fun _ v _ => ∃ d14_17_0r : Nat, v = (.float .f32 d14_17_0r) ∧ cn .f32 d14_17_0r = m18 }, { V := fun _ v _ => v = (.pointer (some ⟨w.heap.size, 0, none⟩)) }, { V := fun _ v _ => v = (.float .f32 p0r0) }, { V := fun _ v _ => v = (.pointer (some ⟨w1.heap.size, 1, none⟩)) }, { V := fun _ v _ => v = (.float .f32 p1r1) }, { V := fun _ v _ => v = (.pointer (some ⟨w.heap.size, 1, none⟩)) }, { V := fun _ v _ => v = (.float .f32 p0r1) }, { V := fun _ v _ => v = (.pointer (some ⟨w1.heap.size, 0, none⟩)) }, { V := fun _ v _ => v = (.float .f32 p1r0) }, { V := fun _ v _ => ∃ d14_26_0r : Nat, v = (.float .f32 d14_26_0r) ∧ cn .f32 d14_26_0r = m19 }, { V := fun _ v _ => ∃ d14_8_0r : Nat, ∃ d14_17_0r : Nat, ∃ d14_26_0r : Nat, v = (.agg #[.float .f32 d14_8_0r, .float .f32 d14_17_0r, .float .f32 d14_26_0r]) ∧ cn .f32 d14_8_0r = m17 ∧ cn .f32 d14_17_0r = m18 ∧ cn .f32 d14_26_0r = m19 }, ⟨fun _ _ w' => ∃ d14_8_0r : Nat, ∃ d14_17_0r : Nat, ∃ d14_26_0r : Nat, w'.heap[w4.heap.size]? = some (.cells #[.float .f32 d14_8_0r, .float .f32 d14_17_0r, .float .f32 d14_26_0r] 29 (0, 0)) ∧ cn .f32 d14_8_0r = m17 ∧ cn .f32 d14_17_0r = m18 ∧ cn .f32 d14_26_0r = m19, some 0, fun w' => w'.heap[w4.heap.size]? = some (.cells #[.float .f32 0, .float .f32 0, .float .f32 0] 29 (0, 0))⟩] mixed (by kernel_rfl) ⟨trivial, trivial, trivial, trivial, trivial, trivial, trivial, trivial, trivial, trivial, trivial, trivial, trivial, trivial, trivial, trivial, trivial, trivial, trivial, trivial, trivial, trivial, trivial, trivial, trivial, trivial, trivial, trivial, B8, trivial⟩ ⟨?_, ?_, ?_, ?_, ?_, ?_, ?_, ?_, ?_, ?_, ?_, ?_, ?_, ?_, ?_, ?_, ?_, ?_, ?_, ?_, ?_, ?_, ?_, ?_, ?_, ?_, ?_, ?_, ?_, trivial⟩ ?_
  · skip
    refine ⟨fun _ _ _ _ _ _ h _ => h, fun _ _ h _ => h, fun σ' w' hA hE hD hP => ?_⟩
    have t2 : σ' 2 = .pointer (some ⟨w.heap.size, 0, none⟩) := (hA 2 rfl).trans rfl
    have B0_20 : w'.heap[w.heap.size]? = some (.cells #[.float .f32 p0r0, .float .f32 p0r1, .float .f32 p0r2] 29 (0, 0)) := hE.heap (not_oth1 sp11) B15
    refine dg_op rfl (d_fieldAddr t2 (fa29_1 _ _) ?_)
    exact ⟨rfl, own_none (Ext.refl w')⟩
  · skip
    refine ⟨fun _ _ _ _ _ _ h _ => h, fun _ _ h _ => h, fun σ' w' hA hE hD hP => ?_⟩
    have t5 : σ' 5 = (.pointer (some ⟨w.heap.size, 1, none⟩)) := hD 0 rfl
    have B0_21 : w'.heap[w.heap.size]? = some (.cells #[.float .f32 p0r0, .float .f32 p0r1, .float .f32 p0r2] 29 (0, 0)) := hE.heap (not_oth1 sp11) B15
    refine dg_op rfl (d_load (v := .float .f32 p0r1) t5 agg22 B0_21 rfl ?_)
    exact ⟨rfl, own_none (Ext.refl w')⟩
  · skip
    refine ⟨fun _ _ _ _ _ _ h _ => h, fun _ _ h _ => h, fun σ' w' hA hE hD hP => ?_⟩
    have t3 : σ' 3 = .pointer (some ⟨w1.heap.size, 0, none⟩) := (hA 3 rfl).trans rfl
    have B0_22 : w'.heap[w1.heap.size]? = some (.cells #[.float .f32 p1r0, .float .f32 p1r1, .float .f32 p1r2] 29 (0, 0)) := hE.heap (not_oth1 sp12) B16
    refine dg_op rfl (d_fieldAddr t3 (fa29_2 _ _) ?_)
    exact ⟨rfl, own_none (Ext.refl w')⟩
  · skip
    refine ⟨fun _ _ _ _ _ _ h _ => h, fun _ _ h _ => h, fun σ' w' hA hE hD hP => ?_⟩
    have t7 : σ' 7 = (.pointer (some ⟨w1.heap.size, 2, none⟩)) := hD 2 rfl
    have B0_23 : w'.heap[w1.heap.size]? = some (.cells #[.float .f32 p1r0, .float .f32 p1r1, .float .f32 p1r2] 29 (0, 0)) := hE.heap (not_oth1 sp12) B16
    refine dg_op rfl (d_load (v := .float .f32 p1r2) t7 agg22 B0_23 rfl ?_)
    exact ⟨rfl, own_none (Ext.refl w')⟩
  · skip
    refine ⟨fun _ _ _ _ _ _ h _ => h, fun _ _ h _ => h, fun σ' w' hA hE hD hP => ?_⟩
    have t2 : σ' 2 = .pointer (some ⟨w.heap.size, 0, none⟩) := (hA 2 rfl).trans rfl
    have B0_24 : w'.heap[w.heap.size]? = some (.cells #[.float .f32 p0r0, .float .f32 p0r1, .float .f32 p0r2] 29 (0, 0)) := hE.heap (not_oth1 sp11) B15
    refine dg_op rfl (d_fieldAddr t2 (fa29_2 _ _) ?_)
    exact ⟨rfl, own_none (Ext.refl w')⟩
  · skip
    refine ⟨fun _ _ _ _ _ _ h _ => h, fun _ _ h _ => h, fun σ' w' hA hE hD hP => ?_⟩
    have t9 : σ' 9 = (.pointer (some ⟨w.heap.size, 2, none⟩)) := hD 4 rfl
    have B0_25 : w'.heap[w.heap.size]? = some (.cells #[.float .f32 p0r0, .float .f32 p0r1, .float .f32 p0r2] 29 (0, 0)) := hE.heap (not_oth1 sp11) B15
    refine dg_op rfl (d_load (v := .float .f32 p0r2) t9 agg22 B0_25 rfl ?_)
    exact ⟨rfl, own_none (Ext.refl w')⟩
  · skip
    refine ⟨fun _ _ _ _ _ _ h _ => h, fun _ _ h _ => h, fun σ' w' hA hE hD hP => ?_⟩
    have t3 : σ' 3 = .pointer (some ⟨w1.heap.size, 0, none⟩) := (hA 3 rfl).trans rfl
    have B0_26 : w'.heap[w1.heap.size]? = some (.cells #[.float .f32 p1r0, .float .f32 p1r1, .float .f32 p1r2] 29 (0, 0)) := hE.heap (not_oth1 sp12) B16
    refine dg_op rfl (d_fieldAddr t3 (fa29_1 _ _) ?_)
    exact ⟨rfl, own_none (Ext.refl w')⟩
  · skip
    refine ⟨fun _ _ _ _ _ _ h _ => h, fun _ _ h _ => h, fun σ' w' hA hE hD hP => ?_⟩
    have t11 : σ' 11 = (.pointer (some ⟨w1.heap.size, 1, none⟩)) := hD 6 rfl
    have B0_27 : w'.heap[w1.heap.size]? = some (.cells #[.float .f32 p1r0, .float .f32 p1r1, .float .f32 p1r2] 29 (0, 0)) := hE.heap (not_oth1 sp12) B16
    refine dg_op rfl (d_load (v := .float .f32 p1r1) t11 agg22 B0_27 rfl ?_)
    exact ⟨rfl, own_none (Ext.refl w')⟩
  · skip
    refine ⟨fun _ _ _ _ _ _ h _ => h, fun _ _ h _ => h, fun σ' w' hA hE hD hP => ?_⟩
    have t6 : σ' 6 = (.float .f32 p0r1) := hD 1 rfl
    have t8 : σ' 8 = (.float .f32 p1r2) := hD 3 rfl
    have t10 : σ' 10 = (.float .f32 p0r2) := hD 5 rfl
    have t12 : σ' 12 = (.float .f32 p1r1) := hD 7 rfl
    refine dg_op rfl (d_cl (vs := [.float .f32 p0r1, .float .f32 p1r2, .float .f32 p0r2, .float .f32 p1r1]) en100 (ac t6 (ac t8 (ac t10 (ac t12 rfl)))) rfl ?_)
    refine (c100 p0.y p1.z p0.z p1.y p0r1 p1r2 p0r2 p1r1 m17 w' hm17 p0h1 p1h2 p0h2 p1h1).mono ?_
    rintro _ w28 ⟨q28_0r, rfl, q28_0h, E28⟩
    refine ⟨_, rfl, ?_⟩
    have X29 : Ext w' w28 := (Ext.refl w').trans E28
    exact ⟨⟨q28_0r, rfl, q28_0h⟩, own_none X29⟩
  · skip
    refine ⟨fun _ _ _ _ _ _ h _ => h, fun _ _ h _ => h, fun σ' w' hA hE hD hP => ?_⟩
    have t2 : σ' 2 = .pointer (some ⟨w.heap.size, 0, none⟩) := (hA 2 rfl).trans rfl
    have B0_30 : w'.heap[w.heap.size]? = some (.cells #[.float .f32 p0r0, .float .f32 p0r1, .float .f32 p0r2] 29 (0, 0)) := hE.heap (not_oth1 sp11) B15
    refine dg_op rfl (d_fieldAddr t2 (fa29_2 _ _) ?_)
    exact ⟨rfl, own_none (Ext.refl w')⟩
  · skip
    refine ⟨fun _ _ _ _ _ _ h _ => h, fun _ _ h _ => h, fun σ' w' hA hE hD hP => ?_⟩
    have t14 : σ' 14 = (.pointer (some ⟨w.heap.size, 2, none⟩)) := hD 9 rfl
    have B0_31 : w'.heap[w.heap.size]? = some (.cells #[.float .f32 p0r0, .float .f32 p0r1, .float .f32 p0r2] 29 (0, 0)) := hE.heap (not_oth1 sp11) B15
    refine dg_op rfl (d_load (v := .float .f32 p0r2) t14 agg22 B0_31 rfl ?_)
    exact ⟨rfl, own_none (Ext.refl w')⟩
  · skip
    refine ⟨fun _ _ _ _ _ _ h _ => h, fun _ _ h _ => h, fun σ' w' hA hE hD hP => ?_⟩
    have t3 : σ' 3 = .pointer (some ⟨w1.heap.size, 0, none⟩) := (hA 3 rfl).trans rfl
    have B0_32 : w'.heap[w1.heap.size]? = some (.cells #[.float .f32 p1r0, .float .f32 p1r1, .float .f32 p1r2] 29 (0, 0)) := hE.heap (not_oth1 sp12) B16
    refine dg_op rfl (d_fieldAddr t3 (fa29_0 _ _) ?_)
    exact ⟨rfl, own_none (Ext.refl w')⟩
  · skip
    refine ⟨fun _ _ _ _ _ _ h _ => h, fun _ _ h _ => h, fun σ' w' hA hE hD hP => ?_⟩
    have t16 : σ' 16 = (.pointer (some ⟨w1.heap.size, 0, none⟩)) := hD 11 rfl
    have B0_33 : w'.heap[w1.heap.size]? = some (.cells #[.float .f32 p1r0, .float .f32 p1r1, .float .f32 p1r2] 29 (0, 0)) := hE.heap (not_oth1 sp12) B16
    refine dg_op rfl (d_load (v := .float .f32 p1r0) t16 agg22 B0_33 rfl ?_)
    exact ⟨rfl, own_none (Ext.refl w')⟩
  · skip
    refine ⟨fun _ _ _ _ _ _ h _ => h, fun _ _ h _ => h, fun σ' w' hA hE hD hP => ?_⟩
    have t2 : σ' 2 = .pointer (some ⟨w.heap.size, 0, none⟩) := (hA 2 rfl).trans rfl
    have B0_34 : w'.heap[w.heap.size]? = some (.cells #[.float .f32 p0r0, .float .f32 p0r1, .float .f32 p0r2] 29 (0, 0)) := hE.heap (not_oth1 sp11) B15
    refine dg_op rfl (d_fieldAddr t2 (fa29_0 _ _) ?_)
    exact ⟨rfl, own_none (Ext.refl w')⟩
  · skip
    refine ⟨fun _ _ _ _ _ _ h _ => h, fun _ _ h _ => h, fun σ' w' hA hE hD hP => ?_⟩
    have t18 : σ' 18 = (.pointer (some ⟨w.heap.size, 0, none⟩)) := hD 13 rfl
    have B0_35 : w'.heap[w.heap.size]? = some (.cells #[.float .f32 p0r0, .float .f32 p0r1, .float .f32 p0r2] 29 (0, 0)) := hE.heap (not_oth1 sp11) B15
    refine dg_op rfl (d_load (v := .float .f32 p0r0) t18 agg22 B0_35 rfl ?_)
    exact ⟨rfl, own_none (Ext.refl w')⟩
  · skip
    refine ⟨fun _ _ _ _ _ _ h _ => h, fun _ _ h _ => h, fun σ' w' hA hE hD hP => ?_⟩
    have t3 : σ' 3 = .pointer (some ⟨w1.heap.size, 0, none⟩) := (hA 3 rfl).trans rfl
    have B0_36 : w'.heap[w1.heap.size]? = some (.cells #[.float .f32 p1r0, .float .f32 p1r1, .float .f32 p1r2] 29 (0, 0)) := hE.heap (not_oth1 sp12) B16
    refine dg_op rfl (d_fieldAddr t3 (fa29_2 _ _) ?_)
    exact ⟨rfl, own_none (Ext.refl w')⟩
  · skip
    refine ⟨fun _ _ _ _ _ _ h _ => h, fun _ _ h _ => h, fun σ' w' hA hE hD hP => ?_⟩
    have t20 : σ' 20 = (.pointer (some ⟨w1.heap.size, 2, none⟩)) := hD 15 rfl
    have B0_37 : w'.heap[w1.heap.size]? = some (.cells #[.float .f32 p1r0, .float .f32 p1r1, .float .f32 p1r2] 29 (0, 0)) := hE.heap (not_oth1 sp12) B16
    refine dg_op rfl (d_load (v := .float .f32 p1r2) t20 agg22 B0_37 rfl ?_)
    exact ⟨rfl, own_none (Ext.refl w')⟩
  · skip
    refine ⟨fun _ _ _ _ _ _ h _ => h, fun _ _ h _ => h, fun σ' w' hA hE hD hP => ?_⟩
    have t15 : σ' 15 = (.float .f32 p0r2) := hD 10 rfl
    have t17 : σ' 17 = (.float .f32 p1r0) := hD 12 rfl
    have t19 : σ' 19 = (.float .f32 p0r0) := hD 14 rfl
    have t21 : σ' 21 = (.float .f32 p1r2) := hD 16 rfl
    refine dg_op rfl (d_cl (vs := [.float .f32 p0r2, .float .f32 p1r0, .float .f32 p0r0, .float .f32 p1r2]) en100 (ac t15 (ac t17 (ac t19 (ac t21 rfl)))) rfl ?_)
    refine (c100 p0.z p1.x p0.x p1.z p0r2 p1r0 p0r0 p1r2 m18 w' hm18 p0h2 p1h0 p0h0 p1h2).mono ?_
    rintro _ w38 ⟨q38_0r, rfl, q38_0h, E38⟩
    refine ⟨_, rfl, ?_⟩
    have X39 : Ext w' w38 := (Ext.refl w').trans E38
    exact ⟨⟨q38_0r, rfl, q38_0h⟩, own_none X39⟩
  · skip
    refine ⟨fun _ _ _ _ _ _ h _ => h, fun _ _ h _ => h, fun σ' w' hA hE hD hP => ?_⟩
    have t2 : σ' 2 = .pointer (some ⟨w.heap.size, 0, none⟩) := (hA 2 rfl).trans rfl
    have B0_40 : w'.heap[w.heap.size]? = some (.cells #[.float .f32 p0r0, .float .f32 p0r1, .float .f32 p0r2] 29 (0, 0)) := hE.heap (not_oth1 sp11) B15
    refine dg_op rfl (d_fieldAddr t2 (fa29_0 _ _) ?_)
    exact ⟨rfl, own_none (Ext.refl w')⟩
  · skip
    refine ⟨fun _ _ _ _ _ _ h _ => h, fun _ _ h _ => h, fun σ' w' hA hE hD hP => ?_⟩
    have t23 : σ' 23 = (.pointer (some ⟨w.heap.size, 0, none⟩)) := hD 18 rfl
    have B0_41 : w'.heap[w.heap.size]? = some (.cells #[.float .f32 p0r0, .float .f32 p0r1, .float .f32 p0r2] 29 (0, 0)) := hE.heap (not_oth1 sp11) B15
    refine dg_op rfl (d_load (v := .float .f32 p0r0) t23 agg22 B0_41 rfl ?_)
    exact ⟨rfl, own_none (Ext.refl w')⟩
  · skip
    refine ⟨fun _ _ _ _ _ _ h _ => h, fun _ _ h _ => h, fun σ' w' hA hE hD hP => ?_⟩
    have t3 : σ' 3 = .pointer (some ⟨w1.heap.size, 0, none⟩) := (hA 3 rfl).trans rfl
    have B0_42 : w'.heap[w1.heap.size]? = some (.cells #[.float .f32 p1r0, .float .f32 p1r1, .float .f32 p1r2] 29 (0, 0)) := hE.heap (not_oth1 sp12) B16
    refine dg_op rfl (d_fieldAddr t3 (fa29_1 _ _) ?_)
    exact ⟨rfl, own_none (Ext.refl w')⟩
  · skip
    refine ⟨fun _ _ _ _ _ _ h _ => h, fun _ _ h _ => h, fun σ' w' hA hE hD hP => ?_⟩
    have t25 : σ' 25 = (.pointer (some ⟨w1.heap.size, 1, none⟩)) := hD 20 rfl
    have B0_43 : w'.heap[w1.heap.size]? = some (.cells #[.float .f32 p1r0, .float .f32 p1r1, .float .f32 p1r2] 29 (0, 0)) := hE.heap (not_oth1 sp12) B16
    refine dg_op rfl (d_load (v := .float .f32 p1r1) t25 agg22 B0_43 rfl ?_)
    exact ⟨rfl, own_none (Ext.refl w')⟩
  · skip
    refine ⟨fun _ _ _ _ _ _ h _ => h, fun _ _ h _ => h, fun σ' w' hA hE hD hP => ?_⟩
    have t2 : σ' 2 = .pointer (some ⟨w.heap.size, 0, none⟩) := (hA 2 rfl).trans rfl
    have B0_44 : w'.heap[w.heap.size]? = some (.cells #[.float .f32 p0r0, .float .f32 p0r1, .float .f32 p0r2] 29 (0, 0)) := hE.heap (not_oth1 sp11) B15
    refine dg_op rfl (d_fieldAddr t2 (fa29_1 _ _) ?_)
    exact ⟨rfl, own_none (Ext.refl w')⟩
  · skip
    refine ⟨fun _ _ _ _ _ _ h _ => h, fun _ _ h _ => h, fun σ' w' hA hE hD hP => ?_⟩
    have t27 : σ' 27 = (.pointer (some ⟨w.heap.size, 1, none⟩)) := hD 22 rfl
    have B0_45 : w'.heap[w.heap.size]? = some (.cells #[.float .f32 p0r0, .float .f32 p0r1, .float .f32 p0r2] 29 (0, 0)) := hE.heap (not_oth1 sp11) B15
    refine dg_op rfl (d_load (v := .float .f32 p0r1) t27 agg22 B0_45 rfl ?_)
    exact ⟨rfl, own_none (Ext.refl w')⟩
  · skip
    refine ⟨fun _ _ _ _ _ _ h _ => h, fun _ _ h _ => h, fun σ' w' hA hE hD hP => ?_⟩
    have t3 : σ' 3 = .pointer (some ⟨w1.heap.size, 0, none⟩) := (hA 3 rfl).trans rfl
    have B0_46 : w'.heap[w1.heap.size]? = some (.cells #[.float .f32 p1r0, .float .f32 p1r1, .float .f32 p1r2] 29 (0, 0)) := hE.heap (not_oth1 sp12) B16
    refine dg_op rfl (d_fieldAddr t3 (fa29_0 _ _) ?_)
    exact ⟨rfl, own_none (Ext.refl w')⟩
  · skip
    refine ⟨fun _ _ _ _ _ _ h _ => h, fun _ _ h _ => h, fun σ' w' hA hE hD hP => ?_⟩
    have t29 : σ' 29 = (.pointer (some ⟨w1.heap.size, 0, none⟩)) := hD 24 rfl
    have B0_47 : w'.heap[w1.heap.size]? = some (.cells #[.float .f32 p1r0, .float .f32 p1r1, .float .f32 p1r2] 29 (0, 0)) := hE.heap (not_oth1 sp12) B16
    refine dg_op rfl (d_load (v := .float .f32 p1r0) t29 agg22 B0_47 rfl ?_)
    exact ⟨rfl, own_none (Ext.refl w')⟩
  · skip
    refine ⟨fun _ _ _ _ _ _ h _ => h, fun _ _ h _ => h, fun σ' w' hA hE hD hP => ?_⟩
    have t24 : σ' 24 = (.float .f32 p0r0) := hD 19 rfl
    have t26 : σ' 26 = (.float .f32 p1r1) := hD 21 rfl
    have t28 : σ' 28 = (.float .f32 p0r1) := hD 23 rfl
    have t30 : σ' 30 = (.float .f32 p1r0) := hD 25 rfl
    refine dg_op rfl (d_cl (vs := [.float .f32 p0r0, .float .f32 p1r1, .float .f32 p0r1, .float .f32 p1r0]) en100 (ac t24 (ac t26 (ac t28 (ac t30 rfl)))) rfl ?_)
    refine (c100 p0.x p1.y p0.y p1.x p0r0 p1r1 p0r1 p1r0 m19 w' hm19 p0h0 p1h1 p0h1 p1h0).mono ?_
    rintro _ w48 ⟨q48_0r, rfl, q48_0h, E48⟩
    refine ⟨_, rfl, ?_⟩
    have X49 : Ext w' w48 := (Ext.refl w').trans E48
    exact ⟨⟨q48_0r, rfl, q48_0h⟩, own_none X49⟩
  · skip
    refine ⟨fun _ _ _ _ _ _ h _ => h, fun _ _ h _ => h, fun σ' w' hA hE hD hP => ?_⟩
    obtain ⟨d14_8_0r, t13, d14_8_0h⟩ : ∃ d14_8_0r : Nat, σ' 13 = (.float .f32 d14_8_0r) ∧ cn .f32 d14_8_0r = m17 := hD 8 rfl
    obtain ⟨d14_17_0r, t22, d14_17_0h⟩ : ∃ d14_17_0r : Nat, σ' 22 = (.float .f32 d14_17_0r) ∧ cn .f32 d14_17_0r = m18 := hD 17 rfl
    obtain ⟨d14_26_0r, t31, d14_26_0h⟩ : ∃ d14_26_0r : Nat, σ' 31 = (.float .f32 d14_26_0r) ∧ cn .f32 d14_26_0r = m19 := hD 26 rfl
    refine dg_op rfl (d_bd (vs := [(0, .float .f32 d14_8_0r), (1, .float .f32 d14_17_0r), (2, .float .f32 d14_26_0r)]) (cs := #[.float .f32 d14_8_0r, .float .f32 d14_17_0r, .float .f32 d14_26_0r]) (pc t13 (pc t22 (pc t31 rfl))) (by kernel_rfl) ?_)
    exact ⟨⟨d14_8_0r, d14_17_0r, d14_26_0r, rfl, d14_8_0h, d14_17_0h, d14_26_0h⟩, own_none (Ext.refl w')⟩
  · skip
    refine ⟨fun _ _ _ w' w'' _ ⟨d14_8_0r, d14_17_0r, d14_26_0r, hB, d14_8_0h, d14_17_0h, d14_26_0h⟩ hF => ⟨d14_8_0r, d14_17_0r, d14_26_0r, hF.heap not_oth1s hB, d14_8_0h, d14_17_0h, d14_26_0h⟩, fun _ _ h hF => hF.heap not_oth1s h, fun σ' w' hA hE hD hP => ?_⟩
    have t4 : σ' 4 = .pointer (some ⟨w4.heap.size, 0, none⟩) := (hA 4 rfl).trans rfl
    obtain ⟨d14_8_0r, d14_17_0r, d14_26_0r, t32, d14_8_0h, d14_17_0h, d14_26_0h⟩ : ∃ d14_8_0r : Nat, ∃ d14_17_0r : Nat, ∃ d14_26_0r : Nat, σ' 32 = (.agg #[.float .f32 d14_8_0r, .float .f32 d14_17_0r, .float .f32 d14_26_0r]) ∧ cn .f32 d14_8_0r = m17 ∧ cn .f32 d14_17_0r = m18 ∧ cn .f32 d14_26_0r = m19 := hD 27 rfl
    have B0_50 : w'.heap[w4.heap.size]? = some (.cells #[.float .f32 0, .float .f32 0, .float .f32 0] 29 (0, 0)) := (hP 28 _ _ rfl rfl (.inl rfl)).1
    refine dg_op rfl (d_store (vs := #[.float .f32 d14_8_0r, .float .f32 d14_17_0r, .float .f32 d14_26_0r]) t4 (congrArg Value.cells t32) B0_50 size29 (Nat.le_of_ble_eq_true rfl) rfl fun w51 S51 => ?_)
    have B52 : w51.heap[w4.heap.size]? = some (.cells #[.float .f32 d14_8_0r, .float .f32 d14_17_0r, .float .f32 d14_26_0r] 29 (0, 0)) := S51.here
    exact ⟨⟨d14_8_0r, d14_17_0r, d14_26_0r, B52, d14_8_0h, d14_17_0h, d14_26_0h⟩, own_some (j := 0) rfl S51.frmb⟩
  · skip
    intro σ14 w14 A14 E14 V14
    obtain ⟨z14_m0_8_0r, z14_m0_17_0r, z14_m0_26_0r, Bm0_14, z14_m0_8_0h, z14_m0_17_0h, z14_m0_26_0h⟩ : ∃ z14_m0_8_0r : Nat, ∃ z14_m0_17_0r : Nat, ∃ z14_m0_26_0r : Nat, w14.heap[w4.heap.size]? = some (.cells #[.float .f32 z14_m0_8_0r, .float .f32 z14_m0_17_0r, .float .f32 z14_m0_26_0r] 29 (0, 0)) ∧ cn .f32 z14_m0_8_0r = m17 ∧ cn .f32 z14_m0_17_0r = m18 ∧ cn .f32 z14_m0_26_0r = m19 := V14 28 (Nat.le_of_ble_eq_true rfl)
    have s4_14 : σ14 4 = .pointer (some ⟨w4.heap.size, 0, none⟩) := (A14 4 rfl).trans rfl
    have X53 : Ext w w14 := Ext.step X13 E14 (oth_own1 (fun k _ hk => hk ▸ own10))
    refine W_ret ?_
    subst hr
    refine ⟨_, res1 (rv_cells (vs := #[.float .f32 z14_m0_8_0r, .float .f32 z14_m0_17_0r, .float .f32 z14_m0_26_0r]) s4_14 agg29 size29 Bm0_14 rfl), ?_⟩
    exact ⟨z14_m0_8_0r, z14_m0_17_0r, z14_m0_26_0r, rfl, z14_m0_8_0h, z14_m0_17_0h, z14_m0_26_0h, X53⟩
set_option maxHeartbeats 4000000 in
theorem c64 (p0 : SSpin) (p1 : SVector) (p0r0 : Nat) (p0r1 : Nat) (p0r2 : Nat) (p0r3 : Nat) (p1r0 : Nat) (p1r1 : Nat) (p1r2 : Nat) (r : SVector) (w : World) (hr : M.impl_TurnVector p0 p1 = r) (p0h0 : cn .f32 p0r0 = p0.w) (p0h1 : cn .f32 p0r1 = p0.x) (p0h2 : cn .f32 p0r2 = p0.y) (p0h3 : cn .f32 p0r3 = p0.z) (p1h0 : cn .f32 p1r0 = p1.x) (p1h1 : cn .f32 p1r1 = p1.y) (p1h2 : cn .f32 p1r2 = p1.z) :
    Calls Try.prog 64 #[.agg #[.float .f32 p0r0, .float .f32 p0r1, .float .f32 p0r2, .float .f32 p0r3], .agg #[.float .f32 p1r0, .float .f32 p1r1, .float .f32 p1r2]] w fun e w' => ∃ q0r0 : Nat, ∃ q0r1 : Nat, ∃ q0r2 : Nat, e = .returned (.agg #[.float .f32 q0r0, .float .f32 q0r1, .float .f32 q0r2]) ∧ cn .f32 q0r0 = r.x ∧ cn .f32 q0r1 = r.y ∧ cn .f32 q0r2 = r.z ∧ Ext w w' := by
  refine calls_of_W Try.func64 rfl (Nat.le_of_ble_eq_true rfl) ?_
  refine W_seq ?_
  refine W_region rfl ?_
  refine da_op rfl (d_box (cs := #[.float .f32 p0r0, .float .f32 p0r1, .float .f32 p0r2, .float .f32 p0r3]) rfl fun w1 B1 E1 => ?_)
  have own2 : w.heap.size ≤ w.heap.size := Nat.le_trans (Ext.refl w).size (Nat.le_refl _)
  have X3 : Ext w w1 := (Ext.refl w).trans E1
  refine da_op rfl (d_box (cs := #[.float .f32 p1r0, .float .f32 p1r1, .float .f32 p1r2]) rfl fun w4 B4 E4 => ?_)
  have own5 : w.heap.size ≤ w1.heap.size := Nat.le_trans X3.size (Nat.le_refl _)
  have sp6 : w.heap.size ≠ w1.heap.size := Nat.ne_of_lt (Nat.lt_of_lt_of_le (lt_heap B1) (Nat.le_refl _))
  have X7 : Ext w w4 := X3.trans E4
  have B9 : w4.heap[w.heap.size]? = some (.cells #[.float .f32 p0r0, .float .f32 p0r1, .float .f32 p0r2, .float .f32 p0r3] 30 (0, 0)) := E4.heap B1
  refine da_op rfl (d_alloc (cs := #[.float .f32 0, .float .f32 0, .float .f32 0]) zero29 rfl fun w8 B8 E8 => ?_)
  have own10 : w.heap.size ≤ w4.heap.size := Nat.le_trans X7.size (Nat.le_refl _)
  have sp11 : w.heap.size ≠ w4.heap.size := Nat.ne_of_lt (Nat.lt_of_lt_of_le (lt_heap B9) (Nat.le_refl _))
  have sp12 : w1.heap.size ≠ w4.heap.size := Nat.ne_of_lt (Nat.lt_of_lt_of_le (lt_heap B4) (Nat.le_refl _))
  have X13 : Ext w w8 := X7.trans E8
  refine da_nil ?_
  refine W_seq ?_
  refine W_region rfl ?_
  obtain ⟨m14, hm14, hr⟩ := letv_out hr
  have B15 : w8.heap[w.heap.size]? = some (.cells #[.float .f32 p0r0, .float .f32 p0r1, .float .f32 p0r2, .float .f32 p0r3] 30 (0, 0)) := E8.heap B9
  have B16 : w8.heap[w1.heap.size]? = some (.cells #[.float .f32 p1r0, .float .f32 p1r1, .float .f32 p1r2] 29 (0, 0)) := E8.heap B4
  refine da_op rfl (d_cl (vs := [.pointer (some ⟨w.heap.size, 0, none⟩)]) en101 (ac rfl rfl) rfl ?_)
  refine (c101 (⟨p0.w, p0.x, p0.y, p0.z⟩ : SSpin) w.heap.size 0 #[.float .f32 p0r0, .float .f32 p0r1, .float .f32 p0r2, .float .f32 p0r3] 30 (0, 0) p0r0 p0r1 p0r2 p0r3 m14 w8 hm14 p0h0 p0h1 p0h2 p0h3 B15 rfl).mono ?_
  rintro _ w17 ⟨q17_0r0, q17_0r1, q17_0r2, rfl, q17_0h0, q17_0h1, q17_0h2, E17⟩
  refine ⟨_, rfl, ?_⟩
  have X18 : Ext w w17 := X13.trans E17
  have B20 : w17.heap[w.heap.size]? = some (.cells #[.float .f32 p0r0, .float .f32 p0r1, .float .f32 p0r2, .float .f32 p0r3] 30 (0, 0)) := E17.heap B15
  have B21 : w17.heap[w1.heap.size]? = some (.cells #[.float .f32 p1r0, .float .f32 p1r1, .float .f32 p1r2] 29 (0, 0)) := E17.heap B16
  have B22 : w17.heap[w4.heap.size]? = some (.cells #[.float .f32 0, .float .f32 0, .float .f32 0] 29 (0, 0)) := E17.heap B8
  refine da_op rfl (d_alloc (cs := #[.float .f32 0, .float .f32 0, .float .f32 0]) zero29 rfl fun w19 B19 E19 => ?_)
  have own23 : w.heap.size ≤ w17.heap.size := Nat.le_trans X18.size (Nat.le_refl _)
  have sp24 : w.heap.size ≠ w17.heap.size := Nat.ne_of_lt (Nat.lt_of_lt_of_le (lt_heap B20) (Nat.le_refl _))
  have sp25 : w1.heap.size ≠ w17.heap.size := Nat.ne_of_lt (Nat.lt_of_lt_of_le (lt_heap B21) (Nat.le_refl _))
  have sp26 : w4.heap.size ≠ w17.heap.size := Nat.ne_of_lt (Nat.lt_of_lt_of_le (lt_heap B22) (Nat.le_refl _))
  have X27 : Ext w w19 := X18.trans E19
  refine da_op rfl (d_store (vs := #[.float .f32 q17_0r0, .float .f32 q17_0r1, .float .f32 q17_0r2]) rfl rfl B19 size29 (Nat.le_of_ble_eq_true rfl) rfl fun w28 S28 => ?_)
  have X29 : Ext w w28 := Ext.step X27 S28.frmb (fun k _ hk => hk ▸ own23)
  have B30 : w28.heap[w17.heap.size]? = some (.cells #[.float .f32 q17_0r0, .float .f32 q17_0r1, .float .f32 q17_0r2] 29 (0, 0)) := S28.here
  refine da_nil ?_
  refine W_seq ?_
  refine W_region rfl ?_
  refine da_op rfl (d_loads (vs := #[.float .f32 q17_0r0, .float .f32 q17_0r1, .float .f32 q17_0r2]) rfl agg29 size29 B30 rfl ?_)
  have B31 : w28.heap[w1.heap.size]? = some (.cells #[.float .f32 p1r0, .float .f32 p1r1, .float .f32 p1r2] 29 (0, 0)) := S28.frmb.heap sp25 (E19.heap B21)
  refine da_op rfl (d_loads (vs := #[.float .f32 p1r0, .float .f32 p1r1, .float .f32 p1r2]) rfl agg29 size29 B31 rfl ?_)
  obtain ⟨m32, hm32, hr⟩ := letv_out hr
  have B33 : w28.heap[w.heap.size]? = some (.cells #[.float .f32 p0r0, .float .f32 p0r1, .float .f32 p0r2, .float .f32 p0r3] 30 (0, 0)) := S28.frmb.heap sp24 (E19.heap B20)
  have B34 : w28.heap[w4.heap.size]? = some (.cells #[.float .f32 0, .float .f32 0, .float .f32 0] 29 (0, 0)) := S28.frmb.heap sp26 (E19.heap B22)
  refine da_op rfl (d_cl (vs := [.agg #[.float .f32 q17_0r0, .float .f32 q17_0r1, .float .f32 q17_0r2], .agg #[.float .f32 p1r0, .float .f32 p1r1, .float .f32 p1r2]]) en63 (ac rfl (ac rfl rfl)) rfl ?_)
  refine (c63 (⟨m14.x, m14.y, m14.z⟩ : SVector) (⟨p1.x, p1.y, p1.z⟩ : SVector) q17_0r0 q17_0r1 q17_0r2 p1r0 p1r1 p1r2 m32 w28 hm32 q17_0h0 q17_0h1 q17_0h2 p1h0 p1h1 p1h2).mono ?_
  rintro _ w35 ⟨q35_0r0, q35_0r1, q35_0r2, rfl, q35_0h0, q35_0h1, q35_0h2, E35⟩
  refine ⟨_, rfl, ?_⟩
  have X36 : Ext w w35 := X29.trans E35
  obtain ⟨m37, hm37, hr⟩ := letv_out hr
  have B38 : w35.heap[w.heap.size]? = some (.cells #[.float .f32 p0r0, .float .f32 p0r1, .float .f32 p0r2, .float .f32 p0r3] 30 (0, 0)) := E35.heap B33
  have B39 : w35.heap[w1.heap.size]? = some (.cells #[.float .f32 p1r0, .float .f32 p1r1, .float .f32 p1r2] 29 (0, 0)) := E35.heap B31
  have B40 : w35.heap[w4.heap.size]? = some (.cells #[.float .f32 0, .float .f32 0, .float .f32 0] 29 (0, 0)) := E35.heap B34
  have B41 : w35.heap[w17.heap.size]? = some (.cells #[.float .f32 q17_0r0, .float .f32 q17_0r1, .float .f32 q17_0r2] 29 (0, 0)) := E35.heap B30
  refine da_op rfl (d_cl (vs := [.agg #[.float .f32 q35_0r0, .float .f32 q35_0r1, .float .f32 q35_0r2], .float .f32 1073741824]) en95 (ac rfl (ac rfl rfl)) rfl ?_)
  refine (c95 m32 1073741824 q35_0r0 q35_0r1 q35_0r2 1073741824 m37 w35 hm37 q35_0h0 q35_0h1 q35_0h2 cn_f32_1073741824).mono ?_
  rintro _ w42 ⟨q42_0r0, q42_0r1, q42_0r2, rfl, q42_0h0, q42_0h1, q42_0h2, E42⟩
  refine ⟨_, rfl, ?_⟩
  have X43 : Ext w w42 := X36.trans E42
  have B45 : w42.heap[w.heap.size]? = some (.cells #[.float .f32 p0r0, .float .f32 p0r1, .float .f32 p0r2, .float .f32 p0r3] 30 (0, 0)) := E42.heap B38
  have B46 : w42.heap[w1.heap.size]? = some (.cells #[.float .f32 p1r0, .float .f32 p1r1, .float .f32 p1r2] 29 (0, 0)) := E42.heap B39
  have B47 : w42.heap[w4.heap.size]? = some (.cells #[.float .f32 0, .float .f32 0, .float .f32 0] 29 (0, 0)) := E42.heap B40
  have B48 : w42.heap[w17.heap.size]? = some (.cells #[.float .f32 q17_0r0, .float .f32 q17_0r1, .float .f32 q17_0r2] 29 (0, 0)) := E42.heap B41
  refine da_op rfl (d_alloc (cs := #[.float .f32 0, .float .f32 0, .float .f32 0]) zero29 rfl fun w44 B44 E44 => ?_)
  have own49 : w.heap.size ≤ w42.heap.size := Nat.le_trans X43.size (Nat.le_refl _)
  have sp50 : w.heap.size ≠ w42.heap.size := Nat.ne_of_lt (Nat.lt_of_lt_of_le (lt_heap B45) (Nat.le_refl _))
  have sp51 : w1.heap.size ≠ w42.heap.size := Nat.ne_of_lt (Nat.lt_of_lt_of_le (lt_heap B46) (Nat.le_refl _))
  have sp52 : w4.heap.size ≠ w42.heap.size := Nat.ne_of_lt (Nat.lt_of_lt_of_le (lt_heap B47) (Nat.le_refl _))
  have sp53 : w17.heap.size ≠ w42.heap.size := Nat.ne_of_lt (Nat.lt_of_lt_of_le (lt_heap B48) (Nat.le_refl _))
  have X54 : Ext w w44 := X43.trans E44
  refine da_op rfl (d_store (vs := #[.float .f32 q42_0r0, .float .f32 q42_0r1, .float .f32 q42_0r2]) rfl rfl B44 size29 (Nat.le_of_ble_eq_true rfl) rfl fun w55 S55 => ?_)
  have X56 : Ext w w55 := Ext.step X54 S55.frmb (fun k _ hk => hk ▸ own49)
  have B57 : w55.heap[w42.heap.size]? = some (.cells #[.float .f32 q42_0r0, .float .f32 q42_0r1, .float .f32 q42_0r2] 29 (0, 0)) := S55.here
  refine da_nil ?_
  refine W_seq ?_
  have B59 : w55.heap[w.heap.size]? = some (.cells #[.float .f32 p0r0, .float .f32 p0r1, .float .f32 p0r2, .float .f32 p0r3] 30 (0, 0)) := S55.frmb.heap sp50 (E44.heap B45)
  have B60 : w55.heap[w1.heap.size]? = some (.cells #[.float .f32 p1r0, .float .f32 p1r1, .float .f32 p1r2] 29 (0, 0)) := S55.frmb.heap sp51 (E44.heap B46)
  have B61 : w55.heap[w4.heap.size]? = some (.cells #[.float .f32 0, .float .f32 0, .float .f32 0] 29 (0, 0)) := S55.frmb.heap sp52 (E44.heap B47)
  have B62 : w55.heap[w17.heap.size]? = some (.cells #[.float .f32 q17_0r0, .float .f32 q17_0r1, .float .f32 q17_0r2] 29 (0, 0)) := S55.frmb.heap sp53 (E44.heap B48)
  obtain ⟨m63, hm63, hr⟩ := letv_out hr
  obtain ⟨m64, hm64, hr⟩ := letv_out hr
  obtain ⟨m65, hm65, hr⟩ := letv_out hr
  obtain ⟨m66, hm66, hr⟩ := letv_out hr
  refine W_any [fun k _ => k = w4.heap.size] [{ V := fun _ v _ => v = (.agg #[.float .f32 p1r0, .float .f32 p1r1, .float .f32 p1r2]) }, { V := fun _ v _ => v = (.agg #[.float .f32 q42_0r0, .float .f32 q42_0r1, .float .f32 q42_0r2]) }, { V := fun _ v _ => v = (.pointer (some ⟨w.heap.size, 0, none⟩)) }, { V := fun _ v _ => v = (.float .f32 p0r0) }, { V := fun _ v _ => ∃ d58_4_0r0 : Nat, ∃ d58_4_0r1 : Nat, ∃ d58_4_0r2 : Nat, v = (.agg #[.float .f32 d58_4_0r0, .float .f32 d58_4_0r1, .float .f32 d58_4_0r2]) ∧ cn .f32 d58_4_0r0 = m63.x ∧ cn .f32 d58_4_0r1 = m63.y ∧ cn .f32 d58_4_0r2 = m63.z }, { V := fun _ v _ => ∃ d58_5_0r0 : Nat, ∃ d58_5_0r1 : Nat, ∃ d58_5_0r2 : Nat, v = (.agg #[.float .f32 d58_5_0r0, .float .f32 d58_5_0r1, .float .f32 d58_5_0r2]) ∧ cn .f32 d58_5_0r0 = m64.x ∧ cn .f32 d58_5_0r1 = m64.y ∧ cn .f32 d58_5_0r2 = m64.z }, { V := fun _ v _ => v = (.agg #[.float .f32 q17_0r0, .float .f32 q17_0r1, .float .f32 q17_0r2]) }, { V := fun _ v _ => v = (.agg #[.float .f32 q42_0r0, .float .f32 q42_0r1, .float .f32 q42_0r2]) }, { V := fun _ v _ => ∃ d58_8_0r0 : Nat, ∃ d58_8_0r1 : Nat, ∃ d58_8_0r2 : Nat, v = (.agg #[.float .f32 d58_8_0r0, .float .f32 d58_8_0r1, .float .f32 d58_8_0r2]) ∧ cn .f32 d58_8_0r0 = m65.x ∧ cn .f32 d58_8_0r1 = m65.y ∧ cn .f32 d58_8_0r2 = m65.z }, { V := fun _ v _ => ∃ d58_9_0r0 : Nat, ∃ d58_9_0r1 : Nat, ∃ d58_9_0r2 : Nat, v = (.agg #[.float .f32 d58_9_0r0, .float .f32 d58_9_0r1, .float .f32 d58_9_0r2]) ∧ cn .f32 d58_9_0r0 = m66.x ∧ cn .f32 d58_9_0r1 = m66.y ∧ cn .f32 d58_9_0r2 = m66.z }, ⟨fun _ _ w' => ∃ d58_9_0r0 : Nat, ∃ d58_9_0r1 : Nat, ∃ d58_9_0r2 : Nat, w'.heap[w4.heap.size]? = some (.cells #[.float .f32 d58_9_0r0, .float .f32 d58_9_0r1, .float .f32 d58_9_0r2] 29 (0, 0)) ∧ cn .f32 d58_9_0r0 = m66.x ∧ cn .f32 d58_9_0r1 = m66.y ∧ cn .f32 d58_9_0r2 = m66.z, some 0, fun w' => w'.heap[w4.heap.size]? = some (.cells #[.float .f32 0, .float .f32 0, .float .f32 0] 29 (0, 0))⟩] mixed (by kernel_rfl) ⟨trivial, trivial, trivial, trivial, trivial, trivial, trivial, trivial, trivial, trivial, B61, trivial⟩ ⟨?_, ?_, ?_, ?_, ?_, ?_, ?_, ?_, ?_, ?_, ?_, trivial⟩ ?_
  · skip
    refine ⟨fun _ _ _ _ _ _ h _ => h, fun _ _ h _ => h, fun σ' w' hA hE hD hP => ?_⟩
    have t3 : σ' 3 = .pointer (some ⟨w1.heap.size, 0, none⟩) := (hA 3 rfl).trans rfl
    have B0_67 : w'.heap[w1.heap.size]? = some (.cells #[.float .f32 p1r0, .float .f32 p1r1, .float .f32 p1r2] 29 (0, 0)) := hE.heap (not_oth1 sp12) B60
    refine dg_op rfl (d_loads (vs := #[.float .f32 p1r0, .float .f32 p1r1, .float .f32 p1r2]) t3 agg29 size29 B0_67 rfl ?_)
    exact ⟨rfl, own_none (Ext.refl w')⟩
  · skip
    refine ⟨fun _ _ _ _ _ _ h _ => h, fun _ _ h _ => h, fun σ' w' hA hE hD hP => ?_⟩
    have t6 : σ' 6 = .pointer (some ⟨w42.heap.size, 0, none⟩) := (hA 6 rfl).trans rfl
    have B0_68 : w'.heap[w42.heap.size]? = some (.cells #[.float .f32 q42_0r0, .float .f32 q42_0r1, .float .f32 q42_0r2] 29 (0, 0)) := hE.heap (not_oth1 (Ne.symm sp52)) B57
    refine dg_op rfl (d_loads (vs := #[.float .f32 q42_0r0, .float .f32 q42_0r1, .float .f32 q42_0r2]) t6 agg29 size29 B0_68 rfl ?_)
    exact ⟨rfl, own_none (Ext.refl w')⟩
  · skip
    refine ⟨fun _ _ _ _ _ _ h _ => h, fun _ _ h _ => h, fun σ' w' hA hE hD hP => ?_⟩
    have t2 : σ' 2 = .pointer (some ⟨w.heap.size, 0, none⟩) := (hA 2 rfl).trans rfl
    have B0_69 : w'.heap[w.heap.size]? = some (.cells #[.float .f32 p0r0, .float .f32 p0r1, .float .f32 p0r2, .float .f32 p0r3] 30 (0, 0)) := hE.heap (not_oth1 sp11) B59
    refine dg_op rfl (d_fieldAddr t2 (fa30_0 _ _) ?_)
    exact ⟨rfl, own_none (Ext.refl w')⟩
  · skip
    refine ⟨fun _ _ _ _ _ _ h _ => h, fun _ _ h _ => h, fun σ' w' hA hE hD hP => ?_⟩
    have t14 : σ' 14 = (.pointer (some ⟨w.heap.size, 0, none⟩)) := hD 2 rfl
    have B0_70 : w'.heap[w.heap.size]? = some (.cells #[.float .f32 p0r0, .float .f32 p0r1, .float .f32 p0r2, .float .f32 p0r3] 30 (0, 0)) := hE.heap (not_oth1 sp11) B59
    refine dg_op rfl (d_load (v := .float .f32 p0r0) t14 agg22 B0_70 rfl ?_)
    exact ⟨rfl, own_none (Ext.refl w')⟩
  · skip
    refine ⟨fun _ _ _ _ _ _ h _ => h, fun _ _ h _ => h, fun σ' w' hA hE hD hP => ?_⟩
    have t13 : σ' 13 = (.agg #[.float .f32 q42_0r0, .float .f32 q42_0r1, .float .f32 q42_0r2]) := hD 1 rfl
    have t15 : σ' 15 = (.float .f32 p0r0) := hD 3 rfl
    refine dg_op rfl (d_cl (vs := [.agg #[.float .f32 q42_0r0, .float .f32 q42_0r1, .float .f32 q42_0r2], .float .f32 p0r0]) en95 (ac t13 (ac t15 rfl)) rfl ?_)
    refine (c95 m37 p0.w q42_0r0 q42_0r1 q42_0r2 p0r0 m63 w' hm63 q42_0h0 q42_0h1 q42_0h2 p0h0).mono ?_
    rintro _ w71 ⟨q71_0r0, q71_0r1, q71_0r2, rfl, q71_0h0, q71_0h1, q71_0h2, E71⟩
    refine ⟨_, rfl, ?_⟩
    have X72 : Ext w' w71 := (Ext.refl w').trans E71
    exact ⟨⟨q71_0r0, q71_0r1, q71_0r2, rfl, q71_0h0, q71_0h1, q71_0h2⟩, own_none X72⟩
  · skip
    refine ⟨fun _ _ _ _ _ _ h _ => h, fun _ _ h _ => h, fun σ' w' hA hE hD hP => ?_⟩
    have t12 : σ' 12 = (.agg #[.float .f32 p1r0, .float .f32 p1r1, .float .f32 p1r2]) := hD 0 rfl
    obtain ⟨d58_4_0r0, d58_4_0r1, d58_4_0r2, t16, d58_4_0h0, d58_4_0h1, d58_4_0h2⟩ : ∃ d58_4_0r0 : Nat, ∃ d58_4_0r1 : Nat, ∃ d58_4_0r2 : Nat, σ' 16 = (.agg #[.float .f32 d58_4_0r0, .float .f32 d58_4_0r1, .float .f32 d58_4_0r2]) ∧ cn .f32 d58_4_0r0 = m63.x ∧ cn .f32 d58_4_0r1 = m63.y ∧ cn .f32 d58_4_0r2 = m63.z := hD 4 rfl
    refine dg_op rfl (d_cl (vs := [.agg #[.float .f32 p1r0, .float .f32 p1r1, .float .f32 p1r2], .agg #[.float .f32 d58_4_0r0, .float .f32 d58_4_0r1, .float .f32 d58_4_0r2]]) en94 (ac t12 (ac t16 rfl)) rfl ?_)
    refine (c94 (⟨p1.x, p1.y, p1.z⟩ : SVector) m63 p1r0 p1r1 p1r2 d58_4_0r0 d58_4_0r1 d58_4_0r2 m64 w' hm64 p1h0 p1h1 p1h2 d58_4_0h0 d58_4_0h1 d58_4_0h2).mono ?_
    rintro _ w73 ⟨q73_0r0, q73_0r1, q73_0r2, rfl, q73_0h0, q73_0h1, q73_0h2, E73⟩
    refine ⟨_, rfl, ?_⟩
    have X74 : Ext w' w73 := (Ext.refl w').trans E73
    exact ⟨⟨q73_0r0, q73_0r1, q73_0r2, rfl, q73_0h0, q73_0h1, q73_0h2⟩, own_none X74⟩
  · skip
    refine ⟨fun _ _ _ _ _ _ h _ => h, fun _ _ h _ => h, fun σ' w' hA hE hD hP => ?_⟩
    have t5 : σ' 5 = .pointer (some ⟨w17.heap.size, 0, none⟩) := (hA 5 rfl).trans rfl
    have B0_75 : w'.heap[w17.heap.size]? = some (.cells #[.float .f32 q17_0r0, .float .f32 q17_0r1, .float .f32 q17_0r2] 29 (0, 0)) := hE.heap (not_oth1 (Ne.symm sp26)) B62
    refine dg_op rfl (d_loads (vs := #[.float .f32 q17_0r0, .float .f32 q17_0r1, .float .f32 q17_0r2]) t5 agg29 size29 B0_75 rfl ?_)
    exact ⟨rfl, own_none (Ext.refl w')⟩
  · skip
    refine ⟨fun _ _ _ _ _ _ h _ => h, fun _ _ h _ => h, fun σ' w' hA hE hD hP => ?_⟩
    have t6 : σ' 6 = .pointer (some ⟨w42.heap.size, 0, none⟩) := (hA 6 rfl).trans rfl
    have B0_76 : w'.heap[w42.heap.size]? = some (.cells #[.float .f32 q42_0r0, .float .f32 q42_0r1, .float .f32 q42_0r2] 29 (0, 0)) := hE.heap (not_oth1 (Ne.symm sp52)) B57
    refine dg_op rfl (d_loads (vs := #[.float .f32 q42_0r0, .float .f32 q42_0r1, .float .f32 q42_0r2]) t6 agg29 size29 B0_76 rfl ?_)
    exact ⟨rfl, own_none (Ext.refl w')⟩
  · skip
    refine ⟨fun _ _ _ _ _ _ h _ => h, fun _ _ h _ => h, fun σ' w' hA hE hD hP => ?_⟩
    have t18 : σ' 18 = (.agg #[.float .f32 q17_0r0, .float .f32 q17_0r1, .float .f32 q17_0r2]) := hD 6 rfl
    have t19 : σ' 19 = (.agg #[.float .f32 q42_0r0, .float .f32 q42_0r1, .float .f32 q42_0r2]) := hD 7 rfl
    refine dg_op rfl (d_cl (vs := [.agg #[.float .f32 q17_0r0, .float .f32 q17_0r1, .float .f32 q17_0r2], .agg #[.float .f32 q42_0r0, .float .f32 q42_0r1, .float .f32 q42_0r2]]) en63 (ac t18 (ac t19 rfl)) rfl ?_)
    refine (c63 (⟨m14.x, m14.y, m14.z⟩ : SVector) m37 q17_0r0 q17_0r1 q17_0r2 q42_0r0 q42_0r1 q42_0r2 m65 w' hm65 q17_0h0 q17_0h1 q17_0h2 q42_0h0 q42_0h1 q42_0h2).mono ?_
    rintro _ w77 ⟨q77_0r0, q77_0r1, q77_0r2, rfl, q77_0h0, q77_0h1, q77_0h2, E77⟩
    refine ⟨_, rfl, ?_⟩
    have X78 : Ext w' w77 := (Ext.refl w').trans E77
    exact ⟨⟨q77_0r0, q77_0r1, q77_0r2, rfl, q77_0h0, q77_0h1, q77_0h2⟩, own_none X78⟩
  · skip
    refine ⟨fun _ _ _ _ _ _ h _ => h, fun _ _ h _ => h, fun σ' w' hA hE hD hP => ?_⟩
    obtain ⟨d58_5_0r0, d58_5_0r1, d58_5_0r2, t17, d58_5_0h0, d58_5_0h1, d58_5_0h2⟩ : ∃ d58_5_0r0 : Nat, ∃ d58_5_0r1 : Nat, ∃ d58_5_0r2 : Nat, σ' 17 = (.agg #[.float .f32 d58_5_0r0, .float .f32 d58_5_0r1, .float .f32 d58_5_0r2]) ∧ cn .f32 d58_5_0r0 = m64.x ∧ cn .f32 d58_5_0r1 = m64.y ∧ cn .f32 d58_5_0r2 = m64.z := hD 5 rfl
    obtain ⟨d58_8_0r0, d58_8_0r1, d58_8_0r2, t20, d58_8_0h0, d58_8_0h1, d58_8_0h2⟩ : ∃ d58_8_0r0 : Nat, ∃ d58_8_0r1 : Nat, ∃ d58_8_0r2 : Nat, σ' 20 = (.agg #[.float .f32 d58_8_0r0, .float .f32 d58_8_0r1, .float .f32 d58_8_0r2]) ∧ cn .f32 d58_8_0r0 = m65.x ∧ cn .f32 d58_8_0r1 = m65.y ∧ cn .f32 d58_8_0r2 = m65.z := hD 8 rfl
    refine dg_op rfl (d_cl (vs := [.agg #[.float .f32 d58_5_0r0, .float .f32 d58_5_0r1, .float .f32 d58_5_0r2], .agg #[.float .f32 d58_8_0r0, .float .f32 d58_8_0r1, .float .f32 d58_8_0r2]]) en94 (ac t17 (ac t20 rfl)) rfl ?_)
    refine (c94 m64 m65 d58_5_0r0 d58_5_0r1 d58_5_0r2 d58_8_0r0 d58_8_0r1 d58_8_0r2 m66 w' hm66 d58_5_0h0 d58_5_0h1 d58_5_0h2 d58_8_0h0 d58_8_0h1 d58_8_0h2).mono ?_
    rintro _ w79 ⟨q79_0r0, q79_0r1, q79_0r2, rfl, q79_0h0, q79_0h1, q79_0h2, E79⟩
    refine ⟨_, rfl, ?_⟩
    have X80 : Ext w' w79 := (Ext.refl w').trans E79
    exact ⟨⟨q79_0r0, q79_0r1, q79_0r2, rfl, q79_0h0, q79_0h1, q79_0h2⟩, own_none X80⟩
  · skip
    refine ⟨fun _ _ _ w' w'' _ ⟨d58_9_0r0, d58_9_0r1, d58_9_0r2, hB, d58_9_0h0, d58_9_0h1, d58_9_0h2⟩ hF => ⟨d58_9_0r0, d58_9_0r1, d58_9_0r2, hF.heap not_oth1s hB, d58_9_0h0, d58_9_0h1, d58_9_0h2⟩, fun _ _ h hF => hF.heap not_oth1s h, fun σ' w' hA hE hD hP => ?_⟩
    have t4 : σ' 4 = .pointer (some ⟨w4.heap.size, 0, none⟩) := (hA 4 rfl).trans rfl
    obtain ⟨d58_9_0r0, d58_9_0r1, d58_9_0r2, t21, d58_9_0h0, d58_9_0h1, d58_9_0h2⟩ : ∃ d58_9_0r0 : Nat, ∃ d58_9_0r1 : Nat, ∃ d58_9_0r2 : Nat, σ' 21 = (.agg #[.float .f32 d58_9_0r0, .float .f32 d58_9_0r1, .float .f32 d58_9_0r2]) ∧ cn .f32 d58_9_0r0 = m66.x ∧ cn .f32 d58_9_0r1 = m66.y ∧ cn .f32 d58_9_0r2 = m66.z := hD 9 rfl
    have B0_81 : w'.heap[w4.heap.size]? = some (.cells #[.float .f32 0, .float .f32 0, .float .f32 0] 29 (0, 0)) := (hP 10 _ _ rfl rfl (.inl rfl)).1
    refine dg_op rfl (d_store (vs := #[.float .f32 d58_9_0r0, .float .f32 d58_9_0r1, .float .f32 d58_9_0r2]) t4 (congrArg Value.cells t21) B0_81 size29 (Nat.le_of_ble_eq_true rfl) rfl fun w82 S82 => ?_)
    have B83 : w82.heap[w4.heap.size]? = some (.cells #[.float .f32 d58_9_0r0, .float .f32 d58_9_0r1, .float .f32 d58_9_0r2] 29 (0, 0)) := S82.here
    exact ⟨⟨d58_9_0r0, d58_9_0r1, d58_9_0r2, B83, d58_9_0h0, d58_9_0h1, d58_9_0h2⟩, own_some (j := 0) rfl S82.frmb⟩
  · skip
    intro σ58 w58 A58 E58 V58
    obtain ⟨z58_m0_9_0r0, z58_m0_9_0r1, z58_m0_9_0r2, Bm0_58, z58_m0_9_0h0, z58_m0_9_0h1, z58_m0_9_0h2⟩ : ∃ z58_m0_9_0r0 : Nat, ∃ z58_m0_9_0r1 : Nat, ∃ z58_m0_9_0r2 : Nat, w58.heap[w4.heap.size]? = some (.cells #[.float .f32 z58_m0_9_0r0, .float .f32 z58_m0_9_0r1, .float .f32 z58_m0_9_0r2] 29 (0, 0)) ∧ cn .f32 z58_m0_9_0r0 = m66.x ∧ cn .f32 z58_m0_9_0r1 = m66.y ∧ cn .f32 z58_m0_9_0r2 = m66.z := V58 10 (Nat.le_of_ble_eq_true rfl)
    have s4_58 : σ58 4 = .pointer (some ⟨w4.heap.size, 0, none⟩) := (A58 4 rfl).trans rfl
    have X84 : Ext w w58 := Ext.step X56 E58 (oth_own1 (fun k _ hk => hk ▸ own10))
    refine W_ret ?_
    subst hr
    refine ⟨_, res1 (rv_cells (vs := #[.float .f32 z58_m0_9_0r0, .float .f32 z58_m0_9_0r1, .float .f32 z58_m0_9_0r2]) s4_58 agg29 size29 Bm0_58 rfl), ?_⟩
    exact ⟨z58_m0_9_0r0, z58_m0_9_0r1, z58_m0_9_0r2, rfl, z58_m0_9_0h0, z58_m0_9_0h1, z58_m0_9_0h2, X84⟩
set_option maxHeartbeats 4000000 in
theorem c56 (p0 : STop) (p0b p0o : Nat) (p0c : Array Value) (p0T : TypeId) (p0f : Nat × Nat) (p0r0 : Nat) (p0r1 : Nat) (p0r2 : Nat) (p0r3 : Nat) (p0r4 : Nat) (p0r5 : Nat) (p0r6 : Nat) (p0r7 : Nat) (p0r8 : Nat) (p0r9 : Nat) (r : SVector) (w : World) (hr : M.impl_Top_axis p0 = r) (p0h0 : cn .f32 p0r0 = p0.moments.x) (p0h1 : cn .f32 p0r1 = p0.moments.y) (p0h2 : cn .f32 p0r2 = p0.moments.z) (p0h3 : cn .f32 p0r3 = p0.turn.w) (p0h4 : cn .f32 p0r4 = p0.turn.x) (p0h5 : cn .f32 p0r5 = p0.turn.y) (p0h6 : cn .f32 p0r6 = p0.turn.z) (p0h7 : cn .f32 p0r7 = p0.speed.x) (p0h8 : cn .f32 p0r8 = p0.speed.y) (p0h9 : cn .f32 p0r9 = p0.speed.z) (p0B : w.heap[p0b]? = some (.cells p0c p0T p0f)) (p0P : (p0c.toList.drop p0o).take 10 = [.float .f32 p0r0, .float .f32 p0r1, .float .f32 p0r2, .float .f32 p0r3, .float .f32 p0r4, .float .f32 p0r5, .float .f32 p0r6, .float .f32 p0r7, .float .f32 p0r8, .float .f32 p0r9]) :
    Calls Try.prog 56 #[.pointer (some ⟨p0b, p0o, none⟩)] w fun e w' => ∃ q0r0 : Nat, ∃ q0r1 : Nat, ∃ q0r2 : Nat, e = .returned (.agg #[.float .f32 q0r0, .float .f32 q0r1, .float .f32 q0r2]) ∧ cn .f32 q0r0 = r.x ∧ cn .f32 q0r1 = r.y ∧ cn .f32 q0r2 = r.z ∧ Ext w w' := by
  refine calls_of_W Try.func56 rfl (Nat.le_of_ble_eq_true rfl) ?_
  refine W_seq ?_
  refine W_region rfl ?_
  refine da_op rfl (d_alloc (cs := #[.float .f32 0, .float .f32 0, .float .f32 0]) zero29 rfl fun w1 B1 E1 => ?_)
  have own2 : w.heap.size ≤ w.heap.size := Nat.le_trans (Ext.refl w).size (Nat.le_refl _)
  have X3 : Ext w w1 := (Ext.refl w).trans E1
  refine da_nil ?_
  refine W_seq ?_
  refine W_region rfl ?_
  refine da_op rfl (d_mv (v := .pointer (some ⟨p0b, p0o, none⟩)) rfl ?_)
  refine da_op rfl (d_nil rfl ?_)
  refine da_op rfl (d_fieldAddr rfl (fa32_1 _ _) ?_)
  have B4 : w1.heap[p0b]? = some (.cells p0c p0T p0f) := X3.heap p0B
  refine da_op rfl (d_loads (vs := #[.float .f32 p0r3, .float .f32 p0r4, .float .f32 p0r5, .float .f32 p0r6]) rfl agg30 size30 B4 (sub_take (vs := #[.float .f32 p0r0, .float .f32 p0r1, .float .f32 p0r2, .float .f32 p0r3, .float .f32 p0r4, .float .f32 p0r5, .float .f32 p0r6, .float .f32 p0r7, .float .f32 p0r8, .float .f32 p0r9]) (us := #[.float .f32 p0r3, .float .f32 p0r4, .float .f32 p0r5, .float .f32 p0r6]) (i := 3) p0P rfl (Nat.le_of_ble_eq_true rfl)) ?_)
  refine da_op rfl (d_bd (vs := [(0, .float .f32 0), (1, .float .f32 0), (2, .float .f32 1065353216)]) (cs := #[.float .f32 0, .float .f32 0, .float .f32 1065353216]) (pc rfl (pc rfl (pc rfl rfl))) (by kernel_rfl) ?_)
  obtain ⟨m5, hm5, hr⟩ := letv_out hr
  refine da_op rfl (d_cl (vs := [.agg #[.float .f32 p0r3, .float .f32 p0r4, .float .f32 p0r5, .float .f32 p0r6], .agg #[.float .f32 0, .float .f32 0, .float .f32 1065353216]]) en64 (ac rfl (ac rfl rfl)) rfl ?_)
  refine (c64 (⟨p0.turn.w, p0.turn.x, p0.turn.y, p0.turn.z⟩ : SSpin) (⟨0, 0, 1065353216⟩ : SVector) p0r3 p0r4 p0r5 p0r6 0 0 1065353216 m5 w1 hm5 p0h3 p0h4 p0h5 p0h6 cn_f32_0 cn_f32_0 cn_f32_1065353216).mono ?_
  rintro _ w6 ⟨q6_0r0, q6_0r1, q6_0r2, rfl, q6_0h0, q6_0h1, q6_0h2, E6⟩
  refine ⟨_, rfl, ?_⟩
  have X7 : Ext w w6 := X3.trans E6
  have B8 : w6.heap[w.heap.size]? = some (.cells #[.float .f32 0, .float .f32 0, .float .f32 0] 29 (0, 0)) := E6.heap B1
  refine da_op rfl (d_store (vs := #[.float .f32 q6_0r0, .float .f32 q6_0r1, .float .f32 q6_0r2]) rfl rfl B8 size29 (Nat.le_of_ble_eq_true rfl) rfl fun w9 S9 => ?_)
  have X10 : Ext w w9 := Ext.step X7 S9.frmb (fun k _ hk => hk ▸ own2)
  have B11 : w9.heap[w.heap.size]? = some (.cells #[.float .f32 q6_0r0, .float .f32 q6_0r1, .float .f32 q6_0r2] 29 (0, 0)) := S9.here
  refine da_nil ?_
  refine W_ret ?_
  subst hr
  refine ⟨_, res1 (rv_cells (vs := #[.float .f32 q6_0r0, .float .f32 q6_0r1, .float .f32 q6_0r2]) rfl agg29 size29 B11 rfl), ?_⟩
  exact ⟨q6_0r0, q6_0r1, q6_0r2, rfl, q6_0h0, q6_0h1, q6_0h2, X10⟩
set_option maxHeartbeats 4000000 in
theorem c26_f27 (p0 : STop) (p1 : Nat) (p2 : Int) (p3c0 : SVector) (p0r0 : Nat) (p0r1 : Nat) (p0r2 : Nat) (p0r3 : Nat) (p0r4 : Nat) (p0r5 : Nat) (p0r6 : Nat) (p0r7 : Nat) (p0r8 : Nat) (p0r9 : Nat) (p1r : Nat) (p3c0b p3c0o : Nat) (p3c0c : Array Value) (p3c0T : TypeId) (p3c0f : Nat × Nat) (p3c0r0 : Nat) (p3c0r1 : Nat) (p3c0r2 : Nat) (r : STop × List SVector × Bool) (w : World) (hr : M.impl_runTop_f27 p0 p1 p2 p3c0 = some r) (p0h0 : cn .f32 p0r0 = p0.moments.x) (p0h1 : cn .f32 p0r1 = p0.moments.y) (p0h2 : cn .f32 p0r2 = p0.moments.z) (p0h3 : cn .f32 p0r3 = p0.turn.w) (p0h4 : cn .f32 p0r4 = p0.turn.x) (p0h5 : cn .f32 p0r5 = p0.turn.y) (p0h6 : cn .f32 p0r6 = p0.turn.z) (p0h7 : cn .f32 p0r7 = p0.speed.x) (p0h8 : cn .f32 p0r8 = p0.speed.y) (p0h9 : cn .f32 p0r9 = p0.speed.z) (p1h : cn .f32 p1r = p1) (p3c0h0 : cn .f32 p3c0r0 = p3c0.x) (p3c0h1 : cn .f32 p3c0r1 = p3c0.y) (p3c0h2 : cn .f32 p3c0r2 = p3c0.z) (p3c0B : w.heap[p3c0b]? = some (.cells p3c0c p3c0T p3c0f)) (p3c0P : (p3c0c.toList.drop p3c0o).take 3 = [.float .f32 p3c0r0, .float .f32 p3c0r1, .float .f32 p3c0r2]) :
    Calls Try.prog 26 #[.agg #[.float .f32 p0r0, .float .f32 p0r1, .float .f32 p0r2, .float .f32 p0r3, .float .f32 p0r4, .float .f32 p0r5, .float .f32 p0r6, .float .f32 p0r7, .float .f32 p0r8, .float .f32 p0r9], .float .f32 p1r, .int .i64 p2, .func (.func 27) #[] #[.pointer (some ⟨p3c0b, p3c0o, none⟩)]] w fun e w' => ∃ q0r0 : Nat, ∃ q0r1 : Nat, ∃ q0r2 : Nat, ∃ q0r3 : Nat, ∃ q0r4 : Nat, ∃ q0r5 : Nat, ∃ q0r6 : Nat, ∃ q0r7 : Nat, ∃ q0r8 : Nat, ∃ q0r9 : Nat, ∃ q1v : Value, e = .returned (.tuple #[.agg #[.float .f32 q0r0, .float .f32 q0r1, .float .f32 q0r2, .float .f32 q0r3, .float .f32 q0r4, .float .f32 q0r5, .float .f32 q0r6, .float .f32 q0r7, .float .f32 q0r8, .float .f32 q0r9], q1v, .bool r.2.2]) ∧ cn .f32 q0r0 = r.1.moments.x ∧ cn .f32 q0r1 = r.1.moments.y ∧ cn .f32 q0r2 = r.1.moments.z ∧ cn .f32 q0r3 = r.1.turn.w ∧ cn .f32 q0r4 = r.1.turn.x ∧ cn .f32 q0r5 = r.1.turn.y ∧ cn .f32 q0r6 = r.1.turn.z ∧ cn .f32 q0r7 = r.1.speed.x ∧ cn .f32 q0r8 = r.1.speed.y ∧ cn .f32 q0r9 = r.1.speed.z ∧ OS w' 29 encSVector q1v r.2.1 ∧ (∀ k, q1v.ownBlock = some k → w.heap.size ≤ k) ∧ Ext w w' := by
  refine calls_of_W Try.func26 rfl (Nat.le_of_ble_eq_true rfl) ?_
  refine W_seq ?_
  refine W_region rfl ?_
  refine da_op rfl (d_box (cs := #[.float .f32 p0r0, .float .f32 p0r1, .float .f32 p0r2, .float .f32 p0r3, .float .f32 p0r4, .float .f32 p0r5, .float .f32 p0r6, .float .f32 p0r7, .float .f32 p0r8, .float .f32 p0r9]) rfl fun w1 B1 E1 => ?_)
  have own2 : w.heap.size ≤ w.heap.size := Nat.le_trans (Ext.refl w).size (Nat.le_refl _)
  have X3 : Ext w w1 := (Ext.refl w).trans E1
  refine da_op rfl (d_alloc (cs := #[.float .f32 0, .float .f32 0, .float .f32 0, .float .f32 0, .float .f32 0, .float .f32 0, .float .f32 0, .float .f32 0, .float .f32 0, .float .f32 0]) zero32 rfl fun w4 B4 E4 => ?_)
  have own5 : w.heap.size ≤ w1.heap.size := Nat.le_trans X3.size (Nat.le_refl _)
  have sp6 : w.heap.size ≠ w1.heap.size := Nat.ne_of_lt (Nat.lt_of_lt_of_le (lt_heap B1) (Nat.le_refl _))
  have X7 : Ext w w4 := X3.trans E4
  refine da_op rfl (d_as (v := .slice none 0 0) rfl ?_)
  refine da_op rfl (d_as (v := .bool false) rfl ?_)
  refine da_nil ?_
  refine W_seq ?_
  refine W_seq ?_
  have B9 : w4.heap[w.heap.size]? = some (.cells #[.float .f32 p0r0, .float .f32 p0r1, .float .f32 p0r2, .float .f32 p0r3, .float .f32 p0r4, .float .f32 p0r5, .float .f32 p0r6, .float .f32 p0r7, .float .f32 p0r8, .float .f32 p0r9] 32 (0, 0)) := E4.heap B1
  obtain ⟨m8, hm8, hr⟩ := bind_out hr
  refine W_cut (fun σ' w' => σ' 28 = .bool m8 ∧ Ext w4 w') rfl ?_ ?_
  · skip
    have hr := hm8
    refine da_op rfl (d_loads (vs := #[.float .f32 p0r0, .float .f32 p0r1, .float .f32 p0r2, .float .f32 p0r3, .float .f32 p0r4, .float .f32 p0r5, .float .f32 p0r6, .float .f32 p0r7, .float .f32 p0r8, .float .f32 p0r9]) rfl agg32 size32 B9 rfl ?_)
    obtain ⟨m10, hm10, hr⟩ := bind_out hr
    refine da_op rfl (d_cl (vs := [.agg #[.float .f32 p0r0, .float .f32 p0r1, .float .f32 p0r2, .float .f32 p0r3, .float .f32 p0r4, .float .f32 p0r5, .float .f32 p0r6, .float .f32 p0r7, .float .f32 p0r8, .float .f32 p0r9]]) en52 (ac rfl rfl) rfl ?_)
    refine (c52 (⟨(⟨p0.moments.x, p0.moments.y, p0.moments.z⟩ : SVector), (⟨p0.turn.w, p0.turn.x, p0.turn.y, p0.turn.z⟩ : SSpin), (⟨p0.speed.x, p0.speed.y, p0.speed.z⟩ : SVector)⟩ : STop) p0r0 p0r1 p0r2 p0r3 p0r4 p0r5 p0r6 p0r7 p0r8 p0r9 m10 w4 hm10 p0h0 p0h1 p0h2 p0h3 p0h4 p0h5 p0h6 p0h7 p0h8 p0h9).mono ?_
    rintro _ w11 ⟨rfl, E11⟩
    refine ⟨_, rfl, ?_⟩
    have X12 : Ext w w11 := X7.trans E11
    refine da_op rfl (d_not rfl ?_)
    refine da_op rfl (d_mv (v := .bool (!m10)) rfl ?_)
    rcases Bool.eq_false_or_eq_true m10 with hc13 | hc13
    · skip
      replace hr := bif_t hr hc13
      refine da_on rfl (Eq.trans (show sl _ _ _ = .bool (!m10) from rfl) (congrArg Value.bool (congrArg not hc13))) (d_mv (v := .float .f32 p1r) rfl ?_)
      obtain ⟨m14, hm14, hr⟩ := letv_out hr
      have B15 : w11.heap[w.heap.size]? = some (.cells #[.float .f32 p0r0, .float .f32 p0r1, .float .f32 p0r2, .float .f32 p0r3, .float .f32 p0r4, .float .f32 p0r5, .float .f32 p0r6, .float .f32 p0r7, .float .f32 p0r8, .float .f32 p0r9] 32 (0, 0)) := E11.heap B9
      have B16 : w11.heap[w1.heap.size]? = some (.cells #[.float .f32 0, .float .f32 0, .float .f32 0, .float .f32 0, .float .f32 0, .float .f32 0, .float .f32 0, .float .f32 0, .float .f32 0, .float .f32 0] 32 (0, 0)) := E11.heap B4
      refine da_on rfl (Eq.trans (show sl _ _ _ = .bool (!m10) from rfl) (congrArg Value.bool (congrArg not hc13))) (d_cl (vs := [.float .f32 p1r]) en53 (ac rfl rfl) rfl ?_)
      refine (c53 p1 p1r m14 w11 hm14 p1h).mono ?_
      rintro _ w17 ⟨rfl, E17⟩
      refine ⟨_, rfl, ?_⟩
      have X18 : Ext w w17 := X12.trans E17
      refine da_on rfl (Eq.trans (show sl _ _ _ = .bool (!m10) from rfl) (congrArg Value.bool (congrArg not hc13))) (d_not rfl ?_)
      refine da_op rfl (d_pick (b := false) (Eq.trans (show ev _ _ = .bool (!m10) from rfl) (congrArg Value.bool (congrArg not hc13))) ?_)
      refine da_op rfl (d_mv (v := .bool (!m14)) rfl ?_)
      rcases Bool.eq_false_or_eq_true m14 with hc19 | hc19
      · skip
        replace hr := bif_t hr hc19
        refine da_on rfl (Eq.trans (show sl _ _ _ = .bool (!m14) from rfl) (congrArg Value.bool (congrArg not hc19))) (d_mv (v := .int .i64 p2) rfl ?_)
        obtain ⟨m20, hm20, hr⟩ := letv_out hr
        have B21 : w17.heap[w.heap.size]? = some (.cells #[.float .f32 p0r0, .float .f32 p0r1, .float .f32 p0r2, .float .f32 p0r3, .float .f32 p0r4, .float .f32 p0r5, .float .f32 p0r6, .float .f32 p0r7, .float .f32 p0r8, .float .f32 p0r9] 32 (0, 0)) := E17.heap B15
        have B22 : w17.heap[w1.heap.size]? = some (.cells #[.float .f32 0, .float .f32 0, .float .f32 0, .float .f32 0, .float .f32 0, .float .f32 0, .float .f32 0, .float .f32 0, .float .f32 0, .float .f32 0] 32 (0, 0)) := E17.heap B16
        refine da_on rfl (Eq.trans (show sl _ _ _ = .bool (!m14) from rfl) (congrArg Value.bool (congrArg not hc19))) (d_cl (vs := [.int .i64 p2, .int .i64 0, .int .i64 128]) en54 (ac rfl (ac rfl (ac rfl rfl))) rfl ?_)
        refine (c54 p2 0 128 m20 w17 hm20 ).mono ?_
        rintro _ w23 ⟨rfl, E23⟩
        refine ⟨_, rfl, ?_⟩
        have X24 : Ext w w23 := X18.trans E23
        refine da_on rfl (Eq.trans (show sl _ _ _ = .bool (!m14) from rfl) (congrArg Value.bool (congrArg not hc19))) (d_not rfl ?_)
        refine da_op rfl (d_pick (b := false) (Eq.trans (show ev _ _ = .bool (!m14) from rfl) (congrArg Value.bool (congrArg not hc19))) ?_)
        refine da_nil ?_
        obtain rfl := Option.some.inj hr
        exact ⟨rfl, (Ext.trans (Ext.trans (Ext.trans (Ext.refl w4) E11) E17) E23)⟩
      · skip
        replace hr := bif_f hr hc19
        refine da_off rfl (Eq.trans (show sl _ _ _ = .bool (!m14) from rfl) (congrArg Value.bool (congrArg not hc19))) (by decide) ?_
        refine da_off rfl (Eq.trans (show sl _ _ _ = .bool (!m14) from rfl) (congrArg Value.bool (congrArg not hc19))) (by decide) ?_
        refine da_off rfl (Eq.trans (show sl _ _ _ = .bool (!m14) from rfl) (congrArg Value.bool (congrArg not hc19))) (by decide) ?_
        refine da_op rfl (d_pick (b := true) (Eq.trans (show ev _ _ = .bool (!m14) from rfl) (congrArg Value.bool (congrArg not hc19))) ?_)
        refine da_nil ?_
        obtain rfl := Option.some.inj hr
        exact ⟨rfl, (Ext.trans (Ext.trans (Ext.refl w4) E11) E17)⟩
    · skip
      replace hr := bif_f hr hc13
      refine da_off rfl (Eq.trans (show sl _ _ _ = .bool (!m10) from rfl) (congrArg Value.bool (congrArg not hc13))) (by decide) ?_
      refine da_off rfl (Eq.trans (show sl _ _ _ = .bool (!m10) from rfl) (congrArg Value.bool (congrArg not hc13))) (by decide) ?_
      refine da_off rfl (Eq.trans (show sl _ _ _ = .bool (!m10) from rfl) (congrArg Value.bool (congrArg not hc13))) (by decide) ?_
      refine da_op rfl (d_pick (b := true) (Eq.trans (show ev _ _ = .bool (!m10) from rfl) (congrArg Value.bool (congrArg not hc13))) ?_)
      refine da_op rfl (d_mv (v := .bool true) rfl ?_)
      refine da_off rfl rfl (by decide) ?_
      refine da_off rfl rfl (by decide) ?_
      refine da_off rfl rfl (by decide) ?_
      refine da_op rfl (d_pick (b := true) rfl ?_)
      refine da_nil ?_
      obtain rfl := Option.some.inj hr
      exact ⟨rfl, (Ext.trans (Ext.refl w4) E11)⟩
  · skip
    rintro σ8 w8 o8 ⟨s28_8, E8⟩
    have s1_8 : σ8 1 = .float .f32 p1r := (o8 1 rfl).trans rfl
    have s2_8 : σ8 2 = .int .i64 p2 := (o8 2 rfl).trans rfl
    have s3_8 : σ8 3 = .func (.func 27) #[] #[.pointer (some ⟨p3c0b, p3c0o, none⟩)] := (o8 3 rfl).trans rfl
    have s4_8 : σ8 4 = .pointer (some ⟨w.heap.size, 0, none⟩) := (o8 4 rfl).trans rfl
    have s8_8 : σ8 8 = .pointer (some ⟨w1.heap.size, 0, none⟩) := (o8 8 rfl).trans rfl
    have X25 : Ext w w8 := X7.trans E8
    refine W_cond (b := m8) s28_8 (fun hc26 => ?_) (fun hc26 => ?_)
    · skip
      replace hr := bif_t hr hc26
      refine W_seq ?_
      refine W_region rfl ?_
      refine da_op rfl (d_bd (vs := []) (cs := #[.float .f32 0, .float .f32 0, .float .f32 0, .float .f32 0, .float .f32 0, .float .f32 0, .float .f32 0, .float .f32 0, .float .f32 0, .float .f32 0]) rfl (by kernel_rfl) ?_)
      have B27 : w8.heap[w1.heap.size]? = some (.cells #[.float .f32 0, .float .f32 0, .float .f32 0, .float .f32 0, .float .f32 0, .float .f32 0, .float .f32 0, .float .f32 0, .float .f32 0, .float .f32 0] 32 (0, 0)) := E8.heap B4
      refine da_op rfl (d_store (vs := #[.float .f32 0, .float .f32 0, .float .f32 0, .float .f32 0, .float .f32 0, .float .f32 0, .float .f32 0, .float .f32 0, .float .f32 0, .float .f32 0]) s8_8 rfl B27 size32 (Nat.le_of_ble_eq_true rfl) rfl fun w28 S28 => ?_)
      have X29 : Ext w w28 := Ext.step X25 S28.frmb (fun k _ hk => hk ▸ own5)
      have B30 : w28.heap[w1.heap.size]? = some (.cells #[.float .f32 0, .float .f32 0, .float .f32 0, .float .f32 0, .float .f32 0, .float .f32 0, .float .f32 0, .float .f32 0, .float .f32 0, .float .f32 0] 32 (0, 0)) := S28.here
      refine da_op rfl (d_as (v := .slice none 0 0) rfl ?_)
      refine da_op rfl (d_as (v := .bool false) rfl ?_)
      refine da_nil ?_
      refine W_ret ?_
      obtain rfl := Option.some.inj hr
      refine ⟨_, res3 (rv_cells (vs := #[.float .f32 0, .float .f32 0, .float .f32 0, .float .f32 0, .float .f32 0, .float .f32 0, .float .f32 0, .float .f32 0, .float .f32 0, .float .f32 0]) s8_8 agg32 size32 B30 rfl) (rv_tmp rfl) (rv_tmp rfl), ?_⟩
      exact ⟨0, 0, 0, 0, 0, 0, 0, 0, 0, 0, (.slice none 0 0), rfl, cn_f32_0, cn_f32_0, cn_f32_0, cn_f32_0, cn_f32_0, cn_f32_0, cn_f32_0, cn_f32_0, cn_f32_0, cn_f32_0, (OS.nil _ 29 encSVector), (fun k hk => by cases hk), X29⟩
    · skip
      replace hr := bif_f hr hc26
      refine W_skip ?_
      refine W_seq ?_
      refine W_region rfl ?_
      have B32 : w8.heap[w.heap.size]? = some (.cells #[.float .f32 p0r0, .float .f32 p0r1, .float .f32 p0r2, .float .f32 p0r3, .float .f32 p0r4, .float .f32 p0r5, .float .f32 p0r6, .float .f32 p0r7, .float .f32 p0r8, .float .f32 p0r9] 32 (0, 0)) := E8.heap B9
      have B33 : w8.heap[w1.heap.size]? = some (.cells #[.float .f32 0, .float .f32 0, .float .f32 0, .float .f32 0, .float .f32 0, .float .f32 0, .float .f32 0, .float .f32 0, .float .f32 0, .float .f32 0] 32 (0, 0)) := E8.heap B4
      refine da_op rfl (d_bslice0 un33 size29 fun w31 B31 E31 => ?_)
      have fr31 : ∀ k, (Value.slice (some ⟨w8.heap.size, 0, none⟩) 0 0).ownBlock = some k → w8.heap.size ≤ k := fun k hk => by cases hk; exact Nat.le_refl _
      have own31 : ∀ k, (Value.slice (some ⟨w8.heap.size, 0, none⟩) 0 0).ownBlock = some k → w.heap.size ≤ k := fun k hk => Nat.le_trans X25.size (fr31 k hk)
      have sp34 : ¬ (Value.slice (some ⟨w8.heap.size, 0, none⟩) 0 0).ownBlock = some w.heap.size := ne_fresh fr31 (lt_heap B32)
      have sp35 : ¬ (Value.slice (some ⟨w8.heap.size, 0, none⟩) 0 0).ownBlock = some w1.heap.size := ne_fresh fr31 (lt_heap B33)
      have X36 : Ext w w31 := X25.trans E31
      have O31 : OS w31 29 encSVector (Value.slice (some ⟨w8.heap.size, 0, none⟩) 0 0) ([] : List SVector) := OS.box (xs := ([] : List SVector)) B31 rfl (Nat.le_of_ble_eq_true rfl)
      refine da_op rfl (d_as (v := (Value.slice (some ⟨w8.heap.size, 0, none⟩) 0 0)) rfl ?_)
      refine da_nil ?_
      refine W_seq ?_
      refine W_seq ?_
      refine W_region rfl ?_
      refine da_op rfl (d_mv (v := .int .i64 p2) s2_8 ?_)
      refine da_op rfl (d_mv (v := .int .i64 0) rfl ?_)
      refine da_nil ?_
      refine W_block ?_
      have B38 : w31.heap[w.heap.size]? = some (.cells #[.float .f32 p0r0, .float .f32 p0r1, .float .f32 p0r2, .float .f32 p0r3, .float .f32 p0r4, .float .f32 p0r5, .float .f32 p0r6, .float .f32 p0r7, .float .f32 p0r8, .float .f32 p0r9] 32 (0, 0)) := E31.heap B32
      have B39 : w31.heap[w1.heap.size]? = some (.cells #[.float .f32 0, .float .f32 0, .float .f32 0, .float .f32 0, .float .f32 0, .float .f32 0, .float .f32 0, .float .f32 0, .float .f32 0, .float .f32 0] 32 (0, 0)) := E31.heap B33
      obtain ⟨m37, hm37, hr⟩ := bind_out hr
      refine W_loopM hm37 (fun (s37 : List SVector × Int × STop × STop) σ w' => ∃ i37_0v : Value, ∃ i37_2r0 : Nat, ∃ i37_2r1 : Nat, ∃ i37_2r2 : Nat, ∃ i37_2r3 : Nat, ∃ i37_2r4 : Nat, ∃ i37_2r5 : Nat, ∃ i37_2r6 : Nat, ∃ i37_2r7 : Nat, ∃ i37_2r8 : Nat, ∃ i37_2r9 : Nat, ∃ i37_3r0 : Nat, ∃ i37_3r1 : Nat, ∃ i37_3r2 : Nat, ∃ i37_3r3 : Nat, ∃ i37_3r4 : Nat, ∃ i37_3r5 : Nat, ∃ i37_3r6 : Nat, ∃ i37_3r7 : Nat, ∃ i37_3r8 : Nat, ∃ i37_3r9 : Nat, σ 11 = i37_0v ∧ σ 32 = .int .i64 s37.2.1 ∧ σ 1 = .float .f32 p1r ∧ σ 3 = .func (.func 27) #[] #[.pointer (some ⟨p3c0b, p3c0o, none⟩)] ∧ σ 4 = .pointer (some ⟨w.heap.size, 0, none⟩) ∧ σ 8 = .pointer (some ⟨w1.heap.size, 0, none⟩) ∧ σ 31 = .int .i64 p2 ∧ OS w' 29 encSVector i37_0v s37.1 ∧ (∀ k, i37_0v.ownBlock = some k → w.heap.size ≤ k) ∧ cn .f32 i37_2r0 = s37.2.2.1.moments.x ∧ cn .f32 i37_2r1 = s37.2.2.1.moments.y ∧ cn .f32 i37_2r2 = s37.2.2.1.moments.z ∧ cn .f32 i37_2r3 = s37.2.2.1.turn.w ∧ cn .f32 i37_2r4 = s37.2.2.1.turn.x ∧ cn .f32 i37_2r5 = s37.2.2.1.turn.y ∧ cn .f32 i37_2r6 = s37.2.2.1.turn.z ∧ cn .f32 i37_2r7 = s37.2.2.1.speed.x ∧ cn .f32 i37_2r8 = s37.2.2.1.speed.y ∧ cn .f32 i37_2r9 = s37.2.2.1.speed.z ∧ w'.heap[w1.heap.size]? = some (.cells #[.float .f32 i37_2r0, .float .f32 i37_2r1, .float .f32 i37_2r2, .float .f32 i37_2r3, .float .f32 i37_2r4, .float .f32 i37_2r5, .float .f32 i37_2r6, .float .f32 i37_2r7, .float .f32 i37_2r8, .float .f32 i37_2r9] 32 (0, 0)) ∧ cn .f32 i37_3r0 = s37.2.2.2.moments.x ∧ cn .f32 i37_3r1 = s37.2.2.2.moments.y ∧ cn .f32 i37_3r2 = s37.2.2.2.moments.z ∧ cn .f32 i37_3r3 = s37.2.2.2.turn.w ∧ cn .f32 i37_3r4 = s37.2.2.2.turn.x ∧ cn .f32 i37_3r5 = s37.2.2.2.turn.y ∧ cn .f32 i37_3r6 = s37.2.2.2.turn.z ∧ cn .f32 i37_3r7 = s37.2.2.2.speed.x ∧ cn .f32 i37_3r8 = s37.2.2.2.speed.y ∧ cn .f32 i37_3r9 = s37.2.2.2.speed.z ∧ w'.heap[w.heap.size]? = some (.cells #[.float .f32 i37_3r0, .float .f32 i37_3r1, .float .f32 i37_3r2, .float .f32 i37_3r3, .float .f32 i37_3r4, .float .f32 i37_3r5, .float .f32 i37_3r6, .float .f32 i37_3r7, .float .f32 i37_3r8, .float .f32 i37_3r9] 32 (0, 0)) ∧ ¬ i37_0v.ownBlock = some w1.heap.size ∧ ¬ i37_0v.ownBlock = some w.heap.size ∧ Ext w w') (fun (e37 : ((List SVector × STop × STop) ⊕ (List SVector × Bool × STop))) ex σ w' => sel e37 (fun e37 => ex = .exit 0 ∧ ∃ q37_0_0v : Value, ∃ q37_0_1r0 : Nat, ∃ q37_0_1r1 : Nat, ∃ q37_0_1r2 : Nat, ∃ q37_0_1r3 : Nat, ∃ q37_0_1r4 : Nat, ∃ q37_0_1r5 : Nat, ∃ q37_0_1r6 : Nat, ∃ q37_0_1r7 : Nat, ∃ q37_0_1r8 : Nat, ∃ q37_0_1r9 : Nat, ∃ q37_0_2r0 : Nat, ∃ q37_0_2r1 : Nat, ∃ q37_0_2r2 : Nat, ∃ q37_0_2r3 : Nat, ∃ q37_0_2r4 : Nat, ∃ q37_0_2r5 : Nat, ∃ q37_0_2r6 : Nat, ∃ q37_0_2r7 : Nat, ∃ q37_0_2r8 : Nat, ∃ q37_0_2r9 : Nat, σ 11 = q37_0_0v ∧ σ 4 = .pointer (some ⟨w.heap.size, 0, none⟩) ∧ σ 8 = .pointer (some ⟨w1.heap.size, 0, none⟩) ∧ OS w' 29 encSVector q37_0_0v e37.1 ∧ (∀ k, q37_0_0v.ownBlock = some k → w.heap.size ≤ k) ∧ cn .f32 q37_0_1r0 = e37.2.1.moments.x ∧ cn .f32 q37_0_1r1 = e37.2.1.moments.y ∧ cn .f32 q37_0_1r2 = e37.2.1.moments.z ∧ cn .f32 q37_0_1r3 = e37.2.1.turn.w ∧ cn .f32 q37_0_1r4 = e37.2.1.turn.x ∧ cn .f32 q37_0_1r5 = e37.2.1.turn.y ∧ cn .f32 q37_0_1r6 = e37.2.1.turn.z ∧ cn .f32 q37_0_1r7 = e37.2.1.speed.x ∧ cn .f32 q37_0_1r8 = e37.2.1.speed.y ∧ cn .f32 q37_0_1r9 = e37.2.1.speed.z ∧ w'.heap[w1.heap.size]? = some (.cells #[.float .f32 q37_0_1r0, .float .f32 q37_0_1r1, .float .f32 q37_0_1r2, .float .f32 q37_0_1r3, .float .f32 q37_0_1r4, .float .f32 q37_0_1r5, .float .f32 q37_0_1r6, .float .f32 q37_0_1r7, .float .f32 q37_0_1r8, .float .f32 q37_0_1r9] 32 (0, 0)) ∧ cn .f32 q37_0_2r0 = e37.2.2.moments.x ∧ cn .f32 q37_0_2r1 = e37.2.2.moments.y ∧ cn .f32 q37_0_2r2 = e37.2.2.moments.z ∧ cn .f32 q37_0_2r3 = e37.2.2.turn.w ∧ cn .f32 q37_0_2r4 = e37.2.2.turn.x ∧ cn .f32 q37_0_2r5 = e37.2.2.turn.y ∧ cn .f32 q37_0_2r6 = e37.2.2.turn.z ∧ cn .f32 q37_0_2r7 = e37.2.2.speed.x ∧ cn .f32 q37_0_2r8 = e37.2.2.speed.y ∧ cn .f32 q37_0_2r9 = e37.2.2.speed.z ∧ w'.heap[w.heap.size]? = some (.cells #[.float .f32 q37_0_2r0, .float .f32 q37_0_2r1, .float .f32 q37_0_2r2, .float .f32 q37_0_2r3, .float .f32 q37_0_2r4, .float .f32 q37_0_2r5, .float .f32 q37_0_2r6, .float .f32 q37_0_2r7, .float .f32 q37_0_2r8, .float .f32 q37_0_2r9] 32 (0, 0)) ∧ ¬ q37_0_0v.ownBlock = some w1.heap.size ∧ ¬ q37_0_0v.ownBlock = some w.heap.size ∧ Ext w w') (fun e37 => ex = .ret ∧ ∃ q37_1_0v : Value, ∃ q37_1_2r0 : Nat, ∃ q37_1_2r1 : Nat, ∃ q37_1_2r2 : Nat, ∃ q37_1_2r3 : Nat, ∃ q37_1_2r4 : Nat, ∃ q37_1_2r5 : Nat, ∃ q37_1_2r6 : Nat, ∃ q37_1_2r7 : Nat, ∃ q37_1_2r8 : Nat, ∃ q37_1_2r9 : Nat, σ 9 = q37_1_0v ∧ σ 10 = .bool e37.2.1 ∧ σ 8 = .pointer (some ⟨w1.heap.size, 0, none⟩) ∧ OS w' 29 encSVector q37_1_0v e37.1 ∧ (∀ k, q37_1_0v.ownBlock = some k → w.heap.size ≤ k) ∧ cn .f32 q37_1_2r0 = e37.2.2.moments.x ∧ cn .f32 q37_1_2r1 = e37.2.2.moments.y ∧ cn .f32 q37_1_2r2 = e37.2.2.moments.z ∧ cn .f32 q37_1_2r3 = e37.2.2.turn.w ∧ cn .f32 q37_1_2r4 = e37.2.2.turn.x ∧ cn .f32 q37_1_2r5 = e37.2.2.turn.y ∧ cn .f32 q37_1_2r6 = e37.2.2.turn.z ∧ cn .f32 q37_1_2r7 = e37.2.2.speed.x ∧ cn .f32 q37_1_2r8 = e37.2.2.speed.y ∧ cn .f32 q37_1_2r9 = e37.2.2.speed.z ∧ w'.heap[w1.heap.size]? = some (.cells #[.float .f32 q37_1_2r0, .float .f32 q37_1_2r1, .float .f32 q37_1_2r2, .float .f32 q37_1_2r3, .float .f32 q37_1_2r4, .float .f32 q37_1_2r5, .float .f32 q37_1_2r6, .float .f32 q37_1_2r7, .float .f32 q37_1_2r8, .float .f32 q37_1_2r9] 32 (0, 0)) ∧ ¬ q37_1_0v.ownBlock = some w1.heap.size ∧ Ext w w')) ⟨(Value.slice (some ⟨w8.heap.size, 0, none⟩) 0 0), 0, 0, 0, 0, 0, 0, 0, 0, 0, 0, p0r0, p0r1, p0r2, p0r3, p0r4, p0r5, p0r6, p0r7, p0r8, p0r9, rfl, rfl, s1_8, s3_8, s4_8, s8_8, rfl, O31, own31, cn_f32_0, cn_f32_0, cn_f32_0, cn_f32_0, cn_f32_0, cn_f32_0, cn_f32_0, cn_f32_0, cn_f32_0, cn_f32_0, B39, p0h0, p0h1, p0h2, p0h3, p0h4, p0h5, p0h6, p0h7, p0h8, p0h9, B38, sp35, sp34, X36⟩ ?_ ?_
      · skip
        rintro s37 σl37 wl37 r37l ⟨i37_0v, i37_2r0, i37_2r1, i37_2r2, i37_2r3, i37_2r4, i37_2r5, i37_2r6, i37_2r7, i37_2r8, i37_2r9, i37_3r0, i37_3r1, i37_3r2, i37_3r3, i37_3r4, i37_3r5, i37_3r6, i37_3r7, i37_3r8, i37_3r9, i37_S11, i37_S32, i37_S1, i37_S3, i37_S4, i37_S8, i37_S31, i37_0R, i37_0O, i37_2h0, i37_2h1, i37_2h2, i37_2h3, i37_2h4, i37_2h5, i37_2h6, i37_2h7, i37_2h8, i37_2h9, i37_2B, i37_3h0, i37_3h1, i37_3h2, i37_3h3, i37_3h4, i37_3h5, i37_3h6, i37_3h7, i37_3h8, i37_3h9, i37_3B, i37_A0, i37_A1, i37_X⟩ hr
        refine W_seq ?_
        refine W_region rfl ?_
        refine da_op rfl (d_icmp cLss i37_S32 i37_S31 ?_)
        refine da_nil ?_
        refine W_seq ?_
        refine W_cond (b := (icmp .lss s37.2.1 p2)) rfl (fun hc40 => ?_) (fun hc40 => ?_)
        · skip
          replace hr := bif_t hr hc40
          refine W_skip ?_
          refine W_seq ?_
          refine W_block ?_
          refine W_seq ?_
          refine W_region rfl ?_
          refine da_op rfl (d_mv (v := .func (.func 27) #[] #[.pointer (some ⟨p3c0b, p3c0o, none⟩)]) i37_S3 ?_)
          refine da_op rfl (d_loads (vs := #[.float .f32 i37_3r0, .float .f32 i37_3r1, .float .f32 i37_3r2, .float .f32 i37_3r3, .float .f32 i37_3r4, .float .f32 i37_3r5, .float .f32 i37_3r6, .float .f32 i37_3r7, .float .f32 i37_3r8, .float .f32 i37_3r9]) i37_S4 agg32 size32 i37_3B rfl ?_)
          obtain ⟨m41, hm41, hr⟩ := letv_out hr
          have B42 : wl37.heap[p3c0b]? = some (.cells p3c0c p3c0T p3c0f) := i37_X.heap p3c0B
          refine da_op rfl (d_clv (vs := [.agg #[.float .f32 i37_3r0, .float .f32 i37_3r1, .float .f32 i37_3r2, .float .f32 i37_3r3, .float .f32 i37_3r4, .float .f32 i37_3r5, .float .f32 i37_3r6, .float .f32 i37_3r7, .float .f32 i37_3r8, .float .f32 i37_3r9]]) (cap := [.pointer (some ⟨p3c0b, p3c0o, none⟩)]) en27 rfl (ac rfl rfl) ?_)
          refine (c27 s37.2.2.2 (⟨p3c0.x, p3c0.y, p3c0.z⟩ : SVector) i37_3r0 i37_3r1 i37_3r2 i37_3r3 i37_3r4 i37_3r5 i37_3r6 i37_3r7 i37_3r8 i37_3r9 p3c0b p3c0o p3c0c p3c0T p3c0f p3c0r0 p3c0r1 p3c0r2 m41 wl37 hm41 i37_3h0 i37_3h1 i37_3h2 i37_3h3 i37_3h4 i37_3h5 i37_3h6 i37_3h7 i37_3h8 i37_3h9 p3c0h0 p3c0h1 p3c0h2 B42 (sub_take (vs := #[.float .f32 p3c0r0, .float .f32 p3c0r1, .float .f32 p3c0r2]) (us := #[.float .f32 p3c0r0, .float .f32 p3c0r1, .float .f32 p3c0r2]) (i := 0) p3c0P rfl (Nat.le_of_ble_eq_true rfl))).mono ?_
          rintro _ w43 ⟨q43_0r0, q43_0r1, q43_0r2, rfl, q43_0h0, q43_0h1, q43_0h2, E43⟩
          refine ⟨_, rfl, ?_⟩
          have X44 : Ext w w43 := i37_X.trans E43
          refine da_op rfl (d_mv (v := .tuple #[.agg #[.float .f32 q43_0r0, .float .f32 q43_0r1, .float .f32 q43_0r2], .bool m41.2]) rfl ?_)
          refine da_op rfl (d_extract (v := .agg #[.float .f32 q43_0r0, .float .f32 q43_0r1, .float .f32 q43_0r2]) rfl rfl ?_)
          refine da_op rfl (d_extract (v := .bool m41.2) rfl rfl ?_)
          have B46 : OS w43 29 encSVector i37_0v s37.1 := i37_0R.ext E43
          have B47 : w43.heap[w1.heap.size]? = some (.cells #[.float .f32 i37_2r0, .float .f32 i37_2r1, .float .f32 i37_2r2, .float .f32 i37_2r3, .float .f32 i37_2r4, .float .f32 i37_2r5, .float .f32 i37_2r6, .float .f32 i37_2r7, .float .f32 i37_2r8, .float .f32 i37_2r9] 32 (0, 0)) := E43.heap i37_2B
          have B48 : w43.heap[w.heap.size]? = some (.cells #[.float .f32 i37_3r0, .float .f32 i37_3r1, .float .f32 i37_3r2, .float .f32 i37_3r3, .float .f32 i37_3r4, .float .f32 i37_3r5, .float .f32 i37_3r6, .float .f32 i37_3r7, .float .f32 i37_3r8, .float .f32 i37_3r9] 32 (0, 0)) := E43.heap i37_3B
          refine da_op rfl (d_alloc (cs := #[.float .f32 0, .float .f32 0, .float .f32 0]) zero29 rfl fun w45 B45 E45 => ?_)
          have own49 : w.heap.size ≤ w43.heap.size := Nat.le_trans X44.size (Nat.le_refl _)
          have sp50 : ¬ i37_0v.ownBlock = some w43.heap.size := OS.ne_new B46 (Nat.le_refl _)
          have sp51 : w1.heap.size ≠ w43.heap.size := Nat.ne_of_lt (Nat.lt_of_lt_of_le (lt_heap B47) (Nat.le_refl _))
          have sp52 : w.heap.size ≠ w43.heap.size := Nat.ne_of_lt (Nat.lt_of_lt_of_le (lt_heap B48) (Nat.le_refl _))
          have X53 : Ext w w45 := X44.trans E45
          refine da_op rfl (d_store (vs := #[.float .f32 q43_0r0, .float .f32 q43_0r1, .float .f32 q43_0r2]) rfl rfl B45 size29 (Nat.le_of_ble_eq_true rfl) rfl fun w54 S54 => ?_)
          have X55 : Ext w w54 := Ext.step X53 S54.frmb (fun k _ hk => hk ▸ own49)
          have B56 : w54.heap[w43.heap.size]? = some (.cells #[.float .f32 q43_0r0, .float .f32 q43_0r1, .float .f32 q43_0r2] 29 (0, 0)) := S54.here
          refine da_op rfl (d_as (v := .bool m41.2) rfl ?_)
          refine da_nil ?_
          refine W_seq ?_
          refine W_region rfl ?_
          have B57 : w54.heap[w.heap.size]? = some (.cells #[.float .f32 i37_3r0, .float .f32 i37_3r1, .float .f32 i37_3r2, .float .f32 i37_3r3, .float .f32 i37_3r4, .float .f32 i37_3r5, .float .f32 i37_3r6, .float .f32 i37_3r7, .float .f32 i37_3r8, .float .f32 i37_3r9] 32 (0, 0)) := S54.frmb.heap sp52 (E45.heap B48)
          refine da_op rfl (d_loads (vs := #[.float .f32 i37_3r0, .float .f32 i37_3r1, .float .f32 i37_3r2, .float .f32 i37_3r3, .float .f32 i37_3r4, .float .f32 i37_3r5, .float .f32 i37_3r6, .float .f32 i37_3r7, .float .f32 i37_3r8, .float .f32 i37_3r9]) i37_S4 agg32 size32 B57 rfl ?_)
          refine da_op rfl (d_loads (vs := #[.float .f32 q43_0r0, .float .f32 q43_0r1, .float .f32 q43_0r2]) rfl agg29 size29 B56 rfl ?_)
          refine da_op rfl (d_mv (v := .float .f32 p1r) i37_S1 ?_)
          obtain ⟨m58, hm58, hr⟩ := bind_out hr
          have B59 : OS w54 29 encSVector i37_0v s37.1 := (B46.ext E45).frm S54.frmb (rb sp50)
          have B60 : w54.heap[w1.heap.size]? = some (.cells #[.float .f32 i37_2r0, .float .f32 i37_2r1, .float .f32 i37_2r2, .float .f32 i37_2r3, .float .f32 i37_2r4, .float .f32 i37_2r5, .float .f32 i37_2r6, .float .f32 i37_2r7, .float .f32 i37_2r8, .float .f32 i37_2r9] 32 (0, 0)) := S54.frmb.heap sp51 (E45.heap B47)
          refine da_op rfl (d_cl (vs := [.agg #[.float .f32 i37_3r0, .float .f32 i37_3r1, .float .f32 i37_3r2, .float .f32 i37_3r3, .float .f32 i37_3r4, .float .f32 i37_3r5, .float .f32 i37_3r6, .float .f32 i37_3r7, .float .f32 i37_3r8, .float .f32 i37_3r9], .agg #[.float .f32 q43_0r0, .float .f32 q43_0r1, .float .f32 q43_0r2], .float .f32 p1r]) en55 (ac rfl (ac rfl (ac rfl rfl))) rfl ?_)
          refine (c55 s37.2.2.2 m41.1 p1 i37_3r0 i37_3r1 i37_3r2 i37_3r3 i37_3r4 i37_3r5 i37_3r6 i37_3r7 i37_3r8 i37_3r9 q43_0r0 q43_0r1 q43_0r2 p1r m58 w54 hm58 i37_3h0 i37_3h1 i37_3h2 i37_3h3 i37_3h4 i37_3h5 i37_3h6 i37_3h7 i37_3h8 i37_3h9 q43_0h0 q43_0h1 q43_0h2 p1h).mono ?_
          rintro _ w61 ⟨q61_0r0, q61_0r1, q61_0r2, q61_0r3, q61_0r4, q61_0r5, q61_0r6, q61_0r7, q61_0r8, q61_0r9, rfl, q61_0h0, q61_0h1, q61_0h2, q61_0h3, q61_0h4, q61_0h5, q61_0h6, q61_0h7, q61_0h8, q61_0h9, E61⟩
          refine ⟨_, rfl, ?_⟩
          have X62 : Ext w w61 := X55.trans E61
          refine da_op rfl (d_mv (v := .tuple #[.agg #[.float .f32 q61_0r0, .float .f32 q61_0r1, .float .f32 q61_0r2, .float .f32 q61_0r3, .float .f32 q61_0r4, .float .f32 q61_0r5, .float .f32 q61_0r6, .float .f32 q61_0r7, .float .f32 q61_0r8, .float .f32 q61_0r9], .bool m58.2]) rfl ?_)
          refine da_op rfl (d_extract (v := .agg #[.float .f32 q61_0r0, .float .f32 q61_0r1, .float .f32 q61_0r2, .float .f32 q61_0r3, .float .f32 q61_0r4, .float .f32 q61_0r5, .float .f32 q61_0r6, .float .f32 q61_0r7, .float .f32 q61_0r8, .float .f32 q61_0r9]) rfl rfl ?_)
          refine da_op rfl (d_extract (v := .bool m58.2) rfl rfl ?_)
          have B64 : OS w61 29 encSVector i37_0v s37.1 := B59.ext E61
          have B65 : w61.heap[w1.heap.size]? = some (.cells #[.float .f32 i37_2r0, .float .f32 i37_2r1, .float .f32 i37_2r2, .float .f32 i37_2r3, .float .f32 i37_2r4, .float .f32 i37_2r5, .float .f32 i37_2r6, .float .f32 i37_2r7, .float .f32 i37_2r8, .float .f32 i37_2r9] 32 (0, 0)) := E61.heap B60
          have B66 : w61.heap[w.heap.size]? = some (.cells #[.float .f32 i37_3r0, .float .f32 i37_3r1, .float .f32 i37_3r2, .float .f32 i37_3r3, .float .f32 i37_3r4, .float .f32 i37_3r5, .float .f32 i37_3r6, .float .f32 i37_3r7, .float .f32 i37_3r8, .float .f32 i37_3r9] 32 (0, 0)) := E61.heap B57
          have B67 : w61.heap[w43.heap.size]? = some (.cells #[.float .f32 q43_0r0, .float .f32 q43_0r1, .float .f32 q43_0r2] 29 (0, 0)) := E61.heap B56
          refine da_op rfl (d_alloc (cs := #[.float .f32 0, .float .f32 0, .float .f32 0, .float .f32 0, .float .f32 0, .float .f32 0, .float .f32 0, .float .f32 0, .float .f32 0, .float .f32 0]) zero32 rfl fun w63 B63 E63 => ?_)
          have own68 : w.heap.size ≤ w61.heap.size := Nat.le_trans X62.size (Nat.le_refl _)
          have sp69 : ¬ i37_0v.ownBlock = some w61.heap.size := OS.ne_new B64 (Nat.le_refl _)
          have sp70 : w1.heap.size ≠ w61.heap.size := Nat.ne_of_lt (Nat.lt_of_lt_of_le (lt_heap B65) (Nat.le_refl _))
          have sp71 : w.heap.size ≠ w61.heap.size := Nat.ne_of_lt (Nat.lt_of_lt_of_le (lt_heap B66) (Nat.le_refl _))
          have sp72 : w43.heap.size ≠ w61.heap.size := Nat.ne_of_lt (Nat.lt_of_lt_of_le (lt_heap B67) (Nat.le_refl _))
          have X73 : Ext w w63 := X62.trans E63
          refine da_op rfl (d_store (vs := #[.float .f32 q61_0r0, .float .f32 q61_0r1, .float .f32 q61_0r2, .float .f32 q61_0r3, .float .f32 q61_0r4, .float .f32 q61_0r5, .float .f32 q61_0r6, .float .f32 q61_0r7, .float .f32 q61_0r8, .float .f32 q61_0r9]) rfl rfl B63 size32 (Nat.le_of_ble_eq_true rfl) rfl fun w74 S74 => ?_)
          have X75 : Ext w w74 := Ext.step X73 S74.frmb (fun k _ hk => hk ▸ own68)
          have B76 : w74.heap[w61.heap.size]? = some (.cells #[.float .f32 q61_0r0, .float .f32 q61_0r1, .float .f32 q61_0r2, .float .f32 q61_0r3, .float .f32 q61_0r4, .float .f32 q61_0r5, .float .f32 q61_0r6, .float .f32 q61_0r7, .float .f32 q61_0r8, .float .f32 q61_0r9] 32 (0, 0)) := S74.here
          refine da_op rfl (d_as (v := .bool m58.2) rfl ?_)
          refine da_nil ?_
          refine W_seq ?_
          refine W_seq ?_
          have B78 : OS w74 29 encSVector i37_0v s37.1 := (B64.ext E63).frm S74.frmb (rb sp69)
          have B79 : w74.heap[w1.heap.size]? = some (.cells #[.float .f32 i37_2r0, .float .f32 i37_2r1, .float .f32 i37_2r2, .float .f32 i37_2r3, .float .f32 i37_2r4, .float .f32 i37_2r5, .float .f32 i37_2r6, .float .f32 i37_2r7, .float .f32 i37_2r8, .float .f32 i37_2r9] 32 (0, 0)) := S74.frmb.heap sp70 (E63.heap B65)
          have B80 : w74.heap[w.heap.size]? = some (.cells #[.float .f32 i37_3r0, .float .f32 i37_3r1, .float .f32 i37_3r2, .float .f32 i37_3r3, .float .f32 i37_3r4, .float .f32 i37_3r5, .float .f32 i37_3r6, .float .f32 i37_3r7, .float .f32 i37_3r8, .float .f32 i37_3r9] 32 (0, 0)) := S74.frmb.heap sp71 (E63.heap B66)
          obtain ⟨m77, hm77, hr⟩ := bind_out hr
          refine W_cut (fun σ' w' => σ' 57 = .bool m77 ∧ Ext w74 w') rfl ?_ ?_
          · skip
            have hr := hm77
            refine da_op rfl (d_mv (v := .bool m41.2) rfl ?_)
            refine da_op rfl (d_not rfl ?_)
            refine da_op rfl (d_mv (v := .bool (!m41.2)) rfl ?_)
            rcases Bool.eq_false_or_eq_true m41.2 with hc81 | hc81
            · skip
              replace hr := bif_t hr hc81
              refine da_on rfl (Eq.trans (show sl _ _ _ = .bool (!m41.2) from rfl) (congrArg Value.bool (congrArg not hc81))) (d_mv (v := .bool m58.2) rfl ?_)
              refine da_on rfl (Eq.trans (show sl _ _ _ = .bool (!m41.2) from rfl) (congrArg Value.bool (congrArg not hc81))) (d_not rfl ?_)
              refine da_op rfl (d_pick (b := false) (Eq.trans (show ev _ _ = .bool (!m41.2) from rfl) (congrArg Value.bool (congrArg not hc81))) ?_)
              refine da_op rfl (d_mv (v := .bool (!m58.2)) rfl ?_)
              rcases Bool.eq_false_or_eq_true m58.2 with hc82 | hc82
              · skip
                replace hr := bif_t hr hc82
                obtain ⟨m83, hm83, hr⟩ := letv_out hr
                refine da_on rfl (Eq.trans (show sl _ _ _ = .bool (!m58.2) from rfl) (congrArg Value.bool (congrArg not hc82))) (d_cl (vs := [.pointer (some ⟨w61.heap.size, 0, none⟩)]) en56 (ac rfl rfl) rfl ?_)
                refine (c56 m58.1 w61.heap.size 0 #[.float .f32 q61_0r0, .float .f32 q61_0r1, .float .f32 q61_0r2, .float .f32 q61_0r3, .float .f32 q61_0r4, .float .f32 q61_0r5, .float .f32 q61_0r6, .float .f32 q61_0r7, .float .f32 q61_0r8, .float .f32 q61_0r9] 32 (0, 0) q61_0r0 q61_0r1 q61_0r2 q61_0r3 q61_0r4 q61_0r5 q61_0r6 q61_0r7 q61_0r8 q61_0r9 m83 w74 hm83 q61_0h0 q61_0h1 q61_0h2 q61_0h3 q61_0h4 q61_0h5 q61_0h6 q61_0h7 q61_0h8 q61_0h9 B76 rfl).mono ?_
                rintro _ w84 ⟨q84_0r0, q84_0r1, q84_0r2, rfl, q84_0h0, q84_0h1, q84_0h2, E84⟩
                refine ⟨_, rfl, ?_⟩
                have X85 : Ext w w84 := X75.trans E84
                obtain ⟨m86, hm86, hr⟩ := bind_out hr
                have B87 : OS w84 29 encSVector i37_0v s37.1 := B78.ext E84
                have B88 : w84.heap[w1.heap.size]? = some (.cells #[.float .f32 i37_2r0, .float .f32 i37_2r1, .float .f32 i37_2r2, .float .f32 i37_2r3, .float .f32 i37_2r4, .float .f32 i37_2r5, .float .f32 i37_2r6, .float .f32 i37_2r7, .float .f32 i37_2r8, .float .f32 i37_2r9] 32 (0, 0)) := E84.heap B79
                have B89 : w84.heap[w.heap.size]? = some (.cells #[.float .f32 i37_3r0, .float .f32 i37_3r1, .float .f32 i37_3r2, .float .f32 i37_3r3, .float .f32 i37_3r4, .float .f32 i37_3r5, .float .f32 i37_3r6, .float .f32 i37_3r7, .float .f32 i37_3r8, .float .f32 i37_3r9] 32 (0, 0)) := E84.heap B80
                have B90 : w84.heap[w61.heap.size]? = some (.cells #[.float .f32 q61_0r0, .float .f32 q61_0r1, .float .f32 q61_0r2, .float .f32 q61_0r3, .float .f32 q61_0r4, .float .f32 q61_0r5, .float .f32 q61_0r6, .float .f32 q61_0r7, .float .f32 q61_0r8, .float .f32 q61_0r9] 32 (0, 0)) := E84.heap B76
                refine da_on rfl (Eq.trans (show sl _ _ _ = .bool (!m58.2) from rfl) (congrArg Value.bool (congrArg not hc82))) (d_cl (vs := [.agg #[.float .f32 q84_0r0, .float .f32 q84_0r1, .float .f32 q84_0r2]]) en25 (ac rfl rfl) rfl ?_)
                refine (c25 m83 q84_0r0 q84_0r1 q84_0r2 m86 w84 hm86 q84_0h0 q84_0h1 q84_0h2).mono ?_
                rintro _ w91 ⟨rfl, E91⟩
                refine ⟨_, rfl, ?_⟩
                have X92 : Ext w w91 := X85.trans E91
                refine da_on rfl (Eq.trans (show sl _ _ _ = .bool (!m58.2) from rfl) (congrArg Value.bool (congrArg not hc82))) (d_not rfl ?_)
                refine da_op rfl (d_pick (b := false) (Eq.trans (show ev _ _ = .bool (!m58.2) from rfl) (congrArg Value.bool (congrArg not hc82))) ?_)
                refine da_nil ?_
                obtain rfl := Option.some.inj hr
                exact ⟨rfl, (Ext.trans (Ext.trans (Ext.refl w74) E84) E91)⟩
              · skip
                replace hr := bif_f hr hc82
                refine da_off rfl (Eq.trans (show sl _ _ _ = .bool (!m58.2) from rfl) (congrArg Value.bool (congrArg not hc82))) (by decide) ?_
                refine da_off rfl (Eq.trans (show sl _ _ _ = .bool (!m58.2) from rfl) (congrArg Value.bool (congrArg not hc82))) (by decide) ?_
                refine da_off rfl (Eq.trans (show sl _ _ _ = .bool (!m58.2) from rfl) (congrArg Value.bool (congrArg not hc82))) (by decide) ?_
                refine da_op rfl (d_pick (b := true) (Eq.trans (show ev _ _ = .bool (!m58.2) from rfl) (congrArg Value.bool (congrArg not hc82))) ?_)
                refine da_nil ?_
                obtain rfl := Option.some.inj hr
                exact ⟨rfl, (Ext.refl w74)⟩
            · skip
              replace hr := bif_f hr hc81
              refine da_off rfl (Eq.trans (show sl _ _ _ = .bool (!m41.2) from rfl) (congrArg Value.bool (congrArg not hc81))) (by decide) ?_
              refine da_off rfl (Eq.trans (show sl _ _ _ = .bool (!m41.2) from rfl) (congrArg Value.bool (congrArg not hc81))) (by decide) ?_
              refine da_op rfl (d_pick (b := true) (Eq.trans (show ev _ _ = .bool (!m41.2) from rfl) (congrArg Value.bool (congrArg not hc81))) ?_)
              refine da_op rfl (d_mv (v := .bool true) rfl ?_)
              refine da_off rfl rfl (by decide) ?_
              refine da_off rfl rfl (by decide) ?_
              refine da_off rfl rfl (by decide) ?_
              refine da_op rfl (d_pick (b := true) rfl ?_)
              refine da_nil ?_
              obtain rfl := Option.some.inj hr
              exact ⟨rfl, (Ext.refl w74)⟩
          · skip
            rintro σ77 w77 o77 ⟨s57_77, E77⟩
            have s11_77 : σ77 11 = i37_0v := (o77 11 rfl).trans i37_S11
            have s32_77 : σ77 32 = .int .i64 s37.2.1 := (o77 32 rfl).trans i37_S32
            have s1_77 : σ77 1 = .float .f32 p1r := (o77 1 rfl).trans i37_S1
            have s3_77 : σ77 3 = .func (.func 27) #[] #[.pointer (some ⟨p3c0b, p3c0o, none⟩)] := (o77 3 rfl).trans i37_S3
            have s4_77 : σ77 4 = .pointer (some ⟨w.heap.size, 0, none⟩) := (o77 4 rfl).trans i37_S4
            have s8_77 : σ77 8 = .pointer (some ⟨w1.heap.size, 0, none⟩) := (o77 8 rfl).trans i37_S8
            have s31_77 : σ77 31 = .int .i64 p2 := (o77 31 rfl).trans i37_S31
            have s14_77 : σ77 14 = .pointer (some ⟨w61.heap.size, 0, none⟩) := (o77 14 rfl).trans rfl
            have X93 : Ext w w77 := X75.trans E77
            refine W_cond (b := m77) s57_77 (fun hc94 => ?_) (fun hc94 => ?_)
            · skip
              replace hr := bif_t hr hc94
              refine W_seq ?_
              refine W_region rfl ?_
              refine da_op rfl (d_bd (vs := []) (cs := #[.float .f32 0, .float .f32 0, .float .f32 0, .float .f32 0, .float .f32 0, .float .f32 0, .float .f32 0, .float .f32 0, .float .f32 0, .float .f32 0]) rfl (by kernel_rfl) ?_)
              have B95 : w77.heap[w1.heap.size]? = some (.cells #[.float .f32 i37_2r0, .float .f32 i37_2r1, .float .f32 i37_2r2, .float .f32 i37_2r3, .float .f32 i37_2r4, .float .f32 i37_2r5, .float .f32 i37_2r6, .float .f32 i37_2r7, .float .f32 i37_2r8, .float .f32 i37_2r9] 32 (0, 0)) := E77.heap B79
              refine da_op rfl (d_store (vs := #[.float .f32 0, .float .f32 0, .float .f32 0, .float .f32 0, .float .f32 0, .float .f32 0, .float .f32 0, .float .f32 0, .float .f32 0, .float .f32 0]) s8_77 rfl B95 size32 (Nat.le_of_ble_eq_true rfl) rfl fun w96 S96 => ?_)
              have X97 : Ext w w96 := Ext.step X93 S96.frmb (fun k _ hk => hk ▸ own5)
              have B98 : w96.heap[w1.heap.size]? = some (.cells #[.float .f32 0, .float .f32 0, .float .f32 0, .float .f32 0, .float .f32 0, .float .f32 0, .float .f32 0, .float .f32 0, .float .f32 0, .float .f32 0] 32 (0, 0)) := S96.here
              refine da_op rfl (d_as (v := .slice none 0 0) rfl ?_)
              refine da_op rfl (d_as (v := .bool false) rfl ?_)
              refine da_nil ?_
              refine W_ret ?_
              obtain rfl := Option.some.inj hr
              exact ⟨_, rfl, rfl, (.slice none 0 0), 0, 0, 0, 0, 0, 0, 0, 0, 0, 0, rfl, rfl, s8_77, (OS.nil _ 29 encSVector), (fun k hk => by cases hk), cn_f32_0, cn_f32_0, cn_f32_0, cn_f32_0, cn_f32_0, cn_f32_0, cn_f32_0, cn_f32_0, cn_f32_0, cn_f32_0, B98, (by intro e; cases e), X97⟩
            · skip
              replace hr := bif_f hr hc94
              refine W_skip ?_
              have B100 : w77.heap[p3c0b]? = some (.cells p3c0c p3c0T p3c0f) := X93.heap p3c0B
              have B101 : OS w77 29 encSVector i37_0v s37.1 := B78.ext E77
              have B102 : w77.heap[w1.heap.size]? = some (.cells #[.float .f32 i37_2r0, .float .f32 i37_2r1, .float .f32 i37_2r2, .float .f32 i37_2r3, .float .f32 i37_2r4, .float .f32 i37_2r5, .float .f32 i37_2r6, .float .f32 i37_2r7, .float .f32 i37_2r8, .float .f32 i37_2r9] 32 (0, 0)) := E77.heap B79
              have B103 : w77.heap[w.heap.size]? = some (.cells #[.float .f32 i37_3r0, .float .f32 i37_3r1, .float .f32 i37_3r2, .float .f32 i37_3r3, .float .f32 i37_3r4, .float .f32 i37_3r5, .float .f32 i37_3r6, .float .f32 i37_3r7, .float .f32 i37_3r8, .float .f32 i37_3r9] 32 (0, 0)) := E77.heap B80
              have B104 : w77.heap[w61.heap.size]? = some (.cells #[.float .f32 q61_0r0, .float .f32 q61_0r1, .float .f32 q61_0r2, .float .f32 q61_0r3, .float .f32 q61_0r4, .float .f32 q61_0r5, .float .f32 q61_0r6, .float .f32 q61_0r7, .float .f32 q61_0r8, .float .f32 q61_0r9] 32 (0, 0)) := E77.heap B76
              obtain ⟨m105, hm105, hr⟩ := letv_out hr
              obtain ⟨m106, hm106, hr⟩ := bind_out hr
              refine W_any [fun k _ => i37_0v.ownBlock = some k, fun k _ => k = w.heap.size] [{ V := fun _ v _ => v = (.agg #[.float .f32 q61_0r0, .float .f32 q61_0r1, .float .f32 q61_0r2, .float .f32 q61_0r3, .float .f32 q61_0r4, .float .f32 q61_0r5, .float .f32 q61_0r6, .float .f32 q61_0r7, .float .f32 q61_0r8, .float .f32 q61_0r9]) }, { V := fun _ v _ => v = i37_0v }, { V := fun _ v _ => ∃ d99_2_0r0 : Nat, ∃ d99_2_0r1 : Nat, ∃ d99_2_0r2 : Nat, v = (.agg #[.float .f32 d99_2_0r0, .float .f32 d99_2_0r1, .float .f32 d99_2_0r2]) ∧ cn .f32 d99_2_0r0 = m105.x ∧ cn .f32 d99_2_0r1 = m105.y ∧ cn .f32 d99_2_0r2 = m105.z }, { V := fun _ v w' => ∃ d99_3v : Value, v = d99_3v ∧ (∀ k, d99_3v.ownBlock = some k → w77.heap.size ≤ k) ∧ OS w' 29 encSVector d99_3v ([m105]) }, ⟨fun _ v w' => ∃ d99_4v : Value, v = d99_4v ∧ (∀ k, d99_4v.ownBlock = some k → i37_0v.ownBlock = some k ∨ w77.heap.size ≤ k) ∧ OS w' 29 encSVector d99_4v m106, some 0, fun w' => OS w' 29 encSVector i37_0v s37.1⟩, ⟨fun _ _ w' => w'.heap[w.heap.size]? = some (.cells #[.float .f32 q61_0r0, .float .f32 q61_0r1, .float .f32 q61_0r2, .float .f32 q61_0r3, .float .f32 q61_0r4, .float .f32 q61_0r5, .float .f32 q61_0r6, .float .f32 q61_0r7, .float .f32 q61_0r8, .float .f32 q61_0r9] 32 (0, 0)), some 1, fun w' => w'.heap[w.heap.size]? = some (.cells #[.float .f32 i37_3r0, .float .f32 i37_3r1, .float .f32 i37_3r2, .float .f32 i37_3r3, .float .f32 i37_3r4, .float .f32 i37_3r5, .float .f32 i37_3r6, .float .f32 i37_3r7, .float .f32 i37_3r8, .float .f32 i37_3r9] 32 (0, 0))⟩, { V := fun sg v _ => v = sg 63 }] mixed (by kernel_rfl) ⟨trivial, trivial, trivial, trivial, B101, B103, trivial, trivial⟩ ⟨?_, ?_, ?_, ?_, ?_, ?_, ?_, trivial⟩ ?_
              · skip
                refine ⟨fun _ _ _ _ _ _ h _ => h, fun _ _ h _ => h, fun σ' w' hA hE hD hP => ?_⟩
                have t14 : σ' 14 = .pointer (some ⟨w61.heap.size, 0, none⟩) := (hA 14 rfl).trans s14_77
                have B0_107 : w'.heap[w61.heap.size]? = some (.cells #[.float .f32 q61_0r0, .float .f32 q61_0r1, .float .f32 q61_0r2, .float .f32 q61_0r3, .float .f32 q61_0r4, .float .f32 q61_0r5, .float .f32 q61_0r6, .float .f32 q61_0r7, .float .f32 q61_0r8, .float .f32 q61_0r9] 32 (0, 0)) := hE.heap (not_oth2 sp69 (Ne.symm sp71)) B104
                refine dg_op rfl (d_loads (vs := #[.float .f32 q61_0r0, .float .f32 q61_0r1, .float .f32 q61_0r2, .float .f32 q61_0r3, .float .f32 q61_0r4, .float .f32 q61_0r5, .float .f32 q61_0r6, .float .f32 q61_0r7, .float .f32 q61_0r8, .float .f32 q61_0r9]) t14 agg32 size32 B0_107 rfl ?_)
                exact ⟨rfl, own_none (Ext.refl w')⟩
              · skip
                refine ⟨fun _ _ _ _ _ _ h _ => h, fun _ _ h _ => h, fun σ' w' hA hE hD hP => ?_⟩
                have t11 : σ' 11 = i37_0v := ((hP 6 _ _ rfl rfl (.inr rfl)).2 11 rfl).trans s11_77
                have B0_108 : OS w' 29 encSVector i37_0v s37.1 := (hP 4 _ _ rfl rfl (.inr rfl)).1
                refine dg_op rfl (d_mv (v := i37_0v) t11 ?_)
                exact ⟨rfl, own_none (Ext.refl w')⟩
              · skip
                refine ⟨fun _ _ _ _ _ _ h _ => h, fun _ _ h _ => h, fun σ' w' hA hE hD hP => ?_⟩
                have t14 : σ' 14 = .pointer (some ⟨w61.heap.size, 0, none⟩) := (hA 14 rfl).trans s14_77
                have B0_109 : w'.heap[w61.heap.size]? = some (.cells #[.float .f32 q61_0r0, .float .f32 q61_0r1, .float .f32 q61_0r2, .float .f32 q61_0r3, .float .f32 q61_0r4, .float .f32 q61_0r5, .float .f32 q61_0r6, .float .f32 q61_0r7, .float .f32 q61_0r8, .float .f32 q61_0r9] 32 (0, 0)) := hE.heap (not_oth2 sp69 (Ne.symm sp71)) B104
                refine dg_op rfl (d_cl (vs := [.pointer (some ⟨w61.heap.size, 0, none⟩)]) en56 (ac t14 rfl) rfl ?_)
                refine (c56 m58.1 w61.heap.size 0 #[.float .f32 q61_0r0, .float .f32 q61_0r1, .float .f32 q61_0r2, .float .f32 q61_0r3, .float .f32 q61_0r4, .float .f32 q61_0r5, .float .f32 q61_0r6, .float .f32 q61_0r7, .float .f32 q61_0r8, .float .f32 q61_0r9] 32 (0, 0) q61_0r0 q61_0r1 q61_0r2 q61_0r3 q61_0r4 q61_0r5 q61_0r6 q61_0r7 q61_0r8 q61_0r9 m105 w' hm105 q61_0h0 q61_0h1 q61_0h2 q61_0h3 q61_0h4 q61_0h5 q61_0h6 q61_0h7 q61_0h8 q61_0h9 B0_109 rfl).mono ?_
                rintro _ w110 ⟨q110_0r0, q110_0r1, q110_0r2, rfl, q110_0h0, q110_0h1, q110_0h2, E110⟩
                refine ⟨_, rfl, ?_⟩
                have X111 : Ext w' w110 := (Ext.refl w').trans E110
                exact ⟨⟨q110_0r0, q110_0r1, q110_0r2, rfl, q110_0h0, q110_0h1, q110_0h2⟩, own_none X111⟩
              · skip
                refine ⟨fun _ _ _ w' w'' _ ⟨d99_3v, hv, d99_3vL, d99_3vR⟩ hF => ⟨d99_3v, hv, d99_3vL, d99_3vR.frm hF (fun k hk => (not_oth2 (nb_row B101 (d99_3vL k hk)) (nb_box B103 (d99_3vL k hk))))⟩, fun _ _ h _ => h, fun σ' w' hA hE hD hP => ?_⟩
                obtain ⟨d99_2_0r0, d99_2_0r1, d99_2_0r2, t61, d99_2_0h0, d99_2_0h1, d99_2_0h2⟩ : ∃ d99_2_0r0 : Nat, ∃ d99_2_0r1 : Nat, ∃ d99_2_0r2 : Nat, σ' 61 = (.agg #[.float .f32 d99_2_0r0, .float .f32 d99_2_0r1, .float .f32 d99_2_0r2]) ∧ cn .f32 d99_2_0r0 = m105.x ∧ cn .f32 d99_2_0r1 = m105.y ∧ cn .f32 d99_2_0r2 = m105.z := hD 2 rfl
                refine dg_op rfl (d_bslice (vs := [(0, .agg #[.float .f32 d99_2_0r0, .float .f32 d99_2_0r1, .float .f32 d99_2_0r2])]) (cs := #[.float .f32 d99_2_0r0, .float .f32 d99_2_0r1, .float .f32 d99_2_0r2]) un33 (pc t61 rfl) (by kernel_rfl) fun w112 B112 E112 => ?_)
                have fr112 : ∀ k, (Value.slice (some ⟨w'.heap.size, 0, none⟩) 1 1).ownBlock = some k → w'.heap.size ≤ k := fun k hk => by cases hk; exact Nat.le_refl _
                have X113 : Ext w' w112 := (Ext.refl w').trans E112
                have O112 : OS w112 29 encSVector (Value.slice (some ⟨w'.heap.size, 0, none⟩) 1 1) [m105] := OS.box (xs := [m105]) B112 (lc_f d99_2_0h0 (lc_f d99_2_0h1 (lc_f d99_2_0h2 rfl))) (Nat.le_of_ble_eq_true rfl)
                exact ⟨⟨(Value.slice (some ⟨w'.heap.size, 0, none⟩) 1 1), rfl, (fun k hk => Nat.le_trans hE.size (fr112 k hk)), O112⟩, own_none X113⟩
              · skip
                refine ⟨fun _ _ _ w' w'' _ ⟨d99_4v, hv, d99_4vL, d99_4vR⟩ hF => ⟨d99_4v, hv, d99_4vL, d99_4vR.frm hF (fun k hk => (not_oth2a (nb_box2 (d99_4vL k hk) i37_A1 B103)))⟩, fun _ _ h hF => h.frm hF (fun k hk => (not_oth2a ((rb i37_A1) k hk))), fun σ' w' hA hE hD hP => ?_⟩
                have t60 : σ' 60 = i37_0v := hD 1 rfl
                obtain ⟨d99_3v, t62, d99_3vL, d99_3vR⟩ : ∃ d99_3v : Value, σ' 62 = d99_3v ∧ (∀ k, d99_3v.ownBlock = some k → w77.heap.size ≤ k) ∧ OS w' 29 encSVector d99_3v ([m105]) := hD 3 rfl
                have B0_114 : OS w' 29 encSVector i37_0v s37.1 := (hP 4 _ _ rfl rfl (.inl rfl)).1
                refine dg_op rfl (d_append (e := encSVector) (v := i37_0v) (y := d99_3v) un33 info29 rfl (by kernel_rfl) (by kernel_rfl) (by decide) (by decide) t60 t62 B0_114 d99_3vR.rs hm106 fun v115 w115 O115 Fm115 at_115 nl115 => ?_)
                exact ⟨⟨v115, rfl, (app_loc at_115 hE.size), O115⟩, own_some (j := 0) rfl Fm115⟩
              · skip
                refine ⟨fun _ _ _ w' w'' _ hB hF => hF.heap (not_oth2b i37_A1) hB, fun _ _ h hF => hF.heap (not_oth2b i37_A1) h, fun σ' w' hA hE hD hP => ?_⟩
                have t4 : σ' 4 = .pointer (some ⟨w.heap.size, 0, none⟩) := (hA 4 rfl).trans s4_77
                have t59 : σ' 59 = (.agg #[.float .f32 q61_0r0, .float .f32 q61_0r1, .float .f32 q61_0r2, .float .f32 q61_0r3, .float .f32 q61_0r4, .float .f32 q61_0r5, .float .f32 q61_0r6, .float .f32 q61_0r7, .float .f32 q61_0r8, .float .f32 q61_0r9]) := hD 0 rfl
                have B0_116 : w'.heap[w.heap.size]? = some (.cells #[.float .f32 i37_3r0, .float .f32 i37_3r1, .float .f32 i37_3r2, .float .f32 i37_3r3, .float .f32 i37_3r4, .float .f32 i37_3r5, .float .f32 i37_3r6, .float .f32 i37_3r7, .float .f32 i37_3r8, .float .f32 i37_3r9] 32 (0, 0)) := (hP 5 _ _ rfl rfl (.inl rfl)).1
                refine dg_op rfl (d_store (vs := #[.float .f32 q61_0r0, .float .f32 q61_0r1, .float .f32 q61_0r2, .float .f32 q61_0r3, .float .f32 q61_0r4, .float .f32 q61_0r5, .float .f32 q61_0r6, .float .f32 q61_0r7, .float .f32 q61_0r8, .float .f32 q61_0r9]) t4 (congrArg Value.cells t59) B0_116 size32 (Nat.le_of_ble_eq_true rfl) rfl fun w117 S117 => ?_)
                have B118 : w117.heap[w.heap.size]? = some (.cells #[.float .f32 q61_0r0, .float .f32 q61_0r1, .float .f32 q61_0r2, .float .f32 q61_0r3, .float .f32 q61_0r4, .float .f32 q61_0r5, .float .f32 q61_0r6, .float .f32 q61_0r7, .float .f32 q61_0r8, .float .f32 q61_0r9] 32 (0, 0)) := S117.here
                exact ⟨B118, own_some (j := 1) rfl S117.frmb⟩
              · skip
                refine ⟨fun _ _ _ _ _ hs h _ => h.trans (hs 4 rfl).symm, fun _ _ h _ => h, fun σ' w' hA hE hD hP => ?_⟩
                exact dg_op rfl (d_as rfl ⟨rfl, own_none (Ext.refl _)⟩)
              · skip
                intro σ99 w99 A99 E99 V99
                obtain ⟨z99_11_4v, s11_99, z99_11_4vL, z99_11_4vR⟩ : ∃ z99_11_4v : Value, σ99 63 = z99_11_4v ∧ (∀ k, z99_11_4v.ownBlock = some k → i37_0v.ownBlock = some k ∨ w77.heap.size ≤ k) ∧ OS w99 29 encSVector z99_11_4v m106 := V99 4 (Nat.le_of_ble_eq_true rfl)
                have Bm1_99 : w99.heap[w.heap.size]? = some (.cells #[.float .f32 q61_0r0, .float .f32 q61_0r1, .float .f32 q61_0r2, .float .f32 q61_0r3, .float .f32 q61_0r4, .float .f32 q61_0r5, .float .f32 q61_0r6, .float .f32 q61_0r7, .float .f32 q61_0r8, .float .f32 q61_0r9] 32 (0, 0)) := V99 5 (Nat.le_of_ble_eq_true rfl)
                have own119 : ∀ k, z99_11_4v.ownBlock = some k → w.heap.size ≤ k := app_own2 z99_11_4vL i37_0O X93.size
                have sp120 : ¬ z99_11_4v.ownBlock = some w1.heap.size := app_nb2 z99_11_4vL i37_A0 B102
                have sp121 : ¬ z99_11_4v.ownBlock = some w.heap.size := app_nb2 z99_11_4vL i37_A1 B103
                have sp122 : ¬ z99_11_4v.ownBlock = some w61.heap.size := app_nb2 z99_11_4vL sp69 B104
                have s32_99 : σ99 32 = .int .i64 s37.2.1 := (A99 32 rfl).trans s32_77
                have s1_99 : σ99 1 = .float .f32 p1r := (A99 1 rfl).trans s1_77
                have s3_99 : σ99 3 = .func (.func 27) #[] #[.pointer (some ⟨p3c0b, p3c0o, none⟩)] := (A99 3 rfl).trans s3_77
                have s4_99 : σ99 4 = .pointer (some ⟨w.heap.size, 0, none⟩) := (A99 4 rfl).trans s4_77
                have s8_99 : σ99 8 = .pointer (some ⟨w1.heap.size, 0, none⟩) := (A99 8 rfl).trans s8_77
                have s31_99 : σ99 31 = .int .i64 p2 := (A99 31 rfl).trans s31_77
                have X123 : Ext w w99 := Ext.step X93 E99 (oth_own2 (fun k _ hk => i37_0O k hk) (fun k _ hk => hk ▸ own2))
                refine W_region rfl ?_
                refine da_op rfl (d_iarith s32_99 rfl (.inl ⟨rfl, rfl⟩) ?_)
                refine da_op rfl (d_mv (v := .int .i64 (IntKind.i64.wrap (s37.2.1 + 1))) rfl ?_)
                refine da_nil ?_
                have B124 : w99.heap[w1.heap.size]? = some (.cells #[.float .f32 i37_2r0, .float .f32 i37_2r1, .float .f32 i37_2r2, .float .f32 i37_2r3, .float .f32 i37_2r4, .float .f32 i37_2r5, .float .f32 i37_2r6, .float .f32 i37_2r7, .float .f32 i37_2r8, .float .f32 i37_2r9] 32 (0, 0)) := E99.heap (not_oth2 i37_A0 (Ne.symm sp6)) B102
                obtain rfl := Option.some.inj hr
                exact ⟨_, rfl, ⟨z99_11_4v, i37_2r0, i37_2r1, i37_2r2, i37_2r3, i37_2r4, i37_2r5, i37_2r6, i37_2r7, i37_2r8, i37_2r9, q61_0r0, q61_0r1, q61_0r2, q61_0r3, q61_0r4, q61_0r5, q61_0r6, q61_0r7, q61_0r8, q61_0r9, (Eq.trans (show σ99 11 = σ99 63 from V99 6 (Nat.le_of_ble_eq_true rfl)) s11_99), rfl, s1_99, s3_99, s4_99, s8_99, s31_99, z99_11_4vR, own119, i37_2h0, i37_2h1, i37_2h2, i37_2h3, i37_2h4, i37_2h5, i37_2h6, i37_2h7, i37_2h8, i37_2h9, B124, q61_0h0, q61_0h1, q61_0h2, q61_0h3, q61_0h4, q61_0h5, q61_0h6, q61_0h7, q61_0h8, q61_0h9, Bm1_99, sp120, sp121, X123⟩⟩
        · skip
          replace hr := bif_f hr hc40
          refine W_exit ?_
          obtain rfl := Option.some.inj hr
          exact ⟨_, rfl, rfl, i37_0v, i37_2r0, i37_2r1, i37_2r2, i37_2r3, i37_2r4, i37_2r5, i37_2r6, i37_2r7, i37_2r8, i37_2r9, i37_3r0, i37_3r1, i37_3r2, i37_3r3, i37_3r4, i37_3r5, i37_3r6, i37_3r7, i37_3r8, i37_3r9, i37_S11, i37_S4, i37_S8, i37_0R, i37_0O, i37_2h0, i37_2h1, i37_2h2, i37_2h3, i37_2h4, i37_2h5, i37_2h6, i37_2h7, i37_2h8, i37_2h9, i37_2B, i37_3h0, i37_3h1, i37_3h2, i37_3h3, i37_3h4, i37_3h5, i37_3h6, i37_3h7, i37_3h8, i37_3h9, i37_3B, i37_A0, i37_A1, i37_X⟩
      · skip
        intro ex σx37 wx37 hq
        rcases m37 with m37 | m37
        · skip
          obtain ⟨rfl, q37_0_0v, q37_0_1r0, q37_0_1r1, q37_0_1r2, q37_0_1r3, q37_0_1r4, q37_0_1r5, q37_0_1r6, q37_0_1r7, q37_0_1r8, q37_0_1r9, q37_0_2r0, q37_0_2r1, q37_0_2r2, q37_0_2r3, q37_0_2r4, q37_0_2r5, q37_0_2r6, q37_0_2r7, q37_0_2r8, q37_0_2r9, q37_0_S11, q37_0_S4, q37_0_S8, q37_0_0R, q37_0_0O, q37_0_1h0, q37_0_1h1, q37_0_1h2, q37_0_1h3, q37_0_1h4, q37_0_1h5, q37_0_1h6, q37_0_1h7, q37_0_1h8, q37_0_1h9, q37_0_1B, q37_0_2h0, q37_0_2h1, q37_0_2h2, q37_0_2h3, q37_0_2h4, q37_0_2h5, q37_0_2h6, q37_0_2h7, q37_0_2h8, q37_0_2h9, q37_0_2B, q37_0_A0, q37_0_A1, q37_0_X⟩ := hq
          refine W_seq ?_
          refine W_region rfl ?_
          refine da_op rfl (d_loads (vs := #[.float .f32 q37_0_2r0, .float .f32 q37_0_2r1, .float .f32 q37_0_2r2, .float .f32 q37_0_2r3, .float .f32 q37_0_2r4, .float .f32 q37_0_2r5, .float .f32 q37_0_2r6, .float .f32 q37_0_2r7, .float .f32 q37_0_2r8, .float .f32 q37_0_2r9]) q37_0_S4 agg32 size32 q37_0_2B rfl ?_)
          refine da_op rfl (d_mv (v := q37_0_0v) q37_0_S11 ?_)
          refine da_op rfl (d_store (vs := #[.float .f32 q37_0_2r0, .float .f32 q37_0_2r1, .float .f32 q37_0_2r2, .float .f32 q37_0_2r3, .float .f32 q37_0_2r4, .float .f32 q37_0_2r5, .float .f32 q37_0_2r6, .float .f32 q37_0_2r7, .float .f32 q37_0_2r8, .float .f32 q37_0_2r9]) q37_0_S8 rfl q37_0_1B size32 (Nat.le_of_ble_eq_true rfl) rfl fun w125 S125 => ?_)
          have X126 : Ext w w125 := Ext.step q37_0_X S125.frmb (fun k _ hk => hk ▸ own5)
          have B127 : w125.heap[w1.heap.size]? = some (.cells #[.float .f32 q37_0_2r0, .float .f32 q37_0_2r1, .float .f32 q37_0_2r2, .float .f32 q37_0_2r3, .float .f32 q37_0_2r4, .float .f32 q37_0_2r5, .float .f32 q37_0_2r6, .float .f32 q37_0_2r7, .float .f32 q37_0_2r8, .float .f32 q37_0_2r9] 32 (0, 0)) := S125.here
          refine da_op rfl (d_as (v := q37_0_0v) rfl ?_)
          refine da_op rfl (d_as (v := .bool true) rfl ?_)
          refine da_nil ?_
          refine W_ret ?_
          have B128 : OS w125 29 encSVector q37_0_0v m37.1 := q37_0_0R.frm S125.frmb (rb q37_0_A0)
          obtain rfl := Option.some.inj hr
          refine ⟨_, res3 (rv_cells (vs := #[.float .f32 q37_0_2r0, .float .f32 q37_0_2r1, .float .f32 q37_0_2r2, .float .f32 q37_0_2r3, .float .f32 q37_0_2r4, .float .f32 q37_0_2r5, .float .f32 q37_0_2r6, .float .f32 q37_0_2r7, .float .f32 q37_0_2r8, .float .f32 q37_0_2r9]) q37_0_S8 agg32 size32 B127 rfl) (rv_tmp rfl) (rv_tmp rfl), ?_⟩
          exact ⟨q37_0_2r0, q37_0_2r1, q37_0_2r2, q37_0_2r3, q37_0_2r4, q37_0_2r5, q37_0_2r6, q37_0_2r7, q37_0_2r8, q37_0_2r9, q37_0_0v, rfl, q37_0_2h0, q37_0_2h1, q37_0_2h2, q37_0_2h3, q37_0_2h4, q37_0_2h5, q37_0_2h6, q37_0_2h7, q37_0_2h8, q37_0_2h9, B128, q37_0_0O, X126⟩
        · skip
          obtain ⟨rfl, q37_1_0v, q37_1_2r0, q37_1_2r1, q37_1_2r2, q37_1_2r3, q37_1_2r4, q37_1_2r5, q37_1_2r6, q37_1_2r7, q37_1_2r8, q37_1_2r9, q37_1_S9, q37_1_S10, q37_1_S8, q37_1_0R, q37_1_0O, q37_1_2h0, q37_1_2h1, q37_1_2h2, q37_1_2h3, q37_1_2h4, q37_1_2h5, q37_1_2h6, q37_1_2h7, q37_1_2h8, q37_1_2h9, q37_1_2B, q37_1_A0, q37_1_X⟩ := hq
          obtain rfl := Option.some.inj hr
          refine ⟨_, res3 (rv_cells (vs := #[.float .f32 q37_1_2r0, .float .f32 q37_1_2r1, .float .f32 q37_1_2r2, .float .f32 q37_1_2r3, .float .f32 q37_1_2r4, .float .f32 q37_1_2r5, .float .f32 q37_1_2r6, .float .f32 q37_1_2r7, .float .f32 q37_1_2r8, .float .f32 q37_1_2r9]) q37_1_S8 agg32 size32 q37_1_2B rfl) (rv_tmp q37_1_S9) (rv_tmp q37_1_S10), ?_⟩
          exact ⟨q37_1_2r0, q37_1_2r1, q37_1_2r2, q37_1_2r3, q37_1_2r4, q37_1_2r5, q37_1_2r6, q37_1_2r7, q37_1_2r8, q37_1_2r9, q37_1_0v, rfl, q37_1_2h0, q37_1_2h1, q37_1_2h2, q37_1_2h3, q37_1_2h4, q37_1_2h5, q37_1_2h6, q37_1_2h7, q37_1_2h8, q37_1_2h9, q37_1_0R, q37_1_0O, q37_1_X⟩
set_option maxHeartbeats 4000000 in
theorem c9 (p0 : STop) (p1 : SVector) (p2 : Nat) (p3 : Int) (p0r0 : Nat) (p0r1 : Nat) (p0r2 : Nat) (p0r3 : Nat) (p0r4 : Nat) (p0r5 : Nat) (p0r6 : Nat) (p0r7 : Nat) (p0r8 : Nat) (p0r9 : Nat) (p1r0 : Nat) (p1r1 : Nat) (p1r2 : Nat) (p2r : Nat) (r : STop × List SVector × Bool) (w : World) (hr : M.impl_RunTop p0 p1 p2 p3 = some r) (p0h0 : cn .f32 p0r0 = p0.moments.x) (p0h1 : cn .f32 p0r1 = p0.moments.y) (p0h2 : cn .f32 p0r2 = p0.moments.z) (p0h3 : cn .f32 p0r3 = p0.turn.w) (p0h4 : cn .f32 p0r4 = p0.turn.x) (p0h5 : cn .f32 p0r5 = p0.turn.y) (p0h6 : cn .f32 p0r6 = p0.turn.z) (p0h7 : cn .f32 p0r7 = p0.speed.x) (p0h8 : cn .f32 p0r8 = p0.speed.y) (p0h9 : cn .f32 p0r9 = p0.speed.z) (p1h0 : cn .f32 p1r0 = p1.x) (p1h1 : cn .f32 p1r1 = p1.y) (p1h2 : cn .f32 p1r2 = p1.z) (p2h : cn .f32 p2r = p2) :
    Calls Try.prog 9 #[.agg #[.float .f32 p0r0, .float .f32 p0r1, .float .f32 p0r2, .float .f32 p0r3, .float .f32 p0r4, .float .f32 p0r5, .float .f32 p0r6, .float .f32 p0r7, .float .f32 p0r8, .float .f32 p0r9], .agg #[.float .f32 p1r0, .float .f32 p1r1, .float .f32 p1r2], .float .f32 p2r, .int .i64 p3] w fun e w' => ∃ q0r0 : Nat, ∃ q0r1 : Nat, ∃ q0r2 : Nat, ∃ q0r3 : Nat, ∃ q0r4 : Nat, ∃ q0r5 : Nat, ∃ q0r6 : Nat, ∃ q0r7 : Nat, ∃ q0r8 : Nat, ∃ q0r9 : Nat, ∃ q1v : Value, e = .returned (.tuple #[.agg #[.float .f32 q0r0, .float .f32 q0r1, .float .f32 q0r2, .float .f32 q0r3, .float .f32 q0r4, .float .f32 q0r5, .float .f32 q0r6, .float .f32 q0r7, .float .f32 q0r8, .float .f32 q0r9], q1v, .bool r.2.2]) ∧ cn .f32 q0r0 = r.1.moments.x ∧ cn .f32 q0r1 = r.1.moments.y ∧ cn .f32 q0r2 = r.1.moments.z ∧ cn .f32 q0r3 = r.1.turn.w ∧ cn .f32 q0r4 = r.1.turn.x ∧ cn .f32 q0r5 = r.1.turn.y ∧ cn .f32 q0r6 = r.1.turn.z ∧ cn .f32 q0r7 = r.1.speed.x ∧ cn .f32 q0r8 = r.1.speed.y ∧ cn .f32 q0r9 = r.1.speed.z ∧ OS w' 29 encSVector q1v r.2.1 ∧ (∀ k, q1v.ownBlock = some k → w.heap.size ≤ k) ∧ Ext w w' := by
  refine calls_of_W Try.func9 rfl (Nat.le_of_ble_eq_true rfl) ?_
  refine W_seq ?_
  refine W_region rfl ?_
  refine da_op rfl (d_box (cs := #[.float .f32 p0r0, .float .f32 p0r1, .float .f32 p0r2, .float .f32 p0r3, .float .f32 p0r4, .float .f32 p0r5, .float .f32 p0r6, .float .f32 p0r7, .float .f32 p0r8, .float .f32 p0r9]) rfl fun w1 B1 E1 => ?_)
  have own2 : w.heap.size ≤ w.heap.size := Nat.le_trans (Ext.refl w).size (Nat.le_refl _)
  have X3 : Ext w w1 := (Ext.refl w).trans E1
  refine da_op rfl (d_box (cs := #[.float .f32 p1r0, .float .f32 p1r1, .float .f32 p1r2]) rfl fun w4 B4 E4 => ?_)
  have own5 : w.heap.size ≤ w1.heap.size := Nat.le_trans X3.size (Nat.le_refl _)
  have sp6 : w.heap.size ≠ w1.heap.size := Nat.ne_of_lt (Nat.lt_of_lt_of_le (lt_heap B1) (Nat.le_refl _))
  have X7 : Ext w w4 := X3.trans E4
  have B9 : w4.heap[w.heap.size]? = some (.cells #[.float .f32 p0r0, .float .f32 p0r1, .float .f32 p0r2, .float .f32 p0r3, .float .f32 p0r4, .float .f32 p0r5, .float .f32 p0r6, .float .f32 p0r7, .float .f32 p0r8, .float .f32 p0r9] 32 (0, 0)) := E4.heap B1
  refine da_op rfl (d_alloc (cs := #[.float .f32 0, .float .f32 0, .float .f32 0, .float .f32 0, .float .f32 0, .float .f32 0, .float .f32 0, .float .f32 0, .float .f32 0, .float .f32 0]) zero32 rfl fun w8 B8 E8 => ?_)
  have own10 : w.heap.size ≤ w4.heap.size := Nat.le_trans X7.size (Nat.le_refl _)
  have sp11 : w.heap.size ≠ w4.heap.size := Nat.ne_of_lt (Nat.lt_of_lt_of_le (lt_heap B9) (Nat.le_refl _))
  have sp12 : w1.heap.size ≠ w4.heap.size := Nat.ne_of_lt (Nat.lt_of_lt_of_le (lt_heap B4) (Nat.le_refl _))
  have X13 : Ext w w8 := X7.trans E8
  refine da_op rfl (d_as (v := .slice none 0 0) rfl ?_)
  refine da_op rfl (d_as (v := .bool false) rfl ?_)
  refine da_nil ?_
  refine W_seq ?_
  refine W_seq ?_
  refine W_region rfl ?_
  have B14 : w8.heap[w1.heap.size]? = some (.cells #[.float .f32 p1r0, .float .f32 p1r1, .float .f32 p1r2] 29 (0, 0)) := E8.heap B4
  refine da_op rfl (d_loads (vs := #[.float .f32 p1r0, .float .f32 p1r1, .float .f32 p1r2]) rfl agg29 size29 B14 rfl ?_)
  obtain ⟨m15, hm15, hr⟩ := bind_out hr
  have B16 : w8.heap[w.heap.size]? = some (.cells #[.float .f32 p0r0, .float .f32 p0r1, .float .f32 p0r2, .float .f32 p0r3, .float .f32 p0r4, .float .f32 p0r5, .float .f32 p0r6, .float .f32 p0r7, .float .f32 p0r8, .float .f32 p0r9] 32 (0, 0)) := E8.heap B9
  refine da_op rfl (d_cl (vs := [.agg #[.float .f32 p1r0, .float .f32 p1r1, .float .f32 p1r2]]) en25 (ac rfl rfl) rfl ?_)
  refine (c25 p1 p1r0 p1r1 p1r2 m15 w8 hm15 p1h0 p1h1 p1h2).mono ?_
  rintro _ w17 ⟨rfl, E17⟩
  refine ⟨_, rfl, ?_⟩
  have X18 : Ext w w17 := X13.trans E17
  refine da_op rfl (d_not rfl ?_)
  refine da_nil ?_
  refine W_cond (b := (!m15)) rfl (fun hc19 => ?_) (fun hc19 => ?_)
  · skip
    replace hr := bif_t hr hc19
    refine W_seq ?_
    refine W_region rfl ?_
    refine da_op rfl (d_bd (vs := []) (cs := #[.float .f32 0, .float .f32 0, .float .f32 0, .float .f32 0, .float .f32 0, .float .f32 0, .float .f32 0, .float .f32 0, .float .f32 0, .float .f32 0]) rfl (by kernel_rfl) ?_)
    have B20 : w17.heap[w4.heap.size]? = some (.cells #[.float .f32 0, .float .f32 0, .float .f32 0, .float .f32 0, .float .f32 0, .float .f32 0, .float .f32 0, .float .f32 0, .float .f32 0, .float .f32 0] 32 (0, 0)) := E17.heap B8
    refine da_op rfl (d_store (vs := #[.float .f32 0, .float .f32 0, .float .f32 0, .float .f32 0, .float .f32 0, .float .f32 0, .float .f32 0, .float .f32 0, .float .f32 0, .float .f32 0]) rfl rfl B20 size32 (Nat.le_of_ble_eq_true rfl) rfl fun w21 S21 => ?_)
    have X22 : Ext w w21 := Ext.step X18 S21.frmb (fun k _ hk => hk ▸ own10)
    have B23 : w21.heap[w4.heap.size]? = some (.cells #[.float .f32 0, .float .f32 0, .float .f32 0, .float .f32 0, .float .f32 0, .float .f32 0, .float .f32 0, .float .f32 0, .float .f32 0, .float .f32 0] 32 (0, 0)) := S21.here
    refine da_op rfl (d_as (v := .slice none 0 0) rfl ?_)
    refine da_op rfl (d_as (v := .bool false) rfl ?_)
    refine da_nil ?_
    refine W_ret ?_
    obtain rfl := Option.some.inj hr
    refine ⟨_, res3 (rv_cells (vs := #[.float .f32 0, .float .f32 0, .float .f32 0, .float .f32 0, .float .f32 0, .float .f32 0, .float .f32 0, .float .f32 0, .float .f32 0, .float .f32 0]) rfl agg32 size32 B23 rfl) (rv_tmp rfl) (rv_tmp rfl), ?_⟩
    exact ⟨0, 0, 0, 0, 0, 0, 0, 0, 0, 0, (.slice none 0 0), rfl, cn_f32_0, cn_f32_0, cn_f32_0, cn_f32_0, cn_f32_0, cn_f32_0, cn_f32_0, cn_f32_0, cn_f32_0, cn_f32_0, (OS.nil _ 29 encSVector), (fun k hk => by cases hk), X22⟩
  · skip
    replace hr := bif_f hr hc19
    refine W_skip ?_
    refine W_seq ?_
    refine W_region rfl ?_
    have B24 : w17.heap[w.heap.size]? = some (.cells #[.float .f32 p0r0, .float .f32 p0r1, .float .f32 p0r2, .float .f32 p0r3, .float .f32 p0r4, .float .f32 p0r5, .float .f32 p0r6, .float .f32 p0r7, .float .f32 p0r8, .float .f32 p0r9] 32 (0, 0)) := E17.heap B16
    refine da_op rfl (d_loads (vs := #[.float .f32 p0r0, .float .f32 p0r1, .float .f32 p0r2, .float .f32 p0r3, .float .f32 p0r4, .float .f32 p0r5, .float .f32 p0r6, .float .f32 p0r7, .float .f32 p0r8, .float .f32 p0r9]) rfl agg32 size32 B24 rfl ?_)
    refine da_op rfl (d_mv (v := .float .f32 p2r) rfl ?_)
    refine da_op rfl (d_mv (v := .int .i64 p3) rfl ?_)
    refine da_op rfl (d_fn (vs := [.pointer (some ⟨w1.heap.size, 0, none⟩)]) (ac rfl rfl) ?_)
    obtain ⟨m25, hm25, hr⟩ := bind_out hr
    have B26 : w17.heap[w1.heap.size]? = some (.cells #[.float .f32 p1r0, .float .f32 p1r1, .float .f32 p1r2] 29 (0, 0)) := E17.heap B14
    have B27 : w17.heap[w4.heap.size]? = some (.cells #[.float .f32 0, .float .f32 0, .float .f32 0, .float .f32 0, .float .f32 0, .float .f32 0, .float .f32 0, .float .f32 0, .float .f32 0, .float .f32 0] 32 (0, 0)) := E17.heap B8
    refine da_op rfl (d_cl (vs := [.agg #[.float .f32 p0r0, .float .f32 p0r1, .float .f32 p0r2, .float .f32 p0r3, .float .f32 p0r4, .float .f32 p0r5, .float .f32 p0r6, .float .f32 p0r7, .float .f32 p0r8, .float .f32 p0r9], .float .f32 p2r, .int .i64 p3, .func (.func 27) #[] #[.pointer (some ⟨w1.heap.size, 0, none⟩)]]) en26 (ac rfl (ac rfl (ac rfl (ac rfl rfl)))) rfl ?_)
    refine (c26_f27 (⟨(⟨p0.moments.x, p0.moments.y, p0.moments.z⟩ : SVector), (⟨p0.turn.w, p0.turn.x, p0.turn.y, p0.turn.z⟩ : SSpin), (⟨p0.speed.x, p0.speed.y, p0.speed.z⟩ : SVector)⟩ : STop) p2 p3 (⟨p1.x, p1.y, p1.z⟩ : SVector) p0r0 p0r1 p0r2 p0r3 p0r4 p0r5 p0r6 p0r7 p0r8 p0r9 p2r w1.heap.size 0 #[.float .f32 p1r0, .float .f32 p1r1, .float .f32 p1r2] 29 (0, 0) p1r0 p1r1 p1r2 m25 w17 hm25 p0h0 p0h1 p0h2 p0h3 p0h4 p0h5 p0h6 p0h7 p0h8 p0h9 p2h p1h0 p1h1 p1h2 B26 rfl).mono ?_
    rintro _ w28 ⟨q28_0r0, q28_0r1, q28_0r2, q28_0r3, q28_0r4, q28_0r5, q28_0r6, q28_0r7, q28_0r8, q28_0r9, q28_1v, rfl, q28_0h0, q28_0h1, q28_0h2, q28_0h3, q28_0h4, q28_0h5, q28_0h6, q28_0h7, q28_0h8, q28_0h9, q28_1R, q28_1F, E28⟩
    refine ⟨_, rfl, ?_⟩
    have own29 : ∀ k, q28_1v.ownBlock = some k → w.heap.size ≤ k := fun k hk => Nat.le_trans X18.size (q28_1F k hk)
    have sp30 : ¬ q28_1v.ownBlock = some w.heap.size := ne_fresh q28_1F (lt_heap B24)
    have sp31 : ¬ q28_1v.ownBlock = some w1.heap.size := ne_fresh q28_1F (lt_heap B26)
    have sp32 : ¬ q28_1v.ownBlock = some w4.heap.size := ne_fresh q28_1F (lt_heap B27)
    have X33 : Ext w w28 := X18.trans E28
    refine da_op rfl (d_extract (v := .agg #[.float .f32 q28_0r0, .float .f32 q28_0r1, .float .f32 q28_0r2, .float .f32 q28_0r3, .float .f32 q28_0r4, .float .f32 q28_0r5, .float .f32 q28_0r6, .float .f32 q28_0r7, .float .f32 q28_0r8, .float .f32 q28_0r9]) rfl rfl ?_)
    refine da_op rfl (d_extract (v := q28_1v) rfl rfl ?_)
    refine da_op rfl (d_extract (v := .bool m25.2.2) rfl rfl ?_)
    have B34 : w28.heap[w4.heap.size]? = some (.cells #[.float .f32 0, .float .f32 0, .float .f32 0, .float .f32 0, .float .f32 0, .float .f32 0, .float .f32 0, .float .f32 0, .float .f32 0, .float .f32 0] 32 (0, 0)) := E28.heap B27
    refine da_op rfl (d_store (vs := #[.float .f32 q28_0r0, .float .f32 q28_0r1, .float .f32 q28_0r2, .float .f32 q28_0r3, .float .f32 q28_0r4, .float .f32 q28_0r5, .float .f32 q28_0r6, .float .f32 q28_0r7, .float .f32 q28_0r8, .float .f32 q28_0r9]) rfl rfl B34 size32 (Nat.le_of_ble_eq_true rfl) rfl fun w35 S35 => ?_)
    have X36 : Ext w w35 := Ext.step X33 S35.frmb (fun k _ hk => hk ▸ own10)
    have B37 : w35.heap[w4.heap.size]? = some (.cells #[.float .f32 q28_0r0, .float .f32 q28_0r1, .float .f32 q28_0r2, .float .f32 q28_0r3, .float .f32 q28_0r4, .float .f32 q28_0r5, .float .f32 q28_0r6, .float .f32 q28_0r7, .float .f32 q28_0r8, .float .f32 q28_0r9] 32 (0, 0)) := S35.here
    refine da_op rfl (d_as (v := q28_1v) rfl ?_)
    refine da_op rfl (d_as (v := .bool m25.2.2) rfl ?_)
    refine da_nil ?_
    refine W_ret ?_
    have B38 : OS w35 29 encSVector q28_1v m25.2.1 := q28_1R.frm S35.frmb (rb sp32)
    obtain rfl := Option.some.inj hr
    refine ⟨_, res3 (rv_cells (vs := #[.float .f32 q28_0r0, .float .f32 q28_0r1, .float .f32 q28_0r2, .float .f32 q28_0r3, .float .f32 q28_0r4, .float .f32 q28_0r5, .float .f32 q28_0r6, .float .f32 q28_0r7, .float .f32 q28_0r8, .float .f32 q28_0r9]) rfl agg32 size32 B37 rfl) (rv_tmp rfl) (rv_tmp rfl), ?_⟩
    exact ⟨q28_0r0, q28_0r1, q28_0r2, q28_0r3, q28_0r4, q28_0r5, q28_0r6, q28_0r7, q28_0r8, q28_0r9, q28_1v, rfl, q28_0h0, q28_0h1, q28_0h2, q28_0h3, q28_0h4, q28_0h5, q28_0h6, q28_0h7, q28_0h8, q28_0h9, B38, own29, X36⟩
end Go.Proofs
