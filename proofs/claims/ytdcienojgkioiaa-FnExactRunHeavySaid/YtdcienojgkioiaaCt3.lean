import Derived.Test.YtdcienojgkioiaaCt2
namespace Go.Proofs
open Go Go.Fl Go.RowKit Go.Rg
set_option maxRecDepth 100000
set_option linter.unusedVariables false
attribute [local irreducible] Go.Calls doAll Does DoesG W Wr
set_option maxHeartbeats 4000000 in
theorem c92 (p0 : SSpin) (p0r0 : Nat) (p0r1 : Nat) (p0r2 : Nat) (p0r3 : Nat) (r : Bool) (w : World) (hr : M.impl_IsSpin p0 = some r) (p0h0 : cn .f32 p0r0 = p0.w) (p0h1 : cn .f32 p0r1 = p0.x) (p0h2 : cn .f32 p0r2 = p0.y) (p0h3 : cn .f32 p0r3 = p0.z) :
    Calls Try.prog 92 #[.agg #[.float .f32 p0r0, .float .f32 p0r1, .float .f32 p0r2, .float .f32 p0r3]] w fun e w' => e = .returned (.bool r) ∧ Ext w w' := by
  refine calls_of_W Try.func92 rfl (Nat.le_of_ble_eq_true rfl) ?_
  refine W_seq ?_
  refine W_region rfl ?_
  refine da_op rfl (d_box (cs := #[.float .f32 p0r0, .float .f32 p0r1, .float .f32 p0r2, .float .f32 p0r3]) rfl fun w1 B1 E1 => ?_)
  have own2 : w.heap.size ≤ w.heap.size := Nat.le_trans (Ext.refl w).size (Nat.le_refl _)
  have X3 : Ext w w1 := (Ext.refl w).trans E1
  refine da_op rfl (d_as (v := .bool false) rfl ?_)
  refine da_nil ?_
  refine W_seq ?_
  obtain ⟨m4, hm4, hr⟩ := bind_out hr
  refine W_cut (fun σ' w' => σ' 2 = .bool m4 ∧ Ext w1 w') rfl ?_ ?_
  · skip
    have hr := hm4
    obtain ⟨m5, hm5, hr⟩ := letv_out hr
    refine da_op rfl (d_cl (vs := [.pointer (some ⟨w.heap.size, 0, none⟩)]) en112 (ac rfl rfl) rfl ?_)
    refine (c112 p0 w.heap.size 0 #[.float .f32 p0r0, .float .f32 p0r1, .float .f32 p0r2, .float .f32 p0r3] 30 (0, 0) p0r0 p0r1 p0r2 p0r3 m5 w1 hm5 p0h0 p0h1 p0h2 p0h3 B1 rfl).mono ?_
    rintro _ w6 ⟨q6_0v, rfl, q6_0R, q6_0F, E6⟩
    refine ⟨_, rfl, ?_⟩
    have own7 : ∀ k, q6_0v.ownBlock = some k → w.heap.size ≤ k := fun k hk => Nat.le_trans X3.size (q6_0F k hk)
    have sp8 : ¬ q6_0v.ownBlock = some w.heap.size := ne_fresh q6_0F (lt_heap B1)
    have X9 : Ext w w6 := X3.trans E6
    obtain ⟨m10, hm10, hr⟩ := bind_out hr
    have B11 : w6.heap[w.heap.size]? = some (.cells #[.float .f32 p0r0, .float .f32 p0r1, .float .f32 p0r2, .float .f32 p0r3] 30 (0, 0)) := E6.heap B1
    refine da_op rfl (d_cl (vs := [q6_0v]) en32 (ac rfl rfl) rfl ?_)
    refine (c32 m5 q6_0v m10 w6 hm10 q6_0R.rs).mono ?_
    rintro _ w12 ⟨rfl, E12⟩
    refine ⟨_, rfl, ?_⟩
    have X13 : Ext w w12 := X9.trans E12
    refine da_op rfl (d_mv (v := .bool m10) rfl ?_)
    rcases Bool.eq_false_or_eq_true m10 with hc14 | hc14
    · skip
      replace hr := bif_t hr hc14
      refine da_on rfl (Eq.trans (show sl _ _ _ = .bool m10 from rfl) (congrArg Value.bool hc14)) (d_fieldAddr rfl (fa30_0 _ _) ?_)
      have B15 : w12.heap[w.heap.size]? = some (.cells #[.float .f32 p0r0, .float .f32 p0r1, .float .f32 p0r2, .float .f32 p0r3] 30 (0, 0)) := E12.heap B11
      refine da_on rfl (Eq.trans (show sl _ _ _ = .bool m10 from rfl) (congrArg Value.bool hc14)) (d_load (v := .float .f32 p0r0) rfl agg22 B15 rfl ?_)
      refine da_on rfl (Eq.trans (show sl _ _ _ = .bool m10 from rfl) (congrArg Value.bool hc14)) (d_fcmp (k := .f32) cNeq rfl rfl p0h0 cn_f32_0 ?_)
      refine da_on rfl (Eq.trans (show sl _ _ _ = .bool m10 from rfl) (congrArg Value.bool hc14)) (d_mv (v := .bool (fcmp .neq .f32 p0.w 0)) rfl ?_)
      rcases Bool.eq_false_or_eq_true (fcmp .neq .f32 p0.w 0) with hc16 | hc16
      · skip
        replace hr := bif_t hr hc16
        refine da_off rfl (Eq.trans (show sl _ _ _ = .bool (fcmp .neq .f32 p0.w 0) from rfl) (congrArg Value.bool hc16)) (by decide) ?_
        refine da_off rfl (Eq.trans (show sl _ _ _ = .bool (fcmp .neq .f32 p0.w 0) from rfl) (congrArg Value.bool hc16)) (by decide) ?_
        refine da_off rfl (Eq.trans (show sl _ _ _ = .bool (fcmp .neq .f32 p0.w 0) from rfl) (congrArg Value.bool hc16)) (by decide) ?_
        refine da_on rfl (Eq.trans (show sl _ _ _ = .bool m10 from rfl) (congrArg Value.bool hc14)) (d_pick (b := true) (Eq.trans (show ev _ _ = .bool (fcmp .neq .f32 p0.w 0) from rfl) (congrArg Value.bool hc16)) ?_)
        refine da_on rfl (Eq.trans (show sl _ _ _ = .bool m10 from rfl) (congrArg Value.bool hc14)) (d_mv (v := .bool true) rfl ?_)
        refine da_off rfl rfl (by decide) ?_
        refine da_off rfl rfl (by decide) ?_
        refine da_off rfl rfl (by decide) ?_
        refine da_on rfl (Eq.trans (show sl _ _ _ = .bool m10 from rfl) (congrArg Value.bool hc14)) (d_pick (b := true) rfl ?_)
        refine da_on rfl (Eq.trans (show sl _ _ _ = .bool m10 from rfl) (congrArg Value.bool hc14)) (d_mv (v := .bool true) rfl ?_)
        refine da_off rfl rfl (by decide) ?_
        refine da_off rfl rfl (by decide) ?_
        refine da_off rfl rfl (by decide) ?_
        refine da_on rfl (Eq.trans (show sl _ _ _ = .bool m10 from rfl) (congrArg Value.bool hc14)) (d_pick (b := true) rfl ?_)
        refine da_op rfl (d_pick (b := true) (Eq.trans (show ev _ _ = .bool m10 from rfl) (congrArg Value.bool hc14)) ?_)
        refine da_op rfl (d_as (v := .bool true) rfl ?_)
        refine da_nil ?_
        obtain rfl := Option.some.inj hr
        exact ⟨rfl, (Ext.trans (Ext.trans (Ext.refl w1) E6) E12)⟩
      · skip
        replace hr := bif_f hr hc16
        refine da_on rfl (Eq.trans (show sl _ _ _ = .bool (fcmp .neq .f32 p0.w 0) from rfl) (congrArg Value.bool hc16)) (d_fieldAddr rfl (fa30_1 _ _) ?_)
        refine da_on rfl (Eq.trans (show sl _ _ _ = .bool (fcmp .neq .f32 p0.w 0) from rfl) (congrArg Value.bool hc16)) (d_load (v := .float .f32 p0r1) rfl agg22 B15 rfl ?_)
        refine da_on rfl (Eq.trans (show sl _ _ _ = .bool (fcmp .neq .f32 p0.w 0) from rfl) (congrArg Value.bool hc16)) (d_fcmp (k := .f32) cNeq rfl rfl p0h1 cn_f32_0 ?_)
        refine da_on rfl (Eq.trans (show sl _ _ _ = .bool m10 from rfl) (congrArg Value.bool hc14)) (d_pick (b := false) (Eq.trans (show ev _ _ = .bool (fcmp .neq .f32 p0.w 0) from rfl) (congrArg Value.bool hc16)) ?_)
        refine da_on rfl (Eq.trans (show sl _ _ _ = .bool m10 from rfl) (congrArg Value.bool hc14)) (d_mv (v := .bool (fcmp .neq .f32 p0.x 0)) rfl ?_)
        rcases Bool.eq_false_or_eq_true (fcmp .neq .f32 p0.x 0) with hc17 | hc17
        · skip
          replace hr := bif_t hr hc17
          refine da_off rfl (Eq.trans (show sl _ _ _ = .bool (fcmp .neq .f32 p0.x 0) from rfl) (congrArg Value.bool hc17)) (by decide) ?_
          refine da_off rfl (Eq.trans (show sl _ _ _ = .bool (fcmp .neq .f32 p0.x 0) from rfl) (congrArg Value.bool hc17)) (by decide) ?_
          refine da_off rfl (Eq.trans (show sl _ _ _ = .bool (fcmp .neq .f32 p0.x 0) from rfl) (congrArg Value.bool hc17)) (by decide) ?_
          refine da_on rfl (Eq.trans (show sl _ _ _ = .bool m10 from rfl) (congrArg Value.bool hc14)) (d_pick (b := true) (Eq.trans (show ev _ _ = .bool (fcmp .neq .f32 p0.x 0) from rfl) (congrArg Value.bool hc17)) ?_)
          refine da_on rfl (Eq.trans (show sl _ _ _ = .bool m10 from rfl) (congrArg Value.bool hc14)) (d_mv (v := .bool true) rfl ?_)
          refine da_off rfl rfl (by decide) ?_
          refine da_off rfl rfl (by decide) ?_
          refine da_off rfl rfl (by decide) ?_
          refine da_on rfl (Eq.trans (show sl _ _ _ = .bool m10 from rfl) (congrArg Value.bool hc14)) (d_pick (b := true) rfl ?_)
          refine da_op rfl (d_pick (b := true) (Eq.trans (show ev _ _ = .bool m10 from rfl) (congrArg Value.bool hc14)) ?_)
          refine da_op rfl (d_as (v := .bool true) rfl ?_)
          refine da_nil ?_
          obtain rfl := Option.some.inj hr
          exact ⟨rfl, (Ext.trans (Ext.trans (Ext.refl w1) E6) E12)⟩
        · skip
          replace hr := bif_f hr hc17
          refine da_on rfl (Eq.trans (show sl _ _ _ = .bool (fcmp .neq .f32 p0.x 0) from rfl) (congrArg Value.bool hc17)) (d_fieldAddr rfl (fa30_2 _ _) ?_)
          refine da_on rfl (Eq.trans (show sl _ _ _ = .bool (fcmp .neq .f32 p0.x 0) from rfl) (congrArg Value.bool hc17)) (d_load (v := .float .f32 p0r2) rfl agg22 B15 rfl ?_)
          refine da_on rfl (Eq.trans (show sl _ _ _ = .bool (fcmp .neq .f32 p0.x 0) from rfl) (congrArg Value.bool hc17)) (d_fcmp (k := .f32) cNeq rfl rfl p0h2 cn_f32_0 ?_)
          refine da_on rfl (Eq.trans (show sl _ _ _ = .bool m10 from rfl) (congrArg Value.bool hc14)) (d_pick (b := false) (Eq.trans (show ev _ _ = .bool (fcmp .neq .f32 p0.x 0) from rfl) (congrArg Value.bool hc17)) ?_)
          refine da_on rfl (Eq.trans (show sl _ _ _ = .bool m10 from rfl) (congrArg Value.bool hc14)) (d_mv (v := .bool (fcmp .neq .f32 p0.y 0)) rfl ?_)
          rcases Bool.eq_false_or_eq_true (fcmp .neq .f32 p0.y 0) with hc18 | hc18
          · skip
            replace hr := bif_t hr hc18
            refine da_off rfl (Eq.trans (show sl _ _ _ = .bool (fcmp .neq .f32 p0.y 0) from rfl) (congrArg Value.bool hc18)) (by decide) ?_
            refine da_off rfl (Eq.trans (show sl _ _ _ = .bool (fcmp .neq .f32 p0.y 0) from rfl) (congrArg Value.bool hc18)) (by decide) ?_
            refine da_off rfl (Eq.trans (show sl _ _ _ = .bool (fcmp .neq .f32 p0.y 0) from rfl) (congrArg Value.bool hc18)) (by decide) ?_
            refine da_on rfl (Eq.trans (show sl _ _ _ = .bool m10 from rfl) (congrArg Value.bool hc14)) (d_pick (b := true) (Eq.trans (show ev _ _ = .bool (fcmp .neq .f32 p0.y 0) from rfl) (congrArg Value.bool hc18)) ?_)
            refine da_op rfl (d_pick (b := true) (Eq.trans (show ev _ _ = .bool m10 from rfl) (congrArg Value.bool hc14)) ?_)
            refine da_op rfl (d_as (v := .bool true) rfl ?_)
            refine da_nil ?_
            obtain rfl := Option.some.inj hr
            exact ⟨rfl, (Ext.trans (Ext.trans (Ext.refl w1) E6) E12)⟩
          · skip
            replace hr := bif_f hr hc18
            refine da_on rfl (Eq.trans (show sl _ _ _ = .bool (fcmp .neq .f32 p0.y 0) from rfl) (congrArg Value.bool hc18)) (d_fieldAddr rfl (fa30_3 _ _) ?_)
            refine da_on rfl (Eq.trans (show sl _ _ _ = .bool (fcmp .neq .f32 p0.y 0) from rfl) (congrArg Value.bool hc18)) (d_load (v := .float .f32 p0r3) rfl agg22 B15 rfl ?_)
            refine da_on rfl (Eq.trans (show sl _ _ _ = .bool (fcmp .neq .f32 p0.y 0) from rfl) (congrArg Value.bool hc18)) (d_fcmp (k := .f32) cNeq rfl rfl p0h3 cn_f32_0 ?_)
            refine da_on rfl (Eq.trans (show sl _ _ _ = .bool m10 from rfl) (congrArg Value.bool hc14)) (d_pick (b := false) (Eq.trans (show ev _ _ = .bool (fcmp .neq .f32 p0.y 0) from rfl) (congrArg Value.bool hc18)) ?_)
            refine da_op rfl (d_pick (b := true) (Eq.trans (show ev _ _ = .bool m10 from rfl) (congrArg Value.bool hc14)) ?_)
            refine da_op rfl (d_as (v := .bool (fcmp .neq .f32 p0.z 0)) rfl ?_)
            refine da_nil ?_
            obtain rfl := Option.some.inj hr
            exact ⟨rfl, (Ext.trans (Ext.trans (Ext.refl w1) E6) E12)⟩
    · skip
      replace hr := bif_f hr hc14
      refine da_off rfl (Eq.trans (show sl _ _ _ = .bool m10 from rfl) (congrArg Value.bool hc14)) (by decide) ?_
      refine da_off rfl (Eq.trans (show sl _ _ _ = .bool m10 from rfl) (congrArg Value.bool hc14)) (by decide) ?_
      refine da_off rfl (Eq.trans (show sl _ _ _ = .bool m10 from rfl) (congrArg Value.bool hc14)) (by decide) ?_
      refine da_off rfl (Eq.trans (show sl _ _ _ = .bool m10 from rfl) (congrArg Value.bool hc14)) (by decide) ?_
      refine da_undef rfl rfl ?_
      refine da_undef rfl rfl ?_
      refine da_undef rfl rfl ?_
      refine da_off rfl (Eq.trans (show sl _ _ _ = .bool m10 from rfl) (congrArg Value.bool hc14)) (by decide) ?_
      refine da_off rfl (Eq.trans (show sl _ _ _ = .bool m10 from rfl) (congrArg Value.bool hc14)) (by decide) ?_
      refine da_undef rfl rfl ?_
      refine da_undef rfl rfl ?_
      refine da_undef rfl rfl ?_
      refine da_off rfl (Eq.trans (show sl _ _ _ = .bool m10 from rfl) (congrArg Value.bool hc14)) (by decide) ?_
      refine da_off rfl (Eq.trans (show sl _ _ _ = .bool m10 from rfl) (congrArg Value.bool hc14)) (by decide) ?_
      refine da_undef rfl rfl ?_
      refine da_undef rfl rfl ?_
      refine da_undef rfl rfl ?_
      refine da_off rfl (Eq.trans (show sl _ _ _ = .bool m10 from rfl) (congrArg Value.bool hc14)) (by decide) ?_
      refine da_op rfl (d_pick (b := false) (Eq.trans (show ev _ _ = .bool m10 from rfl) (congrArg Value.bool hc14)) ?_)
      refine da_op rfl (d_as (v := .bool false) rfl ?_)
      refine da_nil ?_
      obtain rfl := Option.some.inj hr
      exact ⟨rfl, (Ext.trans (Ext.trans (Ext.refl w1) E6) E12)⟩
  · skip
    rintro σ4 w4 o4 ⟨s2_4, E4⟩
    have X19 : Ext w w4 := X3.trans E4
    refine W_ret ?_
    obtain rfl := Option.some.inj hr
    refine ⟨_, res1 (rv_tmp s2_4), ?_⟩
    exact ⟨rfl, X19⟩
set_option maxHeartbeats 4000000 in
theorem c52 (p0 : STop) (p0r0 : Nat) (p0r1 : Nat) (p0r2 : Nat) (p0r3 : Nat) (p0r4 : Nat) (p0r5 : Nat) (p0r6 : Nat) (p0r7 : Nat) (p0r8 : Nat) (p0r9 : Nat) (r : Bool) (w : World) (hr : M.impl_ValidTop p0 = some r) (p0h0 : cn .f32 p0r0 = p0.moments.x) (p0h1 : cn .f32 p0r1 = p0.moments.y) (p0h2 : cn .f32 p0r2 = p0.moments.z) (p0h3 : cn .f32 p0r3 = p0.turn.w) (p0h4 : cn .f32 p0r4 = p0.turn.x) (p0h5 : cn .f32 p0r5 = p0.turn.y) (p0h6 : cn .f32 p0r6 = p0.turn.z) (p0h7 : cn .f32 p0r7 = p0.speed.x) (p0h8 : cn .f32 p0r8 = p0.speed.y) (p0h9 : cn .f32 p0r9 = p0.speed.z) :
    Calls Try.prog 52 #[.agg #[.float .f32 p0r0, .float .f32 p0r1, .float .f32 p0r2, .float .f32 p0r3, .float .f32 p0r4, .float .f32 p0r5, .float .f32 p0r6, .float .f32 p0r7, .float .f32 p0r8, .float .f32 p0r9]] w fun e w' => e = .returned (.bool r) ∧ Ext w w' := by
  refine calls_of_W Try.func52 rfl (Nat.le_of_ble_eq_true rfl) ?_
  refine W_seq ?_
  refine W_region rfl ?_
  refine da_op rfl (d_box (cs := #[.float .f32 p0r0, .float .f32 p0r1, .float .f32 p0r2, .float .f32 p0r3, .float .f32 p0r4, .float .f32 p0r5, .float .f32 p0r6, .float .f32 p0r7, .float .f32 p0r8, .float .f32 p0r9]) rfl fun w1 B1 E1 => ?_)
  have own2 : w.heap.size ≤ w.heap.size := Nat.le_trans (Ext.refl w).size (Nat.le_refl _)
  have X3 : Ext w w1 := (Ext.refl w).trans E1
  refine da_op rfl (d_as (v := .bool false) rfl ?_)
  refine da_nil ?_
  refine W_seq ?_
  refine W_region rfl ?_
  refine da_op rfl (d_fieldAddr rfl (fa32_0 _ _) ?_)
  refine da_op rfl (d_loads (vs := #[.float .f32 p0r0, .float .f32 p0r1, .float .f32 p0r2]) rfl agg29 size29 B1 rfl ?_)
  refine da_op rfl (d_alloc (cs := #[.float .f32 0, .float .f32 0, .float .f32 0]) zero29 rfl fun w4 B4 E4 => ?_)
  have own5 : w.heap.size ≤ w1.heap.size := Nat.le_trans X3.size (Nat.le_refl _)
  have sp6 : w.heap.size ≠ w1.heap.size := Nat.ne_of_lt (Nat.lt_of_lt_of_le (lt_heap B1) (Nat.le_refl _))
  have X7 : Ext w w4 := X3.trans E4
  refine da_op rfl (d_store (vs := #[.float .f32 p0r0, .float .f32 p0r1, .float .f32 p0r2]) rfl rfl B4 size29 (Nat.le_of_ble_eq_true rfl) rfl fun w8 S8 => ?_)
  have X9 : Ext w w8 := Ext.step X7 S8.frmb (fun k _ hk => hk ▸ own5)
  have B10 : w8.heap[w1.heap.size]? = some (.cells #[.float .f32 p0r0, .float .f32 p0r1, .float .f32 p0r2] 29 (0, 0)) := S8.here
  refine da_nil ?_
  refine W_seq ?_
  have B12 : w8.heap[w.heap.size]? = some (.cells #[.float .f32 p0r0, .float .f32 p0r1, .float .f32 p0r2, .float .f32 p0r3, .float .f32 p0r4, .float .f32 p0r5, .float .f32 p0r6, .float .f32 p0r7, .float .f32 p0r8, .float .f32 p0r9] 32 (0, 0)) := S8.frmb.heap sp6 (E4.heap B1)
  obtain ⟨m11, hm11, hr⟩ := bind_out hr
  refine W_cut (fun σ' w' => σ' 2 = .bool m11 ∧ Ext w8 w') rfl ?_ ?_
  · skip
    have hr := hm11
    refine da_op rfl (d_fieldAddr rfl (fa29_0 _ _) ?_)
    refine da_op rfl (d_load (v := .float .f32 p0r0) rfl agg22 B10 rfl ?_)
    obtain ⟨m13, hm13, hr⟩ := letv_out hr
    refine da_op rfl (d_cl (vs := [.float .f32 p0r0]) en70 (ac rfl rfl) rfl ?_)
    refine (c70 p0.moments.x p0r0 m13 w8 hm13 p0h0).mono ?_
    rintro _ w14 ⟨rfl, E14⟩
    refine ⟨_, rfl, ?_⟩
    have X15 : Ext w w14 := X9.trans E14
    refine da_op rfl (d_mv (v := .bool m13) rfl ?_)
    rcases Bool.eq_false_or_eq_true m13 with hc16 | hc16
    · skip
      replace hr := bif_t hr hc16
      refine da_on rfl (Eq.trans (show sl _ _ _ = .bool m13 from rfl) (congrArg Value.bool hc16)) (d_fieldAddr rfl (fa29_1 _ _) ?_)
      have B17 : w14.heap[w1.heap.size]? = some (.cells #[.float .f32 p0r0, .float .f32 p0r1, .float .f32 p0r2] 29 (0, 0)) := E14.heap B10
      refine da_on rfl (Eq.trans (show sl _ _ _ = .bool m13 from rfl) (congrArg Value.bool hc16)) (d_load (v := .float .f32 p0r1) rfl agg22 B17 rfl ?_)
      obtain ⟨m18, hm18, hr⟩ := letv_out hr
      have B19 : w14.heap[w.heap.size]? = some (.cells #[.float .f32 p0r0, .float .f32 p0r1, .float .f32 p0r2, .float .f32 p0r3, .float .f32 p0r4, .float .f32 p0r5, .float .f32 p0r6, .float .f32 p0r7, .float .f32 p0r8, .float .f32 p0r9] 32 (0, 0)) := E14.heap B12
      refine da_on rfl (Eq.trans (show sl _ _ _ = .bool m13 from rfl) (congrArg Value.bool hc16)) (d_cl (vs := [.float .f32 p0r1]) en70 (ac rfl rfl) rfl ?_)
      refine (c70 p0.moments.y p0r1 m18 w14 hm18 p0h1).mono ?_
      rintro _ w20 ⟨rfl, E20⟩
      refine ⟨_, rfl, ?_⟩
      have X21 : Ext w w20 := X15.trans E20
      refine da_op rfl (d_pick (b := true) (Eq.trans (show ev _ _ = .bool m13 from rfl) (congrArg Value.bool hc16)) ?_)
      refine da_op rfl (d_mv (v := .bool m18) rfl ?_)
      rcases Bool.eq_false_or_eq_true m18 with hc22 | hc22
      · skip
        replace hr := bif_t hr hc22
        refine da_on rfl (Eq.trans (show sl _ _ _ = .bool m18 from rfl) (congrArg Value.bool hc22)) (d_fieldAddr rfl (fa29_2 _ _) ?_)
        have B23 : w20.heap[w1.heap.size]? = some (.cells #[.float .f32 p0r0, .float .f32 p0r1, .float .f32 p0r2] 29 (0, 0)) := E20.heap B17
        refine da_on rfl (Eq.trans (show sl _ _ _ = .bool m18 from rfl) (congrArg Value.bool hc22)) (d_load (v := .float .f32 p0r2) rfl agg22 B23 rfl ?_)
        obtain ⟨m24, hm24, hr⟩ := letv_out hr
        have B25 : w20.heap[w.heap.size]? = some (.cells #[.float .f32 p0r0, .float .f32 p0r1, .float .f32 p0r2, .float .f32 p0r3, .float .f32 p0r4, .float .f32 p0r5, .float .f32 p0r6, .float .f32 p0r7, .float .f32 p0r8, .float .f32 p0r9] 32 (0, 0)) := E20.heap B19
        refine da_on rfl (Eq.trans (show sl _ _ _ = .bool m18 from rfl) (congrArg Value.bool hc22)) (d_cl (vs := [.float .f32 p0r2]) en70 (ac rfl rfl) rfl ?_)
        refine (c70 p0.moments.z p0r2 m24 w20 hm24 p0h2).mono ?_
        rintro _ w26 ⟨rfl, E26⟩
        refine ⟨_, rfl, ?_⟩
        have X27 : Ext w w26 := X21.trans E26
        refine da_op rfl (d_pick (b := true) (Eq.trans (show ev _ _ = .bool m18 from rfl) (congrArg Value.bool hc22)) ?_)
        refine da_op rfl (d_mv (v := .bool m24) rfl ?_)
        rcases Bool.eq_false_or_eq_true m24 with hc28 | hc28
        · skip
          replace hr := bif_t hr hc28
          refine da_on rfl (Eq.trans (show sl _ _ _ = .bool m24 from rfl) (congrArg Value.bool hc28)) (d_fieldAddr rfl (fa32_1 _ _) ?_)
          have B29 : w26.heap[w.heap.size]? = some (.cells #[.float .f32 p0r0, .float .f32 p0r1, .float .f32 p0r2, .float .f32 p0r3, .float .f32 p0r4, .float .f32 p0r5, .float .f32 p0r6, .float .f32 p0r7, .float .f32 p0r8, .float .f32 p0r9] 32 (0, 0)) := E26.heap B25
          refine da_on rfl (Eq.trans (show sl _ _ _ = .bool m24 from rfl) (congrArg Value.bool hc28)) (d_loads (vs := #[.float .f32 p0r3, .float .f32 p0r4, .float .f32 p0r5, .float .f32 p0r6]) rfl agg30 size30 B29 rfl ?_)
          obtain ⟨m30, hm30, hr⟩ := bind_out hr
          have B31 : w26.heap[w1.heap.size]? = some (.cells #[.float .f32 p0r0, .float .f32 p0r1, .float .f32 p0r2] 29 (0, 0)) := E26.heap B23
          refine da_on rfl (Eq.trans (show sl _ _ _ = .bool m24 from rfl) (congrArg Value.bool hc28)) (d_cl (vs := [.agg #[.float .f32 p0r3, .float .f32 p0r4, .float .f32 p0r5, .float .f32 p0r6]]) en92 (ac rfl rfl) rfl ?_)
          refine (c92 p0.turn p0r3 p0r4 p0r5 p0r6 m30 w26 hm30 p0h3 p0h4 p0h5 p0h6).mono ?_
          rintro _ w32 ⟨rfl, E32⟩
          refine ⟨_, rfl, ?_⟩
          have X33 : Ext w w32 := X27.trans E32
          refine da_op rfl (d_pick (b := true) (Eq.trans (show ev _ _ = .bool m24 from rfl) (congrArg Value.bool hc28)) ?_)
          refine da_op rfl (d_mv (v := .bool m30) rfl ?_)
          rcases Bool.eq_false_or_eq_true m30 with hc34 | hc34
          · skip
            replace hr := bif_t hr hc34
            refine da_on rfl (Eq.trans (show sl _ _ _ = .bool m30 from rfl) (congrArg Value.bool hc34)) (d_fieldAddr rfl (fa32_2 _ _) ?_)
            have B35 : w32.heap[w.heap.size]? = some (.cells #[.float .f32 p0r0, .float .f32 p0r1, .float .f32 p0r2, .float .f32 p0r3, .float .f32 p0r4, .float .f32 p0r5, .float .f32 p0r6, .float .f32 p0r7, .float .f32 p0r8, .float .f32 p0r9] 32 (0, 0)) := E32.heap B29
            refine da_on rfl (Eq.trans (show sl _ _ _ = .bool m30 from rfl) (congrArg Value.bool hc34)) (d_loads (vs := #[.float .f32 p0r7, .float .f32 p0r8, .float .f32 p0r9]) rfl agg29 size29 B35 rfl ?_)
            obtain ⟨m36, hm36, hr⟩ := bind_out hr
            have B37 : w32.heap[w1.heap.size]? = some (.cells #[.float .f32 p0r0, .float .f32 p0r1, .float .f32 p0r2] 29 (0, 0)) := E32.heap B31
            refine da_on rfl (Eq.trans (show sl _ _ _ = .bool m30 from rfl) (congrArg Value.bool hc34)) (d_cl (vs := [.agg #[.float .f32 p0r7, .float .f32 p0r8, .float .f32 p0r9]]) en25 (ac rfl rfl) rfl ?_)
            refine (c25 p0.speed p0r7 p0r8 p0r9 m36 w32 hm36 p0h7 p0h8 p0h9).mono ?_
            rintro _ w38 ⟨rfl, E38⟩
            refine ⟨_, rfl, ?_⟩
            have X39 : Ext w w38 := X33.trans E38
            refine da_op rfl (d_pick (b := true) (Eq.trans (show ev _ _ = .bool m30 from rfl) (congrArg Value.bool hc34)) ?_)
            refine da_op rfl (d_as (v := .bool m36) rfl ?_)
            refine da_nil ?_
            obtain rfl := Option.some.inj hr
            exact ⟨rfl, (Ext.trans (Ext.trans (Ext.trans (Ext.trans (Ext.trans (Ext.refl w8) E14) E20) E26) E32) E38)⟩
          · skip
            replace hr := bif_f hr hc34
            refine da_off rfl (Eq.trans (show sl _ _ _ = .bool m30 from rfl) (congrArg Value.bool hc34)) (by decide) ?_
            refine da_off rfl (Eq.trans (show sl _ _ _ = .bool m30 from rfl) (congrArg Value.bool hc34)) (by decide) ?_
            refine da_off rfl (Eq.trans (show sl _ _ _ = .bool m30 from rfl) (congrArg Value.bool hc34)) (by decide) ?_
            refine da_op rfl (d_pick (b := false) (Eq.trans (show ev _ _ = .bool m30 from rfl) (congrArg Value.bool hc34)) ?_)
            refine da_op rfl (d_as (v := .bool false) rfl ?_)
            refine da_nil ?_
            obtain rfl := Option.some.inj hr
            exact ⟨rfl, (Ext.trans (Ext.trans (Ext.trans (Ext.trans (Ext.refl w8) E14) E20) E26) E32)⟩
        · skip
          replace hr := bif_f hr hc28
          refine da_off rfl (Eq.trans (show sl _ _ _ = .bool m24 from rfl) (congrArg Value.bool hc28)) (by decide) ?_
          refine da_off rfl (Eq.trans (show sl _ _ _ = .bool m24 from rfl) (congrArg Value.bool hc28)) (by decide) ?_
          refine da_off rfl (Eq.trans (show sl _ _ _ = .bool m24 from rfl) (congrArg Value.bool hc28)) (by decide) ?_
          refine da_op rfl (d_pick (b := false) (Eq.trans (show ev _ _ = .bool m24 from rfl) (congrArg Value.bool hc28)) ?_)
          refine da_op rfl (d_mv (v := .bool false) rfl ?_)
          refine da_off rfl rfl (by decide) ?_
          refine da_off rfl rfl (by decide) ?_
          refine da_off rfl rfl (by decide) ?_
          refine da_op rfl (d_pick (b := false) rfl ?_)
          refine da_op rfl (d_as (v := .bool false) rfl ?_)
          refine da_nil ?_
          obtain rfl := Option.some.inj hr
          exact ⟨rfl, (Ext.trans (Ext.trans (Ext.trans (Ext.refl w8) E14) E20) E26)⟩
      · skip
        replace hr := bif_f hr hc22
        refine da_off rfl (Eq.trans (show sl _ _ _ = .bool m18 from rfl) (congrArg Value.bool hc22)) (by decide) ?_
        refine da_off rfl (Eq.trans (show sl _ _ _ = .bool m18 from rfl) (congrArg Value.bool hc22)) (by decide) ?_
        refine da_off rfl (Eq.trans (show sl _ _ _ = .bool m18 from rfl) (congrArg Value.bool hc22)) (by decide) ?_
        refine da_op rfl (d_pick (b := false) (Eq.trans (show ev _ _ = .bool m18 from rfl) (congrArg Value.bool hc22)) ?_)
        refine da_op rfl (d_mv (v := .bool false) rfl ?_)
        refine da_off rfl rfl (by decide) ?_
        refine da_off rfl rfl (by decide) ?_
        refine da_off rfl rfl (by decide) ?_
        refine da_op rfl (d_pick (b := false) rfl ?_)
        refine da_op rfl (d_mv (v := .bool false) rfl ?_)
        refine da_off rfl rfl (by decide) ?_
        refine da_off rfl rfl (by decide) ?_
        refine da_off rfl rfl (by decide) ?_
        refine da_op rfl (d_pick (b := false) rfl ?_)
        refine da_op rfl (d_as (v := .bool false) rfl ?_)
        refine da_nil ?_
        obtain rfl := Option.some.inj hr
        exact ⟨rfl, (Ext.trans (Ext.trans (Ext.refl w8) E14) E20)⟩
    · skip
      replace hr := bif_f hr hc16
      refine da_off rfl (Eq.trans (show sl _ _ _ = .bool m13 from rfl) (congrArg Value.bool hc16)) (by decide) ?_
      refine da_off rfl (Eq.trans (show sl _ _ _ = .bool m13 from rfl) (congrArg Value.bool hc16)) (by decide) ?_
      refine da_off rfl (Eq.trans (show sl _ _ _ = .bool m13 from rfl) (congrArg Value.bool hc16)) (by decide) ?_
      refine da_op rfl (d_pick (b := false) (Eq.trans (show ev _ _ = .bool m13 from rfl) (congrArg Value.bool hc16)) ?_)
      refine da_op rfl (d_mv (v := .bool false) rfl ?_)
      refine da_off rfl rfl (by decide) ?_
      refine da_off rfl rfl (by decide) ?_
      refine da_off rfl rfl (by decide) ?_
      refine da_op rfl (d_pick (b := false) rfl ?_)
      refine da_op rfl (d_mv (v := .bool false) rfl ?_)
      refine da_off rfl rfl (by decide) ?_
      refine da_off rfl rfl (by decide) ?_
      refine da_off rfl rfl (by decide) ?_
      refine da_op rfl (d_pick (b := false) rfl ?_)
      refine da_op rfl (d_mv (v := .bool false) rfl ?_)
      refine da_off rfl rfl (by decide) ?_
      refine da_off rfl rfl (by decide) ?_
      refine da_off rfl rfl (by decide) ?_
      refine da_op rfl (d_pick (b := false) rfl ?_)
      refine da_op rfl (d_as (v := .bool false) rfl ?_)
      refine da_nil ?_
      obtain rfl := Option.some.inj hr
      exact ⟨rfl, (Ext.trans (Ext.refl w8) E14)⟩
  · skip
    rintro σ11 w11 o11 ⟨s2_11, E11⟩
    have X40 : Ext w w11 := X9.trans E11
    refine W_ret ?_
    obtain rfl := Option.some.inj hr
    refine ⟨_, res1 (rv_tmp s2_11), ?_⟩
    exact ⟨rfl, X40⟩
set_option maxHeartbeats 4000000 in
theorem c54 (p0 : Int) (p1 : Int) (p2 : Int) (r : Bool) (w : World) (hr : M.impl_in p0 p1 p2 = r)  :
    Calls Try.prog 54 #[.int .i64 p0, .int .i64 p1, .int .i64 p2] w fun e w' => e = .returned (.bool r) ∧ Ext w w' := by
  refine calls_of_W Try.func54 rfl (Nat.le_of_ble_eq_true rfl) ?_
  refine W_seq ?_
  refine W_region rfl ?_
  refine da_op rfl (d_as (v := .bool false) rfl ?_)
  refine da_nil ?_
  refine W_seq ?_
  obtain ⟨m1, hm1, hr⟩ := letv_out hr
  refine W_cut (fun σ' w' => σ' 6 = .bool m1 ∧ Ext w w') rfl ?_ ?_
  · skip
    have hr := hm1
    refine da_op rfl (d_mv (v := .int .i64 p0) rfl ?_)
    refine da_op rfl (d_mv (v := .int .i64 p1) rfl ?_)
    refine da_op rfl (d_icmp cGeq rfl rfl ?_)
    refine da_op rfl (d_mv (v := .bool (icmp .geq p0 p1)) rfl ?_)
    rcases Bool.eq_false_or_eq_true (icmp .geq p0 p1) with hc2 | hc2
    · skip
      replace hr := bif_t hr hc2
      refine da_on rfl (Eq.trans (show sl _ _ _ = .bool (icmp .geq p0 p1) from rfl) (congrArg Value.bool hc2)) (d_mv (v := .int .i64 p0) rfl ?_)
      refine da_on rfl (Eq.trans (show sl _ _ _ = .bool (icmp .geq p0 p1) from rfl) (congrArg Value.bool hc2)) (d_mv (v := .int .i64 p2) rfl ?_)
      refine da_on rfl (Eq.trans (show sl _ _ _ = .bool (icmp .geq p0 p1) from rfl) (congrArg Value.bool hc2)) (d_icmp cLeq rfl rfl ?_)
      refine da_op rfl (d_pick (b := true) (Eq.trans (show ev _ _ = .bool (icmp .geq p0 p1) from rfl) (congrArg Value.bool hc2)) ?_)
      refine da_op rfl (d_as (v := .bool (icmp .leq p0 p2)) rfl ?_)
      refine da_nil ?_
      subst hr
      exact ⟨rfl, (Ext.refl w)⟩
    · skip
      replace hr := bif_f hr hc2
      refine da_off rfl (Eq.trans (show sl _ _ _ = .bool (icmp .geq p0 p1) from rfl) (congrArg Value.bool hc2)) (by decide) ?_
      refine da_off rfl (Eq.trans (show sl _ _ _ = .bool (icmp .geq p0 p1) from rfl) (congrArg Value.bool hc2)) (by decide) ?_
      refine da_off rfl (Eq.trans (show sl _ _ _ = .bool (icmp .geq p0 p1) from rfl) (congrArg Value.bool hc2)) (by decide) ?_
      refine da_op rfl (d_pick (b := false) (Eq.trans (show ev _ _ = .bool (icmp .geq p0 p1) from rfl) (congrArg Value.bool hc2)) ?_)
      refine da_op rfl (d_as (v := .bool false) rfl ?_)
      refine da_nil ?_
      subst hr
      exact ⟨rfl, (Ext.refl w)⟩
  · skip
    rintro σ1 w1 o1 ⟨s6_1, E1⟩
    have X3 : Ext w w1 := (Ext.refl w).trans E1
    refine W_ret ?_
    subst hr
    refine ⟨_, res1 (rv_tmp s6_1), ?_⟩
    exact ⟨rfl, X3⟩
set_option maxHeartbeats 4000000 in
theorem c27 (p0 : STop) (p1 : SVector) (p0r0 : Nat) (p0r1 : Nat) (p0r2 : Nat) (p0r3 : Nat) (p0r4 : Nat) (p0r5 : Nat) (p0r6 : Nat) (p0r7 : Nat) (p0r8 : Nat) (p0r9 : Nat) (p1b p1o : Nat) (p1c : Array Value) (p1T : TypeId) (p1f : Nat × Nat) (p1r0 : Nat) (p1r1 : Nat) (p1r2 : Nat) (r : SVector × Bool) (w : World) (hr : M.impl_RunTop_1 p0 p1 = r) (p0h0 : cn .f32 p0r0 = p0.moments.x) (p0h1 : cn .f32 p0r1 = p0.moments.y) (p0h2 : cn .f32 p0r2 = p0.moments.z) (p0h3 : cn .f32 p0r3 = p0.turn.w) (p0h4 : cn .f32 p0r4 = p0.turn.x) (p0h5 : cn .f32 p0r5 = p0.turn.y) (p0h6 : cn .f32 p0r6 = p0.turn.z) (p0h7 : cn .f32 p0r7 = p0.speed.x) (p0h8 : cn .f32 p0r8 = p0.speed.y) (p0h9 : cn .f32 p0r9 = p0.speed.z) (p1h0 : cn .f32 p1r0 = p1.x) (p1h1 : cn .f32 p1r1 = p1.y) (p1h2 : cn .f32 p1r2 = p1.z) (p1B : w.heap[p1b]? = some (.cells p1c p1T p1f)) (p1P : (p1c.toList.drop p1o).take 3 = [.float .f32 p1r0, .float .f32 p1r1, .float .f32 p1r2]) :
    Calls Try.prog 27 #[.agg #[.float .f32 p0r0, .float .f32 p0r1, .float .f32 p0r2, .float .f32 p0r3, .float .f32 p0r4, .float .f32 p0r5, .float .f32 p0r6, .float .f32 p0r7, .float .f32 p0r8, .float .f32 p0r9], .pointer (some ⟨p1b, p1o, none⟩)] w fun e w' => ∃ q0r0 : Nat, ∃ q0r1 : Nat, ∃ q0r2 : Nat, e = .returned (.tuple #[.agg #[.float .f32 q0r0, .float .f32 q0r1, .float .f32 q0r2], .bool r.2]) ∧ cn .f32 q0r0 = r.1.x ∧ cn .f32 q0r1 = r.1.y ∧ cn .f32 q0r2 = r.1.z ∧ Ext w w' := by
  refine calls_of_W Try.func27 rfl (Nat.le_of_ble_eq_true rfl) ?_
  refine W_seq ?_
  refine W_region rfl ?_
  refine da_op rfl (d_box (cs := #[.float .f32 p0r0, .float .f32 p0r1, .float .f32 p0r2, .float .f32 p0r3, .float .f32 p0r4, .float .f32 p0r5, .float .f32 p0r6, .float .f32 p0r7, .float .f32 p0r8, .float .f32 p0r9]) rfl fun w1 B1 E1 => ?_)
  have own2 : w.heap.size ≤ w.heap.size := Nat.le_trans (Ext.refl w).size (Nat.le_refl _)
  have X3 : Ext w w1 := (Ext.refl w).trans E1
  refine da_op rfl (d_alloc (cs := #[.float .f32 0, .float .f32 0, .float .f32 0]) zero29 rfl fun w4 B4 E4 => ?_)
  have own5 : w.heap.size ≤ w1.heap.size := Nat.le_trans X3.size (Nat.le_refl _)
  have sp6 : w.heap.size ≠ w1.heap.size := Nat.ne_of_lt (Nat.lt_of_lt_of_le (lt_heap B1) (Nat.le_refl _))
  have X7 : Ext w w4 := X3.trans E4
  refine da_op rfl (d_as (v := .bool false) rfl ?_)
  refine da_nil ?_
  refine W_seq ?_
  refine W_region rfl ?_
  have B8 : w4.heap[p1b]? = some (.cells p1c p1T p1f) := X7.heap p1B
  refine da_op rfl (d_loads (vs := #[.float .f32 p1r0, .float .f32 p1r1, .float .f32 p1r2]) rfl agg29 size29 B8 (sub_take (vs := #[.float .f32 p1r0, .float .f32 p1r1, .float .f32 p1r2]) (us := #[.float .f32 p1r0, .float .f32 p1r1, .float .f32 p1r2]) (i := 0) p1P rfl (Nat.le_of_ble_eq_true rfl)) ?_)
  refine da_op rfl (d_store (vs := #[.float .f32 p1r0, .float .f32 p1r1, .float .f32 p1r2]) rfl rfl B4 size29 (Nat.le_of_ble_eq_true rfl) rfl fun w9 S9 => ?_)
  have X10 : Ext w w9 := Ext.step X7 S9.frmb (fun k _ hk => hk ▸ own5)
  have B11 : w9.heap[w1.heap.size]? = some (.cells #[.float .f32 p1r0, .float .f32 p1r1, .float .f32 p1r2] 29 (0, 0)) := S9.here
  refine da_op rfl (d_as (v := .bool true) rfl ?_)
  refine da_nil ?_
  refine W_ret ?_
  subst hr
  refine ⟨_, res2 (rv_cells (vs := #[.float .f32 p1r0, .float .f32 p1r1, .float .f32 p1r2]) rfl agg29 size29 B11 rfl) (rv_tmp rfl), ?_⟩
  exact ⟨p1r0, p1r1, p1r2, rfl, p1h0, p1h1, p1h2, X10⟩
set_option maxHeartbeats 4000000 in
theorem c113 (p0 : Nat) (p1 : Nat) (p2 : Nat) (p3 : Nat) (p4 : Nat) (p5 : Nat) (p0r : Nat) (p1r : Nat) (p2r : Nat) (p3r : Nat) (p4r : Nat) (p5r : Nat) (r : Nat) (w : World) (hr : M.impl_Top_rate_1 p0 p1 p2 p3 p4 p5 = r) (p0h : cn .f32 p0r = p0) (p1h : cn .f32 p1r = p1) (p2h : cn .f32 p2r = p2) (p3h : cn .f32 p3r = p3) (p4h : cn .f32 p4r = p4) (p5h : cn .f32 p5r = p5) :
    Calls Try.prog 113 #[.float .f32 p0r, .float .f32 p1r, .float .f32 p2r, .float .f32 p3r, .float .f32 p4r, .float .f32 p5r] w fun e w' => ∃ q0r : Nat, e = .returned (.float .f32 q0r) ∧ cn .f32 q0r = r ∧ Ext w w' := by
  refine calls_of_W Try.func113 rfl (Nat.le_of_ble_eq_true rfl) ?_
  refine W_seq ?_
  refine W_region rfl ?_
  refine da_op rfl (d_as (v := .float .f32 0) rfl ?_)
  refine da_nil ?_
  refine W_seq ?_
  refine W_region rfl ?_
  refine da_op rfl (d_mv (v := .float .f32 p0r) rfl ?_)
  refine da_op rfl (d_mv (v := .float .f32 p1r) rfl ?_)
  refine da_op rfl (d_fop (k := .f32) fSub rfl rfl p0h p1h fun r1 w1 h1 _ E1 => ?_)
  have X2 : Ext w w1 := (Ext.refl w).trans E1
  refine da_op rfl (d_mv (v := .float .f32 p3r) rfl ?_)
  refine da_op rfl (d_mv (v := .float .f32 p4r) rfl ?_)
  refine da_op rfl (d_fop (k := .f32) fMul rfl rfl p3h p4h fun r3 w3 h3 _ E3 => ?_)
  have X4 : Ext w w3 := X2.trans E3
  refine da_op rfl (d_fop (k := .f32) fMul rfl rfl h1 h3 fun r5 w5 h5 _ E5 => ?_)
  have X6 : Ext w w5 := X4.trans E5
  refine da_op rfl (d_mv (v := .float .f32 p5r) rfl ?_)
  refine da_op rfl (d_fop (k := .f32) fAdd rfl rfl h5 p5h fun r7 w7 h7 _ E7 => ?_)
  have X8 : Ext w w7 := X6.trans E7
  refine da_op rfl (d_mv (v := .float .f32 p2r) rfl ?_)
  refine da_op rfl (d_fop (k := .f32) fQuo rfl rfl h7 p2h fun r9 w9 h9 _ E9 => ?_)
  have X10 : Ext w w9 := X8.trans E9
  refine da_op rfl (d_as (v := .float .f32 r9) rfl ?_)
  refine da_nil ?_
  refine W_ret ?_
  subst hr
  refine ⟨_, res1 (rv_tmp rfl), ?_⟩
  exact ⟨r9, rfl, h9, X10⟩
set_option maxHeartbeats 4000000 in
theorem c93 (p0 : STop) (p1 : SVector) (p2 : SVector) (p0b p0o : Nat) (p0c : Array Value) (p0T : TypeId) (p0f : Nat × Nat) (p0r0 : Nat) (p0r1 : Nat) (p0r2 : Nat) (p0r3 : Nat) (p0r4 : Nat) (p0r5 : Nat) (p0r6 : Nat) (p0r7 : Nat) (p0r8 : Nat) (p0r9 : Nat) (p1r0 : Nat) (p1r1 : Nat) (p1r2 : Nat) (p2r0 : Nat) (p2r1 : Nat) (p2r2 : Nat) (r : SVector) (w : World) (hr : M.impl_Top_rate p0 p1 p2 = r) (p0h0 : cn .f32 p0r0 = p0.moments.x) (p0h1 : cn .f32 p0r1 = p0.moments.y) (p0h2 : cn .f32 p0r2 = p0.moments.z) (p0h3 : cn .f32 p0r3 = p0.turn.w) (p0h4 : cn .f32 p0r4 = p0.turn.x) (p0h5 : cn .f32 p0r5 = p0.turn.y) (p0h6 : cn .f32 p0r6 = p0.turn.z) (p0h7 : cn .f32 p0r7 = p0.speed.x) (p0h8 : cn .f32 p0r8 = p0.speed.y) (p0h9 : cn .f32 p0r9 = p0.speed.z) (p0B : w.heap[p0b]? = some (.cells p0c p0T p0f)) (p0P : (p0c.toList.drop p0o).take 10 = [.float .f32 p0r0, .float .f32 p0r1, .float .f32 p0r2, .float .f32 p0r3, .float .f32 p0r4, .float .f32 p0r5, .float .f32 p0r6, .float .f32 p0r7, .float .f32 p0r8, .float .f32 p0r9]) (p1h0 : cn .f32 p1r0 = p1.x) (p1h1 : cn .f32 p1r1 = p1.y) (p1h2 : cn .f32 p1r2 = p1.z) (p2h0 : cn .f32 p2r0 = p2.x) (p2h1 : cn .f32 p2r1 = p2.y) (p2h2 : cn .f32 p2r2 = p2.z) :
    Calls Try.prog 93 #[.pointer (some ⟨p0b, p0o, none⟩), .agg #[.float .f32 p1r0, .float .f32 p1r1, .float .f32 p1r2], .agg #[.float .f32 p2r0, .float .f32 p2r1, .float .f32 p2r2]] w fun e w' => ∃ q0r0 : Nat, ∃ q0r1 : Nat, ∃ q0r2 : Nat, e = .returned (.agg #[.float .f32 q0r0, .float .f32 q0r1, .float .f32 q0r2]) ∧ cn .f32 q0r0 = r.x ∧ cn .f32 q0r1 = r.y ∧ cn .f32 q0r2 = r.z ∧ Ext w w' := by
  refine calls_of_W Try.func93 rfl (Nat.le_of_ble_eq_true rfl) ?_
  refine W_seq ?_
  refine W_region rfl ?_
  refine da_op rfl (d_box (cs := #[.float .f32 p1r0, .float .f32 p1r1, .float .f32 p1r2]) rfl fun w1 B1 E1 => ?_)
  have own2 : w.heap.size ≤ w.heap.size := Nat.le_trans (Ext.refl w).size (Nat.le_refl _)
  have X3 : Ext w w1 := (Ext.refl w).trans E1
  refine da_op rfl (d_box (cs := #[.float .f32 p2r0, .float .f32 p2r1, .float .f32 p2r2]) rfl fun w4 B4 E4 => ?_)
  have own5 : w.heap.size ≤ w1.heap.size := Nat.le_trans X3.size (Nat.le_refl _)
  have sp6 : w.heap.size ≠ w1.heap.size := Nat.ne_of_lt (Nat.lt_of_lt_of_le (lt_heap B1) (Nat.le_refl _))
  have X7 : Ext w w4 := X3.trans E4
  have B9 : w4.heap[w.heap.size]? = some (.cells #[.float .f32 p1r0, .float .f32 p1r1, .float .f32 p1r2] 29 (0, 0)) := E4.heap B1
  refine da_op rfl (d_alloc (cs := #[.float .f32 0, .float .f32 0, .float .f32 0]) zero29 rfl fun w8 B8 E8 => ?_)
  have own10 : w.heap.size ≤ w4.heap.size := Nat.le_trans X7.size (Nat.le_refl _)
  have sp11 : w.heap.size ≠ w4.heap.size := Nat.ne_of_lt (Nat.lt_of_lt_of_le (lt_heap B9) (Nat.le_refl _))
  have sp12 : w1.heap.size ≠ w4.heap.size := Nat.ne_of_lt (Nat.lt_of_lt_of_le (lt_heap B4) (Nat.le_refl _))
  have X13 : Ext w w8 := X7.trans E8
  refine da_nil ?_
  refine W_seq ?_
  refine W_region rfl ?_
  refine da_op rfl (d_mv (v := .pointer (some ⟨p0b, p0o, none⟩)) rfl ?_)
  refine da_op rfl (d_nil rfl ?_)
  refine da_op rfl (d_fieldAddr rfl (fa32_0 _ _) ?_)
  have B14 : w8.heap[p0b]? = some (.cells p0c p0T p0f) := X13.heap p0B
  refine da_op rfl (d_loads (vs := #[.float .f32 p0r0, .float .f32 p0r1, .float .f32 p0r2]) rfl agg29 size29 B14 (sub_take (vs := #[.float .f32 p0r0, .float .f32 p0r1, .float .f32 p0r2, .float .f32 p0r3, .float .f32 p0r4, .float .f32 p0r5, .float .f32 p0r6, .float .f32 p0r7, .float .f32 p0r8, .float .f32 p0r9]) (us := #[.float .f32 p0r0, .float .f32 p0r1, .float .f32 p0r2]) (i := 0) p0P rfl (Nat.le_of_ble_eq_true rfl)) ?_)
  have B16 : w8.heap[w.heap.size]? = some (.cells #[.float .f32 p1r0, .float .f32 p1r1, .float .f32 p1r2] 29 (0, 0)) := E8.heap B9
  have B17 : w8.heap[w1.heap.size]? = some (.cells #[.float .f32 p2r0, .float .f32 p2r1, .float .f32 p2r2] 29 (0, 0)) := E8.heap B4
  refine da_op rfl (d_alloc (cs := #[.float .f32 0, .float .f32 0, .float .f32 0]) zero29 rfl fun w15 B15 E15 => ?_)
  have own18 : w.heap.size ≤ w8.heap.size := Nat.le_trans X13.size (Nat.le_refl _)
  have sp19 : w.heap.size ≠ w8.heap.size := Nat.ne_of_lt (Nat.lt_of_lt_of_le (lt_heap B16) (Nat.le_refl _))
  have sp20 : w1.heap.size ≠ w8.heap.size := Nat.ne_of_lt (Nat.lt_of_lt_of_le (lt_heap B17) (Nat.le_refl _))
  have sp21 : w4.heap.size ≠ w8.heap.size := Nat.ne_of_lt (Nat.lt_of_lt_of_le (lt_heap B8) (Nat.le_refl _))
  have X22 : Ext w w15 := X13.trans E15
  refine da_op rfl (d_store (vs := #[.float .f32 p0r0, .float .f32 p0r1, .float .f32 p0r2]) rfl rfl B15 size29 (Nat.le_of_ble_eq_true rfl) rfl fun w23 S23 => ?_)
  have X24 : Ext w w23 := Ext.step X22 S23.frmb (fun k _ hk => hk ▸ own18)
  have B25 : w23.heap[w8.heap.size]? = some (.cells #[.float .f32 p0r0, .float .f32 p0r1, .float .f32 p0r2] 29 (0, 0)) := S23.here
  refine da_nil ?_
  refine W_seq ?_
  refine W_region rfl ?_
  refine da_op rfl (d_as (v := .func (.func 113) #[] #[]) rfl ?_)
  refine da_nil ?_
  refine W_seq ?_
  have B27 : w23.heap[p0b]? = some (.cells p0c p0T p0f) := X24.heap p0B
  have B28 : w23.heap[w.heap.size]? = some (.cells #[.float .f32 p1r0, .float .f32 p1r1, .float .f32 p1r2] 29 (0, 0)) := S23.frmb.heap sp19 (E15.heap B16)
  have B29 : w23.heap[w1.heap.size]? = some (.cells #[.float .f32 p2r0, .float .f32 p2r1, .float .f32 p2r2] 29 (0, 0)) := S23.frmb.heap sp20 (E15.heap B17)
  have B30 : w23.heap[w4.heap.size]? = some (.cells #[.float .f32 0, .float .f32 0, .float .f32 0] 29 (0, 0)) := S23.frmb.heap sp21 (E15.heap B8)
  obtain ⟨m31, hm31, hr⟩ := letv_out hr
  obtain ⟨m32, hm32, hr⟩ := letv_out hr
  obtain ⟨m33, hm33, hr⟩ := letv_out hr
  refine W_any [fun k _ => k = w4.heap.size] [{ V := fun _ v _ => v = (.func (.func 113) #[] #[]) }, { V := fun _ v _ => v = (.pointer (some ⟨w8.heap.size, 1, none⟩)) }, { V := fun _ v _ => v = (.float .f32 p0r1) }, { V := fun _ v _ => v = (.pointer (some ⟨w8.heap.size, 2, none⟩)) }, { V := fun _ v _ => v = (.float .f32 p0r2) }, { V := fun _ v _ => v = (.pointer (some ⟨w8.heap.size, 0, none⟩)) }, { V := fun _ v _ => v = (.float .f32 p0r0) }, { V := fun _ v _ => v = (.pointer (some ⟨w.heap.size, 1, none⟩)) }, { V := fun _ v _ => v = (.float .f32 p1r1) }, { V := fun _ v _ => v = (.pointer (some ⟨w.heap.size, 2, none⟩)) }, { V := fun _ v _ => v = (.float .f32 p1r2) }, { V := fun _ v _ => v = (.pointer (some ⟨w1.heap.size, 0, none⟩)) }, { V := fun _ v _ => v = (.float .f32 p2r0) }, { V := fun _ v _ => ∃ d26_13_0r : Nat, v = (.float .f32 d26_13_0r) ∧ cn .f32 d26_13_0r = m31 }, { V := fun _ v _ => v = (.func (.func 113) #[] #[]) }, { V := fun _ v _ => v = (.pointer (some ⟨w8.heap.size, 2, none⟩)) }, { V := fun _ v _ => v = (.float .f32 p0r2) }, { V := fun _ v _ => v = (.pointer (some ⟨w8.heap.size, 0, none⟩)) }, { V := fun _ v _ => v = (.float .f32 p0r0) }, { V := fun _ v _ => v = (.pointer (some ⟨w8.heap.size, 1, none⟩)) }, { V := fun _ v _ => v = (.float .f32 p0r1) }, { V := fun _ v _ => v = (.pointer (some ⟨w.heap.size, 2, none⟩)) }, { V := fun _ v _ => v = (.float .f32 p1r2) }, { V := fun _ v _ => v = (.pointer (some ⟨w.heap.size, 0, none⟩)) }, { V := fun _ v _ => v = (.float .f32 p1r0) }, { V := fun _ v _ => v = (.pointer (some ⟨w1.heap.size, 1, none⟩)) }, { V := fun _ v _ => v = (.float .f32 p2r1) }, { V := fun _ v _ => ∃ d26_27_0r : Nat, v = (.float .f32 d26_27_0r) ∧ cn .f32 d26_27_0r = m32 }, { V := fun _ v _ => v = (.func (.func 113) #[] #[]) }, { V := fun _ v _ => v = (.pointer (some ⟨w8.heap.size, 0, none⟩)) }, { V := fun _ v _ => v = (.float .f32 p0r0) }, { V := fun _ v _ => v = (.pointer (some ⟨w8.heap.size, 1, none⟩)) }, { V := fun _ v _ => v = (.float .f32 p0r1) }, { V := fun _ v _ => v = (.pointer (some ⟨w8.heap.size, 2, none⟩)) }, { V := fun _ v _ => v = (.float .f32 p0r2) }, { V := fun _ v _ => v = (.pointer (some ⟨w.heap.size, 0, none⟩)) }, { V := fun _ v _ => v = (.float .f32 p1r0) }, { V := fun _ v _ => v = (.pointer (some ⟨w.heap.size, 1, none⟩)) }, { V := fun _ v _ => v = (.float .f32 p1r1) }, { V := fun _ v _ => v = (.pointer (some ⟨w1.heap.size, 2, none⟩)) }, { V := fun _ v _ => v = (.float .f32 p2r2) }, { V := fun _ v _ => ∃ d26_41_0r : Nat, v = (.float .f32 d26_41_0r) ∧ cn .f32 d26_41_0r = m33 }, { V := fun _ v _ => ∃ d26_13_0r : Nat, ∃ d26_27_0r : Nat, ∃ d26_41_0r : Nat, v = (.agg #[.float .f32 d26_13_0r, .float .f32 d26_27_0r, .float .f32 d26_41_0r]) ∧ cn .f32 d26_13_0r = m31 ∧ cn .f32 d26_27_0r = m32 ∧ cn .f32 d26_41_0r = m33 }, ⟨fun _ _ w' => ∃ d26_13_0r : Nat, ∃ d26_27_0r : Nat, ∃ d26_41_0r : Nat, w'.heap[w4.heap.size]? = some (.cells #[.float .f32 d26_13_0r, .float .f32 d26_27_0r, .float .f32 d26_41_0r] 29 (0, 0)) ∧ cn .f32 d26_13_0r = m31 ∧ cn .f32 d26_27_0r = m32 ∧ cn .f32 d26_41_0r = m33, some 0, fun w' => w'.heap[w4.heap.size]? = some (.cells #[.float .f32 0, .float .f32 0, .float .f32 0] 29 (0, 0))⟩] mixed (by kernel_rfl) ⟨trivial, trivial, trivial, trivial, trivial, trivial, trivial, trivial, trivial, trivial, trivial, trivial, trivial, trivial, trivial, trivial, trivial, trivial, trivial, trivial, trivial, trivial, trivial, trivial, trivial, trivial, trivial, trivial, trivial, trivial, trivial, trivial, trivial, trivial, trivial, trivial, trivial, trivial, trivial, trivial, trivial, trivial, trivial, B30, trivial⟩ ⟨?_, ?_, ?_, ?_, ?_, ?_, ?_, ?_, ?_, ?_, ?_, ?_, ?_, ?_, ?_, ?_, ?_, ?_, ?_, ?_, ?_, ?_, ?_, ?_, ?_, ?_, ?_, ?_, ?_, ?_, ?_, ?_, ?_, ?_, ?_, ?_, ?_, ?_, ?_, ?_, ?_, ?_, ?_, ?_, trivial⟩ ?_
  · skip
    refine ⟨fun _ _ _ _ _ _ h _ => h, fun _ _ h _ => h, fun σ' w' hA hE hD hP => ?_⟩
    have t8 : σ' 8 = .func (.func 113) #[] #[] := (hA 8 rfl).trans rfl
    refine dg_op rfl (d_mv (v := .func (.func 113) #[] #[]) t8 ?_)
    exact ⟨rfl, own_none (Ext.refl w')⟩
  · skip
    refine ⟨fun _ _ _ _ _ _ h _ => h, fun _ _ h _ => h, fun σ' w' hA hE hD hP => ?_⟩
    have t7 : σ' 7 = .pointer (some ⟨w8.heap.size, 0, none⟩) := (hA 7 rfl).trans rfl
    have B0_34 : w'.heap[w8.heap.size]? = some (.cells #[.float .f32 p0r0, .float .f32 p0r1, .float .f32 p0r2] 29 (0, 0)) := hE.heap (not_oth1 (Ne.symm sp21)) B25
    refine dg_op rfl (d_fieldAddr t7 (fa29_1 _ _) ?_)
    exact ⟨rfl, own_none (Ext.refl w')⟩
  · skip
    refine ⟨fun _ _ _ _ _ _ h _ => h, fun _ _ h _ => h, fun σ' w' hA hE hD hP => ?_⟩
    have t14 : σ' 14 = (.pointer (some ⟨w8.heap.size, 1, none⟩)) := hD 1 rfl
    have B0_35 : w'.heap[w8.heap.size]? = some (.cells #[.float .f32 p0r0, .float .f32 p0r1, .float .f32 p0r2] 29 (0, 0)) := hE.heap (not_oth1 (Ne.symm sp21)) B25
    refine dg_op rfl (d_load (v := .float .f32 p0r1) t14 agg22 B0_35 rfl ?_)
    exact ⟨rfl, own_none (Ext.refl w')⟩
  · skip
    refine ⟨fun _ _ _ _ _ _ h _ => h, fun _ _ h _ => h, fun σ' w' hA hE hD hP => ?_⟩
    have t7 : σ' 7 = .pointer (some ⟨w8.heap.size, 0, none⟩) := (hA 7 rfl).trans rfl
    have B0_36 : w'.heap[w8.heap.size]? = some (.cells #[.float .f32 p0r0, .float .f32 p0r1, .float .f32 p0r2] 29 (0, 0)) := hE.heap (not_oth1 (Ne.symm sp21)) B25
    refine dg_op rfl (d_fieldAddr t7 (fa29_2 _ _) ?_)
    exact ⟨rfl, own_none (Ext.refl w')⟩
  · skip
    refine ⟨fun _ _ _ _ _ _ h _ => h, fun _ _ h _ => h, fun σ' w' hA hE hD hP => ?_⟩
    have t16 : σ' 16 = (.pointer (some ⟨w8.heap.size, 2, none⟩)) := hD 3 rfl
    have B0_37 : w'.heap[w8.heap.size]? = some (.cells #[.float .f32 p0r0, .float .f32 p0r1, .float .f32 p0r2] 29 (0, 0)) := hE.heap (not_oth1 (Ne.symm sp21)) B25
    refine dg_op rfl (d_load (v := .float .f32 p0r2) t16 agg22 B0_37 rfl ?_)
    exact ⟨rfl, own_none (Ext.refl w')⟩
  · skip
    refine ⟨fun _ _ _ _ _ _ h _ => h, fun _ _ h _ => h, fun σ' w' hA hE hD hP => ?_⟩
    have t7 : σ' 7 = .pointer (some ⟨w8.heap.size, 0, none⟩) := (hA 7 rfl).trans rfl
    have B0_38 : w'.heap[w8.heap.size]? = some (.cells #[.float .f32 p0r0, .float .f32 p0r1, .float .f32 p0r2] 29 (0, 0)) := hE.heap (not_oth1 (Ne.symm sp21)) B25
    refine dg_op rfl (d_fieldAddr t7 (fa29_0 _ _) ?_)
    exact ⟨rfl, own_none (Ext.refl w')⟩
  · skip
    refine ⟨fun _ _ _ _ _ _ h _ => h, fun _ _ h _ => h, fun σ' w' hA hE hD hP => ?_⟩
    have t18 : σ' 18 = (.pointer (some ⟨w8.heap.size, 0, none⟩)) := hD 5 rfl
    have B0_39 : w'.heap[w8.heap.size]? = some (.cells #[.float .f32 p0r0, .float .f32 p0r1, .float .f32 p0r2] 29 (0, 0)) := hE.heap (not_oth1 (Ne.symm sp21)) B25
    refine dg_op rfl (d_load (v := .float .f32 p0r0) t18 agg22 B0_39 rfl ?_)
    exact ⟨rfl, own_none (Ext.refl w')⟩
  · skip
    refine ⟨fun _ _ _ _ _ _ h _ => h, fun _ _ h _ => h, fun σ' w' hA hE hD hP => ?_⟩
    have t4 : σ' 4 = .pointer (some ⟨w.heap.size, 0, none⟩) := (hA 4 rfl).trans rfl
    have B0_40 : w'.heap[w.heap.size]? = some (.cells #[.float .f32 p1r0, .float .f32 p1r1, .float .f32 p1r2] 29 (0, 0)) := hE.heap (not_oth1 sp11) B28
    refine dg_op rfl (d_fieldAddr t4 (fa29_1 _ _) ?_)
    exact ⟨rfl, own_none (Ext.refl w')⟩
  · skip
    refine ⟨fun _ _ _ _ _ _ h _ => h, fun _ _ h _ => h, fun σ' w' hA hE hD hP => ?_⟩
    have t20 : σ' 20 = (.pointer (some ⟨w.heap.size, 1, none⟩)) := hD 7 rfl
    have B0_41 : w'.heap[w.heap.size]? = some (.cells #[.float .f32 p1r0, .float .f32 p1r1, .float .f32 p1r2] 29 (0, 0)) := hE.heap (not_oth1 sp11) B28
    refine dg_op rfl (d_load (v := .float .f32 p1r1) t20 agg22 B0_41 rfl ?_)
    exact ⟨rfl, own_none (Ext.refl w')⟩
  · skip
    refine ⟨fun _ _ _ _ _ _ h _ => h, fun _ _ h _ => h, fun σ' w' hA hE hD hP => ?_⟩
    have t4 : σ' 4 = .pointer (some ⟨w.heap.size, 0, none⟩) := (hA 4 rfl).trans rfl
    have B0_42 : w'.heap[w.heap.size]? = some (.cells #[.float .f32 p1r0, .float .f32 p1r1, .float .f32 p1r2] 29 (0, 0)) := hE.heap (not_oth1 sp11) B28
    refine dg_op rfl (d_fieldAddr t4 (fa29_2 _ _) ?_)
    exact ⟨rfl, own_none (Ext.refl w')⟩
  · skip
    refine ⟨fun _ _ _ _ _ _ h _ => h, fun _ _ h _ => h, fun σ' w' hA hE hD hP => ?_⟩
    have t22 : σ' 22 = (.pointer (some ⟨w.heap.size, 2, none⟩)) := hD 9 rfl
    have B0_43 : w'.heap[w.heap.size]? = some (.cells #[.float .f32 p1r0, .float .f32 p1r1, .float .f32 p1r2] 29 (0, 0)) := hE.heap (not_oth1 sp11) B28
    refine dg_op rfl (d_load (v := .float .f32 p1r2) t22 agg22 B0_43 rfl ?_)
    exact ⟨rfl, own_none (Ext.refl w')⟩
  · skip
    refine ⟨fun _ _ _ _ _ _ h _ => h, fun _ _ h _ => h, fun σ' w' hA hE hD hP => ?_⟩
    have t5 : σ' 5 = .pointer (some ⟨w1.heap.size, 0, none⟩) := (hA 5 rfl).trans rfl
    have B0_44 : w'.heap[w1.heap.size]? = some (.cells #[.float .f32 p2r0, .float .f32 p2r1, .float .f32 p2r2] 29 (0, 0)) := hE.heap (not_oth1 sp12) B29
    refine dg_op rfl (d_fieldAddr t5 (fa29_0 _ _) ?_)
    exact ⟨rfl, own_none (Ext.refl w')⟩
  · skip
    refine ⟨fun _ _ _ _ _ _ h _ => h, fun _ _ h _ => h, fun σ' w' hA hE hD hP => ?_⟩
    have t24 : σ' 24 = (.pointer (some ⟨w1.heap.size, 0, none⟩)) := hD 11 rfl
    have B0_45 : w'.heap[w1.heap.size]? = some (.cells #[.float .f32 p2r0, .float .f32 p2r1, .float .f32 p2r2] 29 (0, 0)) := hE.heap (not_oth1 sp12) B29
    refine dg_op rfl (d_load (v := .float .f32 p2r0) t24 agg22 B0_45 rfl ?_)
    exact ⟨rfl, own_none (Ext.refl w')⟩
  · skip
    refine ⟨fun _ _ _ _ _ _ h _ => h, fun _ _ h _ => h, fun σ' w' hA hE hD hP => ?_⟩
    have t13 : σ' 13 = (.func (.func 113) #[] #[]) := hD 0 rfl
    have t15 : σ' 15 = (.float .f32 p0r1) := hD 2 rfl
    have t17 : σ' 17 = (.float .f32 p0r2) := hD 4 rfl
    have t19 : σ' 19 = (.float .f32 p0r0) := hD 6 rfl
    have t21 : σ' 21 = (.float .f32 p1r1) := hD 8 rfl
    have t23 : σ' 23 = (.float .f32 p1r2) := hD 10 rfl
    have t25 : σ' 25 = (.float .f32 p2r0) := hD 12 rfl
    refine dg_op rfl (d_clv (vs := [.float .f32 p0r1, .float .f32 p0r2, .float .f32 p0r0, .float .f32 p1r1, .float .f32 p1r2, .float .f32 p2r0]) (cap := []) en113 t13 (ac t15 (ac t17 (ac t19 (ac t21 (ac t23 (ac t25 rfl)))))) ?_)
    refine (c113 p0.moments.y p0.moments.z p0.moments.x p1.y p1.z p2.x p0r1 p0r2 p0r0 p1r1 p1r2 p2r0 m31 w' hm31 p0h1 p0h2 p0h0 p1h1 p1h2 p2h0).mono ?_
    rintro _ w46 ⟨q46_0r, rfl, q46_0h, E46⟩
    refine ⟨_, rfl, ?_⟩
    have X47 : Ext w' w46 := (Ext.refl w').trans E46
    exact ⟨⟨q46_0r, rfl, q46_0h⟩, own_none X47⟩
  · skip
    refine ⟨fun _ _ _ _ _ _ h _ => h, fun _ _ h _ => h, fun σ' w' hA hE hD hP => ?_⟩
    have t8 : σ' 8 = .func (.func 113) #[] #[] := (hA 8 rfl).trans rfl
    refine dg_op rfl (d_mv (v := .func (.func 113) #[] #[]) t8 ?_)
    exact ⟨rfl, own_none (Ext.refl w')⟩
  · skip
    refine ⟨fun _ _ _ _ _ _ h _ => h, fun _ _ h _ => h, fun σ' w' hA hE hD hP => ?_⟩
    have t7 : σ' 7 = .pointer (some ⟨w8.heap.size, 0, none⟩) := (hA 7 rfl).trans rfl
    have B0_48 : w'.heap[w8.heap.size]? = some (.cells #[.float .f32 p0r0, .float .f32 p0r1, .float .f32 p0r2] 29 (0, 0)) := hE.heap (not_oth1 (Ne.symm sp21)) B25
    refine dg_op rfl (d_fieldAddr t7 (fa29_2 _ _) ?_)
    exact ⟨rfl, own_none (Ext.refl w')⟩
  · skip
    refine ⟨fun _ _ _ _ _ _ h _ => h, fun _ _ h _ => h, fun σ' w' hA hE hD hP => ?_⟩
    have t28 : σ' 28 = (.pointer (some ⟨w8.heap.size, 2, none⟩)) := hD 15 rfl
    have B0_49 : w'.heap[w8.heap.size]? = some (.cells #[.float .f32 p0r0, .float .f32 p0r1, .float .f32 p0r2] 29 (0, 0)) := hE.heap (not_oth1 (Ne.symm sp21)) B25
    refine dg_op rfl (d_load (v := .float .f32 p0r2) t28 agg22 B0_49 rfl ?_)
    exact ⟨rfl, own_none (Ext.refl w')⟩
  · skip
    refine ⟨fun _ _ _ _ _ _ h _ => h, fun _ _ h _ => h, fun σ' w' hA hE hD hP => ?_⟩
    have t7 : σ' 7 = .pointer (some ⟨w8.heap.size, 0, none⟩) := (hA 7 rfl).trans rfl
    have B0_50 : w'.heap[w8.heap.size]? = some (.cells #[.float .f32 p0r0, .float .f32 p0r1, .float .f32 p0r2] 29 (0, 0)) := hE.heap (not_oth1 (Ne.symm sp21)) B25
    refine dg_op rfl (d_fieldAddr t7 (fa29_0 _ _) ?_)
    exact ⟨rfl, own_none (Ext.refl w')⟩
  · skip
    refine ⟨fun _ _ _ _ _ _ h _ => h, fun _ _ h _ => h, fun σ' w' hA hE hD hP => ?_⟩
    have t30 : σ' 30 = (.pointer (some ⟨w8.heap.size, 0, none⟩)) := hD 17 rfl
    have B0_51 : w'.heap[w8.heap.size]? = some (.cells #[.float .f32 p0r0, .float .f32 p0r1, .float .f32 p0r2] 29 (0, 0)) := hE.heap (not_oth1 (Ne.symm sp21)) B25
    refine dg_op rfl (d_load (v := .float .f32 p0r0) t30 agg22 B0_51 rfl ?_)
    exact ⟨rfl, own_none (Ext.refl w')⟩
  · skip
    refine ⟨fun _ _ _ _ _ _ h _ => h, fun _ _ h _ => h, fun σ' w' hA hE hD hP => ?_⟩
    have t7 : σ' 7 = .pointer (some ⟨w8.heap.size, 0, none⟩) := (hA 7 rfl).trans rfl
    have B0_52 : w'.heap[w8.heap.size]? = some (.cells #[.float .f32 p0r0, .float .f32 p0r1, .float .f32 p0r2] 29 (0, 0)) := hE.heap (not_oth1 (Ne.symm sp21)) B25
    refine dg_op rfl (d_fieldAddr t7 (fa29_1 _ _) ?_)
    exact ⟨rfl, own_none (Ext.refl w')⟩
  · skip
    refine ⟨fun _ _ _ _ _ _ h _ => h, fun _ _ h _ => h, fun σ' w' hA hE hD hP => ?_⟩
    have t32 : σ' 32 = (.pointer (some ⟨w8.heap.size, 1, none⟩)) := hD 19 rfl
    have B0_53 : w'.heap[w8.heap.size]? = some (.cells #[.float .f32 p0r0, .float .f32 p0r1, .float .f32 p0r2] 29 (0, 0)) := hE.heap (not_oth1 (Ne.symm sp21)) B25
    refine dg_op rfl (d_load (v := .float .f32 p0r1) t32 agg22 B0_53 rfl ?_)
    exact ⟨rfl, own_none (Ext.refl w')⟩
  · skip
    refine ⟨fun _ _ _ _ _ _ h _ => h, fun _ _ h _ => h, fun σ' w' hA hE hD hP => ?_⟩
    have t4 : σ' 4 = .pointer (some ⟨w.heap.size, 0, none⟩) := (hA 4 rfl).trans rfl
    have B0_54 : w'.heap[w.heap.size]? = some (.cells #[.float .f32 p1r0, .float .f32 p1r1, .float .f32 p1r2] 29 (0, 0)) := hE.heap (not_oth1 sp11) B28
    refine dg_op rfl (d_fieldAddr t4 (fa29_2 _ _) ?_)
    exact ⟨rfl, own_none (Ext.refl w')⟩
  · skip
    refine ⟨fun _ _ _ _ _ _ h _ => h, fun _ _ h _ => h, fun σ' w' hA hE hD hP => ?_⟩
    have t34 : σ' 34 = (.pointer (some ⟨w.heap.size, 2, none⟩)) := hD 21 rfl
    have B0_55 : w'.heap[w.heap.size]? = some (.cells #[.float .f32 p1r0, .float .f32 p1r1, .float .f32 p1r2] 29 (0, 0)) := hE.heap (not_oth1 sp11) B28
    refine dg_op rfl (d_load (v := .float .f32 p1r2) t34 agg22 B0_55 rfl ?_)
    exact ⟨rfl, own_none (Ext.refl w')⟩
  · skip
    refine ⟨fun _ _ _ _ _ _ h _ => h, fun _ _ h _ => h, fun σ' w' hA hE hD hP => ?_⟩
    have t4 : σ' 4 = .pointer (some ⟨w.heap.size, 0, none⟩) := (hA 4 rfl).trans rfl
    have B0_56 : w'.heap[w.heap.size]? = some (.cells #[.float .f32 p1r0, .float .f32 p1r1, .float .f32 p1r2] 29 (0, 0)) := hE.heap (not_oth1 sp11) B28
    refine dg_op rfl (d_fieldAddr t4 (fa29_0 _ _) ?_)
    exact ⟨rfl, own_none (Ext.refl w')⟩
  · skip
    refine ⟨fun _ _ _ _ _ _ h _ => h, fun _ _ h _ => h, fun σ' w' hA hE hD hP => ?_⟩
    have t36 : σ' 36 = (.pointer (some ⟨w.heap.size, 0, none⟩)) := hD 23 rfl
    have B0_57 : w'.heap[w.heap.size]? = some (.cells #[.float .f32 p1r0, .float .f32 p1r1, .float .f32 p1r2] 29 (0, 0)) := hE.heap (not_oth1 sp11) B28
    refine dg_op rfl (d_load (v := .float .f32 p1r0) t36 agg22 B0_57 rfl ?_)
    exact ⟨rfl, own_none (Ext.refl w')⟩
  · skip
    refine ⟨fun _ _ _ _ _ _ h _ => h, fun _ _ h _ => h, fun σ' w' hA hE hD hP => ?_⟩
    have t5 : σ' 5 = .pointer (some ⟨w1.heap.size, 0, none⟩) := (hA 5 rfl).trans rfl
    have B0_58 : w'.heap[w1.heap.size]? = some (.cells #[.float .f32 p2r0, .float .f32 p2r1, .float .f32 p2r2] 29 (0, 0)) := hE.heap (not_oth1 sp12) B29
    refine dg_op rfl (d_fieldAddr t5 (fa29_1 _ _) ?_)
    exact ⟨rfl, own_none (Ext.refl w')⟩
  · skip
    refine ⟨fun _ _ _ _ _ _ h _ => h, fun _ _ h _ => h, fun σ' w' hA hE hD hP => ?_⟩
    have t38 : σ' 38 = (.pointer (some ⟨w1.heap.size, 1, none⟩)) := hD 25 rfl
    have B0_59 : w'.heap[w1.heap.size]? = some (.cells #[.float .f32 p2r0, .float .f32 p2r1, .float .f32 p2r2] 29 (0, 0)) := hE.heap (not_oth1 sp12) B29
    refine dg_op rfl (d_load (v := .float .f32 p2r1) t38 agg22 B0_59 rfl ?_)
    exact ⟨rfl, own_none (Ext.refl w')⟩
  · skip
    refine ⟨fun _ _ _ _ _ _ h _ => h, fun _ _ h _ => h, fun σ' w' hA hE hD hP => ?_⟩
    have t27 : σ' 27 = (.func (.func 113) #[] #[]) := hD 14 rfl
    have t29 : σ' 29 = (.float .f32 p0r2) := hD 16 rfl
    have t31 : σ' 31 = (.float .f32 p0r0) := hD 18 rfl
    have t33 : σ' 33 = (.float .f32 p0r1) := hD 20 rfl
    have t35 : σ' 35 = (.float .f32 p1r2) := hD 22 rfl
    have t37 : σ' 37 = (.float .f32 p1r0) := hD 24 rfl
    have t39 : σ' 39 = (.float .f32 p2r1) := hD 26 rfl
    refine dg_op rfl (d_clv (vs := [.float .f32 p0r2, .float .f32 p0r0, .float .f32 p0r1, .float .f32 p1r2, .float .f32 p1r0, .float .f32 p2r1]) (cap := []) en113 t27 (ac t29 (ac t31 (ac t33 (ac t35 (ac t37 (ac t39 rfl)))))) ?_)
    refine (c113 p0.moments.z p0.moments.x p0.moments.y p1.z p1.x p2.y p0r2 p0r0 p0r1 p1r2 p1r0 p2r1 m32 w' hm32 p0h2 p0h0 p0h1 p1h2 p1h0 p2h1).mono ?_
    rintro _ w60 ⟨q60_0r, rfl, q60_0h, E60⟩
    refine ⟨_, rfl, ?_⟩
    have X61 : Ext w' w60 := (Ext.refl w').trans E60
    exact ⟨⟨q60_0r, rfl, q60_0h⟩, own_none X61⟩
  · skip
    refine ⟨fun _ _ _ _ _ _ h _ => h, fun _ _ h _ => h, fun σ' w' hA hE hD hP => ?_⟩
    have t8 : σ' 8 = .func (.func 113) #[] #[] := (hA 8 rfl).trans rfl
    refine dg_op rfl (d_mv (v := .func (.func 113) #[] #[]) t8 ?_)
    exact ⟨rfl, own_none (Ext.refl w')⟩
  · skip
    refine ⟨fun _ _ _ _ _ _ h _ => h, fun _ _ h _ => h, fun σ' w' hA hE hD hP => ?_⟩
    have t7 : σ' 7 = .pointer (some ⟨w8.heap.size, 0, none⟩) := (hA 7 rfl).trans rfl
    have B0_62 : w'.heap[w8.heap.size]? = some (.cells #[.float .f32 p0r0, .float .f32 p0r1, .float .f32 p0r2] 29 (0, 0)) := hE.heap (not_oth1 (Ne.symm sp21)) B25
    refine dg_op rfl (d_fieldAddr t7 (fa29_0 _ _) ?_)
    exact ⟨rfl, own_none (Ext.refl w')⟩
  · skip
    refine ⟨fun _ _ _ _ _ _ h _ => h, fun _ _ h _ => h, fun σ' w' hA hE hD hP => ?_⟩
    have t42 : σ' 42 = (.pointer (some ⟨w8.heap.size, 0, none⟩)) := hD 29 rfl
    have B0_63 : w'.heap[w8.heap.size]? = some (.cells #[.float .f32 p0r0, .float .f32 p0r1, .float .f32 p0r2] 29 (0, 0)) := hE.heap (not_oth1 (Ne.symm sp21)) B25
    refine dg_op rfl (d_load (v := .float .f32 p0r0) t42 agg22 B0_63 rfl ?_)
    exact ⟨rfl, own_none (Ext.refl w')⟩
  · skip
    refine ⟨fun _ _ _ _ _ _ h _ => h, fun _ _ h _ => h, fun σ' w' hA hE hD hP => ?_⟩
    have t7 : σ' 7 = .pointer (some ⟨w8.heap.size, 0, none⟩) := (hA 7 rfl).trans rfl
    have B0_64 : w'.heap[w8.heap.size]? = some (.cells #[.float .f32 p0r0, .float .f32 p0r1, .float .f32 p0r2] 29 (0, 0)) := hE.heap (not_oth1 (Ne.symm sp21)) B25
    refine dg_op rfl (d_fieldAddr t7 (fa29_1 _ _) ?_)
    exact ⟨rfl, own_none (Ext.refl w')⟩
  · skip
    refine ⟨fun _ _ _ _ _ _ h _ => h, fun _ _ h _ => h, fun σ' w' hA hE hD hP => ?_⟩
    have t44 : σ' 44 = (.pointer (some ⟨w8.heap.size, 1, none⟩)) := hD 31 rfl
    have B0_65 : w'.heap[w8.heap.size]? = some (.cells #[.float .f32 p0r0, .float .f32 p0r1, .float .f32 p0r2] 29 (0, 0)) := hE.heap (not_oth1 (Ne.symm sp21)) B25
    refine dg_op rfl (d_load (v := .float .f32 p0r1) t44 agg22 B0_65 rfl ?_)
    exact ⟨rfl, own_none (Ext.refl w')⟩
  · skip
    refine ⟨fun _ _ _ _ _ _ h _ => h, fun _ _ h _ => h, fun σ' w' hA hE hD hP => ?_⟩
    have t7 : σ' 7 = .pointer (some ⟨w8.heap.size, 0, none⟩) := (hA 7 rfl).trans rfl
    have B0_66 : w'.heap[w8.heap.size]? = some (.cells #[.float .f32 p0r0, .float .f32 p0r1, .float .f32 p0r2] 29 (0, 0)) := hE.heap (not_oth1 (Ne.symm sp21)) B25
    refine dg_op rfl (d_fieldAddr t7 (fa29_2 _ _) ?_)
    exact ⟨rfl, own_none (Ext.refl w')⟩
  · skip
    refine ⟨fun _ _ _ _ _ _ h _ => h, fun _ _ h _ => h, fun σ' w' hA hE hD hP => ?_⟩
    have t46 : σ' 46 = (.pointer (some ⟨w8.heap.size, 2, none⟩)) := hD 33 rfl
    have B0_67 : w'.heap[w8.heap.size]? = some (.cells #[.float .f32 p0r0, .float .f32 p0r1, .float .f32 p0r2] 29 (0, 0)) := hE.heap (not_oth1 (Ne.symm sp21)) B25
    refine dg_op rfl (d_load (v := .float .f32 p0r2) t46 agg22 B0_67 rfl ?_)
    exact ⟨rfl, own_none (Ext.refl w')⟩
  · skip
    refine ⟨fun _ _ _ _ _ _ h _ => h, fun _ _ h _ => h, fun σ' w' hA hE hD hP => ?_⟩
    have t4 : σ' 4 = .pointer (some ⟨w.heap.size, 0, none⟩) := (hA 4 rfl).trans rfl
    have B0_68 : w'.heap[w.heap.size]? = some (.cells #[.float .f32 p1r0, .float .f32 p1r1, .float .f32 p1r2] 29 (0, 0)) := hE.heap (not_oth1 sp11) B28
    refine dg_op rfl (d_fieldAddr t4 (fa29_0 _ _) ?_)
    exact ⟨rfl, own_none (Ext.refl w')⟩
  · skip
    refine ⟨fun _ _ _ _ _ _ h _ => h, fun _ _ h _ => h, fun σ' w' hA hE hD hP => ?_⟩
    have t48 : σ' 48 = (.pointer (some ⟨w.heap.size, 0, none⟩)) := hD 35 rfl
    have B0_69 : w'.heap[w.heap.size]? = some (.cells #[.float .f32 p1r0, .float .f32 p1r1, .float .f32 p1r2] 29 (0, 0)) := hE.heap (not_oth1 sp11) B28
    refine dg_op rfl (d_load (v := .float .f32 p1r0) t48 agg22 B0_69 rfl ?_)
    exact ⟨rfl, own_none (Ext.refl w')⟩
  · skip
    refine ⟨fun _ _ _ _ _ _ h _ => h, fun _ _ h _ => h, fun σ' w' hA hE hD hP => ?_⟩
    have t4 : σ' 4 = .pointer (some ⟨w.heap.size, 0, none⟩) := (hA 4 rfl).trans rfl
    have B0_70 : w'.heap[w.heap.size]? = some (.cells #[.float .f32 p1r0, .float .f32 p1r1, .float .f32 p1r2] 29 (0, 0)) := hE.heap (not_oth1 sp11) B28
    refine dg_op rfl (d_fieldAddr t4 (fa29_1 _ _) ?_)
    exact ⟨rfl, own_none (Ext.refl w')⟩
  · skip
    refine ⟨fun _ _ _ _ _ _ h _ => h, fun _ _ h _ => h, fun σ' w' hA hE hD hP => ?_⟩
    have t50 : σ' 50 = (.pointer (some ⟨w.heap.size, 1, none⟩)) := hD 37 rfl
    have B0_71 : w'.heap[w.heap.size]? = some (.cells #[.float .f32 p1r0, .float .f32 p1r1, .float .f32 p1r2] 29 (0, 0)) := hE.heap (not_oth1 sp11) B28
    refine dg_op rfl (d_load (v := .float .f32 p1r1) t50 agg22 B0_71 rfl ?_)
    exact ⟨rfl, own_none (Ext.refl w')⟩
  · skip
    refine ⟨fun _ _ _ _ _ _ h _ => h, fun _ _ h _ => h, fun σ' w' hA hE hD hP => ?_⟩
    have t5 : σ' 5 = .pointer (some ⟨w1.heap.size, 0, none⟩) := (hA 5 rfl).trans rfl
    have B0_72 : w'.heap[w1.heap.size]? = some (.cells #[.float .f32 p2r0, .float .f32 p2r1, .float .f32 p2r2] 29 (0, 0)) := hE.heap (not_oth1 sp12) B29
    refine dg_op rfl (d_fieldAddr t5 (fa29_2 _ _) ?_)
    exact ⟨rfl, own_none (Ext.refl w')⟩
  · skip
    refine ⟨fun _ _ _ _ _ _ h _ => h, fun _ _ h _ => h, fun σ' w' hA hE hD hP => ?_⟩
    have t52 : σ' 52 = (.pointer (some ⟨w1.heap.size, 2, none⟩)) := hD 39 rfl
    have B0_73 : w'.heap[w1.heap.size]? = some (.cells #[.float .f32 p2r0, .float .f32 p2r1, .float .f32 p2r2] 29 (0, 0)) := hE.heap (not_oth1 sp12) B29
    refine dg_op rfl (d_load (v := .float .f32 p2r2) t52 agg22 B0_73 rfl ?_)
    exact ⟨rfl, own_none (Ext.refl w')⟩
  · skip
    refine ⟨fun _ _ _ _ _ _ h _ => h, fun _ _ h _ => h, fun σ' w' hA hE hD hP => ?_⟩
    have t41 : σ' 41 = (.func (.func 113) #[] #[]) := hD 28 rfl
    have t43 : σ' 43 = (.float .f32 p0r0) := hD 30 rfl
    have t45 : σ' 45 = (.float .f32 p0r1) := hD 32 rfl
    have t47 : σ' 47 = (.float .f32 p0r2) := hD 34 rfl
    have t49 : σ' 49 = (.float .f32 p1r0) := hD 36 rfl
    have t51 : σ' 51 = (.float .f32 p1r1) := hD 38 rfl
    have t53 : σ' 53 = (.float .f32 p2r2) := hD 40 rfl
    refine dg_op rfl (d_clv (vs := [.float .f32 p0r0, .float .f32 p0r1, .float .f32 p0r2, .float .f32 p1r0, .float .f32 p1r1, .float .f32 p2r2]) (cap := []) en113 t41 (ac t43 (ac t45 (ac t47 (ac t49 (ac t51 (ac t53 rfl)))))) ?_)
    refine (c113 p0.moments.x p0.moments.y p0.moments.z p1.x p1.y p2.z p0r0 p0r1 p0r2 p1r0 p1r1 p2r2 m33 w' hm33 p0h0 p0h1 p0h2 p1h0 p1h1 p2h2).mono ?_
    rintro _ w74 ⟨q74_0r, rfl, q74_0h, E74⟩
    refine ⟨_, rfl, ?_⟩
    have X75 : Ext w' w74 := (Ext.refl w').trans E74
    exact ⟨⟨q74_0r, rfl, q74_0h⟩, own_none X75⟩
  · skip
    refine ⟨fun _ _ _ _ _ _ h _ => h, fun _ _ h _ => h, fun σ' w' hA hE hD hP => ?_⟩
    obtain ⟨d26_13_0r, t26, d26_13_0h⟩ : ∃ d26_13_0r : Nat, σ' 26 = (.float .f32 d26_13_0r) ∧ cn .f32 d26_13_0r = m31 := hD 13 rfl
    obtain ⟨d26_27_0r, t40, d26_27_0h⟩ : ∃ d26_27_0r : Nat, σ' 40 = (.float .f32 d26_27_0r) ∧ cn .f32 d26_27_0r = m32 := hD 27 rfl
    obtain ⟨d26_41_0r, t54, d26_41_0h⟩ : ∃ d26_41_0r : Nat, σ' 54 = (.float .f32 d26_41_0r) ∧ cn .f32 d26_41_0r = m33 := hD 41 rfl
    refine dg_op rfl (d_bd (vs := [(0, .float .f32 d26_13_0r), (1, .float .f32 d26_27_0r), (2, .float .f32 d26_41_0r)]) (cs := #[.float .f32 d26_13_0r, .float .f32 d26_27_0r, .float .f32 d26_41_0r]) (pc t26 (pc t40 (pc t54 rfl))) (by kernel_rfl) ?_)
    exact ⟨⟨d26_13_0r, d26_27_0r, d26_41_0r, rfl, d26_13_0h, d26_27_0h, d26_41_0h⟩, own_none (Ext.refl w')⟩
  · skip
    refine ⟨fun _ _ _ w' w'' _ ⟨d26_13_0r, d26_27_0r, d26_41_0r, hB, d26_13_0h, d26_27_0h, d26_41_0h⟩ hF => ⟨d26_13_0r, d26_27_0r, d26_41_0r, hF.heap not_oth1s hB, d26_13_0h, d26_27_0h, d26_41_0h⟩, fun _ _ h hF => hF.heap not_oth1s h, fun σ' w' hA hE hD hP => ?_⟩
    have t6 : σ' 6 = .pointer (some ⟨w4.heap.size, 0, none⟩) := (hA 6 rfl).trans rfl
    obtain ⟨d26_13_0r, d26_27_0r, d26_41_0r, t55, d26_13_0h, d26_27_0h, d26_41_0h⟩ : ∃ d26_13_0r : Nat, ∃ d26_27_0r : Nat, ∃ d26_41_0r : Nat, σ' 55 = (.agg #[.float .f32 d26_13_0r, .float .f32 d26_27_0r, .float .f32 d26_41_0r]) ∧ cn .f32 d26_13_0r = m31 ∧ cn .f32 d26_27_0r = m32 ∧ cn .f32 d26_41_0r = m33 := hD 42 rfl
    have B0_76 : w'.heap[w4.heap.size]? = some (.cells #[.float .f32 0, .float .f32 0, .float .f32 0] 29 (0, 0)) := (hP 43 _ _ rfl rfl (.inl rfl)).1
    refine dg_op rfl (d_store (vs := #[.float .f32 d26_13_0r, .float .f32 d26_27_0r, .float .f32 d26_41_0r]) t6 (congrArg Value.cells t55) B0_76 size29 (Nat.le_of_ble_eq_true rfl) rfl fun w77 S77 => ?_)
    have B78 : w77.heap[w4.heap.size]? = some (.cells #[.float .f32 d26_13_0r, .float .f32 d26_27_0r, .float .f32 d26_41_0r] 29 (0, 0)) := S77.here
    exact ⟨⟨d26_13_0r, d26_27_0r, d26_41_0r, B78, d26_13_0h, d26_27_0h, d26_41_0h⟩, own_some (j := 0) rfl S77.frmb⟩
  · skip
    intro σ26 w26 A26 E26 V26
    obtain ⟨z26_m0_13_0r, z26_m0_27_0r, z26_m0_41_0r, Bm0_26, z26_m0_13_0h, z26_m0_27_0h, z26_m0_41_0h⟩ : ∃ z26_m0_13_0r : Nat, ∃ z26_m0_27_0r : Nat, ∃ z26_m0_41_0r : Nat, w26.heap[w4.heap.size]? = some (.cells #[.float .f32 z26_m0_13_0r, .float .f32 z26_m0_27_0r, .float .f32 z26_m0_41_0r] 29 (0, 0)) ∧ cn .f32 z26_m0_13_0r = m31 ∧ cn .f32 z26_m0_27_0r = m32 ∧ cn .f32 z26_m0_41_0r = m33 := V26 43 (Nat.le_of_ble_eq_true rfl)
    have s6_26 : σ26 6 = .pointer (some ⟨w4.heap.size, 0, none⟩) := (A26 6 rfl).trans rfl
    have X79 : Ext w w26 := Ext.step X24 E26 (oth_own1 (fun k _ hk => hk ▸ own10))
    refine W_ret ?_
    subst hr
    refine ⟨_, res1 (rv_cells (vs := #[.float .f32 z26_m0_13_0r, .float .f32 z26_m0_27_0r, .float .f32 z26_m0_41_0r]) s6_26 agg29 size29 Bm0_26 rfl), ?_⟩
    exact ⟨z26_m0_13_0r, z26_m0_27_0r, z26_m0_41_0r, rfl, z26_m0_13_0h, z26_m0_27_0h, z26_m0_41_0h, X79⟩
set_option maxHeartbeats 4000000 in
theorem c95 (p0 : SVector) (p1 : Nat) (p0r0 : Nat) (p0r1 : Nat) (p0r2 : Nat) (p1r : Nat) (r : SVector) (w : World) (hr : M.impl_ScaleVector p0 p1 = r) (p0h0 : cn .f32 p0r0 = p0.x) (p0h1 : cn .f32 p0r1 = p0.y) (p0h2 : cn .f32 p0r2 = p0.z) (p1h : cn .f32 p1r = p1) :
    Calls Try.prog 95 #[.agg #[.float .f32 p0r0, .float .f32 p0r1, .float .f32 p0r2], .float .f32 p1r] w fun e w' => ∃ q0r0 : Nat, ∃ q0r1 : Nat, ∃ q0r2 : Nat, e = .returned (.agg #[.float .f32 q0r0, .float .f32 q0r1, .float .f32 q0r2]) ∧ cn .f32 q0r0 = r.x ∧ cn .f32 q0r1 = r.y ∧ cn .f32 q0r2 = r.z ∧ Ext w w' := by
  refine calls_of_W Try.func95 rfl (Nat.le_of_ble_eq_true rfl) ?_
  refine W_seq ?_
  refine W_region rfl ?_
  refine da_op rfl (d_box (cs := #[.float .f32 p0r0, .float .f32 p0r1, .float .f32 p0r2]) rfl fun w1 B1 E1 => ?_)
  have own2 : w.heap.size ≤ w.heap.size := Nat.le_trans (Ext.refl w).size (Nat.le_refl _)
  have X3 : Ext w w1 := (Ext.refl w).trans E1
  refine da_op rfl (d_alloc (cs := #[.float .f32 0, .float .f32 0, .float .f32 0]) zero29 rfl fun w4 B4 E4 => ?_)
  have own5 : w.heap.size ≤ w1.heap.size := Nat.le_trans X3.size (Nat.le_refl _)
  have sp6 : w.heap.size ≠ w1.heap.size := Nat.ne_of_lt (Nat.lt_of_lt_of_le (lt_heap B1) (Nat.le_refl _))
  have X7 : Ext w w4 := X3.trans E4
  refine da_nil ?_
  refine W_seq ?_
  refine W_region rfl ?_
  refine da_op rfl (d_fieldAddr rfl (fa29_0 _ _) ?_)
  have B8 : w4.heap[w.heap.size]? = some (.cells #[.float .f32 p0r0, .float .f32 p0r1, .float .f32 p0r2] 29 (0, 0)) := E4.heap B1
  refine da_op rfl (d_load (v := .float .f32 p0r0) rfl agg22 B8 rfl ?_)
  refine da_op rfl (d_mv (v := .float .f32 p1r) rfl ?_)
  refine da_op rfl (d_fop (k := .f32) fMul rfl rfl p0h0 p1h fun r9 w9 h9 _ E9 => ?_)
  have X10 : Ext w w9 := X7.trans E9
  refine da_op rfl (d_fieldAddr rfl (fa29_1 _ _) ?_)
  have B11 : w9.heap[w.heap.size]? = some (.cells #[.float .f32 p0r0, .float .f32 p0r1, .float .f32 p0r2] 29 (0, 0)) := E9.heap B8
  refine da_op rfl (d_load (v := .float .f32 p0r1) rfl agg22 B11 rfl ?_)
  refine da_op rfl (d_mv (v := .float .f32 p1r) rfl ?_)
  refine da_op rfl (d_fop (k := .f32) fMul rfl rfl p0h1 p1h fun r12 w12 h12 _ E12 => ?_)
  have X13 : Ext w w12 := X10.trans E12
  refine da_op rfl (d_fieldAddr rfl (fa29_2 _ _) ?_)
  have B14 : w12.heap[w.heap.size]? = some (.cells #[.float .f32 p0r0, .float .f32 p0r1, .float .f32 p0r2] 29 (0, 0)) := E12.heap B11
  refine da_op rfl (d_load (v := .float .f32 p0r2) rfl agg22 B14 rfl ?_)
  refine da_op rfl (d_mv (v := .float .f32 p1r) rfl ?_)
  refine da_op rfl (d_fop (k := .f32) fMul rfl rfl p0h2 p1h fun r15 w15 h15 _ E15 => ?_)
  have X16 : Ext w w15 := X13.trans E15
  refine da_op rfl (d_bd (vs := [(0, .float .f32 r9), (1, .float .f32 r12), (2, .float .f32 r15)]) (cs := #[.float .f32 r9, .float .f32 r12, .float .f32 r15]) (pc rfl (pc rfl (pc rfl rfl))) (by kernel_rfl) ?_)
  have B17 : w15.heap[w1.heap.size]? = some (.cells #[.float .f32 0, .float .f32 0, .float .f32 0] 29 (0, 0)) := E15.heap (E12.heap (E9.heap B4))
  refine da_op rfl (d_store (vs := #[.float .f32 r9, .float .f32 r12, .float .f32 r15]) rfl rfl B17 size29 (Nat.le_of_ble_eq_true rfl) rfl fun w18 S18 => ?_)
  have X19 : Ext w w18 := Ext.step X16 S18.frmb (fun k _ hk => hk ▸ own5)
  have B20 : w18.heap[w1.heap.size]? = some (.cells #[.float .f32 r9, .float .f32 r12, .float .f32 r15] 29 (0, 0)) := S18.here
  refine da_nil ?_
  refine W_ret ?_
  subst hr
  refine ⟨_, res1 (rv_cells (vs := #[.float .f32 r9, .float .f32 r12, .float .f32 r15]) rfl agg29 size29 B20 rfl), ?_⟩
  exact ⟨r9, r12, r15, rfl, h9, h12, h15, X19⟩
set_option maxHeartbeats 4000000 in
theorem c94 (p0 : SVector) (p1 : SVector) (p0r0 : Nat) (p0r1 : Nat) (p0r2 : Nat) (p1r0 : Nat) (p1r1 : Nat) (p1r2 : Nat) (r : SVector) (w : World) (hr : M.impl_AddVectors p0 p1 = r) (p0h0 : cn .f32 p0r0 = p0.x) (p0h1 : cn .f32 p0r1 = p0.y) (p0h2 : cn .f32 p0r2 = p0.z) (p1h0 : cn .f32 p1r0 = p1.x) (p1h1 : cn .f32 p1r1 = p1.y) (p1h2 : cn .f32 p1r2 = p1.z) :
    Calls Try.prog 94 #[.agg #[.float .f32 p0r0, .float .f32 p0r1, .float .f32 p0r2], .agg #[.float .f32 p1r0, .float .f32 p1r1, .float .f32 p1r2]] w fun e w' => ∃ q0r0 : Nat, ∃ q0r1 : Nat, ∃ q0r2 : Nat, e = .returned (.agg #[.float .f32 q0r0, .float .f32 q0r1, .float .f32 q0r2]) ∧ cn .f32 q0r0 = r.x ∧ cn .f32 q0r1 = r.y ∧ cn .f32 q0r2 = r.z ∧ Ext w w' := by
  refine calls_of_W Try.func94 rfl (Nat.le_of_ble_eq_true rfl) ?_
  refine W_seq ?_
  refine W_region rfl ?_
  refine da_op rfl (d_box (cs := #[.float .f32 p0r0, .float .f32 p0r1, .float .f32 p0r2]) rfl fun w1 B1 E1 => ?_)
  have own2 : w.heap.size ≤ w.heap.size := Nat.le_trans (Ext.refl w).size (Nat.le_refl _)
  have X3 : Ext w w1 := (Ext.refl w).trans E1
  refine da_op rfl (d_box (cs := #[.float .f32 p1r0, .float .f32 p1r1, .float .f32 p1r2]) rfl fun w4 B4 E4 => ?_)
  have own5 : w.heap.size ≤ w1.heap.size := Nat.le_trans X3.size (Nat.le_refl _)
  have sp6 : w.heap.size ≠ w1.heap.size := Nat.ne_of_lt (Nat.lt_of_lt_of_le (lt_heap B1) (Nat.le_refl _))
  have X7 : Ext w w4 := X3.trans E4
  have B9 : w4.heap[w.heap.size]? = some (.cells #[.float .f32 p0r0, .float .f32 p0r1, .float .f32 p0r2] 29 (0, 0)) := E4.heap B1
  refine da_op rfl (d_alloc (cs := #[.float .f32 0, .float .f32 0, .float .f32 0]) zero29 rfl fun w8 B8 E8 => ?_)
  have own10 : w.heap.size ≤ w4.heap.size := Nat.le_trans X7.size (Nat.le_refl _)
  have sp11 : w.heap.size ≠ w4.heap.size := Nat.ne_of_lt (Nat.lt_of_lt_of_le (lt_heap B9) (Nat.le_refl _))
  have sp12 : w1.heap.size ≠ w4.heap.size := Nat.ne_of_lt (Nat.lt_of_lt_of_le (lt_heap B4) (Nat.le_refl _))
  have X13 : Ext w w8 := X7.trans E8
  refine da_nil ?_
  refine W_seq ?_
  refine W_region rfl ?_
  refine da_op rfl (d_fieldAddr rfl (fa29_0 _ _) ?_)
  have B14 : w8.heap[w.heap.size]? = some (.cells #[.float .f32 p0r0, .float .f32 p0r1, .float .f32 p0r2] 29 (0, 0)) := E8.heap B9
  refine da_op rfl (d_load (v := .float .f32 p0r0) rfl agg22 B14 rfl ?_)
  refine da_op rfl (d_fieldAddr rfl (fa29_0 _ _) ?_)
  have B15 : w8.heap[w1.heap.size]? = some (.cells #[.float .f32 p1r0, .float .f32 p1r1, .float .f32 p1r2] 29 (0, 0)) := E8.heap B4
  refine da_op rfl (d_load (v := .float .f32 p1r0) rfl agg22 B15 rfl ?_)
  refine da_op rfl (d_fop (k := .f32) fAdd rfl rfl p0h0 p1h0 fun r16 w16 h16 _ E16 => ?_)
  have X17 : Ext w w16 := X13.trans E16
  refine da_op rfl (d_fieldAddr rfl (fa29_1 _ _) ?_)
  have B18 : w16.heap[w.heap.size]? = some (.cells #[.float .f32 p0r0, .float .f32 p0r1, .float .f32 p0r2] 29 (0, 0)) := E16.heap B14
  refine da_op rfl (d_load (v := .float .f32 p0r1) rfl agg22 B18 rfl ?_)
  refine da_op rfl (d_fieldAddr rfl (fa29_1 _ _) ?_)
  have B19 : w16.heap[w1.heap.size]? = some (.cells #[.float .f32 p1r0, .float .f32 p1r1, .float .f32 p1r2] 29 (0, 0)) := E16.heap B15
  refine da_op rfl (d_load (v := .float .f32 p1r1) rfl agg22 B19 rfl ?_)
  refine da_op rfl (d_fop (k := .f32) fAdd rfl rfl p0h1 p1h1 fun r20 w20 h20 _ E20 => ?_)
  have X21 : Ext w w20 := X17.trans E20
  refine da_op rfl (d_fieldAddr rfl (fa29_2 _ _) ?_)
  have B22 : w20.heap[w.heap.size]? = some (.cells #[.float .f32 p0r0, .float .f32 p0r1, .float .f32 p0r2] 29 (0, 0)) := E20.heap B18
  refine da_op rfl (d_load (v := .float .f32 p0r2) rfl agg22 B22 rfl ?_)
  refine da_op rfl (d_fieldAddr rfl (fa29_2 _ _) ?_)
  have B23 : w20.heap[w1.heap.size]? = some (.cells #[.float .f32 p1r0, .float .f32 p1r1, .float .f32 p1r2] 29 (0, 0)) := E20.heap B19
  refine da_op rfl (d_load (v := .float .f32 p1r2) rfl agg22 B23 rfl ?_)
  refine da_op rfl (d_fop (k := .f32) fAdd rfl rfl p0h2 p1h2 fun r24 w24 h24 _ E24 => ?_)
  have X25 : Ext w w24 := X21.trans E24
  refine da_op rfl (d_bd (vs := [(0, .float .f32 r16), (1, .float .f32 r20), (2, .float .f32 r24)]) (cs := #[.float .f32 r16, .float .f32 r20, .float .f32 r24]) (pc rfl (pc rfl (pc rfl rfl))) (by kernel_rfl) ?_)
  have B26 : w24.heap[w4.heap.size]? = some (.cells #[.float .f32 0, .float .f32 0, .float .f32 0] 29 (0, 0)) := E24.heap (E20.heap (E16.heap B8))
  refine da_op rfl (d_store (vs := #[.float .f32 r16, .float .f32 r20, .float .f32 r24]) rfl rfl B26 size29 (Nat.le_of_ble_eq_true rfl) rfl fun w27 S27 => ?_)
  have X28 : Ext w w27 := Ext.step X25 S27.frmb (fun k _ hk => hk ▸ own10)
  have B29 : w27.heap[w4.heap.size]? = some (.cells #[.float .f32 r16, .float .f32 r20, .float .f32 r24] 29 (0, 0)) := S27.here
  refine da_nil ?_
  refine W_ret ?_
  subst hr
  refine ⟨_, res1 (rv_cells (vs := #[.float .f32 r16, .float .f32 r20, .float .f32 r24]) rfl agg29 size29 B29 rfl), ?_⟩
  exact ⟨r16, r20, r24, rfl, h16, h20, h24, X28⟩
set_option maxHeartbeats 4000000 in
theorem c116 (p0 : Arr4Nat) (p1 : Arr4Nat) (p2 : Arr3Nat) (p0r0 : Nat) (p0r1 : Nat) (p0r2 : Nat) (p0r3 : Nat) (p1r0 : Nat) (p1r1 : Nat) (p1r2 : Nat) (p1r3 : Nat) (p2r0 : Nat) (p2r1 : Nat) (p2r2 : Nat) (r : Nat) (w : World) (hr : M.impl_signed p0 p1 p2 = r) (p0h0 : cn .f32 p0r0 = p0.a0) (p0h1 : cn .f32 p0r1 = p0.a1) (p0h2 : cn .f32 p0r2 = p0.a2) (p0h3 : cn .f32 p0r3 = p0.a3) (p1h0 : cn .f32 p1r0 = p1.a0) (p1h1 : cn .f32 p1r1 = p1.a1) (p1h2 : cn .f32 p1r2 = p1.a2) (p1h3 : cn .f32 p1r3 = p1.a3) (p2h0 : cn .f32 p2r0 = p2.a0) (p2h1 : cn .f32 p2r1 = p2.a1) (p2h2 : cn .f32 p2r2 = p2.a2) :
    Calls Try.prog 116 #[.agg #[.float .f32 p0r0, .float .f32 p0r1, .float .f32 p0r2, .float .f32 p0r3], .agg #[.float .f32 p1r0, .float .f32 p1r1, .float .f32 p1r2, .float .f32 p1r3], .agg #[.float .f32 p2r0, .float .f32 p2r1, .float .f32 p2r2]] w fun e w' => ∃ q0r : Nat, e = .returned (.float .f32 q0r) ∧ cn .f32 q0r = r ∧ Ext w w' := by
  refine calls_of_W Try.func116 rfl (Nat.le_of_ble_eq_true rfl) ?_
  refine W_seq ?_
  refine W_region rfl ?_
  refine da_op rfl (d_box (cs := #[.float .f32 p0r0, .float .f32 p0r1, .float .f32 p0r2, .float .f32 p0r3]) rfl fun w1 B1 E1 => ?_)
  have own2 : w.heap.size ≤ w.heap.size := Nat.le_trans (Ext.refl w).size (Nat.le_refl _)
  have X3 : Ext w w1 := (Ext.refl w).trans E1
  refine da_op rfl (d_box (cs := #[.float .f32 p1r0, .float .f32 p1r1, .float .f32 p1r2, .float .f32 p1r3]) rfl fun w4 B4 E4 => ?_)
  have own5 : w.heap.size ≤ w1.heap.size := Nat.le_trans X3.size (Nat.le_refl _)
  have sp6 : w.heap.size ≠ w1.heap.size := Nat.ne_of_lt (Nat.lt_of_lt_of_le (lt_heap B1) (Nat.le_refl _))
  have X7 : Ext w w4 := X3.trans E4
  have B9 : w4.heap[w.heap.size]? = some (.cells #[.float .f32 p0r0, .float .f32 p0r1, .float .f32 p0r2, .float .f32 p0r3] 145 (0, 0)) := E4.heap B1
  refine da_op rfl (d_box (cs := #[.float .f32 p2r0, .float .f32 p2r1, .float .f32 p2r2]) rfl fun w8 B8 E8 => ?_)
  have own10 : w.heap.size ≤ w4.heap.size := Nat.le_trans X7.size (Nat.le_refl _)
  have sp11 : w.heap.size ≠ w4.heap.size := Nat.ne_of_lt (Nat.lt_of_lt_of_le (lt_heap B9) (Nat.le_refl _))
  have sp12 : w1.heap.size ≠ w4.heap.size := Nat.ne_of_lt (Nat.lt_of_lt_of_le (lt_heap B4) (Nat.le_refl _))
  have X13 : Ext w w8 := X7.trans E8
  refine da_op rfl (d_as (v := .float .f32 0) rfl ?_)
  refine da_nil ?_
  refine W_seq ?_
  refine W_region rfl ?_
  refine da_op rfl (d_indexArr rfl rfl (ia145_0 _ _) ?_)
  have B14 : w8.heap[w.heap.size]? = some (.cells #[.float .f32 p0r0, .float .f32 p0r1, .float .f32 p0r2, .float .f32 p0r3] 145 (0, 0)) := E8.heap B9
  refine da_op rfl (d_load (v := .float .f32 p0r0) rfl agg22 B14 rfl ?_)
  refine da_op rfl (d_indexArr rfl rfl (ia145_0 _ _) ?_)
  have B15 : w8.heap[w1.heap.size]? = some (.cells #[.float .f32 p1r0, .float .f32 p1r1, .float .f32 p1r2, .float .f32 p1r3] 145 (0, 0)) := E8.heap B4
  refine da_op rfl (d_load (v := .float .f32 p1r0) rfl agg22 B15 rfl ?_)
  refine da_op rfl (d_fop (k := .f32) fMul rfl rfl p0h0 p1h0 fun r16 w16 h16 _ E16 => ?_)
  have X17 : Ext w w16 := X13.trans E16
  refine da_op rfl (d_as (v := .float .f32 r16) rfl ?_)
  refine da_nil ?_
  refine W_seq ?_
  refine W_seq ?_
  refine W_region rfl ?_
  have B18 : w16.heap[w4.heap.size]? = some (.cells #[.float .f32 p2r0, .float .f32 p2r1, .float .f32 p2r2] 146 (0, 0)) := E16.heap B8
  refine da_op rfl (d_loads (vs := #[.float .f32 p2r0, .float .f32 p2r1, .float .f32 p2r2]) rfl agg146 size146 B18 rfl ?_)
  refine da_op rfl (d_mv (v := .int .i64 0) rfl ?_)
  refine da_nil ?_
  refine W_block ?_
  refine W_rounds 100 ?_
  refine Wr_next ?_
  refine W_seq ?_
  refine W_region rfl ?_
  refine da_op rfl (d_icmpL (b := true) cLss rfl rfl (by decide) ?_)
  refine da_nil ?_
  refine W_seq ?_
  refine W_true rfl ?_
  refine W_skip ?_
  refine W_seq ?_
  refine W_block ?_
  refine W_seq ?_
  refine W_region rfl ?_
  refine da_op rfl (d_mv (v := .int .i64 0) rfl ?_)
  refine da_op rfl (d_indexVal (v := .float .f32 p2r0) rfl rfl (ix146_0 _ _ _) ?_)
  refine da_op rfl (d_as (v := .int .i64 0) rfl ?_)
  refine da_op rfl (d_as (v := .float .f32 p2r0) rfl ?_)
  refine da_nil ?_
  have B20 : w16.heap[w.heap.size]? = some (.cells #[.float .f32 p0r0, .float .f32 p0r1, .float .f32 p0r2, .float .f32 p0r3] 145 (0, 0)) := E16.heap B14
  have B21 : w16.heap[w1.heap.size]? = some (.cells #[.float .f32 p1r0, .float .f32 p1r1, .float .f32 p1r2, .float .f32 p1r3] 145 (0, 0)) := E16.heap B15
  refine W_any [] [{ V := fun _ v _ => v = (.float .f32 r16) }, { V := fun _ v _ => v = (.float .f32 p2r0) }, { V := fun _ v _ => v = (.int .i64 0) }, { V := fun _ v _ => v = (.int .i64 1) }, { V := fun _ v _ => v = (.pointer (some ⟨w.heap.size, 1, none⟩)) }, { V := fun _ v _ => v = (.float .f32 p0r1) }, { V := fun _ v _ => v = (.int .i64 0) }, { V := fun _ v _ => v = (.int .i64 1) }, { V := fun _ v _ => v = (.pointer (some ⟨w1.heap.size, 1, none⟩)) }, { V := fun _ v _ => v = (.float .f32 p1r1) }, { V := fun _ v _ => ∃ d19_10r : Nat, v = (.float .f32 d19_10r) ∧ cn .f32 d19_10r = (fop .mul .f32 p0.a1 p1.a1) }, { V := fun _ v _ => ∃ d19_11r : Nat, v = (.float .f32 d19_11r) ∧ cn .f32 d19_11r = (fop .mul .f32 p2.a0 (fop .mul .f32 p0.a1 p1.a1)) }, { V := fun _ v _ => ∃ d19_12r : Nat, v = (.float .f32 d19_12r) ∧ cn .f32 d19_12r = (fop .add .f32 (fop .mul .f32 p0.a0 p1.a0) (fop .mul .f32 p2.a0 (fop .mul .f32 p0.a1 p1.a1))) }, { V := fun _ v _ => ∃ d19_12r : Nat, v = (.float .f32 d19_12r) ∧ cn .f32 d19_12r = (fop .add .f32 (fop .mul .f32 p0.a0 p1.a0) (fop .mul .f32 p2.a0 (fop .mul .f32 p0.a1 p1.a1))) }] mixed (by kernel_rfl) ⟨trivial, trivial, trivial, trivial, trivial, trivial, trivial, trivial, trivial, trivial, trivial, trivial, trivial, trivial, trivial⟩ ⟨?_, ?_, ?_, ?_, ?_, ?_, ?_, ?_, ?_, ?_, ?_, ?_, ?_, ?_, trivial⟩ ?_
  · skip
    refine ⟨fun _ _ _ _ _ _ h _ => h, fun _ _ h _ => h, fun σ' w' hA hE hD hP => ?_⟩
    have t7 : σ' 7 = .float .f32 r16 := ((hP 13 _ _ rfl rfl (.inr rfl)).2 7 rfl).trans rfl
    refine dg_op rfl (d_mv (v := .float .f32 r16) t7 ?_)
    exact ⟨rfl, own_none (Ext.refl w')⟩
  · skip
    refine ⟨fun _ _ _ _ _ _ h _ => h, fun _ _ h _ => h, fun σ' w' hA hE hD hP => ?_⟩
    have t9 : σ' 9 = .float .f32 p2r0 := (hA 9 rfl).trans rfl
    refine dg_op rfl (d_mv (v := .float .f32 p2r0) t9 ?_)
    exact ⟨rfl, own_none (Ext.refl w')⟩
  · skip
    refine ⟨fun _ _ _ _ _ _ h _ => h, fun _ _ h _ => h, fun σ' w' hA hE hD hP => ?_⟩
    have t8 : σ' 8 = .int .i64 0 := (hA 8 rfl).trans rfl
    refine dg_op rfl (d_mv (v := .int .i64 0) t8 ?_)
    exact ⟨rfl, own_none (Ext.refl w')⟩
  · skip
    refine ⟨fun _ _ _ _ _ _ h _ => h, fun _ _ h _ => h, fun σ' w' hA hE hD hP => ?_⟩
    have t22 : σ' 22 = (.int .i64 0) := hD 2 rfl
    refine dg_op rfl (d_iarith (r := 1) t22 rfl (.inl ⟨rfl, (by decide)⟩) ?_)
    exact ⟨rfl, own_none (Ext.refl w')⟩
  · skip
    refine ⟨fun _ _ _ _ _ _ h _ => h, fun _ _ h _ => h, fun σ' w' hA hE hD hP => ?_⟩
    have t3 : σ' 3 = .pointer (some ⟨w.heap.size, 0, none⟩) := (hA 3 rfl).trans rfl
    have t23 : σ' 23 = (.int .i64 1) := hD 3 rfl
    have B0_22 : w'.heap[w.heap.size]? = some (.cells #[.float .f32 p0r0, .float .f32 p0r1, .float .f32 p0r2, .float .f32 p0r3] 145 (0, 0)) := hE.heap not_oth0 B20
    refine dg_op rfl (d_indexArr t3 t23 (ia145_1 _ _) ?_)
    exact ⟨rfl, own_none (Ext.refl w')⟩
  · skip
    refine ⟨fun _ _ _ _ _ _ h _ => h, fun _ _ h _ => h, fun σ' w' hA hE hD hP => ?_⟩
    have t24 : σ' 24 = (.pointer (some ⟨w.heap.size, 1, none⟩)) := hD 4 rfl
    have B0_23 : w'.heap[w.heap.size]? = some (.cells #[.float .f32 p0r0, .float .f32 p0r1, .float .f32 p0r2, .float .f32 p0r3] 145 (0, 0)) := hE.heap not_oth0 B20
    refine dg_op rfl (d_load (v := .float .f32 p0r1) t24 agg22 B0_23 rfl ?_)
    exact ⟨rfl, own_none (Ext.refl w')⟩
  · skip
    refine ⟨fun _ _ _ _ _ _ h _ => h, fun _ _ h _ => h, fun σ' w' hA hE hD hP => ?_⟩
    have t8 : σ' 8 = .int .i64 0 := (hA 8 rfl).trans rfl
    refine dg_op rfl (d_mv (v := .int .i64 0) t8 ?_)
    exact ⟨rfl, own_none (Ext.refl w')⟩
  · skip
    refine ⟨fun _ _ _ _ _ _ h _ => h, fun _ _ h _ => h, fun σ' w' hA hE hD hP => ?_⟩
    have t26 : σ' 26 = (.int .i64 0) := hD 6 rfl
    refine dg_op rfl (d_iarith (r := 1) t26 rfl (.inl ⟨rfl, (by decide)⟩) ?_)
    exact ⟨rfl, own_none (Ext.refl w')⟩
  · skip
    refine ⟨fun _ _ _ _ _ _ h _ => h, fun _ _ h _ => h, fun σ' w' hA hE hD hP => ?_⟩
    have t4 : σ' 4 = .pointer (some ⟨w1.heap.size, 0, none⟩) := (hA 4 rfl).trans rfl
    have t27 : σ' 27 = (.int .i64 1) := hD 7 rfl
    have B0_24 : w'.heap[w1.heap.size]? = some (.cells #[.float .f32 p1r0, .float .f32 p1r1, .float .f32 p1r2, .float .f32 p1r3] 145 (0, 0)) := hE.heap not_oth0 B21
    refine dg_op rfl (d_indexArr t4 t27 (ia145_1 _ _) ?_)
    exact ⟨rfl, own_none (Ext.refl w')⟩
  · skip
    refine ⟨fun _ _ _ _ _ _ h _ => h, fun _ _ h _ => h, fun σ' w' hA hE hD hP => ?_⟩
    have t28 : σ' 28 = (.pointer (some ⟨w1.heap.size, 1, none⟩)) := hD 8 rfl
    have B0_25 : w'.heap[w1.heap.size]? = some (.cells #[.float .f32 p1r0, .float .f32 p1r1, .float .f32 p1r2, .float .f32 p1r3] 145 (0, 0)) := hE.heap not_oth0 B21
    refine dg_op rfl (d_load (v := .float .f32 p1r1) t28 agg22 B0_25 rfl ?_)
    exact ⟨rfl, own_none (Ext.refl w')⟩
  · skip
    refine ⟨fun _ _ _ _ _ _ h _ => h, fun _ _ h _ => h, fun σ' w' hA hE hD hP => ?_⟩
    have t25 : σ' 25 = (.float .f32 p0r1) := hD 5 rfl
    have t29 : σ' 29 = (.float .f32 p1r1) := hD 9 rfl
    refine dg_op rfl (d_fop (k := .f32) fMul t25 t29 p0h1 p1h1 fun r26 w26 h26 _ E26 => ?_)
    have X27 : Ext w' w26 := (Ext.refl w').trans E26
    exact ⟨⟨r26, rfl, h26⟩, own_none X27⟩
  · skip
    refine ⟨fun _ _ _ _ _ _ h _ => h, fun _ _ h _ => h, fun σ' w' hA hE hD hP => ?_⟩
    have t21 : σ' 21 = (.float .f32 p2r0) := hD 1 rfl
    obtain ⟨d19_10r, t30, d19_10h⟩ : ∃ d19_10r : Nat, σ' 30 = (.float .f32 d19_10r) ∧ cn .f32 d19_10r = (fop .mul .f32 p0.a1 p1.a1) := hD 10 rfl
    refine dg_op rfl (d_fop (k := .f32) fMul t21 t30 p2h0 d19_10h fun r28 w28 h28 _ E28 => ?_)
    have X29 : Ext w' w28 := (Ext.refl w').trans E28
    exact ⟨⟨r28, rfl, h28⟩, own_none X29⟩
  · skip
    refine ⟨fun _ _ _ _ _ _ h _ => h, fun _ _ h _ => h, fun σ' w' hA hE hD hP => ?_⟩
    have t20 : σ' 20 = (.float .f32 r16) := hD 0 rfl
    obtain ⟨d19_11r, t31, d19_11h⟩ : ∃ d19_11r : Nat, σ' 31 = (.float .f32 d19_11r) ∧ cn .f32 d19_11r = (fop .mul .f32 p2.a0 (fop .mul .f32 p0.a1 p1.a1)) := hD 11 rfl
    refine dg_op rfl (d_fop (k := .f32) fAdd t20 t31 h16 d19_11h fun r30 w30 h30 _ E30 => ?_)
    have X31 : Ext w' w30 := (Ext.refl w').trans E30
    exact ⟨⟨r30, rfl, h30⟩, own_none X31⟩
  · skip
    refine ⟨fun _ _ _ _ _ _ h _ => h, fun _ _ h _ => h, fun σ' w' hA hE hD hP => ?_⟩
    obtain ⟨d19_12r, t32, d19_12h⟩ : ∃ d19_12r : Nat, σ' 32 = (.float .f32 d19_12r) ∧ cn .f32 d19_12r = (fop .add .f32 (fop .mul .f32 p0.a0 p1.a0) (fop .mul .f32 p2.a0 (fop .mul .f32 p0.a1 p1.a1))) := hD 12 rfl
    refine dg_op rfl (d_as (v := .float .f32 d19_12r) t32 ?_)
    exact ⟨⟨d19_12r, rfl, d19_12h⟩, own_none (Ext.refl w')⟩
  · skip
    intro σ19 w19 A19 E19 V19
    have E19x : Ext w16 w19 := ext_of_oth0 E19
    obtain ⟨z19_7_12r, s7_19, z19_7_12h⟩ : ∃ z19_7_12r : Nat, σ19 7 = (.float .f32 z19_7_12r) ∧ cn .f32 z19_7_12r = (fop .add .f32 (fop .mul .f32 p0.a0 p1.a0) (fop .mul .f32 p2.a0 (fop .mul .f32 p0.a1 p1.a1))) := V19 13 (Nat.le_of_ble_eq_true rfl)
    have s3_19 : σ19 3 = .pointer (some ⟨w.heap.size, 0, none⟩) := (A19 3 rfl).trans rfl
    have s4_19 : σ19 4 = .pointer (some ⟨w1.heap.size, 0, none⟩) := (A19 4 rfl).trans rfl
    have s15_19 : σ19 15 = .agg #[.float .f32 p2r0, .float .f32 p2r1, .float .f32 p2r2] := (A19 15 rfl).trans rfl
    have s16_19 : σ19 16 = .int .i64 0 := (A19 16 rfl).trans rfl
    have X32 : Ext w w19 := X17.trans E19x
    refine W_region rfl ?_
    refine da_op rfl (d_iarith (r := 1) s16_19 rfl (.inl ⟨rfl, (by decide)⟩) ?_)
    refine da_op rfl (d_mv (v := .int .i64 1) rfl ?_)
    refine da_nil ?_
    refine Wr_next ?_
    refine W_seq ?_
    refine W_region rfl ?_
    refine da_op rfl (d_icmpL (b := true) cLss rfl rfl (by decide) ?_)
    refine da_nil ?_
    refine W_seq ?_
    refine W_true rfl ?_
    refine W_skip ?_
    refine W_seq ?_
    refine W_block ?_
    refine W_seq ?_
    refine W_region rfl ?_
    refine da_op rfl (d_mv (v := .int .i64 1) rfl ?_)
    refine da_op rfl (d_indexVal (v := .float .f32 p2r1) s15_19 rfl (ix146_1 _ _ _) ?_)
    refine da_op rfl (d_as (v := .int .i64 1) rfl ?_)
    refine da_op rfl (d_as (v := .float .f32 p2r1) rfl ?_)
    refine da_nil ?_
    have B34 : w19.heap[w.heap.size]? = some (.cells #[.float .f32 p0r0, .float .f32 p0r1, .float .f32 p0r2, .float .f32 p0r3] 145 (0, 0)) := E19x.heap B20
    have B35 : w19.heap[w1.heap.size]? = some (.cells #[.float .f32 p1r0, .float .f32 p1r1, .float .f32 p1r2, .float .f32 p1r3] 145 (0, 0)) := E19x.heap B21
    refine W_any [] [{ V := fun _ v _ => v = (.float .f32 z19_7_12r) }, { V := fun _ v _ => v = (.float .f32 p2r1) }, { V := fun _ v _ => v = (.int .i64 1) }, { V := fun _ v _ => v = (.int .i64 2) }, { V := fun _ v _ => v = (.pointer (some ⟨w.heap.size, 2, none⟩)) }, { V := fun _ v _ => v = (.float .f32 p0r2) }, { V := fun _ v _ => v = (.int .i64 1) }, { V := fun _ v _ => v = (.int .i64 2) }, { V := fun _ v _ => v = (.pointer (some ⟨w1.heap.size, 2, none⟩)) }, { V := fun _ v _ => v = (.float .f32 p1r2) }, { V := fun _ v _ => ∃ d33_10r : Nat, v = (.float .f32 d33_10r) ∧ cn .f32 d33_10r = (fop .mul .f32 p0.a2 p1.a2) }, { V := fun _ v _ => ∃ d33_11r : Nat, v = (.float .f32 d33_11r) ∧ cn .f32 d33_11r = (fop .mul .f32 p2.a1 (fop .mul .f32 p0.a2 p1.a2)) }, { V := fun _ v _ => ∃ d33_12r : Nat, v = (.float .f32 d33_12r) ∧ cn .f32 d33_12r = (fop .add .f32 (fop .add .f32 (fop .mul .f32 p0.a0 p1.a0) (fop .mul .f32 p2.a0 (fop .mul .f32 p0.a1 p1.a1))) (fop .mul .f32 p2.a1 (fop .mul .f32 p0.a2 p1.a2))) }, { V := fun _ v _ => ∃ d33_12r : Nat, v = (.float .f32 d33_12r) ∧ cn .f32 d33_12r = (fop .add .f32 (fop .add .f32 (fop .mul .f32 p0.a0 p1.a0) (fop .mul .f32 p2.a0 (fop .mul .f32 p0.a1 p1.a1))) (fop .mul .f32 p2.a1 (fop .mul .f32 p0.a2 p1.a2))) }] mixed (by kernel_rfl) ⟨trivial, trivial, trivial, trivial, trivial, trivial, trivial, trivial, trivial, trivial, trivial, trivial, trivial, trivial, trivial⟩ ⟨?_, ?_, ?_, ?_, ?_, ?_, ?_, ?_, ?_, ?_, ?_, ?_, ?_, ?_, trivial⟩ ?_
    · skip
      refine ⟨fun _ _ _ _ _ _ h _ => h, fun _ _ h _ => h, fun σ' w' hA hE hD hP => ?_⟩
      have t7 : σ' 7 = .float .f32 z19_7_12r := ((hP 13 _ _ rfl rfl (.inr rfl)).2 7 rfl).trans s7_19
      refine dg_op rfl (d_mv (v := .float .f32 z19_7_12r) t7 ?_)
      exact ⟨rfl, own_none (Ext.refl w')⟩
    · skip
      refine ⟨fun _ _ _ _ _ _ h _ => h, fun _ _ h _ => h, fun σ' w' hA hE hD hP => ?_⟩
      have t9 : σ' 9 = .float .f32 p2r1 := (hA 9 rfl).trans rfl
      refine dg_op rfl (d_mv (v := .float .f32 p2r1) t9 ?_)
      exact ⟨rfl, own_none (Ext.refl w')⟩
    · skip
      refine ⟨fun _ _ _ _ _ _ h _ => h, fun _ _ h _ => h, fun σ' w' hA hE hD hP => ?_⟩
      have t8 : σ' 8 = .int .i64 1 := (hA 8 rfl).trans rfl
      refine dg_op rfl (d_mv (v := .int .i64 1) t8 ?_)
      exact ⟨rfl, own_none (Ext.refl w')⟩
    · skip
      refine ⟨fun _ _ _ _ _ _ h _ => h, fun _ _ h _ => h, fun σ' w' hA hE hD hP => ?_⟩
      have t22 : σ' 22 = (.int .i64 1) := hD 2 rfl
      refine dg_op rfl (d_iarith (r := 2) t22 rfl (.inl ⟨rfl, (by decide)⟩) ?_)
      exact ⟨rfl, own_none (Ext.refl w')⟩
    · skip
      refine ⟨fun _ _ _ _ _ _ h _ => h, fun _ _ h _ => h, fun σ' w' hA hE hD hP => ?_⟩
      have t3 : σ' 3 = .pointer (some ⟨w.heap.size, 0, none⟩) := (hA 3 rfl).trans s3_19
      have t23 : σ' 23 = (.int .i64 2) := hD 3 rfl
      have B0_36 : w'.heap[w.heap.size]? = some (.cells #[.float .f32 p0r0, .float .f32 p0r1, .float .f32 p0r2, .float .f32 p0r3] 145 (0, 0)) := hE.heap not_oth0 B34
      refine dg_op rfl (d_indexArr t3 t23 (ia145_2 _ _) ?_)
      exact ⟨rfl, own_none (Ext.refl w')⟩
    · skip
      refine ⟨fun _ _ _ _ _ _ h _ => h, fun _ _ h _ => h, fun σ' w' hA hE hD hP => ?_⟩
      have t24 : σ' 24 = (.pointer (some ⟨w.heap.size, 2, none⟩)) := hD 4 rfl
      have B0_37 : w'.heap[w.heap.size]? = some (.cells #[.float .f32 p0r0, .float .f32 p0r1, .float .f32 p0r2, .float .f32 p0r3] 145 (0, 0)) := hE.heap not_oth0 B34
      refine dg_op rfl (d_load (v := .float .f32 p0r2) t24 agg22 B0_37 rfl ?_)
      exact ⟨rfl, own_none (Ext.refl w')⟩
    · skip
      refine ⟨fun _ _ _ _ _ _ h _ => h, fun _ _ h _ => h, fun σ' w' hA hE hD hP => ?_⟩
      have t8 : σ' 8 = .int .i64 1 := (hA 8 rfl).trans rfl
      refine dg_op rfl (d_mv (v := .int .i64 1) t8 ?_)
      exact ⟨rfl, own_none (Ext.refl w')⟩
    · skip
      refine ⟨fun _ _ _ _ _ _ h _ => h, fun _ _ h _ => h, fun σ' w' hA hE hD hP => ?_⟩
      have t26 : σ' 26 = (.int .i64 1) := hD 6 rfl
      refine dg_op rfl (d_iarith (r := 2) t26 rfl (.inl ⟨rfl, (by decide)⟩) ?_)
      exact ⟨rfl, own_none (Ext.refl w')⟩
    · skip
      refine ⟨fun _ _ _ _ _ _ h _ => h, fun _ _ h _ => h, fun σ' w' hA hE hD hP => ?_⟩
      have t4 : σ' 4 = .pointer (some ⟨w1.heap.size, 0, none⟩) := (hA 4 rfl).trans s4_19
      have t27 : σ' 27 = (.int .i64 2) := hD 7 rfl
      have B0_38 : w'.heap[w1.heap.size]? = some (.cells #[.float .f32 p1r0, .float .f32 p1r1, .float .f32 p1r2, .float .f32 p1r3] 145 (0, 0)) := hE.heap not_oth0 B35
      refine dg_op rfl (d_indexArr t4 t27 (ia145_2 _ _) ?_)
      exact ⟨rfl, own_none (Ext.refl w')⟩
    · skip
      refine ⟨fun _ _ _ _ _ _ h _ => h, fun _ _ h _ => h, fun σ' w' hA hE hD hP => ?_⟩
      have t28 : σ' 28 = (.pointer (some ⟨w1.heap.size, 2, none⟩)) := hD 8 rfl
      have B0_39 : w'.heap[w1.heap.size]? = some (.cells #[.float .f32 p1r0, .float .f32 p1r1, .float .f32 p1r2, .float .f32 p1r3] 145 (0, 0)) := hE.heap not_oth0 B35
      refine dg_op rfl (d_load (v := .float .f32 p1r2) t28 agg22 B0_39 rfl ?_)
      exact ⟨rfl, own_none (Ext.refl w')⟩
    · skip
      refine ⟨fun _ _ _ _ _ _ h _ => h, fun _ _ h _ => h, fun σ' w' hA hE hD hP => ?_⟩
      have t25 : σ' 25 = (.float .f32 p0r2) := hD 5 rfl
      have t29 : σ' 29 = (.float .f32 p1r2) := hD 9 rfl
      refine dg_op rfl (d_fop (k := .f32) fMul t25 t29 p0h2 p1h2 fun r40 w40 h40 _ E40 => ?_)
      have X41 : Ext w' w40 := (Ext.refl w').trans E40
      exact ⟨⟨r40, rfl, h40⟩, own_none X41⟩
    · skip
      refine ⟨fun _ _ _ _ _ _ h _ => h, fun _ _ h _ => h, fun σ' w' hA hE hD hP => ?_⟩
      have t21 : σ' 21 = (.float .f32 p2r1) := hD 1 rfl
      obtain ⟨d33_10r, t30, d33_10h⟩ : ∃ d33_10r : Nat, σ' 30 = (.float .f32 d33_10r) ∧ cn .f32 d33_10r = (fop .mul .f32 p0.a2 p1.a2) := hD 10 rfl
      refine dg_op rfl (d_fop (k := .f32) fMul t21 t30 p2h1 d33_10h fun r42 w42 h42 _ E42 => ?_)
      have X43 : Ext w' w42 := (Ext.refl w').trans E42
      exact ⟨⟨r42, rfl, h42⟩, own_none X43⟩
    · skip
      refine ⟨fun _ _ _ _ _ _ h _ => h, fun _ _ h _ => h, fun σ' w' hA hE hD hP => ?_⟩
      have t20 : σ' 20 = (.float .f32 z19_7_12r) := hD 0 rfl
      obtain ⟨d33_11r, t31, d33_11h⟩ : ∃ d33_11r : Nat, σ' 31 = (.float .f32 d33_11r) ∧ cn .f32 d33_11r = (fop .mul .f32 p2.a1 (fop .mul .f32 p0.a2 p1.a2)) := hD 11 rfl
      refine dg_op rfl (d_fop (k := .f32) fAdd t20 t31 z19_7_12h d33_11h fun r44 w44 h44 _ E44 => ?_)
      have X45 : Ext w' w44 := (Ext.refl w').trans E44
      exact ⟨⟨r44, rfl, h44⟩, own_none X45⟩
    · skip
      refine ⟨fun _ _ _ _ _ _ h _ => h, fun _ _ h _ => h, fun σ' w' hA hE hD hP => ?_⟩
      obtain ⟨d33_12r, t32, d33_12h⟩ : ∃ d33_12r : Nat, σ' 32 = (.float .f32 d33_12r) ∧ cn .f32 d33_12r = (fop .add .f32 (fop .add .f32 (fop .mul .f32 p0.a0 p1.a0) (fop .mul .f32 p2.a0 (fop .mul .f32 p0.a1 p1.a1))) (fop .mul .f32 p2.a1 (fop .mul .f32 p0.a2 p1.a2))) := hD 12 rfl
      refine dg_op rfl (d_as (v := .float .f32 d33_12r) t32 ?_)
      exact ⟨⟨d33_12r, rfl, d33_12h⟩, own_none (Ext.refl w')⟩
    · skip
      intro σ33 w33 A33 E33 V33
      have E33x : Ext w19 w33 := ext_of_oth0 E33
      obtain ⟨z33_7_12r, s7_33, z33_7_12h⟩ : ∃ z33_7_12r : Nat, σ33 7 = (.float .f32 z33_7_12r) ∧ cn .f32 z33_7_12r = (fop .add .f32 (fop .add .f32 (fop .mul .f32 p0.a0 p1.a0) (fop .mul .f32 p2.a0 (fop .mul .f32 p0.a1 p1.a1))) (fop .mul .f32 p2.a1 (fop .mul .f32 p0.a2 p1.a2))) := V33 13 (Nat.le_of_ble_eq_true rfl)
      have s3_33 : σ33 3 = .pointer (some ⟨w.heap.size, 0, none⟩) := (A33 3 rfl).trans s3_19
      have s4_33 : σ33 4 = .pointer (some ⟨w1.heap.size, 0, none⟩) := (A33 4 rfl).trans s4_19
      have s15_33 : σ33 15 = .agg #[.float .f32 p2r0, .float .f32 p2r1, .float .f32 p2r2] := (A33 15 rfl).trans s15_19
      have s16_33 : σ33 16 = .int .i64 1 := (A33 16 rfl).trans rfl
      have X46 : Ext w w33 := X32.trans E33x
      refine W_region rfl ?_
      refine da_op rfl (d_iarith (r := 2) s16_33 rfl (.inl ⟨rfl, (by decide)⟩) ?_)
      refine da_op rfl (d_mv (v := .int .i64 2) rfl ?_)
      refine da_nil ?_
      refine Wr_next ?_
      refine W_seq ?_
      refine W_region rfl ?_
      refine da_op rfl (d_icmpL (b := true) cLss rfl rfl (by decide) ?_)
      refine da_nil ?_
      refine W_seq ?_
      refine W_true rfl ?_
      refine W_skip ?_
      refine W_seq ?_
      refine W_block ?_
      refine W_seq ?_
      refine W_region rfl ?_
      refine da_op rfl (d_mv (v := .int .i64 2) rfl ?_)
      refine da_op rfl (d_indexVal (v := .float .f32 p2r2) s15_33 rfl (ix146_2 _ _ _) ?_)
      refine da_op rfl (d_as (v := .int .i64 2) rfl ?_)
      refine da_op rfl (d_as (v := .float .f32 p2r2) rfl ?_)
      refine da_nil ?_
      have B48 : w33.heap[w.heap.size]? = some (.cells #[.float .f32 p0r0, .float .f32 p0r1, .float .f32 p0r2, .float .f32 p0r3] 145 (0, 0)) := E33x.heap B34
      have B49 : w33.heap[w1.heap.size]? = some (.cells #[.float .f32 p1r0, .float .f32 p1r1, .float .f32 p1r2, .float .f32 p1r3] 145 (0, 0)) := E33x.heap B35
      refine W_any [] [{ V := fun _ v _ => v = (.float .f32 z33_7_12r) }, { V := fun _ v _ => v = (.float .f32 p2r2) }, { V := fun _ v _ => v = (.int .i64 2) }, { V := fun _ v _ => v = (.int .i64 3) }, { V := fun _ v _ => v = (.pointer (some ⟨w.heap.size, 3, none⟩)) }, { V := fun _ v _ => v = (.float .f32 p0r3) }, { V := fun _ v _ => v = (.int .i64 2) }, { V := fun _ v _ => v = (.int .i64 3) }, { V := fun _ v _ => v = (.pointer (some ⟨w1.heap.size, 3, none⟩)) }, { V := fun _ v _ => v = (.float .f32 p1r3) }, { V := fun _ v _ => ∃ d47_10r : Nat, v = (.float .f32 d47_10r) ∧ cn .f32 d47_10r = (fop .mul .f32 p0.a3 p1.a3) }, { V := fun _ v _ => ∃ d47_11r : Nat, v = (.float .f32 d47_11r) ∧ cn .f32 d47_11r = (fop .mul .f32 p2.a2 (fop .mul .f32 p0.a3 p1.a3)) }, { V := fun _ v _ => ∃ d47_12r : Nat, v = (.float .f32 d47_12r) ∧ cn .f32 d47_12r = (fop .add .f32 (fop .add .f32 (fop .add .f32 (fop .mul .f32 p0.a0 p1.a0) (fop .mul .f32 p2.a0 (fop .mul .f32 p0.a1 p1.a1))) (fop .mul .f32 p2.a1 (fop .mul .f32 p0.a2 p1.a2))) (fop .mul .f32 p2.a2 (fop .mul .f32 p0.a3 p1.a3))) }, { V := fun _ v _ => ∃ d47_12r : Nat, v = (.float .f32 d47_12r) ∧ cn .f32 d47_12r = (fop .add .f32 (fop .add .f32 (fop .add .f32 (fop .mul .f32 p0.a0 p1.a0) (fop .mul .f32 p2.a0 (fop .mul .f32 p0.a1 p1.a1))) (fop .mul .f32 p2.a1 (fop .mul .f32 p0.a2 p1.a2))) (fop .mul .f32 p2.a2 (fop .mul .f32 p0.a3 p1.a3))) }] mixed (by kernel_rfl) ⟨trivial, trivial, trivial, trivial, trivial, trivial, trivial, trivial, trivial, trivial, trivial, trivial, trivial, trivial, trivial⟩ ⟨?_, ?_, ?_, ?_, ?_, ?_, ?_, ?_, ?_, ?_, ?_, ?_, ?_, ?_, trivial⟩ ?_
      · skip
        refine ⟨fun _ _ _ _ _ _ h _ => h, fun _ _ h _ => h, fun σ' w' hA hE hD hP => ?_⟩
        have t7 : σ' 7 = .float .f32 z33_7_12r := ((hP 13 _ _ rfl rfl (.inr rfl)).2 7 rfl).trans s7_33
        refine dg_op rfl (d_mv (v := .float .f32 z33_7_12r) t7 ?_)
        exact ⟨rfl, own_none (Ext.refl w')⟩
      · skip
        refine ⟨fun _ _ _ _ _ _ h _ => h, fun _ _ h _ => h, fun σ' w' hA hE hD hP => ?_⟩
        have t9 : σ' 9 = .float .f32 p2r2 := (hA 9 rfl).trans rfl
        refine dg_op rfl (d_mv (v := .float .f32 p2r2) t9 ?_)
        exact ⟨rfl, own_none (Ext.refl w')⟩
      · skip
        refine ⟨fun _ _ _ _ _ _ h _ => h, fun _ _ h _ => h, fun σ' w' hA hE hD hP => ?_⟩
        have t8 : σ' 8 = .int .i64 2 := (hA 8 rfl).trans rfl
        refine dg_op rfl (d_mv (v := .int .i64 2) t8 ?_)
        exact ⟨rfl, own_none (Ext.refl w')⟩
      · skip
        refine ⟨fun _ _ _ _ _ _ h _ => h, fun _ _ h _ => h, fun σ' w' hA hE hD hP => ?_⟩
        have t22 : σ' 22 = (.int .i64 2) := hD 2 rfl
        refine dg_op rfl (d_iarith (r := 3) t22 rfl (.inl ⟨rfl, (by decide)⟩) ?_)
        exact ⟨rfl, own_none (Ext.refl w')⟩
      · skip
        refine ⟨fun _ _ _ _ _ _ h _ => h, fun _ _ h _ => h, fun σ' w' hA hE hD hP => ?_⟩
        have t3 : σ' 3 = .pointer (some ⟨w.heap.size, 0, none⟩) := (hA 3 rfl).trans s3_33
        have t23 : σ' 23 = (.int .i64 3) := hD 3 rfl
        have B0_50 : w'.heap[w.heap.size]? = some (.cells #[.float .f32 p0r0, .float .f32 p0r1, .float .f32 p0r2, .float .f32 p0r3] 145 (0, 0)) := hE.heap not_oth0 B48
        refine dg_op rfl (d_indexArr t3 t23 (ia145_3 _ _) ?_)
        exact ⟨rfl, own_none (Ext.refl w')⟩
      · skip
        refine ⟨fun _ _ _ _ _ _ h _ => h, fun _ _ h _ => h, fun σ' w' hA hE hD hP => ?_⟩
        have t24 : σ' 24 = (.pointer (some ⟨w.heap.size, 3, none⟩)) := hD 4 rfl
        have B0_51 : w'.heap[w.heap.size]? = some (.cells #[.float .f32 p0r0, .float .f32 p0r1, .float .f32 p0r2, .float .f32 p0r3] 145 (0, 0)) := hE.heap not_oth0 B48
        refine dg_op rfl (d_load (v := .float .f32 p0r3) t24 agg22 B0_51 rfl ?_)
        exact ⟨rfl, own_none (Ext.refl w')⟩
      · skip
        refine ⟨fun _ _ _ _ _ _ h _ => h, fun _ _ h _ => h, fun σ' w' hA hE hD hP => ?_⟩
        have t8 : σ' 8 = .int .i64 2 := (hA 8 rfl).trans rfl
        refine dg_op rfl (d_mv (v := .int .i64 2) t8 ?_)
        exact ⟨rfl, own_none (Ext.refl w')⟩
      · skip
        refine ⟨fun _ _ _ _ _ _ h _ => h, fun _ _ h _ => h, fun σ' w' hA hE hD hP => ?_⟩
        have t26 : σ' 26 = (.int .i64 2) := hD 6 rfl
        refine dg_op rfl (d_iarith (r := 3) t26 rfl (.inl ⟨rfl, (by decide)⟩) ?_)
        exact ⟨rfl, own_none (Ext.refl w')⟩
      · skip
        refine ⟨fun _ _ _ _ _ _ h _ => h, fun _ _ h _ => h, fun σ' w' hA hE hD hP => ?_⟩
        have t4 : σ' 4 = .pointer (some ⟨w1.heap.size, 0, none⟩) := (hA 4 rfl).trans s4_33
        have t27 : σ' 27 = (.int .i64 3) := hD 7 rfl
        have B0_52 : w'.heap[w1.heap.size]? = some (.cells #[.float .f32 p1r0, .float .f32 p1r1, .float .f32 p1r2, .float .f32 p1r3] 145 (0, 0)) := hE.heap not_oth0 B49
        refine dg_op rfl (d_indexArr t4 t27 (ia145_3 _ _) ?_)
        exact ⟨rfl, own_none (Ext.refl w')⟩
      · skip
        refine ⟨fun _ _ _ _ _ _ h _ => h, fun _ _ h _ => h, fun σ' w' hA hE hD hP => ?_⟩
        have t28 : σ' 28 = (.pointer (some ⟨w1.heap.size, 3, none⟩)) := hD 8 rfl
        have B0_53 : w'.heap[w1.heap.size]? = some (.cells #[.float .f32 p1r0, .float .f32 p1r1, .float .f32 p1r2, .float .f32 p1r3] 145 (0, 0)) := hE.heap not_oth0 B49
        refine dg_op rfl (d_load (v := .float .f32 p1r3) t28 agg22 B0_53 rfl ?_)
        exact ⟨rfl, own_none (Ext.refl w')⟩
      · skip
        refine ⟨fun _ _ _ _ _ _ h _ => h, fun _ _ h _ => h, fun σ' w' hA hE hD hP => ?_⟩
        have t25 : σ' 25 = (.float .f32 p0r3) := hD 5 rfl
        have t29 : σ' 29 = (.float .f32 p1r3) := hD 9 rfl
        refine dg_op rfl (d_fop (k := .f32) fMul t25 t29 p0h3 p1h3 fun r54 w54 h54 _ E54 => ?_)
        have X55 : Ext w' w54 := (Ext.refl w').trans E54
        exact ⟨⟨r54, rfl, h54⟩, own_none X55⟩
      · skip
        refine ⟨fun _ _ _ _ _ _ h _ => h, fun _ _ h _ => h, fun σ' w' hA hE hD hP => ?_⟩
        have t21 : σ' 21 = (.float .f32 p2r2) := hD 1 rfl
        obtain ⟨d47_10r, t30, d47_10h⟩ : ∃ d47_10r : Nat, σ' 30 = (.float .f32 d47_10r) ∧ cn .f32 d47_10r = (fop .mul .f32 p0.a3 p1.a3) := hD 10 rfl
        refine dg_op rfl (d_fop (k := .f32) fMul t21 t30 p2h2 d47_10h fun r56 w56 h56 _ E56 => ?_)
        have X57 : Ext w' w56 := (Ext.refl w').trans E56
        exact ⟨⟨r56, rfl, h56⟩, own_none X57⟩
      · skip
        refine ⟨fun _ _ _ _ _ _ h _ => h, fun _ _ h _ => h, fun σ' w' hA hE hD hP => ?_⟩
        have t20 : σ' 20 = (.float .f32 z33_7_12r) := hD 0 rfl
        obtain ⟨d47_11r, t31, d47_11h⟩ : ∃ d47_11r : Nat, σ' 31 = (.float .f32 d47_11r) ∧ cn .f32 d47_11r = (fop .mul .f32 p2.a2 (fop .mul .f32 p0.a3 p1.a3)) := hD 11 rfl
        refine dg_op rfl (d_fop (k := .f32) fAdd t20 t31 z33_7_12h d47_11h fun r58 w58 h58 _ E58 => ?_)
        have X59 : Ext w' w58 := (Ext.refl w').trans E58
        exact ⟨⟨r58, rfl, h58⟩, own_none X59⟩
      · skip
        refine ⟨fun _ _ _ _ _ _ h _ => h, fun _ _ h _ => h, fun σ' w' hA hE hD hP => ?_⟩
        obtain ⟨d47_12r, t32, d47_12h⟩ : ∃ d47_12r : Nat, σ' 32 = (.float .f32 d47_12r) ∧ cn .f32 d47_12r = (fop .add .f32 (fop .add .f32 (fop .add .f32 (fop .mul .f32 p0.a0 p1.a0) (fop .mul .f32 p2.a0 (fop .mul .f32 p0.a1 p1.a1))) (fop .mul .f32 p2.a1 (fop .mul .f32 p0.a2 p1.a2))) (fop .mul .f32 p2.a2 (fop .mul .f32 p0.a3 p1.a3))) := hD 12 rfl
        refine dg_op rfl (d_as (v := .float .f32 d47_12r) t32 ?_)
        exact ⟨⟨d47_12r, rfl, d47_12h⟩, own_none (Ext.refl w')⟩
      · skip
        intro σ47 w47 A47 E47 V47
        have E47x : Ext w33 w47 := ext_of_oth0 E47
        obtain ⟨z47_7_12r, s7_47, z47_7_12h⟩ : ∃ z47_7_12r : Nat, σ47 7 = (.float .f32 z47_7_12r) ∧ cn .f32 z47_7_12r = (fop .add .f32 (fop .add .f32 (fop .add .f32 (fop .mul .f32 p0.a0 p1.a0) (fop .mul .f32 p2.a0 (fop .mul .f32 p0.a1 p1.a1))) (fop .mul .f32 p2.a1 (fop .mul .f32 p0.a2 p1.a2))) (fop .mul .f32 p2.a2 (fop .mul .f32 p0.a3 p1.a3))) := V47 13 (Nat.le_of_ble_eq_true rfl)
        have s3_47 : σ47 3 = .pointer (some ⟨w.heap.size, 0, none⟩) := (A47 3 rfl).trans s3_33
        have s4_47 : σ47 4 = .pointer (some ⟨w1.heap.size, 0, none⟩) := (A47 4 rfl).trans s4_33
        have s15_47 : σ47 15 = .agg #[.float .f32 p2r0, .float .f32 p2r1, .float .f32 p2r2] := (A47 15 rfl).trans s15_33
        have s16_47 : σ47 16 = .int .i64 2 := (A47 16 rfl).trans rfl
        have X60 : Ext w w47 := X46.trans E47x
        refine W_region rfl ?_
        refine da_op rfl (d_iarith (r := 3) s16_47 rfl (.inl ⟨rfl, (by decide)⟩) ?_)
        refine da_op rfl (d_mv (v := .int .i64 3) rfl ?_)
        refine da_nil ?_
        refine Wr_next ?_
        refine W_seq ?_
        refine W_region rfl ?_
        refine da_op rfl (d_icmpL (b := false) cLss rfl rfl (by decide) ?_)
        refine da_nil ?_
        refine W_seq ?_
        refine W_false rfl ?_
        refine W_exit ?_
        refine W_seq ?_
        refine W_region rfl ?_
        refine da_op rfl (d_mv (v := .float .f32 z47_7_12r) s7_47 ?_)
        refine da_op rfl (d_as (v := .float .f32 z47_7_12r) rfl ?_)
        refine da_nil ?_
        refine W_ret ?_
        subst hr
        refine ⟨_, res1 (rv_tmp rfl), ?_⟩
        exact ⟨z47_7_12r, rfl, z47_7_12h, X60⟩
set_option maxHeartbeats 4000000 in
theorem c98 (p0 : SSpin) (p1 : SSpin) (p0r0 : Nat) (p0r1 : Nat) (p0r2 : Nat) (p0r3 : Nat) (p1r0 : Nat) (p1r1 : Nat) (p1r2 : Nat) (p1r3 : Nat) (r : SSpin) (w : World) (hr : M.impl_TimesSpins p0 p1 = r) (p0h0 : cn .f32 p0r0 = p0.w) (p0h1 : cn .f32 p0r1 = p0.x) (p0h2 : cn .f32 p0r2 = p0.y) (p0h3 : cn .f32 p0r3 = p0.z) (p1h0 : cn .f32 p1r0 = p1.w) (p1h1 : cn .f32 p1r1 = p1.x) (p1h2 : cn .f32 p1r2 = p1.y) (p1h3 : cn .f32 p1r3 = p1.z) :
    Calls Try.prog 98 #[.agg #[.float .f32 p0r0, .float .f32 p0r1, .float .f32 p0r2, .float .f32 p0r3], .agg #[.float .f32 p1r0, .float .f32 p1r1, .float .f32 p1r2, .float .f32 p1r3]] w fun e w' => ∃ q0r0 : Nat, ∃ q0r1 : Nat, ∃ q0r2 : Nat, ∃ q0r3 : Nat, e = .returned (.agg #[.float .f32 q0r0, .float .f32 q0r1, .float .f32 q0r2, .float .f32 q0r3]) ∧ cn .f32 q0r0 = r.w ∧ cn .f32 q0r1 = r.x ∧ cn .f32 q0r2 = r.y ∧ cn .f32 q0r3 = r.z ∧ Ext w w' := by
  refine calls_of_W Try.func98 rfl (Nat.le_of_ble_eq_true rfl) ?_
  refine W_seq ?_
  refine W_region rfl ?_
  refine da_op rfl (d_box (cs := #[.float .f32 p0r0, .float .f32 p0r1, .float .f32 p0r2, .float .f32 p0r3]) rfl fun w1 B1 E1 => ?_)
  have own2 : w.heap.size ≤ w.heap.size := Nat.le_trans (Ext.refl w).size (Nat.le_refl _)
  have X3 : Ext w w1 := (Ext.refl w).trans E1
  refine da_op rfl (d_box (cs := #[.float .f32 p1r0, .float .f32 p1r1, .float .f32 p1r2, .float .f32 p1r3]) rfl fun w4 B4 E4 => ?_)
  have own5 : w.heap.size ≤ w1.heap.size := Nat.le_trans X3.size (Nat.le_refl _)
  have sp6 : w.heap.size ≠ w1.heap.size := Nat.ne_of_lt (Nat.lt_of_lt_of_le (lt_heap B1) (Nat.le_refl _))
  have X7 : Ext w w4 := X3.trans E4
  have B9 : w4.heap[w.heap.size]? = some (.cells #[.float .f32 p0r0, .float .f32 p0r1, .float .f32 p0r2, .float .f32 p0r3] 30 (0, 0)) := E4.heap B1
  refine da_op rfl (d_alloc (cs := #[.float .f32 0, .float .f32 0, .float .f32 0, .float .f32 0]) zero30 rfl fun w8 B8 E8 => ?_)
  have own10 : w.heap.size ≤ w4.heap.size := Nat.le_trans X7.size (Nat.le_refl _)
  have sp11 : w.heap.size ≠ w4.heap.size := Nat.ne_of_lt (Nat.lt_of_lt_of_le (lt_heap B9) (Nat.le_refl _))
  have sp12 : w1.heap.size ≠ w4.heap.size := Nat.ne_of_lt (Nat.lt_of_lt_of_le (lt_heap B4) (Nat.le_refl _))
  have X13 : Ext w w8 := X7.trans E8
  refine da_nil ?_
  refine W_seq ?_
  have B15 : w8.heap[w.heap.size]? = some (.cells #[.float .f32 p0r0, .float .f32 p0r1, .float .f32 p0r2, .float .f32 p0r3] 30 (0, 0)) := E8.heap B9
  have B16 : w8.heap[w1.heap.size]? = some (.cells #[.float .f32 p1r0, .float .f32 p1r1, .float .f32 p1r2, .float .f32 p1r3] 30 (0, 0)) := E8.heap B4
  obtain ⟨m17, hm17, hr⟩ := letv_out hr
  obtain ⟨m18, hm18, hr⟩ := letv_out hr
  obtain ⟨m19, hm19, hr⟩ := letv_out hr
  obtain ⟨m20, hm20, hr⟩ := letv_out hr
  refine W_any [fun k _ => k = w4.heap.size] [{ V := fun _ v _ => v = (.pointer (some ⟨w.heap.size, 0, none⟩)) }, { V := fun _ v _ => v = (.float .f32 p0r0) }, { V := fun _ v _ => v = (.pointer (some ⟨w.heap.size, 1, none⟩)) }, { V := fun _ v _ => v = (.float .f32 p0r1) }, { V := fun _ v _ => v = (.pointer (some ⟨w.heap.size, 2, none⟩)) }, { V := fun _ v _ => v = (.float .f32 p0r2) }, { V := fun _ v _ => v = (.pointer (some ⟨w.heap.size, 3, none⟩)) }, { V := fun _ v _ => v = (.float .f32 p0r3) }, { V := fun _ v _ => v = (.agg #[.float .f32 p0r0, .float .f32 p0r1, .float .f32 p0r2, .float .f32 p0r3]) }, { V := fun _ v _ => v = (.pointer (some ⟨w1.heap.size, 0, none⟩)) }, { V := fun _ v _ => v = (.float .f32 p1r0) }, { V := fun _ v _ => v = (.pointer (some ⟨w1.heap.size, 1, none⟩)) }, { V := fun _ v _ => v = (.float .f32 p1r1) }, { V := fun _ v _ => v = (.pointer (some ⟨w1.heap.size, 2, none⟩)) }, { V := fun _ v _ => v = (.float .f32 p1r2) }, { V := fun _ v _ => v = (.pointer (some ⟨w1.heap.size, 3, none⟩)) }, { V := fun _ v _ => v = (.float .f32 p1r3) }, { V := fun _ v _ => v = (.agg #[.float .f32 p1r0, .float .f32 p1r1, .float .f32 p1r2, .float .f32 p1r3]) }, { V := fun _ v _ => v = (.agg #[.float .f32 3212836864, .float .f32 3212836864, .float .f32 3212836864]) }, { V := fun _ v _ => ∃ d14_19_0r : Nat, v = (.float .f32 d14_19_0r) ∧ cn .f32 d14_19_0r = m17 }, { V := fun _ v _ => v = (.pointer (some ⟨w.heap.size, 0, none⟩)) }, { V := fun _ v _ => v = (.float .f32 p0r0) }, { V := fun _ v _ => v = (.pointer (some ⟨w.heap.size, 1, none⟩)) }, { V := fun _ v _ => v = (.float .f32 p0r1) }, { V := fun _ v _ => v = (.pointer (some ⟨w.heap.size, 2, none⟩)) }, { V := fun _ v _ => v = (.float .f32 p0r2) }, { V := fun _ v _ => v = (.pointer (some ⟨w.heap.size, 3, none⟩)) }, { V := fun _ v _ => v = (.float .f32 p0r3) }, { V := fun _ v _ => v = (.agg #[.float .f32 p0r0, .float .f32 p0r1, .float .f32 p0r2, .float .f32 p0r3]) }, { V := fun _ v _ => v = (.pointer (some ⟨w1.heap.size, 1, none⟩)) }, { V := fun _ v _ => v = (.float .f32 p1r1) }, { V := fun _ v _ => v = (.pointer (some ⟨w1.heap.size, 0, none⟩)) }, { V := fun _ v _ => v = (.float .f32 p1r0) }, { V := fun _ v _ => v = (.pointer (some ⟨w1.heap.size, 3, none⟩)) }, { V := fun _ v _ => v = (.float .f32 p1r3) }, { V := fun _ v _ => v = (.pointer (some ⟨w1.heap.size, 2, none⟩)) }, { V := fun _ v _ => v = (.float .f32 p1r2) }, { V := fun _ v _ => v = (.agg #[.float .f32 p1r1, .float .f32 p1r0, .float .f32 p1r3, .float .f32 p1r2]) }, { V := fun _ v _ => v = (.agg #[.float .f32 1065353216, .float .f32 1065353216, .float .f32 3212836864]) }, { V := fun _ v _ => ∃ d14_39_0r : Nat, v = (.float .f32 d14_39_0r) ∧ cn .f32 d14_39_0r = m18 }, { V := fun _ v _ => v = (.pointer (some ⟨w.heap.size, 0, none⟩)) }, { V := fun _ v _ => v = (.float .f32 p0r0) }, { V := fun _ v _ => v = (.pointer (some ⟨w.heap.size, 1, none⟩)) }, { V := fun _ v _ => v = (.float .f32 p0r1) }, { V := fun _ v _ => v = (.pointer (some ⟨w.heap.size, 2, none⟩)) }, { V := fun _ v _ => v = (.float .f32 p0r2) }, { V := fun _ v _ => v = (.pointer (some ⟨w.heap.size, 3, none⟩)) }, { V := fun _ v _ => v = (.float .f32 p0r3) }, { V := fun _ v _ => v = (.agg #[.float .f32 p0r0, .float .f32 p0r1, .float .f32 p0r2, .float .f32 p0r3]) }, { V := fun _ v _ => v = (.pointer (some ⟨w1.heap.size, 2, none⟩)) }, { V := fun _ v _ => v = (.float .f32 p1r2) }, { V := fun _ v _ => v = (.pointer (some ⟨w1.heap.size, 3, none⟩)) }, { V := fun _ v _ => v = (.float .f32 p1r3) }, { V := fun _ v _ => v = (.pointer (some ⟨w1.heap.size, 0, none⟩)) }, { V := fun _ v _ => v = (.float .f32 p1r0) }, { V := fun _ v _ => v = (.pointer (some ⟨w1.heap.size, 1, none⟩)) }, { V := fun _ v _ => v = (.float .f32 p1r1) }, { V := fun _ v _ => v = (.agg #[.float .f32 p1r2, .float .f32 p1r3, .float .f32 p1r0, .float .f32 p1r1]) }, { V := fun _ v _ => v = (.agg #[.float .f32 3212836864, .float .f32 1065353216, .float .f32 1065353216]) }, { V := fun _ v _ => ∃ d14_59_0r : Nat, v = (.float .f32 d14_59_0r) ∧ cn .f32 d14_59_0r = m19 }, { V := fun _ v _ => v = (.pointer (some ⟨w.heap.size, 0, none⟩)) }, { V := fun _ v _ => v = (.float .f32 p0r0) }, { V := fun _ v _ => v = (.pointer (some ⟨w.heap.size, 1, none⟩)) }, { V := fun _ v _ => v = (.float .f32 p0r1) }, { V := fun _ v _ => v = (.pointer (some ⟨w.heap.size, 2, none⟩)) }, { V := fun _ v _ => v = (.float .f32 p0r2) }, { V := fun _ v _ => v = (.pointer (some ⟨w.heap.size, 3, none⟩)) }, { V := fun _ v _ => v = (.float .f32 p0r3) }, { V := fun _ v _ => v = (.agg #[.float .f32 p0r0, .float .f32 p0r1, .float .f32 p0r2, .float .f32 p0r3]) }, { V := fun _ v _ => v = (.pointer (some ⟨w1.heap.size, 3, none⟩)) }, { V := fun _ v _ => v = (.float .f32 p1r3) }, { V := fun _ v _ => v = (.pointer (some ⟨w1.heap.size, 2, none⟩)) }, { V := fun _ v _ => v = (.float .f32 p1r2) }, { V := fun _ v _ => v = (.pointer (some ⟨w1.heap.size, 1, none⟩)) }, { V := fun _ v _ => v = (.float .f32 p1r1) }, { V := fun _ v _ => v = (.pointer (some ⟨w1.heap.size, 0, none⟩)) }, { V := fun _ v _ => v = (.float .f32 p1r0) }, { V := fun _ v _ => v = (.agg #[.float .f32 p1r3, .float .f32 p1r2, .float .f32 p1r1, .float .f32 p1r0]) }, { V := fun _ v _ => v = (.agg #[.float .f32 1065353216, .float .f32 3212836864, .float .f32 1065353216]) }, { V := fun _ v _ => ∃ d14_79_0r : Nat, v = (.float .f32 d14_79_0r) ∧ cn .f32 d14_79_0r = m20 }, { V := fun _ v _ => ∃ d14_19_0r : Nat, ∃ d14_39_0r : Nat, ∃ d14_59_0r : Nat, ∃ d14_79_0r : Nat, v = (.agg #[.float .f32 d14_19_0r, .float .f32 d14_39_0r, .float .f32 d14_59_0r, .float .f32 d14_79_0r]) ∧ cn .f32 d14_19_0r = m17 ∧ cn .f32 d14_39_0r = m18 ∧ cn .f32 d14_59_0r = m19 ∧ cn .f32 d14_79_0r = m20 }, ⟨fun _ _ w' => ∃ d14_19_0r : Nat, ∃ d14_39_0r : Nat, ∃ d14_59_0r : Nat, ∃ d14_79_0r : Nat, w'.heap[w4.heap.size]? = some (.cells #[.float .f32 d14_19_0r, .float .f32 d14_39_0r, .float .f32 d14_59_0r, .float .f32 d14_79_0r] 30 (0, 0)) ∧ cn .f32 d14_19_0r = m17 ∧ cn .f32 d14_39_0r = m18 ∧ cn .f32 d14_59_0r = m19 ∧ cn .f32 d14_79_0r = m20, some 0, fun w' => w'.heap[w4.heap.size]? = some (.cells #[.float .f32 0, .float .f32 0, .float .f32 0, .float .f32 0] 30 (0, 0))⟩] mixed (by kernel_rfl) ⟨trivial, trivial, trivial, trivial, trivial, trivial, trivial, trivial, trivial, trivial, trivial, trivial, trivial, trivial, trivial, trivial, trivial, trivial, trivial, trivial, trivial, trivial, trivial, trivial, trivial, trivial, trivial, trivial, trivial, trivial, trivial, trivial, trivial, trivial, trivial, trivial, trivial, trivial, trivial, trivial, trivial, trivial, trivial, trivial, trivial, trivial, trivial, trivial, trivial, trivial, trivial, trivial, trivial, trivial, trivial, trivial, trivial, trivial, trivial, trivial, trivial, trivial, trivial, trivial, trivial, trivial, trivial, trivial, trivial, trivial, trivial, trivial, trivial, trivial, trivial, trivial, trivial, trivial, trivial, trivial, trivial, B8, trivial⟩ ⟨?_, ?_, ?_, ?_, ?_, ?_, ?_, ?_, ?_, ?_, ?_, ?_, ?_, ?_, ?_, ?_, ?_, ?_, ?_, ?_, ?_, ?_, ?_, ?_, ?_, ?_, ?_, ?_, ?_, ?_, ?_, ?_, ?_, ?_, ?_, ?_, ?_, ?_, ?_, ?_, ?_, ?_, ?_, ?_, ?_, ?_, ?_, ?_, ?_, ?_, ?_, ?_, ?_, ?_, ?_, ?_, ?_, ?_, ?_, ?_, ?_, ?_, ?_, ?_, ?_, ?_, ?_, ?_, ?_, ?_, ?_, ?_, ?_, ?_, ?_, ?_, ?_, ?_, ?_, ?_, ?_, ?_, trivial⟩ ?_
  · skip
    refine ⟨fun _ _ _ _ _ _ h _ => h, fun _ _ h _ => h, fun σ' w' hA hE hD hP => ?_⟩
    have t2 : σ' 2 = .pointer (some ⟨w.heap.size, 0, none⟩) := (hA 2 rfl).trans rfl
    have B0_21 : w'.heap[w.heap.size]? = some (.cells #[.float .f32 p0r0, .float .f32 p0r1, .float .f32 p0r2, .float .f32 p0r3] 30 (0, 0)) := hE.heap (not_oth1 sp11) B15
    refine dg_op rfl (d_fieldAddr t2 (fa30_0 _ _) ?_)
    exact ⟨rfl, own_none (Ext.refl w')⟩
  · skip
    refine ⟨fun _ _ _ _ _ _ h _ => h, fun _ _ h _ => h, fun σ' w' hA hE hD hP => ?_⟩
    have t5 : σ' 5 = (.pointer (some ⟨w.heap.size, 0, none⟩)) := hD 0 rfl
    have B0_22 : w'.heap[w.heap.size]? = some (.cells #[.float .f32 p0r0, .float .f32 p0r1, .float .f32 p0r2, .float .f32 p0r3] 30 (0, 0)) := hE.heap (not_oth1 sp11) B15
    refine dg_op rfl (d_load (v := .float .f32 p0r0) t5 agg22 B0_22 rfl ?_)
    exact ⟨rfl, own_none (Ext.refl w')⟩
  · skip
    refine ⟨fun _ _ _ _ _ _ h _ => h, fun _ _ h _ => h, fun σ' w' hA hE hD hP => ?_⟩
    have t2 : σ' 2 = .pointer (some ⟨w.heap.size, 0, none⟩) := (hA 2 rfl).trans rfl
    have B0_23 : w'.heap[w.heap.size]? = some (.cells #[.float .f32 p0r0, .float .f32 p0r1, .float .f32 p0r2, .float .f32 p0r3] 30 (0, 0)) := hE.heap (not_oth1 sp11) B15
    refine dg_op rfl (d_fieldAddr t2 (fa30_1 _ _) ?_)
    exact ⟨rfl, own_none (Ext.refl w')⟩
  · skip
    refine ⟨fun _ _ _ _ _ _ h _ => h, fun _ _ h _ => h, fun σ' w' hA hE hD hP => ?_⟩
    have t7 : σ' 7 = (.pointer (some ⟨w.heap.size, 1, none⟩)) := hD 2 rfl
    have B0_24 : w'.heap[w.heap.size]? = some (.cells #[.float .f32 p0r0, .float .f32 p0r1, .float .f32 p0r2, .float .f32 p0r3] 30 (0, 0)) := hE.heap (not_oth1 sp11) B15
    refine dg_op rfl (d_load (v := .float .f32 p0r1) t7 agg22 B0_24 rfl ?_)
    exact ⟨rfl, own_none (Ext.refl w')⟩
  · skip
    refine ⟨fun _ _ _ _ _ _ h _ => h, fun _ _ h _ => h, fun σ' w' hA hE hD hP => ?_⟩
    have t2 : σ' 2 = .pointer (some ⟨w.heap.size, 0, none⟩) := (hA 2 rfl).trans rfl
    have B0_25 : w'.heap[w.heap.size]? = some (.cells #[.float .f32 p0r0, .float .f32 p0r1, .float .f32 p0r2, .float .f32 p0r3] 30 (0, 0)) := hE.heap (not_oth1 sp11) B15
    refine dg_op rfl (d_fieldAddr t2 (fa30_2 _ _) ?_)
    exact ⟨rfl, own_none (Ext.refl w')⟩
  · skip
    refine ⟨fun _ _ _ _ _ _ h _ => h, fun _ _ h _ => h, fun σ' w' hA hE hD hP => ?_⟩
    have t9 : σ' 9 = (.pointer (some ⟨w.heap.size, 2, none⟩)) := hD 4 rfl
    have B0_26 : w'.heap[w.heap.size]? = some (.cells #[.float .f32 p0r0, .float .f32 p0r1, .float .f32 p0r2, .float .f32 p0r3] 30 (0, 0)) := hE.heap (not_oth1 sp11) B15
    refine dg_op rfl (d_load (v := .float .f32 p0r2) t9 agg22 B0_26 rfl ?_)
    exact ⟨rfl, own_none (Ext.refl w')⟩
  · skip
    refine ⟨fun _ _ _ _ _ _ h _ => h, fun _ _ h _ => h, fun σ' w' hA hE hD hP => ?_⟩
    have t2 : σ' 2 = .pointer (some ⟨w.heap.size, 0, none⟩) := (hA 2 rfl).trans rfl
    have B0_27 : w'.heap[w.heap.size]? = some (.cells #[.float .f32 p0r0, .float .f32 p0r1, .float .f32 p0r2, .float .f32 p0r3] 30 (0, 0)) := hE.heap (not_oth1 sp11) B15
    refine dg_op rfl (d_fieldAddr t2 (fa30_3 _ _) ?_)
    exact ⟨rfl, own_none (Ext.refl w')⟩
  · skip
    refine ⟨fun _ _ _ _ _ _ h _ => h, fun _ _ h _ => h, fun σ' w' hA hE hD hP => ?_⟩
    have t11 : σ' 11 = (.pointer (some ⟨w.heap.size, 3, none⟩)) := hD 6 rfl
    have B0_28 : w'.heap[w.heap.size]? = some (.cells #[.float .f32 p0r0, .float .f32 p0r1, .float .f32 p0r2, .float .f32 p0r3] 30 (0, 0)) := hE.heap (not_oth1 sp11) B15
    refine dg_op rfl (d_load (v := .float .f32 p0r3) t11 agg22 B0_28 rfl ?_)
    exact ⟨rfl, own_none (Ext.refl w')⟩
  · skip
    refine ⟨fun _ _ _ _ _ _ h _ => h, fun _ _ h _ => h, fun σ' w' hA hE hD hP => ?_⟩
    have t6 : σ' 6 = (.float .f32 p0r0) := hD 1 rfl
    have t8 : σ' 8 = (.float .f32 p0r1) := hD 3 rfl
    have t10 : σ' 10 = (.float .f32 p0r2) := hD 5 rfl
    have t12 : σ' 12 = (.float .f32 p0r3) := hD 7 rfl
    refine dg_op rfl (d_bd (vs := [(0, .float .f32 p0r0), (1, .float .f32 p0r1), (2, .float .f32 p0r2), (3, .float .f32 p0r3)]) (cs := #[.float .f32 p0r0, .float .f32 p0r1, .float .f32 p0r2, .float .f32 p0r3]) (pc t6 (pc t8 (pc t10 (pc t12 rfl)))) (by kernel_rfl) ?_)
    exact ⟨rfl, own_none (Ext.refl w')⟩
  · skip
    refine ⟨fun _ _ _ _ _ _ h _ => h, fun _ _ h _ => h, fun σ' w' hA hE hD hP => ?_⟩
    have t3 : σ' 3 = .pointer (some ⟨w1.heap.size, 0, none⟩) := (hA 3 rfl).trans rfl
    have B0_29 : w'.heap[w1.heap.size]? = some (.cells #[.float .f32 p1r0, .float .f32 p1r1, .float .f32 p1r2, .float .f32 p1r3] 30 (0, 0)) := hE.heap (not_oth1 sp12) B16
    refine dg_op rfl (d_fieldAddr t3 (fa30_0 _ _) ?_)
    exact ⟨rfl, own_none (Ext.refl w')⟩
  · skip
    refine ⟨fun _ _ _ _ _ _ h _ => h, fun _ _ h _ => h, fun σ' w' hA hE hD hP => ?_⟩
    have t14 : σ' 14 = (.pointer (some ⟨w1.heap.size, 0, none⟩)) := hD 9 rfl
    have B0_30 : w'.heap[w1.heap.size]? = some (.cells #[.float .f32 p1r0, .float .f32 p1r1, .float .f32 p1r2, .float .f32 p1r3] 30 (0, 0)) := hE.heap (not_oth1 sp12) B16
    refine dg_op rfl (d_load (v := .float .f32 p1r0) t14 agg22 B0_30 rfl ?_)
    exact ⟨rfl, own_none (Ext.refl w')⟩
  · skip
    refine ⟨fun _ _ _ _ _ _ h _ => h, fun _ _ h _ => h, fun σ' w' hA hE hD hP => ?_⟩
    have t3 : σ' 3 = .pointer (some ⟨w1.heap.size, 0, none⟩) := (hA 3 rfl).trans rfl
    have B0_31 : w'.heap[w1.heap.size]? = some (.cells #[.float .f32 p1r0, .float .f32 p1r1, .float .f32 p1r2, .float .f32 p1r3] 30 (0, 0)) := hE.heap (not_oth1 sp12) B16
    refine dg_op rfl (d_fieldAddr t3 (fa30_1 _ _) ?_)
    exact ⟨rfl, own_none (Ext.refl w')⟩
  · skip
    refine ⟨fun _ _ _ _ _ _ h _ => h, fun _ _ h _ => h, fun σ' w' hA hE hD hP => ?_⟩
    have t16 : σ' 16 = (.pointer (some ⟨w1.heap.size, 1, none⟩)) := hD 11 rfl
    have B0_32 : w'.heap[w1.heap.size]? = some (.cells #[.float .f32 p1r0, .float .f32 p1r1, .float .f32 p1r2, .float .f32 p1r3] 30 (0, 0)) := hE.heap (not_oth1 sp12) B16
    refine dg_op rfl (d_load (v := .float .f32 p1r1) t16 agg22 B0_32 rfl ?_)
    exact ⟨rfl, own_none (Ext.refl w')⟩
  · skip
    refine ⟨fun _ _ _ _ _ _ h _ => h, fun _ _ h _ => h, fun σ' w' hA hE hD hP => ?_⟩
    have t3 : σ' 3 = .pointer (some ⟨w1.heap.size, 0, none⟩) := (hA 3 rfl).trans rfl
    have B0_33 : w'.heap[w1.heap.size]? = some (.cells #[.float .f32 p1r0, .float .f32 p1r1, .float .f32 p1r2, .float .f32 p1r3] 30 (0, 0)) := hE.heap (not_oth1 sp12) B16
    refine dg_op rfl (d_fieldAddr t3 (fa30_2 _ _) ?_)
    exact ⟨rfl, own_none (Ext.refl w')⟩
  · skip
    refine ⟨fun _ _ _ _ _ _ h _ => h, fun _ _ h _ => h, fun σ' w' hA hE hD hP => ?_⟩
    have t18 : σ' 18 = (.pointer (some ⟨w1.heap.size, 2, none⟩)) := hD 13 rfl
    have B0_34 : w'.heap[w1.heap.size]? = some (.cells #[.float .f32 p1r0, .float .f32 p1r1, .float .f32 p1r2, .float .f32 p1r3] 30 (0, 0)) := hE.heap (not_oth1 sp12) B16
    refine dg_op rfl (d_load (v := .float .f32 p1r2) t18 agg22 B0_34 rfl ?_)
    exact ⟨rfl, own_none (Ext.refl w')⟩
  · skip
    refine ⟨fun _ _ _ _ _ _ h _ => h, fun _ _ h _ => h, fun σ' w' hA hE hD hP => ?_⟩
    have t3 : σ' 3 = .pointer (some ⟨w1.heap.size, 0, none⟩) := (hA 3 rfl).trans rfl
    have B0_35 : w'.heap[w1.heap.size]? = some (.cells #[.float .f32 p1r0, .float .f32 p1r1, .float .f32 p1r2, .float .f32 p1r3] 30 (0, 0)) := hE.heap (not_oth1 sp12) B16
    refine dg_op rfl (d_fieldAddr t3 (fa30_3 _ _) ?_)
    exact ⟨rfl, own_none (Ext.refl w')⟩
  · skip
    refine ⟨fun _ _ _ _ _ _ h _ => h, fun _ _ h _ => h, fun σ' w' hA hE hD hP => ?_⟩
    have t20 : σ' 20 = (.pointer (some ⟨w1.heap.size, 3, none⟩)) := hD 15 rfl
    have B0_36 : w'.heap[w1.heap.size]? = some (.cells #[.float .f32 p1r0, .float .f32 p1r1, .float .f32 p1r2, .float .f32 p1r3] 30 (0, 0)) := hE.heap (not_oth1 sp12) B16
    refine dg_op rfl (d_load (v := .float .f32 p1r3) t20 agg22 B0_36 rfl ?_)
    exact ⟨rfl, own_none (Ext.refl w')⟩
  · skip
    refine ⟨fun _ _ _ _ _ _ h _ => h, fun _ _ h _ => h, fun σ' w' hA hE hD hP => ?_⟩
    have t15 : σ' 15 = (.float .f32 p1r0) := hD 10 rfl
    have t17 : σ' 17 = (.float .f32 p1r1) := hD 12 rfl
    have t19 : σ' 19 = (.float .f32 p1r2) := hD 14 rfl
    have t21 : σ' 21 = (.float .f32 p1r3) := hD 16 rfl
    refine dg_op rfl (d_bd (vs := [(0, .float .f32 p1r0), (1, .float .f32 p1r1), (2, .float .f32 p1r2), (3, .float .f32 p1r3)]) (cs := #[.float .f32 p1r0, .float .f32 p1r1, .float .f32 p1r2, .float .f32 p1r3]) (pc t15 (pc t17 (pc t19 (pc t21 rfl)))) (by kernel_rfl) ?_)
    exact ⟨rfl, own_none (Ext.refl w')⟩
  · skip
    refine ⟨fun _ _ _ _ _ _ h _ => h, fun _ _ h _ => h, fun σ' w' hA hE hD hP => ?_⟩
    refine dg_op rfl (d_bd (vs := [(0, .float .f32 3212836864), (1, .float .f32 3212836864), (2, .float .f32 3212836864)]) (cs := #[.float .f32 3212836864, .float .f32 3212836864, .float .f32 3212836864]) (pc rfl (pc rfl (pc rfl rfl))) (by kernel_rfl) ?_)
    exact ⟨rfl, own_none (Ext.refl w')⟩
  · skip
    refine ⟨fun _ _ _ _ _ _ h _ => h, fun _ _ h _ => h, fun σ' w' hA hE hD hP => ?_⟩
    have t13 : σ' 13 = (.agg #[.float .f32 p0r0, .float .f32 p0r1, .float .f32 p0r2, .float .f32 p0r3]) := hD 8 rfl
    have t22 : σ' 22 = (.agg #[.float .f32 p1r0, .float .f32 p1r1, .float .f32 p1r2, .float .f32 p1r3]) := hD 17 rfl
    have t23 : σ' 23 = (.agg #[.float .f32 3212836864, .float .f32 3212836864, .float .f32 3212836864]) := hD 18 rfl
    refine dg_op rfl (d_cl (vs := [.agg #[.float .f32 p0r0, .float .f32 p0r1, .float .f32 p0r2, .float .f32 p0r3], .agg #[.float .f32 p1r0, .float .f32 p1r1, .float .f32 p1r2, .float .f32 p1r3], .agg #[.float .f32 3212836864, .float .f32 3212836864, .float .f32 3212836864]]) en116 (ac t13 (ac t22 (ac t23 rfl))) rfl ?_)
    refine (c116 (⟨p0.w, p0.x, p0.y, p0.z⟩ : Arr4Nat) (⟨p1.w, p1.x, p1.y, p1.z⟩ : Arr4Nat) (⟨3212836864, 3212836864, 3212836864⟩ : Arr3Nat) p0r0 p0r1 p0r2 p0r3 p1r0 p1r1 p1r2 p1r3 3212836864 3212836864 3212836864 m17 w' hm17 p0h0 p0h1 p0h2 p0h3 p1h0 p1h1 p1h2 p1h3 cn_f32_3212836864 cn_f32_3212836864 cn_f32_3212836864).mono ?_
    rintro _ w37 ⟨q37_0r, rfl, q37_0h, E37⟩
    refine ⟨_, rfl, ?_⟩
    have X38 : Ext w' w37 := (Ext.refl w').trans E37
    exact ⟨⟨q37_0r, rfl, q37_0h⟩, own_none X38⟩
  · skip
    refine ⟨fun _ _ _ _ _ _ h _ => h, fun _ _ h _ => h, fun σ' w' hA hE hD hP => ?_⟩
    have t2 : σ' 2 = .pointer (some ⟨w.heap.size, 0, none⟩) := (hA 2 rfl).trans rfl
    have B0_39 : w'.heap[w.heap.size]? = some (.cells #[.float .f32 p0r0, .float .f32 p0r1, .float .f32 p0r2, .float .f32 p0r3] 30 (0, 0)) := hE.heap (not_oth1 sp11) B15
    refine dg_op rfl (d_fieldAddr t2 (fa30_0 _ _) ?_)
    exact ⟨rfl, own_none (Ext.refl w')⟩
  · skip
    refine ⟨fun _ _ _ _ _ _ h _ => h, fun _ _ h _ => h, fun σ' w' hA hE hD hP => ?_⟩
    have t25 : σ' 25 = (.pointer (some ⟨w.heap.size, 0, none⟩)) := hD 20 rfl
    have B0_40 : w'.heap[w.heap.size]? = some (.cells #[.float .f32 p0r0, .float .f32 p0r1, .float .f32 p0r2, .float .f32 p0r3] 30 (0, 0)) := hE.heap (not_oth1 sp11) B15
    refine dg_op rfl (d_load (v := .float .f32 p0r0) t25 agg22 B0_40 rfl ?_)
    exact ⟨rfl, own_none (Ext.refl w')⟩
  · skip
    refine ⟨fun _ _ _ _ _ _ h _ => h, fun _ _ h _ => h, fun σ' w' hA hE hD hP => ?_⟩
    have t2 : σ' 2 = .pointer (some ⟨w.heap.size, 0, none⟩) := (hA 2 rfl).trans rfl
    have B0_41 : w'.heap[w.heap.size]? = some (.cells #[.float .f32 p0r0, .float .f32 p0r1, .float .f32 p0r2, .float .f32 p0r3] 30 (0, 0)) := hE.heap (not_oth1 sp11) B15
    refine dg_op rfl (d_fieldAddr t2 (fa30_1 _ _) ?_)
    exact ⟨rfl, own_none (Ext.refl w')⟩
  · skip
    refine ⟨fun _ _ _ _ _ _ h _ => h, fun _ _ h _ => h, fun σ' w' hA hE hD hP => ?_⟩
    have t27 : σ' 27 = (.pointer (some ⟨w.heap.size, 1, none⟩)) := hD 22 rfl
    have B0_42 : w'.heap[w.heap.size]? = some (.cells #[.float .f32 p0r0, .float .f32 p0r1, .float .f32 p0r2, .float .f32 p0r3] 30 (0, 0)) := hE.heap (not_oth1 sp11) B15
    refine dg_op rfl (d_load (v := .float .f32 p0r1) t27 agg22 B0_42 rfl ?_)
    exact ⟨rfl, own_none (Ext.refl w')⟩
  · skip
    refine ⟨fun _ _ _ _ _ _ h _ => h, fun _ _ h _ => h, fun σ' w' hA hE hD hP => ?_⟩
    have t2 : σ' 2 = .pointer (some ⟨w.heap.size, 0, none⟩) := (hA 2 rfl).trans rfl
    have B0_43 : w'.heap[w.heap.size]? = some (.cells #[.float .f32 p0r0, .float .f32 p0r1, .float .f32 p0r2, .float .f32 p0r3] 30 (0, 0)) := hE.heap (not_oth1 sp11) B15
    refine dg_op rfl (d_fieldAddr t2 (fa30_2 _ _) ?_)
    exact ⟨rfl, own_none (Ext.refl w')⟩
  · skip
    refine ⟨fun _ _ _ _ _ _ h _ => h, fun _ _ h _ => h, fun σ' w' hA hE hD hP => ?_⟩
    have t29 : σ' 29 = (.pointer (some ⟨w.heap.size, 2, none⟩)) := hD 24 rfl
    have B0_44 : w'.heap[w.heap.size]? = some (.cells #[.float .f32 p0r0, .float .f32 p0r1, .float .f32 p0r2, .float .f32 p0r3] 30 (0, 0)) := hE.heap (not_oth1 sp11) B15
    refine dg_op rfl (d_load (v := .float .f32 p0r2) t29 agg22 B0_44 rfl ?_)
    exact ⟨rfl, own_none (Ext.refl w')⟩
  · skip
    refine ⟨fun _ _ _ _ _ _ h _ => h, fun _ _ h _ => h, fun σ' w' hA hE hD hP => ?_⟩
    have t2 : σ' 2 = .pointer (some ⟨w.heap.size, 0, none⟩) := (hA 2 rfl).trans rfl
    have B0_45 : w'.heap[w.heap.size]? = some (.cells #[.float .f32 p0r0, .float .f32 p0r1, .float .f32 p0r2, .float .f32 p0r3] 30 (0, 0)) := hE.heap (not_oth1 sp11) B15
    refine dg_op rfl (d_fieldAddr t2 (fa30_3 _ _) ?_)
    exact ⟨rfl, own_none (Ext.refl w')⟩
  · skip
    refine ⟨fun _ _ _ _ _ _ h _ => h, fun _ _ h _ => h, fun σ' w' hA hE hD hP => ?_⟩
    have t31 : σ' 31 = (.pointer (some ⟨w.heap.size, 3, none⟩)) := hD 26 rfl
    have B0_46 : w'.heap[w.heap.size]? = some (.cells #[.float .f32 p0r0, .float .f32 p0r1, .float .f32 p0r2, .float .f32 p0r3] 30 (0, 0)) := hE.heap (not_oth1 sp11) B15
    refine dg_op rfl (d_load (v := .float .f32 p0r3) t31 agg22 B0_46 rfl ?_)
    exact ⟨rfl, own_none (Ext.refl w')⟩
  · skip
    refine ⟨fun _ _ _ _ _ _ h _ => h, fun _ _ h _ => h, fun σ' w' hA hE hD hP => ?_⟩
    have t26 : σ' 26 = (.float .f32 p0r0) := hD 21 rfl
    have t28 : σ' 28 = (.float .f32 p0r1) := hD 23 rfl
    have t30 : σ' 30 = (.float .f32 p0r2) := hD 25 rfl
    have t32 : σ' 32 = (.float .f32 p0r3) := hD 27 rfl
    refine dg_op rfl (d_bd (vs := [(0, .float .f32 p0r0), (1, .float .f32 p0r1), (2, .float .f32 p0r2), (3, .float .f32 p0r3)]) (cs := #[.float .f32 p0r0, .float .f32 p0r1, .float .f32 p0r2, .float .f32 p0r3]) (pc t26 (pc t28 (pc t30 (pc t32 rfl)))) (by kernel_rfl) ?_)
    exact ⟨rfl, own_none (Ext.refl w')⟩
  · skip
    refine ⟨fun _ _ _ _ _ _ h _ => h, fun _ _ h _ => h, fun σ' w' hA hE hD hP => ?_⟩
    have t3 : σ' 3 = .pointer (some ⟨w1.heap.size, 0, none⟩) := (hA 3 rfl).trans rfl
    have B0_47 : w'.heap[w1.heap.size]? = some (.cells #[.float .f32 p1r0, .float .f32 p1r1, .float .f32 p1r2, .float .f32 p1r3] 30 (0, 0)) := hE.heap (not_oth1 sp12) B16
    refine dg_op rfl (d_fieldAddr t3 (fa30_1 _ _) ?_)
    exact ⟨rfl, own_none (Ext.refl w')⟩
  · skip
    refine ⟨fun _ _ _ _ _ _ h _ => h, fun _ _ h _ => h, fun σ' w' hA hE hD hP => ?_⟩
    have t34 : σ' 34 = (.pointer (some ⟨w1.heap.size, 1, none⟩)) := hD 29 rfl
    have B0_48 : w'.heap[w1.heap.size]? = some (.cells #[.float .f32 p1r0, .float .f32 p1r1, .float .f32 p1r2, .float .f32 p1r3] 30 (0, 0)) := hE.heap (not_oth1 sp12) B16
    refine dg_op rfl (d_load (v := .float .f32 p1r1) t34 agg22 B0_48 rfl ?_)
    exact ⟨rfl, own_none (Ext.refl w')⟩
  · skip
    refine ⟨fun _ _ _ _ _ _ h _ => h, fun _ _ h _ => h, fun σ' w' hA hE hD hP => ?_⟩
    have t3 : σ' 3 = .pointer (some ⟨w1.heap.size, 0, none⟩) := (hA 3 rfl).trans rfl
    have B0_49 : w'.heap[w1.heap.size]? = some (.cells #[.float .f32 p1r0, .float .f32 p1r1, .float .f32 p1r2, .float .f32 p1r3] 30 (0, 0)) := hE.heap (not_oth1 sp12) B16
    refine dg_op rfl (d_fieldAddr t3 (fa30_0 _ _) ?_)
    exact ⟨rfl, own_none (Ext.refl w')⟩
  · skip
    refine ⟨fun _ _ _ _ _ _ h _ => h, fun _ _ h _ => h, fun σ' w' hA hE hD hP => ?_⟩
    have t36 : σ' 36 = (.pointer (some ⟨w1.heap.size, 0, none⟩)) := hD 31 rfl
    have B0_50 : w'.heap[w1.heap.size]? = some (.cells #[.float .f32 p1r0, .float .f32 p1r1, .float .f32 p1r2, .float .f32 p1r3] 30 (0, 0)) := hE.heap (not_oth1 sp12) B16
    refine dg_op rfl (d_load (v := .float .f32 p1r0) t36 agg22 B0_50 rfl ?_)
    exact ⟨rfl, own_none (Ext.refl w')⟩
  · skip
    refine ⟨fun _ _ _ _ _ _ h _ => h, fun _ _ h _ => h, fun σ' w' hA hE hD hP => ?_⟩
    have t3 : σ' 3 = .pointer (some ⟨w1.heap.size, 0, none⟩) := (hA 3 rfl).trans rfl
    have B0_51 : w'.heap[w1.heap.size]? = some (.cells #[.float .f32 p1r0, .float .f32 p1r1, .float .f32 p1r2, .float .f32 p1r3] 30 (0, 0)) := hE.heap (not_oth1 sp12) B16
    refine dg_op rfl (d_fieldAddr t3 (fa30_3 _ _) ?_)
    exact ⟨rfl, own_none (Ext.refl w')⟩
  · skip
    refine ⟨fun _ _ _ _ _ _ h _ => h, fun _ _ h _ => h, fun σ' w' hA hE hD hP => ?_⟩
    have t38 : σ' 38 = (.pointer (some ⟨w1.heap.size, 3, none⟩)) := hD 33 rfl
    have B0_52 : w'.heap[w1.heap.size]? = some (.cells #[.float .f32 p1r0, .float .f32 p1r1, .float .f32 p1r2, .float .f32 p1r3] 30 (0, 0)) := hE.heap (not_oth1 sp12) B16
    refine dg_op rfl (d_load (v := .float .f32 p1r3) t38 agg22 B0_52 rfl ?_)
    exact ⟨rfl, own_none (Ext.refl w')⟩
  · skip
    refine ⟨fun _ _ _ _ _ _ h _ => h, fun _ _ h _ => h, fun σ' w' hA hE hD hP => ?_⟩
    have t3 : σ' 3 = .pointer (some ⟨w1.heap.size, 0, none⟩) := (hA 3 rfl).trans rfl
    have B0_53 : w'.heap[w1.heap.size]? = some (.cells #[.float .f32 p1r0, .float .f32 p1r1, .float .f32 p1r2, .float .f32 p1r3] 30 (0, 0)) := hE.heap (not_oth1 sp12) B16
    refine dg_op rfl (d_fieldAddr t3 (fa30_2 _ _) ?_)
    exact ⟨rfl, own_none (Ext.refl w')⟩
  · skip
    refine ⟨fun _ _ _ _ _ _ h _ => h, fun _ _ h _ => h, fun σ' w' hA hE hD hP => ?_⟩
    have t40 : σ' 40 = (.pointer (some ⟨w1.heap.size, 2, none⟩)) := hD 35 rfl
    have B0_54 : w'.heap[w1.heap.size]? = some (.cells #[.float .f32 p1r0, .float .f32 p1r1, .float .f32 p1r2, .float .f32 p1r3] 30 (0, 0)) := hE.heap (not_oth1 sp12) B16
    refine dg_op rfl (d_load (v := .float .f32 p1r2) t40 agg22 B0_54 rfl ?_)
    exact ⟨rfl, own_none (Ext.refl w')⟩
  · skip
    refine ⟨fun _ _ _ _ _ _ h _ => h, fun _ _ h _ => h, fun σ' w' hA hE hD hP => ?_⟩
    have t35 : σ' 35 = (.float .f32 p1r1) := hD 30 rfl
    have t37 : σ' 37 = (.float .f32 p1r0) := hD 32 rfl
    have t39 : σ' 39 = (.float .f32 p1r3) := hD 34 rfl
    have t41 : σ' 41 = (.float .f32 p1r2) := hD 36 rfl
    refine dg_op rfl (d_bd (vs := [(0, .float .f32 p1r1), (1, .float .f32 p1r0), (2, .float .f32 p1r3), (3, .float .f32 p1r2)]) (cs := #[.float .f32 p1r1, .float .f32 p1r0, .float .f32 p1r3, .float .f32 p1r2]) (pc t35 (pc t37 (pc t39 (pc t41 rfl)))) (by kernel_rfl) ?_)
    exact ⟨rfl, own_none (Ext.refl w')⟩
  · skip
    refine ⟨fun _ _ _ _ _ _ h _ => h, fun _ _ h _ => h, fun σ' w' hA hE hD hP => ?_⟩
    refine dg_op rfl (d_bd (vs := [(0, .float .f32 1065353216), (1, .float .f32 1065353216), (2, .float .f32 3212836864)]) (cs := #[.float .f32 1065353216, .float .f32 1065353216, .float .f32 3212836864]) (pc rfl (pc rfl (pc rfl rfl))) (by kernel_rfl) ?_)
    exact ⟨rfl, own_none (Ext.refl w')⟩
  · skip
    refine ⟨fun _ _ _ _ _ _ h _ => h, fun _ _ h _ => h, fun σ' w' hA hE hD hP => ?_⟩
    have t33 : σ' 33 = (.agg #[.float .f32 p0r0, .float .f32 p0r1, .float .f32 p0r2, .float .f32 p0r3]) := hD 28 rfl
    have t42 : σ' 42 = (.agg #[.float .f32 p1r1, .float .f32 p1r0, .float .f32 p1r3, .float .f32 p1r2]) := hD 37 rfl
    have t43 : σ' 43 = (.agg #[.float .f32 1065353216, .float .f32 1065353216, .float .f32 3212836864]) := hD 38 rfl
    refine dg_op rfl (d_cl (vs := [.agg #[.float .f32 p0r0, .float .f32 p0r1, .float .f32 p0r2, .float .f32 p0r3], .agg #[.float .f32 p1r1, .float .f32 p1r0, .float .f32 p1r3, .float .f32 p1r2], .agg #[.float .f32 1065353216, .float .f32 1065353216, .float .f32 3212836864]]) en116 (ac t33 (ac t42 (ac t43 rfl))) rfl ?_)
    refine (c116 (⟨p0.w, p0.x, p0.y, p0.z⟩ : Arr4Nat) (⟨p1.x, p1.w, p1.z, p1.y⟩ : Arr4Nat) (⟨1065353216, 1065353216, 3212836864⟩ : Arr3Nat) p0r0 p0r1 p0r2 p0r3 p1r1 p1r0 p1r3 p1r2 1065353216 1065353216 3212836864 m18 w' hm18 p0h0 p0h1 p0h2 p0h3 p1h1 p1h0 p1h3 p1h2 cn_f32_1065353216 cn_f32_1065353216 cn_f32_3212836864).mono ?_
    rintro _ w55 ⟨q55_0r, rfl, q55_0h, E55⟩
    refine ⟨_, rfl, ?_⟩
    have X56 : Ext w' w55 := (Ext.refl w').trans E55
    exact ⟨⟨q55_0r, rfl, q55_0h⟩, own_none X56⟩
  · skip
    refine ⟨fun _ _ _ _ _ _ h _ => h, fun _ _ h _ => h, fun σ' w' hA hE hD hP => ?_⟩
    have t2 : σ' 2 = .pointer (some ⟨w.heap.size, 0, none⟩) := (hA 2 rfl).trans rfl
    have B0_57 : w'.heap[w.heap.size]? = some (.cells #[.float .f32 p0r0, .float .f32 p0r1, .float .f32 p0r2, .float .f32 p0r3] 30 (0, 0)) := hE.heap (not_oth1 sp11) B15
    refine dg_op rfl (d_fieldAddr t2 (fa30_0 _ _) ?_)
    exact ⟨rfl, own_none (Ext.refl w')⟩
  · skip
    refine ⟨fun _ _ _ _ _ _ h _ => h, fun _ _ h _ => h, fun σ' w' hA hE hD hP => ?_⟩
    have t45 : σ' 45 = (.pointer (some ⟨w.heap.size, 0, none⟩)) := hD 40 rfl
    have B0_58 : w'.heap[w.heap.size]? = some (.cells #[.float .f32 p0r0, .float .f32 p0r1, .float .f32 p0r2, .float .f32 p0r3] 30 (0, 0)) := hE.heap (not_oth1 sp11) B15
    refine dg_op rfl (d_load (v := .float .f32 p0r0) t45 agg22 B0_58 rfl ?_)
    exact ⟨rfl, own_none (Ext.refl w')⟩
  · skip
    refine ⟨fun _ _ _ _ _ _ h _ => h, fun _ _ h _ => h, fun σ' w' hA hE hD hP => ?_⟩
    have t2 : σ' 2 = .pointer (some ⟨w.heap.size, 0, none⟩) := (hA 2 rfl).trans rfl
    have B0_59 : w'.heap[w.heap.size]? = some (.cells #[.float .f32 p0r0, .float .f32 p0r1, .float .f32 p0r2, .float .f32 p0r3] 30 (0, 0)) := hE.heap (not_oth1 sp11) B15
    refine dg_op rfl (d_fieldAddr t2 (fa30_1 _ _) ?_)
    exact ⟨rfl, own_none (Ext.refl w')⟩
  · skip
    refine ⟨fun _ _ _ _ _ _ h _ => h, fun _ _ h _ => h, fun σ' w' hA hE hD hP => ?_⟩
    have t47 : σ' 47 = (.pointer (some ⟨w.heap.size, 1, none⟩)) := hD 42 rfl
    have B0_60 : w'.heap[w.heap.size]? = some (.cells #[.float .f32 p0r0, .float .f32 p0r1, .float .f32 p0r2, .float .f32 p0r3] 30 (0, 0)) := hE.heap (not_oth1 sp11) B15
    refine dg_op rfl (d_load (v := .float .f32 p0r1) t47 agg22 B0_60 rfl ?_)
    exact ⟨rfl, own_none (Ext.refl w')⟩
  · skip
    refine ⟨fun _ _ _ _ _ _ h _ => h, fun _ _ h _ => h, fun σ' w' hA hE hD hP => ?_⟩
    have t2 : σ' 2 = .pointer (some ⟨w.heap.size, 0, none⟩) := (hA 2 rfl).trans rfl
    have B0_61 : w'.heap[w.heap.size]? = some (.cells #[.float .f32 p0r0, .float .f32 p0r1, .float .f32 p0r2, .float .f32 p0r3] 30 (0, 0)) := hE.heap (not_oth1 sp11) B15
    refine dg_op rfl (d_fieldAddr t2 (fa30_2 _ _) ?_)
    exact ⟨rfl, own_none (Ext.refl w')⟩
  · skip
    refine ⟨fun _ _ _ _ _ _ h _ => h, fun _ _ h _ => h, fun σ' w' hA hE hD hP => ?_⟩
    have t49 : σ' 49 = (.pointer (some ⟨w.heap.size, 2, none⟩)) := hD 44 rfl
    have B0_62 : w'.heap[w.heap.size]? = some (.cells #[.float .f32 p0r0, .float .f32 p0r1, .float .f32 p0r2, .float .f32 p0r3] 30 (0, 0)) := hE.heap (not_oth1 sp11) B15
    refine dg_op rfl (d_load (v := .float .f32 p0r2) t49 agg22 B0_62 rfl ?_)
    exact ⟨rfl, own_none (Ext.refl w')⟩
  · skip
    refine ⟨fun _ _ _ _ _ _ h _ => h, fun _ _ h _ => h, fun σ' w' hA hE hD hP => ?_⟩
    have t2 : σ' 2 = .pointer (some ⟨w.heap.size, 0, none⟩) := (hA 2 rfl).trans rfl
    have B0_63 : w'.heap[w.heap.size]? = some (.cells #[.float .f32 p0r0, .float .f32 p0r1, .float .f32 p0r2, .float .f32 p0r3] 30 (0, 0)) := hE.heap (not_oth1 sp11) B15
    refine dg_op rfl (d_fieldAddr t2 (fa30_3 _ _) ?_)
    exact ⟨rfl, own_none (Ext.refl w')⟩
  · skip
    refine ⟨fun _ _ _ _ _ _ h _ => h, fun _ _ h _ => h, fun σ' w' hA hE hD hP => ?_⟩
    have t51 : σ' 51 = (.pointer (some ⟨w.heap.size, 3, none⟩)) := hD 46 rfl
    have B0_64 : w'.heap[w.heap.size]? = some (.cells #[.float .f32 p0r0, .float .f32 p0r1, .float .f32 p0r2, .float .f32 p0r3] 30 (0, 0)) := hE.heap (not_oth1 sp11) B15
    refine dg_op rfl (d_load (v := .float .f32 p0r3) t51 agg22 B0_64 rfl ?_)
    exact ⟨rfl, own_none (Ext.refl w')⟩
  · skip
    refine ⟨fun _ _ _ _ _ _ h _ => h, fun _ _ h _ => h, fun σ' w' hA hE hD hP => ?_⟩
    have t46 : σ' 46 = (.float .f32 p0r0) := hD 41 rfl
    have t48 : σ' 48 = (.float .f32 p0r1) := hD 43 rfl
    have t50 : σ' 50 = (.float .f32 p0r2) := hD 45 rfl
    have t52 : σ' 52 = (.float .f32 p0r3) := hD 47 rfl
    refine dg_op rfl (d_bd (vs := [(0, .float .f32 p0r0), (1, .float .f32 p0r1), (2, .float .f32 p0r2), (3, .float .f32 p0r3)]) (cs := #[.float .f32 p0r0, .float .f32 p0r1, .float .f32 p0r2, .float .f32 p0r3]) (pc t46 (pc t48 (pc t50 (pc t52 rfl)))) (by kernel_rfl) ?_)
    exact ⟨rfl, own_none (Ext.refl w')⟩
  · skip
    refine ⟨fun _ _ _ _ _ _ h _ => h, fun _ _ h _ => h, fun σ' w' hA hE hD hP => ?_⟩
    have t3 : σ' 3 = .pointer (some ⟨w1.heap.size, 0, none⟩) := (hA 3 rfl).trans rfl
    have B0_65 : w'.heap[w1.heap.size]? = some (.cells #[.float .f32 p1r0, .float .f32 p1r1, .float .f32 p1r2, .float .f32 p1r3] 30 (0, 0)) := hE.heap (not_oth1 sp12) B16
    refine dg_op rfl (d_fieldAddr t3 (fa30_2 _ _) ?_)
    exact ⟨rfl, own_none (Ext.refl w')⟩
  · skip
    refine ⟨fun _ _ _ _ _ _ h _ => h, fun _ _ h _ => h, fun σ' w' hA hE hD hP => ?_⟩
    have t54 : σ' 54 = (.pointer (some ⟨w1.heap.size, 2, none⟩)) := hD 49 rfl
    have B0_66 : w'.heap[w1.heap.size]? = some (.cells #[.float .f32 p1r0, .float .f32 p1r1, .float .f32 p1r2, .float .f32 p1r3] 30 (0, 0)) := hE.heap (not_oth1 sp12) B16
    refine dg_op rfl (d_load (v := .float .f32 p1r2) t54 agg22 B0_66 rfl ?_)
    exact ⟨rfl, own_none (Ext.refl w')⟩
  · skip
    refine ⟨fun _ _ _ _ _ _ h _ => h, fun _ _ h _ => h, fun σ' w' hA hE hD hP => ?_⟩
    have t3 : σ' 3 = .pointer (some ⟨w1.heap.size, 0, none⟩) := (hA 3 rfl).trans rfl
    have B0_67 : w'.heap[w1.heap.size]? = some (.cells #[.float .f32 p1r0, .float .f32 p1r1, .float .f32 p1r2, .float .f32 p1r3] 30 (0, 0)) := hE.heap (not_oth1 sp12) B16
    refine dg_op rfl (d_fieldAddr t3 (fa30_3 _ _) ?_)
    exact ⟨rfl, own_none (Ext.refl w')⟩
  · skip
    refine ⟨fun _ _ _ _ _ _ h _ => h, fun _ _ h _ => h, fun σ' w' hA hE hD hP => ?_⟩
    have t56 : σ' 56 = (.pointer (some ⟨w1.heap.size, 3, none⟩)) := hD 51 rfl
    have B0_68 : w'.heap[w1.heap.size]? = some (.cells #[.float .f32 p1r0, .float .f32 p1r1, .float .f32 p1r2, .float .f32 p1r3] 30 (0, 0)) := hE.heap (not_oth1 sp12) B16
    refine dg_op rfl (d_load (v := .float .f32 p1r3) t56 agg22 B0_68 rfl ?_)
    exact ⟨rfl, own_none (Ext.refl w')⟩
  · skip
    refine ⟨fun _ _ _ _ _ _ h _ => h, fun _ _ h _ => h, fun σ' w' hA hE hD hP => ?_⟩
    have t3 : σ' 3 = .pointer (some ⟨w1.heap.size, 0, none⟩) := (hA 3 rfl).trans rfl
    have B0_69 : w'.heap[w1.heap.size]? = some (.cells #[.float .f32 p1r0, .float .f32 p1r1, .float .f32 p1r2, .float .f32 p1r3] 30 (0, 0)) := hE.heap (not_oth1 sp12) B16
    refine dg_op rfl (d_fieldAddr t3 (fa30_0 _ _) ?_)
    exact ⟨rfl, own_none (Ext.refl w')⟩
  · skip
    refine ⟨fun _ _ _ _ _ _ h _ => h, fun _ _ h _ => h, fun σ' w' hA hE hD hP => ?_⟩
    have t58 : σ' 58 = (.pointer (some ⟨w1.heap.size, 0, none⟩)) := hD 53 rfl
    have B0_70 : w'.heap[w1.heap.size]? = some (.cells #[.float .f32 p1r0, .float .f32 p1r1, .float .f32 p1r2, .float .f32 p1r3] 30 (0, 0)) := hE.heap (not_oth1 sp12) B16
    refine dg_op rfl (d_load (v := .float .f32 p1r0) t58 agg22 B0_70 rfl ?_)
    exact ⟨rfl, own_none (Ext.refl w')⟩
  · skip
    refine ⟨fun _ _ _ _ _ _ h _ => h, fun _ _ h _ => h, fun σ' w' hA hE hD hP => ?_⟩
    have t3 : σ' 3 = .pointer (some ⟨w1.heap.size, 0, none⟩) := (hA 3 rfl).trans rfl
    have B0_71 : w'.heap[w1.heap.size]? = some (.cells #[.float .f32 p1r0, .float .f32 p1r1, .float .f32 p1r2, .float .f32 p1r3] 30 (0, 0)) := hE.heap (not_oth1 sp12) B16
    refine dg_op rfl (d_fieldAddr t3 (fa30_1 _ _) ?_)
    exact ⟨rfl, own_none (Ext.refl w')⟩
  · skip
    refine ⟨fun _ _ _ _ _ _ h _ => h, fun _ _ h _ => h, fun σ' w' hA hE hD hP => ?_⟩
    have t60 : σ' 60 = (.pointer (some ⟨w1.heap.size, 1, none⟩)) := hD 55 rfl
    have B0_72 : w'.heap[w1.heap.size]? = some (.cells #[.float .f32 p1r0, .float .f32 p1r1, .float .f32 p1r2, .float .f32 p1r3] 30 (0, 0)) := hE.heap (not_oth1 sp12) B16
    refine dg_op rfl (d_load (v := .float .f32 p1r1) t60 agg22 B0_72 rfl ?_)
    exact ⟨rfl, own_none (Ext.refl w')⟩
  · skip
    refine ⟨fun _ _ _ _ _ _ h _ => h, fun _ _ h _ => h, fun σ' w' hA hE hD hP => ?_⟩
    have t55 : σ' 55 = (.float .f32 p1r2) := hD 50 rfl
    have t57 : σ' 57 = (.float .f32 p1r3) := hD 52 rfl
    have t59 : σ' 59 = (.float .f32 p1r0) := hD 54 rfl
    have t61 : σ' 61 = (.float .f32 p1r1) := hD 56 rfl
    refine dg_op rfl (d_bd (vs := [(0, .float .f32 p1r2), (1, .float .f32 p1r3), (2, .float .f32 p1r0), (3, .float .f32 p1r1)]) (cs := #[.float .f32 p1r2, .float .f32 p1r3, .float .f32 p1r0, .float .f32 p1r1]) (pc t55 (pc t57 (pc t59 (pc t61 rfl)))) (by kernel_rfl) ?_)
    exact ⟨rfl, own_none (Ext.refl w')⟩
  · skip
    refine ⟨fun _ _ _ _ _ _ h _ => h, fun _ _ h _ => h, fun σ' w' hA hE hD hP => ?_⟩
    refine dg_op rfl (d_bd (vs := [(0, .float .f32 3212836864), (1, .float .f32 1065353216), (2, .float .f32 1065353216)]) (cs := #[.float .f32 3212836864, .float .f32 1065353216, .float .f32 1065353216]) (pc rfl (pc rfl (pc rfl rfl))) (by kernel_rfl) ?_)
    exact ⟨rfl, own_none (Ext.refl w')⟩
  · skip
    refine ⟨fun _ _ _ _ _ _ h _ => h, fun _ _ h _ => h, fun σ' w' hA hE hD hP => ?_⟩
    have t53 : σ' 53 = (.agg #[.float .f32 p0r0, .float .f32 p0r1, .float .f32 p0r2, .float .f32 p0r3]) := hD 48 rfl
    have t62 : σ' 62 = (.agg #[.float .f32 p1r2, .float .f32 p1r3, .float .f32 p1r0, .float .f32 p1r1]) := hD 57 rfl
    have t63 : σ' 63 = (.agg #[.float .f32 3212836864, .float .f32 1065353216, .float .f32 1065353216]) := hD 58 rfl
    refine dg_op rfl (d_cl (vs := [.agg #[.float .f32 p0r0, .float .f32 p0r1, .float .f32 p0r2, .float .f32 p0r3], .agg #[.float .f32 p1r2, .float .f32 p1r3, .float .f32 p1r0, .float .f32 p1r1], .agg #[.float .f32 3212836864, .float .f32 1065353216, .float .f32 1065353216]]) en116 (ac t53 (ac t62 (ac t63 rfl))) rfl ?_)
    refine (c116 (⟨p0.w, p0.x, p0.y, p0.z⟩ : Arr4Nat) (⟨p1.y, p1.z, p1.w, p1.x⟩ : Arr4Nat) (⟨3212836864, 1065353216, 1065353216⟩ : Arr3Nat) p0r0 p0r1 p0r2 p0r3 p1r2 p1r3 p1r0 p1r1 3212836864 1065353216 1065353216 m19 w' hm19 p0h0 p0h1 p0h2 p0h3 p1h2 p1h3 p1h0 p1h1 cn_f32_3212836864 cn_f32_1065353216 cn_f32_1065353216).mono ?_
    rintro _ w73 ⟨q73_0r, rfl, q73_0h, E73⟩
    refine ⟨_, rfl, ?_⟩
    have X74 : Ext w' w73 := (Ext.refl w').trans E73
    exact ⟨⟨q73_0r, rfl, q73_0h⟩, own_none X74⟩
  · skip
    refine ⟨fun _ _ _ _ _ _ h _ => h, fun _ _ h _ => h, fun σ' w' hA hE hD hP => ?_⟩
    have t2 : σ' 2 = .pointer (some ⟨w.heap.size, 0, none⟩) := (hA 2 rfl).trans rfl
    have B0_75 : w'.heap[w.heap.size]? = some (.cells #[.float .f32 p0r0, .float .f32 p0r1, .float .f32 p0r2, .float .f32 p0r3] 30 (0, 0)) := hE.heap (not_oth1 sp11) B15
    refine dg_op rfl (d_fieldAddr t2 (fa30_0 _ _) ?_)
    exact ⟨rfl, own_none (Ext.refl w')⟩
  · skip
    refine ⟨fun _ _ _ _ _ _ h _ => h, fun _ _ h _ => h, fun σ' w' hA hE hD hP => ?_⟩
    have t65 : σ' 65 = (.pointer (some ⟨w.heap.size, 0, none⟩)) := hD 60 rfl
    have B0_76 : w'.heap[w.heap.size]? = some (.cells #[.float .f32 p0r0, .float .f32 p0r1, .float .f32 p0r2, .float .f32 p0r3] 30 (0, 0)) := hE.heap (not_oth1 sp11) B15
    refine dg_op rfl (d_load (v := .float .f32 p0r0) t65 agg22 B0_76 rfl ?_)
    exact ⟨rfl, own_none (Ext.refl w')⟩
  · skip
    refine ⟨fun _ _ _ _ _ _ h _ => h, fun _ _ h _ => h, fun σ' w' hA hE hD hP => ?_⟩
    have t2 : σ' 2 = .pointer (some ⟨w.heap.size, 0, none⟩) := (hA 2 rfl).trans rfl
    have B0_77 : w'.heap[w.heap.size]? = some (.cells #[.float .f32 p0r0, .float .f32 p0r1, .float .f32 p0r2, .float .f32 p0r3] 30 (0, 0)) := hE.heap (not_oth1 sp11) B15
    refine dg_op rfl (d_fieldAddr t2 (fa30_1 _ _) ?_)
    exact ⟨rfl, own_none (Ext.refl w')⟩
  · skip
    refine ⟨fun _ _ _ _ _ _ h _ => h, fun _ _ h _ => h, fun σ' w' hA hE hD hP => ?_⟩
    have t67 : σ' 67 = (.pointer (some ⟨w.heap.size, 1, none⟩)) := hD 62 rfl
    have B0_78 : w'.heap[w.heap.size]? = some (.cells #[.float .f32 p0r0, .float .f32 p0r1, .float .f32 p0r2, .float .f32 p0r3] 30 (0, 0)) := hE.heap (not_oth1 sp11) B15
    refine dg_op rfl (d_load (v := .float .f32 p0r1) t67 agg22 B0_78 rfl ?_)
    exact ⟨rfl, own_none (Ext.refl w')⟩
  · skip
    refine ⟨fun _ _ _ _ _ _ h _ => h, fun _ _ h _ => h, fun σ' w' hA hE hD hP => ?_⟩
    have t2 : σ' 2 = .pointer (some ⟨w.heap.size, 0, none⟩) := (hA 2 rfl).trans rfl
    have B0_79 : w'.heap[w.heap.size]? = some (.cells #[.float .f32 p0r0, .float .f32 p0r1, .float .f32 p0r2, .float .f32 p0r3] 30 (0, 0)) := hE.heap (not_oth1 sp11) B15
    refine dg_op rfl (d_fieldAddr t2 (fa30_2 _ _) ?_)
    exact ⟨rfl, own_none (Ext.refl w')⟩
  · skip
    refine ⟨fun _ _ _ _ _ _ h _ => h, fun _ _ h _ => h, fun σ' w' hA hE hD hP => ?_⟩
    have t69 : σ' 69 = (.pointer (some ⟨w.heap.size, 2, none⟩)) := hD 64 rfl
    have B0_80 : w'.heap[w.heap.size]? = some (.cells #[.float .f32 p0r0, .float .f32 p0r1, .float .f32 p0r2, .float .f32 p0r3] 30 (0, 0)) := hE.heap (not_oth1 sp11) B15
    refine dg_op rfl (d_load (v := .float .f32 p0r2) t69 agg22 B0_80 rfl ?_)
    exact ⟨rfl, own_none (Ext.refl w')⟩
  · skip
    refine ⟨fun _ _ _ _ _ _ h _ => h, fun _ _ h _ => h, fun σ' w' hA hE hD hP => ?_⟩
    have t2 : σ' 2 = .pointer (some ⟨w.heap.size, 0, none⟩) := (hA 2 rfl).trans rfl
    have B0_81 : w'.heap[w.heap.size]? = some (.cells #[.float .f32 p0r0, .float .f32 p0r1, .float .f32 p0r2, .float .f32 p0r3] 30 (0, 0)) := hE.heap (not_oth1 sp11) B15
    refine dg_op rfl (d_fieldAddr t2 (fa30_3 _ _) ?_)
    exact ⟨rfl, own_none (Ext.refl w')⟩
  · skip
    refine ⟨fun _ _ _ _ _ _ h _ => h, fun _ _ h _ => h, fun σ' w' hA hE hD hP => ?_⟩
    have t71 : σ' 71 = (.pointer (some ⟨w.heap.size, 3, none⟩)) := hD 66 rfl
    have B0_82 : w'.heap[w.heap.size]? = some (.cells #[.float .f32 p0r0, .float .f32 p0r1, .float .f32 p0r2, .float .f32 p0r3] 30 (0, 0)) := hE.heap (not_oth1 sp11) B15
    refine dg_op rfl (d_load (v := .float .f32 p0r3) t71 agg22 B0_82 rfl ?_)
    exact ⟨rfl, own_none (Ext.refl w')⟩
  · skip
    refine ⟨fun _ _ _ _ _ _ h _ => h, fun _ _ h _ => h, fun σ' w' hA hE hD hP => ?_⟩
    have t66 : σ' 66 = (.float .f32 p0r0) := hD 61 rfl
    have t68 : σ' 68 = (.float .f32 p0r1) := hD 63 rfl
    have t70 : σ' 70 = (.float .f32 p0r2) := hD 65 rfl
    have t72 : σ' 72 = (.float .f32 p0r3) := hD 67 rfl
    refine dg_op rfl (d_bd (vs := [(0, .float .f32 p0r0), (1, .float .f32 p0r1), (2, .float .f32 p0r2), (3, .float .f32 p0r3)]) (cs := #[.float .f32 p0r0, .float .f32 p0r1, .float .f32 p0r2, .float .f32 p0r3]) (pc t66 (pc t68 (pc t70 (pc t72 rfl)))) (by kernel_rfl) ?_)
    exact ⟨rfl, own_none (Ext.refl w')⟩
  · skip
    refine ⟨fun _ _ _ _ _ _ h _ => h, fun _ _ h _ => h, fun σ' w' hA hE hD hP => ?_⟩
    have t3 : σ' 3 = .pointer (some ⟨w1.heap.size, 0, none⟩) := (hA 3 rfl).trans rfl
    have B0_83 : w'.heap[w1.heap.size]? = some (.cells #[.float .f32 p1r0, .float .f32 p1r1, .float .f32 p1r2, .float .f32 p1r3] 30 (0, 0)) := hE.heap (not_oth1 sp12) B16
    refine dg_op rfl (d_fieldAddr t3 (fa30_3 _ _) ?_)
    exact ⟨rfl, own_none (Ext.refl w')⟩
  · skip
    refine ⟨fun _ _ _ _ _ _ h _ => h, fun _ _ h _ => h, fun σ' w' hA hE hD hP => ?_⟩
    have t74 : σ' 74 = (.pointer (some ⟨w1.heap.size, 3, none⟩)) := hD 69 rfl
    have B0_84 : w'.heap[w1.heap.size]? = some (.cells #[.float .f32 p1r0, .float .f32 p1r1, .float .f32 p1r2, .float .f32 p1r3] 30 (0, 0)) := hE.heap (not_oth1 sp12) B16
    refine dg_op rfl (d_load (v := .float .f32 p1r3) t74 agg22 B0_84 rfl ?_)
    exact ⟨rfl, own_none (Ext.refl w')⟩
  · skip
    refine ⟨fun _ _ _ _ _ _ h _ => h, fun _ _ h _ => h, fun σ' w' hA hE hD hP => ?_⟩
    have t3 : σ' 3 = .pointer (some ⟨w1.heap.size, 0, none⟩) := (hA 3 rfl).trans rfl
    have B0_85 : w'.heap[w1.heap.size]? = some (.cells #[.float .f32 p1r0, .float .f32 p1r1, .float .f32 p1r2, .float .f32 p1r3] 30 (0, 0)) := hE.heap (not_oth1 sp12) B16
    refine dg_op rfl (d_fieldAddr t3 (fa30_2 _ _) ?_)
    exact ⟨rfl, own_none (Ext.refl w')⟩
  · skip
    refine ⟨fun _ _ _ _ _ _ h _ => h, fun _ _ h _ => h, fun σ' w' hA hE hD hP => ?_⟩
    have t76 : σ' 76 = (.pointer (some ⟨w1.heap.size, 2, none⟩)) := hD 71 rfl
    have B0_86 : w'.heap[w1.heap.size]? = some (.cells #[.float .f32 p1r0, .float .f32 p1r1, .float .f32 p1r2, .float .f32 p1r3] 30 (0, 0)) := hE.heap (not_oth1 sp12) B16
    refine dg_op rfl (d_load (v := .float .f32 p1r2) t76 agg22 B0_86 rfl ?_)
    exact ⟨rfl, own_none (Ext.refl w')⟩
  · skip
    refine ⟨fun _ _ _ _ _ _ h _ => h, fun _ _ h _ => h, fun σ' w' hA hE hD hP => ?_⟩
    have t3 : σ' 3 = .pointer (some ⟨w1.heap.size, 0, none⟩) := (hA 3 rfl).trans rfl
    have B0_87 : w'.heap[w1.heap.size]? = some (.cells #[.float .f32 p1r0, .float .f32 p1r1, .float .f32 p1r2, .float .f32 p1r3] 30 (0, 0)) := hE.heap (not_oth1 sp12) B16
    refine dg_op rfl (d_fieldAddr t3 (fa30_1 _ _) ?_)
    exact ⟨rfl, own_none (Ext.refl w')⟩
  · skip
    refine ⟨fun _ _ _ _ _ _ h _ => h, fun _ _ h _ => h, fun σ' w' hA hE hD hP => ?_⟩
    have t78 : σ' 78 = (.pointer (some ⟨w1.heap.size, 1, none⟩)) := hD 73 rfl
    have B0_88 : w'.heap[w1.heap.size]? = some (.cells #[.float .f32 p1r0, .float .f32 p1r1, .float .f32 p1r2, .float .f32 p1r3] 30 (0, 0)) := hE.heap (not_oth1 sp12) B16
    refine dg_op rfl (d_load (v := .float .f32 p1r1) t78 agg22 B0_88 rfl ?_)
    exact ⟨rfl, own_none (Ext.refl w')⟩
  · skip
    refine ⟨fun _ _ _ _ _ _ h _ => h, fun _ _ h _ => h, fun σ' w' hA hE hD hP => ?_⟩
    have t3 : σ' 3 = .pointer (some ⟨w1.heap.size, 0, none⟩) := (hA 3 rfl).trans rfl
    have B0_89 : w'.heap[w1.heap.size]? = some (.cells #[.float .f32 p1r0, .float .f32 p1r1, .float .f32 p1r2, .float .f32 p1r3] 30 (0, 0)) := hE.heap (not_oth1 sp12) B16
    refine dg_op rfl (d_fieldAddr t3 (fa30_0 _ _) ?_)
    exact ⟨rfl, own_none (Ext.refl w')⟩
  · skip
    refine ⟨fun _ _ _ _ _ _ h _ => h, fun _ _ h _ => h, fun σ' w' hA hE hD hP => ?_⟩
    have t80 : σ' 80 = (.pointer (some ⟨w1.heap.size, 0, none⟩)) := hD 75 rfl
    have B0_90 : w'.heap[w1.heap.size]? = some (.cells #[.float .f32 p1r0, .float .f32 p1r1, .float .f32 p1r2, .float .f32 p1r3] 30 (0, 0)) := hE.heap (not_oth1 sp12) B16
    refine dg_op rfl (d_load (v := .float .f32 p1r0) t80 agg22 B0_90 rfl ?_)
    exact ⟨rfl, own_none (Ext.refl w')⟩
  · skip
    refine ⟨fun _ _ _ _ _ _ h _ => h, fun _ _ h _ => h, fun σ' w' hA hE hD hP => ?_⟩
    have t75 : σ' 75 = (.float .f32 p1r3) := hD 70 rfl
    have t77 : σ' 77 = (.float .f32 p1r2) := hD 72 rfl
    have t79 : σ' 79 = (.float .f32 p1r1) := hD 74 rfl
    have t81 : σ' 81 = (.float .f32 p1r0) := hD 76 rfl
    refine dg_op rfl (d_bd (vs := [(0, .float .f32 p1r3), (1, .float .f32 p1r2), (2, .float .f32 p1r1), (3, .float .f32 p1r0)]) (cs := #[.float .f32 p1r3, .float .f32 p1r2, .float .f32 p1r1, .float .f32 p1r0]) (pc t75 (pc t77 (pc t79 (pc t81 rfl)))) (by kernel_rfl) ?_)
    exact ⟨rfl, own_none (Ext.refl w')⟩
  · skip
    refine ⟨fun _ _ _ _ _ _ h _ => h, fun _ _ h _ => h, fun σ' w' hA hE hD hP => ?_⟩
    refine dg_op rfl (d_bd (vs := [(0, .float .f32 1065353216), (1, .float .f32 3212836864), (2, .float .f32 1065353216)]) (cs := #[.float .f32 1065353216, .float .f32 3212836864, .float .f32 1065353216]) (pc rfl (pc rfl (pc rfl rfl))) (by kernel_rfl) ?_)
    exact ⟨rfl, own_none (Ext.refl w')⟩
  · skip
    refine ⟨fun _ _ _ _ _ _ h _ => h, fun _ _ h _ => h, fun σ' w' hA hE hD hP => ?_⟩
    have t73 : σ' 73 = (.agg #[.float .f32 p0r0, .float .f32 p0r1, .float .f32 p0r2, .float .f32 p0r3]) := hD 68 rfl
    have t82 : σ' 82 = (.agg #[.float .f32 p1r3, .float .f32 p1r2, .float .f32 p1r1, .float .f32 p1r0]) := hD 77 rfl
    have t83 : σ' 83 = (.agg #[.float .f32 1065353216, .float .f32 3212836864, .float .f32 1065353216]) := hD 78 rfl
    refine dg_op rfl (d_cl (vs := [.agg #[.float .f32 p0r0, .float .f32 p0r1, .float .f32 p0r2, .float .f32 p0r3], .agg #[.float .f32 p1r3, .float .f32 p1r2, .float .f32 p1r1, .float .f32 p1r0], .agg #[.float .f32 1065353216, .float .f32 3212836864, .float .f32 1065353216]]) en116 (ac t73 (ac t82 (ac t83 rfl))) rfl ?_)
    refine (c116 (⟨p0.w, p0.x, p0.y, p0.z⟩ : Arr4Nat) (⟨p1.z, p1.y, p1.x, p1.w⟩ : Arr4Nat) (⟨1065353216, 3212836864, 1065353216⟩ : Arr3Nat) p0r0 p0r1 p0r2 p0r3 p1r3 p1r2 p1r1 p1r0 1065353216 3212836864 1065353216 m20 w' hm20 p0h0 p0h1 p0h2 p0h3 p1h3 p1h2 p1h1 p1h0 cn_f32_1065353216 cn_f32_3212836864 cn_f32_1065353216).mono ?_
    rintro _ w91 ⟨q91_0r, rfl, q91_0h, E91⟩
    refine ⟨_, rfl, ?_⟩
    have X92 : Ext w' w91 := (Ext.refl w').trans E91
    exact ⟨⟨q91_0r, rfl, q91_0h⟩, own_none X92⟩
  · skip
    refine ⟨fun _ _ _ _ _ _ h _ => h, fun _ _ h _ => h, fun σ' w' hA hE hD hP => ?_⟩
    obtain ⟨d14_19_0r, t24, d14_19_0h⟩ : ∃ d14_19_0r : Nat, σ' 24 = (.float .f32 d14_19_0r) ∧ cn .f32 d14_19_0r = m17 := hD 19 rfl
    obtain ⟨d14_39_0r, t44, d14_39_0h⟩ : ∃ d14_39_0r : Nat, σ' 44 = (.float .f32 d14_39_0r) ∧ cn .f32 d14_39_0r = m18 := hD 39 rfl
    obtain ⟨d14_59_0r, t64, d14_59_0h⟩ : ∃ d14_59_0r : Nat, σ' 64 = (.float .f32 d14_59_0r) ∧ cn .f32 d14_59_0r = m19 := hD 59 rfl
    obtain ⟨d14_79_0r, t84, d14_79_0h⟩ : ∃ d14_79_0r : Nat, σ' 84 = (.float .f32 d14_79_0r) ∧ cn .f32 d14_79_0r = m20 := hD 79 rfl
    refine dg_op rfl (d_bd (vs := [(0, .float .f32 d14_19_0r), (1, .float .f32 d14_39_0r), (2, .float .f32 d14_59_0r), (3, .float .f32 d14_79_0r)]) (cs := #[.float .f32 d14_19_0r, .float .f32 d14_39_0r, .float .f32 d14_59_0r, .float .f32 d14_79_0r]) (pc t24 (pc t44 (pc t64 (pc t84 rfl)))) (by kernel_rfl) ?_)
    exact ⟨⟨d14_19_0r, d14_39_0r, d14_59_0r, d14_79_0r, rfl, d14_19_0h, d14_39_0h, d14_59_0h, d14_79_0h⟩, own_none (Ext.refl w')⟩
  · skip
    refine ⟨fun _ _ _ w' w'' _ ⟨d14_19_0r, d14_39_0r, d14_59_0r, d14_79_0r, hB, d14_19_0h, d14_39_0h, d14_59_0h, d14_79_0h⟩ hF => ⟨d14_19_0r, d14_39_0r, d14_59_0r, d14_79_0r, hF.heap not_oth1s hB, d14_19_0h, d14_39_0h, d14_59_0h, d14_79_0h⟩, fun _ _ h hF => hF.heap not_oth1s h, fun σ' w' hA hE hD hP => ?_⟩
    have t4 : σ' 4 = .pointer (some ⟨w4.heap.size, 0, none⟩) := (hA 4 rfl).trans rfl
    obtain ⟨d14_19_0r, d14_39_0r, d14_59_0r, d14_79_0r, t85, d14_19_0h, d14_39_0h, d14_59_0h, d14_79_0h⟩ : ∃ d14_19_0r : Nat, ∃ d14_39_0r : Nat, ∃ d14_59_0r : Nat, ∃ d14_79_0r : Nat, σ' 85 = (.agg #[.float .f32 d14_19_0r, .float .f32 d14_39_0r, .float .f32 d14_59_0r, .float .f32 d14_79_0r]) ∧ cn .f32 d14_19_0r = m17 ∧ cn .f32 d14_39_0r = m18 ∧ cn .f32 d14_59_0r = m19 ∧ cn .f32 d14_79_0r = m20 := hD 80 rfl
    have B0_93 : w'.heap[w4.heap.size]? = some (.cells #[.float .f32 0, .float .f32 0, .float .f32 0, .float .f32 0] 30 (0, 0)) := (hP 81 _ _ rfl rfl (.inl rfl)).1
    refine dg_op rfl (d_store (vs := #[.float .f32 d14_19_0r, .float .f32 d14_39_0r, .float .f32 d14_59_0r, .float .f32 d14_79_0r]) t4 (congrArg Value.cells t85) B0_93 size30 (Nat.le_of_ble_eq_true rfl) rfl fun w94 S94 => ?_)
    have B95 : w94.heap[w4.heap.size]? = some (.cells #[.float .f32 d14_19_0r, .float .f32 d14_39_0r, .float .f32 d14_59_0r, .float .f32 d14_79_0r] 30 (0, 0)) := S94.here
    exact ⟨⟨d14_19_0r, d14_39_0r, d14_59_0r, d14_79_0r, B95, d14_19_0h, d14_39_0h, d14_59_0h, d14_79_0h⟩, own_some (j := 0) rfl S94.frmb⟩
  · skip
    intro σ14 w14 A14 E14 V14
    obtain ⟨z14_m0_19_0r, z14_m0_39_0r, z14_m0_59_0r, z14_m0_79_0r, Bm0_14, z14_m0_19_0h, z14_m0_39_0h, z14_m0_59_0h, z14_m0_79_0h⟩ : ∃ z14_m0_19_0r : Nat, ∃ z14_m0_39_0r : Nat, ∃ z14_m0_59_0r : Nat, ∃ z14_m0_79_0r : Nat, w14.heap[w4.heap.size]? = some (.cells #[.float .f32 z14_m0_19_0r, .float .f32 z14_m0_39_0r, .float .f32 z14_m0_59_0r, .float .f32 z14_m0_79_0r] 30 (0, 0)) ∧ cn .f32 z14_m0_19_0r = m17 ∧ cn .f32 z14_m0_39_0r = m18 ∧ cn .f32 z14_m0_59_0r = m19 ∧ cn .f32 z14_m0_79_0r = m20 := V14 81 (Nat.le_of_ble_eq_true rfl)
    have s4_14 : σ14 4 = .pointer (some ⟨w4.heap.size, 0, none⟩) := (A14 4 rfl).trans rfl
    have X96 : Ext w w14 := Ext.step X13 E14 (oth_own1 (fun k _ hk => hk ▸ own10))
    refine W_ret ?_
    subst hr
    refine ⟨_, res1 (rv_cells (vs := #[.float .f32 z14_m0_19_0r, .float .f32 z14_m0_39_0r, .float .f32 z14_m0_59_0r, .float .f32 z14_m0_79_0r]) s4_14 agg30 size30 Bm0_14 rfl), ?_⟩
    exact ⟨z14_m0_19_0r, z14_m0_39_0r, z14_m0_59_0r, z14_m0_79_0r, rfl, z14_m0_19_0h, z14_m0_39_0h, z14_m0_59_0h, z14_m0_79_0h, X96⟩
set_option maxHeartbeats 4000000 in
theorem c97 (p0 : SSpin) (p1 : SSpin) (p2 : Nat) (p0r0 : Nat) (p0r1 : Nat) (p0r2 : Nat) (p0r3 : Nat) (p1r0 : Nat) (p1r1 : Nat) (p1r2 : Nat) (p1r3 : Nat) (p2r : Nat) (r : SSpin) (w : World) (hr : M.impl_along p0 p1 p2 = r) (p0h0 : cn .f32 p0r0 = p0.w) (p0h1 : cn .f32 p0r1 = p0.x) (p0h2 : cn .f32 p0r2 = p0.y) (p0h3 : cn .f32 p0r3 = p0.z) (p1h0 : cn .f32 p1r0 = p1.w) (p1h1 : cn .f32 p1r1 = p1.x) (p1h2 : cn .f32 p1r2 = p1.y) (p1h3 : cn .f32 p1r3 = p1.z) (p2h : cn .f32 p2r = p2) :
    Calls Try.prog 97 #[.agg #[.float .f32 p0r0, .float .f32 p0r1, .float .f32 p0r2, .float .f32 p0r3], .agg #[.float .f32 p1r0, .float .f32 p1r1, .float .f32 p1r2, .float .f32 p1r3], .float .f32 p2r] w fun e w' => ∃ q0r0 : Nat, ∃ q0r1 : Nat, ∃ q0r2 : Nat, ∃ q0r3 : Nat, e = .returned (.agg #[.float .f32 q0r0, .float .f32 q0r1, .float .f32 q0r2, .float .f32 q0r3]) ∧ cn .f32 q0r0 = r.w ∧ cn .f32 q0r1 = r.x ∧ cn .f32 q0r2 = r.y ∧ cn .f32 q0r3 = r.z ∧ Ext w w' := by
  refine calls_of_W Try.func97 rfl (Nat.le_of_ble_eq_true rfl) ?_
  refine W_seq ?_
  refine W_region rfl ?_
  refine da_op rfl (d_box (cs := #[.float .f32 p0r0, .float .f32 p0r1, .float .f32 p0r2, .float .f32 p0r3]) rfl fun w1 B1 E1 => ?_)
  have own2 : w.heap.size ≤ w.heap.size := Nat.le_trans (Ext.refl w).size (Nat.le_refl _)
  have X3 : Ext w w1 := (Ext.refl w).trans E1
  refine da_op rfl (d_box (cs := #[.float .f32 p1r0, .float .f32 p1r1, .float .f32 p1r2, .float .f32 p1r3]) rfl fun w4 B4 E4 => ?_)
  have own5 : w.heap.size ≤ w1.heap.size := Nat.le_trans X3.size (Nat.le_refl _)
  have sp6 : w.heap.size ≠ w1.heap.size := Nat.ne_of_lt (Nat.lt_of_lt_of_le (lt_heap B1) (Nat.le_refl _))
  have X7 : Ext w w4 := X3.trans E4
  have B9 : w4.heap[w.heap.size]? = some (.cells #[.float .f32 p0r0, .float .f32 p0r1, .float .f32 p0r2, .float .f32 p0r3] 30 (0, 0)) := E4.heap B1
  refine da_op rfl (d_alloc (cs := #[.float .f32 0, .float .f32 0, .float .f32 0, .float .f32 0]) zero30 rfl fun w8 B8 E8 => ?_)
  have own10 : w.heap.size ≤ w4.heap.size := Nat.le_trans X7.size (Nat.le_refl _)
  have sp11 : w.heap.size ≠ w4.heap.size := Nat.ne_of_lt (Nat.lt_of_lt_of_le (lt_heap B9) (Nat.le_refl _))
  have sp12 : w1.heap.size ≠ w4.heap.size := Nat.ne_of_lt (Nat.lt_of_lt_of_le (lt_heap B4) (Nat.le_refl _))
  have X13 : Ext w w8 := X7.trans E8
  refine da_nil ?_
  refine W_seq ?_
  refine W_region rfl ?_
  refine da_op rfl (d_fieldAddr rfl (fa30_0 _ _) ?_)
  have B14 : w8.heap[w.heap.size]? = some (.cells #[.float .f32 p0r0, .float .f32 p0r1, .float .f32 p0r2, .float .f32 p0r3] 30 (0, 0)) := E8.heap B9
  refine da_op rfl (d_load (v := .float .f32 p0r0) rfl agg22 B14 rfl ?_)
  refine da_op rfl (d_mv (v := .float .f32 p2r) rfl ?_)
  refine da_op rfl (d_fieldAddr rfl (fa30_0 _ _) ?_)
  have B15 : w8.heap[w1.heap.size]? = some (.cells #[.float .f32 p1r0, .float .f32 p1r1, .float .f32 p1r2, .float .f32 p1r3] 30 (0, 0)) := E8.heap B4
  refine da_op rfl (d_load (v := .float .f32 p1r0) rfl agg22 B15 rfl ?_)
  refine da_op rfl (d_fop (k := .f32) fMul rfl rfl p2h p1h0 fun r16 w16 h16 _ E16 => ?_)
  have X17 : Ext w w16 := X13.trans E16
  refine da_op rfl (d_fop (k := .f32) fAdd rfl rfl p0h0 h16 fun r18 w18 h18 _ E18 => ?_)
  have X19 : Ext w w18 := X17.trans E18
  refine da_op rfl (d_fieldAddr rfl (fa30_1 _ _) ?_)
  have B20 : w18.heap[w.heap.size]? = some (.cells #[.float .f32 p0r0, .float .f32 p0r1, .float .f32 p0r2, .float .f32 p0r3] 30 (0, 0)) := E18.heap (E16.heap B14)
  refine da_op rfl (d_load (v := .float .f32 p0r1) rfl agg22 B20 rfl ?_)
  refine da_op rfl (d_mv (v := .float .f32 p2r) rfl ?_)
  refine da_op rfl (d_fieldAddr rfl (fa30_1 _ _) ?_)
  have B21 : w18.heap[w1.heap.size]? = some (.cells #[.float .f32 p1r0, .float .f32 p1r1, .float .f32 p1r2, .float .f32 p1r3] 30 (0, 0)) := E18.heap (E16.heap B15)
  refine da_op rfl (d_load (v := .float .f32 p1r1) rfl agg22 B21 rfl ?_)
  refine da_op rfl (d_fop (k := .f32) fMul rfl rfl p2h p1h1 fun r22 w22 h22 _ E22 => ?_)
  have X23 : Ext w w22 := X19.trans E22
  refine da_op rfl (d_fop (k := .f32) fAdd rfl rfl p0h1 h22 fun r24 w24 h24 _ E24 => ?_)
  have X25 : Ext w w24 := X23.trans E24
  refine da_op rfl (d_fieldAddr rfl (fa30_2 _ _) ?_)
  have B26 : w24.heap[w.heap.size]? = some (.cells #[.float .f32 p0r0, .float .f32 p0r1, .float .f32 p0r2, .float .f32 p0r3] 30 (0, 0)) := E24.heap (E22.heap B20)
  refine da_op rfl (d_load (v := .float .f32 p0r2) rfl agg22 B26 rfl ?_)
  refine da_op rfl (d_mv (v := .float .f32 p2r) rfl ?_)
  refine da_op rfl (d_fieldAddr rfl (fa30_2 _ _) ?_)
  have B27 : w24.heap[w1.heap.size]? = some (.cells #[.float .f32 p1r0, .float .f32 p1r1, .float .f32 p1r2, .float .f32 p1r3] 30 (0, 0)) := E24.heap (E22.heap B21)
  refine da_op rfl (d_load (v := .float .f32 p1r2) rfl agg22 B27 rfl ?_)
  refine da_op rfl (d_fop (k := .f32) fMul rfl rfl p2h p1h2 fun r28 w28 h28 _ E28 => ?_)
  have X29 : Ext w w28 := X25.trans E28
  refine da_op rfl (d_fop (k := .f32) fAdd rfl rfl p0h2 h28 fun r30 w30 h30 _ E30 => ?_)
  have X31 : Ext w w30 := X29.trans E30
  refine da_op rfl (d_fieldAddr rfl (fa30_3 _ _) ?_)
  have B32 : w30.heap[w.heap.size]? = some (.cells #[.float .f32 p0r0, .float .f32 p0r1, .float .f32 p0r2, .float .f32 p0r3] 30 (0, 0)) := E30.heap (E28.heap B26)
  refine da_op rfl (d_load (v := .float .f32 p0r3) rfl agg22 B32 rfl ?_)
  refine da_op rfl (d_mv (v := .float .f32 p2r) rfl ?_)
  refine da_op rfl (d_fieldAddr rfl (fa30_3 _ _) ?_)
  have B33 : w30.heap[w1.heap.size]? = some (.cells #[.float .f32 p1r0, .float .f32 p1r1, .float .f32 p1r2, .float .f32 p1r3] 30 (0, 0)) := E30.heap (E28.heap B27)
  refine da_op rfl (d_load (v := .float .f32 p1r3) rfl agg22 B33 rfl ?_)
  refine da_op rfl (d_fop (k := .f32) fMul rfl rfl p2h p1h3 fun r34 w34 h34 _ E34 => ?_)
  have X35 : Ext w w34 := X31.trans E34
  refine da_op rfl (d_fop (k := .f32) fAdd rfl rfl p0h3 h34 fun r36 w36 h36 _ E36 => ?_)
  have X37 : Ext w w36 := X35.trans E36
  refine da_op rfl (d_bd (vs := [(0, .float .f32 r18), (1, .float .f32 r24), (2, .float .f32 r30), (3, .float .f32 r36)]) (cs := #[.float .f32 r18, .float .f32 r24, .float .f32 r30, .float .f32 r36]) (pc rfl (pc rfl (pc rfl (pc rfl rfl)))) (by kernel_rfl) ?_)
  have B38 : w36.heap[w4.heap.size]? = some (.cells #[.float .f32 0, .float .f32 0, .float .f32 0, .float .f32 0] 30 (0, 0)) := E36.heap (E34.heap (E30.heap (E28.heap (E24.heap (E22.heap (E18.heap (E16.heap B8)))))))
  refine da_op rfl (d_store (vs := #[.float .f32 r18, .float .f32 r24, .float .f32 r30, .float .f32 r36]) rfl rfl B38 size30 (Nat.le_of_ble_eq_true rfl) rfl fun w39 S39 => ?_)
  have X40 : Ext w w39 := Ext.step X37 S39.frmb (fun k _ hk => hk ▸ own10)
  have B41 : w39.heap[w4.heap.size]? = some (.cells #[.float .f32 r18, .float .f32 r24, .float .f32 r30, .float .f32 r36] 30 (0, 0)) := S39.here
  refine da_nil ?_
  refine W_ret ?_
  subst hr
  refine ⟨_, res1 (rv_cells (vs := #[.float .f32 r18, .float .f32 r24, .float .f32 r30, .float .f32 r36]) rfl agg30 size30 B41 rfl), ?_⟩
  exact ⟨r18, r24, r30, r36, rfl, h18, h24, h30, h36, X40⟩
set_option maxHeartbeats 4000000 in
theorem c129 (p0 : SSpin) (p1 : SSpin) (p0r0 : Nat) (p0r1 : Nat) (p0r2 : Nat) (p0r3 : Nat) (p1r0 : Nat) (p1r1 : Nat) (p1r2 : Nat) (p1r3 : Nat) (r : Nat) (w : World) (hr : M.impl_products p0 p1 = r) (p0h0 : cn .f32 p0r0 = p0.w) (p0h1 : cn .f32 p0r1 = p0.x) (p0h2 : cn .f32 p0r2 = p0.y) (p0h3 : cn .f32 p0r3 = p0.z) (p1h0 : cn .f32 p1r0 = p1.w) (p1h1 : cn .f32 p1r1 = p1.x) (p1h2 : cn .f32 p1r2 = p1.y) (p1h3 : cn .f32 p1r3 = p1.z) :
    Calls Try.prog 129 #[.agg #[.float .f32 p0r0, .float .f32 p0r1, .float .f32 p0r2, .float .f32 p0r3], .agg #[.float .f32 p1r0, .float .f32 p1r1, .float .f32 p1r2, .float .f32 p1r3]] w fun e w' => ∃ q0r : Nat, e = .returned (.float .f32 q0r) ∧ cn .f32 q0r = r ∧ Ext w w' := by
  refine calls_of_W Try.func129 rfl (Nat.le_of_ble_eq_true rfl) ?_
  refine W_seq ?_
  refine W_region rfl ?_
  refine da_op rfl (d_box (cs := #[.float .f32 p0r0, .float .f32 p0r1, .float .f32 p0r2, .float .f32 p0r3]) rfl fun w1 B1 E1 => ?_)
  have own2 : w.heap.size ≤ w.heap.size := Nat.le_trans (Ext.refl w).size (Nat.le_refl _)
  have X3 : Ext w w1 := (Ext.refl w).trans E1
  refine da_op rfl (d_box (cs := #[.float .f32 p1r0, .float .f32 p1r1, .float .f32 p1r2, .float .f32 p1r3]) rfl fun w4 B4 E4 => ?_)
  have own5 : w.heap.size ≤ w1.heap.size := Nat.le_trans X3.size (Nat.le_refl _)
  have sp6 : w.heap.size ≠ w1.heap.size := Nat.ne_of_lt (Nat.lt_of_lt_of_le (lt_heap B1) (Nat.le_refl _))
  have X7 : Ext w w4 := X3.trans E4
  refine da_op rfl (d_as (v := .float .f32 0) rfl ?_)
  refine da_nil ?_
  refine W_seq ?_
  refine W_region rfl ?_
  refine da_op rfl (d_fieldAddr rfl (fa30_0 _ _) ?_)
  have B8 : w4.heap[w.heap.size]? = some (.cells #[.float .f32 p0r0, .float .f32 p0r1, .float .f32 p0r2, .float .f32 p0r3] 30 (0, 0)) := E4.heap B1
  refine da_op rfl (d_load (v := .float .f32 p0r0) rfl agg22 B8 rfl ?_)
  refine da_op rfl (d_fieldAddr rfl (fa30_0 _ _) ?_)
  refine da_op rfl (d_load (v := .float .f32 p1r0) rfl agg22 B4 rfl ?_)
  refine da_op rfl (d_fop (k := .f32) fMul rfl rfl p0h0 p1h0 fun r9 w9 h9 _ E9 => ?_)
  have X10 : Ext w w9 := X7.trans E9
  refine da_op rfl (d_fieldAddr rfl (fa30_1 _ _) ?_)
  have B11 : w9.heap[w.heap.size]? = some (.cells #[.float .f32 p0r0, .float .f32 p0r1, .float .f32 p0r2, .float .f32 p0r3] 30 (0, 0)) := E9.heap B8
  refine da_op rfl (d_load (v := .float .f32 p0r1) rfl agg22 B11 rfl ?_)
  refine da_op rfl (d_fieldAddr rfl (fa30_1 _ _) ?_)
  have B12 : w9.heap[w1.heap.size]? = some (.cells #[.float .f32 p1r0, .float .f32 p1r1, .float .f32 p1r2, .float .f32 p1r3] 30 (0, 0)) := E9.heap B4
  refine da_op rfl (d_load (v := .float .f32 p1r1) rfl agg22 B12 rfl ?_)
  refine da_op rfl (d_fop (k := .f32) fMul rfl rfl p0h1 p1h1 fun r13 w13 h13 _ E13 => ?_)
  have X14 : Ext w w13 := X10.trans E13
  refine da_op rfl (d_fop (k := .f32) fAdd rfl rfl h9 h13 fun r15 w15 h15 _ E15 => ?_)
  have X16 : Ext w w15 := X14.trans E15
  refine da_op rfl (d_fieldAddr rfl (fa30_2 _ _) ?_)
  have B17 : w15.heap[w.heap.size]? = some (.cells #[.float .f32 p0r0, .float .f32 p0r1, .float .f32 p0r2, .float .f32 p0r3] 30 (0, 0)) := E15.heap (E13.heap B11)
  refine da_op rfl (d_load (v := .float .f32 p0r2) rfl agg22 B17 rfl ?_)
  refine da_op rfl (d_fieldAddr rfl (fa30_2 _ _) ?_)
  have B18 : w15.heap[w1.heap.size]? = some (.cells #[.float .f32 p1r0, .float .f32 p1r1, .float .f32 p1r2, .float .f32 p1r3] 30 (0, 0)) := E15.heap (E13.heap B12)
  refine da_op rfl (d_load (v := .float .f32 p1r2) rfl agg22 B18 rfl ?_)
  refine da_op rfl (d_fop (k := .f32) fMul rfl rfl p0h2 p1h2 fun r19 w19 h19 _ E19 => ?_)
  have X20 : Ext w w19 := X16.trans E19
  refine da_op rfl (d_fop (k := .f32) fAdd rfl rfl h15 h19 fun r21 w21 h21 _ E21 => ?_)
  have X22 : Ext w w21 := X20.trans E21
  refine da_op rfl (d_fieldAddr rfl (fa30_3 _ _) ?_)
  have B23 : w21.heap[w.heap.size]? = some (.cells #[.float .f32 p0r0, .float .f32 p0r1, .float .f32 p0r2, .float .f32 p0r3] 30 (0, 0)) := E21.heap (E19.heap B17)
  refine da_op rfl (d_load (v := .float .f32 p0r3) rfl agg22 B23 rfl ?_)
  refine da_op rfl (d_fieldAddr rfl (fa30_3 _ _) ?_)
  have B24 : w21.heap[w1.heap.size]? = some (.cells #[.float .f32 p1r0, .float .f32 p1r1, .float .f32 p1r2, .float .f32 p1r3] 30 (0, 0)) := E21.heap (E19.heap B18)
  refine da_op rfl (d_load (v := .float .f32 p1r3) rfl agg22 B24 rfl ?_)
  refine da_op rfl (d_fop (k := .f32) fMul rfl rfl p0h3 p1h3 fun r25 w25 h25 _ E25 => ?_)
  have X26 : Ext w w25 := X22.trans E25
  refine da_op rfl (d_fop (k := .f32) fAdd rfl rfl h21 h25 fun r27 w27 h27 _ E27 => ?_)
  have X28 : Ext w w27 := X26.trans E27
  refine da_op rfl (d_as (v := .float .f32 r27) rfl ?_)
  refine da_nil ?_
  refine W_ret ?_
  subst hr
  refine ⟨_, res1 (rv_tmp rfl), ?_⟩
  exact ⟨r27, rfl, h27, X28⟩
set_option maxHeartbeats 4000000 in
theorem c128 (p0 : Nat) (p0r : Nat) (r : Nat) (w : World) (hr : M.impl_RootNumber p0 = r) (p0h : cn .f32 p0r = p0) :
    Calls Try.prog 128 #[.float .f32 p0r] w fun e w' => ∃ q0r : Nat, e = .returned (.float .f32 q0r) ∧ cn .f32 q0r = r ∧ Ext w w' := by
  refine calls_of_W Try.func128 rfl (Nat.le_of_ble_eq_true rfl) ?_
  refine W_seq ?_
  refine W_region rfl ?_
  refine da_op rfl (d_as (v := .float .f32 0) rfl ?_)
  refine da_nil ?_
  refine W_seq ?_
  refine W_region rfl ?_
  refine da_op rfl (d_mv (v := .float .f32 p0r) rfl ?_)
  refine da_op rfl (d_widen un22 un95 rfl p0h fun r1 w1 h1 _ E1 => ?_)
  have X2 : Ext w w1 := (Ext.refl w).trans E1
  obtain ⟨m3, hm3, hr⟩ := letv_out hr
  refine da_op rfl (d_cl (vs := [.float .f64 r1]) en134 (ac rfl rfl) rfl ?_)
  refine (c134 (widen p0) r1 m3 w1 hm3 h1).mono ?_
  rintro _ w4 ⟨q4_0r, rfl, q4_0h, E4⟩
  refine ⟨_, rfl, ?_⟩
  have X5 : Ext w w4 := X2.trans E4
  refine da_op rfl (d_narrow un95 un22 rfl q4_0h (by rw [← hm3]; exact nar_sqrt _) fun r6 w6 h6 _ E6 => ?_)
  have X7 : Ext w w6 := X5.trans E6
  refine da_op rfl (d_as (v := .float .f32 r6) rfl ?_)
  refine da_nil ?_
  refine W_ret ?_
  subst hr
  refine ⟨_, res1 (rv_tmp rfl), ?_⟩
  exact ⟨r6, rfl, h6, X7⟩
set_option maxHeartbeats 4000000 in
theorem c114 (p0 : SSpin) (p0r0 : Nat) (p0r1 : Nat) (p0r2 : Nat) (p0r3 : Nat) (r : Nat) (w : World) (hr : M.impl_SizeOfSpin p0 = r) (p0h0 : cn .f32 p0r0 = p0.w) (p0h1 : cn .f32 p0r1 = p0.x) (p0h2 : cn .f32 p0r2 = p0.y) (p0h3 : cn .f32 p0r3 = p0.z) :
    Calls Try.prog 114 #[.agg #[.float .f32 p0r0, .float .f32 p0r1, .float .f32 p0r2, .float .f32 p0r3]] w fun e w' => ∃ q0r : Nat, e = .returned (.float .f32 q0r) ∧ cn .f32 q0r = r ∧ Ext w w' := by
  refine calls_of_W Try.func114 rfl (Nat.le_of_ble_eq_true rfl) ?_
  refine W_seq ?_
  refine W_region rfl ?_
  refine da_op rfl (d_box (cs := #[.float .f32 p0r0, .float .f32 p0r1, .float .f32 p0r2, .float .f32 p0r3]) rfl fun w1 B1 E1 => ?_)
  have own2 : w.heap.size ≤ w.heap.size := Nat.le_trans (Ext.refl w).size (Nat.le_refl _)
  have X3 : Ext w w1 := (Ext.refl w).trans E1
  refine da_op rfl (d_as (v := .float .f32 0) rfl ?_)
  refine da_nil ?_
  refine W_seq ?_
  refine W_region rfl ?_
  refine da_op rfl (d_loads (vs := #[.float .f32 p0r0, .float .f32 p0r1, .float .f32 p0r2, .float .f32 p0r3]) rfl agg30 size30 B1 rfl ?_)
  refine da_op rfl (d_loads (vs := #[.float .f32 p0r0, .float .f32 p0r1, .float .f32 p0r2, .float .f32 p0r3]) rfl agg30 size30 B1 rfl ?_)
  obtain ⟨m4, hm4, hr⟩ := letv_out hr
  refine da_op rfl (d_cl (vs := [.agg #[.float .f32 p0r0, .float .f32 p0r1, .float .f32 p0r2, .float .f32 p0r3], .agg #[.float .f32 p0r0, .float .f32 p0r1, .float .f32 p0r2, .float .f32 p0r3]]) en129 (ac rfl (ac rfl rfl)) rfl ?_)
  refine (c129 (⟨p0.w, p0.x, p0.y, p0.z⟩ : SSpin) (⟨p0.w, p0.x, p0.y, p0.z⟩ : SSpin) p0r0 p0r1 p0r2 p0r3 p0r0 p0r1 p0r2 p0r3 m4 w1 hm4 p0h0 p0h1 p0h2 p0h3 p0h0 p0h1 p0h2 p0h3).mono ?_
  rintro _ w5 ⟨q5_0r, rfl, q5_0h, E5⟩
  refine ⟨_, rfl, ?_⟩
  have X6 : Ext w w5 := X3.trans E5
  obtain ⟨m7, hm7, hr⟩ := letv_out hr
  have B8 : w5.heap[w.heap.size]? = some (.cells #[.float .f32 p0r0, .float .f32 p0r1, .float .f32 p0r2, .float .f32 p0r3] 30 (0, 0)) := E5.heap B1
  refine da_op rfl (d_cl (vs := [.float .f32 q5_0r]) en128 (ac rfl rfl) rfl ?_)
  refine (c128 m4 q5_0r m7 w5 hm7 q5_0h).mono ?_
  rintro _ w9 ⟨q9_0r, rfl, q9_0h, E9⟩
  refine ⟨_, rfl, ?_⟩
  have X10 : Ext w w9 := X6.trans E9
  refine da_op rfl (d_as (v := .float .f32 q9_0r) rfl ?_)
  refine da_nil ?_
  refine W_ret ?_
  subst hr
  refine ⟨_, res1 (rv_tmp rfl), ?_⟩
  exact ⟨q9_0r, rfl, q9_0h, X10⟩
set_option maxHeartbeats 4000000 in
theorem c115 (p0 : SSpin) (p0r0 : Nat) (p0r1 : Nat) (p0r2 : Nat) (p0r3 : Nat) (r : SSpin × Bool) (w : World) (hr : M.impl_toldSpin p0 = some r) (p0h0 : cn .f32 p0r0 = p0.w) (p0h1 : cn .f32 p0r1 = p0.x) (p0h2 : cn .f32 p0r2 = p0.y) (p0h3 : cn .f32 p0r3 = p0.z) :
    Calls Try.prog 115 #[.agg #[.float .f32 p0r0, .float .f32 p0r1, .float .f32 p0r2, .float .f32 p0r3]] w fun e w' => ∃ q0r0 : Nat, ∃ q0r1 : Nat, ∃ q0r2 : Nat, ∃ q0r3 : Nat, e = .returned (.tuple #[.agg #[.float .f32 q0r0, .float .f32 q0r1, .float .f32 q0r2, .float .f32 q0r3], .bool r.2]) ∧ cn .f32 q0r0 = r.1.w ∧ cn .f32 q0r1 = r.1.x ∧ cn .f32 q0r2 = r.1.y ∧ cn .f32 q0r3 = r.1.z ∧ Ext w w' := by
  refine calls_of_W Try.func115 rfl (Nat.le_of_ble_eq_true rfl) ?_
  refine W_seq ?_
  refine W_region rfl ?_
  refine da_op rfl (d_box (cs := #[.float .f32 p0r0, .float .f32 p0r1, .float .f32 p0r2, .float .f32 p0r3]) rfl fun w1 B1 E1 => ?_)
  have own2 : w.heap.size ≤ w.heap.size := Nat.le_trans (Ext.refl w).size (Nat.le_refl _)
  have X3 : Ext w w1 := (Ext.refl w).trans E1
  refine da_op rfl (d_alloc (cs := #[.float .f32 0, .float .f32 0, .float .f32 0, .float .f32 0]) zero30 rfl fun w4 B4 E4 => ?_)
  have own5 : w.heap.size ≤ w1.heap.size := Nat.le_trans X3.size (Nat.le_refl _)
  have sp6 : w.heap.size ≠ w1.heap.size := Nat.ne_of_lt (Nat.lt_of_lt_of_le (lt_heap B1) (Nat.le_refl _))
  have X7 : Ext w w4 := X3.trans E4
  refine da_op rfl (d_as (v := .bool false) rfl ?_)
  refine da_nil ?_
  refine W_seq ?_
  refine W_seq ?_
  refine W_region rfl ?_
  have B8 : w4.heap[w.heap.size]? = some (.cells #[.float .f32 p0r0, .float .f32 p0r1, .float .f32 p0r2, .float .f32 p0r3] 30 (0, 0)) := E4.heap B1
  refine da_op rfl (d_loads (vs := #[.float .f32 p0r0, .float .f32 p0r1, .float .f32 p0r2, .float .f32 p0r3]) rfl agg30 size30 B8 rfl ?_)
  obtain ⟨m9, hm9, hr⟩ := bind_out hr
  refine da_op rfl (d_cl (vs := [.agg #[.float .f32 p0r0, .float .f32 p0r1, .float .f32 p0r2, .float .f32 p0r3]]) en92 (ac rfl rfl) rfl ?_)
  refine (c92 p0 p0r0 p0r1 p0r2 p0r3 m9 w4 hm9 p0h0 p0h1 p0h2 p0h3).mono ?_
  rintro _ w10 ⟨rfl, E10⟩
  refine ⟨_, rfl, ?_⟩
  have X11 : Ext w w10 := X7.trans E10
  refine da_op rfl (d_not rfl ?_)
  refine da_nil ?_
  refine W_cond (b := (!m9)) rfl (fun hc12 => ?_) (fun hc12 => ?_)
  · skip
    replace hr := bif_t hr hc12
    refine W_seq ?_
    refine W_region rfl ?_
    refine da_op rfl (d_bd (vs := []) (cs := #[.float .f32 0, .float .f32 0, .float .f32 0, .float .f32 0]) rfl (by kernel_rfl) ?_)
    have B13 : w10.heap[w1.heap.size]? = some (.cells #[.float .f32 0, .float .f32 0, .float .f32 0, .float .f32 0] 30 (0, 0)) := E10.heap B4
    refine da_op rfl (d_store (vs := #[.float .f32 0, .float .f32 0, .float .f32 0, .float .f32 0]) rfl rfl B13 size30 (Nat.le_of_ble_eq_true rfl) rfl fun w14 S14 => ?_)
    have X15 : Ext w w14 := Ext.step X11 S14.frmb (fun k _ hk => hk ▸ own5)
    have B16 : w14.heap[w1.heap.size]? = some (.cells #[.float .f32 0, .float .f32 0, .float .f32 0, .float .f32 0] 30 (0, 0)) := S14.here
    refine da_op rfl (d_as (v := .bool false) rfl ?_)
    refine da_nil ?_
    refine W_ret ?_
    obtain rfl := Option.some.inj hr
    refine ⟨_, res2 (rv_cells (vs := #[.float .f32 0, .float .f32 0, .float .f32 0, .float .f32 0]) rfl agg30 size30 B16 rfl) (rv_tmp rfl), ?_⟩
    exact ⟨0, 0, 0, 0, rfl, cn_f32_0, cn_f32_0, cn_f32_0, cn_f32_0, X15⟩
  · skip
    replace hr := bif_f hr hc12
    refine W_skip ?_
    refine W_seq ?_
    refine W_region rfl ?_
    have B17 : w10.heap[w.heap.size]? = some (.cells #[.float .f32 p0r0, .float .f32 p0r1, .float .f32 p0r2, .float .f32 p0r3] 30 (0, 0)) := E10.heap B8
    refine da_op rfl (d_loads (vs := #[.float .f32 p0r0, .float .f32 p0r1, .float .f32 p0r2, .float .f32 p0r3]) rfl agg30 size30 B17 rfl ?_)
    have B18 : w10.heap[w1.heap.size]? = some (.cells #[.float .f32 0, .float .f32 0, .float .f32 0, .float .f32 0] 30 (0, 0)) := E10.heap B4
    refine da_op rfl (d_store (vs := #[.float .f32 p0r0, .float .f32 p0r1, .float .f32 p0r2, .float .f32 p0r3]) rfl rfl B18 size30 (Nat.le_of_ble_eq_true rfl) rfl fun w19 S19 => ?_)
    have X20 : Ext w w19 := Ext.step X11 S19.frmb (fun k _ hk => hk ▸ own5)
    have B21 : w19.heap[w1.heap.size]? = some (.cells #[.float .f32 p0r0, .float .f32 p0r1, .float .f32 p0r2, .float .f32 p0r3] 30 (0, 0)) := S19.here
    refine da_op rfl (d_as (v := .bool true) rfl ?_)
    refine da_nil ?_
    refine W_ret ?_
    obtain rfl := Option.some.inj hr
    refine ⟨_, res2 (rv_cells (vs := #[.float .f32 p0r0, .float .f32 p0r1, .float .f32 p0r2, .float .f32 p0r3]) rfl agg30 size30 B21 rfl) (rv_tmp rfl), ?_⟩
    exact ⟨p0r0, p0r1, p0r2, p0r3, rfl, p0h0, p0h1, p0h2, p0h3, X20⟩
set_option maxHeartbeats 4000000 in
theorem c96 (p0 : SSpin) (p0r0 : Nat) (p0r1 : Nat) (p0r2 : Nat) (p0r3 : Nat) (r : SSpin × Bool) (w : World) (hr : M.impl_NormSpin p0 = some r) (p0h0 : cn .f32 p0r0 = p0.w) (p0h1 : cn .f32 p0r1 = p0.x) (p0h2 : cn .f32 p0r2 = p0.y) (p0h3 : cn .f32 p0r3 = p0.z) :
    Calls Try.prog 96 #[.agg #[.float .f32 p0r0, .float .f32 p0r1, .float .f32 p0r2, .float .f32 p0r3]] w fun e w' => ∃ q0r0 : Nat, ∃ q0r1 : Nat, ∃ q0r2 : Nat, ∃ q0r3 : Nat, e = .returned (.tuple #[.agg #[.float .f32 q0r0, .float .f32 q0r1, .float .f32 q0r2, .float .f32 q0r3], .bool r.2]) ∧ cn .f32 q0r0 = r.1.w ∧ cn .f32 q0r1 = r.1.x ∧ cn .f32 q0r2 = r.1.y ∧ cn .f32 q0r3 = r.1.z ∧ Ext w w' := by
  refine calls_of_W Try.func96 rfl (Nat.le_of_ble_eq_true rfl) ?_
  refine W_seq ?_
  refine W_region rfl ?_
  refine da_op rfl (d_box (cs := #[.float .f32 p0r0, .float .f32 p0r1, .float .f32 p0r2, .float .f32 p0r3]) rfl fun w1 B1 E1 => ?_)
  have own2 : w.heap.size ≤ w.heap.size := Nat.le_trans (Ext.refl w).size (Nat.le_refl _)
  have X3 : Ext w w1 := (Ext.refl w).trans E1
  refine da_op rfl (d_alloc (cs := #[.float .f32 0, .float .f32 0, .float .f32 0, .float .f32 0]) zero30 rfl fun w4 B4 E4 => ?_)
  have own5 : w.heap.size ≤ w1.heap.size := Nat.le_trans X3.size (Nat.le_refl _)
  have sp6 : w.heap.size ≠ w1.heap.size := Nat.ne_of_lt (Nat.lt_of_lt_of_le (lt_heap B1) (Nat.le_refl _))
  have X7 : Ext w w4 := X3.trans E4
  refine da_op rfl (d_as (v := .bool false) rfl ?_)
  refine da_nil ?_
  refine W_seq ?_
  refine W_seq ?_
  refine W_region rfl ?_
  have B8 : w4.heap[w.heap.size]? = some (.cells #[.float .f32 p0r0, .float .f32 p0r1, .float .f32 p0r2, .float .f32 p0r3] 30 (0, 0)) := E4.heap B1
  refine da_op rfl (d_loads (vs := #[.float .f32 p0r0, .float .f32 p0r1, .float .f32 p0r2, .float .f32 p0r3]) rfl agg30 size30 B8 rfl ?_)
  obtain ⟨m9, hm9, hr⟩ := bind_out hr
  refine da_op rfl (d_cl (vs := [.agg #[.float .f32 p0r0, .float .f32 p0r1, .float .f32 p0r2, .float .f32 p0r3]]) en92 (ac rfl rfl) rfl ?_)
  refine (c92 p0 p0r0 p0r1 p0r2 p0r3 m9 w4 hm9 p0h0 p0h1 p0h2 p0h3).mono ?_
  rintro _ w10 ⟨rfl, E10⟩
  refine ⟨_, rfl, ?_⟩
  have X11 : Ext w w10 := X7.trans E10
  refine da_op rfl (d_not rfl ?_)
  refine da_nil ?_
  refine W_cond (b := (!m9)) rfl (fun hc12 => ?_) (fun hc12 => ?_)
  · skip
    replace hr := bif_t hr hc12
    refine W_seq ?_
    refine W_region rfl ?_
    refine da_op rfl (d_bd (vs := []) (cs := #[.float .f32 0, .float .f32 0, .float .f32 0, .float .f32 0]) rfl (by kernel_rfl) ?_)
    have B13 : w10.heap[w1.heap.size]? = some (.cells #[.float .f32 0, .float .f32 0, .float .f32 0, .float .f32 0] 30 (0, 0)) := E10.heap B4
    refine da_op rfl (d_store (vs := #[.float .f32 0, .float .f32 0, .float .f32 0, .float .f32 0]) rfl rfl B13 size30 (Nat.le_of_ble_eq_true rfl) rfl fun w14 S14 => ?_)
    have X15 : Ext w w14 := Ext.step X11 S14.frmb (fun k _ hk => hk ▸ own5)
    have B16 : w14.heap[w1.heap.size]? = some (.cells #[.float .f32 0, .float .f32 0, .float .f32 0, .float .f32 0] 30 (0, 0)) := S14.here
    refine da_op rfl (d_as (v := .bool false) rfl ?_)
    refine da_nil ?_
    refine W_ret ?_
    obtain rfl := Option.some.inj hr
    refine ⟨_, res2 (rv_cells (vs := #[.float .f32 0, .float .f32 0, .float .f32 0, .float .f32 0]) rfl agg30 size30 B16 rfl) (rv_tmp rfl), ?_⟩
    exact ⟨0, 0, 0, 0, rfl, cn_f32_0, cn_f32_0, cn_f32_0, cn_f32_0, X15⟩
  · skip
    replace hr := bif_f hr hc12
    refine W_skip ?_
    refine W_seq ?_
    refine W_region rfl ?_
    have B17 : w10.heap[w.heap.size]? = some (.cells #[.float .f32 p0r0, .float .f32 p0r1, .float .f32 p0r2, .float .f32 p0r3] 30 (0, 0)) := E10.heap B8
    refine da_op rfl (d_loads (vs := #[.float .f32 p0r0, .float .f32 p0r1, .float .f32 p0r2, .float .f32 p0r3]) rfl agg30 size30 B17 rfl ?_)
    obtain ⟨m18, hm18, hr⟩ := letv_out hr
    have B19 : w10.heap[w1.heap.size]? = some (.cells #[.float .f32 0, .float .f32 0, .float .f32 0, .float .f32 0] 30 (0, 0)) := E10.heap B4
    refine da_op rfl (d_cl (vs := [.agg #[.float .f32 p0r0, .float .f32 p0r1, .float .f32 p0r2, .float .f32 p0r3]]) en114 (ac rfl rfl) rfl ?_)
    refine (c114 (⟨p0.w, p0.x, p0.y, p0.z⟩ : SSpin) p0r0 p0r1 p0r2 p0r3 m18 w10 hm18 p0h0 p0h1 p0h2 p0h3).mono ?_
    rintro _ w20 ⟨q20_0r, rfl, q20_0h, E20⟩
    refine ⟨_, rfl, ?_⟩
    have X21 : Ext w w20 := X11.trans E20
    refine da_op rfl (d_as (v := .float .f32 q20_0r) rfl ?_)
    refine da_nil ?_
    refine W_seq ?_
    refine W_region rfl ?_
    refine da_op rfl (d_fieldAddr rfl (fa30_0 _ _) ?_)
    have B22 : w20.heap[w.heap.size]? = some (.cells #[.float .f32 p0r0, .float .f32 p0r1, .float .f32 p0r2, .float .f32 p0r3] 30 (0, 0)) := E20.heap B17
    refine da_op rfl (d_load (v := .float .f32 p0r0) rfl agg22 B22 rfl ?_)
    refine da_op rfl (d_mv (v := .float .f32 q20_0r) rfl ?_)
    refine da_op rfl (d_fop (k := .f32) fQuo rfl rfl p0h0 q20_0h fun r23 w23 h23 _ E23 => ?_)
    have X24 : Ext w w23 := X21.trans E23
    refine da_op rfl (d_fieldAddr rfl (fa30_1 _ _) ?_)
    have B25 : w23.heap[w.heap.size]? = some (.cells #[.float .f32 p0r0, .float .f32 p0r1, .float .f32 p0r2, .float .f32 p0r3] 30 (0, 0)) := E23.heap B22
    refine da_op rfl (d_load (v := .float .f32 p0r1) rfl agg22 B25 rfl ?_)
    refine da_op rfl (d_mv (v := .float .f32 q20_0r) rfl ?_)
    refine da_op rfl (d_fop (k := .f32) fQuo rfl rfl p0h1 q20_0h fun r26 w26 h26 _ E26 => ?_)
    have X27 : Ext w w26 := X24.trans E26
    refine da_op rfl (d_fieldAddr rfl (fa30_2 _ _) ?_)
    have B28 : w26.heap[w.heap.size]? = some (.cells #[.float .f32 p0r0, .float .f32 p0r1, .float .f32 p0r2, .float .f32 p0r3] 30 (0, 0)) := E26.heap B25
    refine da_op rfl (d_load (v := .float .f32 p0r2) rfl agg22 B28 rfl ?_)
    refine da_op rfl (d_mv (v := .float .f32 q20_0r) rfl ?_)
    refine da_op rfl (d_fop (k := .f32) fQuo rfl rfl p0h2 q20_0h fun r29 w29 h29 _ E29 => ?_)
    have X30 : Ext w w29 := X27.trans E29
    refine da_op rfl (d_fieldAddr rfl (fa30_3 _ _) ?_)
    have B31 : w29.heap[w.heap.size]? = some (.cells #[.float .f32 p0r0, .float .f32 p0r1, .float .f32 p0r2, .float .f32 p0r3] 30 (0, 0)) := E29.heap B28
    refine da_op rfl (d_load (v := .float .f32 p0r3) rfl agg22 B31 rfl ?_)
    refine da_op rfl (d_mv (v := .float .f32 q20_0r) rfl ?_)
    refine da_op rfl (d_fop (k := .f32) fQuo rfl rfl p0h3 q20_0h fun r32 w32 h32 _ E32 => ?_)
    have X33 : Ext w w32 := X30.trans E32
    refine da_op rfl (d_bd (vs := [(0, .float .f32 r23), (1, .float .f32 r26), (2, .float .f32 r29), (3, .float .f32 r32)]) (cs := #[.float .f32 r23, .float .f32 r26, .float .f32 r29, .float .f32 r32]) (pc rfl (pc rfl (pc rfl (pc rfl rfl)))) (by kernel_rfl) ?_)
    obtain ⟨m34, hm34, hr⟩ := bind_out hr
    have B35 : w32.heap[w.heap.size]? = some (.cells #[.float .f32 p0r0, .float .f32 p0r1, .float .f32 p0r2, .float .f32 p0r3] 30 (0, 0)) := E32.heap B31
    have B36 : w32.heap[w1.heap.size]? = some (.cells #[.float .f32 0, .float .f32 0, .float .f32 0, .float .f32 0] 30 (0, 0)) := E32.heap (E29.heap (E26.heap (E23.heap (E20.heap B19))))
    refine da_op rfl (d_cl (vs := [.agg #[.float .f32 r23, .float .f32 r26, .float .f32 r29, .float .f32 r32]]) en115 (ac rfl rfl) rfl ?_)
    refine (c115 (⟨(fop .quo .f32 p0.w m18), (fop .quo .f32 p0.x m18), (fop .quo .f32 p0.y m18), (fop .quo .f32 p0.z m18)⟩ : SSpin) r23 r26 r29 r32 m34 w32 hm34 h23 h26 h29 h32).mono ?_
    rintro _ w37 ⟨q37_0r0, q37_0r1, q37_0r2, q37_0r3, rfl, q37_0h0, q37_0h1, q37_0h2, q37_0h3, E37⟩
    refine ⟨_, rfl, ?_⟩
    have X38 : Ext w w37 := X33.trans E37
    refine da_op rfl (d_extract (v := .agg #[.float .f32 q37_0r0, .float .f32 q37_0r1, .float .f32 q37_0r2, .float .f32 q37_0r3]) rfl rfl ?_)
    refine da_op rfl (d_extract (v := .bool m34.2) rfl rfl ?_)
    have B39 : w37.heap[w1.heap.size]? = some (.cells #[.float .f32 0, .float .f32 0, .float .f32 0, .float .f32 0] 30 (0, 0)) := E37.heap B36
    refine da_op rfl (d_store (vs := #[.float .f32 q37_0r0, .float .f32 q37_0r1, .float .f32 q37_0r2, .float .f32 q37_0r3]) rfl rfl B39 size30 (Nat.le_of_ble_eq_true rfl) rfl fun w40 S40 => ?_)
    have X41 : Ext w w40 := Ext.step X38 S40.frmb (fun k _ hk => hk ▸ own5)
    have B42 : w40.heap[w1.heap.size]? = some (.cells #[.float .f32 q37_0r0, .float .f32 q37_0r1, .float .f32 q37_0r2, .float .f32 q37_0r3] 30 (0, 0)) := S40.here
    refine da_op rfl (d_as (v := .bool m34.2) rfl ?_)
    refine da_nil ?_
    refine W_ret ?_
    obtain rfl := Option.some.inj hr
    refine ⟨_, res2 (rv_cells (vs := #[.float .f32 q37_0r0, .float .f32 q37_0r1, .float .f32 q37_0r2, .float .f32 q37_0r3]) rfl agg30 size30 B42 rfl) (rv_tmp rfl), ?_⟩
    exact ⟨q37_0r0, q37_0r1, q37_0r2, q37_0r3, rfl, q37_0h0, q37_0h1, q37_0h2, q37_0h3, X41⟩
end Go.Proofs
