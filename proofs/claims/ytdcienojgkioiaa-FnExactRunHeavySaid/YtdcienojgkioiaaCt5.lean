import Derived.Test.YtdcienojgkioiaaCt4
namespace Go.Proofs
open Go Go.Fl Go.RowKit Go.Rg
set_option maxRecDepth 100000
set_option linter.unusedVariables false
attribute [local irreducible] Go.Calls doAll Does DoesG W Wr
set_option maxHeartbeats 4000000 in
theorem c57 (p0 : Nat) (p1 : Nat) (p0r : Nat) (p1r : Nat) (r : Bool) (w : World) (hr : M.laws_sameFloat p0 p1 = r) (p0h : cn .f64 p0r = p0) (p1h : cn .f64 p1r = p1) :
    Calls Try.prog 57 #[.float .f64 p0r, .float .f64 p1r] w fun e w' => e = .returned (.bool r) ∧ Ext w w' := by
  refine calls_of_W Try.func57 rfl (Nat.le_of_ble_eq_true rfl) ?_
  refine W_seq ?_
  refine W_region rfl ?_
  refine da_op rfl (d_as (v := .bool false) rfl ?_)
  refine da_nil ?_
  refine W_seq ?_
  refine W_seq ?_
  obtain ⟨m1, hm1, hr⟩ := letv_out hr
  refine W_cut (fun σ' w' => σ' 12 = .bool m1 ∧ Ext w w') rfl ?_ ?_
  · skip
    have hr := hm1
    refine da_op rfl (d_mv (v := .float .f64 p0r) rfl ?_)
    refine da_op rfl (d_mv (v := .float .f64 p0r) rfl ?_)
    refine da_op rfl (d_fcmp (k := .f64) cNeq rfl rfl p0h p0h ?_)
    refine da_op rfl (d_mv (v := .bool (fcmp .neq .f64 p0 p0)) rfl ?_)
    rcases Bool.eq_false_or_eq_true (fcmp .neq .f64 p0 p0) with hc2 | hc2
    · skip
      replace hr := bif_t hr hc2
      refine da_off rfl (Eq.trans (show sl _ _ _ = .bool (fcmp .neq .f64 p0 p0) from rfl) (congrArg Value.bool hc2)) (by decide) ?_
      refine da_off rfl (Eq.trans (show sl _ _ _ = .bool (fcmp .neq .f64 p0 p0) from rfl) (congrArg Value.bool hc2)) (by decide) ?_
      refine da_off rfl (Eq.trans (show sl _ _ _ = .bool (fcmp .neq .f64 p0 p0) from rfl) (congrArg Value.bool hc2)) (by decide) ?_
      refine da_op rfl (d_pick (b := true) (Eq.trans (show ev _ _ = .bool (fcmp .neq .f64 p0 p0) from rfl) (congrArg Value.bool hc2)) ?_)
      refine da_nil ?_
      subst hr
      exact ⟨rfl, (Ext.refl w)⟩
    · skip
      replace hr := bif_f hr hc2
      refine da_on rfl (Eq.trans (show sl _ _ _ = .bool (fcmp .neq .f64 p0 p0) from rfl) (congrArg Value.bool hc2)) (d_mv (v := .float .f64 p1r) rfl ?_)
      refine da_on rfl (Eq.trans (show sl _ _ _ = .bool (fcmp .neq .f64 p0 p0) from rfl) (congrArg Value.bool hc2)) (d_mv (v := .float .f64 p1r) rfl ?_)
      refine da_on rfl (Eq.trans (show sl _ _ _ = .bool (fcmp .neq .f64 p0 p0) from rfl) (congrArg Value.bool hc2)) (d_fcmp (k := .f64) cNeq rfl rfl p1h p1h ?_)
      refine da_op rfl (d_pick (b := false) (Eq.trans (show ev _ _ = .bool (fcmp .neq .f64 p0 p0) from rfl) (congrArg Value.bool hc2)) ?_)
      refine da_nil ?_
      subst hr
      exact ⟨rfl, (Ext.refl w)⟩
  · skip
    rintro σ1 w1 o1 ⟨s12_1, E1⟩
    have s0_1 : σ1 0 = .float .f64 p0r := (o1 0 rfl).trans rfl
    have s1_1 : σ1 1 = .float .f64 p1r := (o1 1 rfl).trans rfl
    have X3 : Ext w w1 := (Ext.refl w).trans E1
    refine W_cond (b := m1) s12_1 (fun hc4 => ?_) (fun hc4 => ?_)
    · skip
      replace hr := bif_t hr hc4
      refine W_seq ?_
      obtain ⟨m5, hm5, hr⟩ := letv_out hr
      refine W_cut (fun σ' w' => σ' 4 = .bool m5 ∧ Ext w1 w') rfl ?_ ?_
      · skip
        have hr := hm5
        refine da_op rfl (d_mv (v := .float .f64 p0r) s0_1 ?_)
        refine da_op rfl (d_mv (v := .float .f64 p0r) s0_1 ?_)
        refine da_op rfl (d_fcmp (k := .f64) cNeq rfl rfl p0h p0h ?_)
        refine da_op rfl (d_mv (v := .bool (fcmp .neq .f64 p0 p0)) rfl ?_)
        rcases Bool.eq_false_or_eq_true (fcmp .neq .f64 p0 p0) with hc6 | hc6
        · skip
          replace hr := bif_t hr hc6
          refine da_on rfl (Eq.trans (show sl _ _ _ = .bool (fcmp .neq .f64 p0 p0) from rfl) (congrArg Value.bool hc6)) (d_mv (v := .float .f64 p1r) s1_1 ?_)
          refine da_on rfl (Eq.trans (show sl _ _ _ = .bool (fcmp .neq .f64 p0 p0) from rfl) (congrArg Value.bool hc6)) (d_mv (v := .float .f64 p1r) s1_1 ?_)
          refine da_on rfl (Eq.trans (show sl _ _ _ = .bool (fcmp .neq .f64 p0 p0) from rfl) (congrArg Value.bool hc6)) (d_fcmp (k := .f64) cNeq rfl rfl p1h p1h ?_)
          refine da_op rfl (d_pick (b := true) (Eq.trans (show ev _ _ = .bool (fcmp .neq .f64 p0 p0) from rfl) (congrArg Value.bool hc6)) ?_)
          refine da_op rfl (d_as (v := .bool (fcmp .neq .f64 p1 p1)) rfl ?_)
          refine da_nil ?_
          subst hr
          exact ⟨rfl, (Ext.refl w1)⟩
        · skip
          replace hr := bif_f hr hc6
          refine da_off rfl (Eq.trans (show sl _ _ _ = .bool (fcmp .neq .f64 p0 p0) from rfl) (congrArg Value.bool hc6)) (by decide) ?_
          refine da_off rfl (Eq.trans (show sl _ _ _ = .bool (fcmp .neq .f64 p0 p0) from rfl) (congrArg Value.bool hc6)) (by decide) ?_
          refine da_off rfl (Eq.trans (show sl _ _ _ = .bool (fcmp .neq .f64 p0 p0) from rfl) (congrArg Value.bool hc6)) (by decide) ?_
          refine da_op rfl (d_pick (b := false) (Eq.trans (show ev _ _ = .bool (fcmp .neq .f64 p0 p0) from rfl) (congrArg Value.bool hc6)) ?_)
          refine da_op rfl (d_as (v := .bool false) rfl ?_)
          refine da_nil ?_
          subst hr
          exact ⟨rfl, (Ext.refl w1)⟩
      · skip
        rintro σ5 w5 o5 ⟨s4_5, E5⟩
        have X7 : Ext w w5 := X3.trans E5
        refine W_ret ?_
        subst hr
        refine ⟨_, res1 (rv_tmp s4_5), ?_⟩
        exact ⟨rfl, X7⟩
    · skip
      replace hr := bif_f hr hc4
      refine W_skip ?_
      refine W_seq ?_
      refine W_seq ?_
      obtain ⟨m8, hm8, hr⟩ := letv_out hr
      refine W_cut (fun σ' w' => σ' 26 = .bool m8 ∧ Ext w1 w') rfl ?_ ?_
      · skip
        have hr := hm8
        refine da_op rfl (d_mv (v := .float .f64 p0r) s0_1 ?_)
        refine da_op rfl (d_fcmp (k := .f64) cEql rfl rfl p0h cn_f64_0 ?_)
        refine da_op rfl (d_mv (v := .bool (fcmp .eql .f64 p0 0)) rfl ?_)
        rcases Bool.eq_false_or_eq_true (fcmp .eql .f64 p0 0) with hc9 | hc9
        · skip
          replace hr := bif_t hr hc9
          refine da_on rfl (Eq.trans (show sl _ _ _ = .bool (fcmp .eql .f64 p0 0) from rfl) (congrArg Value.bool hc9)) (d_mv (v := .float .f64 p1r) s1_1 ?_)
          refine da_on rfl (Eq.trans (show sl _ _ _ = .bool (fcmp .eql .f64 p0 0) from rfl) (congrArg Value.bool hc9)) (d_fcmp (k := .f64) cEql rfl rfl p1h cn_f64_0 ?_)
          refine da_op rfl (d_pick (b := true) (Eq.trans (show ev _ _ = .bool (fcmp .eql .f64 p0 0) from rfl) (congrArg Value.bool hc9)) ?_)
          refine da_nil ?_
          subst hr
          exact ⟨rfl, (Ext.refl w1)⟩
        · skip
          replace hr := bif_f hr hc9
          refine da_off rfl (Eq.trans (show sl _ _ _ = .bool (fcmp .eql .f64 p0 0) from rfl) (congrArg Value.bool hc9)) (by decide) ?_
          refine da_off rfl (Eq.trans (show sl _ _ _ = .bool (fcmp .eql .f64 p0 0) from rfl) (congrArg Value.bool hc9)) (by decide) ?_
          refine da_op rfl (d_pick (b := false) (Eq.trans (show ev _ _ = .bool (fcmp .eql .f64 p0 0) from rfl) (congrArg Value.bool hc9)) ?_)
          refine da_nil ?_
          subst hr
          exact ⟨rfl, (Ext.refl w1)⟩
      · skip
        rintro σ8 w8 o8 ⟨s26_8, E8⟩
        have s0_8 : σ8 0 = .float .f64 p0r := (o8 0 rfl).trans s0_1
        have s1_8 : σ8 1 = .float .f64 p1r := (o8 1 rfl).trans s1_1
        have X10 : Ext w w8 := X3.trans E8
        refine W_cond (b := m8) s26_8 (fun hc11 => ?_) (fun hc11 => ?_)
        · skip
          replace hr := bif_t hr hc11
          refine W_seq ?_
          refine W_region rfl ?_
          refine da_op rfl (d_mv (v := .float .f64 p0r) s0_8 ?_)
          refine da_op rfl (d_fop (k := .f64) fQuo rfl rfl cn_f64_4607182418800017408 p0h fun r12 w12 h12 _ E12 => ?_)
          have X13 : Ext w w12 := X10.trans E12
          refine da_op rfl (d_fcmp (k := .f64) cGtr rfl rfl h12 cn_f64_0 ?_)
          refine da_op rfl (d_mv (v := .float .f64 p1r) s1_8 ?_)
          refine da_op rfl (d_fop (k := .f64) fQuo rfl rfl cn_f64_4607182418800017408 p1h fun r14 w14 h14 _ E14 => ?_)
          have X15 : Ext w w14 := X13.trans E14
          refine da_op rfl (d_fcmp (k := .f64) cGtr rfl rfl h14 cn_f64_0 ?_)
          refine da_op rfl (d_beq un4 rfl rfl ?_)
          refine da_op rfl (d_as (v := .bool ((fcmp .gtr .f64 (fop .quo .f64 4607182418800017408 p0) 0) == (fcmp .gtr .f64 (fop .quo .f64 4607182418800017408 p1) 0))) rfl ?_)
          refine da_nil ?_
          refine W_ret ?_
          subst hr
          refine ⟨_, res1 (rv_tmp rfl), ?_⟩
          exact ⟨rfl, X15⟩
        · skip
          replace hr := bif_f hr hc11
          refine W_skip ?_
          refine W_seq ?_
          refine W_region rfl ?_
          refine da_op rfl (d_mv (v := .float .f64 p0r) s0_8 ?_)
          refine da_op rfl (d_mv (v := .float .f64 p1r) s1_8 ?_)
          refine da_op rfl (d_fcmp (k := .f64) cEql rfl rfl p0h p1h ?_)
          refine da_op rfl (d_as (v := .bool (fcmp .eql .f64 p0 p1)) rfl ?_)
          refine da_nil ?_
          refine W_ret ?_
          subst hr
          refine ⟨_, res1 (rv_tmp rfl), ?_⟩
          exact ⟨rfl, X10⟩
set_option maxHeartbeats 4000000 in
theorem c28 (p0 : SVector) (p1 : SVector) (p0r0 : Nat) (p0r1 : Nat) (p0r2 : Nat) (p1r0 : Nat) (p1r1 : Nat) (p1r2 : Nat) (r : Bool) (w : World) (hr : M.laws_eqVector p0 p1 = r) (p0h0 : cn .f32 p0r0 = p0.x) (p0h1 : cn .f32 p0r1 = p0.y) (p0h2 : cn .f32 p0r2 = p0.z) (p1h0 : cn .f32 p1r0 = p1.x) (p1h1 : cn .f32 p1r1 = p1.y) (p1h2 : cn .f32 p1r2 = p1.z) :
    Calls Try.prog 28 #[.agg #[.float .f32 p0r0, .float .f32 p0r1, .float .f32 p0r2], .agg #[.float .f32 p1r0, .float .f32 p1r1, .float .f32 p1r2]] w fun e w' => e = .returned (.bool r) ∧ Ext w w' := by
  refine calls_of_W Try.func28 rfl (Nat.le_of_ble_eq_true rfl) ?_
  refine W_seq ?_
  refine W_region rfl ?_
  refine da_op rfl (d_box (cs := #[.float .f32 p0r0, .float .f32 p0r1, .float .f32 p0r2]) rfl fun w1 B1 E1 => ?_)
  have own2 : w.heap.size ≤ w.heap.size := Nat.le_trans (Ext.refl w).size (Nat.le_refl _)
  have X3 : Ext w w1 := (Ext.refl w).trans E1
  refine da_op rfl (d_box (cs := #[.float .f32 p1r0, .float .f32 p1r1, .float .f32 p1r2]) rfl fun w4 B4 E4 => ?_)
  have own5 : w.heap.size ≤ w1.heap.size := Nat.le_trans X3.size (Nat.le_refl _)
  have sp6 : w.heap.size ≠ w1.heap.size := Nat.ne_of_lt (Nat.lt_of_lt_of_le (lt_heap B1) (Nat.le_refl _))
  have X7 : Ext w w4 := X3.trans E4
  refine da_op rfl (d_as (v := .bool false) rfl ?_)
  refine da_nil ?_
  refine W_seq ?_
  refine W_seq ?_
  refine W_region rfl ?_
  refine da_op rfl (d_fieldAddr rfl (fa29_0 _ _) ?_)
  have B8 : w4.heap[w.heap.size]? = some (.cells #[.float .f32 p0r0, .float .f32 p0r1, .float .f32 p0r2] 29 (0, 0)) := E4.heap B1
  refine da_op rfl (d_load (v := .float .f32 p0r0) rfl agg22 B8 rfl ?_)
  refine da_op rfl (d_widen un22 un95 rfl p0h0 fun r9 w9 h9 _ E9 => ?_)
  have X10 : Ext w w9 := X7.trans E9
  refine da_op rfl (d_fieldAddr rfl (fa29_0 _ _) ?_)
  have B11 : w9.heap[w1.heap.size]? = some (.cells #[.float .f32 p1r0, .float .f32 p1r1, .float .f32 p1r2] 29 (0, 0)) := E9.heap B4
  refine da_op rfl (d_load (v := .float .f32 p1r0) rfl agg22 B11 rfl ?_)
  refine da_op rfl (d_widen un22 un95 rfl p1h0 fun r12 w12 h12 _ E12 => ?_)
  have X13 : Ext w w12 := X10.trans E12
  obtain ⟨m14, hm14, hr⟩ := letv_out hr
  have B15 : w12.heap[w.heap.size]? = some (.cells #[.float .f32 p0r0, .float .f32 p0r1, .float .f32 p0r2] 29 (0, 0)) := E12.heap (E9.heap B8)
  have B16 : w12.heap[w1.heap.size]? = some (.cells #[.float .f32 p1r0, .float .f32 p1r1, .float .f32 p1r2] 29 (0, 0)) := E12.heap B11
  refine da_op rfl (d_cl (vs := [.float .f64 r9, .float .f64 r12]) en57 (ac rfl (ac rfl rfl)) rfl ?_)
  refine (c57 (widen p0.x) (widen p1.x) r9 r12 m14 w12 hm14 h9 h12).mono ?_
  rintro _ w17 ⟨rfl, E17⟩
  refine ⟨_, rfl, ?_⟩
  have X18 : Ext w w17 := X13.trans E17
  refine da_op rfl (d_not rfl ?_)
  refine da_nil ?_
  refine W_cond (b := (!m14)) rfl (fun hc19 => ?_) (fun hc19 => ?_)
  · skip
    replace hr := bif_t hr hc19
    refine W_seq ?_
    refine W_region rfl ?_
    refine da_op rfl (d_as (v := .bool false) rfl ?_)
    refine da_nil ?_
    refine W_ret ?_
    subst hr
    refine ⟨_, res1 (rv_tmp rfl), ?_⟩
    exact ⟨rfl, X18⟩
  · skip
    replace hr := bif_f hr hc19
    refine W_skip ?_
    refine W_seq ?_
    refine W_seq ?_
    refine W_region rfl ?_
    refine da_op rfl (d_fieldAddr rfl (fa29_1 _ _) ?_)
    have B20 : w17.heap[w.heap.size]? = some (.cells #[.float .f32 p0r0, .float .f32 p0r1, .float .f32 p0r2] 29 (0, 0)) := E17.heap B15
    refine da_op rfl (d_load (v := .float .f32 p0r1) rfl agg22 B20 rfl ?_)
    refine da_op rfl (d_widen un22 un95 rfl p0h1 fun r21 w21 h21 _ E21 => ?_)
    have X22 : Ext w w21 := X18.trans E21
    refine da_op rfl (d_fieldAddr rfl (fa29_1 _ _) ?_)
    have B23 : w21.heap[w1.heap.size]? = some (.cells #[.float .f32 p1r0, .float .f32 p1r1, .float .f32 p1r2] 29 (0, 0)) := E21.heap (E17.heap B16)
    refine da_op rfl (d_load (v := .float .f32 p1r1) rfl agg22 B23 rfl ?_)
    refine da_op rfl (d_widen un22 un95 rfl p1h1 fun r24 w24 h24 _ E24 => ?_)
    have X25 : Ext w w24 := X22.trans E24
    obtain ⟨m26, hm26, hr⟩ := letv_out hr
    have B27 : w24.heap[w.heap.size]? = some (.cells #[.float .f32 p0r0, .float .f32 p0r1, .float .f32 p0r2] 29 (0, 0)) := E24.heap (E21.heap B20)
    have B28 : w24.heap[w1.heap.size]? = some (.cells #[.float .f32 p1r0, .float .f32 p1r1, .float .f32 p1r2] 29 (0, 0)) := E24.heap B23
    refine da_op rfl (d_cl (vs := [.float .f64 r21, .float .f64 r24]) en57 (ac rfl (ac rfl rfl)) rfl ?_)
    refine (c57 (widen p0.y) (widen p1.y) r21 r24 m26 w24 hm26 h21 h24).mono ?_
    rintro _ w29 ⟨rfl, E29⟩
    refine ⟨_, rfl, ?_⟩
    have X30 : Ext w w29 := X25.trans E29
    refine da_op rfl (d_not rfl ?_)
    refine da_nil ?_
    refine W_cond (b := (!m26)) rfl (fun hc31 => ?_) (fun hc31 => ?_)
    · skip
      replace hr := bif_t hr hc31
      refine W_seq ?_
      refine W_region rfl ?_
      refine da_op rfl (d_as (v := .bool false) rfl ?_)
      refine da_nil ?_
      refine W_ret ?_
      subst hr
      refine ⟨_, res1 (rv_tmp rfl), ?_⟩
      exact ⟨rfl, X30⟩
    · skip
      replace hr := bif_f hr hc31
      refine W_skip ?_
      refine W_seq ?_
      refine W_seq ?_
      refine W_region rfl ?_
      refine da_op rfl (d_fieldAddr rfl (fa29_2 _ _) ?_)
      have B32 : w29.heap[w.heap.size]? = some (.cells #[.float .f32 p0r0, .float .f32 p0r1, .float .f32 p0r2] 29 (0, 0)) := E29.heap B27
      refine da_op rfl (d_load (v := .float .f32 p0r2) rfl agg22 B32 rfl ?_)
      refine da_op rfl (d_widen un22 un95 rfl p0h2 fun r33 w33 h33 _ E33 => ?_)
      have X34 : Ext w w33 := X30.trans E33
      refine da_op rfl (d_fieldAddr rfl (fa29_2 _ _) ?_)
      have B35 : w33.heap[w1.heap.size]? = some (.cells #[.float .f32 p1r0, .float .f32 p1r1, .float .f32 p1r2] 29 (0, 0)) := E33.heap (E29.heap B28)
      refine da_op rfl (d_load (v := .float .f32 p1r2) rfl agg22 B35 rfl ?_)
      refine da_op rfl (d_widen un22 un95 rfl p1h2 fun r36 w36 h36 _ E36 => ?_)
      have X37 : Ext w w36 := X34.trans E36
      obtain ⟨m38, hm38, hr⟩ := letv_out hr
      have B39 : w36.heap[w.heap.size]? = some (.cells #[.float .f32 p0r0, .float .f32 p0r1, .float .f32 p0r2] 29 (0, 0)) := E36.heap (E33.heap B32)
      have B40 : w36.heap[w1.heap.size]? = some (.cells #[.float .f32 p1r0, .float .f32 p1r1, .float .f32 p1r2] 29 (0, 0)) := E36.heap B35
      refine da_op rfl (d_cl (vs := [.float .f64 r33, .float .f64 r36]) en57 (ac rfl (ac rfl rfl)) rfl ?_)
      refine (c57 (widen p0.z) (widen p1.z) r33 r36 m38 w36 hm38 h33 h36).mono ?_
      rintro _ w41 ⟨rfl, E41⟩
      refine ⟨_, rfl, ?_⟩
      have X42 : Ext w w41 := X37.trans E41
      refine da_op rfl (d_not rfl ?_)
      refine da_nil ?_
      refine W_cond (b := (!m38)) rfl (fun hc43 => ?_) (fun hc43 => ?_)
      · skip
        replace hr := bif_t hr hc43
        refine W_seq ?_
        refine W_region rfl ?_
        refine da_op rfl (d_as (v := .bool false) rfl ?_)
        refine da_nil ?_
        refine W_ret ?_
        subst hr
        refine ⟨_, res1 (rv_tmp rfl), ?_⟩
        exact ⟨rfl, X42⟩
      · skip
        replace hr := bif_f hr hc43
        refine W_skip ?_
        refine W_seq ?_
        refine W_region rfl ?_
        refine da_op rfl (d_as (v := .bool true) rfl ?_)
        refine da_nil ?_
        refine W_ret ?_
        subst hr
        refine ⟨_, res1 (rv_tmp rfl), ?_⟩
        exact ⟨rfl, X42⟩
set_option maxHeartbeats 4000000 in
theorem c29 (p0 : SSpin) (p1 : SSpin) (p0r0 : Nat) (p0r1 : Nat) (p0r2 : Nat) (p0r3 : Nat) (p1r0 : Nat) (p1r1 : Nat) (p1r2 : Nat) (p1r3 : Nat) (r : Bool) (w : World) (hr : M.laws_eqSpin p0 p1 = r) (p0h0 : cn .f32 p0r0 = p0.w) (p0h1 : cn .f32 p0r1 = p0.x) (p0h2 : cn .f32 p0r2 = p0.y) (p0h3 : cn .f32 p0r3 = p0.z) (p1h0 : cn .f32 p1r0 = p1.w) (p1h1 : cn .f32 p1r1 = p1.x) (p1h2 : cn .f32 p1r2 = p1.y) (p1h3 : cn .f32 p1r3 = p1.z) :
    Calls Try.prog 29 #[.agg #[.float .f32 p0r0, .float .f32 p0r1, .float .f32 p0r2, .float .f32 p0r3], .agg #[.float .f32 p1r0, .float .f32 p1r1, .float .f32 p1r2, .float .f32 p1r3]] w fun e w' => e = .returned (.bool r) ∧ Ext w w' := by
  refine calls_of_W Try.func29 rfl (Nat.le_of_ble_eq_true rfl) ?_
  refine W_seq ?_
  refine W_region rfl ?_
  refine da_op rfl (d_box (cs := #[.float .f32 p0r0, .float .f32 p0r1, .float .f32 p0r2, .float .f32 p0r3]) rfl fun w1 B1 E1 => ?_)
  have own2 : w.heap.size ≤ w.heap.size := Nat.le_trans (Ext.refl w).size (Nat.le_refl _)
  have X3 : Ext w w1 := (Ext.refl w).trans E1
  refine da_op rfl (d_box (cs := #[.float .f32 p1r0, .float .f32 p1r1, .float .f32 p1r2, .float .f32 p1r3]) rfl fun w4 B4 E4 => ?_)
  have own5 : w.heap.size ≤ w1.heap.size := Nat.le_trans X3.size (Nat.le_refl _)
  have sp6 : w.heap.size ≠ w1.heap.size := Nat.ne_of_lt (Nat.lt_of_lt_of_le (lt_heap B1) (Nat.le_refl _))
  have X7 : Ext w w4 := X3.trans E4
  refine da_op rfl (d_as (v := .bool false) rfl ?_)
  refine da_nil ?_
  refine W_seq ?_
  refine W_seq ?_
  refine W_region rfl ?_
  refine da_op rfl (d_fieldAddr rfl (fa30_0 _ _) ?_)
  have B8 : w4.heap[w.heap.size]? = some (.cells #[.float .f32 p0r0, .float .f32 p0r1, .float .f32 p0r2, .float .f32 p0r3] 30 (0, 0)) := E4.heap B1
  refine da_op rfl (d_load (v := .float .f32 p0r0) rfl agg22 B8 rfl ?_)
  refine da_op rfl (d_widen un22 un95 rfl p0h0 fun r9 w9 h9 _ E9 => ?_)
  have X10 : Ext w w9 := X7.trans E9
  refine da_op rfl (d_fieldAddr rfl (fa30_0 _ _) ?_)
  have B11 : w9.heap[w1.heap.size]? = some (.cells #[.float .f32 p1r0, .float .f32 p1r1, .float .f32 p1r2, .float .f32 p1r3] 30 (0, 0)) := E9.heap B4
  refine da_op rfl (d_load (v := .float .f32 p1r0) rfl agg22 B11 rfl ?_)
  refine da_op rfl (d_widen un22 un95 rfl p1h0 fun r12 w12 h12 _ E12 => ?_)
  have X13 : Ext w w12 := X10.trans E12
  obtain ⟨m14, hm14, hr⟩ := letv_out hr
  have B15 : w12.heap[w.heap.size]? = some (.cells #[.float .f32 p0r0, .float .f32 p0r1, .float .f32 p0r2, .float .f32 p0r3] 30 (0, 0)) := E12.heap (E9.heap B8)
  have B16 : w12.heap[w1.heap.size]? = some (.cells #[.float .f32 p1r0, .float .f32 p1r1, .float .f32 p1r2, .float .f32 p1r3] 30 (0, 0)) := E12.heap B11
  refine da_op rfl (d_cl (vs := [.float .f64 r9, .float .f64 r12]) en57 (ac rfl (ac rfl rfl)) rfl ?_)
  refine (c57 (widen p0.w) (widen p1.w) r9 r12 m14 w12 hm14 h9 h12).mono ?_
  rintro _ w17 ⟨rfl, E17⟩
  refine ⟨_, rfl, ?_⟩
  have X18 : Ext w w17 := X13.trans E17
  refine da_op rfl (d_not rfl ?_)
  refine da_nil ?_
  refine W_cond (b := (!m14)) rfl (fun hc19 => ?_) (fun hc19 => ?_)
  · skip
    replace hr := bif_t hr hc19
    refine W_seq ?_
    refine W_region rfl ?_
    refine da_op rfl (d_as (v := .bool false) rfl ?_)
    refine da_nil ?_
    refine W_ret ?_
    subst hr
    refine ⟨_, res1 (rv_tmp rfl), ?_⟩
    exact ⟨rfl, X18⟩
  · skip
    replace hr := bif_f hr hc19
    refine W_skip ?_
    refine W_seq ?_
    refine W_seq ?_
    refine W_region rfl ?_
    refine da_op rfl (d_fieldAddr rfl (fa30_1 _ _) ?_)
    have B20 : w17.heap[w.heap.size]? = some (.cells #[.float .f32 p0r0, .float .f32 p0r1, .float .f32 p0r2, .float .f32 p0r3] 30 (0, 0)) := E17.heap B15
    refine da_op rfl (d_load (v := .float .f32 p0r1) rfl agg22 B20 rfl ?_)
    refine da_op rfl (d_widen un22 un95 rfl p0h1 fun r21 w21 h21 _ E21 => ?_)
    have X22 : Ext w w21 := X18.trans E21
    refine da_op rfl (d_fieldAddr rfl (fa30_1 _ _) ?_)
    have B23 : w21.heap[w1.heap.size]? = some (.cells #[.float .f32 p1r0, .float .f32 p1r1, .float .f32 p1r2, .float .f32 p1r3] 30 (0, 0)) := E21.heap (E17.heap B16)
    refine da_op rfl (d_load (v := .float .f32 p1r1) rfl agg22 B23 rfl ?_)
    refine da_op rfl (d_widen un22 un95 rfl p1h1 fun r24 w24 h24 _ E24 => ?_)
    have X25 : Ext w w24 := X22.trans E24
    obtain ⟨m26, hm26, hr⟩ := letv_out hr
    have B27 : w24.heap[w.heap.size]? = some (.cells #[.float .f32 p0r0, .float .f32 p0r1, .float .f32 p0r2, .float .f32 p0r3] 30 (0, 0)) := E24.heap (E21.heap B20)
    have B28 : w24.heap[w1.heap.size]? = some (.cells #[.float .f32 p1r0, .float .f32 p1r1, .float .f32 p1r2, .float .f32 p1r3] 30 (0, 0)) := E24.heap B23
    refine da_op rfl (d_cl (vs := [.float .f64 r21, .float .f64 r24]) en57 (ac rfl (ac rfl rfl)) rfl ?_)
    refine (c57 (widen p0.x) (widen p1.x) r21 r24 m26 w24 hm26 h21 h24).mono ?_
    rintro _ w29 ⟨rfl, E29⟩
    refine ⟨_, rfl, ?_⟩
    have X30 : Ext w w29 := X25.trans E29
    refine da_op rfl (d_not rfl ?_)
    refine da_nil ?_
    refine W_cond (b := (!m26)) rfl (fun hc31 => ?_) (fun hc31 => ?_)
    · skip
      replace hr := bif_t hr hc31
      refine W_seq ?_
      refine W_region rfl ?_
      refine da_op rfl (d_as (v := .bool false) rfl ?_)
      refine da_nil ?_
      refine W_ret ?_
      subst hr
      refine ⟨_, res1 (rv_tmp rfl), ?_⟩
      exact ⟨rfl, X30⟩
    · skip
      replace hr := bif_f hr hc31
      refine W_skip ?_
      refine W_seq ?_
      refine W_seq ?_
      refine W_region rfl ?_
      refine da_op rfl (d_fieldAddr rfl (fa30_2 _ _) ?_)
      have B32 : w29.heap[w.heap.size]? = some (.cells #[.float .f32 p0r0, .float .f32 p0r1, .float .f32 p0r2, .float .f32 p0r3] 30 (0, 0)) := E29.heap B27
      refine da_op rfl (d_load (v := .float .f32 p0r2) rfl agg22 B32 rfl ?_)
      refine da_op rfl (d_widen un22 un95 rfl p0h2 fun r33 w33 h33 _ E33 => ?_)
      have X34 : Ext w w33 := X30.trans E33
      refine da_op rfl (d_fieldAddr rfl (fa30_2 _ _) ?_)
      have B35 : w33.heap[w1.heap.size]? = some (.cells #[.float .f32 p1r0, .float .f32 p1r1, .float .f32 p1r2, .float .f32 p1r3] 30 (0, 0)) := E33.heap (E29.heap B28)
      refine da_op rfl (d_load (v := .float .f32 p1r2) rfl agg22 B35 rfl ?_)
      refine da_op rfl (d_widen un22 un95 rfl p1h2 fun r36 w36 h36 _ E36 => ?_)
      have X37 : Ext w w36 := X34.trans E36
      obtain ⟨m38, hm38, hr⟩ := letv_out hr
      have B39 : w36.heap[w.heap.size]? = some (.cells #[.float .f32 p0r0, .float .f32 p0r1, .float .f32 p0r2, .float .f32 p0r3] 30 (0, 0)) := E36.heap (E33.heap B32)
      have B40 : w36.heap[w1.heap.size]? = some (.cells #[.float .f32 p1r0, .float .f32 p1r1, .float .f32 p1r2, .float .f32 p1r3] 30 (0, 0)) := E36.heap B35
      refine da_op rfl (d_cl (vs := [.float .f64 r33, .float .f64 r36]) en57 (ac rfl (ac rfl rfl)) rfl ?_)
      refine (c57 (widen p0.y) (widen p1.y) r33 r36 m38 w36 hm38 h33 h36).mono ?_
      rintro _ w41 ⟨rfl, E41⟩
      refine ⟨_, rfl, ?_⟩
      have X42 : Ext w w41 := X37.trans E41
      refine da_op rfl (d_not rfl ?_)
      refine da_nil ?_
      refine W_cond (b := (!m38)) rfl (fun hc43 => ?_) (fun hc43 => ?_)
      · skip
        replace hr := bif_t hr hc43
        refine W_seq ?_
        refine W_region rfl ?_
        refine da_op rfl (d_as (v := .bool false) rfl ?_)
        refine da_nil ?_
        refine W_ret ?_
        subst hr
        refine ⟨_, res1 (rv_tmp rfl), ?_⟩
        exact ⟨rfl, X42⟩
      · skip
        replace hr := bif_f hr hc43
        refine W_skip ?_
        refine W_seq ?_
        refine W_seq ?_
        refine W_region rfl ?_
        refine da_op rfl (d_fieldAddr rfl (fa30_3 _ _) ?_)
        have B44 : w41.heap[w.heap.size]? = some (.cells #[.float .f32 p0r0, .float .f32 p0r1, .float .f32 p0r2, .float .f32 p0r3] 30 (0, 0)) := E41.heap B39
        refine da_op rfl (d_load (v := .float .f32 p0r3) rfl agg22 B44 rfl ?_)
        refine da_op rfl (d_widen un22 un95 rfl p0h3 fun r45 w45 h45 _ E45 => ?_)
        have X46 : Ext w w45 := X42.trans E45
        refine da_op rfl (d_fieldAddr rfl (fa30_3 _ _) ?_)
        have B47 : w45.heap[w1.heap.size]? = some (.cells #[.float .f32 p1r0, .float .f32 p1r1, .float .f32 p1r2, .float .f32 p1r3] 30 (0, 0)) := E45.heap (E41.heap B40)
        refine da_op rfl (d_load (v := .float .f32 p1r3) rfl agg22 B47 rfl ?_)
        refine da_op rfl (d_widen un22 un95 rfl p1h3 fun r48 w48 h48 _ E48 => ?_)
        have X49 : Ext w w48 := X46.trans E48
        obtain ⟨m50, hm50, hr⟩ := letv_out hr
        have B51 : w48.heap[w.heap.size]? = some (.cells #[.float .f32 p0r0, .float .f32 p0r1, .float .f32 p0r2, .float .f32 p0r3] 30 (0, 0)) := E48.heap (E45.heap B44)
        have B52 : w48.heap[w1.heap.size]? = some (.cells #[.float .f32 p1r0, .float .f32 p1r1, .float .f32 p1r2, .float .f32 p1r3] 30 (0, 0)) := E48.heap B47
        refine da_op rfl (d_cl (vs := [.float .f64 r45, .float .f64 r48]) en57 (ac rfl (ac rfl rfl)) rfl ?_)
        refine (c57 (widen p0.z) (widen p1.z) r45 r48 m50 w48 hm50 h45 h48).mono ?_
        rintro _ w53 ⟨rfl, E53⟩
        refine ⟨_, rfl, ?_⟩
        have X54 : Ext w w53 := X49.trans E53
        refine da_op rfl (d_not rfl ?_)
        refine da_nil ?_
        refine W_cond (b := (!m50)) rfl (fun hc55 => ?_) (fun hc55 => ?_)
        · skip
          replace hr := bif_t hr hc55
          refine W_seq ?_
          refine W_region rfl ?_
          refine da_op rfl (d_as (v := .bool false) rfl ?_)
          refine da_nil ?_
          refine W_ret ?_
          subst hr
          refine ⟨_, res1 (rv_tmp rfl), ?_⟩
          exact ⟨rfl, X54⟩
        · skip
          replace hr := bif_f hr hc55
          refine W_skip ?_
          refine W_seq ?_
          refine W_region rfl ?_
          refine da_op rfl (d_as (v := .bool true) rfl ?_)
          refine da_nil ?_
          refine W_ret ?_
          subst hr
          refine ⟨_, res1 (rv_tmp rfl), ?_⟩
          exact ⟨rfl, X54⟩
set_option maxHeartbeats 4000000 in
theorem c10 (p0 : STop) (p1 : STop) (p0r0 : Nat) (p0r1 : Nat) (p0r2 : Nat) (p0r3 : Nat) (p0r4 : Nat) (p0r5 : Nat) (p0r6 : Nat) (p0r7 : Nat) (p0r8 : Nat) (p0r9 : Nat) (p1r0 : Nat) (p1r1 : Nat) (p1r2 : Nat) (p1r3 : Nat) (p1r4 : Nat) (p1r5 : Nat) (p1r6 : Nat) (p1r7 : Nat) (p1r8 : Nat) (p1r9 : Nat) (r : Bool) (w : World) (hr : M.laws_eqTop p0 p1 = r) (p0h0 : cn .f32 p0r0 = p0.moments.x) (p0h1 : cn .f32 p0r1 = p0.moments.y) (p0h2 : cn .f32 p0r2 = p0.moments.z) (p0h3 : cn .f32 p0r3 = p0.turn.w) (p0h4 : cn .f32 p0r4 = p0.turn.x) (p0h5 : cn .f32 p0r5 = p0.turn.y) (p0h6 : cn .f32 p0r6 = p0.turn.z) (p0h7 : cn .f32 p0r7 = p0.speed.x) (p0h8 : cn .f32 p0r8 = p0.speed.y) (p0h9 : cn .f32 p0r9 = p0.speed.z) (p1h0 : cn .f32 p1r0 = p1.moments.x) (p1h1 : cn .f32 p1r1 = p1.moments.y) (p1h2 : cn .f32 p1r2 = p1.moments.z) (p1h3 : cn .f32 p1r3 = p1.turn.w) (p1h4 : cn .f32 p1r4 = p1.turn.x) (p1h5 : cn .f32 p1r5 = p1.turn.y) (p1h6 : cn .f32 p1r6 = p1.turn.z) (p1h7 : cn .f32 p1r7 = p1.speed.x) (p1h8 : cn .f32 p1r8 = p1.speed.y) (p1h9 : cn .f32 p1r9 = p1.speed.z) :
    Calls Try.prog 10 #[.agg #[.float .f32 p0r0, .float .f32 p0r1, .float .f32 p0r2, .float .f32 p0r3, .float .f32 p0r4, .float .f32 p0r5, .float .f32 p0r6, .float .f32 p0r7, .float .f32 p0r8, .float .f32 p0r9], .agg #[.float .f32 p1r0, .float .f32 p1r1, .float .f32 p1r2, .float .f32 p1r3, .float .f32 p1r4, .float .f32 p1r5, .float .f32 p1r6, .float .f32 p1r7, .float .f32 p1r8, .float .f32 p1r9]] w fun e w' => e = .returned (.bool r) ∧ Ext w w' := by
  refine calls_of_W Try.func10 rfl (Nat.le_of_ble_eq_true rfl) ?_
  refine W_seq ?_
  refine W_region rfl ?_
  refine da_op rfl (d_box (cs := #[.float .f32 p0r0, .float .f32 p0r1, .float .f32 p0r2, .float .f32 p0r3, .float .f32 p0r4, .float .f32 p0r5, .float .f32 p0r6, .float .f32 p0r7, .float .f32 p0r8, .float .f32 p0r9]) rfl fun w1 B1 E1 => ?_)
  have own2 : w.heap.size ≤ w.heap.size := Nat.le_trans (Ext.refl w).size (Nat.le_refl _)
  have X3 : Ext w w1 := (Ext.refl w).trans E1
  refine da_op rfl (d_box (cs := #[.float .f32 p1r0, .float .f32 p1r1, .float .f32 p1r2, .float .f32 p1r3, .float .f32 p1r4, .float .f32 p1r5, .float .f32 p1r6, .float .f32 p1r7, .float .f32 p1r8, .float .f32 p1r9]) rfl fun w4 B4 E4 => ?_)
  have own5 : w.heap.size ≤ w1.heap.size := Nat.le_trans X3.size (Nat.le_refl _)
  have sp6 : w.heap.size ≠ w1.heap.size := Nat.ne_of_lt (Nat.lt_of_lt_of_le (lt_heap B1) (Nat.le_refl _))
  have X7 : Ext w w4 := X3.trans E4
  refine da_op rfl (d_as (v := .bool false) rfl ?_)
  refine da_nil ?_
  refine W_seq ?_
  refine W_seq ?_
  refine W_region rfl ?_
  refine da_op rfl (d_fieldAddr rfl (fa32_0 _ _) ?_)
  have B8 : w4.heap[w.heap.size]? = some (.cells #[.float .f32 p0r0, .float .f32 p0r1, .float .f32 p0r2, .float .f32 p0r3, .float .f32 p0r4, .float .f32 p0r5, .float .f32 p0r6, .float .f32 p0r7, .float .f32 p0r8, .float .f32 p0r9] 32 (0, 0)) := E4.heap B1
  refine da_op rfl (d_loads (vs := #[.float .f32 p0r0, .float .f32 p0r1, .float .f32 p0r2]) rfl agg29 size29 B8 rfl ?_)
  refine da_op rfl (d_fieldAddr rfl (fa32_0 _ _) ?_)
  refine da_op rfl (d_loads (vs := #[.float .f32 p1r0, .float .f32 p1r1, .float .f32 p1r2]) rfl agg29 size29 B4 rfl ?_)
  obtain ⟨m9, hm9, hr⟩ := letv_out hr
  refine da_op rfl (d_cl (vs := [.agg #[.float .f32 p0r0, .float .f32 p0r1, .float .f32 p0r2], .agg #[.float .f32 p1r0, .float .f32 p1r1, .float .f32 p1r2]]) en28 (ac rfl (ac rfl rfl)) rfl ?_)
  refine (c28 (⟨p0.moments.x, p0.moments.y, p0.moments.z⟩ : SVector) (⟨p1.moments.x, p1.moments.y, p1.moments.z⟩ : SVector) p0r0 p0r1 p0r2 p1r0 p1r1 p1r2 m9 w4 hm9 p0h0 p0h1 p0h2 p1h0 p1h1 p1h2).mono ?_
  rintro _ w10 ⟨rfl, E10⟩
  refine ⟨_, rfl, ?_⟩
  have X11 : Ext w w10 := X7.trans E10
  refine da_op rfl (d_not rfl ?_)
  refine da_nil ?_
  refine W_cond (b := (!m9)) rfl (fun hc12 => ?_) (fun hc12 => ?_)
  · skip
    replace hr := bif_t hr hc12
    refine W_seq ?_
    refine W_region rfl ?_
    refine da_op rfl (d_as (v := .bool false) rfl ?_)
    refine da_nil ?_
    refine W_ret ?_
    subst hr
    refine ⟨_, res1 (rv_tmp rfl), ?_⟩
    exact ⟨rfl, X11⟩
  · skip
    replace hr := bif_f hr hc12
    refine W_skip ?_
    refine W_seq ?_
    refine W_seq ?_
    refine W_region rfl ?_
    refine da_op rfl (d_fieldAddr rfl (fa32_1 _ _) ?_)
    have B13 : w10.heap[w.heap.size]? = some (.cells #[.float .f32 p0r0, .float .f32 p0r1, .float .f32 p0r2, .float .f32 p0r3, .float .f32 p0r4, .float .f32 p0r5, .float .f32 p0r6, .float .f32 p0r7, .float .f32 p0r8, .float .f32 p0r9] 32 (0, 0)) := E10.heap B8
    refine da_op rfl (d_loads (vs := #[.float .f32 p0r3, .float .f32 p0r4, .float .f32 p0r5, .float .f32 p0r6]) rfl agg30 size30 B13 rfl ?_)
    refine da_op rfl (d_fieldAddr rfl (fa32_1 _ _) ?_)
    have B14 : w10.heap[w1.heap.size]? = some (.cells #[.float .f32 p1r0, .float .f32 p1r1, .float .f32 p1r2, .float .f32 p1r3, .float .f32 p1r4, .float .f32 p1r5, .float .f32 p1r6, .float .f32 p1r7, .float .f32 p1r8, .float .f32 p1r9] 32 (0, 0)) := E10.heap B4
    refine da_op rfl (d_loads (vs := #[.float .f32 p1r3, .float .f32 p1r4, .float .f32 p1r5, .float .f32 p1r6]) rfl agg30 size30 B14 rfl ?_)
    obtain ⟨m15, hm15, hr⟩ := letv_out hr
    refine da_op rfl (d_cl (vs := [.agg #[.float .f32 p0r3, .float .f32 p0r4, .float .f32 p0r5, .float .f32 p0r6], .agg #[.float .f32 p1r3, .float .f32 p1r4, .float .f32 p1r5, .float .f32 p1r6]]) en29 (ac rfl (ac rfl rfl)) rfl ?_)
    refine (c29 (⟨p0.turn.w, p0.turn.x, p0.turn.y, p0.turn.z⟩ : SSpin) (⟨p1.turn.w, p1.turn.x, p1.turn.y, p1.turn.z⟩ : SSpin) p0r3 p0r4 p0r5 p0r6 p1r3 p1r4 p1r5 p1r6 m15 w10 hm15 p0h3 p0h4 p0h5 p0h6 p1h3 p1h4 p1h5 p1h6).mono ?_
    rintro _ w16 ⟨rfl, E16⟩
    refine ⟨_, rfl, ?_⟩
    have X17 : Ext w w16 := X11.trans E16
    refine da_op rfl (d_not rfl ?_)
    refine da_nil ?_
    refine W_cond (b := (!m15)) rfl (fun hc18 => ?_) (fun hc18 => ?_)
    · skip
      replace hr := bif_t hr hc18
      refine W_seq ?_
      refine W_region rfl ?_
      refine da_op rfl (d_as (v := .bool false) rfl ?_)
      refine da_nil ?_
      refine W_ret ?_
      subst hr
      refine ⟨_, res1 (rv_tmp rfl), ?_⟩
      exact ⟨rfl, X17⟩
    · skip
      replace hr := bif_f hr hc18
      refine W_skip ?_
      refine W_seq ?_
      refine W_seq ?_
      refine W_region rfl ?_
      refine da_op rfl (d_fieldAddr rfl (fa32_2 _ _) ?_)
      have B19 : w16.heap[w.heap.size]? = some (.cells #[.float .f32 p0r0, .float .f32 p0r1, .float .f32 p0r2, .float .f32 p0r3, .float .f32 p0r4, .float .f32 p0r5, .float .f32 p0r6, .float .f32 p0r7, .float .f32 p0r8, .float .f32 p0r9] 32 (0, 0)) := E16.heap B13
      refine da_op rfl (d_loads (vs := #[.float .f32 p0r7, .float .f32 p0r8, .float .f32 p0r9]) rfl agg29 size29 B19 rfl ?_)
      refine da_op rfl (d_fieldAddr rfl (fa32_2 _ _) ?_)
      have B20 : w16.heap[w1.heap.size]? = some (.cells #[.float .f32 p1r0, .float .f32 p1r1, .float .f32 p1r2, .float .f32 p1r3, .float .f32 p1r4, .float .f32 p1r5, .float .f32 p1r6, .float .f32 p1r7, .float .f32 p1r8, .float .f32 p1r9] 32 (0, 0)) := E16.heap B14
      refine da_op rfl (d_loads (vs := #[.float .f32 p1r7, .float .f32 p1r8, .float .f32 p1r9]) rfl agg29 size29 B20 rfl ?_)
      obtain ⟨m21, hm21, hr⟩ := letv_out hr
      refine da_op rfl (d_cl (vs := [.agg #[.float .f32 p0r7, .float .f32 p0r8, .float .f32 p0r9], .agg #[.float .f32 p1r7, .float .f32 p1r8, .float .f32 p1r9]]) en28 (ac rfl (ac rfl rfl)) rfl ?_)
      refine (c28 (⟨p0.speed.x, p0.speed.y, p0.speed.z⟩ : SVector) (⟨p1.speed.x, p1.speed.y, p1.speed.z⟩ : SVector) p0r7 p0r8 p0r9 p1r7 p1r8 p1r9 m21 w16 hm21 p0h7 p0h8 p0h9 p1h7 p1h8 p1h9).mono ?_
      rintro _ w22 ⟨rfl, E22⟩
      refine ⟨_, rfl, ?_⟩
      have X23 : Ext w w22 := X17.trans E22
      refine da_op rfl (d_not rfl ?_)
      refine da_nil ?_
      refine W_cond (b := (!m21)) rfl (fun hc24 => ?_) (fun hc24 => ?_)
      · skip
        replace hr := bif_t hr hc24
        refine W_seq ?_
        refine W_region rfl ?_
        refine da_op rfl (d_as (v := .bool false) rfl ?_)
        refine da_nil ?_
        refine W_ret ?_
        subst hr
        refine ⟨_, res1 (rv_tmp rfl), ?_⟩
        exact ⟨rfl, X23⟩
      · skip
        replace hr := bif_f hr hc24
        refine W_skip ?_
        refine W_seq ?_
        refine W_region rfl ?_
        refine da_op rfl (d_as (v := .bool true) rfl ?_)
        refine da_nil ?_
        refine W_ret ?_
        subst hr
        refine ⟨_, res1 (rv_tmp rfl), ?_⟩
        exact ⟨rfl, X23⟩
set_option maxHeartbeats 4000000 in
theorem c11 (p0 : List SVector) (p1 : List SVector) (p0v : Value) (p1v : Value) (r : Bool) (w : World) (hr : M.laws_eqVectorS p0 p1 = some r) (p0R : RS w encSVector p0v p0) (p1R : RS w encSVector p1v p1) :
    Calls Try.prog 11 #[p0v, p1v] w fun e w' => e = .returned (.bool r) ∧ Ext w w' := by
  refine calls_of_W Try.func11 rfl (Nat.le_of_ble_eq_true rfl) ?_
  refine W_seq ?_
  refine W_region rfl ?_
  refine da_op rfl (d_as (v := .bool false) rfl ?_)
  refine da_nil ?_
  refine W_seq ?_
  refine W_seq ?_
  refine W_region rfl ?_
  refine da_op rfl (d_mv (v := p0v) rfl ?_)
  refine da_op rfl (d_len (e := encSVector) un33 rfl p0R ?_)
  refine da_op rfl (d_mv (v := p1v) rfl ?_)
  refine da_op rfl (d_len (e := encSVector) un33 rfl p1R ?_)
  refine da_op rfl (d_icmp cNeq rfl rfl ?_)
  refine da_nil ?_
  refine W_cond (b := (icmp .neq ((p0).length : Int) ((p1).length : Int))) rfl (fun hc1 => ?_) (fun hc1 => ?_)
  · skip
    replace hr := bif_t hr hc1
    refine W_seq ?_
    refine W_region rfl ?_
    refine da_op rfl (d_as (v := .bool false) rfl ?_)
    refine da_nil ?_
    refine W_ret ?_
    obtain rfl := Option.some.inj hr
    refine ⟨_, res1 (rv_tmp rfl), ?_⟩
    exact ⟨rfl, (Ext.refl w)⟩
  · skip
    replace hr := bif_f hr hc1
    refine W_skip ?_
    refine W_seq ?_
    refine W_seq ?_
    refine W_region rfl ?_
    refine da_op rfl (d_as (v := .int .i64 0) rfl ?_)
    refine da_nil ?_
    refine W_block ?_
    obtain ⟨m2, hm2, hr⟩ := bind_out hr
    refine W_loopM hm2 (fun (s2 : Int) σ w' => σ 5 = .int .i64 s2 ∧ σ 0 = p0v ∧ σ 1 = p1v ∧ Ext w w') (fun (e2 : (Unit ⊕ Bool)) ex σ w' => sel e2 (fun e2 => ex = .exit 0 ∧ Ext w w') (fun e2 => ex = .ret ∧ σ 4 = .bool e2 ∧ Ext w w')) ⟨rfl, rfl, rfl, (Ext.refl w)⟩ ?_ ?_
    · skip
      rintro s2 σl2 wl2 r2l ⟨i2_S5, i2_S0, i2_S1, i2_X⟩ hr
      refine W_seq ?_
      refine W_seq ?_
      refine W_region rfl ?_
      refine da_op rfl (d_mv (v := .int .i64 s2) i2_S5 ?_)
      refine da_op rfl (d_mv (v := p0v) i2_S0 ?_)
      have B3 : RS wl2 encSVector p0v p0 := p0R.ext i2_X
      refine da_op rfl (d_len (e := encSVector) un33 rfl B3 ?_)
      refine da_op rfl (d_icmp cLss rfl rfl ?_)
      refine da_nil ?_
      refine W_cond (b := (icmp .lss s2 ((p0).length : Int))) rfl (fun hc4 => ?_) (fun hc4 => ?_)
      · skip
        replace hr := bif_t hr hc4
        refine W_skip ?_
        refine W_seq ?_
        refine W_block ?_
        refine W_seq ?_
        have B6 : RS wl2 encSVector p1v p1 := p1R.ext i2_X
        obtain ⟨m7, hm7, hr⟩ := bind_out hr
        obtain ⟨m8, hm8, hr⟩ := bind_out hr
        obtain ⟨m9, hm9, hr⟩ := letv_out hr
        refine W_any [] [{ V := fun _ v _ => v = p0v }, { V := fun _ v _ => v = (.int .i64 s2) }, { V := fun _ v _ => ∃ d5_2g : Nat, ∃ d5_2o : Nat, v = (.pointer (some ⟨d5_2g, d5_2o, none⟩)) ∧ EL encSVector p0v (p0).length s2 d5_2g d5_2o }, { V := fun _ v _ => ∃ d5_2r0 : Nat, ∃ d5_2r1 : Nat, ∃ d5_2r2 : Nat, v = (.agg #[.float .f32 d5_2r0, .float .f32 d5_2r1, .float .f32 d5_2r2]) ∧ cn .f32 d5_2r0 = m7.x ∧ cn .f32 d5_2r1 = m7.y ∧ cn .f32 d5_2r2 = m7.z }, { V := fun _ v _ => v = p1v }, { V := fun _ v _ => v = (.int .i64 s2) }, { V := fun _ v _ => ∃ d5_6g : Nat, ∃ d5_6o : Nat, v = (.pointer (some ⟨d5_6g, d5_6o, none⟩)) ∧ EL encSVector p1v (p1).length s2 d5_6g d5_6o }, { V := fun _ v _ => ∃ d5_6r0 : Nat, ∃ d5_6r1 : Nat, ∃ d5_6r2 : Nat, v = (.agg #[.float .f32 d5_6r0, .float .f32 d5_6r1, .float .f32 d5_6r2]) ∧ cn .f32 d5_6r0 = m8.x ∧ cn .f32 d5_6r1 = m8.y ∧ cn .f32 d5_6r2 = m8.z }, { V := fun _ v _ => v = (.bool m9) }, { V := fun _ v _ => v = (.bool (!m9)) }] mixed (by kernel_rfl) ⟨trivial, trivial, trivial, trivial, trivial, trivial, trivial, trivial, trivial, trivial, trivial⟩ ⟨?_, ?_, ?_, ?_, ?_, ?_, ?_, ?_, ?_, ?_, trivial⟩ ?_
        · skip
          refine ⟨fun _ _ _ _ _ _ h _ => h, fun _ _ h _ => h, fun σ' w' hA hE hD hP => ?_⟩
          have t0 : σ' 0 = p0v := (hA 0 rfl).trans i2_S0
          have B0_10 : RS w' encSVector p0v p0 := B3.frm hE (fun k _ hk => not_oth0)
          refine dg_op rfl (d_mv (v := p0v) t0 ?_)
          exact ⟨rfl, own_none (Ext.refl w')⟩
        · skip
          refine ⟨fun _ _ _ _ _ _ h _ => h, fun _ _ h _ => h, fun σ' w' hA hE hD hP => ?_⟩
          have t5 : σ' 5 = .int .i64 s2 := (hA 5 rfl).trans i2_S5
          refine dg_op rfl (d_mv (v := .int .i64 s2) t5 ?_)
          exact ⟨rfl, own_none (Ext.refl w')⟩
        · skip
          refine ⟨fun _ _ _ _ _ _ h _ => h, fun _ _ h _ => h, fun σ' w' hA hE hD hP => ?_⟩
          have t17 : σ' 17 = p0v := hD 0 rfl
          have t18 : σ' 18 = (.int .i64 s2) := hD 1 rfl
          have B0_11 : RS w' encSVector p0v p0 := B3.frm hE (fun k _ hk => not_oth0)
          refine dg_op rfl (d_indexE (e := encSVector) (v := p0v) un33 size29 t17 t18 B0_11 hm7 fun g12 o12 l12 => ?_)
          exact ⟨⟨g12, o12, rfl, l12⟩, own_none (Ext.refl _)⟩
        · skip
          refine ⟨fun _ _ _ _ _ _ h _ => h, fun _ _ h _ => h, fun σ' w' hA hE hD hP => ?_⟩
          obtain ⟨d5_2g, d5_2o, t19, d5_2gE⟩ : ∃ d5_2g : Nat, ∃ d5_2o : Nat, σ' 19 = (.pointer (some ⟨d5_2g, d5_2o, none⟩)) ∧ EL encSVector p0v (p0).length s2 d5_2g d5_2o := hD 2 rfl
          have B0_13 : RS w' encSVector p0v p0 := B3.frm hE (fun k _ hk => not_oth0)
          obtain ⟨d5_2c, d5_2T, d5_2f, d5_2vs, d5_2hg, d5_2P, d5_2hq⟩ := RS.el B0_13 d5_2gE hm7
          obtain ⟨d5_2r0, d5_2r1, d5_2r2, rfl, d5_2h0, d5_2h1, d5_2h2⟩ := dec_encSVector d5_2hq
          refine dg_op rfl (d_loads (vs := #[.float .f32 d5_2r0, .float .f32 d5_2r1, .float .f32 d5_2r2]) t19 agg29 size29 d5_2hg (sub_take (vs := #[.float .f32 d5_2r0, .float .f32 d5_2r1, .float .f32 d5_2r2]) (us := #[.float .f32 d5_2r0, .float .f32 d5_2r1, .float .f32 d5_2r2]) (i := 0) d5_2P rfl (Nat.le_of_ble_eq_true rfl)) ?_)
          exact ⟨⟨d5_2r0, d5_2r1, d5_2r2, rfl, d5_2h0, d5_2h1, d5_2h2⟩, own_none (Ext.refl w')⟩
        · skip
          refine ⟨fun _ _ _ _ _ _ h _ => h, fun _ _ h _ => h, fun σ' w' hA hE hD hP => ?_⟩
          have t1 : σ' 1 = p1v := (hA 1 rfl).trans i2_S1
          have B0_14 : RS w' encSVector p1v p1 := B6.frm hE (fun k _ hk => not_oth0)
          refine dg_op rfl (d_mv (v := p1v) t1 ?_)
          exact ⟨rfl, own_none (Ext.refl w')⟩
        · skip
          refine ⟨fun _ _ _ _ _ _ h _ => h, fun _ _ h _ => h, fun σ' w' hA hE hD hP => ?_⟩
          have t5 : σ' 5 = .int .i64 s2 := (hA 5 rfl).trans i2_S5
          refine dg_op rfl (d_mv (v := .int .i64 s2) t5 ?_)
          exact ⟨rfl, own_none (Ext.refl w')⟩
        · skip
          refine ⟨fun _ _ _ _ _ _ h _ => h, fun _ _ h _ => h, fun σ' w' hA hE hD hP => ?_⟩
          have t21 : σ' 21 = p1v := hD 4 rfl
          have t22 : σ' 22 = (.int .i64 s2) := hD 5 rfl
          have B0_15 : RS w' encSVector p1v p1 := B6.frm hE (fun k _ hk => not_oth0)
          refine dg_op rfl (d_indexE (e := encSVector) (v := p1v) un33 size29 t21 t22 B0_15 hm8 fun g16 o16 l16 => ?_)
          exact ⟨⟨g16, o16, rfl, l16⟩, own_none (Ext.refl _)⟩
        · skip
          refine ⟨fun _ _ _ _ _ _ h _ => h, fun _ _ h _ => h, fun σ' w' hA hE hD hP => ?_⟩
          obtain ⟨d5_6g, d5_6o, t23, d5_6gE⟩ : ∃ d5_6g : Nat, ∃ d5_6o : Nat, σ' 23 = (.pointer (some ⟨d5_6g, d5_6o, none⟩)) ∧ EL encSVector p1v (p1).length s2 d5_6g d5_6o := hD 6 rfl
          have B0_17 : RS w' encSVector p1v p1 := B6.frm hE (fun k _ hk => not_oth0)
          obtain ⟨d5_6c, d5_6T, d5_6f, d5_6vs, d5_6hg, d5_6P, d5_6hq⟩ := RS.el B0_17 d5_6gE hm8
          obtain ⟨d5_6r0, d5_6r1, d5_6r2, rfl, d5_6h0, d5_6h1, d5_6h2⟩ := dec_encSVector d5_6hq
          refine dg_op rfl (d_loads (vs := #[.float .f32 d5_6r0, .float .f32 d5_6r1, .float .f32 d5_6r2]) t23 agg29 size29 d5_6hg (sub_take (vs := #[.float .f32 d5_6r0, .float .f32 d5_6r1, .float .f32 d5_6r2]) (us := #[.float .f32 d5_6r0, .float .f32 d5_6r1, .float .f32 d5_6r2]) (i := 0) d5_6P rfl (Nat.le_of_ble_eq_true rfl)) ?_)
          exact ⟨⟨d5_6r0, d5_6r1, d5_6r2, rfl, d5_6h0, d5_6h1, d5_6h2⟩, own_none (Ext.refl w')⟩
        · skip
          refine ⟨fun _ _ _ _ _ _ h _ => h, fun _ _ h _ => h, fun σ' w' hA hE hD hP => ?_⟩
          obtain ⟨d5_2r0, d5_2r1, d5_2r2, t20, d5_2h0, d5_2h1, d5_2h2⟩ : ∃ d5_2r0 : Nat, ∃ d5_2r1 : Nat, ∃ d5_2r2 : Nat, σ' 20 = (.agg #[.float .f32 d5_2r0, .float .f32 d5_2r1, .float .f32 d5_2r2]) ∧ cn .f32 d5_2r0 = m7.x ∧ cn .f32 d5_2r1 = m7.y ∧ cn .f32 d5_2r2 = m7.z := hD 3 rfl
          obtain ⟨d5_6r0, d5_6r1, d5_6r2, t24, d5_6h0, d5_6h1, d5_6h2⟩ : ∃ d5_6r0 : Nat, ∃ d5_6r1 : Nat, ∃ d5_6r2 : Nat, σ' 24 = (.agg #[.float .f32 d5_6r0, .float .f32 d5_6r1, .float .f32 d5_6r2]) ∧ cn .f32 d5_6r0 = m8.x ∧ cn .f32 d5_6r1 = m8.y ∧ cn .f32 d5_6r2 = m8.z := hD 7 rfl
          refine dg_op rfl (d_cl (vs := [.agg #[.float .f32 d5_2r0, .float .f32 d5_2r1, .float .f32 d5_2r2], .agg #[.float .f32 d5_6r0, .float .f32 d5_6r1, .float .f32 d5_6r2]]) en28 (ac t20 (ac t24 rfl)) rfl ?_)
          refine (c28 m7 m8 d5_2r0 d5_2r1 d5_2r2 d5_6r0 d5_6r1 d5_6r2 m9 w' hm9 d5_2h0 d5_2h1 d5_2h2 d5_6h0 d5_6h1 d5_6h2).mono ?_
          rintro _ w18 ⟨rfl, E18⟩
          refine ⟨_, rfl, ?_⟩
          have X19 : Ext w' w18 := (Ext.refl w').trans E18
          exact ⟨rfl, own_none X19⟩
        · skip
          refine ⟨fun _ _ _ _ _ _ h _ => h, fun _ _ h _ => h, fun σ' w' hA hE hD hP => ?_⟩
          have t25 : σ' 25 = (.bool m9) := hD 8 rfl
          refine dg_op rfl (d_not t25 ?_)
          exact ⟨rfl, own_none (Ext.refl w')⟩
        · skip
          intro σ5 w5 A5 E5 V5
          have E5x : Ext wl2 w5 := ext_of_oth0 E5
          have s26_5 : σ5 26 = (.bool (!m9)) := V5 9 (Nat.le_of_ble_eq_true rfl)
          have s5_5 : σ5 5 = .int .i64 s2 := (A5 5 rfl).trans i2_S5
          have s0_5 : σ5 0 = p0v := (A5 0 rfl).trans i2_S0
          have s1_5 : σ5 1 = p1v := (A5 1 rfl).trans i2_S1
          have X20 : Ext w w5 := i2_X.trans E5x
          refine W_cond (b := (!m9)) s26_5 (fun hc21 => ?_) (fun hc21 => ?_)
          · skip
            replace hr := bif_t hr hc21
            refine W_seq ?_
            refine W_region rfl ?_
            refine da_op rfl (d_as (v := .bool false) rfl ?_)
            refine da_nil ?_
            refine W_ret ?_
            obtain rfl := Option.some.inj hr
            exact ⟨_, rfl, rfl, rfl, X20⟩
          · skip
            replace hr := bif_f hr hc21
            refine W_skip ?_
            refine W_region rfl ?_
            refine da_op rfl (d_mv (v := .int .i64 s2) s5_5 ?_)
            refine da_op rfl (d_iarith rfl rfl (.inl ⟨rfl, rfl⟩) ?_)
            refine da_op rfl (d_as (v := .int .i64 (IntKind.i64.wrap (s2 + 1))) rfl ?_)
            refine da_nil ?_
            obtain rfl := Option.some.inj hr
            exact ⟨_, rfl, ⟨rfl, s0_5, s1_5, X20⟩⟩
      · skip
        replace hr := bif_f hr hc4
        refine W_exit ?_
        obtain rfl := Option.some.inj hr
        exact ⟨_, rfl, rfl, i2_X⟩
    · skip
      intro ex σx2 wx2 hq
      rcases m2 with m2 | m2
      · skip
        obtain ⟨rfl, q2_0_X⟩ := hq
        refine W_seq ?_
        refine W_region rfl ?_
        refine da_op rfl (d_as (v := .bool true) rfl ?_)
        refine da_nil ?_
        refine W_ret ?_
        obtain rfl := Option.some.inj hr
        refine ⟨_, res1 (rv_tmp rfl), ?_⟩
        exact ⟨rfl, q2_0_X⟩
      · skip
        obtain ⟨rfl, q2_1_S4, q2_1_X⟩ := hq
        obtain rfl := Option.some.inj hr
        refine ⟨_, res1 (rv_tmp q2_1_S4), ?_⟩
        exact ⟨rfl, q2_1_X⟩
set_option maxHeartbeats 4000000 in
theorem c12 (p0 : List SVector) (p1 : Int) (p0v : Value) (r : Int × List SVector) (w : World) (hr : M.laws_markVectorS p0 p1 = some r) (p0R : OS w 29 encSVector p0v p0) :
    Calls Try.prog 12 #[p0v, .int .i64 p1] w fun e w' => e = .returned (.int .i64 r.1) ∧ OS w' 29 encSVector p0v r.2 ∧ Frm (fun k _ => p0v.ownBlock = some k) w w' := by
  refine calls_of_W Try.func12 rfl (Nat.le_of_ble_eq_true rfl) ?_
  refine W_seq ?_
  refine W_region rfl ?_
  refine da_op rfl (d_as (v := .int .i64 0) rfl ?_)
  refine da_nil ?_
  refine W_seq ?_
  refine W_seq ?_
  refine W_region rfl ?_
  refine da_op rfl (d_as (v := .int .i64 0) rfl ?_)
  refine da_nil ?_
  refine W_block ?_
  obtain ⟨m1, hm1, hr⟩ := bind_out hr
  refine W_loopM hm1 (fun (s1 : Int × Int × List SVector) σ w' => σ 1 = .int .i64 s1.1 ∧ σ 5 = .int .i64 s1.2.1 ∧ σ 0 = p0v ∧ OS w' 29 encSVector p0v s1.2.2 ∧ Frm (fun k _ => p0v.ownBlock = some k) w w') (fun (e1 : (Int × List SVector)) ex σ w' => ex = .exit 0 ∧ σ 1 = .int .i64 e1.1 ∧ OS w' 29 encSVector p0v e1.2 ∧ Frm (fun k _ => p0v.ownBlock = some k) w w') ⟨rfl, rfl, rfl, p0R, (Frm.refl _ w)⟩ ?_ ?_
  · skip
    rintro s1 σl1 wl1 r1l ⟨i1_S1, i1_S5, i1_S0, i1_2R, i1_X⟩ hr
    refine W_seq ?_
    refine W_seq ?_
    refine W_region rfl ?_
    refine da_op rfl (d_mv (v := .int .i64 s1.2.1) i1_S5 ?_)
    refine da_op rfl (d_mv (v := p0v) i1_S0 ?_)
    refine da_op rfl (d_len (e := encSVector) un33 rfl i1_2R.rs ?_)
    refine da_op rfl (d_icmp cLss rfl rfl ?_)
    refine da_nil ?_
    refine W_cond (b := (icmp .lss s1.2.1 ((s1.2.2).length : Int))) rfl (fun hc2 => ?_) (fun hc2 => ?_)
    · skip
      replace hr := bif_t hr hc2
      refine W_skip ?_
      refine W_seq ?_
      refine W_block ?_
      refine W_seq ?_
      refine W_region rfl ?_
      refine da_op rfl (d_mv (v := p0v) i1_S0 ?_)
      refine da_op rfl (d_mv (v := .int .i64 s1.2.1) i1_S5 ?_)
      refine da_op rfl (d_mv (v := .int .i64 s1.1) i1_S1 ?_)
      refine da_op rfl (d_ofInt un3 un22 rfl ?_)
      obtain ⟨m3, hm3, hr⟩ := bind_out hr
      refine da_op rfl (d_indexO (e := encSVector) (v := p0v) un33 size29 rfl rfl i1_2R hm3 fun g4 fr4 cu4 vs4 hv4 hg4 hp4 hq4 => ?_)
      obtain ⟨e4_r0, e4_r1, e4_r2, rfl, e4_h0, e4_h1, e4_h2⟩ := dec_encSVector hq4
      refine da_op rfl (d_fieldAddr rfl (fa29_0 _ _) ?_)
      refine da_op rfl (d_store_elem (e := encSVector) (i := s1.2.1) (k := 0) (old := [.float .f32 e4_r0, .float .f32 e4_r1, .float .f32 e4_r2]) (vs := #[.float .f32 (fint .f32 s1.1)]) (new := [.float .f32 (fint .f32 s1.1), .float .f32 e4_r1, .float .f32 e4_r2]) (x2 := (⟨(fint .f32 s1.1), m3.y, m3.z⟩ : SVector)) rfl rfl hv4 i1_2R hg4 hp4 hm3 size22 (by kernel_rfl) (Nat.le_of_ble_eq_true rfl) rfl rfl (lc_f (cn_fint _ _) (lc_f e4_h1 (lc_f e4_h2 rfl))) rfl fun w5 S5 O6 => ?_)
      have X7 : Frm (fun k _ => p0v.ownBlock = some k) w w5 := Frm.step i1_X S5.frmb (fun k _ hk => .inl (by rw [hv4, hk]; rfl))
      refine da_nil ?_
      refine W_seq ?_
      refine W_region rfl ?_
      refine da_op rfl (d_mv (v := .int .i64 s1.1) i1_S1 ?_)
      refine da_op rfl (d_iarith rfl rfl (.inl ⟨rfl, rfl⟩) ?_)
      refine da_op rfl (d_as (v := .int .i64 (IntKind.i64.wrap (s1.1 + 1))) rfl ?_)
      refine da_nil ?_
      refine W_seq ?_
      refine W_region rfl ?_
      refine da_op rfl (d_mv (v := p0v) i1_S0 ?_)
      refine da_op rfl (d_mv (v := .int .i64 s1.2.1) i1_S5 ?_)
      refine da_op rfl (d_mv (v := .int .i64 (IntKind.i64.wrap (s1.1 + 1))) rfl ?_)
      refine da_op rfl (d_ofInt un3 un22 rfl ?_)
      obtain ⟨m8, hm8, hr⟩ := bind_out hr
      refine da_op rfl (d_indexO (e := encSVector) (v := p0v) un33 size29 rfl rfl O6 hm8 fun g9 fr9 cu9 vs9 hv9 hg9 hp9 hq9 => ?_)
      obtain ⟨e9_r0, e9_r1, e9_r2, rfl, e9_h0, e9_h1, e9_h2⟩ := dec_encSVector hq9
      refine da_op rfl (d_fieldAddr rfl (fa29_1 _ _) ?_)
      refine da_op rfl (d_store_elem (e := encSVector) (i := s1.2.1) (k := 1) (old := [.float .f32 e9_r0, .float .f32 e9_r1, .float .f32 e9_r2]) (vs := #[.float .f32 (fint .f32 (IntKind.i64.wrap (s1.1 + 1)))]) (new := [.float .f32 e9_r0, .float .f32 (fint .f32 (IntKind.i64.wrap (s1.1 + 1))), .float .f32 e9_r2]) (x2 := (⟨m8.x, (fint .f32 (IntKind.i64.wrap (s1.1 + 1))), m8.z⟩ : SVector)) rfl rfl hv9 O6 hg9 hp9 hm8 size22 (by kernel_rfl) (Nat.le_of_ble_eq_true rfl) rfl rfl (lc_f e9_h0 (lc_f (cn_fint _ _) (lc_f e9_h2 rfl))) rfl fun w10 S10 O11 => ?_)
      have X12 : Frm (fun k _ => p0v.ownBlock = some k) w w10 := Frm.step X7 S10.frmb (fun k _ hk => .inl (by rw [hv9, hk]; rfl))
      refine da_nil ?_
      refine W_seq ?_
      refine W_region rfl ?_
      refine da_op rfl (d_mv (v := .int .i64 (IntKind.i64.wrap (s1.1 + 1))) rfl ?_)
      refine da_op rfl (d_iarith rfl rfl (.inl ⟨rfl, rfl⟩) ?_)
      refine da_op rfl (d_as (v := .int .i64 (IntKind.i64.wrap ((IntKind.i64.wrap (s1.1 + 1)) + 1))) rfl ?_)
      refine da_nil ?_
      refine W_seq ?_
      refine W_region rfl ?_
      refine da_op rfl (d_mv (v := p0v) i1_S0 ?_)
      refine da_op rfl (d_mv (v := .int .i64 s1.2.1) i1_S5 ?_)
      refine da_op rfl (d_mv (v := .int .i64 (IntKind.i64.wrap ((IntKind.i64.wrap (s1.1 + 1)) + 1))) rfl ?_)
      refine da_op rfl (d_ofInt un3 un22 rfl ?_)
      obtain ⟨m13, hm13, hr⟩ := bind_out hr
      refine da_op rfl (d_indexO (e := encSVector) (v := p0v) un33 size29 rfl rfl O11 hm13 fun g14 fr14 cu14 vs14 hv14 hg14 hp14 hq14 => ?_)
      obtain ⟨e14_r0, e14_r1, e14_r2, rfl, e14_h0, e14_h1, e14_h2⟩ := dec_encSVector hq14
      refine da_op rfl (d_fieldAddr rfl (fa29_2 _ _) ?_)
      refine da_op rfl (d_store_elem (e := encSVector) (i := s1.2.1) (k := 2) (old := [.float .f32 e14_r0, .float .f32 e14_r1, .float .f32 e14_r2]) (vs := #[.float .f32 (fint .f32 (IntKind.i64.wrap ((IntKind.i64.wrap (s1.1 + 1)) + 1)))]) (new := [.float .f32 e14_r0, .float .f32 e14_r1, .float .f32 (fint .f32 (IntKind.i64.wrap ((IntKind.i64.wrap (s1.1 + 1)) + 1)))]) (x2 := (⟨m13.x, m13.y, (fint .f32 (IntKind.i64.wrap ((IntKind.i64.wrap (s1.1 + 1)) + 1)))⟩ : SVector)) rfl rfl hv14 O11 hg14 hp14 hm13 size22 (by kernel_rfl) (Nat.le_of_ble_eq_true rfl) rfl rfl (lc_f e14_h0 (lc_f e14_h1 (lc_f (cn_fint _ _) rfl))) rfl fun w15 S15 O16 => ?_)
      have X17 : Frm (fun k _ => p0v.ownBlock = some k) w w15 := Frm.step X12 S15.frmb (fun k _ hk => .inl (by rw [hv14, hk]; rfl))
      refine da_nil ?_
      refine W_region rfl ?_
      refine da_op rfl (d_mv (v := .int .i64 (IntKind.i64.wrap ((IntKind.i64.wrap (s1.1 + 1)) + 1))) rfl ?_)
      refine da_op rfl (d_iarith rfl rfl (.inl ⟨rfl, rfl⟩) ?_)
      refine da_op rfl (d_as (v := .int .i64 (IntKind.i64.wrap ((IntKind.i64.wrap ((IntKind.i64.wrap (s1.1 + 1)) + 1)) + 1))) rfl ?_)
      refine da_nil ?_
      refine W_region rfl ?_
      refine da_op rfl (d_mv (v := .int .i64 s1.2.1) i1_S5 ?_)
      refine da_op rfl (d_iarith rfl rfl (.inl ⟨rfl, rfl⟩) ?_)
      refine da_op rfl (d_as (v := .int .i64 (IntKind.i64.wrap (s1.2.1 + 1))) rfl ?_)
      refine da_nil ?_
      obtain rfl := Option.some.inj hr
      exact ⟨_, rfl, ⟨rfl, rfl, i1_S0, O16, X17⟩⟩
    · skip
      replace hr := bif_f hr hc2
      refine W_exit ?_
      obtain rfl := Option.some.inj hr
      exact ⟨_, rfl, rfl, i1_S1, i1_2R, i1_X⟩
  · skip
    intro ex σx1 wx1 hq
    obtain ⟨rfl, q1_0_S1, q1_0_1R, q1_0_X⟩ := hq
    refine W_seq ?_
    refine W_region rfl ?_
    refine da_op rfl (d_mv (v := .int .i64 m1.1) q1_0_S1 ?_)
    refine da_op rfl (d_as (v := .int .i64 m1.1) rfl ?_)
    refine da_nil ?_
    refine W_ret ?_
    obtain rfl := Option.some.inj hr
    refine ⟨_, res1 (rv_tmp rfl), ?_⟩
    exact ⟨rfl, q1_0_1R, q1_0_X⟩
set_option maxHeartbeats 4000000 in
theorem c13 (p0 : List SVector) (p1 : Int) (p0v : Value) (r : Int) (w : World) (hr : M.laws_heldVectorS p0 p1 = some r) (p0R : RS w encSVector p0v p0) :
    Calls Try.prog 13 #[p0v, .int .i64 p1] w fun e w' => e = .returned (.int .i64 r) ∧ Ext w w' := by
  refine calls_of_W Try.func13 rfl (Nat.le_of_ble_eq_true rfl) ?_
  refine W_seq ?_
  refine W_region rfl ?_
  refine da_op rfl (d_as (v := .int .i64 0) rfl ?_)
  refine da_nil ?_
  refine W_seq ?_
  refine W_seq ?_
  refine W_region rfl ?_
  refine da_op rfl (d_as (v := .int .i64 0) rfl ?_)
  refine da_nil ?_
  refine W_block ?_
  obtain ⟨m1, hm1, hr⟩ := bind_out hr
  refine W_loopM hm1 (fun (s1 : Int × Int) σ w' => σ 1 = .int .i64 s1.1 ∧ σ 5 = .int .i64 s1.2 ∧ σ 0 = p0v ∧ Ext w w') (fun (e1 : (Int ⊕ Int)) ex σ w' => sel e1 (fun e1 => ex = .exit 0 ∧ σ 1 = .int .i64 e1 ∧ Ext w w') (fun e1 => ex = .ret ∧ σ 4 = .int .i64 e1 ∧ Ext w w')) ⟨rfl, rfl, rfl, (Ext.refl w)⟩ ?_ ?_
  · skip
    rintro s1 σl1 wl1 r1l ⟨i1_S1, i1_S5, i1_S0, i1_X⟩ hr
    refine W_seq ?_
    refine W_seq ?_
    refine W_region rfl ?_
    refine da_op rfl (d_mv (v := .int .i64 s1.2) i1_S5 ?_)
    refine da_op rfl (d_mv (v := p0v) i1_S0 ?_)
    have B2 : RS wl1 encSVector p0v p0 := p0R.ext i1_X
    refine da_op rfl (d_len (e := encSVector) un33 rfl B2 ?_)
    refine da_op rfl (d_icmp cLss rfl rfl ?_)
    refine da_nil ?_
    refine W_cond (b := (icmp .lss s1.2 ((p0).length : Int))) rfl (fun hc3 => ?_) (fun hc3 => ?_)
    · skip
      replace hr := bif_t hr hc3
      refine W_skip ?_
      refine W_seq ?_
      refine W_block ?_
      refine W_seq ?_
      refine W_seq ?_
      refine W_region rfl ?_
      refine da_op rfl (d_mv (v := p0v) i1_S0 ?_)
      refine da_op rfl (d_mv (v := .int .i64 s1.2) i1_S5 ?_)
      obtain ⟨m4, hm4, hr⟩ := bind_out hr
      refine da_op rfl (d_index (e := encSVector) (v := p0v) un33 size29 rfl rfl B2 hm4 fun g5 o5 cu5 T5 fr5 vs5 hv5 hg5 hp5 hq5 => ?_)
      obtain ⟨e5_r0, e5_r1, e5_r2, rfl, e5_h0, e5_h1, e5_h2⟩ := dec_encSVector hq5
      refine da_op rfl (d_fieldAddr rfl (fa29_0 _ _) ?_)
      refine da_op rfl (d_load (v := .float .f32 e5_r0) rfl agg22 hg5 (sub_get (vs := #[.float .f32 e5_r0, .float .f32 e5_r1, .float .f32 e5_r2]) hp5 (i := 0) rfl) ?_)
      refine da_op rfl (d_mv (v := .int .i64 s1.1) i1_S1 ?_)
      refine da_op rfl (d_ofInt un3 un22 rfl ?_)
      refine da_op rfl (d_fcmp (k := .f32) cNeq rfl rfl e5_h0 (cn_fint _ _) ?_)
      refine da_nil ?_
      refine W_cond (b := (fcmp .neq .f32 m4.x (fint .f32 s1.1))) rfl (fun hc6 => ?_) (fun hc6 => ?_)
      · skip
        replace hr := bif_t hr hc6
        refine W_seq ?_
        refine W_region rfl ?_
        refine da_op rfl (d_as (v := .int .i64 (-1)) rfl ?_)
        refine da_nil ?_
        refine W_ret ?_
        obtain rfl := Option.some.inj hr
        exact ⟨_, rfl, rfl, rfl, i1_X⟩
      · skip
        replace hr := bif_f hr hc6
        refine W_skip ?_
        refine W_seq ?_
        refine W_region rfl ?_
        refine da_op rfl (d_mv (v := .int .i64 s1.1) i1_S1 ?_)
        refine da_op rfl (d_iarith rfl rfl (.inl ⟨rfl, rfl⟩) ?_)
        refine da_op rfl (d_as (v := .int .i64 (IntKind.i64.wrap (s1.1 + 1))) rfl ?_)
        refine da_nil ?_
        refine W_seq ?_
        refine W_seq ?_
        refine W_region rfl ?_
        refine da_op rfl (d_mv (v := p0v) i1_S0 ?_)
        refine da_op rfl (d_mv (v := .int .i64 s1.2) i1_S5 ?_)
        obtain ⟨m7, hm7, hr⟩ := bind_out hr
        refine da_op rfl (d_index (e := encSVector) (v := p0v) un33 size29 rfl rfl B2 hm7 fun g8 o8 cu8 T8 fr8 vs8 hv8 hg8 hp8 hq8 => ?_)
        obtain ⟨e8_r0, e8_r1, e8_r2, rfl, e8_h0, e8_h1, e8_h2⟩ := dec_encSVector hq8
        refine da_op rfl (d_fieldAddr rfl (fa29_1 _ _) ?_)
        refine da_op rfl (d_load (v := .float .f32 e8_r1) rfl agg22 hg8 (sub_get (vs := #[.float .f32 e8_r0, .float .f32 e8_r1, .float .f32 e8_r2]) hp8 (i := 1) rfl) ?_)
        refine da_op rfl (d_mv (v := .int .i64 (IntKind.i64.wrap (s1.1 + 1))) rfl ?_)
        refine da_op rfl (d_ofInt un3 un22 rfl ?_)
        refine da_op rfl (d_fcmp (k := .f32) cNeq rfl rfl e8_h1 (cn_fint _ _) ?_)
        refine da_nil ?_
        refine W_cond (b := (fcmp .neq .f32 m7.y (fint .f32 (IntKind.i64.wrap (s1.1 + 1))))) rfl (fun hc9 => ?_) (fun hc9 => ?_)
        · skip
          replace hr := bif_t hr hc9
          refine W_seq ?_
          refine W_region rfl ?_
          refine da_op rfl (d_as (v := .int .i64 (-1)) rfl ?_)
          refine da_nil ?_
          refine W_ret ?_
          obtain rfl := Option.some.inj hr
          exact ⟨_, rfl, rfl, rfl, i1_X⟩
        · skip
          replace hr := bif_f hr hc9
          refine W_skip ?_
          refine W_seq ?_
          refine W_region rfl ?_
          refine da_op rfl (d_mv (v := .int .i64 (IntKind.i64.wrap (s1.1 + 1))) rfl ?_)
          refine da_op rfl (d_iarith rfl rfl (.inl ⟨rfl, rfl⟩) ?_)
          refine da_op rfl (d_as (v := .int .i64 (IntKind.i64.wrap ((IntKind.i64.wrap (s1.1 + 1)) + 1))) rfl ?_)
          refine da_nil ?_
          refine W_seq ?_
          refine W_seq ?_
          refine W_region rfl ?_
          refine da_op rfl (d_mv (v := p0v) i1_S0 ?_)
          refine da_op rfl (d_mv (v := .int .i64 s1.2) i1_S5 ?_)
          obtain ⟨m10, hm10, hr⟩ := bind_out hr
          refine da_op rfl (d_index (e := encSVector) (v := p0v) un33 size29 rfl rfl B2 hm10 fun g11 o11 cu11 T11 fr11 vs11 hv11 hg11 hp11 hq11 => ?_)
          obtain ⟨e11_r0, e11_r1, e11_r2, rfl, e11_h0, e11_h1, e11_h2⟩ := dec_encSVector hq11
          refine da_op rfl (d_fieldAddr rfl (fa29_2 _ _) ?_)
          refine da_op rfl (d_load (v := .float .f32 e11_r2) rfl agg22 hg11 (sub_get (vs := #[.float .f32 e11_r0, .float .f32 e11_r1, .float .f32 e11_r2]) hp11 (i := 2) rfl) ?_)
          refine da_op rfl (d_mv (v := .int .i64 (IntKind.i64.wrap ((IntKind.i64.wrap (s1.1 + 1)) + 1))) rfl ?_)
          refine da_op rfl (d_ofInt un3 un22 rfl ?_)
          refine da_op rfl (d_fcmp (k := .f32) cNeq rfl rfl e11_h2 (cn_fint _ _) ?_)
          refine da_nil ?_
          refine W_cond (b := (fcmp .neq .f32 m10.z (fint .f32 (IntKind.i64.wrap ((IntKind.i64.wrap (s1.1 + 1)) + 1))))) rfl (fun hc12 => ?_) (fun hc12 => ?_)
          · skip
            replace hr := bif_t hr hc12
            refine W_seq ?_
            refine W_region rfl ?_
            refine da_op rfl (d_as (v := .int .i64 (-1)) rfl ?_)
            refine da_nil ?_
            refine W_ret ?_
            obtain rfl := Option.some.inj hr
            exact ⟨_, rfl, rfl, rfl, i1_X⟩
          · skip
            replace hr := bif_f hr hc12
            refine W_skip ?_
            refine W_region rfl ?_
            refine da_op rfl (d_mv (v := .int .i64 (IntKind.i64.wrap ((IntKind.i64.wrap (s1.1 + 1)) + 1))) rfl ?_)
            refine da_op rfl (d_iarith rfl rfl (.inl ⟨rfl, rfl⟩) ?_)
            refine da_op rfl (d_as (v := .int .i64 (IntKind.i64.wrap ((IntKind.i64.wrap ((IntKind.i64.wrap (s1.1 + 1)) + 1)) + 1))) rfl ?_)
            refine da_nil ?_
            refine W_region rfl ?_
            refine da_op rfl (d_mv (v := .int .i64 s1.2) i1_S5 ?_)
            refine da_op rfl (d_iarith rfl rfl (.inl ⟨rfl, rfl⟩) ?_)
            refine da_op rfl (d_as (v := .int .i64 (IntKind.i64.wrap (s1.2 + 1))) rfl ?_)
            refine da_nil ?_
            obtain rfl := Option.some.inj hr
            exact ⟨_, rfl, ⟨rfl, rfl, i1_S0, i1_X⟩⟩
    · skip
      replace hr := bif_f hr hc3
      refine W_exit ?_
      obtain rfl := Option.some.inj hr
      exact ⟨_, rfl, rfl, i1_S1, i1_X⟩
  · skip
    intro ex σx1 wx1 hq
    rcases m1 with m1 | m1
    · skip
      obtain ⟨rfl, q1_0_S1, q1_0_X⟩ := hq
      refine W_seq ?_
      refine W_region rfl ?_
      refine da_op rfl (d_mv (v := .int .i64 m1) q1_0_S1 ?_)
      refine da_op rfl (d_as (v := .int .i64 m1) rfl ?_)
      refine da_nil ?_
      refine W_ret ?_
      obtain rfl := Option.some.inj hr
      refine ⟨_, res1 (rv_tmp rfl), ?_⟩
      exact ⟨rfl, q1_0_X⟩
    · skip
      obtain ⟨rfl, q1_1_S4, q1_1_X⟩ := hq
      obtain rfl := Option.some.inj hr
      refine ⟨_, res1 (rv_tmp q1_1_S4), ?_⟩
      exact ⟨rfl, q1_1_X⟩
set_option maxHeartbeats 4000000 in
theorem c3 (p0 : STop) (p1 : SVector) (p2 : Nat) (p3 : Int) (p0r0 : Nat) (p0r1 : Nat) (p0r2 : Nat) (p0r3 : Nat) (p0r4 : Nat) (p0r5 : Nat) (p0r6 : Nat) (p0r7 : Nat) (p0r8 : Nat) (p0r9 : Nat) (p1r0 : Nat) (p1r1 : Nat) (p1r2 : Nat) (p2r : Nat) (r : Bool) (w : World) (hr : M.laws_FnExactRunTop p0 p1 p2 p3 = some r) (p0h0 : cn .f32 p0r0 = p0.moments.x) (p0h1 : cn .f32 p0r1 = p0.moments.y) (p0h2 : cn .f32 p0r2 = p0.moments.z) (p0h3 : cn .f32 p0r3 = p0.turn.w) (p0h4 : cn .f32 p0r4 = p0.turn.x) (p0h5 : cn .f32 p0r5 = p0.turn.y) (p0h6 : cn .f32 p0r6 = p0.turn.z) (p0h7 : cn .f32 p0r7 = p0.speed.x) (p0h8 : cn .f32 p0r8 = p0.speed.y) (p0h9 : cn .f32 p0r9 = p0.speed.z) (p1h0 : cn .f32 p1r0 = p1.x) (p1h1 : cn .f32 p1r1 = p1.y) (p1h2 : cn .f32 p1r2 = p1.z) (p2h : cn .f32 p2r = p2) :
    Calls Try.prog 3 #[.agg #[.float .f32 p0r0, .float .f32 p0r1, .float .f32 p0r2, .float .f32 p0r3, .float .f32 p0r4, .float .f32 p0r5, .float .f32 p0r6, .float .f32 p0r7, .float .f32 p0r8, .float .f32 p0r9], .agg #[.float .f32 p1r0, .float .f32 p1r1, .float .f32 p1r2], .float .f32 p2r, .int .i64 p3] w fun e w' => e = .returned (.bool r) ∧ Ext w w' := by
  refine calls_of_W Try.func3 rfl (Nat.le_of_ble_eq_true rfl) ?_
  refine W_seq ?_
  refine W_region rfl ?_
  refine da_op rfl (d_box (cs := #[.float .f32 p0r0, .float .f32 p0r1, .float .f32 p0r2, .float .f32 p0r3, .float .f32 p0r4, .float .f32 p0r5, .float .f32 p0r6, .float .f32 p0r7, .float .f32 p0r8, .float .f32 p0r9]) rfl fun w1 B1 E1 => ?_)
  have own2 : w.heap.size ≤ w.heap.size := Nat.le_trans (Ext.refl w).size (Nat.le_refl _)
  have X3 : Ext w w1 := (Ext.refl w).trans E1
  refine da_op rfl (d_box (cs := #[.float .f32 p1r0, .float .f32 p1r1, .float .f32 p1r2]) rfl fun w4 B4 E4 => ?_)
  have own5 : w.heap.size ≤ w1.heap.size := Nat.le_trans X3.size (Nat.le_refl _)
  have sp6 : w.heap.size ≠ w1.heap.size := Nat.ne_of_lt (Nat.lt_of_lt_of_le (lt_heap B1) (Nat.le_refl _))
  have X7 : Ext w w4 := X3.trans E4
  refine da_op rfl (d_as (v := .bool false) rfl ?_)
  refine da_nil ?_
  refine W_seq ?_
  have B9 : w4.heap[w.heap.size]? = some (.cells #[.float .f32 p0r0, .float .f32 p0r1, .float .f32 p0r2, .float .f32 p0r3, .float .f32 p0r4, .float .f32 p0r5, .float .f32 p0r6, .float .f32 p0r7, .float .f32 p0r8, .float .f32 p0r9] 28 (0, 0)) := E4.heap B1
  obtain ⟨m10, hm10, hr⟩ := letv_out hr
  obtain ⟨m11, hm11, hr⟩ := letv_out hr
  obtain ⟨m12, hm12, hr⟩ := bind_out hr
  refine W_any [(fun k t => w4.heap.size ≤ k ∧ t = some 32)] [{ V := fun _ v _ => v = (.agg #[.float .f32 p0r0, .float .f32 p0r1, .float .f32 p0r2, .float .f32 p0r3, .float .f32 p0r4, .float .f32 p0r5, .float .f32 p0r6, .float .f32 p0r7, .float .f32 p0r8, .float .f32 p0r9]) }, { V := fun _ v _ => ∃ d8_1_0r0 : Nat, ∃ d8_1_0r1 : Nat, ∃ d8_1_0r2 : Nat, ∃ d8_1_0r3 : Nat, ∃ d8_1_0r4 : Nat, ∃ d8_1_0r5 : Nat, ∃ d8_1_0r6 : Nat, ∃ d8_1_0r7 : Nat, ∃ d8_1_0r8 : Nat, ∃ d8_1_0r9 : Nat, v = (.agg #[.float .f32 d8_1_0r0, .float .f32 d8_1_0r1, .float .f32 d8_1_0r2, .float .f32 d8_1_0r3, .float .f32 d8_1_0r4, .float .f32 d8_1_0r5, .float .f32 d8_1_0r6, .float .f32 d8_1_0r7, .float .f32 d8_1_0r8, .float .f32 d8_1_0r9]) ∧ cn .f32 d8_1_0r0 = m10.moments.x ∧ cn .f32 d8_1_0r1 = m10.moments.y ∧ cn .f32 d8_1_0r2 = m10.moments.z ∧ cn .f32 d8_1_0r3 = m10.turn.w ∧ cn .f32 d8_1_0r4 = m10.turn.x ∧ cn .f32 d8_1_0r5 = m10.turn.y ∧ cn .f32 d8_1_0r6 = m10.turn.z ∧ cn .f32 d8_1_0r7 = m10.speed.x ∧ cn .f32 d8_1_0r8 = m10.speed.y ∧ cn .f32 d8_1_0r9 = m10.speed.z }, { V := fun _ v _ => v = (.agg #[.float .f32 p1r0, .float .f32 p1r1, .float .f32 p1r2]) }, { V := fun _ v _ => ∃ d8_3_0r0 : Nat, ∃ d8_3_0r1 : Nat, ∃ d8_3_0r2 : Nat, v = (.agg #[.float .f32 d8_3_0r0, .float .f32 d8_3_0r1, .float .f32 d8_3_0r2]) ∧ cn .f32 d8_3_0r0 = m11.x ∧ cn .f32 d8_3_0r1 = m11.y ∧ cn .f32 d8_3_0r2 = m11.z }, { V := fun _ v _ => v = (.float .f32 p2r) }, { V := fun _ v _ => v = (.int .i64 p3) }, { V := fun _ v w' => ∃ d8_6_0r0 : Nat, ∃ d8_6_0r1 : Nat, ∃ d8_6_0r2 : Nat, ∃ d8_6_0r3 : Nat, ∃ d8_6_0r4 : Nat, ∃ d8_6_0r5 : Nat, ∃ d8_6_0r6 : Nat, ∃ d8_6_0r7 : Nat, ∃ d8_6_0r8 : Nat, ∃ d8_6_0r9 : Nat, ∃ d8_6_1v : Value, v = (.tuple #[.agg #[.float .f32 d8_6_0r0, .float .f32 d8_6_0r1, .float .f32 d8_6_0r2, .float .f32 d8_6_0r3, .float .f32 d8_6_0r4, .float .f32 d8_6_0r5, .float .f32 d8_6_0r6, .float .f32 d8_6_0r7, .float .f32 d8_6_0r8, .float .f32 d8_6_0r9], d8_6_1v, .bool m12.2.2]) ∧ cn .f32 d8_6_0r0 = m12.1.moments.x ∧ cn .f32 d8_6_0r1 = m12.1.moments.y ∧ cn .f32 d8_6_0r2 = m12.1.moments.z ∧ cn .f32 d8_6_0r3 = m12.1.turn.w ∧ cn .f32 d8_6_0r4 = m12.1.turn.x ∧ cn .f32 d8_6_0r5 = m12.1.turn.y ∧ cn .f32 d8_6_0r6 = m12.1.turn.z ∧ cn .f32 d8_6_0r7 = m12.1.speed.x ∧ cn .f32 d8_6_0r8 = m12.1.speed.y ∧ cn .f32 d8_6_0r9 = m12.1.speed.z ∧ (∀ k, d8_6_1v.ownBlock = some k → w4.heap.size ≤ k) ∧ OS w' 29 encSVector d8_6_1v m12.2.1 }, { V := fun _ v w' => ∃ d8_6_0r0 : Nat, ∃ d8_6_0r1 : Nat, ∃ d8_6_0r2 : Nat, ∃ d8_6_0r3 : Nat, ∃ d8_6_0r4 : Nat, ∃ d8_6_0r5 : Nat, ∃ d8_6_0r6 : Nat, ∃ d8_6_0r7 : Nat, ∃ d8_6_0r8 : Nat, ∃ d8_6_0r9 : Nat, ∃ d8_6_1v : Value, v = (.tuple #[.agg #[.float .f32 d8_6_0r0, .float .f32 d8_6_0r1, .float .f32 d8_6_0r2, .float .f32 d8_6_0r3, .float .f32 d8_6_0r4, .float .f32 d8_6_0r5, .float .f32 d8_6_0r6, .float .f32 d8_6_0r7, .float .f32 d8_6_0r8, .float .f32 d8_6_0r9], d8_6_1v, .bool m12.2.2]) ∧ cn .f32 d8_6_0r0 = m12.1.moments.x ∧ cn .f32 d8_6_0r1 = m12.1.moments.y ∧ cn .f32 d8_6_0r2 = m12.1.moments.z ∧ cn .f32 d8_6_0r3 = m12.1.turn.w ∧ cn .f32 d8_6_0r4 = m12.1.turn.x ∧ cn .f32 d8_6_0r5 = m12.1.turn.y ∧ cn .f32 d8_6_0r6 = m12.1.turn.z ∧ cn .f32 d8_6_0r7 = m12.1.speed.x ∧ cn .f32 d8_6_0r8 = m12.1.speed.y ∧ cn .f32 d8_6_0r9 = m12.1.speed.z ∧ (∀ k, d8_6_1v.ownBlock = some k → w4.heap.size ≤ k) ∧ OS w' 29 encSVector d8_6_1v m12.2.1 }, { V := fun _ v _ => ∃ d8_6_0r0 : Nat, ∃ d8_6_0r1 : Nat, ∃ d8_6_0r2 : Nat, ∃ d8_6_0r3 : Nat, ∃ d8_6_0r4 : Nat, ∃ d8_6_0r5 : Nat, ∃ d8_6_0r6 : Nat, ∃ d8_6_0r7 : Nat, ∃ d8_6_0r8 : Nat, ∃ d8_6_0r9 : Nat, v = (.agg #[.float .f32 d8_6_0r0, .float .f32 d8_6_0r1, .float .f32 d8_6_0r2, .float .f32 d8_6_0r3, .float .f32 d8_6_0r4, .float .f32 d8_6_0r5, .float .f32 d8_6_0r6, .float .f32 d8_6_0r7, .float .f32 d8_6_0r8, .float .f32 d8_6_0r9]) ∧ cn .f32 d8_6_0r0 = m12.1.moments.x ∧ cn .f32 d8_6_0r1 = m12.1.moments.y ∧ cn .f32 d8_6_0r2 = m12.1.moments.z ∧ cn .f32 d8_6_0r3 = m12.1.turn.w ∧ cn .f32 d8_6_0r4 = m12.1.turn.x ∧ cn .f32 d8_6_0r5 = m12.1.turn.y ∧ cn .f32 d8_6_0r6 = m12.1.turn.z ∧ cn .f32 d8_6_0r7 = m12.1.speed.x ∧ cn .f32 d8_6_0r8 = m12.1.speed.y ∧ cn .f32 d8_6_0r9 = m12.1.speed.z }, { V := fun _ v w' => ∃ d8_6_1v : Value, v = d8_6_1v ∧ (∀ k, d8_6_1v.ownBlock = some k → w4.heap.size ≤ k) ∧ OS w' 29 encSVector d8_6_1v m12.2.1 }, { V := fun _ v _ => v = (.bool m12.2.2) }, { V := fun _ v w' => ∃ d8_11b : Nat, ∃ d8_11c : Array Value, v = (.pointer (some ⟨d8_11b, 0, none⟩)) ∧ w4.heap.size ≤ d8_11b ∧ w'.heap[d8_11b]? = some (.cells d8_11c 32 (0, 0)) ∧ d8_11c.size = 10 }, ⟨fun sg _ w' => ∃ d8_11b : Nat, ∃ d8_6_0r0 : Nat, ∃ d8_6_0r1 : Nat, ∃ d8_6_0r2 : Nat, ∃ d8_6_0r3 : Nat, ∃ d8_6_0r4 : Nat, ∃ d8_6_0r5 : Nat, ∃ d8_6_0r6 : Nat, ∃ d8_6_0r7 : Nat, ∃ d8_6_0r8 : Nat, ∃ d8_6_0r9 : Nat, sg 9 = .pointer (some ⟨d8_11b, 0, none⟩) ∧ w'.heap[d8_11b]? = some (.cells #[.float .f32 d8_6_0r0, .float .f32 d8_6_0r1, .float .f32 d8_6_0r2, .float .f32 d8_6_0r3, .float .f32 d8_6_0r4, .float .f32 d8_6_0r5, .float .f32 d8_6_0r6, .float .f32 d8_6_0r7, .float .f32 d8_6_0r8, .float .f32 d8_6_0r9] 32 (0, 0)) ∧ cn .f32 d8_6_0r0 = m12.1.moments.x ∧ cn .f32 d8_6_0r1 = m12.1.moments.y ∧ cn .f32 d8_6_0r2 = m12.1.moments.z ∧ cn .f32 d8_6_0r3 = m12.1.turn.w ∧ cn .f32 d8_6_0r4 = m12.1.turn.x ∧ cn .f32 d8_6_0r5 = m12.1.turn.y ∧ cn .f32 d8_6_0r6 = m12.1.turn.z ∧ cn .f32 d8_6_0r7 = m12.1.speed.x ∧ cn .f32 d8_6_0r8 = m12.1.speed.y ∧ cn .f32 d8_6_0r9 = m12.1.speed.z, some 0, fun _ => True⟩, { V := fun sg v _ => v = sg 29 }, { V := fun _ v _ => v = (.bool m12.2.2) }] mixed (by kernel_rfl) ⟨trivial, trivial, trivial, trivial, trivial, trivial, trivial, trivial, trivial, trivial, trivial, trivial, trivial, trivial, trivial, trivial⟩ ⟨?_, ?_, ?_, ?_, ?_, ?_, ?_, ?_, ?_, ?_, ?_, ?_, ?_, ?_, ?_, trivial⟩ ?_
  · skip
    refine ⟨fun _ _ _ _ _ _ h _ => h, fun _ _ h _ => h, fun σ' w' hA hE hD hP => ?_⟩
    have t4 : σ' 4 = .pointer (some ⟨w.heap.size, 0, none⟩) := (hA 4 rfl).trans rfl
    have B0_13 : w'.heap[w.heap.size]? = some (.cells #[.float .f32 p0r0, .float .f32 p0r1, .float .f32 p0r2, .float .f32 p0r3, .float .f32 p0r4, .float .f32 p0r5, .float .f32 p0r6, .float .f32 p0r7, .float .f32 p0r8, .float .f32 p0r9] 28 (0, 0)) := hE.heap (not_oth1 (not_newT_box B9)) B9
    refine dg_op rfl (d_loads (vs := #[.float .f32 p0r0, .float .f32 p0r1, .float .f32 p0r2, .float .f32 p0r3, .float .f32 p0r4, .float .f32 p0r5, .float .f32 p0r6, .float .f32 p0r7, .float .f32 p0r8, .float .f32 p0r9]) t4 agg28 size28 B0_13 rfl ?_)
    exact ⟨rfl, own_none (Ext.refl w')⟩
  · skip
    refine ⟨fun _ _ _ _ _ _ h _ => h, fun _ _ h _ => h, fun σ' w' hA hE hD hP => ?_⟩
    have t21 : σ' 21 = (.agg #[.float .f32 p0r0, .float .f32 p0r1, .float .f32 p0r2, .float .f32 p0r3, .float .f32 p0r4, .float .f32 p0r5, .float .f32 p0r6, .float .f32 p0r7, .float .f32 p0r8, .float .f32 p0r9]) := hD 0 rfl
    refine dg_op rfl (d_cl (vs := [.agg #[.float .f32 p0r0, .float .f32 p0r1, .float .f32 p0r2, .float .f32 p0r3, .float .f32 p0r4, .float .f32 p0r5, .float .f32 p0r6, .float .f32 p0r7, .float .f32 p0r8, .float .f32 p0r9]]) en7 (ac t21 rfl) rfl ?_)
    refine (c7 p0 p0r0 p0r1 p0r2 p0r3 p0r4 p0r5 p0r6 p0r7 p0r8 p0r9 m10 w' hm10 p0h0 p0h1 p0h2 p0h3 p0h4 p0h5 p0h6 p0h7 p0h8 p0h9).mono ?_
    rintro _ w14 ⟨q14_0r0, q14_0r1, q14_0r2, q14_0r3, q14_0r4, q14_0r5, q14_0r6, q14_0r7, q14_0r8, q14_0r9, rfl, q14_0h0, q14_0h1, q14_0h2, q14_0h3, q14_0h4, q14_0h5, q14_0h6, q14_0h7, q14_0h8, q14_0h9, E14⟩
    refine ⟨_, rfl, ?_⟩
    have X15 : Ext w' w14 := (Ext.refl w').trans E14
    exact ⟨⟨q14_0r0, q14_0r1, q14_0r2, q14_0r3, q14_0r4, q14_0r5, q14_0r6, q14_0r7, q14_0r8, q14_0r9, rfl, q14_0h0, q14_0h1, q14_0h2, q14_0h3, q14_0h4, q14_0h5, q14_0h6, q14_0h7, q14_0h8, q14_0h9⟩, own_none X15⟩
  · skip
    refine ⟨fun _ _ _ _ _ _ h _ => h, fun _ _ h _ => h, fun σ' w' hA hE hD hP => ?_⟩
    have t5 : σ' 5 = .pointer (some ⟨w1.heap.size, 0, none⟩) := (hA 5 rfl).trans rfl
    have B0_16 : w'.heap[w1.heap.size]? = some (.cells #[.float .f32 p1r0, .float .f32 p1r1, .float .f32 p1r2] 24 (0, 0)) := hE.heap (not_oth1 (not_newT_box B4)) B4
    refine dg_op rfl (d_loads (vs := #[.float .f32 p1r0, .float .f32 p1r1, .float .f32 p1r2]) t5 agg24 size24 B0_16 rfl ?_)
    exact ⟨rfl, own_none (Ext.refl w')⟩
  · skip
    refine ⟨fun _ _ _ _ _ _ h _ => h, fun _ _ h _ => h, fun σ' w' hA hE hD hP => ?_⟩
    have t23 : σ' 23 = (.agg #[.float .f32 p1r0, .float .f32 p1r1, .float .f32 p1r2]) := hD 2 rfl
    refine dg_op rfl (d_cl (vs := [.agg #[.float .f32 p1r0, .float .f32 p1r1, .float .f32 p1r2]]) en8 (ac t23 rfl) rfl ?_)
    refine (c8 p1 p1r0 p1r1 p1r2 m11 w' hm11 p1h0 p1h1 p1h2).mono ?_
    rintro _ w17 ⟨q17_0r0, q17_0r1, q17_0r2, rfl, q17_0h0, q17_0h1, q17_0h2, E17⟩
    refine ⟨_, rfl, ?_⟩
    have X18 : Ext w' w17 := (Ext.refl w').trans E17
    exact ⟨⟨q17_0r0, q17_0r1, q17_0r2, rfl, q17_0h0, q17_0h1, q17_0h2⟩, own_none X18⟩
  · skip
    refine ⟨fun _ _ _ _ _ _ h _ => h, fun _ _ h _ => h, fun σ' w' hA hE hD hP => ?_⟩
    have t2 : σ' 2 = .float .f32 p2r := (hA 2 rfl).trans rfl
    refine dg_op rfl (d_mv (v := .float .f32 p2r) t2 ?_)
    exact ⟨rfl, own_none (Ext.refl w')⟩
  · skip
    refine ⟨fun _ _ _ _ _ _ h _ => h, fun _ _ h _ => h, fun σ' w' hA hE hD hP => ?_⟩
    have t3 : σ' 3 = .int .i64 p3 := (hA 3 rfl).trans rfl
    refine dg_op rfl (d_mv (v := .int .i64 p3) t3 ?_)
    exact ⟨rfl, own_none (Ext.refl w')⟩
  · skip
    refine ⟨fun _ _ _ w' w'' _ ⟨d8_6_0r0, d8_6_0r1, d8_6_0r2, d8_6_0r3, d8_6_0r4, d8_6_0r5, d8_6_0r6, d8_6_0r7, d8_6_0r8, d8_6_0r9, d8_6_1v, hv, d8_6_0h0, d8_6_0h1, d8_6_0h2, d8_6_0h3, d8_6_0h4, d8_6_0h5, d8_6_0h6, d8_6_0h7, d8_6_0h8, d8_6_0h9, d8_6_1vL, d8_6_1vR⟩ hF => ⟨d8_6_0r0, d8_6_0r1, d8_6_0r2, d8_6_0r3, d8_6_0r4, d8_6_0r5, d8_6_0r6, d8_6_0r7, d8_6_0r8, d8_6_0r9, d8_6_1v, hv, d8_6_0h0, d8_6_0h1, d8_6_0h2, d8_6_0h3, d8_6_0h4, d8_6_0h5, d8_6_0h6, d8_6_0h7, d8_6_0h8, d8_6_0h9, d8_6_1vL, d8_6_1vR.frm hF (fun k hk => (not_oth1 (nty (by decide))))⟩, fun _ _ h _ => h, fun σ' w' hA hE hD hP => ?_⟩
    obtain ⟨d8_1_0r0, d8_1_0r1, d8_1_0r2, d8_1_0r3, d8_1_0r4, d8_1_0r5, d8_1_0r6, d8_1_0r7, d8_1_0r8, d8_1_0r9, t22, d8_1_0h0, d8_1_0h1, d8_1_0h2, d8_1_0h3, d8_1_0h4, d8_1_0h5, d8_1_0h6, d8_1_0h7, d8_1_0h8, d8_1_0h9⟩ : ∃ d8_1_0r0 : Nat, ∃ d8_1_0r1 : Nat, ∃ d8_1_0r2 : Nat, ∃ d8_1_0r3 : Nat, ∃ d8_1_0r4 : Nat, ∃ d8_1_0r5 : Nat, ∃ d8_1_0r6 : Nat, ∃ d8_1_0r7 : Nat, ∃ d8_1_0r8 : Nat, ∃ d8_1_0r9 : Nat, σ' 22 = (.agg #[.float .f32 d8_1_0r0, .float .f32 d8_1_0r1, .float .f32 d8_1_0r2, .float .f32 d8_1_0r3, .float .f32 d8_1_0r4, .float .f32 d8_1_0r5, .float .f32 d8_1_0r6, .float .f32 d8_1_0r7, .float .f32 d8_1_0r8, .float .f32 d8_1_0r9]) ∧ cn .f32 d8_1_0r0 = m10.moments.x ∧ cn .f32 d8_1_0r1 = m10.moments.y ∧ cn .f32 d8_1_0r2 = m10.moments.z ∧ cn .f32 d8_1_0r3 = m10.turn.w ∧ cn .f32 d8_1_0r4 = m10.turn.x ∧ cn .f32 d8_1_0r5 = m10.turn.y ∧ cn .f32 d8_1_0r6 = m10.turn.z ∧ cn .f32 d8_1_0r7 = m10.speed.x ∧ cn .f32 d8_1_0r8 = m10.speed.y ∧ cn .f32 d8_1_0r9 = m10.speed.z := hD 1 rfl
    obtain ⟨d8_3_0r0, d8_3_0r1, d8_3_0r2, t24, d8_3_0h0, d8_3_0h1, d8_3_0h2⟩ : ∃ d8_3_0r0 : Nat, ∃ d8_3_0r1 : Nat, ∃ d8_3_0r2 : Nat, σ' 24 = (.agg #[.float .f32 d8_3_0r0, .float .f32 d8_3_0r1, .float .f32 d8_3_0r2]) ∧ cn .f32 d8_3_0r0 = m11.x ∧ cn .f32 d8_3_0r1 = m11.y ∧ cn .f32 d8_3_0r2 = m11.z := hD 3 rfl
    have t25 : σ' 25 = (.float .f32 p2r) := hD 4 rfl
    have t26 : σ' 26 = (.int .i64 p3) := hD 5 rfl
    refine dg_op rfl (d_cl (vs := [.agg #[.float .f32 d8_1_0r0, .float .f32 d8_1_0r1, .float .f32 d8_1_0r2, .float .f32 d8_1_0r3, .float .f32 d8_1_0r4, .float .f32 d8_1_0r5, .float .f32 d8_1_0r6, .float .f32 d8_1_0r7, .float .f32 d8_1_0r8, .float .f32 d8_1_0r9], .agg #[.float .f32 d8_3_0r0, .float .f32 d8_3_0r1, .float .f32 d8_3_0r2], .float .f32 p2r, .int .i64 p3]) en6 (ac t22 (ac t24 (ac t25 (ac t26 rfl)))) rfl ?_)
    refine (c6 m10 m11 p2 p3 d8_1_0r0 d8_1_0r1 d8_1_0r2 d8_1_0r3 d8_1_0r4 d8_1_0r5 d8_1_0r6 d8_1_0r7 d8_1_0r8 d8_1_0r9 d8_3_0r0 d8_3_0r1 d8_3_0r2 p2r m12 w' hm12 d8_1_0h0 d8_1_0h1 d8_1_0h2 d8_1_0h3 d8_1_0h4 d8_1_0h5 d8_1_0h6 d8_1_0h7 d8_1_0h8 d8_1_0h9 d8_3_0h0 d8_3_0h1 d8_3_0h2 p2h).mono ?_
    rintro _ w19 ⟨q19_0r0, q19_0r1, q19_0r2, q19_0r3, q19_0r4, q19_0r5, q19_0r6, q19_0r7, q19_0r8, q19_0r9, q19_1v, rfl, q19_0h0, q19_0h1, q19_0h2, q19_0h3, q19_0h4, q19_0h5, q19_0h6, q19_0h7, q19_0h8, q19_0h9, q19_1R, q19_1F, E19⟩
    refine ⟨_, rfl, ?_⟩
    have X21 : Ext w' w19 := (Ext.refl w').trans E19
    exact ⟨⟨q19_0r0, q19_0r1, q19_0r2, q19_0r3, q19_0r4, q19_0r5, q19_0r6, q19_0r7, q19_0r8, q19_0r9, q19_1v, rfl, q19_0h0, q19_0h1, q19_0h2, q19_0h3, q19_0h4, q19_0h5, q19_0h6, q19_0h7, q19_0h8, q19_0h9, (fun k hk => Nat.le_trans hE.size (q19_1F k hk)), q19_1R⟩, own_none X21⟩
  · skip
    refine ⟨fun _ _ _ w' w'' _ ⟨d8_6_0r0, d8_6_0r1, d8_6_0r2, d8_6_0r3, d8_6_0r4, d8_6_0r5, d8_6_0r6, d8_6_0r7, d8_6_0r8, d8_6_0r9, d8_6_1v, hv, d8_6_0h0, d8_6_0h1, d8_6_0h2, d8_6_0h3, d8_6_0h4, d8_6_0h5, d8_6_0h6, d8_6_0h7, d8_6_0h8, d8_6_0h9, d8_6_1vL, d8_6_1vR⟩ hF => ⟨d8_6_0r0, d8_6_0r1, d8_6_0r2, d8_6_0r3, d8_6_0r4, d8_6_0r5, d8_6_0r6, d8_6_0r7, d8_6_0r8, d8_6_0r9, d8_6_1v, hv, d8_6_0h0, d8_6_0h1, d8_6_0h2, d8_6_0h3, d8_6_0h4, d8_6_0h5, d8_6_0h6, d8_6_0h7, d8_6_0h8, d8_6_0h9, d8_6_1vL, d8_6_1vR.frm hF (fun k hk => (not_oth1 (nty (by decide))))⟩, fun _ _ h _ => h, fun σ' w' hA hE hD hP => ?_⟩
    obtain ⟨d8_6_0r0, d8_6_0r1, d8_6_0r2, d8_6_0r3, d8_6_0r4, d8_6_0r5, d8_6_0r6, d8_6_0r7, d8_6_0r8, d8_6_0r9, d8_6_1v, t27, d8_6_0h0, d8_6_0h1, d8_6_0h2, d8_6_0h3, d8_6_0h4, d8_6_0h5, d8_6_0h6, d8_6_0h7, d8_6_0h8, d8_6_0h9, d8_6_1vL, d8_6_1vR⟩ : ∃ d8_6_0r0 : Nat, ∃ d8_6_0r1 : Nat, ∃ d8_6_0r2 : Nat, ∃ d8_6_0r3 : Nat, ∃ d8_6_0r4 : Nat, ∃ d8_6_0r5 : Nat, ∃ d8_6_0r6 : Nat, ∃ d8_6_0r7 : Nat, ∃ d8_6_0r8 : Nat, ∃ d8_6_0r9 : Nat, ∃ d8_6_1v : Value, σ' 27 = (.tuple #[.agg #[.float .f32 d8_6_0r0, .float .f32 d8_6_0r1, .float .f32 d8_6_0r2, .float .f32 d8_6_0r3, .float .f32 d8_6_0r4, .float .f32 d8_6_0r5, .float .f32 d8_6_0r6, .float .f32 d8_6_0r7, .float .f32 d8_6_0r8, .float .f32 d8_6_0r9], d8_6_1v, .bool m12.2.2]) ∧ cn .f32 d8_6_0r0 = m12.1.moments.x ∧ cn .f32 d8_6_0r1 = m12.1.moments.y ∧ cn .f32 d8_6_0r2 = m12.1.moments.z ∧ cn .f32 d8_6_0r3 = m12.1.turn.w ∧ cn .f32 d8_6_0r4 = m12.1.turn.x ∧ cn .f32 d8_6_0r5 = m12.1.turn.y ∧ cn .f32 d8_6_0r6 = m12.1.turn.z ∧ cn .f32 d8_6_0r7 = m12.1.speed.x ∧ cn .f32 d8_6_0r8 = m12.1.speed.y ∧ cn .f32 d8_6_0r9 = m12.1.speed.z ∧ (∀ k, d8_6_1v.ownBlock = some k → w4.heap.size ≤ k) ∧ OS w' 29 encSVector d8_6_1v m12.2.1 := hD 6 rfl
    refine dg_op rfl (d_mv (v := .tuple #[.agg #[.float .f32 d8_6_0r0, .float .f32 d8_6_0r1, .float .f32 d8_6_0r2, .float .f32 d8_6_0r3, .float .f32 d8_6_0r4, .float .f32 d8_6_0r5, .float .f32 d8_6_0r6, .float .f32 d8_6_0r7, .float .f32 d8_6_0r8, .float .f32 d8_6_0r9], d8_6_1v, .bool m12.2.2]) t27 ?_)
    exact ⟨⟨d8_6_0r0, d8_6_0r1, d8_6_0r2, d8_6_0r3, d8_6_0r4, d8_6_0r5, d8_6_0r6, d8_6_0r7, d8_6_0r8, d8_6_0r9, d8_6_1v, rfl, d8_6_0h0, d8_6_0h1, d8_6_0h2, d8_6_0h3, d8_6_0h4, d8_6_0h5, d8_6_0h6, d8_6_0h7, d8_6_0h8, d8_6_0h9, d8_6_1vL, d8_6_1vR⟩, own_none (Ext.refl w')⟩
  · skip
    refine ⟨fun _ _ _ _ _ _ h _ => h, fun _ _ h _ => h, fun σ' w' hA hE hD hP => ?_⟩
    obtain ⟨d8_6_0r0, d8_6_0r1, d8_6_0r2, d8_6_0r3, d8_6_0r4, d8_6_0r5, d8_6_0r6, d8_6_0r7, d8_6_0r8, d8_6_0r9, d8_6_1v, t20, d8_6_0h0, d8_6_0h1, d8_6_0h2, d8_6_0h3, d8_6_0h4, d8_6_0h5, d8_6_0h6, d8_6_0h7, d8_6_0h8, d8_6_0h9, d8_6_1vL, d8_6_1vR⟩ : ∃ d8_6_0r0 : Nat, ∃ d8_6_0r1 : Nat, ∃ d8_6_0r2 : Nat, ∃ d8_6_0r3 : Nat, ∃ d8_6_0r4 : Nat, ∃ d8_6_0r5 : Nat, ∃ d8_6_0r6 : Nat, ∃ d8_6_0r7 : Nat, ∃ d8_6_0r8 : Nat, ∃ d8_6_0r9 : Nat, ∃ d8_6_1v : Value, σ' 20 = (.tuple #[.agg #[.float .f32 d8_6_0r0, .float .f32 d8_6_0r1, .float .f32 d8_6_0r2, .float .f32 d8_6_0r3, .float .f32 d8_6_0r4, .float .f32 d8_6_0r5, .float .f32 d8_6_0r6, .float .f32 d8_6_0r7, .float .f32 d8_6_0r8, .float .f32 d8_6_0r9], d8_6_1v, .bool m12.2.2]) ∧ cn .f32 d8_6_0r0 = m12.1.moments.x ∧ cn .f32 d8_6_0r1 = m12.1.moments.y ∧ cn .f32 d8_6_0r2 = m12.1.moments.z ∧ cn .f32 d8_6_0r3 = m12.1.turn.w ∧ cn .f32 d8_6_0r4 = m12.1.turn.x ∧ cn .f32 d8_6_0r5 = m12.1.turn.y ∧ cn .f32 d8_6_0r6 = m12.1.turn.z ∧ cn .f32 d8_6_0r7 = m12.1.speed.x ∧ cn .f32 d8_6_0r8 = m12.1.speed.y ∧ cn .f32 d8_6_0r9 = m12.1.speed.z ∧ (∀ k, d8_6_1v.ownBlock = some k → w4.heap.size ≤ k) ∧ OS w' 29 encSVector d8_6_1v m12.2.1 := hD 7 rfl
    refine dg_op rfl (d_extract (v := .agg #[.float .f32 d8_6_0r0, .float .f32 d8_6_0r1, .float .f32 d8_6_0r2, .float .f32 d8_6_0r3, .float .f32 d8_6_0r4, .float .f32 d8_6_0r5, .float .f32 d8_6_0r6, .float .f32 d8_6_0r7, .float .f32 d8_6_0r8, .float .f32 d8_6_0r9]) t20 rfl ?_)
    exact ⟨⟨d8_6_0r0, d8_6_0r1, d8_6_0r2, d8_6_0r3, d8_6_0r4, d8_6_0r5, d8_6_0r6, d8_6_0r7, d8_6_0r8, d8_6_0r9, rfl, d8_6_0h0, d8_6_0h1, d8_6_0h2, d8_6_0h3, d8_6_0h4, d8_6_0h5, d8_6_0h6, d8_6_0h7, d8_6_0h8, d8_6_0h9⟩, own_none (Ext.refl w')⟩
  · skip
    refine ⟨fun _ _ _ w' w'' _ ⟨d8_6_1v, hv, d8_6_1vL, d8_6_1vR⟩ hF => ⟨d8_6_1v, hv, d8_6_1vL, d8_6_1vR.frm hF (fun k hk => (not_oth1 (nty (by decide))))⟩, fun _ _ h _ => h, fun σ' w' hA hE hD hP => ?_⟩
    obtain ⟨d8_6_0r0, d8_6_0r1, d8_6_0r2, d8_6_0r3, d8_6_0r4, d8_6_0r5, d8_6_0r6, d8_6_0r7, d8_6_0r8, d8_6_0r9, d8_6_1v, t20, d8_6_0h0, d8_6_0h1, d8_6_0h2, d8_6_0h3, d8_6_0h4, d8_6_0h5, d8_6_0h6, d8_6_0h7, d8_6_0h8, d8_6_0h9, d8_6_1vL, d8_6_1vR⟩ : ∃ d8_6_0r0 : Nat, ∃ d8_6_0r1 : Nat, ∃ d8_6_0r2 : Nat, ∃ d8_6_0r3 : Nat, ∃ d8_6_0r4 : Nat, ∃ d8_6_0r5 : Nat, ∃ d8_6_0r6 : Nat, ∃ d8_6_0r7 : Nat, ∃ d8_6_0r8 : Nat, ∃ d8_6_0r9 : Nat, ∃ d8_6_1v : Value, σ' 20 = (.tuple #[.agg #[.float .f32 d8_6_0r0, .float .f32 d8_6_0r1, .float .f32 d8_6_0r2, .float .f32 d8_6_0r3, .float .f32 d8_6_0r4, .float .f32 d8_6_0r5, .float .f32 d8_6_0r6, .float .f32 d8_6_0r7, .float .f32 d8_6_0r8, .float .f32 d8_6_0r9], d8_6_1v, .bool m12.2.2]) ∧ cn .f32 d8_6_0r0 = m12.1.moments.x ∧ cn .f32 d8_6_0r1 = m12.1.moments.y ∧ cn .f32 d8_6_0r2 = m12.1.moments.z ∧ cn .f32 d8_6_0r3 = m12.1.turn.w ∧ cn .f32 d8_6_0r4 = m12.1.turn.x ∧ cn .f32 d8_6_0r5 = m12.1.turn.y ∧ cn .f32 d8_6_0r6 = m12.1.turn.z ∧ cn .f32 d8_6_0r7 = m12.1.speed.x ∧ cn .f32 d8_6_0r8 = m12.1.speed.y ∧ cn .f32 d8_6_0r9 = m12.1.speed.z ∧ (∀ k, d8_6_1v.ownBlock = some k → w4.heap.size ≤ k) ∧ OS w' 29 encSVector d8_6_1v m12.2.1 := hD 7 rfl
    refine dg_op rfl (d_extract (v := d8_6_1v) t20 rfl ?_)
    exact ⟨⟨d8_6_1v, rfl, d8_6_1vL, d8_6_1vR⟩, own_none (Ext.refl w')⟩
  · skip
    refine ⟨fun _ _ _ _ _ _ h _ => h, fun _ _ h _ => h, fun σ' w' hA hE hD hP => ?_⟩
    obtain ⟨d8_6_0r0, d8_6_0r1, d8_6_0r2, d8_6_0r3, d8_6_0r4, d8_6_0r5, d8_6_0r6, d8_6_0r7, d8_6_0r8, d8_6_0r9, d8_6_1v, t20, d8_6_0h0, d8_6_0h1, d8_6_0h2, d8_6_0h3, d8_6_0h4, d8_6_0h5, d8_6_0h6, d8_6_0h7, d8_6_0h8, d8_6_0h9, d8_6_1vL, d8_6_1vR⟩ : ∃ d8_6_0r0 : Nat, ∃ d8_6_0r1 : Nat, ∃ d8_6_0r2 : Nat, ∃ d8_6_0r3 : Nat, ∃ d8_6_0r4 : Nat, ∃ d8_6_0r5 : Nat, ∃ d8_6_0r6 : Nat, ∃ d8_6_0r7 : Nat, ∃ d8_6_0r8 : Nat, ∃ d8_6_0r9 : Nat, ∃ d8_6_1v : Value, σ' 20 = (.tuple #[.agg #[.float .f32 d8_6_0r0, .float .f32 d8_6_0r1, .float .f32 d8_6_0r2, .float .f32 d8_6_0r3, .float .f32 d8_6_0r4, .float .f32 d8_6_0r5, .float .f32 d8_6_0r6, .float .f32 d8_6_0r7, .float .f32 d8_6_0r8, .float .f32 d8_6_0r9], d8_6_1v, .bool m12.2.2]) ∧ cn .f32 d8_6_0r0 = m12.1.moments.x ∧ cn .f32 d8_6_0r1 = m12.1.moments.y ∧ cn .f32 d8_6_0r2 = m12.1.moments.z ∧ cn .f32 d8_6_0r3 = m12.1.turn.w ∧ cn .f32 d8_6_0r4 = m12.1.turn.x ∧ cn .f32 d8_6_0r5 = m12.1.turn.y ∧ cn .f32 d8_6_0r6 = m12.1.turn.z ∧ cn .f32 d8_6_0r7 = m12.1.speed.x ∧ cn .f32 d8_6_0r8 = m12.1.speed.y ∧ cn .f32 d8_6_0r9 = m12.1.speed.z ∧ (∀ k, d8_6_1v.ownBlock = some k → w4.heap.size ≤ k) ∧ OS w' 29 encSVector d8_6_1v m12.2.1 := hD 7 rfl
    refine dg_op rfl (d_extract (v := .bool m12.2.2) t20 rfl ?_)
    exact ⟨rfl, own_none (Ext.refl w')⟩
  · skip
    refine ⟨fun _ _ _ w' w'' _ ⟨d8_11b, d8_11c, hv, d8_11ble, d8_11bB, d8_11bZ⟩ hF => let ⟨c2, hB2, hZ2⟩ := hF.shape _ _ _ _ d8_11bB; ⟨d8_11b, c2, hv, d8_11ble, hB2, (hZ2.trans d8_11bZ)⟩, fun _ _ h _ => h, fun σ' w' hA hE hD hP => ?_⟩
    refine dg_op rfl (d_alloc (cs := #[.float .f32 0, .float .f32 0, .float .f32 0, .float .f32 0, .float .f32 0, .float .f32 0, .float .f32 0, .float .f32 0, .float .f32 0, .float .f32 0]) zero32 rfl fun w22 B22 E22 => ?_)
    have X24 : Ext w' w22 := (Ext.refl w').trans E22
    exact ⟨⟨w'.heap.size, #[.float .f32 0, .float .f32 0, .float .f32 0, .float .f32 0, .float .f32 0, .float .f32 0, .float .f32 0, .float .f32 0, .float .f32 0, .float .f32 0], rfl, hE.size, B22, rfl⟩, own_none X24⟩
  · skip
    refine ⟨fun _ _ _ w' w'' hs ⟨d8_11b, d8_6_0r0, d8_6_0r1, d8_6_0r2, d8_6_0r3, d8_6_0r4, d8_6_0r5, d8_6_0r6, d8_6_0r7, d8_6_0r8, d8_6_0r9, hb, hB, d8_6_0h0, d8_6_0h1, d8_6_0h2, d8_6_0h3, d8_6_0h4, d8_6_0h5, d8_6_0h6, d8_6_0h7, d8_6_0h8, d8_6_0h9⟩ hF => ⟨d8_11b, d8_6_0r0, d8_6_0r1, d8_6_0r2, d8_6_0r3, d8_6_0r4, d8_6_0r5, d8_6_0r6, d8_6_0r7, d8_6_0r8, d8_6_0r9, (hs 11 rfl).trans hb, hF.heap not_oth1s hB, d8_6_0h0, d8_6_0h1, d8_6_0h2, d8_6_0h3, d8_6_0h4, d8_6_0h5, d8_6_0h6, d8_6_0h7, d8_6_0h8, d8_6_0h9⟩, fun _ _ h _ => h, fun σ' w' hA hE hD hP => ?_⟩
    obtain ⟨d8_11b, d8_11c, t9, d8_11ble, d8_11bB, d8_11bZ⟩ : ∃ d8_11b : Nat, ∃ d8_11c : Array Value, σ' 9 = (.pointer (some ⟨d8_11b, 0, none⟩)) ∧ w4.heap.size ≤ d8_11b ∧ w'.heap[d8_11b]? = some (.cells d8_11c 32 (0, 0)) ∧ d8_11c.size = 10 := hD 11 rfl
    obtain ⟨d8_6_0r0, d8_6_0r1, d8_6_0r2, d8_6_0r3, d8_6_0r4, d8_6_0r5, d8_6_0r6, d8_6_0r7, d8_6_0r8, d8_6_0r9, t28, d8_6_0h0, d8_6_0h1, d8_6_0h2, d8_6_0h3, d8_6_0h4, d8_6_0h5, d8_6_0h6, d8_6_0h7, d8_6_0h8, d8_6_0h9⟩ : ∃ d8_6_0r0 : Nat, ∃ d8_6_0r1 : Nat, ∃ d8_6_0r2 : Nat, ∃ d8_6_0r3 : Nat, ∃ d8_6_0r4 : Nat, ∃ d8_6_0r5 : Nat, ∃ d8_6_0r6 : Nat, ∃ d8_6_0r7 : Nat, ∃ d8_6_0r8 : Nat, ∃ d8_6_0r9 : Nat, σ' 28 = (.agg #[.float .f32 d8_6_0r0, .float .f32 d8_6_0r1, .float .f32 d8_6_0r2, .float .f32 d8_6_0r3, .float .f32 d8_6_0r4, .float .f32 d8_6_0r5, .float .f32 d8_6_0r6, .float .f32 d8_6_0r7, .float .f32 d8_6_0r8, .float .f32 d8_6_0r9]) ∧ cn .f32 d8_6_0r0 = m12.1.moments.x ∧ cn .f32 d8_6_0r1 = m12.1.moments.y ∧ cn .f32 d8_6_0r2 = m12.1.moments.z ∧ cn .f32 d8_6_0r3 = m12.1.turn.w ∧ cn .f32 d8_6_0r4 = m12.1.turn.x ∧ cn .f32 d8_6_0r5 = m12.1.turn.y ∧ cn .f32 d8_6_0r6 = m12.1.turn.z ∧ cn .f32 d8_6_0r7 = m12.1.speed.x ∧ cn .f32 d8_6_0r8 = m12.1.speed.y ∧ cn .f32 d8_6_0r9 = m12.1.speed.z := hD 8 rfl
    refine dg_op rfl (d_store_new (vs := #[.float .f32 d8_6_0r0, .float .f32 d8_6_0r1, .float .f32 d8_6_0r2, .float .f32 d8_6_0r3, .float .f32 d8_6_0r4, .float .f32 d8_6_0r5, .float .f32 d8_6_0r6, .float .f32 d8_6_0r7, .float .f32 d8_6_0r8, .float .f32 d8_6_0r9]) t9 (congrArg Value.cells t28) d8_11bB d8_11bZ size32 rfl rfl fun w25 S25 => ?_)
    exact ⟨⟨d8_11b, d8_6_0r0, d8_6_0r1, d8_6_0r2, d8_6_0r3, d8_6_0r4, d8_6_0r5, d8_6_0r6, d8_6_0r7, d8_6_0r8, d8_6_0r9, t9, S25.here, d8_6_0h0, d8_6_0h1, d8_6_0h2, d8_6_0h3, d8_6_0h4, d8_6_0h5, d8_6_0h6, d8_6_0h7, d8_6_0h8, d8_6_0h9⟩, own_some (j := 0) rfl (S25.frm.mono (fun k t h => ⟨h.1 ▸ d8_11ble, h.2⟩))⟩
  · skip
    refine ⟨fun _ _ _ _ _ hs h _ => h.trans (hs 9 rfl).symm, fun _ _ h _ => h, fun σ' w' hA hE hD hP => ?_⟩
    exact dg_op rfl (d_as rfl ⟨rfl, own_none (Ext.refl _)⟩)
  · skip
    refine ⟨fun _ _ _ _ _ _ h _ => h, fun _ _ h _ => h, fun σ' w' hA hE hD hP => ?_⟩
    have t30 : σ' 30 = (.bool m12.2.2) := hD 10 rfl
    refine dg_op rfl (d_as (v := .bool m12.2.2) t30 ?_)
    exact ⟨rfl, own_none (Ext.refl w')⟩
  · skip
    intro σ8 w8 A8 E8 V8
    obtain ⟨z8_9_11b, z8_9_11c, s9_8, z8_9_11ble, z8_9_11bB, z8_9_11bZ⟩ : ∃ z8_9_11b : Nat, ∃ z8_9_11c : Array Value, σ8 9 = (.pointer (some ⟨z8_9_11b, 0, none⟩)) ∧ w4.heap.size ≤ z8_9_11b ∧ w8.heap[z8_9_11b]? = some (.cells z8_9_11c 32 (0, 0)) ∧ z8_9_11c.size = 10 := V8 11 (Nat.le_of_ble_eq_true rfl)
    obtain ⟨z8_10_6_1v, s10_8, z8_10_6_1vL, z8_10_6_1vR⟩ : ∃ z8_10_6_1v : Value, σ8 29 = z8_10_6_1v ∧ (∀ k, z8_10_6_1v.ownBlock = some k → w4.heap.size ≤ k) ∧ OS w8 29 encSVector z8_10_6_1v m12.2.1 := V8 9 (Nat.le_of_ble_eq_true rfl)
    have s11_8 : σ8 11 = (.bool m12.2.2) := V8 14 (Nat.le_of_ble_eq_true rfl)
    obtain ⟨z8_m0_11b, z8_m0_6_0r0, z8_m0_6_0r1, z8_m0_6_0r2, z8_m0_6_0r3, z8_m0_6_0r4, z8_m0_6_0r5, z8_m0_6_0r6, z8_m0_6_0r7, z8_m0_6_0r8, z8_m0_6_0r9, hbn8, hBn8, z8_m0_6_0h0, z8_m0_6_0h1, z8_m0_6_0h2, z8_m0_6_0h3, z8_m0_6_0h4, z8_m0_6_0h5, z8_m0_6_0h6, z8_m0_6_0h7, z8_m0_6_0h8, z8_m0_6_0h9⟩ : ∃ z8_m0_11b : Nat, ∃ z8_m0_6_0r0 : Nat, ∃ z8_m0_6_0r1 : Nat, ∃ z8_m0_6_0r2 : Nat, ∃ z8_m0_6_0r3 : Nat, ∃ z8_m0_6_0r4 : Nat, ∃ z8_m0_6_0r5 : Nat, ∃ z8_m0_6_0r6 : Nat, ∃ z8_m0_6_0r7 : Nat, ∃ z8_m0_6_0r8 : Nat, ∃ z8_m0_6_0r9 : Nat, σ8 9 = .pointer (some ⟨z8_m0_11b, 0, none⟩) ∧ w8.heap[z8_m0_11b]? = some (.cells #[.float .f32 z8_m0_6_0r0, .float .f32 z8_m0_6_0r1, .float .f32 z8_m0_6_0r2, .float .f32 z8_m0_6_0r3, .float .f32 z8_m0_6_0r4, .float .f32 z8_m0_6_0r5, .float .f32 z8_m0_6_0r6, .float .f32 z8_m0_6_0r7, .float .f32 z8_m0_6_0r8, .float .f32 z8_m0_6_0r9] 32 (0, 0)) ∧ cn .f32 z8_m0_6_0r0 = m12.1.moments.x ∧ cn .f32 z8_m0_6_0r1 = m12.1.moments.y ∧ cn .f32 z8_m0_6_0r2 = m12.1.moments.z ∧ cn .f32 z8_m0_6_0r3 = m12.1.turn.w ∧ cn .f32 z8_m0_6_0r4 = m12.1.turn.x ∧ cn .f32 z8_m0_6_0r5 = m12.1.turn.y ∧ cn .f32 z8_m0_6_0r6 = m12.1.turn.z ∧ cn .f32 z8_m0_6_0r7 = m12.1.speed.x ∧ cn .f32 z8_m0_6_0r8 = m12.1.speed.y ∧ cn .f32 z8_m0_6_0r9 = m12.1.speed.z := V8 12 (Nat.le_of_ble_eq_true rfl)
    have hen8 : z8_m0_11b = z8_9_11b := by have := hbn8.symm.trans s9_8; simp only [Value.pointer.injEq, Option.some.injEq, Addr.mk.injEq] at this; exact this.1
    rw [hen8] at hBn8
    have own26 : w.heap.size ≤ z8_9_11b := Nat.le_trans X7.size z8_9_11ble
    have sp27 : w.heap.size ≠ z8_9_11b := Nat.ne_of_lt (Nat.lt_of_lt_of_le (lt_heap B9) z8_9_11ble)
    have sp28 : w1.heap.size ≠ z8_9_11b := Nat.ne_of_lt (Nat.lt_of_lt_of_le (lt_heap B4) z8_9_11ble)
    have own29 : ∀ k, z8_10_6_1v.ownBlock = some k → w.heap.size ≤ k := fun k hk => Nat.le_trans X7.size (z8_10_6_1vL k hk)
    have sp30 : ¬ z8_10_6_1v.ownBlock = some w.heap.size := ne_fresh z8_10_6_1vL (lt_heap B9)
    have sp31 : ¬ z8_10_6_1v.ownBlock = some w1.heap.size := ne_fresh z8_10_6_1vL (lt_heap B4)
    have s2_8 : σ8 2 = .float .f32 p2r := (A8 2 rfl).trans rfl
    have s3_8 : σ8 3 = .int .i64 p3 := (A8 3 rfl).trans rfl
    have s4_8 : σ8 4 = .pointer (some ⟨w.heap.size, 0, none⟩) := (A8 4 rfl).trans rfl
    have s5_8 : σ8 5 = .pointer (some ⟨w1.heap.size, 0, none⟩) := (A8 5 rfl).trans rfl
    have X32 : Ext w w8 := Ext.step X7 E8 (oth_own1 (fun k _ hk => Nat.le_trans X7.size hk.1))
    refine W_seq ?_
    have B34 : w8.heap[w.heap.size]? = some (.cells #[.float .f32 p0r0, .float .f32 p0r1, .float .f32 p0r2, .float .f32 p0r3, .float .f32 p0r4, .float .f32 p0r5, .float .f32 p0r6, .float .f32 p0r7, .float .f32 p0r8, .float .f32 p0r9] 28 (0, 0)) := E8.heap (not_oth1 (not_newT_box B9)) B9
    have B35 : w8.heap[w1.heap.size]? = some (.cells #[.float .f32 p1r0, .float .f32 p1r1, .float .f32 p1r2] 24 (0, 0)) := E8.heap (not_oth1 (not_newT_box B4)) B4
    obtain ⟨m36, hm36, hr⟩ := letv_out hr
    obtain ⟨m37, hm37, hr⟩ := letv_out hr
    obtain ⟨m38, hm38, hr⟩ := bind_out hr
    refine W_any [(fun k t => w8.heap.size ≤ k ∧ t = some 32)] [{ V := fun _ v _ => v = (.agg #[.float .f32 p0r0, .float .f32 p0r1, .float .f32 p0r2, .float .f32 p0r3, .float .f32 p0r4, .float .f32 p0r5, .float .f32 p0r6, .float .f32 p0r7, .float .f32 p0r8, .float .f32 p0r9]) }, { V := fun _ v _ => ∃ d33_1_0r0 : Nat, ∃ d33_1_0r1 : Nat, ∃ d33_1_0r2 : Nat, ∃ d33_1_0r3 : Nat, ∃ d33_1_0r4 : Nat, ∃ d33_1_0r5 : Nat, ∃ d33_1_0r6 : Nat, ∃ d33_1_0r7 : Nat, ∃ d33_1_0r8 : Nat, ∃ d33_1_0r9 : Nat, v = (.agg #[.float .f32 d33_1_0r0, .float .f32 d33_1_0r1, .float .f32 d33_1_0r2, .float .f32 d33_1_0r3, .float .f32 d33_1_0r4, .float .f32 d33_1_0r5, .float .f32 d33_1_0r6, .float .f32 d33_1_0r7, .float .f32 d33_1_0r8, .float .f32 d33_1_0r9]) ∧ cn .f32 d33_1_0r0 = m36.moments.x ∧ cn .f32 d33_1_0r1 = m36.moments.y ∧ cn .f32 d33_1_0r2 = m36.moments.z ∧ cn .f32 d33_1_0r3 = m36.turn.w ∧ cn .f32 d33_1_0r4 = m36.turn.x ∧ cn .f32 d33_1_0r5 = m36.turn.y ∧ cn .f32 d33_1_0r6 = m36.turn.z ∧ cn .f32 d33_1_0r7 = m36.speed.x ∧ cn .f32 d33_1_0r8 = m36.speed.y ∧ cn .f32 d33_1_0r9 = m36.speed.z }, { V := fun _ v _ => v = (.agg #[.float .f32 p1r0, .float .f32 p1r1, .float .f32 p1r2]) }, { V := fun _ v _ => ∃ d33_3_0r0 : Nat, ∃ d33_3_0r1 : Nat, ∃ d33_3_0r2 : Nat, v = (.agg #[.float .f32 d33_3_0r0, .float .f32 d33_3_0r1, .float .f32 d33_3_0r2]) ∧ cn .f32 d33_3_0r0 = m37.x ∧ cn .f32 d33_3_0r1 = m37.y ∧ cn .f32 d33_3_0r2 = m37.z }, { V := fun _ v _ => v = (.float .f32 p2r) }, { V := fun _ v _ => v = (.int .i64 p3) }, { V := fun _ v w' => ∃ d33_6_0r0 : Nat, ∃ d33_6_0r1 : Nat, ∃ d33_6_0r2 : Nat, ∃ d33_6_0r3 : Nat, ∃ d33_6_0r4 : Nat, ∃ d33_6_0r5 : Nat, ∃ d33_6_0r6 : Nat, ∃ d33_6_0r7 : Nat, ∃ d33_6_0r8 : Nat, ∃ d33_6_0r9 : Nat, ∃ d33_6_1v : Value, v = (.tuple #[.agg #[.float .f32 d33_6_0r0, .float .f32 d33_6_0r1, .float .f32 d33_6_0r2, .float .f32 d33_6_0r3, .float .f32 d33_6_0r4, .float .f32 d33_6_0r5, .float .f32 d33_6_0r6, .float .f32 d33_6_0r7, .float .f32 d33_6_0r8, .float .f32 d33_6_0r9], d33_6_1v, .bool m38.2.2]) ∧ cn .f32 d33_6_0r0 = m38.1.moments.x ∧ cn .f32 d33_6_0r1 = m38.1.moments.y ∧ cn .f32 d33_6_0r2 = m38.1.moments.z ∧ cn .f32 d33_6_0r3 = m38.1.turn.w ∧ cn .f32 d33_6_0r4 = m38.1.turn.x ∧ cn .f32 d33_6_0r5 = m38.1.turn.y ∧ cn .f32 d33_6_0r6 = m38.1.turn.z ∧ cn .f32 d33_6_0r7 = m38.1.speed.x ∧ cn .f32 d33_6_0r8 = m38.1.speed.y ∧ cn .f32 d33_6_0r9 = m38.1.speed.z ∧ (∀ k, d33_6_1v.ownBlock = some k → w8.heap.size ≤ k) ∧ OS w' 29 encSVector d33_6_1v m38.2.1 }, { V := fun _ v w' => ∃ d33_6_0r0 : Nat, ∃ d33_6_0r1 : Nat, ∃ d33_6_0r2 : Nat, ∃ d33_6_0r3 : Nat, ∃ d33_6_0r4 : Nat, ∃ d33_6_0r5 : Nat, ∃ d33_6_0r6 : Nat, ∃ d33_6_0r7 : Nat, ∃ d33_6_0r8 : Nat, ∃ d33_6_0r9 : Nat, ∃ d33_6_1v : Value, v = (.tuple #[.agg #[.float .f32 d33_6_0r0, .float .f32 d33_6_0r1, .float .f32 d33_6_0r2, .float .f32 d33_6_0r3, .float .f32 d33_6_0r4, .float .f32 d33_6_0r5, .float .f32 d33_6_0r6, .float .f32 d33_6_0r7, .float .f32 d33_6_0r8, .float .f32 d33_6_0r9], d33_6_1v, .bool m38.2.2]) ∧ cn .f32 d33_6_0r0 = m38.1.moments.x ∧ cn .f32 d33_6_0r1 = m38.1.moments.y ∧ cn .f32 d33_6_0r2 = m38.1.moments.z ∧ cn .f32 d33_6_0r3 = m38.1.turn.w ∧ cn .f32 d33_6_0r4 = m38.1.turn.x ∧ cn .f32 d33_6_0r5 = m38.1.turn.y ∧ cn .f32 d33_6_0r6 = m38.1.turn.z ∧ cn .f32 d33_6_0r7 = m38.1.speed.x ∧ cn .f32 d33_6_0r8 = m38.1.speed.y ∧ cn .f32 d33_6_0r9 = m38.1.speed.z ∧ (∀ k, d33_6_1v.ownBlock = some k → w8.heap.size ≤ k) ∧ OS w' 29 encSVector d33_6_1v m38.2.1 }, { V := fun _ v _ => ∃ d33_6_0r0 : Nat, ∃ d33_6_0r1 : Nat, ∃ d33_6_0r2 : Nat, ∃ d33_6_0r3 : Nat, ∃ d33_6_0r4 : Nat, ∃ d33_6_0r5 : Nat, ∃ d33_6_0r6 : Nat, ∃ d33_6_0r7 : Nat, ∃ d33_6_0r8 : Nat, ∃ d33_6_0r9 : Nat, v = (.agg #[.float .f32 d33_6_0r0, .float .f32 d33_6_0r1, .float .f32 d33_6_0r2, .float .f32 d33_6_0r3, .float .f32 d33_6_0r4, .float .f32 d33_6_0r5, .float .f32 d33_6_0r6, .float .f32 d33_6_0r7, .float .f32 d33_6_0r8, .float .f32 d33_6_0r9]) ∧ cn .f32 d33_6_0r0 = m38.1.moments.x ∧ cn .f32 d33_6_0r1 = m38.1.moments.y ∧ cn .f32 d33_6_0r2 = m38.1.moments.z ∧ cn .f32 d33_6_0r3 = m38.1.turn.w ∧ cn .f32 d33_6_0r4 = m38.1.turn.x ∧ cn .f32 d33_6_0r5 = m38.1.turn.y ∧ cn .f32 d33_6_0r6 = m38.1.turn.z ∧ cn .f32 d33_6_0r7 = m38.1.speed.x ∧ cn .f32 d33_6_0r8 = m38.1.speed.y ∧ cn .f32 d33_6_0r9 = m38.1.speed.z }, { V := fun _ v w' => ∃ d33_6_1v : Value, v = d33_6_1v ∧ (∀ k, d33_6_1v.ownBlock = some k → w8.heap.size ≤ k) ∧ OS w' 29 encSVector d33_6_1v m38.2.1 }, { V := fun _ v _ => v = (.bool m38.2.2) }, { V := fun _ v w' => ∃ d33_11b : Nat, ∃ d33_11c : Array Value, v = (.pointer (some ⟨d33_11b, 0, none⟩)) ∧ w8.heap.size ≤ d33_11b ∧ w'.heap[d33_11b]? = some (.cells d33_11c 32 (0, 0)) ∧ d33_11c.size = 10 }, ⟨fun sg _ w' => ∃ d33_11b : Nat, ∃ d33_6_0r0 : Nat, ∃ d33_6_0r1 : Nat, ∃ d33_6_0r2 : Nat, ∃ d33_6_0r3 : Nat, ∃ d33_6_0r4 : Nat, ∃ d33_6_0r5 : Nat, ∃ d33_6_0r6 : Nat, ∃ d33_6_0r7 : Nat, ∃ d33_6_0r8 : Nat, ∃ d33_6_0r9 : Nat, sg 12 = .pointer (some ⟨d33_11b, 0, none⟩) ∧ w'.heap[d33_11b]? = some (.cells #[.float .f32 d33_6_0r0, .float .f32 d33_6_0r1, .float .f32 d33_6_0r2, .float .f32 d33_6_0r3, .float .f32 d33_6_0r4, .float .f32 d33_6_0r5, .float .f32 d33_6_0r6, .float .f32 d33_6_0r7, .float .f32 d33_6_0r8, .float .f32 d33_6_0r9] 32 (0, 0)) ∧ cn .f32 d33_6_0r0 = m38.1.moments.x ∧ cn .f32 d33_6_0r1 = m38.1.moments.y ∧ cn .f32 d33_6_0r2 = m38.1.moments.z ∧ cn .f32 d33_6_0r3 = m38.1.turn.w ∧ cn .f32 d33_6_0r4 = m38.1.turn.x ∧ cn .f32 d33_6_0r5 = m38.1.turn.y ∧ cn .f32 d33_6_0r6 = m38.1.turn.z ∧ cn .f32 d33_6_0r7 = m38.1.speed.x ∧ cn .f32 d33_6_0r8 = m38.1.speed.y ∧ cn .f32 d33_6_0r9 = m38.1.speed.z, some 0, fun _ => True⟩, { V := fun sg v _ => v = sg 40 }, { V := fun _ v _ => v = (.bool m38.2.2) }] mixed (by kernel_rfl) ⟨trivial, trivial, trivial, trivial, trivial, trivial, trivial, trivial, trivial, trivial, trivial, trivial, trivial, trivial, trivial, trivial⟩ ⟨?_, ?_, ?_, ?_, ?_, ?_, ?_, ?_, ?_, ?_, ?_, ?_, ?_, ?_, ?_, trivial⟩ ?_
    · skip
      refine ⟨fun _ _ _ _ _ _ h _ => h, fun _ _ h _ => h, fun σ' w' hA hE hD hP => ?_⟩
      have t4 : σ' 4 = .pointer (some ⟨w.heap.size, 0, none⟩) := (hA 4 rfl).trans s4_8
      have B0_39 : w'.heap[w.heap.size]? = some (.cells #[.float .f32 p0r0, .float .f32 p0r1, .float .f32 p0r2, .float .f32 p0r3, .float .f32 p0r4, .float .f32 p0r5, .float .f32 p0r6, .float .f32 p0r7, .float .f32 p0r8, .float .f32 p0r9] 28 (0, 0)) := hE.heap (not_oth1 (not_newT_box B34)) B34
      refine dg_op rfl (d_loads (vs := #[.float .f32 p0r0, .float .f32 p0r1, .float .f32 p0r2, .float .f32 p0r3, .float .f32 p0r4, .float .f32 p0r5, .float .f32 p0r6, .float .f32 p0r7, .float .f32 p0r8, .float .f32 p0r9]) t4 agg28 size28 B0_39 rfl ?_)
      exact ⟨rfl, own_none (Ext.refl w')⟩
    · skip
      refine ⟨fun _ _ _ _ _ _ h _ => h, fun _ _ h _ => h, fun σ' w' hA hE hD hP => ?_⟩
      have t32 : σ' 32 = (.agg #[.float .f32 p0r0, .float .f32 p0r1, .float .f32 p0r2, .float .f32 p0r3, .float .f32 p0r4, .float .f32 p0r5, .float .f32 p0r6, .float .f32 p0r7, .float .f32 p0r8, .float .f32 p0r9]) := hD 0 rfl
      refine dg_op rfl (d_cl (vs := [.agg #[.float .f32 p0r0, .float .f32 p0r1, .float .f32 p0r2, .float .f32 p0r3, .float .f32 p0r4, .float .f32 p0r5, .float .f32 p0r6, .float .f32 p0r7, .float .f32 p0r8, .float .f32 p0r9]]) en7 (ac t32 rfl) rfl ?_)
      refine (c7 (⟨(⟨p0.moments.x, p0.moments.y, p0.moments.z⟩ : SVector), (⟨p0.turn.w, p0.turn.x, p0.turn.y, p0.turn.z⟩ : SSpin), (⟨p0.speed.x, p0.speed.y, p0.speed.z⟩ : SVector)⟩ : STop) p0r0 p0r1 p0r2 p0r3 p0r4 p0r5 p0r6 p0r7 p0r8 p0r9 m36 w' hm36 p0h0 p0h1 p0h2 p0h3 p0h4 p0h5 p0h6 p0h7 p0h8 p0h9).mono ?_
      rintro _ w40 ⟨q40_0r0, q40_0r1, q40_0r2, q40_0r3, q40_0r4, q40_0r5, q40_0r6, q40_0r7, q40_0r8, q40_0r9, rfl, q40_0h0, q40_0h1, q40_0h2, q40_0h3, q40_0h4, q40_0h5, q40_0h6, q40_0h7, q40_0h8, q40_0h9, E40⟩
      refine ⟨_, rfl, ?_⟩
      have X41 : Ext w' w40 := (Ext.refl w').trans E40
      exact ⟨⟨q40_0r0, q40_0r1, q40_0r2, q40_0r3, q40_0r4, q40_0r5, q40_0r6, q40_0r7, q40_0r8, q40_0r9, rfl, q40_0h0, q40_0h1, q40_0h2, q40_0h3, q40_0h4, q40_0h5, q40_0h6, q40_0h7, q40_0h8, q40_0h9⟩, own_none X41⟩
    · skip
      refine ⟨fun _ _ _ _ _ _ h _ => h, fun _ _ h _ => h, fun σ' w' hA hE hD hP => ?_⟩
      have t5 : σ' 5 = .pointer (some ⟨w1.heap.size, 0, none⟩) := (hA 5 rfl).trans s5_8
      have B0_42 : w'.heap[w1.heap.size]? = some (.cells #[.float .f32 p1r0, .float .f32 p1r1, .float .f32 p1r2] 24 (0, 0)) := hE.heap (not_oth1 (not_newT_box B35)) B35
      refine dg_op rfl (d_loads (vs := #[.float .f32 p1r0, .float .f32 p1r1, .float .f32 p1r2]) t5 agg24 size24 B0_42 rfl ?_)
      exact ⟨rfl, own_none (Ext.refl w')⟩
    · skip
      refine ⟨fun _ _ _ _ _ _ h _ => h, fun _ _ h _ => h, fun σ' w' hA hE hD hP => ?_⟩
      have t34 : σ' 34 = (.agg #[.float .f32 p1r0, .float .f32 p1r1, .float .f32 p1r2]) := hD 2 rfl
      refine dg_op rfl (d_cl (vs := [.agg #[.float .f32 p1r0, .float .f32 p1r1, .float .f32 p1r2]]) en8 (ac t34 rfl) rfl ?_)
      refine (c8 (⟨p1.x, p1.y, p1.z⟩ : SVector) p1r0 p1r1 p1r2 m37 w' hm37 p1h0 p1h1 p1h2).mono ?_
      rintro _ w43 ⟨q43_0r0, q43_0r1, q43_0r2, rfl, q43_0h0, q43_0h1, q43_0h2, E43⟩
      refine ⟨_, rfl, ?_⟩
      have X44 : Ext w' w43 := (Ext.refl w').trans E43
      exact ⟨⟨q43_0r0, q43_0r1, q43_0r2, rfl, q43_0h0, q43_0h1, q43_0h2⟩, own_none X44⟩
    · skip
      refine ⟨fun _ _ _ _ _ _ h _ => h, fun _ _ h _ => h, fun σ' w' hA hE hD hP => ?_⟩
      have t2 : σ' 2 = .float .f32 p2r := (hA 2 rfl).trans s2_8
      refine dg_op rfl (d_mv (v := .float .f32 p2r) t2 ?_)
      exact ⟨rfl, own_none (Ext.refl w')⟩
    · skip
      refine ⟨fun _ _ _ _ _ _ h _ => h, fun _ _ h _ => h, fun σ' w' hA hE hD hP => ?_⟩
      have t3 : σ' 3 = .int .i64 p3 := (hA 3 rfl).trans s3_8
      refine dg_op rfl (d_mv (v := .int .i64 p3) t3 ?_)
      exact ⟨rfl, own_none (Ext.refl w')⟩
    · skip
      refine ⟨fun _ _ _ w' w'' _ ⟨d33_6_0r0, d33_6_0r1, d33_6_0r2, d33_6_0r3, d33_6_0r4, d33_6_0r5, d33_6_0r6, d33_6_0r7, d33_6_0r8, d33_6_0r9, d33_6_1v, hv, d33_6_0h0, d33_6_0h1, d33_6_0h2, d33_6_0h3, d33_6_0h4, d33_6_0h5, d33_6_0h6, d33_6_0h7, d33_6_0h8, d33_6_0h9, d33_6_1vL, d33_6_1vR⟩ hF => ⟨d33_6_0r0, d33_6_0r1, d33_6_0r2, d33_6_0r3, d33_6_0r4, d33_6_0r5, d33_6_0r6, d33_6_0r7, d33_6_0r8, d33_6_0r9, d33_6_1v, hv, d33_6_0h0, d33_6_0h1, d33_6_0h2, d33_6_0h3, d33_6_0h4, d33_6_0h5, d33_6_0h6, d33_6_0h7, d33_6_0h8, d33_6_0h9, d33_6_1vL, d33_6_1vR.frm hF (fun k hk => (not_oth1 (nty (by decide))))⟩, fun _ _ h _ => h, fun σ' w' hA hE hD hP => ?_⟩
      obtain ⟨d33_1_0r0, d33_1_0r1, d33_1_0r2, d33_1_0r3, d33_1_0r4, d33_1_0r5, d33_1_0r6, d33_1_0r7, d33_1_0r8, d33_1_0r9, t33, d33_1_0h0, d33_1_0h1, d33_1_0h2, d33_1_0h3, d33_1_0h4, d33_1_0h5, d33_1_0h6, d33_1_0h7, d33_1_0h8, d33_1_0h9⟩ : ∃ d33_1_0r0 : Nat, ∃ d33_1_0r1 : Nat, ∃ d33_1_0r2 : Nat, ∃ d33_1_0r3 : Nat, ∃ d33_1_0r4 : Nat, ∃ d33_1_0r5 : Nat, ∃ d33_1_0r6 : Nat, ∃ d33_1_0r7 : Nat, ∃ d33_1_0r8 : Nat, ∃ d33_1_0r9 : Nat, σ' 33 = (.agg #[.float .f32 d33_1_0r0, .float .f32 d33_1_0r1, .float .f32 d33_1_0r2, .float .f32 d33_1_0r3, .float .f32 d33_1_0r4, .float .f32 d33_1_0r5, .float .f32 d33_1_0r6, .float .f32 d33_1_0r7, .float .f32 d33_1_0r8, .float .f32 d33_1_0r9]) ∧ cn .f32 d33_1_0r0 = m36.moments.x ∧ cn .f32 d33_1_0r1 = m36.moments.y ∧ cn .f32 d33_1_0r2 = m36.moments.z ∧ cn .f32 d33_1_0r3 = m36.turn.w ∧ cn .f32 d33_1_0r4 = m36.turn.x ∧ cn .f32 d33_1_0r5 = m36.turn.y ∧ cn .f32 d33_1_0r6 = m36.turn.z ∧ cn .f32 d33_1_0r7 = m36.speed.x ∧ cn .f32 d33_1_0r8 = m36.speed.y ∧ cn .f32 d33_1_0r9 = m36.speed.z := hD 1 rfl
      obtain ⟨d33_3_0r0, d33_3_0r1, d33_3_0r2, t35, d33_3_0h0, d33_3_0h1, d33_3_0h2⟩ : ∃ d33_3_0r0 : Nat, ∃ d33_3_0r1 : Nat, ∃ d33_3_0r2 : Nat, σ' 35 = (.agg #[.float .f32 d33_3_0r0, .float .f32 d33_3_0r1, .float .f32 d33_3_0r2]) ∧ cn .f32 d33_3_0r0 = m37.x ∧ cn .f32 d33_3_0r1 = m37.y ∧ cn .f32 d33_3_0r2 = m37.z := hD 3 rfl
      have t36 : σ' 36 = (.float .f32 p2r) := hD 4 rfl
      have t37 : σ' 37 = (.int .i64 p3) := hD 5 rfl
      refine dg_op rfl (d_cl (vs := [.agg #[.float .f32 d33_1_0r0, .float .f32 d33_1_0r1, .float .f32 d33_1_0r2, .float .f32 d33_1_0r3, .float .f32 d33_1_0r4, .float .f32 d33_1_0r5, .float .f32 d33_1_0r6, .float .f32 d33_1_0r7, .float .f32 d33_1_0r8, .float .f32 d33_1_0r9], .agg #[.float .f32 d33_3_0r0, .float .f32 d33_3_0r1, .float .f32 d33_3_0r2], .float .f32 p2r, .int .i64 p3]) en9 (ac t33 (ac t35 (ac t36 (ac t37 rfl)))) rfl ?_)
      refine (c9 m36 m37 p2 p3 d33_1_0r0 d33_1_0r1 d33_1_0r2 d33_1_0r3 d33_1_0r4 d33_1_0r5 d33_1_0r6 d33_1_0r7 d33_1_0r8 d33_1_0r9 d33_3_0r0 d33_3_0r1 d33_3_0r2 p2r m38 w' hm38 d33_1_0h0 d33_1_0h1 d33_1_0h2 d33_1_0h3 d33_1_0h4 d33_1_0h5 d33_1_0h6 d33_1_0h7 d33_1_0h8 d33_1_0h9 d33_3_0h0 d33_3_0h1 d33_3_0h2 p2h).mono ?_
      rintro _ w45 ⟨q45_0r0, q45_0r1, q45_0r2, q45_0r3, q45_0r4, q45_0r5, q45_0r6, q45_0r7, q45_0r8, q45_0r9, q45_1v, rfl, q45_0h0, q45_0h1, q45_0h2, q45_0h3, q45_0h4, q45_0h5, q45_0h6, q45_0h7, q45_0h8, q45_0h9, q45_1R, q45_1F, E45⟩
      refine ⟨_, rfl, ?_⟩
      have X47 : Ext w' w45 := (Ext.refl w').trans E45
      exact ⟨⟨q45_0r0, q45_0r1, q45_0r2, q45_0r3, q45_0r4, q45_0r5, q45_0r6, q45_0r7, q45_0r8, q45_0r9, q45_1v, rfl, q45_0h0, q45_0h1, q45_0h2, q45_0h3, q45_0h4, q45_0h5, q45_0h6, q45_0h7, q45_0h8, q45_0h9, (fun k hk => Nat.le_trans hE.size (q45_1F k hk)), q45_1R⟩, own_none X47⟩
    · skip
      refine ⟨fun _ _ _ w' w'' _ ⟨d33_6_0r0, d33_6_0r1, d33_6_0r2, d33_6_0r3, d33_6_0r4, d33_6_0r5, d33_6_0r6, d33_6_0r7, d33_6_0r8, d33_6_0r9, d33_6_1v, hv, d33_6_0h0, d33_6_0h1, d33_6_0h2, d33_6_0h3, d33_6_0h4, d33_6_0h5, d33_6_0h6, d33_6_0h7, d33_6_0h8, d33_6_0h9, d33_6_1vL, d33_6_1vR⟩ hF => ⟨d33_6_0r0, d33_6_0r1, d33_6_0r2, d33_6_0r3, d33_6_0r4, d33_6_0r5, d33_6_0r6, d33_6_0r7, d33_6_0r8, d33_6_0r9, d33_6_1v, hv, d33_6_0h0, d33_6_0h1, d33_6_0h2, d33_6_0h3, d33_6_0h4, d33_6_0h5, d33_6_0h6, d33_6_0h7, d33_6_0h8, d33_6_0h9, d33_6_1vL, d33_6_1vR.frm hF (fun k hk => (not_oth1 (nty (by decide))))⟩, fun _ _ h _ => h, fun σ' w' hA hE hD hP => ?_⟩
      obtain ⟨d33_6_0r0, d33_6_0r1, d33_6_0r2, d33_6_0r3, d33_6_0r4, d33_6_0r5, d33_6_0r6, d33_6_0r7, d33_6_0r8, d33_6_0r9, d33_6_1v, t38, d33_6_0h0, d33_6_0h1, d33_6_0h2, d33_6_0h3, d33_6_0h4, d33_6_0h5, d33_6_0h6, d33_6_0h7, d33_6_0h8, d33_6_0h9, d33_6_1vL, d33_6_1vR⟩ : ∃ d33_6_0r0 : Nat, ∃ d33_6_0r1 : Nat, ∃ d33_6_0r2 : Nat, ∃ d33_6_0r3 : Nat, ∃ d33_6_0r4 : Nat, ∃ d33_6_0r5 : Nat, ∃ d33_6_0r6 : Nat, ∃ d33_6_0r7 : Nat, ∃ d33_6_0r8 : Nat, ∃ d33_6_0r9 : Nat, ∃ d33_6_1v : Value, σ' 38 = (.tuple #[.agg #[.float .f32 d33_6_0r0, .float .f32 d33_6_0r1, .float .f32 d33_6_0r2, .float .f32 d33_6_0r3, .float .f32 d33_6_0r4, .float .f32 d33_6_0r5, .float .f32 d33_6_0r6, .float .f32 d33_6_0r7, .float .f32 d33_6_0r8, .float .f32 d33_6_0r9], d33_6_1v, .bool m38.2.2]) ∧ cn .f32 d33_6_0r0 = m38.1.moments.x ∧ cn .f32 d33_6_0r1 = m38.1.moments.y ∧ cn .f32 d33_6_0r2 = m38.1.moments.z ∧ cn .f32 d33_6_0r3 = m38.1.turn.w ∧ cn .f32 d33_6_0r4 = m38.1.turn.x ∧ cn .f32 d33_6_0r5 = m38.1.turn.y ∧ cn .f32 d33_6_0r6 = m38.1.turn.z ∧ cn .f32 d33_6_0r7 = m38.1.speed.x ∧ cn .f32 d33_6_0r8 = m38.1.speed.y ∧ cn .f32 d33_6_0r9 = m38.1.speed.z ∧ (∀ k, d33_6_1v.ownBlock = some k → w8.heap.size ≤ k) ∧ OS w' 29 encSVector d33_6_1v m38.2.1 := hD 6 rfl
      refine dg_op rfl (d_mv (v := .tuple #[.agg #[.float .f32 d33_6_0r0, .float .f32 d33_6_0r1, .float .f32 d33_6_0r2, .float .f32 d33_6_0r3, .float .f32 d33_6_0r4, .float .f32 d33_6_0r5, .float .f32 d33_6_0r6, .float .f32 d33_6_0r7, .float .f32 d33_6_0r8, .float .f32 d33_6_0r9], d33_6_1v, .bool m38.2.2]) t38 ?_)
      exact ⟨⟨d33_6_0r0, d33_6_0r1, d33_6_0r2, d33_6_0r3, d33_6_0r4, d33_6_0r5, d33_6_0r6, d33_6_0r7, d33_6_0r8, d33_6_0r9, d33_6_1v, rfl, d33_6_0h0, d33_6_0h1, d33_6_0h2, d33_6_0h3, d33_6_0h4, d33_6_0h5, d33_6_0h6, d33_6_0h7, d33_6_0h8, d33_6_0h9, d33_6_1vL, d33_6_1vR⟩, own_none (Ext.refl w')⟩
    · skip
      refine ⟨fun _ _ _ _ _ _ h _ => h, fun _ _ h _ => h, fun σ' w' hA hE hD hP => ?_⟩
      obtain ⟨d33_6_0r0, d33_6_0r1, d33_6_0r2, d33_6_0r3, d33_6_0r4, d33_6_0r5, d33_6_0r6, d33_6_0r7, d33_6_0r8, d33_6_0r9, d33_6_1v, t31, d33_6_0h0, d33_6_0h1, d33_6_0h2, d33_6_0h3, d33_6_0h4, d33_6_0h5, d33_6_0h6, d33_6_0h7, d33_6_0h8, d33_6_0h9, d33_6_1vL, d33_6_1vR⟩ : ∃ d33_6_0r0 : Nat, ∃ d33_6_0r1 : Nat, ∃ d33_6_0r2 : Nat, ∃ d33_6_0r3 : Nat, ∃ d33_6_0r4 : Nat, ∃ d33_6_0r5 : Nat, ∃ d33_6_0r6 : Nat, ∃ d33_6_0r7 : Nat, ∃ d33_6_0r8 : Nat, ∃ d33_6_0r9 : Nat, ∃ d33_6_1v : Value, σ' 31 = (.tuple #[.agg #[.float .f32 d33_6_0r0, .float .f32 d33_6_0r1, .float .f32 d33_6_0r2, .float .f32 d33_6_0r3, .float .f32 d33_6_0r4, .float .f32 d33_6_0r5, .float .f32 d33_6_0r6, .float .f32 d33_6_0r7, .float .f32 d33_6_0r8, .float .f32 d33_6_0r9], d33_6_1v, .bool m38.2.2]) ∧ cn .f32 d33_6_0r0 = m38.1.moments.x ∧ cn .f32 d33_6_0r1 = m38.1.moments.y ∧ cn .f32 d33_6_0r2 = m38.1.moments.z ∧ cn .f32 d33_6_0r3 = m38.1.turn.w ∧ cn .f32 d33_6_0r4 = m38.1.turn.x ∧ cn .f32 d33_6_0r5 = m38.1.turn.y ∧ cn .f32 d33_6_0r6 = m38.1.turn.z ∧ cn .f32 d33_6_0r7 = m38.1.speed.x ∧ cn .f32 d33_6_0r8 = m38.1.speed.y ∧ cn .f32 d33_6_0r9 = m38.1.speed.z ∧ (∀ k, d33_6_1v.ownBlock = some k → w8.heap.size ≤ k) ∧ OS w' 29 encSVector d33_6_1v m38.2.1 := hD 7 rfl
      refine dg_op rfl (d_extract (v := .agg #[.float .f32 d33_6_0r0, .float .f32 d33_6_0r1, .float .f32 d33_6_0r2, .float .f32 d33_6_0r3, .float .f32 d33_6_0r4, .float .f32 d33_6_0r5, .float .f32 d33_6_0r6, .float .f32 d33_6_0r7, .float .f32 d33_6_0r8, .float .f32 d33_6_0r9]) t31 rfl ?_)
      exact ⟨⟨d33_6_0r0, d33_6_0r1, d33_6_0r2, d33_6_0r3, d33_6_0r4, d33_6_0r5, d33_6_0r6, d33_6_0r7, d33_6_0r8, d33_6_0r9, rfl, d33_6_0h0, d33_6_0h1, d33_6_0h2, d33_6_0h3, d33_6_0h4, d33_6_0h5, d33_6_0h6, d33_6_0h7, d33_6_0h8, d33_6_0h9⟩, own_none (Ext.refl w')⟩
    · skip
      refine ⟨fun _ _ _ w' w'' _ ⟨d33_6_1v, hv, d33_6_1vL, d33_6_1vR⟩ hF => ⟨d33_6_1v, hv, d33_6_1vL, d33_6_1vR.frm hF (fun k hk => (not_oth1 (nty (by decide))))⟩, fun _ _ h _ => h, fun σ' w' hA hE hD hP => ?_⟩
      obtain ⟨d33_6_0r0, d33_6_0r1, d33_6_0r2, d33_6_0r3, d33_6_0r4, d33_6_0r5, d33_6_0r6, d33_6_0r7, d33_6_0r8, d33_6_0r9, d33_6_1v, t31, d33_6_0h0, d33_6_0h1, d33_6_0h2, d33_6_0h3, d33_6_0h4, d33_6_0h5, d33_6_0h6, d33_6_0h7, d33_6_0h8, d33_6_0h9, d33_6_1vL, d33_6_1vR⟩ : ∃ d33_6_0r0 : Nat, ∃ d33_6_0r1 : Nat, ∃ d33_6_0r2 : Nat, ∃ d33_6_0r3 : Nat, ∃ d33_6_0r4 : Nat, ∃ d33_6_0r5 : Nat, ∃ d33_6_0r6 : Nat, ∃ d33_6_0r7 : Nat, ∃ d33_6_0r8 : Nat, ∃ d33_6_0r9 : Nat, ∃ d33_6_1v : Value, σ' 31 = (.tuple #[.agg #[.float .f32 d33_6_0r0, .float .f32 d33_6_0r1, .float .f32 d33_6_0r2, .float .f32 d33_6_0r3, .float .f32 d33_6_0r4, .float .f32 d33_6_0r5, .float .f32 d33_6_0r6, .float .f32 d33_6_0r7, .float .f32 d33_6_0r8, .float .f32 d33_6_0r9], d33_6_1v, .bool m38.2.2]) ∧ cn .f32 d33_6_0r0 = m38.1.moments.x ∧ cn .f32 d33_6_0r1 = m38.1.moments.y ∧ cn .f32 d33_6_0r2 = m38.1.moments.z ∧ cn .f32 d33_6_0r3 = m38.1.turn.w ∧ cn .f32 d33_6_0r4 = m38.1.turn.x ∧ cn .f32 d33_6_0r5 = m38.1.turn.y ∧ cn .f32 d33_6_0r6 = m38.1.turn.z ∧ cn .f32 d33_6_0r7 = m38.1.speed.x ∧ cn .f32 d33_6_0r8 = m38.1.speed.y ∧ cn .f32 d33_6_0r9 = m38.1.speed.z ∧ (∀ k, d33_6_1v.ownBlock = some k → w8.heap.size ≤ k) ∧ OS w' 29 encSVector d33_6_1v m38.2.1 := hD 7 rfl
      refine dg_op rfl (d_extract (v := d33_6_1v) t31 rfl ?_)
      exact ⟨⟨d33_6_1v, rfl, d33_6_1vL, d33_6_1vR⟩, own_none (Ext.refl w')⟩
    · skip
      refine ⟨fun _ _ _ _ _ _ h _ => h, fun _ _ h _ => h, fun σ' w' hA hE hD hP => ?_⟩
      obtain ⟨d33_6_0r0, d33_6_0r1, d33_6_0r2, d33_6_0r3, d33_6_0r4, d33_6_0r5, d33_6_0r6, d33_6_0r7, d33_6_0r8, d33_6_0r9, d33_6_1v, t31, d33_6_0h0, d33_6_0h1, d33_6_0h2, d33_6_0h3, d33_6_0h4, d33_6_0h5, d33_6_0h6, d33_6_0h7, d33_6_0h8, d33_6_0h9, d33_6_1vL, d33_6_1vR⟩ : ∃ d33_6_0r0 : Nat, ∃ d33_6_0r1 : Nat, ∃ d33_6_0r2 : Nat, ∃ d33_6_0r3 : Nat, ∃ d33_6_0r4 : Nat, ∃ d33_6_0r5 : Nat, ∃ d33_6_0r6 : Nat, ∃ d33_6_0r7 : Nat, ∃ d33_6_0r8 : Nat, ∃ d33_6_0r9 : Nat, ∃ d33_6_1v : Value, σ' 31 = (.tuple #[.agg #[.float .f32 d33_6_0r0, .float .f32 d33_6_0r1, .float .f32 d33_6_0r2, .float .f32 d33_6_0r3, .float .f32 d33_6_0r4, .float .f32 d33_6_0r5, .float .f32 d33_6_0r6, .float .f32 d33_6_0r7, .float .f32 d33_6_0r8, .float .f32 d33_6_0r9], d33_6_1v, .bool m38.2.2]) ∧ cn .f32 d33_6_0r0 = m38.1.moments.x ∧ cn .f32 d33_6_0r1 = m38.1.moments.y ∧ cn .f32 d33_6_0r2 = m38.1.moments.z ∧ cn .f32 d33_6_0r3 = m38.1.turn.w ∧ cn .f32 d33_6_0r4 = m38.1.turn.x ∧ cn .f32 d33_6_0r5 = m38.1.turn.y ∧ cn .f32 d33_6_0r6 = m38.1.turn.z ∧ cn .f32 d33_6_0r7 = m38.1.speed.x ∧ cn .f32 d33_6_0r8 = m38.1.speed.y ∧ cn .f32 d33_6_0r9 = m38.1.speed.z ∧ (∀ k, d33_6_1v.ownBlock = some k → w8.heap.size ≤ k) ∧ OS w' 29 encSVector d33_6_1v m38.2.1 := hD 7 rfl
      refine dg_op rfl (d_extract (v := .bool m38.2.2) t31 rfl ?_)
      exact ⟨rfl, own_none (Ext.refl w')⟩
    · skip
      refine ⟨fun _ _ _ w' w'' _ ⟨d33_11b, d33_11c, hv, d33_11ble, d33_11bB, d33_11bZ⟩ hF => let ⟨c2, hB2, hZ2⟩ := hF.shape _ _ _ _ d33_11bB; ⟨d33_11b, c2, hv, d33_11ble, hB2, (hZ2.trans d33_11bZ)⟩, fun _ _ h _ => h, fun σ' w' hA hE hD hP => ?_⟩
      refine dg_op rfl (d_alloc (cs := #[.float .f32 0, .float .f32 0, .float .f32 0, .float .f32 0, .float .f32 0, .float .f32 0, .float .f32 0, .float .f32 0, .float .f32 0, .float .f32 0]) zero32 rfl fun w48 B48 E48 => ?_)
      have X50 : Ext w' w48 := (Ext.refl w').trans E48
      exact ⟨⟨w'.heap.size, #[.float .f32 0, .float .f32 0, .float .f32 0, .float .f32 0, .float .f32 0, .float .f32 0, .float .f32 0, .float .f32 0, .float .f32 0, .float .f32 0], rfl, hE.size, B48, rfl⟩, own_none X50⟩
    · skip
      refine ⟨fun _ _ _ w' w'' hs ⟨d33_11b, d33_6_0r0, d33_6_0r1, d33_6_0r2, d33_6_0r3, d33_6_0r4, d33_6_0r5, d33_6_0r6, d33_6_0r7, d33_6_0r8, d33_6_0r9, hb, hB, d33_6_0h0, d33_6_0h1, d33_6_0h2, d33_6_0h3, d33_6_0h4, d33_6_0h5, d33_6_0h6, d33_6_0h7, d33_6_0h8, d33_6_0h9⟩ hF => ⟨d33_11b, d33_6_0r0, d33_6_0r1, d33_6_0r2, d33_6_0r3, d33_6_0r4, d33_6_0r5, d33_6_0r6, d33_6_0r7, d33_6_0r8, d33_6_0r9, (hs 11 rfl).trans hb, hF.heap not_oth1s hB, d33_6_0h0, d33_6_0h1, d33_6_0h2, d33_6_0h3, d33_6_0h4, d33_6_0h5, d33_6_0h6, d33_6_0h7, d33_6_0h8, d33_6_0h9⟩, fun _ _ h _ => h, fun σ' w' hA hE hD hP => ?_⟩
      obtain ⟨d33_11b, d33_11c, t12, d33_11ble, d33_11bB, d33_11bZ⟩ : ∃ d33_11b : Nat, ∃ d33_11c : Array Value, σ' 12 = (.pointer (some ⟨d33_11b, 0, none⟩)) ∧ w8.heap.size ≤ d33_11b ∧ w'.heap[d33_11b]? = some (.cells d33_11c 32 (0, 0)) ∧ d33_11c.size = 10 := hD 11 rfl
      obtain ⟨d33_6_0r0, d33_6_0r1, d33_6_0r2, d33_6_0r3, d33_6_0r4, d33_6_0r5, d33_6_0r6, d33_6_0r7, d33_6_0r8, d33_6_0r9, t39, d33_6_0h0, d33_6_0h1, d33_6_0h2, d33_6_0h3, d33_6_0h4, d33_6_0h5, d33_6_0h6, d33_6_0h7, d33_6_0h8, d33_6_0h9⟩ : ∃ d33_6_0r0 : Nat, ∃ d33_6_0r1 : Nat, ∃ d33_6_0r2 : Nat, ∃ d33_6_0r3 : Nat, ∃ d33_6_0r4 : Nat, ∃ d33_6_0r5 : Nat, ∃ d33_6_0r6 : Nat, ∃ d33_6_0r7 : Nat, ∃ d33_6_0r8 : Nat, ∃ d33_6_0r9 : Nat, σ' 39 = (.agg #[.float .f32 d33_6_0r0, .float .f32 d33_6_0r1, .float .f32 d33_6_0r2, .float .f32 d33_6_0r3, .float .f32 d33_6_0r4, .float .f32 d33_6_0r5, .float .f32 d33_6_0r6, .float .f32 d33_6_0r7, .float .f32 d33_6_0r8, .float .f32 d33_6_0r9]) ∧ cn .f32 d33_6_0r0 = m38.1.moments.x ∧ cn .f32 d33_6_0r1 = m38.1.moments.y ∧ cn .f32 d33_6_0r2 = m38.1.moments.z ∧ cn .f32 d33_6_0r3 = m38.1.turn.w ∧ cn .f32 d33_6_0r4 = m38.1.turn.x ∧ cn .f32 d33_6_0r5 = m38.1.turn.y ∧ cn .f32 d33_6_0r6 = m38.1.turn.z ∧ cn .f32 d33_6_0r7 = m38.1.speed.x ∧ cn .f32 d33_6_0r8 = m38.1.speed.y ∧ cn .f32 d33_6_0r9 = m38.1.speed.z := hD 8 rfl
      refine dg_op rfl (d_store_new (vs := #[.float .f32 d33_6_0r0, .float .f32 d33_6_0r1, .float .f32 d33_6_0r2, .float .f32 d33_6_0r3, .float .f32 d33_6_0r4, .float .f32 d33_6_0r5, .float .f32 d33_6_0r6, .float .f32 d33_6_0r7, .float .f32 d33_6_0r8, .float .f32 d33_6_0r9]) t12 (congrArg Value.cells t39) d33_11bB d33_11bZ size32 rfl rfl fun w51 S51 => ?_)
      exact ⟨⟨d33_11b, d33_6_0r0, d33_6_0r1, d33_6_0r2, d33_6_0r3, d33_6_0r4, d33_6_0r5, d33_6_0r6, d33_6_0r7, d33_6_0r8, d33_6_0r9, t12, S51.here, d33_6_0h0, d33_6_0h1, d33_6_0h2, d33_6_0h3, d33_6_0h4, d33_6_0h5, d33_6_0h6, d33_6_0h7, d33_6_0h8, d33_6_0h9⟩, own_some (j := 0) rfl (S51.frm.mono (fun k t h => ⟨h.1 ▸ d33_11ble, h.2⟩))⟩
    · skip
      refine ⟨fun _ _ _ _ _ hs h _ => h.trans (hs 9 rfl).symm, fun _ _ h _ => h, fun σ' w' hA hE hD hP => ?_⟩
      exact dg_op rfl (d_as rfl ⟨rfl, own_none (Ext.refl _)⟩)
    · skip
      refine ⟨fun _ _ _ _ _ _ h _ => h, fun _ _ h _ => h, fun σ' w' hA hE hD hP => ?_⟩
      have t41 : σ' 41 = (.bool m38.2.2) := hD 10 rfl
      refine dg_op rfl (d_as (v := .bool m38.2.2) t41 ?_)
      exact ⟨rfl, own_none (Ext.refl w')⟩
    · skip
      intro σ33 w33 A33 E33 V33
      obtain ⟨z33_12_11b, z33_12_11c, s12_33, z33_12_11ble, z33_12_11bB, z33_12_11bZ⟩ : ∃ z33_12_11b : Nat, ∃ z33_12_11c : Array Value, σ33 12 = (.pointer (some ⟨z33_12_11b, 0, none⟩)) ∧ w8.heap.size ≤ z33_12_11b ∧ w33.heap[z33_12_11b]? = some (.cells z33_12_11c 32 (0, 0)) ∧ z33_12_11c.size = 10 := V33 11 (Nat.le_of_ble_eq_true rfl)
      obtain ⟨z33_13_6_1v, s13_33, z33_13_6_1vL, z33_13_6_1vR⟩ : ∃ z33_13_6_1v : Value, σ33 40 = z33_13_6_1v ∧ (∀ k, z33_13_6_1v.ownBlock = some k → w8.heap.size ≤ k) ∧ OS w33 29 encSVector z33_13_6_1v m38.2.1 := V33 9 (Nat.le_of_ble_eq_true rfl)
      have s14_33 : σ33 14 = (.bool m38.2.2) := V33 14 (Nat.le_of_ble_eq_true rfl)
      obtain ⟨z33_m0_11b, z33_m0_6_0r0, z33_m0_6_0r1, z33_m0_6_0r2, z33_m0_6_0r3, z33_m0_6_0r4, z33_m0_6_0r5, z33_m0_6_0r6, z33_m0_6_0r7, z33_m0_6_0r8, z33_m0_6_0r9, hbn33, hBn33, z33_m0_6_0h0, z33_m0_6_0h1, z33_m0_6_0h2, z33_m0_6_0h3, z33_m0_6_0h4, z33_m0_6_0h5, z33_m0_6_0h6, z33_m0_6_0h7, z33_m0_6_0h8, z33_m0_6_0h9⟩ : ∃ z33_m0_11b : Nat, ∃ z33_m0_6_0r0 : Nat, ∃ z33_m0_6_0r1 : Nat, ∃ z33_m0_6_0r2 : Nat, ∃ z33_m0_6_0r3 : Nat, ∃ z33_m0_6_0r4 : Nat, ∃ z33_m0_6_0r5 : Nat, ∃ z33_m0_6_0r6 : Nat, ∃ z33_m0_6_0r7 : Nat, ∃ z33_m0_6_0r8 : Nat, ∃ z33_m0_6_0r9 : Nat, σ33 12 = .pointer (some ⟨z33_m0_11b, 0, none⟩) ∧ w33.heap[z33_m0_11b]? = some (.cells #[.float .f32 z33_m0_6_0r0, .float .f32 z33_m0_6_0r1, .float .f32 z33_m0_6_0r2, .float .f32 z33_m0_6_0r3, .float .f32 z33_m0_6_0r4, .float .f32 z33_m0_6_0r5, .float .f32 z33_m0_6_0r6, .float .f32 z33_m0_6_0r7, .float .f32 z33_m0_6_0r8, .float .f32 z33_m0_6_0r9] 32 (0, 0)) ∧ cn .f32 z33_m0_6_0r0 = m38.1.moments.x ∧ cn .f32 z33_m0_6_0r1 = m38.1.moments.y ∧ cn .f32 z33_m0_6_0r2 = m38.1.moments.z ∧ cn .f32 z33_m0_6_0r3 = m38.1.turn.w ∧ cn .f32 z33_m0_6_0r4 = m38.1.turn.x ∧ cn .f32 z33_m0_6_0r5 = m38.1.turn.y ∧ cn .f32 z33_m0_6_0r6 = m38.1.turn.z ∧ cn .f32 z33_m0_6_0r7 = m38.1.speed.x ∧ cn .f32 z33_m0_6_0r8 = m38.1.speed.y ∧ cn .f32 z33_m0_6_0r9 = m38.1.speed.z := V33 12 (Nat.le_of_ble_eq_true rfl)
      have hen33 : z33_m0_11b = z33_12_11b := by have := hbn33.symm.trans s12_33; simp only [Value.pointer.injEq, Option.some.injEq, Addr.mk.injEq] at this; exact this.1
      rw [hen33] at hBn33
      have own52 : w.heap.size ≤ z33_12_11b := Nat.le_trans X32.size z33_12_11ble
      have sp53 : w.heap.size ≠ z33_12_11b := Nat.ne_of_lt (Nat.lt_of_lt_of_le (lt_heap B34) z33_12_11ble)
      have sp54 : w1.heap.size ≠ z33_12_11b := Nat.ne_of_lt (Nat.lt_of_lt_of_le (lt_heap B35) z33_12_11ble)
      have sp55 : z8_9_11b ≠ z33_12_11b := Nat.ne_of_lt (Nat.lt_of_lt_of_le (lt_heap hBn8) z33_12_11ble)
      have sp56 : ¬ z8_10_6_1v.ownBlock = some z33_12_11b := OS.ne_new z8_10_6_1vR z33_12_11ble
      have own57 : ∀ k, z33_13_6_1v.ownBlock = some k → w.heap.size ≤ k := fun k hk => Nat.le_trans X32.size (z33_13_6_1vL k hk)
      have sp58 : ¬ z33_13_6_1v.ownBlock = some w.heap.size := ne_fresh z33_13_6_1vL (lt_heap B34)
      have sp59 : ¬ z33_13_6_1v.ownBlock = some w1.heap.size := ne_fresh z33_13_6_1vL (lt_heap B35)
      have sp60 : ¬ z33_13_6_1v.ownBlock = some z8_9_11b := ne_fresh z33_13_6_1vL (lt_heap hBn8)
      have sp61 : ∀ k, z8_10_6_1v.ownBlock = some k → ¬ z33_13_6_1v.ownBlock = some k := apart_fresh z8_10_6_1vR z33_13_6_1vL
      have s2_33 : σ33 2 = .float .f32 p2r := (A33 2 rfl).trans s2_8
      have s3_33 : σ33 3 = .int .i64 p3 := (A33 3 rfl).trans s3_8
      have s4_33 : σ33 4 = .pointer (some ⟨w.heap.size, 0, none⟩) := (A33 4 rfl).trans s4_8
      have s5_33 : σ33 5 = .pointer (some ⟨w1.heap.size, 0, none⟩) := (A33 5 rfl).trans s5_8
      have s9_33 : σ33 9 = .pointer (some ⟨z8_9_11b, 0, none⟩) := (A33 9 rfl).trans s9_8
      have s10_33 : σ33 10 = z8_10_6_1v := (A33 10 rfl).trans (Eq.trans (show σ8 10 = σ8 29 from V8 13 (Nat.le_of_ble_eq_true rfl)) s10_8)
      have s11_33 : σ33 11 = .bool m12.2.2 := (A33 11 rfl).trans s11_8
      have X62 : Ext w w33 := Ext.step X32 E33 (oth_own1 (fun k _ hk => Nat.le_trans X32.size hk.1))
      refine W_seq ?_
      refine W_seq ?_
      have B64 : w33.heap[w.heap.size]? = some (.cells #[.float .f32 p0r0, .float .f32 p0r1, .float .f32 p0r2, .float .f32 p0r3, .float .f32 p0r4, .float .f32 p0r5, .float .f32 p0r6, .float .f32 p0r7, .float .f32 p0r8, .float .f32 p0r9] 28 (0, 0)) := E33.heap (not_oth1 (not_newT_box B34)) B34
      have B65 : w33.heap[w1.heap.size]? = some (.cells #[.float .f32 p1r0, .float .f32 p1r1, .float .f32 p1r2] 24 (0, 0)) := E33.heap (not_oth1 (not_newT_box B35)) B35
      have B66 : w33.heap[z8_9_11b]? = some (.cells #[.float .f32 z8_m0_6_0r0, .float .f32 z8_m0_6_0r1, .float .f32 z8_m0_6_0r2, .float .f32 z8_m0_6_0r3, .float .f32 z8_m0_6_0r4, .float .f32 z8_m0_6_0r5, .float .f32 z8_m0_6_0r6, .float .f32 z8_m0_6_0r7, .float .f32 z8_m0_6_0r8, .float .f32 z8_m0_6_0r9] 32 (0, 0)) := E33.heap (not_oth1 (not_newT_box hBn8)) hBn8
      have B67 : OS w33 29 encSVector z8_10_6_1v m12.2.1 := z8_10_6_1vR.frm E33 (fun k hk => (not_oth1 ((not_newT_row z8_10_6_1vR) k hk)))
      obtain ⟨m63, hm63, hr⟩ := bind_out hr
      refine W_cut (fun σ' w' => σ' 56 = .bool m63 ∧ Ext w33 w') rfl ?_ ?_
      · skip
        have hr := hm63
        refine da_op rfl (d_loads (vs := #[.float .f32 z33_m0_6_0r0, .float .f32 z33_m0_6_0r1, .float .f32 z33_m0_6_0r2, .float .f32 z33_m0_6_0r3, .float .f32 z33_m0_6_0r4, .float .f32 z33_m0_6_0r5, .float .f32 z33_m0_6_0r6, .float .f32 z33_m0_6_0r7, .float .f32 z33_m0_6_0r8, .float .f32 z33_m0_6_0r9]) s12_33 agg32 size32 hBn33 rfl ?_)
        refine da_op rfl (d_loads (vs := #[.float .f32 z8_m0_6_0r0, .float .f32 z8_m0_6_0r1, .float .f32 z8_m0_6_0r2, .float .f32 z8_m0_6_0r3, .float .f32 z8_m0_6_0r4, .float .f32 z8_m0_6_0r5, .float .f32 z8_m0_6_0r6, .float .f32 z8_m0_6_0r7, .float .f32 z8_m0_6_0r8, .float .f32 z8_m0_6_0r9]) s9_33 agg32 size32 B66 rfl ?_)
        obtain ⟨m68, hm68, hr⟩ := letv_out hr
        refine da_op rfl (d_cl (vs := [.agg #[.float .f32 z33_m0_6_0r0, .float .f32 z33_m0_6_0r1, .float .f32 z33_m0_6_0r2, .float .f32 z33_m0_6_0r3, .float .f32 z33_m0_6_0r4, .float .f32 z33_m0_6_0r5, .float .f32 z33_m0_6_0r6, .float .f32 z33_m0_6_0r7, .float .f32 z33_m0_6_0r8, .float .f32 z33_m0_6_0r9], .agg #[.float .f32 z8_m0_6_0r0, .float .f32 z8_m0_6_0r1, .float .f32 z8_m0_6_0r2, .float .f32 z8_m0_6_0r3, .float .f32 z8_m0_6_0r4, .float .f32 z8_m0_6_0r5, .float .f32 z8_m0_6_0r6, .float .f32 z8_m0_6_0r7, .float .f32 z8_m0_6_0r8, .float .f32 z8_m0_6_0r9]]) en10 (ac rfl (ac rfl rfl)) rfl ?_)
        refine (c10 (⟨(⟨m38.1.moments.x, m38.1.moments.y, m38.1.moments.z⟩ : SVector), (⟨m38.1.turn.w, m38.1.turn.x, m38.1.turn.y, m38.1.turn.z⟩ : SSpin), (⟨m38.1.speed.x, m38.1.speed.y, m38.1.speed.z⟩ : SVector)⟩ : STop) (⟨(⟨m12.1.moments.x, m12.1.moments.y, m12.1.moments.z⟩ : SVector), (⟨m12.1.turn.w, m12.1.turn.x, m12.1.turn.y, m12.1.turn.z⟩ : SSpin), (⟨m12.1.speed.x, m12.1.speed.y, m12.1.speed.z⟩ : SVector)⟩ : STop) z33_m0_6_0r0 z33_m0_6_0r1 z33_m0_6_0r2 z33_m0_6_0r3 z33_m0_6_0r4 z33_m0_6_0r5 z33_m0_6_0r6 z33_m0_6_0r7 z33_m0_6_0r8 z33_m0_6_0r9 z8_m0_6_0r0 z8_m0_6_0r1 z8_m0_6_0r2 z8_m0_6_0r3 z8_m0_6_0r4 z8_m0_6_0r5 z8_m0_6_0r6 z8_m0_6_0r7 z8_m0_6_0r8 z8_m0_6_0r9 m68 w33 hm68 z33_m0_6_0h0 z33_m0_6_0h1 z33_m0_6_0h2 z33_m0_6_0h3 z33_m0_6_0h4 z33_m0_6_0h5 z33_m0_6_0h6 z33_m0_6_0h7 z33_m0_6_0h8 z33_m0_6_0h9 z8_m0_6_0h0 z8_m0_6_0h1 z8_m0_6_0h2 z8_m0_6_0h3 z8_m0_6_0h4 z8_m0_6_0h5 z8_m0_6_0h6 z8_m0_6_0h7 z8_m0_6_0h8 z8_m0_6_0h9).mono ?_
        rintro _ w69 ⟨rfl, E69⟩
        refine ⟨_, rfl, ?_⟩
        have X70 : Ext w w69 := X62.trans E69
        refine da_op rfl (d_not rfl ?_)
        refine da_op rfl (d_mv (v := .bool (!m68)) rfl ?_)
        rcases Bool.eq_false_or_eq_true m68 with hc71 | hc71
        · skip
          replace hr := bif_t hr hc71
          refine da_on rfl (Eq.trans (show sl _ _ _ = .bool (!m68) from rfl) (congrArg Value.bool (congrArg not hc71))) (d_mv (v := z33_13_6_1v) (Eq.trans (show σ33 13 = σ33 40 from V33 13 (Nat.le_of_ble_eq_true rfl)) s13_33) ?_)
          refine da_on rfl (Eq.trans (show sl _ _ _ = .bool (!m68) from rfl) (congrArg Value.bool (congrArg not hc71))) (d_mv (v := z8_10_6_1v) s10_33 ?_)
          obtain ⟨m72, hm72, hr⟩ := bind_out hr
          have B73 : OS w69 29 encSVector z33_13_6_1v m38.2.1 := z33_13_6_1vR.ext E69
          have B74 : OS w69 29 encSVector z8_10_6_1v m12.2.1 := B67.ext E69
          have B75 : w69.heap[w.heap.size]? = some (.cells #[.float .f32 p0r0, .float .f32 p0r1, .float .f32 p0r2, .float .f32 p0r3, .float .f32 p0r4, .float .f32 p0r5, .float .f32 p0r6, .float .f32 p0r7, .float .f32 p0r8, .float .f32 p0r9] 28 (0, 0)) := E69.heap B64
          have B76 : w69.heap[w1.heap.size]? = some (.cells #[.float .f32 p1r0, .float .f32 p1r1, .float .f32 p1r2] 24 (0, 0)) := E69.heap B65
          have B77 : w69.heap[z8_9_11b]? = some (.cells #[.float .f32 z8_m0_6_0r0, .float .f32 z8_m0_6_0r1, .float .f32 z8_m0_6_0r2, .float .f32 z8_m0_6_0r3, .float .f32 z8_m0_6_0r4, .float .f32 z8_m0_6_0r5, .float .f32 z8_m0_6_0r6, .float .f32 z8_m0_6_0r7, .float .f32 z8_m0_6_0r8, .float .f32 z8_m0_6_0r9] 32 (0, 0)) := E69.heap B66
          have B78 : w69.heap[z33_12_11b]? = some (.cells #[.float .f32 z33_m0_6_0r0, .float .f32 z33_m0_6_0r1, .float .f32 z33_m0_6_0r2, .float .f32 z33_m0_6_0r3, .float .f32 z33_m0_6_0r4, .float .f32 z33_m0_6_0r5, .float .f32 z33_m0_6_0r6, .float .f32 z33_m0_6_0r7, .float .f32 z33_m0_6_0r8, .float .f32 z33_m0_6_0r9] 32 (0, 0)) := E69.heap hBn33
          refine da_on rfl (Eq.trans (show sl _ _ _ = .bool (!m68) from rfl) (congrArg Value.bool (congrArg not hc71))) (d_cl (vs := [z33_13_6_1v, z8_10_6_1v]) en11 (ac rfl (ac rfl rfl)) rfl ?_)
          refine (c11 m38.2.1 m12.2.1 z33_13_6_1v z8_10_6_1v m72 w69 hm72 B73.rs B74.rs).mono ?_
          rintro _ w79 ⟨rfl, E79⟩
          refine ⟨_, rfl, ?_⟩
          have X80 : Ext w w79 := X70.trans E79
          refine da_on rfl (Eq.trans (show sl _ _ _ = .bool (!m68) from rfl) (congrArg Value.bool (congrArg not hc71))) (d_not rfl ?_)
          refine da_op rfl (d_pick (b := false) (Eq.trans (show ev _ _ = .bool (!m68) from rfl) (congrArg Value.bool (congrArg not hc71))) ?_)
          refine da_op rfl (d_mv (v := .bool (!m72)) rfl ?_)
          rcases Bool.eq_false_or_eq_true m72 with hc81 | hc81
          · skip
            replace hr := bif_t hr hc81
            refine da_on rfl (Eq.trans (show sl _ _ _ = .bool (!m72) from rfl) (congrArg Value.bool (congrArg not hc81))) (d_mv (v := .bool m38.2.2) s14_33 ?_)
            refine da_on rfl (Eq.trans (show sl _ _ _ = .bool (!m72) from rfl) (congrArg Value.bool (congrArg not hc81))) (d_mv (v := .bool m12.2.2) s11_33 ?_)
            refine da_on rfl (Eq.trans (show sl _ _ _ = .bool (!m72) from rfl) (congrArg Value.bool (congrArg not hc81))) (d_bne un4 rfl rfl ?_)
            refine da_op rfl (d_pick (b := false) (Eq.trans (show ev _ _ = .bool (!m72) from rfl) (congrArg Value.bool (congrArg not hc81))) ?_)
            refine da_nil ?_
            obtain rfl := Option.some.inj hr
            exact ⟨rfl, (Ext.trans (Ext.trans (Ext.refl w33) E69) E79)⟩
          · skip
            replace hr := bif_f hr hc81
            refine da_off rfl (Eq.trans (show sl _ _ _ = .bool (!m72) from rfl) (congrArg Value.bool (congrArg not hc81))) (by decide) ?_
            refine da_off rfl (Eq.trans (show sl _ _ _ = .bool (!m72) from rfl) (congrArg Value.bool (congrArg not hc81))) (by decide) ?_
            refine da_off rfl (Eq.trans (show sl _ _ _ = .bool (!m72) from rfl) (congrArg Value.bool (congrArg not hc81))) (by decide) ?_
            refine da_op rfl (d_pick (b := true) (Eq.trans (show ev _ _ = .bool (!m72) from rfl) (congrArg Value.bool (congrArg not hc81))) ?_)
            refine da_nil ?_
            obtain rfl := Option.some.inj hr
            exact ⟨rfl, (Ext.trans (Ext.trans (Ext.refl w33) E69) E79)⟩
        · skip
          replace hr := bif_f hr hc71
          refine da_off rfl (Eq.trans (show sl _ _ _ = .bool (!m68) from rfl) (congrArg Value.bool (congrArg not hc71))) (by decide) ?_
          refine da_off rfl (Eq.trans (show sl _ _ _ = .bool (!m68) from rfl) (congrArg Value.bool (congrArg not hc71))) (by decide) ?_
          refine da_off rfl (Eq.trans (show sl _ _ _ = .bool (!m68) from rfl) (congrArg Value.bool (congrArg not hc71))) (by decide) ?_
          refine da_off rfl (Eq.trans (show sl _ _ _ = .bool (!m68) from rfl) (congrArg Value.bool (congrArg not hc71))) (by decide) ?_
          refine da_op rfl (d_pick (b := true) (Eq.trans (show ev _ _ = .bool (!m68) from rfl) (congrArg Value.bool (congrArg not hc71))) ?_)
          refine da_op rfl (d_mv (v := .bool true) rfl ?_)
          refine da_off rfl rfl (by decide) ?_
          refine da_off rfl rfl (by decide) ?_
          refine da_off rfl rfl (by decide) ?_
          refine da_op rfl (d_pick (b := true) rfl ?_)
          refine da_nil ?_
          obtain rfl := Option.some.inj hr
          exact ⟨rfl, (Ext.trans (Ext.refl w33) E69)⟩
      · skip
        rintro σ63 w63 o63 ⟨s56_63, E63⟩
        have s2_63 : σ63 2 = .float .f32 p2r := (o63 2 rfl).trans s2_33
        have s3_63 : σ63 3 = .int .i64 p3 := (o63 3 rfl).trans s3_33
        have s4_63 : σ63 4 = .pointer (some ⟨w.heap.size, 0, none⟩) := (o63 4 rfl).trans s4_33
        have s5_63 : σ63 5 = .pointer (some ⟨w1.heap.size, 0, none⟩) := (o63 5 rfl).trans s5_33
        have s9_63 : σ63 9 = .pointer (some ⟨z8_9_11b, 0, none⟩) := (o63 9 rfl).trans s9_33
        have s10_63 : σ63 10 = z8_10_6_1v := (o63 10 rfl).trans s10_33
        have s11_63 : σ63 11 = .bool m12.2.2 := (o63 11 rfl).trans s11_33
        have s13_63 : σ63 13 = z33_13_6_1v := (o63 13 rfl).trans (Eq.trans (show σ33 13 = σ33 40 from V33 13 (Nat.le_of_ble_eq_true rfl)) s13_33)
        have X82 : Ext w w63 := X62.trans E63
        refine W_cond (b := m63) s56_63 (fun hc83 => ?_) (fun hc83 => ?_)
        · skip
          replace hr := bif_t hr hc83
          refine W_seq ?_
          refine W_region rfl ?_
          refine da_op rfl (d_as (v := .bool false) rfl ?_)
          refine da_nil ?_
          refine W_ret ?_
          obtain rfl := Option.some.inj hr
          refine ⟨_, res1 (rv_tmp rfl), ?_⟩
          exact ⟨rfl, X82⟩
        · skip
          replace hr := bif_f hr hc83
          refine W_skip ?_
          refine W_seq ?_
          refine W_region rfl ?_
          refine da_op rfl (d_as (v := .int .i64 1) rfl ?_)
          refine da_nil ?_
          refine W_seq ?_
          refine W_region rfl ?_
          refine da_op rfl (d_mv (v := z33_13_6_1v) s13_63 ?_)
          refine da_op rfl (d_mv (v := .int .i64 1) rfl ?_)
          obtain ⟨m84, hm84, hr⟩ := bind_out hr
          have B85 : OS w63 29 encSVector z33_13_6_1v m38.2.1 := z33_13_6_1vR.ext E63
          have B86 : w63.heap[w.heap.size]? = some (.cells #[.float .f32 p0r0, .float .f32 p0r1, .float .f32 p0r2, .float .f32 p0r3, .float .f32 p0r4, .float .f32 p0r5, .float .f32 p0r6, .float .f32 p0r7, .float .f32 p0r8, .float .f32 p0r9] 28 (0, 0)) := E63.heap B64
          have B87 : w63.heap[w1.heap.size]? = some (.cells #[.float .f32 p1r0, .float .f32 p1r1, .float .f32 p1r2] 24 (0, 0)) := E63.heap B65
          have B88 : w63.heap[z8_9_11b]? = some (.cells #[.float .f32 z8_m0_6_0r0, .float .f32 z8_m0_6_0r1, .float .f32 z8_m0_6_0r2, .float .f32 z8_m0_6_0r3, .float .f32 z8_m0_6_0r4, .float .f32 z8_m0_6_0r5, .float .f32 z8_m0_6_0r6, .float .f32 z8_m0_6_0r7, .float .f32 z8_m0_6_0r8, .float .f32 z8_m0_6_0r9] 32 (0, 0)) := E63.heap B66
          have B89 : OS w63 29 encSVector z8_10_6_1v m12.2.1 := B67.ext E63
          refine da_op rfl (d_cl (vs := [z33_13_6_1v, .int .i64 1]) en12 (ac rfl (ac rfl rfl)) rfl ?_)
          refine (c12 m38.2.1 1 z33_13_6_1v m84 w63 hm84 B85).mono ?_
          rintro _ w90 ⟨rfl, q90_m0R, E90⟩
          refine ⟨_, rfl, ?_⟩
          have X91 : Ext w w90 := Ext.step X82 E90 (fun k _ hk => own57 k hk)
          refine da_op rfl (d_as (v := .int .i64 m84.1) rfl ?_)
          refine da_nil ?_
          refine W_seq ?_
          refine W_region rfl ?_
          refine da_op rfl (d_as (v := .int .i64 1) rfl ?_)
          refine da_nil ?_
          refine W_seq ?_
          refine W_region rfl ?_
          refine da_op rfl (d_mv (v := z33_13_6_1v) s13_63 ?_)
          refine da_op rfl (d_mv (v := .int .i64 1) rfl ?_)
          obtain ⟨m92, hm92, hr⟩ := bind_out hr
          have B93 : w90.heap[w.heap.size]? = some (.cells #[.float .f32 p0r0, .float .f32 p0r1, .float .f32 p0r2, .float .f32 p0r3, .float .f32 p0r4, .float .f32 p0r5, .float .f32 p0r6, .float .f32 p0r7, .float .f32 p0r8, .float .f32 p0r9] 28 (0, 0)) := E90.heap sp58 B86
          have B94 : w90.heap[w1.heap.size]? = some (.cells #[.float .f32 p1r0, .float .f32 p1r1, .float .f32 p1r2] 24 (0, 0)) := E90.heap sp59 B87
          have B95 : w90.heap[z8_9_11b]? = some (.cells #[.float .f32 z8_m0_6_0r0, .float .f32 z8_m0_6_0r1, .float .f32 z8_m0_6_0r2, .float .f32 z8_m0_6_0r3, .float .f32 z8_m0_6_0r4, .float .f32 z8_m0_6_0r5, .float .f32 z8_m0_6_0r6, .float .f32 z8_m0_6_0r7, .float .f32 z8_m0_6_0r8, .float .f32 z8_m0_6_0r9] 32 (0, 0)) := E90.heap sp60 B88
          have B96 : OS w90 29 encSVector z8_10_6_1v m12.2.1 := B89.frm E90 sp61
          refine da_op rfl (d_cl (vs := [z33_13_6_1v, .int .i64 1]) en13 (ac rfl (ac rfl rfl)) rfl ?_)
          refine (c13 m84.2 1 z33_13_6_1v m92 w90 hm92 q90_m0R.rs).mono ?_
          rintro _ w97 ⟨rfl, E97⟩
          refine ⟨_, rfl, ?_⟩
          have X98 : Ext w w97 := X91.trans E97
          refine da_op rfl (d_as (v := .int .i64 m92) rfl ?_)
          refine da_nil ?_
          refine W_seq ?_
          refine W_seq ?_
          refine W_region rfl ?_
          refine da_op rfl (d_mv (v := .int .i64 m92) rfl ?_)
          refine da_op rfl (d_icmp cLss rfl rfl ?_)
          refine da_nil ?_
          refine W_cond (b := (icmp .lss m92 0)) rfl (fun hc99 => ?_) (fun hc99 => ?_)
          · skip
            replace hr := bif_t hr hc99
            refine W_seq ?_
            refine W_region rfl ?_
            refine da_op rfl (d_as (v := .bool false) rfl ?_)
            refine da_nil ?_
            refine W_ret ?_
            obtain rfl := Option.some.inj hr
            refine ⟨_, res1 (rv_tmp rfl), ?_⟩
            exact ⟨rfl, X98⟩
          · skip
            replace hr := bif_f hr hc99
            refine W_skip ?_
            refine W_seq ?_
            refine W_seq ?_
            refine W_region rfl ?_
            refine da_op rfl (d_mv (v := .int .i64 m92) rfl ?_)
            refine da_op rfl (d_mv (v := .int .i64 m84.1) rfl ?_)
            refine da_op rfl (d_icmp cNeq rfl rfl ?_)
            refine da_nil ?_
            refine W_cond (b := (icmp .neq m92 m84.1)) rfl (fun hc100 => ?_) (fun hc100 => ?_)
            · skip
              replace hr := bif_t hr hc100
              refine W_seq ?_
              refine W_region rfl ?_
              refine da_op rfl (d_as (v := .bool false) rfl ?_)
              refine da_nil ?_
              refine W_ret ?_
              obtain rfl := Option.some.inj hr
              refine ⟨_, res1 (rv_tmp rfl), ?_⟩
              exact ⟨rfl, X98⟩
            · skip
              replace hr := bif_f hr hc100
              refine W_skip ?_
              refine W_seq ?_
              have B102 : w97.heap[w.heap.size]? = some (.cells #[.float .f32 p0r0, .float .f32 p0r1, .float .f32 p0r2, .float .f32 p0r3, .float .f32 p0r4, .float .f32 p0r5, .float .f32 p0r6, .float .f32 p0r7, .float .f32 p0r8, .float .f32 p0r9] 28 (0, 0)) := E97.heap B93
              have B103 : w97.heap[w1.heap.size]? = some (.cells #[.float .f32 p1r0, .float .f32 p1r1, .float .f32 p1r2] 24 (0, 0)) := E97.heap B94
              have B104 : w97.heap[z8_9_11b]? = some (.cells #[.float .f32 z8_m0_6_0r0, .float .f32 z8_m0_6_0r1, .float .f32 z8_m0_6_0r2, .float .f32 z8_m0_6_0r3, .float .f32 z8_m0_6_0r4, .float .f32 z8_m0_6_0r5, .float .f32 z8_m0_6_0r6, .float .f32 z8_m0_6_0r7, .float .f32 z8_m0_6_0r8, .float .f32 z8_m0_6_0r9] 32 (0, 0)) := E97.heap B95
              have B105 : OS w97 29 encSVector z8_10_6_1v m12.2.1 := B96.ext E97
              have B106 : OS w97 29 encSVector z33_13_6_1v m84.2 := q90_m0R.ext E97
              obtain ⟨m107, hm107, hr⟩ := letv_out hr
              obtain ⟨m108, hm108, hr⟩ := letv_out hr
              obtain ⟨m109, hm109, hr⟩ := bind_out hr
              refine W_any [(fun k t => w97.heap.size ≤ k ∧ t = some 32)] [{ V := fun _ v _ => v = (.agg #[.float .f32 p0r0, .float .f32 p0r1, .float .f32 p0r2, .float .f32 p0r3, .float .f32 p0r4, .float .f32 p0r5, .float .f32 p0r6, .float .f32 p0r7, .float .f32 p0r8, .float .f32 p0r9]) }, { V := fun _ v _ => ∃ d101_1_0r0 : Nat, ∃ d101_1_0r1 : Nat, ∃ d101_1_0r2 : Nat, ∃ d101_1_0r3 : Nat, ∃ d101_1_0r4 : Nat, ∃ d101_1_0r5 : Nat, ∃ d101_1_0r6 : Nat, ∃ d101_1_0r7 : Nat, ∃ d101_1_0r8 : Nat, ∃ d101_1_0r9 : Nat, v = (.agg #[.float .f32 d101_1_0r0, .float .f32 d101_1_0r1, .float .f32 d101_1_0r2, .float .f32 d101_1_0r3, .float .f32 d101_1_0r4, .float .f32 d101_1_0r5, .float .f32 d101_1_0r6, .float .f32 d101_1_0r7, .float .f32 d101_1_0r8, .float .f32 d101_1_0r9]) ∧ cn .f32 d101_1_0r0 = m107.moments.x ∧ cn .f32 d101_1_0r1 = m107.moments.y ∧ cn .f32 d101_1_0r2 = m107.moments.z ∧ cn .f32 d101_1_0r3 = m107.turn.w ∧ cn .f32 d101_1_0r4 = m107.turn.x ∧ cn .f32 d101_1_0r5 = m107.turn.y ∧ cn .f32 d101_1_0r6 = m107.turn.z ∧ cn .f32 d101_1_0r7 = m107.speed.x ∧ cn .f32 d101_1_0r8 = m107.speed.y ∧ cn .f32 d101_1_0r9 = m107.speed.z }, { V := fun _ v _ => v = (.agg #[.float .f32 p1r0, .float .f32 p1r1, .float .f32 p1r2]) }, { V := fun _ v _ => ∃ d101_3_0r0 : Nat, ∃ d101_3_0r1 : Nat, ∃ d101_3_0r2 : Nat, v = (.agg #[.float .f32 d101_3_0r0, .float .f32 d101_3_0r1, .float .f32 d101_3_0r2]) ∧ cn .f32 d101_3_0r0 = m108.x ∧ cn .f32 d101_3_0r1 = m108.y ∧ cn .f32 d101_3_0r2 = m108.z }, { V := fun _ v _ => v = (.float .f32 p2r) }, { V := fun _ v _ => v = (.int .i64 p3) }, { V := fun _ v w' => ∃ d101_6_0r0 : Nat, ∃ d101_6_0r1 : Nat, ∃ d101_6_0r2 : Nat, ∃ d101_6_0r3 : Nat, ∃ d101_6_0r4 : Nat, ∃ d101_6_0r5 : Nat, ∃ d101_6_0r6 : Nat, ∃ d101_6_0r7 : Nat, ∃ d101_6_0r8 : Nat, ∃ d101_6_0r9 : Nat, ∃ d101_6_1v : Value, v = (.tuple #[.agg #[.float .f32 d101_6_0r0, .float .f32 d101_6_0r1, .float .f32 d101_6_0r2, .float .f32 d101_6_0r3, .float .f32 d101_6_0r4, .float .f32 d101_6_0r5, .float .f32 d101_6_0r6, .float .f32 d101_6_0r7, .float .f32 d101_6_0r8, .float .f32 d101_6_0r9], d101_6_1v, .bool m109.2.2]) ∧ cn .f32 d101_6_0r0 = m109.1.moments.x ∧ cn .f32 d101_6_0r1 = m109.1.moments.y ∧ cn .f32 d101_6_0r2 = m109.1.moments.z ∧ cn .f32 d101_6_0r3 = m109.1.turn.w ∧ cn .f32 d101_6_0r4 = m109.1.turn.x ∧ cn .f32 d101_6_0r5 = m109.1.turn.y ∧ cn .f32 d101_6_0r6 = m109.1.turn.z ∧ cn .f32 d101_6_0r7 = m109.1.speed.x ∧ cn .f32 d101_6_0r8 = m109.1.speed.y ∧ cn .f32 d101_6_0r9 = m109.1.speed.z ∧ (∀ k, d101_6_1v.ownBlock = some k → w97.heap.size ≤ k) ∧ OS w' 29 encSVector d101_6_1v m109.2.1 }, { V := fun _ v w' => ∃ d101_6_0r0 : Nat, ∃ d101_6_0r1 : Nat, ∃ d101_6_0r2 : Nat, ∃ d101_6_0r3 : Nat, ∃ d101_6_0r4 : Nat, ∃ d101_6_0r5 : Nat, ∃ d101_6_0r6 : Nat, ∃ d101_6_0r7 : Nat, ∃ d101_6_0r8 : Nat, ∃ d101_6_0r9 : Nat, ∃ d101_6_1v : Value, v = (.tuple #[.agg #[.float .f32 d101_6_0r0, .float .f32 d101_6_0r1, .float .f32 d101_6_0r2, .float .f32 d101_6_0r3, .float .f32 d101_6_0r4, .float .f32 d101_6_0r5, .float .f32 d101_6_0r6, .float .f32 d101_6_0r7, .float .f32 d101_6_0r8, .float .f32 d101_6_0r9], d101_6_1v, .bool m109.2.2]) ∧ cn .f32 d101_6_0r0 = m109.1.moments.x ∧ cn .f32 d101_6_0r1 = m109.1.moments.y ∧ cn .f32 d101_6_0r2 = m109.1.moments.z ∧ cn .f32 d101_6_0r3 = m109.1.turn.w ∧ cn .f32 d101_6_0r4 = m109.1.turn.x ∧ cn .f32 d101_6_0r5 = m109.1.turn.y ∧ cn .f32 d101_6_0r6 = m109.1.turn.z ∧ cn .f32 d101_6_0r7 = m109.1.speed.x ∧ cn .f32 d101_6_0r8 = m109.1.speed.y ∧ cn .f32 d101_6_0r9 = m109.1.speed.z ∧ (∀ k, d101_6_1v.ownBlock = some k → w97.heap.size ≤ k) ∧ OS w' 29 encSVector d101_6_1v m109.2.1 }, { V := fun _ v _ => ∃ d101_6_0r0 : Nat, ∃ d101_6_0r1 : Nat, ∃ d101_6_0r2 : Nat, ∃ d101_6_0r3 : Nat, ∃ d101_6_0r4 : Nat, ∃ d101_6_0r5 : Nat, ∃ d101_6_0r6 : Nat, ∃ d101_6_0r7 : Nat, ∃ d101_6_0r8 : Nat, ∃ d101_6_0r9 : Nat, v = (.agg #[.float .f32 d101_6_0r0, .float .f32 d101_6_0r1, .float .f32 d101_6_0r2, .float .f32 d101_6_0r3, .float .f32 d101_6_0r4, .float .f32 d101_6_0r5, .float .f32 d101_6_0r6, .float .f32 d101_6_0r7, .float .f32 d101_6_0r8, .float .f32 d101_6_0r9]) ∧ cn .f32 d101_6_0r0 = m109.1.moments.x ∧ cn .f32 d101_6_0r1 = m109.1.moments.y ∧ cn .f32 d101_6_0r2 = m109.1.moments.z ∧ cn .f32 d101_6_0r3 = m109.1.turn.w ∧ cn .f32 d101_6_0r4 = m109.1.turn.x ∧ cn .f32 d101_6_0r5 = m109.1.turn.y ∧ cn .f32 d101_6_0r6 = m109.1.turn.z ∧ cn .f32 d101_6_0r7 = m109.1.speed.x ∧ cn .f32 d101_6_0r8 = m109.1.speed.y ∧ cn .f32 d101_6_0r9 = m109.1.speed.z }, { V := fun _ v w' => ∃ d101_6_1v : Value, v = d101_6_1v ∧ (∀ k, d101_6_1v.ownBlock = some k → w97.heap.size ≤ k) ∧ OS w' 29 encSVector d101_6_1v m109.2.1 }, { V := fun _ v _ => v = (.bool m109.2.2) }, { V := fun _ v w' => ∃ d101_11b : Nat, ∃ d101_11c : Array Value, v = (.pointer (some ⟨d101_11b, 0, none⟩)) ∧ w97.heap.size ≤ d101_11b ∧ w'.heap[d101_11b]? = some (.cells d101_11c 32 (0, 0)) ∧ d101_11c.size = 10 }, ⟨fun sg _ w' => ∃ d101_11b : Nat, ∃ d101_6_0r0 : Nat, ∃ d101_6_0r1 : Nat, ∃ d101_6_0r2 : Nat, ∃ d101_6_0r3 : Nat, ∃ d101_6_0r4 : Nat, ∃ d101_6_0r5 : Nat, ∃ d101_6_0r6 : Nat, ∃ d101_6_0r7 : Nat, ∃ d101_6_0r8 : Nat, ∃ d101_6_0r9 : Nat, sg 17 = .pointer (some ⟨d101_11b, 0, none⟩) ∧ w'.heap[d101_11b]? = some (.cells #[.float .f32 d101_6_0r0, .float .f32 d101_6_0r1, .float .f32 d101_6_0r2, .float .f32 d101_6_0r3, .float .f32 d101_6_0r4, .float .f32 d101_6_0r5, .float .f32 d101_6_0r6, .float .f32 d101_6_0r7, .float .f32 d101_6_0r8, .float .f32 d101_6_0r9] 32 (0, 0)) ∧ cn .f32 d101_6_0r0 = m109.1.moments.x ∧ cn .f32 d101_6_0r1 = m109.1.moments.y ∧ cn .f32 d101_6_0r2 = m109.1.moments.z ∧ cn .f32 d101_6_0r3 = m109.1.turn.w ∧ cn .f32 d101_6_0r4 = m109.1.turn.x ∧ cn .f32 d101_6_0r5 = m109.1.turn.y ∧ cn .f32 d101_6_0r6 = m109.1.turn.z ∧ cn .f32 d101_6_0r7 = m109.1.speed.x ∧ cn .f32 d101_6_0r8 = m109.1.speed.y ∧ cn .f32 d101_6_0r9 = m109.1.speed.z, some 0, fun _ => True⟩, { V := fun sg v _ => v = sg 77 }, { V := fun _ v _ => v = (.bool m109.2.2) }] mixed (by kernel_rfl) ⟨trivial, trivial, trivial, trivial, trivial, trivial, trivial, trivial, trivial, trivial, trivial, trivial, trivial, trivial, trivial, trivial⟩ ⟨?_, ?_, ?_, ?_, ?_, ?_, ?_, ?_, ?_, ?_, ?_, ?_, ?_, ?_, ?_, trivial⟩ ?_
              · skip
                refine ⟨fun _ _ _ _ _ _ h _ => h, fun _ _ h _ => h, fun σ' w' hA hE hD hP => ?_⟩
                have t4 : σ' 4 = .pointer (some ⟨w.heap.size, 0, none⟩) := (hA 4 rfl).trans s4_63
                have B0_110 : w'.heap[w.heap.size]? = some (.cells #[.float .f32 p0r0, .float .f32 p0r1, .float .f32 p0r2, .float .f32 p0r3, .float .f32 p0r4, .float .f32 p0r5, .float .f32 p0r6, .float .f32 p0r7, .float .f32 p0r8, .float .f32 p0r9] 28 (0, 0)) := hE.heap (not_oth1 (not_newT_box B102)) B102
                refine dg_op rfl (d_loads (vs := #[.float .f32 p0r0, .float .f32 p0r1, .float .f32 p0r2, .float .f32 p0r3, .float .f32 p0r4, .float .f32 p0r5, .float .f32 p0r6, .float .f32 p0r7, .float .f32 p0r8, .float .f32 p0r9]) t4 agg28 size28 B0_110 rfl ?_)
                exact ⟨rfl, own_none (Ext.refl w')⟩
              · skip
                refine ⟨fun _ _ _ _ _ _ h _ => h, fun _ _ h _ => h, fun σ' w' hA hE hD hP => ?_⟩
                have t69 : σ' 69 = (.agg #[.float .f32 p0r0, .float .f32 p0r1, .float .f32 p0r2, .float .f32 p0r3, .float .f32 p0r4, .float .f32 p0r5, .float .f32 p0r6, .float .f32 p0r7, .float .f32 p0r8, .float .f32 p0r9]) := hD 0 rfl
                refine dg_op rfl (d_cl (vs := [.agg #[.float .f32 p0r0, .float .f32 p0r1, .float .f32 p0r2, .float .f32 p0r3, .float .f32 p0r4, .float .f32 p0r5, .float .f32 p0r6, .float .f32 p0r7, .float .f32 p0r8, .float .f32 p0r9]]) en7 (ac t69 rfl) rfl ?_)
                refine (c7 (⟨(⟨p0.moments.x, p0.moments.y, p0.moments.z⟩ : SVector), (⟨p0.turn.w, p0.turn.x, p0.turn.y, p0.turn.z⟩ : SSpin), (⟨p0.speed.x, p0.speed.y, p0.speed.z⟩ : SVector)⟩ : STop) p0r0 p0r1 p0r2 p0r3 p0r4 p0r5 p0r6 p0r7 p0r8 p0r9 m107 w' hm107 p0h0 p0h1 p0h2 p0h3 p0h4 p0h5 p0h6 p0h7 p0h8 p0h9).mono ?_
                rintro _ w111 ⟨q111_0r0, q111_0r1, q111_0r2, q111_0r3, q111_0r4, q111_0r5, q111_0r6, q111_0r7, q111_0r8, q111_0r9, rfl, q111_0h0, q111_0h1, q111_0h2, q111_0h3, q111_0h4, q111_0h5, q111_0h6, q111_0h7, q111_0h8, q111_0h9, E111⟩
                refine ⟨_, rfl, ?_⟩
                have X112 : Ext w' w111 := (Ext.refl w').trans E111
                exact ⟨⟨q111_0r0, q111_0r1, q111_0r2, q111_0r3, q111_0r4, q111_0r5, q111_0r6, q111_0r7, q111_0r8, q111_0r9, rfl, q111_0h0, q111_0h1, q111_0h2, q111_0h3, q111_0h4, q111_0h5, q111_0h6, q111_0h7, q111_0h8, q111_0h9⟩, own_none X112⟩
              · skip
                refine ⟨fun _ _ _ _ _ _ h _ => h, fun _ _ h _ => h, fun σ' w' hA hE hD hP => ?_⟩
                have t5 : σ' 5 = .pointer (some ⟨w1.heap.size, 0, none⟩) := (hA 5 rfl).trans s5_63
                have B0_113 : w'.heap[w1.heap.size]? = some (.cells #[.float .f32 p1r0, .float .f32 p1r1, .float .f32 p1r2] 24 (0, 0)) := hE.heap (not_oth1 (not_newT_box B103)) B103
                refine dg_op rfl (d_loads (vs := #[.float .f32 p1r0, .float .f32 p1r1, .float .f32 p1r2]) t5 agg24 size24 B0_113 rfl ?_)
                exact ⟨rfl, own_none (Ext.refl w')⟩
              · skip
                refine ⟨fun _ _ _ _ _ _ h _ => h, fun _ _ h _ => h, fun σ' w' hA hE hD hP => ?_⟩
                have t71 : σ' 71 = (.agg #[.float .f32 p1r0, .float .f32 p1r1, .float .f32 p1r2]) := hD 2 rfl
                refine dg_op rfl (d_cl (vs := [.agg #[.float .f32 p1r0, .float .f32 p1r1, .float .f32 p1r2]]) en8 (ac t71 rfl) rfl ?_)
                refine (c8 (⟨p1.x, p1.y, p1.z⟩ : SVector) p1r0 p1r1 p1r2 m108 w' hm108 p1h0 p1h1 p1h2).mono ?_
                rintro _ w114 ⟨q114_0r0, q114_0r1, q114_0r2, rfl, q114_0h0, q114_0h1, q114_0h2, E114⟩
                refine ⟨_, rfl, ?_⟩
                have X115 : Ext w' w114 := (Ext.refl w').trans E114
                exact ⟨⟨q114_0r0, q114_0r1, q114_0r2, rfl, q114_0h0, q114_0h1, q114_0h2⟩, own_none X115⟩
              · skip
                refine ⟨fun _ _ _ _ _ _ h _ => h, fun _ _ h _ => h, fun σ' w' hA hE hD hP => ?_⟩
                have t2 : σ' 2 = .float .f32 p2r := (hA 2 rfl).trans s2_63
                refine dg_op rfl (d_mv (v := .float .f32 p2r) t2 ?_)
                exact ⟨rfl, own_none (Ext.refl w')⟩
              · skip
                refine ⟨fun _ _ _ _ _ _ h _ => h, fun _ _ h _ => h, fun σ' w' hA hE hD hP => ?_⟩
                have t3 : σ' 3 = .int .i64 p3 := (hA 3 rfl).trans s3_63
                refine dg_op rfl (d_mv (v := .int .i64 p3) t3 ?_)
                exact ⟨rfl, own_none (Ext.refl w')⟩
              · skip
                refine ⟨fun _ _ _ w' w'' _ ⟨d101_6_0r0, d101_6_0r1, d101_6_0r2, d101_6_0r3, d101_6_0r4, d101_6_0r5, d101_6_0r6, d101_6_0r7, d101_6_0r8, d101_6_0r9, d101_6_1v, hv, d101_6_0h0, d101_6_0h1, d101_6_0h2, d101_6_0h3, d101_6_0h4, d101_6_0h5, d101_6_0h6, d101_6_0h7, d101_6_0h8, d101_6_0h9, d101_6_1vL, d101_6_1vR⟩ hF => ⟨d101_6_0r0, d101_6_0r1, d101_6_0r2, d101_6_0r3, d101_6_0r4, d101_6_0r5, d101_6_0r6, d101_6_0r7, d101_6_0r8, d101_6_0r9, d101_6_1v, hv, d101_6_0h0, d101_6_0h1, d101_6_0h2, d101_6_0h3, d101_6_0h4, d101_6_0h5, d101_6_0h6, d101_6_0h7, d101_6_0h8, d101_6_0h9, d101_6_1vL, d101_6_1vR.frm hF (fun k hk => (not_oth1 (nty (by decide))))⟩, fun _ _ h _ => h, fun σ' w' hA hE hD hP => ?_⟩
                obtain ⟨d101_1_0r0, d101_1_0r1, d101_1_0r2, d101_1_0r3, d101_1_0r4, d101_1_0r5, d101_1_0r6, d101_1_0r7, d101_1_0r8, d101_1_0r9, t70, d101_1_0h0, d101_1_0h1, d101_1_0h2, d101_1_0h3, d101_1_0h4, d101_1_0h5, d101_1_0h6, d101_1_0h7, d101_1_0h8, d101_1_0h9⟩ : ∃ d101_1_0r0 : Nat, ∃ d101_1_0r1 : Nat, ∃ d101_1_0r2 : Nat, ∃ d101_1_0r3 : Nat, ∃ d101_1_0r4 : Nat, ∃ d101_1_0r5 : Nat, ∃ d101_1_0r6 : Nat, ∃ d101_1_0r7 : Nat, ∃ d101_1_0r8 : Nat, ∃ d101_1_0r9 : Nat, σ' 70 = (.agg #[.float .f32 d101_1_0r0, .float .f32 d101_1_0r1, .float .f32 d101_1_0r2, .float .f32 d101_1_0r3, .float .f32 d101_1_0r4, .float .f32 d101_1_0r5, .float .f32 d101_1_0r6, .float .f32 d101_1_0r7, .float .f32 d101_1_0r8, .float .f32 d101_1_0r9]) ∧ cn .f32 d101_1_0r0 = m107.moments.x ∧ cn .f32 d101_1_0r1 = m107.moments.y ∧ cn .f32 d101_1_0r2 = m107.moments.z ∧ cn .f32 d101_1_0r3 = m107.turn.w ∧ cn .f32 d101_1_0r4 = m107.turn.x ∧ cn .f32 d101_1_0r5 = m107.turn.y ∧ cn .f32 d101_1_0r6 = m107.turn.z ∧ cn .f32 d101_1_0r7 = m107.speed.x ∧ cn .f32 d101_1_0r8 = m107.speed.y ∧ cn .f32 d101_1_0r9 = m107.speed.z := hD 1 rfl
                obtain ⟨d101_3_0r0, d101_3_0r1, d101_3_0r2, t72, d101_3_0h0, d101_3_0h1, d101_3_0h2⟩ : ∃ d101_3_0r0 : Nat, ∃ d101_3_0r1 : Nat, ∃ d101_3_0r2 : Nat, σ' 72 = (.agg #[.float .f32 d101_3_0r0, .float .f32 d101_3_0r1, .float .f32 d101_3_0r2]) ∧ cn .f32 d101_3_0r0 = m108.x ∧ cn .f32 d101_3_0r1 = m108.y ∧ cn .f32 d101_3_0r2 = m108.z := hD 3 rfl
                have t73 : σ' 73 = (.float .f32 p2r) := hD 4 rfl
                have t74 : σ' 74 = (.int .i64 p3) := hD 5 rfl
                refine dg_op rfl (d_cl (vs := [.agg #[.float .f32 d101_1_0r0, .float .f32 d101_1_0r1, .float .f32 d101_1_0r2, .float .f32 d101_1_0r3, .float .f32 d101_1_0r4, .float .f32 d101_1_0r5, .float .f32 d101_1_0r6, .float .f32 d101_1_0r7, .float .f32 d101_1_0r8, .float .f32 d101_1_0r9], .agg #[.float .f32 d101_3_0r0, .float .f32 d101_3_0r1, .float .f32 d101_3_0r2], .float .f32 p2r, .int .i64 p3]) en9 (ac t70 (ac t72 (ac t73 (ac t74 rfl)))) rfl ?_)
                refine (c9 m107 m108 p2 p3 d101_1_0r0 d101_1_0r1 d101_1_0r2 d101_1_0r3 d101_1_0r4 d101_1_0r5 d101_1_0r6 d101_1_0r7 d101_1_0r8 d101_1_0r9 d101_3_0r0 d101_3_0r1 d101_3_0r2 p2r m109 w' hm109 d101_1_0h0 d101_1_0h1 d101_1_0h2 d101_1_0h3 d101_1_0h4 d101_1_0h5 d101_1_0h6 d101_1_0h7 d101_1_0h8 d101_1_0h9 d101_3_0h0 d101_3_0h1 d101_3_0h2 p2h).mono ?_
                rintro _ w116 ⟨q116_0r0, q116_0r1, q116_0r2, q116_0r3, q116_0r4, q116_0r5, q116_0r6, q116_0r7, q116_0r8, q116_0r9, q116_1v, rfl, q116_0h0, q116_0h1, q116_0h2, q116_0h3, q116_0h4, q116_0h5, q116_0h6, q116_0h7, q116_0h8, q116_0h9, q116_1R, q116_1F, E116⟩
                refine ⟨_, rfl, ?_⟩
                have X118 : Ext w' w116 := (Ext.refl w').trans E116
                exact ⟨⟨q116_0r0, q116_0r1, q116_0r2, q116_0r3, q116_0r4, q116_0r5, q116_0r6, q116_0r7, q116_0r8, q116_0r9, q116_1v, rfl, q116_0h0, q116_0h1, q116_0h2, q116_0h3, q116_0h4, q116_0h5, q116_0h6, q116_0h7, q116_0h8, q116_0h9, (fun k hk => Nat.le_trans hE.size (q116_1F k hk)), q116_1R⟩, own_none X118⟩
              · skip
                refine ⟨fun _ _ _ w' w'' _ ⟨d101_6_0r0, d101_6_0r1, d101_6_0r2, d101_6_0r3, d101_6_0r4, d101_6_0r5, d101_6_0r6, d101_6_0r7, d101_6_0r8, d101_6_0r9, d101_6_1v, hv, d101_6_0h0, d101_6_0h1, d101_6_0h2, d101_6_0h3, d101_6_0h4, d101_6_0h5, d101_6_0h6, d101_6_0h7, d101_6_0h8, d101_6_0h9, d101_6_1vL, d101_6_1vR⟩ hF => ⟨d101_6_0r0, d101_6_0r1, d101_6_0r2, d101_6_0r3, d101_6_0r4, d101_6_0r5, d101_6_0r6, d101_6_0r7, d101_6_0r8, d101_6_0r9, d101_6_1v, hv, d101_6_0h0, d101_6_0h1, d101_6_0h2, d101_6_0h3, d101_6_0h4, d101_6_0h5, d101_6_0h6, d101_6_0h7, d101_6_0h8, d101_6_0h9, d101_6_1vL, d101_6_1vR.frm hF (fun k hk => (not_oth1 (nty (by decide))))⟩, fun _ _ h _ => h, fun σ' w' hA hE hD hP => ?_⟩
                obtain ⟨d101_6_0r0, d101_6_0r1, d101_6_0r2, d101_6_0r3, d101_6_0r4, d101_6_0r5, d101_6_0r6, d101_6_0r7, d101_6_0r8, d101_6_0r9, d101_6_1v, t75, d101_6_0h0, d101_6_0h1, d101_6_0h2, d101_6_0h3, d101_6_0h4, d101_6_0h5, d101_6_0h6, d101_6_0h7, d101_6_0h8, d101_6_0h9, d101_6_1vL, d101_6_1vR⟩ : ∃ d101_6_0r0 : Nat, ∃ d101_6_0r1 : Nat, ∃ d101_6_0r2 : Nat, ∃ d101_6_0r3 : Nat, ∃ d101_6_0r4 : Nat, ∃ d101_6_0r5 : Nat, ∃ d101_6_0r6 : Nat, ∃ d101_6_0r7 : Nat, ∃ d101_6_0r8 : Nat, ∃ d101_6_0r9 : Nat, ∃ d101_6_1v : Value, σ' 75 = (.tuple #[.agg #[.float .f32 d101_6_0r0, .float .f32 d101_6_0r1, .float .f32 d101_6_0r2, .float .f32 d101_6_0r3, .float .f32 d101_6_0r4, .float .f32 d101_6_0r5, .float .f32 d101_6_0r6, .float .f32 d101_6_0r7, .float .f32 d101_6_0r8, .float .f32 d101_6_0r9], d101_6_1v, .bool m109.2.2]) ∧ cn .f32 d101_6_0r0 = m109.1.moments.x ∧ cn .f32 d101_6_0r1 = m109.1.moments.y ∧ cn .f32 d101_6_0r2 = m109.1.moments.z ∧ cn .f32 d101_6_0r3 = m109.1.turn.w ∧ cn .f32 d101_6_0r4 = m109.1.turn.x ∧ cn .f32 d101_6_0r5 = m109.1.turn.y ∧ cn .f32 d101_6_0r6 = m109.1.turn.z ∧ cn .f32 d101_6_0r7 = m109.1.speed.x ∧ cn .f32 d101_6_0r8 = m109.1.speed.y ∧ cn .f32 d101_6_0r9 = m109.1.speed.z ∧ (∀ k, d101_6_1v.ownBlock = some k → w97.heap.size ≤ k) ∧ OS w' 29 encSVector d101_6_1v m109.2.1 := hD 6 rfl
                refine dg_op rfl (d_mv (v := .tuple #[.agg #[.float .f32 d101_6_0r0, .float .f32 d101_6_0r1, .float .f32 d101_6_0r2, .float .f32 d101_6_0r3, .float .f32 d101_6_0r4, .float .f32 d101_6_0r5, .float .f32 d101_6_0r6, .float .f32 d101_6_0r7, .float .f32 d101_6_0r8, .float .f32 d101_6_0r9], d101_6_1v, .bool m109.2.2]) t75 ?_)
                exact ⟨⟨d101_6_0r0, d101_6_0r1, d101_6_0r2, d101_6_0r3, d101_6_0r4, d101_6_0r5, d101_6_0r6, d101_6_0r7, d101_6_0r8, d101_6_0r9, d101_6_1v, rfl, d101_6_0h0, d101_6_0h1, d101_6_0h2, d101_6_0h3, d101_6_0h4, d101_6_0h5, d101_6_0h6, d101_6_0h7, d101_6_0h8, d101_6_0h9, d101_6_1vL, d101_6_1vR⟩, own_none (Ext.refl w')⟩
              · skip
                refine ⟨fun _ _ _ _ _ _ h _ => h, fun _ _ h _ => h, fun σ' w' hA hE hD hP => ?_⟩
                obtain ⟨d101_6_0r0, d101_6_0r1, d101_6_0r2, d101_6_0r3, d101_6_0r4, d101_6_0r5, d101_6_0r6, d101_6_0r7, d101_6_0r8, d101_6_0r9, d101_6_1v, t68, d101_6_0h0, d101_6_0h1, d101_6_0h2, d101_6_0h3, d101_6_0h4, d101_6_0h5, d101_6_0h6, d101_6_0h7, d101_6_0h8, d101_6_0h9, d101_6_1vL, d101_6_1vR⟩ : ∃ d101_6_0r0 : Nat, ∃ d101_6_0r1 : Nat, ∃ d101_6_0r2 : Nat, ∃ d101_6_0r3 : Nat, ∃ d101_6_0r4 : Nat, ∃ d101_6_0r5 : Nat, ∃ d101_6_0r6 : Nat, ∃ d101_6_0r7 : Nat, ∃ d101_6_0r8 : Nat, ∃ d101_6_0r9 : Nat, ∃ d101_6_1v : Value, σ' 68 = (.tuple #[.agg #[.float .f32 d101_6_0r0, .float .f32 d101_6_0r1, .float .f32 d101_6_0r2, .float .f32 d101_6_0r3, .float .f32 d101_6_0r4, .float .f32 d101_6_0r5, .float .f32 d101_6_0r6, .float .f32 d101_6_0r7, .float .f32 d101_6_0r8, .float .f32 d101_6_0r9], d101_6_1v, .bool m109.2.2]) ∧ cn .f32 d101_6_0r0 = m109.1.moments.x ∧ cn .f32 d101_6_0r1 = m109.1.moments.y ∧ cn .f32 d101_6_0r2 = m109.1.moments.z ∧ cn .f32 d101_6_0r3 = m109.1.turn.w ∧ cn .f32 d101_6_0r4 = m109.1.turn.x ∧ cn .f32 d101_6_0r5 = m109.1.turn.y ∧ cn .f32 d101_6_0r6 = m109.1.turn.z ∧ cn .f32 d101_6_0r7 = m109.1.speed.x ∧ cn .f32 d101_6_0r8 = m109.1.speed.y ∧ cn .f32 d101_6_0r9 = m109.1.speed.z ∧ (∀ k, d101_6_1v.ownBlock = some k → w97.heap.size ≤ k) ∧ OS w' 29 encSVector d101_6_1v m109.2.1 := hD 7 rfl
                refine dg_op rfl (d_extract (v := .agg #[.float .f32 d101_6_0r0, .float .f32 d101_6_0r1, .float .f32 d101_6_0r2, .float .f32 d101_6_0r3, .float .f32 d101_6_0r4, .float .f32 d101_6_0r5, .float .f32 d101_6_0r6, .float .f32 d101_6_0r7, .float .f32 d101_6_0r8, .float .f32 d101_6_0r9]) t68 rfl ?_)
                exact ⟨⟨d101_6_0r0, d101_6_0r1, d101_6_0r2, d101_6_0r3, d101_6_0r4, d101_6_0r5, d101_6_0r6, d101_6_0r7, d101_6_0r8, d101_6_0r9, rfl, d101_6_0h0, d101_6_0h1, d101_6_0h2, d101_6_0h3, d101_6_0h4, d101_6_0h5, d101_6_0h6, d101_6_0h7, d101_6_0h8, d101_6_0h9⟩, own_none (Ext.refl w')⟩
              · skip
                refine ⟨fun _ _ _ w' w'' _ ⟨d101_6_1v, hv, d101_6_1vL, d101_6_1vR⟩ hF => ⟨d101_6_1v, hv, d101_6_1vL, d101_6_1vR.frm hF (fun k hk => (not_oth1 (nty (by decide))))⟩, fun _ _ h _ => h, fun σ' w' hA hE hD hP => ?_⟩
                obtain ⟨d101_6_0r0, d101_6_0r1, d101_6_0r2, d101_6_0r3, d101_6_0r4, d101_6_0r5, d101_6_0r6, d101_6_0r7, d101_6_0r8, d101_6_0r9, d101_6_1v, t68, d101_6_0h0, d101_6_0h1, d101_6_0h2, d101_6_0h3, d101_6_0h4, d101_6_0h5, d101_6_0h6, d101_6_0h7, d101_6_0h8, d101_6_0h9, d101_6_1vL, d101_6_1vR⟩ : ∃ d101_6_0r0 : Nat, ∃ d101_6_0r1 : Nat, ∃ d101_6_0r2 : Nat, ∃ d101_6_0r3 : Nat, ∃ d101_6_0r4 : Nat, ∃ d101_6_0r5 : Nat, ∃ d101_6_0r6 : Nat, ∃ d101_6_0r7 : Nat, ∃ d101_6_0r8 : Nat, ∃ d101_6_0r9 : Nat, ∃ d101_6_1v : Value, σ' 68 = (.tuple #[.agg #[.float .f32 d101_6_0r0, .float .f32 d101_6_0r1, .float .f32 d101_6_0r2, .float .f32 d101_6_0r3, .float .f32 d101_6_0r4, .float .f32 d101_6_0r5, .float .f32 d101_6_0r6, .float .f32 d101_6_0r7, .float .f32 d101_6_0r8, .float .f32 d101_6_0r9], d101_6_1v, .bool m109.2.2]) ∧ cn .f32 d101_6_0r0 = m109.1.moments.x ∧ cn .f32 d101_6_0r1 = m109.1.moments.y ∧ cn .f32 d101_6_0r2 = m109.1.moments.z ∧ cn .f32 d101_6_0r3 = m109.1.turn.w ∧ cn .f32 d101_6_0r4 = m109.1.turn.x ∧ cn .f32 d101_6_0r5 = m109.1.turn.y ∧ cn .f32 d101_6_0r6 = m109.1.turn.z ∧ cn .f32 d101_6_0r7 = m109.1.speed.x ∧ cn .f32 d101_6_0r8 = m109.1.speed.y ∧ cn .f32 d101_6_0r9 = m109.1.speed.z ∧ (∀ k, d101_6_1v.ownBlock = some k → w97.heap.size ≤ k) ∧ OS w' 29 encSVector d101_6_1v m109.2.1 := hD 7 rfl
                refine dg_op rfl (d_extract (v := d101_6_1v) t68 rfl ?_)
                exact ⟨⟨d101_6_1v, rfl, d101_6_1vL, d101_6_1vR⟩, own_none (Ext.refl w')⟩
              · skip
                refine ⟨fun _ _ _ _ _ _ h _ => h, fun _ _ h _ => h, fun σ' w' hA hE hD hP => ?_⟩
                obtain ⟨d101_6_0r0, d101_6_0r1, d101_6_0r2, d101_6_0r3, d101_6_0r4, d101_6_0r5, d101_6_0r6, d101_6_0r7, d101_6_0r8, d101_6_0r9, d101_6_1v, t68, d101_6_0h0, d101_6_0h1, d101_6_0h2, d101_6_0h3, d101_6_0h4, d101_6_0h5, d101_6_0h6, d101_6_0h7, d101_6_0h8, d101_6_0h9, d101_6_1vL, d101_6_1vR⟩ : ∃ d101_6_0r0 : Nat, ∃ d101_6_0r1 : Nat, ∃ d101_6_0r2 : Nat, ∃ d101_6_0r3 : Nat, ∃ d101_6_0r4 : Nat, ∃ d101_6_0r5 : Nat, ∃ d101_6_0r6 : Nat, ∃ d101_6_0r7 : Nat, ∃ d101_6_0r8 : Nat, ∃ d101_6_0r9 : Nat, ∃ d101_6_1v : Value, σ' 68 = (.tuple #[.agg #[.float .f32 d101_6_0r0, .float .f32 d101_6_0r1, .float .f32 d101_6_0r2, .float .f32 d101_6_0r3, .float .f32 d101_6_0r4, .float .f32 d101_6_0r5, .float .f32 d101_6_0r6, .float .f32 d101_6_0r7, .float .f32 d101_6_0r8, .float .f32 d101_6_0r9], d101_6_1v, .bool m109.2.2]) ∧ cn .f32 d101_6_0r0 = m109.1.moments.x ∧ cn .f32 d101_6_0r1 = m109.1.moments.y ∧ cn .f32 d101_6_0r2 = m109.1.moments.z ∧ cn .f32 d101_6_0r3 = m109.1.turn.w ∧ cn .f32 d101_6_0r4 = m109.1.turn.x ∧ cn .f32 d101_6_0r5 = m109.1.turn.y ∧ cn .f32 d101_6_0r6 = m109.1.turn.z ∧ cn .f32 d101_6_0r7 = m109.1.speed.x ∧ cn .f32 d101_6_0r8 = m109.1.speed.y ∧ cn .f32 d101_6_0r9 = m109.1.speed.z ∧ (∀ k, d101_6_1v.ownBlock = some k → w97.heap.size ≤ k) ∧ OS w' 29 encSVector d101_6_1v m109.2.1 := hD 7 rfl
                refine dg_op rfl (d_extract (v := .bool m109.2.2) t68 rfl ?_)
                exact ⟨rfl, own_none (Ext.refl w')⟩
              · skip
                refine ⟨fun _ _ _ w' w'' _ ⟨d101_11b, d101_11c, hv, d101_11ble, d101_11bB, d101_11bZ⟩ hF => let ⟨c2, hB2, hZ2⟩ := hF.shape _ _ _ _ d101_11bB; ⟨d101_11b, c2, hv, d101_11ble, hB2, (hZ2.trans d101_11bZ)⟩, fun _ _ h _ => h, fun σ' w' hA hE hD hP => ?_⟩
                refine dg_op rfl (d_alloc (cs := #[.float .f32 0, .float .f32 0, .float .f32 0, .float .f32 0, .float .f32 0, .float .f32 0, .float .f32 0, .float .f32 0, .float .f32 0, .float .f32 0]) zero32 rfl fun w119 B119 E119 => ?_)
                have X121 : Ext w' w119 := (Ext.refl w').trans E119
                exact ⟨⟨w'.heap.size, #[.float .f32 0, .float .f32 0, .float .f32 0, .float .f32 0, .float .f32 0, .float .f32 0, .float .f32 0, .float .f32 0, .float .f32 0, .float .f32 0], rfl, hE.size, B119, rfl⟩, own_none X121⟩
              · skip
                refine ⟨fun _ _ _ w' w'' hs ⟨d101_11b, d101_6_0r0, d101_6_0r1, d101_6_0r2, d101_6_0r3, d101_6_0r4, d101_6_0r5, d101_6_0r6, d101_6_0r7, d101_6_0r8, d101_6_0r9, hb, hB, d101_6_0h0, d101_6_0h1, d101_6_0h2, d101_6_0h3, d101_6_0h4, d101_6_0h5, d101_6_0h6, d101_6_0h7, d101_6_0h8, d101_6_0h9⟩ hF => ⟨d101_11b, d101_6_0r0, d101_6_0r1, d101_6_0r2, d101_6_0r3, d101_6_0r4, d101_6_0r5, d101_6_0r6, d101_6_0r7, d101_6_0r8, d101_6_0r9, (hs 11 rfl).trans hb, hF.heap not_oth1s hB, d101_6_0h0, d101_6_0h1, d101_6_0h2, d101_6_0h3, d101_6_0h4, d101_6_0h5, d101_6_0h6, d101_6_0h7, d101_6_0h8, d101_6_0h9⟩, fun _ _ h _ => h, fun σ' w' hA hE hD hP => ?_⟩
                obtain ⟨d101_11b, d101_11c, t17, d101_11ble, d101_11bB, d101_11bZ⟩ : ∃ d101_11b : Nat, ∃ d101_11c : Array Value, σ' 17 = (.pointer (some ⟨d101_11b, 0, none⟩)) ∧ w97.heap.size ≤ d101_11b ∧ w'.heap[d101_11b]? = some (.cells d101_11c 32 (0, 0)) ∧ d101_11c.size = 10 := hD 11 rfl
                obtain ⟨d101_6_0r0, d101_6_0r1, d101_6_0r2, d101_6_0r3, d101_6_0r4, d101_6_0r5, d101_6_0r6, d101_6_0r7, d101_6_0r8, d101_6_0r9, t76, d101_6_0h0, d101_6_0h1, d101_6_0h2, d101_6_0h3, d101_6_0h4, d101_6_0h5, d101_6_0h6, d101_6_0h7, d101_6_0h8, d101_6_0h9⟩ : ∃ d101_6_0r0 : Nat, ∃ d101_6_0r1 : Nat, ∃ d101_6_0r2 : Nat, ∃ d101_6_0r3 : Nat, ∃ d101_6_0r4 : Nat, ∃ d101_6_0r5 : Nat, ∃ d101_6_0r6 : Nat, ∃ d101_6_0r7 : Nat, ∃ d101_6_0r8 : Nat, ∃ d101_6_0r9 : Nat, σ' 76 = (.agg #[.float .f32 d101_6_0r0, .float .f32 d101_6_0r1, .float .f32 d101_6_0r2, .float .f32 d101_6_0r3, .float .f32 d101_6_0r4, .float .f32 d101_6_0r5, .float .f32 d101_6_0r6, .float .f32 d101_6_0r7, .float .f32 d101_6_0r8, .float .f32 d101_6_0r9]) ∧ cn .f32 d101_6_0r0 = m109.1.moments.x ∧ cn .f32 d101_6_0r1 = m109.1.moments.y ∧ cn .f32 d101_6_0r2 = m109.1.moments.z ∧ cn .f32 d101_6_0r3 = m109.1.turn.w ∧ cn .f32 d101_6_0r4 = m109.1.turn.x ∧ cn .f32 d101_6_0r5 = m109.1.turn.y ∧ cn .f32 d101_6_0r6 = m109.1.turn.z ∧ cn .f32 d101_6_0r7 = m109.1.speed.x ∧ cn .f32 d101_6_0r8 = m109.1.speed.y ∧ cn .f32 d101_6_0r9 = m109.1.speed.z := hD 8 rfl
                refine dg_op rfl (d_store_new (vs := #[.float .f32 d101_6_0r0, .float .f32 d101_6_0r1, .float .f32 d101_6_0r2, .float .f32 d101_6_0r3, .float .f32 d101_6_0r4, .float .f32 d101_6_0r5, .float .f32 d101_6_0r6, .float .f32 d101_6_0r7, .float .f32 d101_6_0r8, .float .f32 d101_6_0r9]) t17 (congrArg Value.cells t76) d101_11bB d101_11bZ size32 rfl rfl fun w122 S122 => ?_)
                exact ⟨⟨d101_11b, d101_6_0r0, d101_6_0r1, d101_6_0r2, d101_6_0r3, d101_6_0r4, d101_6_0r5, d101_6_0r6, d101_6_0r7, d101_6_0r8, d101_6_0r9, t17, S122.here, d101_6_0h0, d101_6_0h1, d101_6_0h2, d101_6_0h3, d101_6_0h4, d101_6_0h5, d101_6_0h6, d101_6_0h7, d101_6_0h8, d101_6_0h9⟩, own_some (j := 0) rfl (S122.frm.mono (fun k t h => ⟨h.1 ▸ d101_11ble, h.2⟩))⟩
              · skip
                refine ⟨fun _ _ _ _ _ hs h _ => h.trans (hs 9 rfl).symm, fun _ _ h _ => h, fun σ' w' hA hE hD hP => ?_⟩
                exact dg_op rfl (d_as rfl ⟨rfl, own_none (Ext.refl _)⟩)
              · skip
                refine ⟨fun _ _ _ _ _ _ h _ => h, fun _ _ h _ => h, fun σ' w' hA hE hD hP => ?_⟩
                have t78 : σ' 78 = (.bool m109.2.2) := hD 10 rfl
                refine dg_op rfl (d_as (v := .bool m109.2.2) t78 ?_)
                exact ⟨rfl, own_none (Ext.refl w')⟩
              · skip
                intro σ101 w101 A101 E101 V101
                obtain ⟨z101_17_11b, z101_17_11c, s17_101, z101_17_11ble, z101_17_11bB, z101_17_11bZ⟩ : ∃ z101_17_11b : Nat, ∃ z101_17_11c : Array Value, σ101 17 = (.pointer (some ⟨z101_17_11b, 0, none⟩)) ∧ w97.heap.size ≤ z101_17_11b ∧ w101.heap[z101_17_11b]? = some (.cells z101_17_11c 32 (0, 0)) ∧ z101_17_11c.size = 10 := V101 11 (Nat.le_of_ble_eq_true rfl)
                obtain ⟨z101_18_6_1v, s18_101, z101_18_6_1vL, z101_18_6_1vR⟩ : ∃ z101_18_6_1v : Value, σ101 77 = z101_18_6_1v ∧ (∀ k, z101_18_6_1v.ownBlock = some k → w97.heap.size ≤ k) ∧ OS w101 29 encSVector z101_18_6_1v m109.2.1 := V101 9 (Nat.le_of_ble_eq_true rfl)
                have s19_101 : σ101 19 = (.bool m109.2.2) := V101 14 (Nat.le_of_ble_eq_true rfl)
                obtain ⟨z101_m0_11b, z101_m0_6_0r0, z101_m0_6_0r1, z101_m0_6_0r2, z101_m0_6_0r3, z101_m0_6_0r4, z101_m0_6_0r5, z101_m0_6_0r6, z101_m0_6_0r7, z101_m0_6_0r8, z101_m0_6_0r9, hbn101, hBn101, z101_m0_6_0h0, z101_m0_6_0h1, z101_m0_6_0h2, z101_m0_6_0h3, z101_m0_6_0h4, z101_m0_6_0h5, z101_m0_6_0h6, z101_m0_6_0h7, z101_m0_6_0h8, z101_m0_6_0h9⟩ : ∃ z101_m0_11b : Nat, ∃ z101_m0_6_0r0 : Nat, ∃ z101_m0_6_0r1 : Nat, ∃ z101_m0_6_0r2 : Nat, ∃ z101_m0_6_0r3 : Nat, ∃ z101_m0_6_0r4 : Nat, ∃ z101_m0_6_0r5 : Nat, ∃ z101_m0_6_0r6 : Nat, ∃ z101_m0_6_0r7 : Nat, ∃ z101_m0_6_0r8 : Nat, ∃ z101_m0_6_0r9 : Nat, σ101 17 = .pointer (some ⟨z101_m0_11b, 0, none⟩) ∧ w101.heap[z101_m0_11b]? = some (.cells #[.float .f32 z101_m0_6_0r0, .float .f32 z101_m0_6_0r1, .float .f32 z101_m0_6_0r2, .float .f32 z101_m0_6_0r3, .float .f32 z101_m0_6_0r4, .float .f32 z101_m0_6_0r5, .float .f32 z101_m0_6_0r6, .float .f32 z101_m0_6_0r7, .float .f32 z101_m0_6_0r8, .float .f32 z101_m0_6_0r9] 32 (0, 0)) ∧ cn .f32 z101_m0_6_0r0 = m109.1.moments.x ∧ cn .f32 z101_m0_6_0r1 = m109.1.moments.y ∧ cn .f32 z101_m0_6_0r2 = m109.1.moments.z ∧ cn .f32 z101_m0_6_0r3 = m109.1.turn.w ∧ cn .f32 z101_m0_6_0r4 = m109.1.turn.x ∧ cn .f32 z101_m0_6_0r5 = m109.1.turn.y ∧ cn .f32 z101_m0_6_0r6 = m109.1.turn.z ∧ cn .f32 z101_m0_6_0r7 = m109.1.speed.x ∧ cn .f32 z101_m0_6_0r8 = m109.1.speed.y ∧ cn .f32 z101_m0_6_0r9 = m109.1.speed.z := V101 12 (Nat.le_of_ble_eq_true rfl)
                have hen101 : z101_m0_11b = z101_17_11b := by have := hbn101.symm.trans s17_101; simp only [Value.pointer.injEq, Option.some.injEq, Addr.mk.injEq] at this; exact this.1
                rw [hen101] at hBn101
                have own123 : w.heap.size ≤ z101_17_11b := Nat.le_trans X98.size z101_17_11ble
                have sp124 : w.heap.size ≠ z101_17_11b := Nat.ne_of_lt (Nat.lt_of_lt_of_le (lt_heap B102) z101_17_11ble)
                have sp125 : w1.heap.size ≠ z101_17_11b := Nat.ne_of_lt (Nat.lt_of_lt_of_le (lt_heap B103) z101_17_11ble)
                have sp126 : z8_9_11b ≠ z101_17_11b := Nat.ne_of_lt (Nat.lt_of_lt_of_le (lt_heap B104) z101_17_11ble)
                have sp127 : ¬ z8_10_6_1v.ownBlock = some z101_17_11b := OS.ne_new B105 z101_17_11ble
                have sp128 : ¬ z33_13_6_1v.ownBlock = some z101_17_11b := OS.ne_new B106 z101_17_11ble
                have own129 : ∀ k, z101_18_6_1v.ownBlock = some k → w.heap.size ≤ k := fun k hk => Nat.le_trans X98.size (z101_18_6_1vL k hk)
                have sp130 : ¬ z101_18_6_1v.ownBlock = some w.heap.size := ne_fresh z101_18_6_1vL (lt_heap B102)
                have sp131 : ¬ z101_18_6_1v.ownBlock = some w1.heap.size := ne_fresh z101_18_6_1vL (lt_heap B103)
                have sp132 : ¬ z101_18_6_1v.ownBlock = some z8_9_11b := ne_fresh z101_18_6_1vL (lt_heap B104)
                have sp133 : ∀ k, z8_10_6_1v.ownBlock = some k → ¬ z101_18_6_1v.ownBlock = some k := apart_fresh B105 z101_18_6_1vL
                have sp134 : ∀ k, z33_13_6_1v.ownBlock = some k → ¬ z101_18_6_1v.ownBlock = some k := apart_fresh B106 z101_18_6_1vL
                have s9_101 : σ101 9 = .pointer (some ⟨z8_9_11b, 0, none⟩) := (A101 9 rfl).trans s9_63
                have s10_101 : σ101 10 = z8_10_6_1v := (A101 10 rfl).trans s10_63
                have s11_101 : σ101 11 = .bool m12.2.2 := (A101 11 rfl).trans s11_63
                have s13_101 : σ101 13 = z33_13_6_1v := (A101 13 rfl).trans s13_63
                have s15_101 : σ101 15 = .int .i64 m84.1 := (A101 15 rfl).trans rfl
                have X135 : Ext w w101 := Ext.step X98 E101 (oth_own1 (fun k _ hk => Nat.le_trans X98.size hk.1))
                refine W_seq ?_
                refine W_seq ?_
                have B137 : w101.heap[z8_9_11b]? = some (.cells #[.float .f32 z8_m0_6_0r0, .float .f32 z8_m0_6_0r1, .float .f32 z8_m0_6_0r2, .float .f32 z8_m0_6_0r3, .float .f32 z8_m0_6_0r4, .float .f32 z8_m0_6_0r5, .float .f32 z8_m0_6_0r6, .float .f32 z8_m0_6_0r7, .float .f32 z8_m0_6_0r8, .float .f32 z8_m0_6_0r9] 32 (0, 0)) := E101.heap (not_oth1 (not_newT_box B104)) B104
                have B138 : OS w101 29 encSVector z8_10_6_1v m12.2.1 := B105.frm E101 (fun k hk => (not_oth1 ((not_newT_row B105) k hk)))
                have B139 : OS w101 29 encSVector z33_13_6_1v m84.2 := B106.frm E101 (fun k hk => (not_oth1 ((not_newT_row B106) k hk)))
                obtain ⟨m136, hm136, hr⟩ := bind_out hr
                refine W_cut (fun σ' w' => σ' 93 = .bool m136 ∧ Ext w101 w') rfl ?_ ?_
                · skip
                  have hr := hm136
                  refine da_op rfl (d_loads (vs := #[.float .f32 z101_m0_6_0r0, .float .f32 z101_m0_6_0r1, .float .f32 z101_m0_6_0r2, .float .f32 z101_m0_6_0r3, .float .f32 z101_m0_6_0r4, .float .f32 z101_m0_6_0r5, .float .f32 z101_m0_6_0r6, .float .f32 z101_m0_6_0r7, .float .f32 z101_m0_6_0r8, .float .f32 z101_m0_6_0r9]) s17_101 agg32 size32 hBn101 rfl ?_)
                  refine da_op rfl (d_loads (vs := #[.float .f32 z8_m0_6_0r0, .float .f32 z8_m0_6_0r1, .float .f32 z8_m0_6_0r2, .float .f32 z8_m0_6_0r3, .float .f32 z8_m0_6_0r4, .float .f32 z8_m0_6_0r5, .float .f32 z8_m0_6_0r6, .float .f32 z8_m0_6_0r7, .float .f32 z8_m0_6_0r8, .float .f32 z8_m0_6_0r9]) s9_101 agg32 size32 B137 rfl ?_)
                  obtain ⟨m140, hm140, hr⟩ := letv_out hr
                  refine da_op rfl (d_cl (vs := [.agg #[.float .f32 z101_m0_6_0r0, .float .f32 z101_m0_6_0r1, .float .f32 z101_m0_6_0r2, .float .f32 z101_m0_6_0r3, .float .f32 z101_m0_6_0r4, .float .f32 z101_m0_6_0r5, .float .f32 z101_m0_6_0r6, .float .f32 z101_m0_6_0r7, .float .f32 z101_m0_6_0r8, .float .f32 z101_m0_6_0r9], .agg #[.float .f32 z8_m0_6_0r0, .float .f32 z8_m0_6_0r1, .float .f32 z8_m0_6_0r2, .float .f32 z8_m0_6_0r3, .float .f32 z8_m0_6_0r4, .float .f32 z8_m0_6_0r5, .float .f32 z8_m0_6_0r6, .float .f32 z8_m0_6_0r7, .float .f32 z8_m0_6_0r8, .float .f32 z8_m0_6_0r9]]) en10 (ac rfl (ac rfl rfl)) rfl ?_)
                  refine (c10 m109.1 (⟨(⟨m12.1.moments.x, m12.1.moments.y, m12.1.moments.z⟩ : SVector), (⟨m12.1.turn.w, m12.1.turn.x, m12.1.turn.y, m12.1.turn.z⟩ : SSpin), (⟨m12.1.speed.x, m12.1.speed.y, m12.1.speed.z⟩ : SVector)⟩ : STop) z101_m0_6_0r0 z101_m0_6_0r1 z101_m0_6_0r2 z101_m0_6_0r3 z101_m0_6_0r4 z101_m0_6_0r5 z101_m0_6_0r6 z101_m0_6_0r7 z101_m0_6_0r8 z101_m0_6_0r9 z8_m0_6_0r0 z8_m0_6_0r1 z8_m0_6_0r2 z8_m0_6_0r3 z8_m0_6_0r4 z8_m0_6_0r5 z8_m0_6_0r6 z8_m0_6_0r7 z8_m0_6_0r8 z8_m0_6_0r9 m140 w101 hm140 z101_m0_6_0h0 z101_m0_6_0h1 z101_m0_6_0h2 z101_m0_6_0h3 z101_m0_6_0h4 z101_m0_6_0h5 z101_m0_6_0h6 z101_m0_6_0h7 z101_m0_6_0h8 z101_m0_6_0h9 z8_m0_6_0h0 z8_m0_6_0h1 z8_m0_6_0h2 z8_m0_6_0h3 z8_m0_6_0h4 z8_m0_6_0h5 z8_m0_6_0h6 z8_m0_6_0h7 z8_m0_6_0h8 z8_m0_6_0h9).mono ?_
                  rintro _ w141 ⟨rfl, E141⟩
                  refine ⟨_, rfl, ?_⟩
                  have X142 : Ext w w141 := X135.trans E141
                  refine da_op rfl (d_not rfl ?_)
                  refine da_op rfl (d_mv (v := .bool (!m140)) rfl ?_)
                  rcases Bool.eq_false_or_eq_true m140 with hc143 | hc143
                  · skip
                    replace hr := bif_t hr hc143
                    refine da_on rfl (Eq.trans (show sl _ _ _ = .bool (!m140) from rfl) (congrArg Value.bool (congrArg not hc143))) (d_mv (v := z101_18_6_1v) (Eq.trans (show σ101 18 = σ101 77 from V101 13 (Nat.le_of_ble_eq_true rfl)) s18_101) ?_)
                    refine da_on rfl (Eq.trans (show sl _ _ _ = .bool (!m140) from rfl) (congrArg Value.bool (congrArg not hc143))) (d_mv (v := z8_10_6_1v) s10_101 ?_)
                    obtain ⟨m144, hm144, hr⟩ := bind_out hr
                    have B145 : OS w141 29 encSVector z101_18_6_1v m109.2.1 := z101_18_6_1vR.ext E141
                    have B146 : OS w141 29 encSVector z8_10_6_1v m12.2.1 := B138.ext E141
                    have B147 : w141.heap[z8_9_11b]? = some (.cells #[.float .f32 z8_m0_6_0r0, .float .f32 z8_m0_6_0r1, .float .f32 z8_m0_6_0r2, .float .f32 z8_m0_6_0r3, .float .f32 z8_m0_6_0r4, .float .f32 z8_m0_6_0r5, .float .f32 z8_m0_6_0r6, .float .f32 z8_m0_6_0r7, .float .f32 z8_m0_6_0r8, .float .f32 z8_m0_6_0r9] 32 (0, 0)) := E141.heap B137
                    have B148 : OS w141 29 encSVector z33_13_6_1v m84.2 := B139.ext E141
                    have B149 : w141.heap[z101_17_11b]? = some (.cells #[.float .f32 z101_m0_6_0r0, .float .f32 z101_m0_6_0r1, .float .f32 z101_m0_6_0r2, .float .f32 z101_m0_6_0r3, .float .f32 z101_m0_6_0r4, .float .f32 z101_m0_6_0r5, .float .f32 z101_m0_6_0r6, .float .f32 z101_m0_6_0r7, .float .f32 z101_m0_6_0r8, .float .f32 z101_m0_6_0r9] 32 (0, 0)) := E141.heap hBn101
                    refine da_on rfl (Eq.trans (show sl _ _ _ = .bool (!m140) from rfl) (congrArg Value.bool (congrArg not hc143))) (d_cl (vs := [z101_18_6_1v, z8_10_6_1v]) en11 (ac rfl (ac rfl rfl)) rfl ?_)
                    refine (c11 m109.2.1 m12.2.1 z101_18_6_1v z8_10_6_1v m144 w141 hm144 B145.rs B146.rs).mono ?_
                    rintro _ w150 ⟨rfl, E150⟩
                    refine ⟨_, rfl, ?_⟩
                    have X151 : Ext w w150 := X142.trans E150
                    refine da_on rfl (Eq.trans (show sl _ _ _ = .bool (!m140) from rfl) (congrArg Value.bool (congrArg not hc143))) (d_not rfl ?_)
                    refine da_op rfl (d_pick (b := false) (Eq.trans (show ev _ _ = .bool (!m140) from rfl) (congrArg Value.bool (congrArg not hc143))) ?_)
                    refine da_op rfl (d_mv (v := .bool (!m144)) rfl ?_)
                    rcases Bool.eq_false_or_eq_true m144 with hc152 | hc152
                    · skip
                      replace hr := bif_t hr hc152
                      refine da_on rfl (Eq.trans (show sl _ _ _ = .bool (!m144) from rfl) (congrArg Value.bool (congrArg not hc152))) (d_mv (v := .bool m109.2.2) s19_101 ?_)
                      refine da_on rfl (Eq.trans (show sl _ _ _ = .bool (!m144) from rfl) (congrArg Value.bool (congrArg not hc152))) (d_mv (v := .bool m12.2.2) s11_101 ?_)
                      refine da_on rfl (Eq.trans (show sl _ _ _ = .bool (!m144) from rfl) (congrArg Value.bool (congrArg not hc152))) (d_bne un4 rfl rfl ?_)
                      refine da_op rfl (d_pick (b := false) (Eq.trans (show ev _ _ = .bool (!m144) from rfl) (congrArg Value.bool (congrArg not hc152))) ?_)
                      refine da_nil ?_
                      obtain rfl := Option.some.inj hr
                      exact ⟨rfl, (Ext.trans (Ext.trans (Ext.refl w101) E141) E150)⟩
                    · skip
                      replace hr := bif_f hr hc152
                      refine da_off rfl (Eq.trans (show sl _ _ _ = .bool (!m144) from rfl) (congrArg Value.bool (congrArg not hc152))) (by decide) ?_
                      refine da_off rfl (Eq.trans (show sl _ _ _ = .bool (!m144) from rfl) (congrArg Value.bool (congrArg not hc152))) (by decide) ?_
                      refine da_off rfl (Eq.trans (show sl _ _ _ = .bool (!m144) from rfl) (congrArg Value.bool (congrArg not hc152))) (by decide) ?_
                      refine da_op rfl (d_pick (b := true) (Eq.trans (show ev _ _ = .bool (!m144) from rfl) (congrArg Value.bool (congrArg not hc152))) ?_)
                      refine da_nil ?_
                      obtain rfl := Option.some.inj hr
                      exact ⟨rfl, (Ext.trans (Ext.trans (Ext.refl w101) E141) E150)⟩
                  · skip
                    replace hr := bif_f hr hc143
                    refine da_off rfl (Eq.trans (show sl _ _ _ = .bool (!m140) from rfl) (congrArg Value.bool (congrArg not hc143))) (by decide) ?_
                    refine da_off rfl (Eq.trans (show sl _ _ _ = .bool (!m140) from rfl) (congrArg Value.bool (congrArg not hc143))) (by decide) ?_
                    refine da_off rfl (Eq.trans (show sl _ _ _ = .bool (!m140) from rfl) (congrArg Value.bool (congrArg not hc143))) (by decide) ?_
                    refine da_off rfl (Eq.trans (show sl _ _ _ = .bool (!m140) from rfl) (congrArg Value.bool (congrArg not hc143))) (by decide) ?_
                    refine da_op rfl (d_pick (b := true) (Eq.trans (show ev _ _ = .bool (!m140) from rfl) (congrArg Value.bool (congrArg not hc143))) ?_)
                    refine da_op rfl (d_mv (v := .bool true) rfl ?_)
                    refine da_off rfl rfl (by decide) ?_
                    refine da_off rfl rfl (by decide) ?_
                    refine da_off rfl rfl (by decide) ?_
                    refine da_op rfl (d_pick (b := true) rfl ?_)
                    refine da_nil ?_
                    obtain rfl := Option.some.inj hr
                    exact ⟨rfl, (Ext.trans (Ext.refl w101) E141)⟩
                · skip
                  rintro σ136 w136 o136 ⟨s93_136, E136⟩
                  have s13_136 : σ136 13 = z33_13_6_1v := (o136 13 rfl).trans s13_101
                  have s15_136 : σ136 15 = .int .i64 m84.1 := (o136 15 rfl).trans s15_101
                  have X153 : Ext w w136 := X135.trans E136
                  refine W_cond (b := m136) s93_136 (fun hc154 => ?_) (fun hc154 => ?_)
                  · skip
                    replace hr := bif_t hr hc154
                    refine W_seq ?_
                    refine W_region rfl ?_
                    refine da_op rfl (d_as (v := .bool false) rfl ?_)
                    refine da_nil ?_
                    refine W_ret ?_
                    obtain rfl := Option.some.inj hr
                    refine ⟨_, res1 (rv_tmp rfl), ?_⟩
                    exact ⟨rfl, X153⟩
                  · skip
                    replace hr := bif_f hr hc154
                    refine W_skip ?_
                    refine W_seq ?_
                    refine W_region rfl ?_
                    refine da_op rfl (d_as (v := .int .i64 1) rfl ?_)
                    refine da_nil ?_
                    refine W_seq ?_
                    refine W_region rfl ?_
                    refine da_op rfl (d_mv (v := z33_13_6_1v) s13_136 ?_)
                    refine da_op rfl (d_mv (v := .int .i64 1) rfl ?_)
                    obtain ⟨m155, hm155, hr⟩ := bind_out hr
                    have B156 : OS w136 29 encSVector z33_13_6_1v m84.2 := B139.ext E136
                    refine da_op rfl (d_cl (vs := [z33_13_6_1v, .int .i64 1]) en13 (ac rfl (ac rfl rfl)) rfl ?_)
                    refine (c13 m84.2 1 z33_13_6_1v m155 w136 hm155 B156.rs).mono ?_
                    rintro _ w157 ⟨rfl, E157⟩
                    refine ⟨_, rfl, ?_⟩
                    have X158 : Ext w w157 := X153.trans E157
                    refine da_op rfl (d_as (v := .int .i64 m155) rfl ?_)
                    refine da_nil ?_
                    refine W_seq ?_
                    refine W_seq ?_
                    refine W_region rfl ?_
                    refine da_op rfl (d_mv (v := .int .i64 m155) rfl ?_)
                    refine da_op rfl (d_icmp cLss rfl rfl ?_)
                    refine da_nil ?_
                    refine W_cond (b := (icmp .lss m155 0)) rfl (fun hc159 => ?_) (fun hc159 => ?_)
                    · skip
                      replace hr := bif_t hr hc159
                      refine W_seq ?_
                      refine W_region rfl ?_
                      refine da_op rfl (d_as (v := .bool false) rfl ?_)
                      refine da_nil ?_
                      refine W_ret ?_
                      obtain rfl := Option.some.inj hr
                      refine ⟨_, res1 (rv_tmp rfl), ?_⟩
                      exact ⟨rfl, X158⟩
                    · skip
                      replace hr := bif_f hr hc159
                      refine W_skip ?_
                      refine W_seq ?_
                      refine W_seq ?_
                      refine W_region rfl ?_
                      refine da_op rfl (d_mv (v := .int .i64 m155) rfl ?_)
                      refine da_op rfl (d_mv (v := .int .i64 m84.1) s15_136 ?_)
                      refine da_op rfl (d_icmp cNeq rfl rfl ?_)
                      refine da_nil ?_
                      refine W_cond (b := (icmp .neq m155 m84.1)) rfl (fun hc160 => ?_) (fun hc160 => ?_)
                      · skip
                        replace hr := bif_t hr hc160
                        refine W_seq ?_
                        refine W_region rfl ?_
                        refine da_op rfl (d_as (v := .bool false) rfl ?_)
                        refine da_nil ?_
                        refine W_ret ?_
                        obtain rfl := Option.some.inj hr
                        refine ⟨_, res1 (rv_tmp rfl), ?_⟩
                        exact ⟨rfl, X158⟩
                      · skip
                        replace hr := bif_f hr hc160
                        refine W_skip ?_
                        refine W_seq ?_
                        refine W_region rfl ?_
                        refine da_op rfl (d_as (v := .bool true) rfl ?_)
                        refine da_nil ?_
                        refine W_ret ?_
                        obtain rfl := Option.some.inj hr
                        refine ⟨_, res1 (rv_tmp rfl), ?_⟩
                        exact ⟨rfl, X158⟩
set_option maxHeartbeats 4000000 in
theorem c14 (p0 : STop) (p1 : Nat) (p2 : Nat) (p3 : Nat) (p4 : Int) (p0r0 : Nat) (p0r1 : Nat) (p0r2 : Nat) (p0r3 : Nat) (p0r4 : Nat) (p0r5 : Nat) (p0r6 : Nat) (p0r7 : Nat) (p0r8 : Nat) (p0r9 : Nat) (p1r : Nat) (p2r : Nat) (p3r : Nat) (r : STop × List SVector × Bool) (w : World) (hr : M.spec_RunHeavy p0 p1 p2 p3 p4 = some r) (p0h0 : cn .f32 p0r0 = p0.moments.x) (p0h1 : cn .f32 p0r1 = p0.moments.y) (p0h2 : cn .f32 p0r2 = p0.moments.z) (p0h3 : cn .f32 p0r3 = p0.turn.w) (p0h4 : cn .f32 p0r4 = p0.turn.x) (p0h5 : cn .f32 p0r5 = p0.turn.y) (p0h6 : cn .f32 p0r6 = p0.turn.z) (p0h7 : cn .f32 p0r7 = p0.speed.x) (p0h8 : cn .f32 p0r8 = p0.speed.y) (p0h9 : cn .f32 p0r9 = p0.speed.z) (p1h : cn .f32 p1r = p1) (p2h : cn .f32 p2r = p2) (p3h : cn .f32 p3r = p3) :
    Calls Try.prog 14 #[.agg #[.float .f32 p0r0, .float .f32 p0r1, .float .f32 p0r2, .float .f32 p0r3, .float .f32 p0r4, .float .f32 p0r5, .float .f32 p0r6, .float .f32 p0r7, .float .f32 p0r8, .float .f32 p0r9], .float .f32 p1r, .float .f32 p2r, .float .f32 p3r, .int .i64 p4] w fun e w' => ∃ q0r0 : Nat, ∃ q0r1 : Nat, ∃ q0r2 : Nat, ∃ q0r3 : Nat, ∃ q0r4 : Nat, ∃ q0r5 : Nat, ∃ q0r6 : Nat, ∃ q0r7 : Nat, ∃ q0r8 : Nat, ∃ q0r9 : Nat, ∃ q1v : Value, e = .returned (.tuple #[.agg #[.float .f32 q0r0, .float .f32 q0r1, .float .f32 q0r2, .float .f32 q0r3, .float .f32 q0r4, .float .f32 q0r5, .float .f32 q0r6, .float .f32 q0r7, .float .f32 q0r8, .float .f32 q0r9], q1v, .bool r.2.2]) ∧ cn .f32 q0r0 = r.1.moments.x ∧ cn .f32 q0r1 = r.1.moments.y ∧ cn .f32 q0r2 = r.1.moments.z ∧ cn .f32 q0r3 = r.1.turn.w ∧ cn .f32 q0r4 = r.1.turn.x ∧ cn .f32 q0r5 = r.1.turn.y ∧ cn .f32 q0r6 = r.1.turn.z ∧ cn .f32 q0r7 = r.1.speed.x ∧ cn .f32 q0r8 = r.1.speed.y ∧ cn .f32 q0r9 = r.1.speed.z ∧ OS w' 29 encSVector q1v r.2.1 ∧ (∀ k, q1v.ownBlock = some k → w.heap.size ≤ k) ∧ Ext w w' := by
  refine calls_of_W Try.func14 rfl (Nat.le_of_ble_eq_true rfl) ?_
  refine W_seq ?_
  refine W_region rfl ?_
  refine da_op rfl (d_box (cs := #[.float .f32 p0r0, .float .f32 p0r1, .float .f32 p0r2, .float .f32 p0r3, .float .f32 p0r4, .float .f32 p0r5, .float .f32 p0r6, .float .f32 p0r7, .float .f32 p0r8, .float .f32 p0r9]) rfl fun w1 B1 E1 => ?_)
  have own2 : w.heap.size ≤ w.heap.size := Nat.le_trans (Ext.refl w).size (Nat.le_refl _)
  have X3 : Ext w w1 := (Ext.refl w).trans E1
  refine da_op rfl (d_alloc (cs := #[.float .f32 0, .float .f32 0, .float .f32 0, .float .f32 0, .float .f32 0, .float .f32 0, .float .f32 0, .float .f32 0, .float .f32 0, .float .f32 0]) zero32 rfl fun w4 B4 E4 => ?_)
  have own5 : w.heap.size ≤ w1.heap.size := Nat.le_trans X3.size (Nat.le_refl _)
  have sp6 : w.heap.size ≠ w1.heap.size := Nat.ne_of_lt (Nat.lt_of_lt_of_le (lt_heap B1) (Nat.le_refl _))
  have X7 : Ext w w4 := X3.trans E4
  refine da_op rfl (d_as (v := .slice none 0 0) rfl ?_)
  refine da_op rfl (d_as (v := .bool false) rfl ?_)
  refine da_nil ?_
  refine W_seq ?_
  refine W_seq ?_
  have B9 : w4.heap[w.heap.size]? = some (.cells #[.float .f32 p0r0, .float .f32 p0r1, .float .f32 p0r2, .float .f32 p0r3, .float .f32 p0r4, .float .f32 p0r5, .float .f32 p0r6, .float .f32 p0r7, .float .f32 p0r8, .float .f32 p0r9] 32 (0, 0)) := E4.heap B1
  obtain ⟨m8, hm8, hr⟩ := letv_out hr
  refine W_cut (fun σ' w' => σ' 34 = .bool m8 ∧ Ext w4 w') rfl ?_ ?_
  · skip
    have hr := hm8
    obtain ⟨m10, hm10, hr⟩ := letv_out hr
    refine da_op rfl (d_cl (vs := [.pointer (some ⟨w.heap.size, 0, none⟩)]) en30 (ac rfl rfl) rfl ?_)
    refine (c30 p0 w.heap.size 0 #[.float .f32 p0r0, .float .f32 p0r1, .float .f32 p0r2, .float .f32 p0r3, .float .f32 p0r4, .float .f32 p0r5, .float .f32 p0r6, .float .f32 p0r7, .float .f32 p0r8, .float .f32 p0r9] 32 (0, 0) p0r0 p0r1 p0r2 p0r3 p0r4 p0r5 p0r6 p0r7 p0r8 p0r9 m10 w4 hm10 p0h0 p0h1 p0h2 p0h3 p0h4 p0h5 p0h6 p0h7 p0h8 p0h9 B9 rfl).mono ?_
    rintro _ w11 ⟨rfl, E11⟩
    refine ⟨_, rfl, ?_⟩
    have X12 : Ext w w11 := X7.trans E11
    refine da_op rfl (d_not rfl ?_)
    refine da_op rfl (d_mv (v := .bool (!m10)) rfl ?_)
    rcases Bool.eq_false_or_eq_true m10 with hc13 | hc13
    · skip
      replace hr := bif_t hr hc13
      refine da_on rfl (Eq.trans (show sl _ _ _ = .bool (!m10) from rfl) (congrArg Value.bool (congrArg not hc13))) (d_mv (v := .float .f32 p1r) rfl ?_)
      obtain ⟨m14, hm14, hr⟩ := letv_out hr
      have B15 : w11.heap[w.heap.size]? = some (.cells #[.float .f32 p0r0, .float .f32 p0r1, .float .f32 p0r2, .float .f32 p0r3, .float .f32 p0r4, .float .f32 p0r5, .float .f32 p0r6, .float .f32 p0r7, .float .f32 p0r8, .float .f32 p0r9] 32 (0, 0)) := E11.heap B9
      have B16 : w11.heap[w1.heap.size]? = some (.cells #[.float .f32 0, .float .f32 0, .float .f32 0, .float .f32 0, .float .f32 0, .float .f32 0, .float .f32 0, .float .f32 0, .float .f32 0, .float .f32 0] 32 (0, 0)) := E11.heap B4
      refine da_on rfl (Eq.trans (show sl _ _ _ = .bool (!m10) from rfl) (congrArg Value.bool (congrArg not hc13))) (d_cl (vs := [.float .f32 p1r]) en31 (ac rfl rfl) rfl ?_)
      refine (c31 p1 p1r m14 w11 hm14 p1h).mono ?_
      rintro _ w17 ⟨rfl, E17⟩
      refine ⟨_, rfl, ?_⟩
      have X18 : Ext w w17 := X12.trans E17
      refine da_on rfl (Eq.trans (show sl _ _ _ = .bool (!m10) from rfl) (congrArg Value.bool (congrArg not hc13))) (d_not rfl ?_)
      refine da_op rfl (d_pick (b := false) (Eq.trans (show ev _ _ = .bool (!m10) from rfl) (congrArg Value.bool (congrArg not hc13))) ?_)
      refine da_op rfl (d_mv (v := .bool (!m14)) rfl ?_)
      rcases Bool.eq_false_or_eq_true m14 with hc19 | hc19
      · skip
        replace hr := bif_t hr hc19
        refine da_on rfl (Eq.trans (show sl _ _ _ = .bool (!m14) from rfl) (congrArg Value.bool (congrArg not hc19))) (d_mv (v := .float .f32 p2r) rfl ?_)
        obtain ⟨m20, hm20, hr⟩ := letv_out hr
        have B21 : w17.heap[w.heap.size]? = some (.cells #[.float .f32 p0r0, .float .f32 p0r1, .float .f32 p0r2, .float .f32 p0r3, .float .f32 p0r4, .float .f32 p0r5, .float .f32 p0r6, .float .f32 p0r7, .float .f32 p0r8, .float .f32 p0r9] 32 (0, 0)) := E17.heap B15
        have B22 : w17.heap[w1.heap.size]? = some (.cells #[.float .f32 0, .float .f32 0, .float .f32 0, .float .f32 0, .float .f32 0, .float .f32 0, .float .f32 0, .float .f32 0, .float .f32 0, .float .f32 0] 32 (0, 0)) := E17.heap B16
        refine da_on rfl (Eq.trans (show sl _ _ _ = .bool (!m14) from rfl) (congrArg Value.bool (congrArg not hc19))) (d_cl (vs := [.float .f32 p2r]) en31 (ac rfl rfl) rfl ?_)
        refine (c31 p2 p2r m20 w17 hm20 p2h).mono ?_
        rintro _ w23 ⟨rfl, E23⟩
        refine ⟨_, rfl, ?_⟩
        have X24 : Ext w w23 := X18.trans E23
        refine da_on rfl (Eq.trans (show sl _ _ _ = .bool (!m14) from rfl) (congrArg Value.bool (congrArg not hc19))) (d_not rfl ?_)
        refine da_op rfl (d_pick (b := false) (Eq.trans (show ev _ _ = .bool (!m14) from rfl) (congrArg Value.bool (congrArg not hc19))) ?_)
        refine da_op rfl (d_mv (v := .bool (!m20)) rfl ?_)
        rcases Bool.eq_false_or_eq_true m20 with hc25 | hc25
        · skip
          replace hr := bif_t hr hc25
          refine da_on rfl (Eq.trans (show sl _ _ _ = .bool (!m20) from rfl) (congrArg Value.bool (congrArg not hc25))) (d_mv (v := .float .f32 p3r) rfl ?_)
          obtain ⟨m26, hm26, hr⟩ := letv_out hr
          have B27 : w23.heap[w.heap.size]? = some (.cells #[.float .f32 p0r0, .float .f32 p0r1, .float .f32 p0r2, .float .f32 p0r3, .float .f32 p0r4, .float .f32 p0r5, .float .f32 p0r6, .float .f32 p0r7, .float .f32 p0r8, .float .f32 p0r9] 32 (0, 0)) := E23.heap B21
          have B28 : w23.heap[w1.heap.size]? = some (.cells #[.float .f32 0, .float .f32 0, .float .f32 0, .float .f32 0, .float .f32 0, .float .f32 0, .float .f32 0, .float .f32 0, .float .f32 0, .float .f32 0] 32 (0, 0)) := E23.heap B22
          refine da_on rfl (Eq.trans (show sl _ _ _ = .bool (!m20) from rfl) (congrArg Value.bool (congrArg not hc25))) (d_cl (vs := [.float .f32 p3r]) en31 (ac rfl rfl) rfl ?_)
          refine (c31 p3 p3r m26 w23 hm26 p3h).mono ?_
          rintro _ w29 ⟨rfl, E29⟩
          refine ⟨_, rfl, ?_⟩
          have X30 : Ext w w29 := X24.trans E29
          refine da_on rfl (Eq.trans (show sl _ _ _ = .bool (!m20) from rfl) (congrArg Value.bool (congrArg not hc25))) (d_not rfl ?_)
          refine da_op rfl (d_pick (b := false) (Eq.trans (show ev _ _ = .bool (!m20) from rfl) (congrArg Value.bool (congrArg not hc25))) ?_)
          refine da_op rfl (d_mv (v := .bool (!m26)) rfl ?_)
          rcases Bool.eq_false_or_eq_true m26 with hc31 | hc31
          · skip
            replace hr := bif_t hr hc31
            refine da_on rfl (Eq.trans (show sl _ _ _ = .bool (!m26) from rfl) (congrArg Value.bool (congrArg not hc31))) (d_mv (v := .int .i64 p4) rfl ?_)
            obtain ⟨m32, hm32, hr⟩ := letv_out hr
            have B33 : w29.heap[w.heap.size]? = some (.cells #[.float .f32 p0r0, .float .f32 p0r1, .float .f32 p0r2, .float .f32 p0r3, .float .f32 p0r4, .float .f32 p0r5, .float .f32 p0r6, .float .f32 p0r7, .float .f32 p0r8, .float .f32 p0r9] 32 (0, 0)) := E29.heap B27
            have B34 : w29.heap[w1.heap.size]? = some (.cells #[.float .f32 0, .float .f32 0, .float .f32 0, .float .f32 0, .float .f32 0, .float .f32 0, .float .f32 0, .float .f32 0, .float .f32 0, .float .f32 0] 32 (0, 0)) := E29.heap B28
            refine da_on rfl (Eq.trans (show sl _ _ _ = .bool (!m26) from rfl) (congrArg Value.bool (congrArg not hc31))) (d_cl (vs := [.int .i64 p4]) en22 (ac rfl rfl) rfl ?_)
            refine (c22 p4 m32 w29 hm32 ).mono ?_
            rintro _ w35 ⟨rfl, E35⟩
            refine ⟨_, rfl, ?_⟩
            have X36 : Ext w w35 := X30.trans E35
            refine da_on rfl (Eq.trans (show sl _ _ _ = .bool (!m26) from rfl) (congrArg Value.bool (congrArg not hc31))) (d_not rfl ?_)
            refine da_op rfl (d_pick (b := false) (Eq.trans (show ev _ _ = .bool (!m26) from rfl) (congrArg Value.bool (congrArg not hc31))) ?_)
            refine da_nil ?_
            subst hr
            exact ⟨rfl, (Ext.trans (Ext.trans (Ext.trans (Ext.trans (Ext.trans (Ext.refl w4) E11) E17) E23) E29) E35)⟩
          · skip
            replace hr := bif_f hr hc31
            refine da_off rfl (Eq.trans (show sl _ _ _ = .bool (!m26) from rfl) (congrArg Value.bool (congrArg not hc31))) (by decide) ?_
            refine da_off rfl (Eq.trans (show sl _ _ _ = .bool (!m26) from rfl) (congrArg Value.bool (congrArg not hc31))) (by decide) ?_
            refine da_off rfl (Eq.trans (show sl _ _ _ = .bool (!m26) from rfl) (congrArg Value.bool (congrArg not hc31))) (by decide) ?_
            refine da_op rfl (d_pick (b := true) (Eq.trans (show ev _ _ = .bool (!m26) from rfl) (congrArg Value.bool (congrArg not hc31))) ?_)
            refine da_nil ?_
            subst hr
            exact ⟨rfl, (Ext.trans (Ext.trans (Ext.trans (Ext.trans (Ext.refl w4) E11) E17) E23) E29)⟩
        · skip
          replace hr := bif_f hr hc25
          refine da_off rfl (Eq.trans (show sl _ _ _ = .bool (!m20) from rfl) (congrArg Value.bool (congrArg not hc25))) (by decide) ?_
          refine da_off rfl (Eq.trans (show sl _ _ _ = .bool (!m20) from rfl) (congrArg Value.bool (congrArg not hc25))) (by decide) ?_
          refine da_off rfl (Eq.trans (show sl _ _ _ = .bool (!m20) from rfl) (congrArg Value.bool (congrArg not hc25))) (by decide) ?_
          refine da_op rfl (d_pick (b := true) (Eq.trans (show ev _ _ = .bool (!m20) from rfl) (congrArg Value.bool (congrArg not hc25))) ?_)
          refine da_op rfl (d_mv (v := .bool true) rfl ?_)
          refine da_off rfl rfl (by decide) ?_
          refine da_off rfl rfl (by decide) ?_
          refine da_off rfl rfl (by decide) ?_
          refine da_op rfl (d_pick (b := true) rfl ?_)
          refine da_nil ?_
          subst hr
          exact ⟨rfl, (Ext.trans (Ext.trans (Ext.trans (Ext.refl w4) E11) E17) E23)⟩
      · skip
        replace hr := bif_f hr hc19
        refine da_off rfl (Eq.trans (show sl _ _ _ = .bool (!m14) from rfl) (congrArg Value.bool (congrArg not hc19))) (by decide) ?_
        refine da_off rfl (Eq.trans (show sl _ _ _ = .bool (!m14) from rfl) (congrArg Value.bool (congrArg not hc19))) (by decide) ?_
        refine da_off rfl (Eq.trans (show sl _ _ _ = .bool (!m14) from rfl) (congrArg Value.bool (congrArg not hc19))) (by decide) ?_
        refine da_op rfl (d_pick (b := true) (Eq.trans (show ev _ _ = .bool (!m14) from rfl) (congrArg Value.bool (congrArg not hc19))) ?_)
        refine da_op rfl (d_mv (v := .bool true) rfl ?_)
        refine da_off rfl rfl (by decide) ?_
        refine da_off rfl rfl (by decide) ?_
        refine da_off rfl rfl (by decide) ?_
        refine da_op rfl (d_pick (b := true) rfl ?_)
        refine da_op rfl (d_mv (v := .bool true) rfl ?_)
        refine da_off rfl rfl (by decide) ?_
        refine da_off rfl rfl (by decide) ?_
        refine da_off rfl rfl (by decide) ?_
        refine da_op rfl (d_pick (b := true) rfl ?_)
        refine da_nil ?_
        subst hr
        exact ⟨rfl, (Ext.trans (Ext.trans (Ext.refl w4) E11) E17)⟩
    · skip
      replace hr := bif_f hr hc13
      refine da_off rfl (Eq.trans (show sl _ _ _ = .bool (!m10) from rfl) (congrArg Value.bool (congrArg not hc13))) (by decide) ?_
      refine da_off rfl (Eq.trans (show sl _ _ _ = .bool (!m10) from rfl) (congrArg Value.bool (congrArg not hc13))) (by decide) ?_
      refine da_off rfl (Eq.trans (show sl _ _ _ = .bool (!m10) from rfl) (congrArg Value.bool (congrArg not hc13))) (by decide) ?_
      refine da_op rfl (d_pick (b := true) (Eq.trans (show ev _ _ = .bool (!m10) from rfl) (congrArg Value.bool (congrArg not hc13))) ?_)
      refine da_op rfl (d_mv (v := .bool true) rfl ?_)
      refine da_off rfl rfl (by decide) ?_
      refine da_off rfl rfl (by decide) ?_
      refine da_off rfl rfl (by decide) ?_
      refine da_op rfl (d_pick (b := true) rfl ?_)
      refine da_op rfl (d_mv (v := .bool true) rfl ?_)
      refine da_off rfl rfl (by decide) ?_
      refine da_off rfl rfl (by decide) ?_
      refine da_off rfl rfl (by decide) ?_
      refine da_op rfl (d_pick (b := true) rfl ?_)
      refine da_op rfl (d_mv (v := .bool true) rfl ?_)
      refine da_off rfl rfl (by decide) ?_
      refine da_off rfl rfl (by decide) ?_
      refine da_off rfl rfl (by decide) ?_
      refine da_op rfl (d_pick (b := true) rfl ?_)
      refine da_nil ?_
      subst hr
      exact ⟨rfl, (Ext.trans (Ext.refl w4) E11)⟩
  · skip
    rintro σ8 w8 o8 ⟨s34_8, E8⟩
    have s1_8 : σ8 1 = .float .f32 p1r := (o8 1 rfl).trans rfl
    have s2_8 : σ8 2 = .float .f32 p2r := (o8 2 rfl).trans rfl
    have s3_8 : σ8 3 = .float .f32 p3r := (o8 3 rfl).trans rfl
    have s4_8 : σ8 4 = .int .i64 p4 := (o8 4 rfl).trans rfl
    have s5_8 : σ8 5 = .pointer (some ⟨w.heap.size, 0, none⟩) := (o8 5 rfl).trans rfl
    have s10_8 : σ8 10 = .pointer (some ⟨w1.heap.size, 0, none⟩) := (o8 10 rfl).trans rfl
    have X37 : Ext w w8 := X7.trans E8
    refine W_cond (b := m8) s34_8 (fun hc38 => ?_) (fun hc38 => ?_)
    · skip
      replace hr := bif_t hr hc38
      refine W_seq ?_
      refine W_region rfl ?_
      refine da_op rfl (d_bd (vs := []) (cs := #[.float .f32 0, .float .f32 0, .float .f32 0, .float .f32 0, .float .f32 0, .float .f32 0, .float .f32 0, .float .f32 0, .float .f32 0, .float .f32 0]) rfl (by kernel_rfl) ?_)
      have B39 : w8.heap[w1.heap.size]? = some (.cells #[.float .f32 0, .float .f32 0, .float .f32 0, .float .f32 0, .float .f32 0, .float .f32 0, .float .f32 0, .float .f32 0, .float .f32 0, .float .f32 0] 32 (0, 0)) := E8.heap B4
      refine da_op rfl (d_store (vs := #[.float .f32 0, .float .f32 0, .float .f32 0, .float .f32 0, .float .f32 0, .float .f32 0, .float .f32 0, .float .f32 0, .float .f32 0, .float .f32 0]) s10_8 rfl B39 size32 (Nat.le_of_ble_eq_true rfl) rfl fun w40 S40 => ?_)
      have X41 : Ext w w40 := Ext.step X37 S40.frmb (fun k _ hk => hk ▸ own5)
      have B42 : w40.heap[w1.heap.size]? = some (.cells #[.float .f32 0, .float .f32 0, .float .f32 0, .float .f32 0, .float .f32 0, .float .f32 0, .float .f32 0, .float .f32 0, .float .f32 0, .float .f32 0] 32 (0, 0)) := S40.here
      refine da_op rfl (d_as (v := .slice none 0 0) rfl ?_)
      refine da_op rfl (d_as (v := .bool false) rfl ?_)
      refine da_nil ?_
      refine W_ret ?_
      obtain rfl := Option.some.inj hr
      refine ⟨_, res3 (rv_cells (vs := #[.float .f32 0, .float .f32 0, .float .f32 0, .float .f32 0, .float .f32 0, .float .f32 0, .float .f32 0, .float .f32 0, .float .f32 0, .float .f32 0]) s10_8 agg32 size32 B42 rfl) (rv_tmp rfl) (rv_tmp rfl), ?_⟩
      exact ⟨0, 0, 0, 0, 0, 0, 0, 0, 0, 0, (.slice none 0 0), rfl, cn_f32_0, cn_f32_0, cn_f32_0, cn_f32_0, cn_f32_0, cn_f32_0, cn_f32_0, cn_f32_0, cn_f32_0, cn_f32_0, (OS.nil _ 29 encSVector), (fun k hk => by cases hk), X41⟩
    · skip
      replace hr := bif_f hr hc38
      refine W_skip ?_
      refine W_seq ?_
      refine W_region rfl ?_
      have B43 : w8.heap[w.heap.size]? = some (.cells #[.float .f32 p0r0, .float .f32 p0r1, .float .f32 p0r2, .float .f32 p0r3, .float .f32 p0r4, .float .f32 p0r5, .float .f32 p0r6, .float .f32 p0r7, .float .f32 p0r8, .float .f32 p0r9] 32 (0, 0)) := E8.heap B9
      refine da_op rfl (d_loads (vs := #[.float .f32 p0r0, .float .f32 p0r1, .float .f32 p0r2, .float .f32 p0r3, .float .f32 p0r4, .float .f32 p0r5, .float .f32 p0r6, .float .f32 p0r7, .float .f32 p0r8, .float .f32 p0r9]) s5_8 agg32 size32 B43 rfl ?_)
      refine da_op rfl (d_bd (vs := []) (cs := #[.float .f32 0, .float .f32 0, .float .f32 0]) rfl (by kernel_rfl) ?_)
      refine da_op rfl (d_mv (v := .float .f32 p1r) s1_8 ?_)
      refine da_op rfl (d_mv (v := .float .f32 p2r) s2_8 ?_)
      refine da_op rfl (d_mv (v := .float .f32 p3r) s3_8 ?_)
      refine da_op rfl (d_mv (v := .int .i64 p4) s4_8 ?_)
      obtain ⟨m44, hm44, hr⟩ := bind_out hr
      have B45 : w8.heap[w1.heap.size]? = some (.cells #[.float .f32 0, .float .f32 0, .float .f32 0, .float .f32 0, .float .f32 0, .float .f32 0, .float .f32 0, .float .f32 0, .float .f32 0, .float .f32 0] 32 (0, 0)) := E8.heap B4
      refine da_op rfl (d_cl (vs := [.agg #[.float .f32 p0r0, .float .f32 p0r1, .float .f32 p0r2, .float .f32 p0r3, .float .f32 p0r4, .float .f32 p0r5, .float .f32 p0r6, .float .f32 p0r7, .float .f32 p0r8, .float .f32 p0r9], .agg #[.float .f32 0, .float .f32 0, .float .f32 0], .float .f32 p1r, .float .f32 p2r, .float .f32 p3r, .int .i64 p4, .bool true]) en23 (ac rfl (ac rfl (ac rfl (ac rfl (ac rfl (ac rfl (ac rfl rfl))))))) rfl ?_)
      refine (c23 p0 (⟨0, 0, 0⟩ : SVector) p1 p2 p3 p4 true p0r0 p0r1 p0r2 p0r3 p0r4 p0r5 p0r6 p0r7 p0r8 p0r9 0 0 0 p1r p2r p3r m44 w8 hm44 p0h0 p0h1 p0h2 p0h3 p0h4 p0h5 p0h6 p0h7 p0h8 p0h9 cn_f32_0 cn_f32_0 cn_f32_0 p1h p2h p3h).mono ?_
      rintro _ w46 ⟨q46_0r0, q46_0r1, q46_0r2, q46_0r3, q46_0r4, q46_0r5, q46_0r6, q46_0r7, q46_0r8, q46_0r9, q46_1v, rfl, q46_0h0, q46_0h1, q46_0h2, q46_0h3, q46_0h4, q46_0h5, q46_0h6, q46_0h7, q46_0h8, q46_0h9, q46_1R, q46_1F, E46⟩
      refine ⟨_, rfl, ?_⟩
      have own47 : ∀ k, q46_1v.ownBlock = some k → w.heap.size ≤ k := fun k hk => Nat.le_trans X37.size (q46_1F k hk)
      have sp48 : ¬ q46_1v.ownBlock = some w.heap.size := ne_fresh q46_1F (lt_heap B43)
      have sp49 : ¬ q46_1v.ownBlock = some w1.heap.size := ne_fresh q46_1F (lt_heap B45)
      have X50 : Ext w w46 := X37.trans E46
      refine da_op rfl (d_extract (v := .agg #[.float .f32 q46_0r0, .float .f32 q46_0r1, .float .f32 q46_0r2, .float .f32 q46_0r3, .float .f32 q46_0r4, .float .f32 q46_0r5, .float .f32 q46_0r6, .float .f32 q46_0r7, .float .f32 q46_0r8, .float .f32 q46_0r9]) rfl rfl ?_)
      refine da_op rfl (d_extract (v := q46_1v) rfl rfl ?_)
      refine da_op rfl (d_extract (v := .bool m44.2.2) rfl rfl ?_)
      have B51 : w46.heap[w1.heap.size]? = some (.cells #[.float .f32 0, .float .f32 0, .float .f32 0, .float .f32 0, .float .f32 0, .float .f32 0, .float .f32 0, .float .f32 0, .float .f32 0, .float .f32 0] 32 (0, 0)) := E46.heap B45
      refine da_op rfl (d_store (vs := #[.float .f32 q46_0r0, .float .f32 q46_0r1, .float .f32 q46_0r2, .float .f32 q46_0r3, .float .f32 q46_0r4, .float .f32 q46_0r5, .float .f32 q46_0r6, .float .f32 q46_0r7, .float .f32 q46_0r8, .float .f32 q46_0r9]) s10_8 rfl B51 size32 (Nat.le_of_ble_eq_true rfl) rfl fun w52 S52 => ?_)
      have X53 : Ext w w52 := Ext.step X50 S52.frmb (fun k _ hk => hk ▸ own5)
      have B54 : w52.heap[w1.heap.size]? = some (.cells #[.float .f32 q46_0r0, .float .f32 q46_0r1, .float .f32 q46_0r2, .float .f32 q46_0r3, .float .f32 q46_0r4, .float .f32 q46_0r5, .float .f32 q46_0r6, .float .f32 q46_0r7, .float .f32 q46_0r8, .float .f32 q46_0r9] 32 (0, 0)) := S52.here
      refine da_op rfl (d_as (v := q46_1v) rfl ?_)
      refine da_op rfl (d_as (v := .bool m44.2.2) rfl ?_)
      refine da_nil ?_
      refine W_ret ?_
      have B55 : OS w52 29 encSVector q46_1v m44.2.1 := q46_1R.frm S52.frmb (rb sp49)
      obtain rfl := Option.some.inj hr
      refine ⟨_, res3 (rv_cells (vs := #[.float .f32 q46_0r0, .float .f32 q46_0r1, .float .f32 q46_0r2, .float .f32 q46_0r3, .float .f32 q46_0r4, .float .f32 q46_0r5, .float .f32 q46_0r6, .float .f32 q46_0r7, .float .f32 q46_0r8, .float .f32 q46_0r9]) s10_8 agg32 size32 B54 rfl) (rv_tmp rfl) (rv_tmp rfl), ?_⟩
      exact ⟨q46_0r0, q46_0r1, q46_0r2, q46_0r3, q46_0r4, q46_0r5, q46_0r6, q46_0r7, q46_0r8, q46_0r9, q46_1v, rfl, q46_0h0, q46_0h1, q46_0h2, q46_0h3, q46_0h4, q46_0h5, q46_0h6, q46_0h7, q46_0h8, q46_0h9, B55, own47, X53⟩
set_option maxHeartbeats 4000000 in
theorem c65 (p0 : SSpin) (p0r0 : Nat) (p0r1 : Nat) (p0r2 : Nat) (p0r3 : Nat) (r : SSpin) (w : World) (hr : M.impl_BackSpin p0 = r) (p0h0 : cn .f32 p0r0 = p0.w) (p0h1 : cn .f32 p0r1 = p0.x) (p0h2 : cn .f32 p0r2 = p0.y) (p0h3 : cn .f32 p0r3 = p0.z) :
    Calls Try.prog 65 #[.agg #[.float .f32 p0r0, .float .f32 p0r1, .float .f32 p0r2, .float .f32 p0r3]] w fun e w' => ∃ q0r0 : Nat, ∃ q0r1 : Nat, ∃ q0r2 : Nat, ∃ q0r3 : Nat, e = .returned (.agg #[.float .f32 q0r0, .float .f32 q0r1, .float .f32 q0r2, .float .f32 q0r3]) ∧ cn .f32 q0r0 = r.w ∧ cn .f32 q0r1 = r.x ∧ cn .f32 q0r2 = r.y ∧ cn .f32 q0r3 = r.z ∧ Ext w w' := by
  refine calls_of_W Try.func65 rfl (Nat.le_of_ble_eq_true rfl) ?_
  refine W_seq ?_
  refine W_region rfl ?_
  refine da_op rfl (d_box (cs := #[.float .f32 p0r0, .float .f32 p0r1, .float .f32 p0r2, .float .f32 p0r3]) rfl fun w1 B1 E1 => ?_)
  have own2 : w.heap.size ≤ w.heap.size := Nat.le_trans (Ext.refl w).size (Nat.le_refl _)
  have X3 : Ext w w1 := (Ext.refl w).trans E1
  refine da_op rfl (d_alloc (cs := #[.float .f32 0, .float .f32 0, .float .f32 0, .float .f32 0]) zero30 rfl fun w4 B4 E4 => ?_)
  have own5 : w.heap.size ≤ w1.heap.size := Nat.le_trans X3.size (Nat.le_refl _)
  have sp6 : w.heap.size ≠ w1.heap.size := Nat.ne_of_lt (Nat.lt_of_lt_of_le (lt_heap B1) (Nat.le_refl _))
  have X7 : Ext w w4 := X3.trans E4
  refine da_nil ?_
  refine W_seq ?_
  refine W_region rfl ?_
  refine da_op rfl (d_fieldAddr rfl (fa30_0 _ _) ?_)
  have B8 : w4.heap[w.heap.size]? = some (.cells #[.float .f32 p0r0, .float .f32 p0r1, .float .f32 p0r2, .float .f32 p0r3] 30 (0, 0)) := E4.heap B1
  refine da_op rfl (d_load (v := .float .f32 p0r0) rfl agg22 B8 rfl ?_)
  refine da_op rfl (d_fieldAddr rfl (fa30_1 _ _) ?_)
  refine da_op rfl (d_load (v := .float .f32 p0r1) rfl agg22 B8 rfl ?_)
  refine da_op rfl (d_fneg (k := .f32) rfl p0h1 fun r9 h9 _ => ?_)
  refine da_op rfl (d_fieldAddr rfl (fa30_2 _ _) ?_)
  refine da_op rfl (d_load (v := .float .f32 p0r2) rfl agg22 B8 rfl ?_)
  refine da_op rfl (d_fneg (k := .f32) rfl p0h2 fun r10 h10 _ => ?_)
  refine da_op rfl (d_fieldAddr rfl (fa30_3 _ _) ?_)
  refine da_op rfl (d_load (v := .float .f32 p0r3) rfl agg22 B8 rfl ?_)
  refine da_op rfl (d_fneg (k := .f32) rfl p0h3 fun r11 h11 _ => ?_)
  refine da_op rfl (d_bd (vs := [(0, .float .f32 p0r0), (1, .float .f32 r9), (2, .float .f32 r10), (3, .float .f32 r11)]) (cs := #[.float .f32 p0r0, .float .f32 r9, .float .f32 r10, .float .f32 r11]) (pc rfl (pc rfl (pc rfl (pc rfl rfl)))) (by kernel_rfl) ?_)
  refine da_op rfl (d_store (vs := #[.float .f32 p0r0, .float .f32 r9, .float .f32 r10, .float .f32 r11]) rfl rfl B4 size30 (Nat.le_of_ble_eq_true rfl) rfl fun w12 S12 => ?_)
  have X13 : Ext w w12 := Ext.step X7 S12.frmb (fun k _ hk => hk ▸ own5)
  have B14 : w12.heap[w1.heap.size]? = some (.cells #[.float .f32 p0r0, .float .f32 r9, .float .f32 r10, .float .f32 r11] 30 (0, 0)) := S12.here
  refine da_nil ?_
  refine W_ret ?_
  subst hr
  refine ⟨_, res1 (rv_cells (vs := #[.float .f32 p0r0, .float .f32 r9, .float .f32 r10, .float .f32 r11]) rfl agg30 size30 B14 rfl), ?_⟩
  exact ⟨p0r0, r9, r10, r11, rfl, p0h0, h9, h10, h11, X13⟩
set_option maxHeartbeats 4000000 in
theorem c62 (p0 : SVector) (p0r0 : Nat) (p0r1 : Nat) (p0r2 : Nat) (r : SVector × Bool) (w : World) (hr : M.impl_toldVector p0 = some r) (p0h0 : cn .f32 p0r0 = p0.x) (p0h1 : cn .f32 p0r1 = p0.y) (p0h2 : cn .f32 p0r2 = p0.z) :
    Calls Try.prog 62 #[.agg #[.float .f32 p0r0, .float .f32 p0r1, .float .f32 p0r2]] w fun e w' => ∃ q0r0 : Nat, ∃ q0r1 : Nat, ∃ q0r2 : Nat, e = .returned (.tuple #[.agg #[.float .f32 q0r0, .float .f32 q0r1, .float .f32 q0r2], .bool r.2]) ∧ cn .f32 q0r0 = r.1.x ∧ cn .f32 q0r1 = r.1.y ∧ cn .f32 q0r2 = r.1.z ∧ Ext w w' := by
  refine calls_of_W Try.func62 rfl (Nat.le_of_ble_eq_true rfl) ?_
  refine W_seq ?_
  refine W_region rfl ?_
  refine da_op rfl (d_box (cs := #[.float .f32 p0r0, .float .f32 p0r1, .float .f32 p0r2]) rfl fun w1 B1 E1 => ?_)
  have own2 : w.heap.size ≤ w.heap.size := Nat.le_trans (Ext.refl w).size (Nat.le_refl _)
  have X3 : Ext w w1 := (Ext.refl w).trans E1
  refine da_op rfl (d_alloc (cs := #[.float .f32 0, .float .f32 0, .float .f32 0]) zero29 rfl fun w4 B4 E4 => ?_)
  have own5 : w.heap.size ≤ w1.heap.size := Nat.le_trans X3.size (Nat.le_refl _)
  have sp6 : w.heap.size ≠ w1.heap.size := Nat.ne_of_lt (Nat.lt_of_lt_of_le (lt_heap B1) (Nat.le_refl _))
  have X7 : Ext w w4 := X3.trans E4
  refine da_op rfl (d_as (v := .bool false) rfl ?_)
  refine da_nil ?_
  refine W_seq ?_
  refine W_seq ?_
  refine W_region rfl ?_
  have B8 : w4.heap[w.heap.size]? = some (.cells #[.float .f32 p0r0, .float .f32 p0r1, .float .f32 p0r2] 29 (0, 0)) := E4.heap B1
  refine da_op rfl (d_loads (vs := #[.float .f32 p0r0, .float .f32 p0r1, .float .f32 p0r2]) rfl agg29 size29 B8 rfl ?_)
  obtain ⟨m9, hm9, hr⟩ := bind_out hr
  refine da_op rfl (d_cl (vs := [.agg #[.float .f32 p0r0, .float .f32 p0r1, .float .f32 p0r2]]) en25 (ac rfl rfl) rfl ?_)
  refine (c25 p0 p0r0 p0r1 p0r2 m9 w4 hm9 p0h0 p0h1 p0h2).mono ?_
  rintro _ w10 ⟨rfl, E10⟩
  refine ⟨_, rfl, ?_⟩
  have X11 : Ext w w10 := X7.trans E10
  refine da_op rfl (d_not rfl ?_)
  refine da_nil ?_
  refine W_cond (b := (!m9)) rfl (fun hc12 => ?_) (fun hc12 => ?_)
  · skip
    replace hr := bif_t hr hc12
    refine W_seq ?_
    refine W_region rfl ?_
    refine da_op rfl (d_bd (vs := []) (cs := #[.float .f32 0, .float .f32 0, .float .f32 0]) rfl (by kernel_rfl) ?_)
    have B13 : w10.heap[w1.heap.size]? = some (.cells #[.float .f32 0, .float .f32 0, .float .f32 0] 29 (0, 0)) := E10.heap B4
    refine da_op rfl (d_store (vs := #[.float .f32 0, .float .f32 0, .float .f32 0]) rfl rfl B13 size29 (Nat.le_of_ble_eq_true rfl) rfl fun w14 S14 => ?_)
    have X15 : Ext w w14 := Ext.step X11 S14.frmb (fun k _ hk => hk ▸ own5)
    have B16 : w14.heap[w1.heap.size]? = some (.cells #[.float .f32 0, .float .f32 0, .float .f32 0] 29 (0, 0)) := S14.here
    refine da_op rfl (d_as (v := .bool false) rfl ?_)
    refine da_nil ?_
    refine W_ret ?_
    obtain rfl := Option.some.inj hr
    refine ⟨_, res2 (rv_cells (vs := #[.float .f32 0, .float .f32 0, .float .f32 0]) rfl agg29 size29 B16 rfl) (rv_tmp rfl), ?_⟩
    exact ⟨0, 0, 0, rfl, cn_f32_0, cn_f32_0, cn_f32_0, X15⟩
  · skip
    replace hr := bif_f hr hc12
    refine W_skip ?_
    refine W_seq ?_
    refine W_region rfl ?_
    have B17 : w10.heap[w.heap.size]? = some (.cells #[.float .f32 p0r0, .float .f32 p0r1, .float .f32 p0r2] 29 (0, 0)) := E10.heap B8
    refine da_op rfl (d_loads (vs := #[.float .f32 p0r0, .float .f32 p0r1, .float .f32 p0r2]) rfl agg29 size29 B17 rfl ?_)
    have B18 : w10.heap[w1.heap.size]? = some (.cells #[.float .f32 0, .float .f32 0, .float .f32 0] 29 (0, 0)) := E10.heap B4
    refine da_op rfl (d_store (vs := #[.float .f32 p0r0, .float .f32 p0r1, .float .f32 p0r2]) rfl rfl B18 size29 (Nat.le_of_ble_eq_true rfl) rfl fun w19 S19 => ?_)
    have X20 : Ext w w19 := Ext.step X11 S19.frmb (fun k _ hk => hk ▸ own5)
    have B21 : w19.heap[w1.heap.size]? = some (.cells #[.float .f32 p0r0, .float .f32 p0r1, .float .f32 p0r2] 29 (0, 0)) := S19.here
    refine da_op rfl (d_as (v := .bool true) rfl ?_)
    refine da_nil ?_
    refine W_ret ?_
    obtain rfl := Option.some.inj hr
    refine ⟨_, res2 (rv_cells (vs := #[.float .f32 p0r0, .float .f32 p0r1, .float .f32 p0r2]) rfl agg29 size29 B21 rfl) (rv_tmp rfl), ?_⟩
    exact ⟨p0r0, p0r1, p0r2, rfl, p0h0, p0h1, p0h2, X20⟩
set_option maxHeartbeats 4000000 in
theorem c34 (p0 : STop) (p1 : Nat) (p2 : Nat) (p0r0 : Nat) (p0r1 : Nat) (p0r2 : Nat) (p0r3 : Nat) (p0r4 : Nat) (p0r5 : Nat) (p0r6 : Nat) (p0r7 : Nat) (p0r8 : Nat) (p0r9 : Nat) (p1r : Nat) (p2r : Nat) (r : SVector × Bool) (w : World) (hr : M.impl_HeavyTorque p0 p1 p2 = some r) (p0h0 : cn .f32 p0r0 = p0.moments.x) (p0h1 : cn .f32 p0r1 = p0.moments.y) (p0h2 : cn .f32 p0r2 = p0.moments.z) (p0h3 : cn .f32 p0r3 = p0.turn.w) (p0h4 : cn .f32 p0r4 = p0.turn.x) (p0h5 : cn .f32 p0r5 = p0.turn.y) (p0h6 : cn .f32 p0r6 = p0.turn.z) (p0h7 : cn .f32 p0r7 = p0.speed.x) (p0h8 : cn .f32 p0r8 = p0.speed.y) (p0h9 : cn .f32 p0r9 = p0.speed.z) (p1h : cn .f32 p1r = p1) (p2h : cn .f32 p2r = p2) :
    Calls Try.prog 34 #[.agg #[.float .f32 p0r0, .float .f32 p0r1, .float .f32 p0r2, .float .f32 p0r3, .float .f32 p0r4, .float .f32 p0r5, .float .f32 p0r6, .float .f32 p0r7, .float .f32 p0r8, .float .f32 p0r9], .float .f32 p1r, .float .f32 p2r] w fun e w' => ∃ q0r0 : Nat, ∃ q0r1 : Nat, ∃ q0r2 : Nat, e = .returned (.tuple #[.agg #[.float .f32 q0r0, .float .f32 q0r1, .float .f32 q0r2], .bool r.2]) ∧ cn .f32 q0r0 = r.1.x ∧ cn .f32 q0r1 = r.1.y ∧ cn .f32 q0r2 = r.1.z ∧ Ext w w' := by
  refine calls_of_W Try.func34 rfl (Nat.le_of_ble_eq_true rfl) ?_
  refine W_seq ?_
  refine W_region rfl ?_
  refine da_op rfl (d_box (cs := #[.float .f32 p0r0, .float .f32 p0r1, .float .f32 p0r2, .float .f32 p0r3, .float .f32 p0r4, .float .f32 p0r5, .float .f32 p0r6, .float .f32 p0r7, .float .f32 p0r8, .float .f32 p0r9]) rfl fun w1 B1 E1 => ?_)
  have own2 : w.heap.size ≤ w.heap.size := Nat.le_trans (Ext.refl w).size (Nat.le_refl _)
  have X3 : Ext w w1 := (Ext.refl w).trans E1
  refine da_op rfl (d_alloc (cs := #[.float .f32 0, .float .f32 0, .float .f32 0]) zero29 rfl fun w4 B4 E4 => ?_)
  have own5 : w.heap.size ≤ w1.heap.size := Nat.le_trans X3.size (Nat.le_refl _)
  have sp6 : w.heap.size ≠ w1.heap.size := Nat.ne_of_lt (Nat.lt_of_lt_of_le (lt_heap B1) (Nat.le_refl _))
  have X7 : Ext w w4 := X3.trans E4
  refine da_op rfl (d_as (v := .bool false) rfl ?_)
  refine da_nil ?_
  refine W_seq ?_
  refine W_seq ?_
  have B9 : w4.heap[w.heap.size]? = some (.cells #[.float .f32 p0r0, .float .f32 p0r1, .float .f32 p0r2, .float .f32 p0r3, .float .f32 p0r4, .float .f32 p0r5, .float .f32 p0r6, .float .f32 p0r7, .float .f32 p0r8, .float .f32 p0r9] 32 (0, 0)) := E4.heap B1
  obtain ⟨m8, hm8, hr⟩ := bind_out hr
  refine W_cut (fun σ' w' => σ' 17 = .bool m8 ∧ Ext w4 w') rfl ?_ ?_
  · skip
    have hr := hm8
    refine da_op rfl (d_loads (vs := #[.float .f32 p0r0, .float .f32 p0r1, .float .f32 p0r2, .float .f32 p0r3, .float .f32 p0r4, .float .f32 p0r5, .float .f32 p0r6, .float .f32 p0r7, .float .f32 p0r8, .float .f32 p0r9]) rfl agg32 size32 B9 rfl ?_)
    obtain ⟨m10, hm10, hr⟩ := bind_out hr
    refine da_op rfl (d_cl (vs := [.agg #[.float .f32 p0r0, .float .f32 p0r1, .float .f32 p0r2, .float .f32 p0r3, .float .f32 p0r4, .float .f32 p0r5, .float .f32 p0r6, .float .f32 p0r7, .float .f32 p0r8, .float .f32 p0r9]]) en52 (ac rfl rfl) rfl ?_)
    refine (c52 p0 p0r0 p0r1 p0r2 p0r3 p0r4 p0r5 p0r6 p0r7 p0r8 p0r9 m10 w4 hm10 p0h0 p0h1 p0h2 p0h3 p0h4 p0h5 p0h6 p0h7 p0h8 p0h9).mono ?_
    rintro _ w11 ⟨rfl, E11⟩
    refine ⟨_, rfl, ?_⟩
    have X12 : Ext w w11 := X7.trans E11
    refine da_op rfl (d_not rfl ?_)
    refine da_op rfl (d_mv (v := .bool (!m10)) rfl ?_)
    rcases Bool.eq_false_or_eq_true m10 with hc13 | hc13
    · skip
      replace hr := bif_t hr hc13
      refine da_on rfl (Eq.trans (show sl _ _ _ = .bool (!m10) from rfl) (congrArg Value.bool (congrArg not hc13))) (d_mv (v := .float .f32 p1r) rfl ?_)
      refine da_on rfl (Eq.trans (show sl _ _ _ = .bool (!m10) from rfl) (congrArg Value.bool (congrArg not hc13))) (d_mv (v := .float .f32 p2r) rfl ?_)
      have B15 : w11.heap[w.heap.size]? = some (.cells #[.float .f32 p0r0, .float .f32 p0r1, .float .f32 p0r2, .float .f32 p0r3, .float .f32 p0r4, .float .f32 p0r5, .float .f32 p0r6, .float .f32 p0r7, .float .f32 p0r8, .float .f32 p0r9] 32 (0, 0)) := E11.heap B9
      have B16 : w11.heap[w1.heap.size]? = some (.cells #[.float .f32 0, .float .f32 0, .float .f32 0] 29 (0, 0)) := E11.heap B4
      refine da_on rfl (Eq.trans (show sl _ _ _ = .bool (!m10) from rfl) (congrArg Value.bool (congrArg not hc13))) (d_bslice (vs := [(0, .float .f32 p1r), (1, .float .f32 p2r)]) (cs := #[.float .f32 p1r, .float .f32 p2r]) un48 (pc rfl (pc rfl rfl)) (by kernel_rfl) fun w14 B14 E14 => ?_)
      have fr14 : ∀ k, (Value.slice (some ⟨w11.heap.size, 0, none⟩) 2 2).ownBlock = some k → w11.heap.size ≤ k := fun k hk => by cases hk; exact Nat.le_refl _
      have own14 : ∀ k, (Value.slice (some ⟨w11.heap.size, 0, none⟩) 2 2).ownBlock = some k → w.heap.size ≤ k := fun k hk => Nat.le_trans X12.size (fr14 k hk)
      have sp17 : ¬ (Value.slice (some ⟨w11.heap.size, 0, none⟩) 2 2).ownBlock = some w.heap.size := ne_fresh fr14 (lt_heap B15)
      have sp18 : ¬ (Value.slice (some ⟨w11.heap.size, 0, none⟩) 2 2).ownBlock = some w1.heap.size := ne_fresh fr14 (lt_heap B16)
      have X19 : Ext w w14 := X12.trans E14
      have O14 : OS w14 22 encF_f32 (Value.slice (some ⟨w11.heap.size, 0, none⟩) 2 2) [p1, p2] := OS.box (xs := [p1, p2]) B14 (lc_f p1h (lc_f p2h rfl)) (Nat.le_of_ble_eq_true rfl)
      obtain ⟨m20, hm20, hr⟩ := bind_out hr
      have B21 : w14.heap[w.heap.size]? = some (.cells #[.float .f32 p0r0, .float .f32 p0r1, .float .f32 p0r2, .float .f32 p0r3, .float .f32 p0r4, .float .f32 p0r5, .float .f32 p0r6, .float .f32 p0r7, .float .f32 p0r8, .float .f32 p0r9] 32 (0, 0)) := E14.heap B15
      have B22 : w14.heap[w1.heap.size]? = some (.cells #[.float .f32 0, .float .f32 0, .float .f32 0] 29 (0, 0)) := E14.heap B16
      refine da_on rfl (Eq.trans (show sl _ _ _ = .bool (!m10) from rfl) (congrArg Value.bool (congrArg not hc13))) (d_cl (vs := [(Value.slice (some ⟨w11.heap.size, 0, none⟩) 2 2)]) en32 (ac rfl rfl) rfl ?_)
      refine (c32 ([p1, p2]) (Value.slice (some ⟨w11.heap.size, 0, none⟩) 2 2) m20 w14 hm20 O14.rs).mono ?_
      rintro _ w23 ⟨rfl, E23⟩
      refine ⟨_, rfl, ?_⟩
      have X24 : Ext w w23 := X19.trans E23
      refine da_on rfl (Eq.trans (show sl _ _ _ = .bool (!m10) from rfl) (congrArg Value.bool (congrArg not hc13))) (d_not rfl ?_)
      refine da_op rfl (d_pick (b := false) (Eq.trans (show ev _ _ = .bool (!m10) from rfl) (congrArg Value.bool (congrArg not hc13))) ?_)
      refine da_nil ?_
      obtain rfl := Option.some.inj hr
      exact ⟨rfl, (Ext.trans (Ext.trans (Ext.trans (Ext.refl w4) E11) E14) E23)⟩
    · skip
      replace hr := bif_f hr hc13
      refine da_off rfl (Eq.trans (show sl _ _ _ = .bool (!m10) from rfl) (congrArg Value.bool (congrArg not hc13))) (by decide) ?_
      refine da_off rfl (Eq.trans (show sl _ _ _ = .bool (!m10) from rfl) (congrArg Value.bool (congrArg not hc13))) (by decide) ?_
      refine da_off rfl (Eq.trans (show sl _ _ _ = .bool (!m10) from rfl) (congrArg Value.bool (congrArg not hc13))) (by decide) ?_
      refine da_off rfl (Eq.trans (show sl _ _ _ = .bool (!m10) from rfl) (congrArg Value.bool (congrArg not hc13))) (by decide) ?_
      refine da_off rfl (Eq.trans (show sl _ _ _ = .bool (!m10) from rfl) (congrArg Value.bool (congrArg not hc13))) (by decide) ?_
      refine da_op rfl (d_pick (b := true) (Eq.trans (show ev _ _ = .bool (!m10) from rfl) (congrArg Value.bool (congrArg not hc13))) ?_)
      refine da_nil ?_
      obtain rfl := Option.some.inj hr
      exact ⟨rfl, (Ext.trans (Ext.refl w4) E11)⟩
  · skip
    rintro σ8 w8 o8 ⟨s17_8, E8⟩
    have s1_8 : σ8 1 = .float .f32 p1r := (o8 1 rfl).trans rfl
    have s2_8 : σ8 2 = .float .f32 p2r := (o8 2 rfl).trans rfl
    have s3_8 : σ8 3 = .pointer (some ⟨w.heap.size, 0, none⟩) := (o8 3 rfl).trans rfl
    have s6_8 : σ8 6 = .pointer (some ⟨w1.heap.size, 0, none⟩) := (o8 6 rfl).trans rfl
    have X25 : Ext w w8 := X7.trans E8
    refine W_cond (b := m8) s17_8 (fun hc26 => ?_) (fun hc26 => ?_)
    · skip
      replace hr := bif_t hr hc26
      refine W_seq ?_
      refine W_region rfl ?_
      refine da_op rfl (d_bd (vs := []) (cs := #[.float .f32 0, .float .f32 0, .float .f32 0]) rfl (by kernel_rfl) ?_)
      have B27 : w8.heap[w1.heap.size]? = some (.cells #[.float .f32 0, .float .f32 0, .float .f32 0] 29 (0, 0)) := E8.heap B4
      refine da_op rfl (d_store (vs := #[.float .f32 0, .float .f32 0, .float .f32 0]) s6_8 rfl B27 size29 (Nat.le_of_ble_eq_true rfl) rfl fun w28 S28 => ?_)
      have X29 : Ext w w28 := Ext.step X25 S28.frmb (fun k _ hk => hk ▸ own5)
      have B30 : w28.heap[w1.heap.size]? = some (.cells #[.float .f32 0, .float .f32 0, .float .f32 0] 29 (0, 0)) := S28.here
      refine da_op rfl (d_as (v := .bool false) rfl ?_)
      refine da_nil ?_
      refine W_ret ?_
      obtain rfl := Option.some.inj hr
      refine ⟨_, res2 (rv_cells (vs := #[.float .f32 0, .float .f32 0, .float .f32 0]) s6_8 agg29 size29 B30 rfl) (rv_tmp rfl), ?_⟩
      exact ⟨0, 0, 0, rfl, cn_f32_0, cn_f32_0, cn_f32_0, X29⟩
    · skip
      replace hr := bif_f hr hc26
      refine W_skip ?_
      refine W_seq ?_
      refine W_region rfl ?_
      refine da_op rfl (d_mv (v := .float .f32 p1r) s1_8 ?_)
      refine da_op rfl (d_bd (vs := [(0, .float .f32 0), (1, .float .f32 0), (2, .float .f32 p1r)]) (cs := #[.float .f32 0, .float .f32 0, .float .f32 p1r]) (pc rfl (pc rfl (pc rfl rfl))) (by kernel_rfl) ?_)
      refine da_op rfl (d_fieldAddr s3_8 (fa32_1 _ _) ?_)
      have B31 : w8.heap[w.heap.size]? = some (.cells #[.float .f32 p0r0, .float .f32 p0r1, .float .f32 p0r2, .float .f32 p0r3, .float .f32 p0r4, .float .f32 p0r5, .float .f32 p0r6, .float .f32 p0r7, .float .f32 p0r8, .float .f32 p0r9] 32 (0, 0)) := E8.heap B9
      refine da_op rfl (d_loads (vs := #[.float .f32 p0r3, .float .f32 p0r4, .float .f32 p0r5, .float .f32 p0r6]) rfl agg30 size30 B31 rfl ?_)
      obtain ⟨m32, hm32, hr⟩ := letv_out hr
      have B33 : w8.heap[w1.heap.size]? = some (.cells #[.float .f32 0, .float .f32 0, .float .f32 0] 29 (0, 0)) := E8.heap B4
      refine da_op rfl (d_cl (vs := [.agg #[.float .f32 p0r3, .float .f32 p0r4, .float .f32 p0r5, .float .f32 p0r6]]) en65 (ac rfl rfl) rfl ?_)
      refine (c65 (⟨p0.turn.w, p0.turn.x, p0.turn.y, p0.turn.z⟩ : SSpin) p0r3 p0r4 p0r5 p0r6 m32 w8 hm32 p0h3 p0h4 p0h5 p0h6).mono ?_
      rintro _ w34 ⟨q34_0r0, q34_0r1, q34_0r2, q34_0r3, rfl, q34_0h0, q34_0h1, q34_0h2, q34_0h3, E34⟩
      refine ⟨_, rfl, ?_⟩
      have X35 : Ext w w34 := X25.trans E34
      refine da_op rfl (d_mv (v := .float .f32 p2r) s2_8 ?_)
      refine da_op rfl (d_fneg (k := .f32) rfl p2h fun r36 h36 _ => ?_)
      refine da_op rfl (d_bd (vs := [(0, .float .f32 0), (1, .float .f32 0), (2, .float .f32 r36)]) (cs := #[.float .f32 0, .float .f32 0, .float .f32 r36]) (pc rfl (pc rfl (pc rfl rfl))) (by kernel_rfl) ?_)
      obtain ⟨m37, hm37, hr⟩ := letv_out hr
      have B38 : w34.heap[w.heap.size]? = some (.cells #[.float .f32 p0r0, .float .f32 p0r1, .float .f32 p0r2, .float .f32 p0r3, .float .f32 p0r4, .float .f32 p0r5, .float .f32 p0r6, .float .f32 p0r7, .float .f32 p0r8, .float .f32 p0r9] 32 (0, 0)) := E34.heap B31
      have B39 : w34.heap[w1.heap.size]? = some (.cells #[.float .f32 0, .float .f32 0, .float .f32 0] 29 (0, 0)) := E34.heap B33
      refine da_op rfl (d_cl (vs := [.agg #[.float .f32 q34_0r0, .float .f32 q34_0r1, .float .f32 q34_0r2, .float .f32 q34_0r3], .agg #[.float .f32 0, .float .f32 0, .float .f32 r36]]) en64 (ac rfl (ac rfl rfl)) rfl ?_)
      refine (c64 m32 (⟨0, 0, (fneg .f32 p2)⟩ : SVector) q34_0r0 q34_0r1 q34_0r2 q34_0r3 0 0 r36 m37 w34 hm37 q34_0h0 q34_0h1 q34_0h2 q34_0h3 cn_f32_0 cn_f32_0 h36).mono ?_
      rintro _ w40 ⟨q40_0r0, q40_0r1, q40_0r2, rfl, q40_0h0, q40_0h1, q40_0h2, E40⟩
      refine ⟨_, rfl, ?_⟩
      have X41 : Ext w w40 := X35.trans E40
      obtain ⟨m42, hm42, hr⟩ := letv_out hr
      have B43 : w40.heap[w.heap.size]? = some (.cells #[.float .f32 p0r0, .float .f32 p0r1, .float .f32 p0r2, .float .f32 p0r3, .float .f32 p0r4, .float .f32 p0r5, .float .f32 p0r6, .float .f32 p0r7, .float .f32 p0r8, .float .f32 p0r9] 32 (0, 0)) := E40.heap B38
      have B44 : w40.heap[w1.heap.size]? = some (.cells #[.float .f32 0, .float .f32 0, .float .f32 0] 29 (0, 0)) := E40.heap B39
      refine da_op rfl (d_cl (vs := [.agg #[.float .f32 0, .float .f32 0, .float .f32 p1r], .agg #[.float .f32 q40_0r0, .float .f32 q40_0r1, .float .f32 q40_0r2]]) en63 (ac rfl (ac rfl rfl)) rfl ?_)
      refine (c63 (⟨0, 0, p1⟩ : SVector) m37 0 0 p1r q40_0r0 q40_0r1 q40_0r2 m42 w40 hm42 cn_f32_0 cn_f32_0 p1h q40_0h0 q40_0h1 q40_0h2).mono ?_
      rintro _ w45 ⟨q45_0r0, q45_0r1, q45_0r2, rfl, q45_0h0, q45_0h1, q45_0h2, E45⟩
      refine ⟨_, rfl, ?_⟩
      have X46 : Ext w w45 := X41.trans E45
      obtain ⟨m47, hm47, hr⟩ := bind_out hr
      have B48 : w45.heap[w.heap.size]? = some (.cells #[.float .f32 p0r0, .float .f32 p0r1, .float .f32 p0r2, .float .f32 p0r3, .float .f32 p0r4, .float .f32 p0r5, .float .f32 p0r6, .float .f32 p0r7, .float .f32 p0r8, .float .f32 p0r9] 32 (0, 0)) := E45.heap B43
      have B49 : w45.heap[w1.heap.size]? = some (.cells #[.float .f32 0, .float .f32 0, .float .f32 0] 29 (0, 0)) := E45.heap B44
      refine da_op rfl (d_cl (vs := [.agg #[.float .f32 q45_0r0, .float .f32 q45_0r1, .float .f32 q45_0r2]]) en62 (ac rfl rfl) rfl ?_)
      refine (c62 m42 q45_0r0 q45_0r1 q45_0r2 m47 w45 hm47 q45_0h0 q45_0h1 q45_0h2).mono ?_
      rintro _ w50 ⟨q50_0r0, q50_0r1, q50_0r2, rfl, q50_0h0, q50_0h1, q50_0h2, E50⟩
      refine ⟨_, rfl, ?_⟩
      have X51 : Ext w w50 := X46.trans E50
      refine da_op rfl (d_extract (v := .agg #[.float .f32 q50_0r0, .float .f32 q50_0r1, .float .f32 q50_0r2]) rfl rfl ?_)
      refine da_op rfl (d_extract (v := .bool m47.2) rfl rfl ?_)
      have B52 : w50.heap[w1.heap.size]? = some (.cells #[.float .f32 0, .float .f32 0, .float .f32 0] 29 (0, 0)) := E50.heap B49
      refine da_op rfl (d_store (vs := #[.float .f32 q50_0r0, .float .f32 q50_0r1, .float .f32 q50_0r2]) s6_8 rfl B52 size29 (Nat.le_of_ble_eq_true rfl) rfl fun w53 S53 => ?_)
      have X54 : Ext w w53 := Ext.step X51 S53.frmb (fun k _ hk => hk ▸ own5)
      have B55 : w53.heap[w1.heap.size]? = some (.cells #[.float .f32 q50_0r0, .float .f32 q50_0r1, .float .f32 q50_0r2] 29 (0, 0)) := S53.here
      refine da_op rfl (d_as (v := .bool m47.2) rfl ?_)
      refine da_nil ?_
      refine W_ret ?_
      obtain rfl := Option.some.inj hr
      refine ⟨_, res2 (rv_cells (vs := #[.float .f32 q50_0r0, .float .f32 q50_0r1, .float .f32 q50_0r2]) s6_8 agg29 size29 B55 rfl) (rv_tmp rfl), ?_⟩
      exact ⟨q50_0r0, q50_0r1, q50_0r2, rfl, q50_0h0, q50_0h1, q50_0h2, X54⟩
end Go.Proofs
