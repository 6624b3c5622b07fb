import Derived.Test.YtdcienojgkioiaaNNCf
namespace Go.Proofs
open Go Go.Fl Go.RowKit Go.Rg
set_option maxRecDepth 100000
set_option linter.unusedVariables false
attribute [local irreducible] Go.Calls doAll Does DoesG W Wr
set_option maxHeartbeats 4000000 in
theorem c48 (p0 : Int) (p1 : Int) (p2 : Int) (r : Bool) (w : World) (hr : M.spec_l00In p0 p1 p2 = r)  :
    Calls Try.prog 48 #[.int .i64 p0, .int .i64 p1, .int .i64 p2] w fun e w' => e = .returned (.bool r) ∧ Ext w w' := by
  refine calls_of_W Try.func48 rfl (Nat.le_of_ble_eq_true rfl) ?_
  refine W_seq ?_
  refine W_region rfl ?_
  refine da_op rfl (d_as (v := .bool false) rfl ?_)
  refine da_nil ?_
  refine W_seq ?_
  obtain ⟨m1, hm1, hr⟩ := letv_out hr
  refine W_cut (fun σ' w' => σ' 6 = .bool m1 ∧ Ext w w') rfl ?_ ?_
  · skip
    have hr := hm1
    refine da_op rfl (d_mv (v := .int .i64 p0) rfl ?_)
    refine da_op rfl (d_mv (v := .int .i64 p1) rfl ?_)
    refine da_op rfl (d_icmp cGeq rfl rfl ?_)
    refine da_op rfl (d_mv (v := .bool (icmp .geq p0 p1)) rfl ?_)
    rcases Bool.eq_false_or_eq_true (icmp .geq p0 p1) with hc2 | hc2
    · skip
      replace hr := bif_t hr hc2
      refine da_on rfl (Eq.trans (show sl _ _ _ = .bool (icmp .geq p0 p1) from rfl) (congrArg Value.bool hc2)) (d_mv (v := .int .i64 p0) rfl ?_)
      refine da_on rfl (Eq.trans (show sl _ _ _ = .bool (icmp .geq p0 p1) from rfl) (congrArg Value.bool hc2)) (d_mv (v := .int .i64 p2) rfl ?_)
      refine da_on rfl (Eq.trans (show sl _ _ _ = .bool (icmp .geq p0 p1) from rfl) (congrArg Value.bool hc2)) (d_icmp cLeq rfl rfl ?_)
      refine da_op rfl (d_pick (b := true) (Eq.trans (show ev _ _ = .bool (icmp .geq p0 p1) from rfl) (congrArg Value.bool hc2)) ?_)
      refine da_op rfl (d_as (v := .bool (icmp .leq p0 p2)) rfl ?_)
      refine da_nil ?_
      subst hr
      exact ⟨rfl, (Ext.refl w)⟩
    · skip
      replace hr := bif_f hr hc2
      refine da_off rfl (Eq.trans (show sl _ _ _ = .bool (icmp .geq p0 p1) from rfl) (congrArg Value.bool hc2)) (by decide) ?_
      refine da_off rfl (Eq.trans (show sl _ _ _ = .bool (icmp .geq p0 p1) from rfl) (congrArg Value.bool hc2)) (by decide) ?_
      refine da_off rfl (Eq.trans (show sl _ _ _ = .bool (icmp .geq p0 p1) from rfl) (congrArg Value.bool hc2)) (by decide) ?_
      refine da_op rfl (d_pick (b := false) (Eq.trans (show ev _ _ = .bool (icmp .geq p0 p1) from rfl) (congrArg Value.bool hc2)) ?_)
      refine da_op rfl (d_as (v := .bool false) rfl ?_)
      refine da_nil ?_
      subst hr
      exact ⟨rfl, (Ext.refl w)⟩
  · skip
    rintro σ1 w1 o1 ⟨s6_1, E1⟩
    have X3 : Ext w w1 := (Ext.refl w).trans E1
    refine W_ret ?_
    subst hr
    refine ⟨_, res1 (rv_tmp s6_1), ?_⟩
    exact ⟨rfl, X3⟩
set_option maxHeartbeats 4000000 in
theorem c31 (p0 : Nat) (p0r : Nat) (r : Bool) (w : World) (hr : M.spec_l01Finite p0 = r) (p0h : cn .f32 p0r = p0) :
    Calls Try.prog 31 #[.float .f32 p0r] w fun e w' => e = .returned (.bool r) ∧ Ext w w' := by
  refine calls_of_W Try.func31 rfl (Nat.le_of_ble_eq_true rfl) ?_
  refine W_seq ?_
  refine W_region rfl ?_
  refine da_op rfl (d_as (v := .bool false) rfl ?_)
  refine da_nil ?_
  refine W_seq ?_
  refine W_region rfl ?_
  refine da_op rfl (d_mv (v := .float .f32 p0r) rfl ?_)
  refine da_op rfl (d_mv (v := .float .f32 p0r) rfl ?_)
  refine da_op rfl (d_fop (k := .f32) fSub rfl rfl p0h p0h fun r1 w1 h1 _ E1 => ?_)
  have X2 : Ext w w1 := (Ext.refl w).trans E1
  refine da_op rfl (d_fcmp (k := .f32) cEql rfl rfl h1 cn_f32_0 ?_)
  refine da_op rfl (d_as (v := .bool (fcmp .eql .f32 (fop .sub .f32 p0 p0) 0)) rfl ?_)
  refine da_nil ?_
  refine W_ret ?_
  subst hr
  refine ⟨_, res1 (rv_tmp rfl), ?_⟩
  exact ⟨rfl, X2⟩
set_option maxHeartbeats 4000000 in
theorem c66 (p0 : Nat) (p0r : Nat) (r : Bool) (w : World) (hr : M.spec_l03Above p0 = r) (p0h : cn .f32 p0r = p0) :
    Calls Try.prog 66 #[.float .f32 p0r] w fun e w' => e = .returned (.bool r) ∧ Ext w w' := by
  refine calls_of_W Try.func66 rfl (Nat.le_of_ble_eq_true rfl) ?_
  refine W_seq ?_
  refine W_region rfl ?_
  refine da_op rfl (d_as (v := .bool false) rfl ?_)
  refine da_nil ?_
  refine W_seq ?_
  obtain ⟨m1, hm1, hr⟩ := letv_out hr
  refine W_cut (fun σ' w' => σ' 2 = .bool m1 ∧ Ext w w') rfl ?_ ?_
  · skip
    have hr := hm1
    refine da_op rfl (d_mv (v := .float .f32 p0r) rfl ?_)
    obtain ⟨m2, hm2, hr⟩ := letv_out hr
    refine da_op rfl (d_cl (vs := [.float .f32 p0r]) en31 (ac rfl rfl) rfl ?_)
    refine (c31 p0 p0r m2 w hm2 p0h).mono ?_
    rintro _ w3 ⟨rfl, E3⟩
    refine ⟨_, rfl, ?_⟩
    have X4 : Ext w w3 := (Ext.refl w).trans E3
    refine da_op rfl (d_mv (v := .bool m2) rfl ?_)
    rcases Bool.eq_false_or_eq_true m2 with hc5 | hc5
    · skip
      replace hr := bif_t hr hc5
      refine da_on rfl (Eq.trans (show sl _ _ _ = .bool m2 from rfl) (congrArg Value.bool hc5)) (d_mv (v := .float .f32 p0r) rfl ?_)
      refine da_on rfl (Eq.trans (show sl _ _ _ = .bool m2 from rfl) (congrArg Value.bool hc5)) (d_fcmp (k := .f32) cGtr rfl rfl p0h cn_f32_0 ?_)
      refine da_op rfl (d_pick (b := true) (Eq.trans (show ev _ _ = .bool m2 from rfl) (congrArg Value.bool hc5)) ?_)
      refine da_op rfl (d_as (v := .bool (fcmp .gtr .f32 p0 0)) rfl ?_)
      refine da_nil ?_
      subst hr
      exact ⟨rfl, (Ext.trans (Ext.refl w) E3)⟩
    · skip
      replace hr := bif_f hr hc5
      refine da_off rfl (Eq.trans (show sl _ _ _ = .bool m2 from rfl) (congrArg Value.bool hc5)) (by decide) ?_
      refine da_off rfl (Eq.trans (show sl _ _ _ = .bool m2 from rfl) (congrArg Value.bool hc5)) (by decide) ?_
      refine da_op rfl (d_pick (b := false) (Eq.trans (show ev _ _ = .bool m2 from rfl) (congrArg Value.bool hc5)) ?_)
      refine da_op rfl (d_as (v := .bool false) rfl ?_)
      refine da_nil ?_
      subst hr
      exact ⟨rfl, (Ext.trans (Ext.refl w) E3)⟩
  · skip
    rintro σ1 w1 o1 ⟨s2_1, E1⟩
    have X6 : Ext w w1 := (Ext.refl w).trans E1
    refine W_ret ?_
    subst hr
    refine ⟨_, res1 (rv_tmp s2_1), ?_⟩
    exact ⟨rfl, X6⟩
set_option maxHeartbeats 4000000 in
theorem c47 (p0 : SVector) (p0r0 : Nat) (p0r1 : Nat) (p0r2 : Nat) (r : Bool) (w : World) (hr : M.spec_l01VFinite p0 = r) (p0h0 : cn .f32 p0r0 = p0.x) (p0h1 : cn .f32 p0r1 = p0.y) (p0h2 : cn .f32 p0r2 = p0.z) :
    Calls Try.prog 47 #[.agg #[.float .f32 p0r0, .float .f32 p0r1, .float .f32 p0r2]] w fun e w' => e = .returned (.bool r) ∧ Ext w w' := by
  refine calls_of_W Try.func47 rfl (Nat.le_of_ble_eq_true rfl) ?_
  refine W_seq ?_
  refine W_region rfl ?_
  refine da_op rfl (d_box (cs := #[.float .f32 p0r0, .float .f32 p0r1, .float .f32 p0r2]) rfl fun w1 B1 E1 => ?_)
  have own2 : w.heap.size ≤ w.heap.size := Nat.le_trans (Ext.refl w).size (Nat.le_refl _)
  have X3 : Ext w w1 := (Ext.refl w).trans E1
  refine da_op rfl (d_as (v := .bool false) rfl ?_)
  refine da_nil ?_
  refine W_seq ?_
  obtain ⟨m4, hm4, hr⟩ := letv_out hr
  refine W_cut (fun σ' w' => σ' 2 = .bool m4 ∧ Ext w1 w') rfl ?_ ?_
  · skip
    have hr := hm4
    refine da_op rfl (d_fieldAddr rfl (fa29_0 _ _) ?_)
    refine da_op rfl (d_load (v := .float .f32 p0r0) rfl agg22 B1 rfl ?_)
    obtain ⟨m5, hm5, hr⟩ := letv_out hr
    refine da_op rfl (d_cl (vs := [.float .f32 p0r0]) en31 (ac rfl rfl) rfl ?_)
    refine (c31 p0.x p0r0 m5 w1 hm5 p0h0).mono ?_
    rintro _ w6 ⟨rfl, E6⟩
    refine ⟨_, rfl, ?_⟩
    have X7 : Ext w w6 := X3.trans E6
    refine da_op rfl (d_mv (v := .bool m5) rfl ?_)
    rcases Bool.eq_false_or_eq_true m5 with hc8 | hc8
    · skip
      replace hr := bif_t hr hc8
      refine da_on rfl (Eq.trans (show sl _ _ _ = .bool m5 from rfl) (congrArg Value.bool hc8)) (d_fieldAddr rfl (fa29_1 _ _) ?_)
      have B9 : w6.heap[w.heap.size]? = some (.cells #[.float .f32 p0r0, .float .f32 p0r1, .float .f32 p0r2] 29 (0, 0)) := E6.heap B1
      refine da_on rfl (Eq.trans (show sl _ _ _ = .bool m5 from rfl) (congrArg Value.bool hc8)) (d_load (v := .float .f32 p0r1) rfl agg22 B9 rfl ?_)
      obtain ⟨m10, hm10, hr⟩ := letv_out hr
      refine da_on rfl (Eq.trans (show sl _ _ _ = .bool m5 from rfl) (congrArg Value.bool hc8)) (d_cl (vs := [.float .f32 p0r1]) en31 (ac rfl rfl) rfl ?_)
      refine (c31 p0.y p0r1 m10 w6 hm10 p0h1).mono ?_
      rintro _ w11 ⟨rfl, E11⟩
      refine ⟨_, rfl, ?_⟩
      have X12 : Ext w w11 := X7.trans E11
      refine da_op rfl (d_pick (b := true) (Eq.trans (show ev _ _ = .bool m5 from rfl) (congrArg Value.bool hc8)) ?_)
      refine da_op rfl (d_mv (v := .bool m10) rfl ?_)
      rcases Bool.eq_false_or_eq_true m10 with hc13 | hc13
      · skip
        replace hr := bif_t hr hc13
        refine da_on rfl (Eq.trans (show sl _ _ _ = .bool m10 from rfl) (congrArg Value.bool hc13)) (d_fieldAddr rfl (fa29_2 _ _) ?_)
        have B14 : w11.heap[w.heap.size]? = some (.cells #[.float .f32 p0r0, .float .f32 p0r1, .float .f32 p0r2] 29 (0, 0)) := E11.heap B9
        refine da_on rfl (Eq.trans (show sl _ _ _ = .bool m10 from rfl) (congrArg Value.bool hc13)) (d_load (v := .float .f32 p0r2) rfl agg22 B14 rfl ?_)
        obtain ⟨m15, hm15, hr⟩ := letv_out hr
        refine da_on rfl (Eq.trans (show sl _ _ _ = .bool m10 from rfl) (congrArg Value.bool hc13)) (d_cl (vs := [.float .f32 p0r2]) en31 (ac rfl rfl) rfl ?_)
        refine (c31 p0.z p0r2 m15 w11 hm15 p0h2).mono ?_
        rintro _ w16 ⟨rfl, E16⟩
        refine ⟨_, rfl, ?_⟩
        have X17 : Ext w w16 := X12.trans E16
        refine da_op rfl (d_pick (b := true) (Eq.trans (show ev _ _ = .bool m10 from rfl) (congrArg Value.bool hc13)) ?_)
        refine da_op rfl (d_as (v := .bool m15) rfl ?_)
        refine da_nil ?_
        subst hr
        exact ⟨rfl, (Ext.trans (Ext.trans (Ext.trans (Ext.refl w1) E6) E11) E16)⟩
      · skip
        replace hr := bif_f hr hc13
        refine da_off rfl (Eq.trans (show sl _ _ _ = .bool m10 from rfl) (congrArg Value.bool hc13)) (by decide) ?_
        refine da_off rfl (Eq.trans (show sl _ _ _ = .bool m10 from rfl) (congrArg Value.bool hc13)) (by decide) ?_
        refine da_off rfl (Eq.trans (show sl _ _ _ = .bool m10 from rfl) (congrArg Value.bool hc13)) (by decide) ?_
        refine da_op rfl (d_pick (b := false) (Eq.trans (show ev _ _ = .bool m10 from rfl) (congrArg Value.bool hc13)) ?_)
        refine da_op rfl (d_as (v := .bool false) rfl ?_)
        refine da_nil ?_
        subst hr
        exact ⟨rfl, (Ext.trans (Ext.trans (Ext.refl w1) E6) E11)⟩
    · skip
      replace hr := bif_f hr hc8
      refine da_off rfl (Eq.trans (show sl _ _ _ = .bool m5 from rfl) (congrArg Value.bool hc8)) (by decide) ?_
      refine da_off rfl (Eq.trans (show sl _ _ _ = .bool m5 from rfl) (congrArg Value.bool hc8)) (by decide) ?_
      refine da_off rfl (Eq.trans (show sl _ _ _ = .bool m5 from rfl) (congrArg Value.bool hc8)) (by decide) ?_
      refine da_op rfl (d_pick (b := false) (Eq.trans (show ev _ _ = .bool m5 from rfl) (congrArg Value.bool hc8)) ?_)
      refine da_op rfl (d_mv (v := .bool false) rfl ?_)
      refine da_off rfl rfl (by decide) ?_
      refine da_off rfl rfl (by decide) ?_
      refine da_off rfl rfl (by decide) ?_
      refine da_op rfl (d_pick (b := false) rfl ?_)
      refine da_op rfl (d_as (v := .bool false) rfl ?_)
      refine da_nil ?_
      subst hr
      exact ⟨rfl, (Ext.trans (Ext.refl w1) E6)⟩
  · skip
    rintro σ4 w4 o4 ⟨s2_4, E4⟩
    have X18 : Ext w w4 := X3.trans E4
    refine W_ret ?_
    subst hr
    refine ⟨_, res1 (rv_tmp s2_4), ?_⟩
    exact ⟨rfl, X18⟩
set_option maxHeartbeats 4000000 in
theorem c117 (p0 : Nat) (p0r : Nat) (r : Bool) (w : World) (hr : M.spec_l03Least p0 = r) (p0h : cn .f32 p0r = p0) :
    Calls Try.prog 117 #[.float .f32 p0r] w fun e w' => e = .returned (.bool r) ∧ Ext w w' := by
  refine calls_of_W Try.func117 rfl (Nat.le_of_ble_eq_true rfl) ?_
  refine W_seq ?_
  refine W_region rfl ?_
  refine da_op rfl (d_as (v := .bool false) rfl ?_)
  refine da_nil ?_
  refine W_seq ?_
  obtain ⟨m1, hm1, hr⟩ := letv_out hr
  refine W_cut (fun σ' w' => σ' 2 = .bool m1 ∧ Ext w w') rfl ?_ ?_
  · skip
    have hr := hm1
    refine da_op rfl (d_mv (v := .float .f32 p0r) rfl ?_)
    obtain ⟨m2, hm2, hr⟩ := letv_out hr
    refine da_op rfl (d_cl (vs := [.float .f32 p0r]) en31 (ac rfl rfl) rfl ?_)
    refine (c31 p0 p0r m2 w hm2 p0h).mono ?_
    rintro _ w3 ⟨rfl, E3⟩
    refine ⟨_, rfl, ?_⟩
    have X4 : Ext w w3 := (Ext.refl w).trans E3
    refine da_op rfl (d_mv (v := .bool m2) rfl ?_)
    rcases Bool.eq_false_or_eq_true m2 with hc5 | hc5
    · skip
      replace hr := bif_t hr hc5
      refine da_on rfl (Eq.trans (show sl _ _ _ = .bool m2 from rfl) (congrArg Value.bool hc5)) (d_mv (v := .float .f32 p0r) rfl ?_)
      refine da_on rfl (Eq.trans (show sl _ _ _ = .bool m2 from rfl) (congrArg Value.bool hc5)) (d_fcmp (k := .f32) cGeq rfl rfl p0h cn_f32_0 ?_)
      refine da_op rfl (d_pick (b := true) (Eq.trans (show ev _ _ = .bool m2 from rfl) (congrArg Value.bool hc5)) ?_)
      refine da_op rfl (d_as (v := .bool (fcmp .geq .f32 p0 0)) rfl ?_)
      refine da_nil ?_
      subst hr
      exact ⟨rfl, (Ext.trans (Ext.refl w) E3)⟩
    · skip
      replace hr := bif_f hr hc5
      refine da_off rfl (Eq.trans (show sl _ _ _ = .bool m2 from rfl) (congrArg Value.bool hc5)) (by decide) ?_
      refine da_off rfl (Eq.trans (show sl _ _ _ = .bool m2 from rfl) (congrArg Value.bool hc5)) (by decide) ?_
      refine da_op rfl (d_pick (b := false) (Eq.trans (show ev _ _ = .bool m2 from rfl) (congrArg Value.bool hc5)) ?_)
      refine da_op rfl (d_as (v := .bool false) rfl ?_)
      refine da_nil ?_
      subst hr
      exact ⟨rfl, (Ext.trans (Ext.refl w) E3)⟩
  · skip
    rintro σ1 w1 o1 ⟨s2_1, E1⟩
    have X6 : Ext w w1 := (Ext.refl w).trans E1
    refine W_ret ?_
    subst hr
    refine ⟨_, res1 (rv_tmp s2_1), ?_⟩
    exact ⟨rfl, X6⟩
set_option maxHeartbeats 4000000 in
theorem c102 (p0 : SChain) (p0b p0o : Nat) (p0c : Array Value) (p0T : TypeId) (p0f : Nat × Nat) (p0v0a : Option Addr) (p0v0n : Nat) (p0v0c : Nat) (p0v1a : Option Addr) (p0v1n : Nat) (p0v1c : Nat) (p0v2a : Option Addr) (p0v2n : Nat) (p0v2c : Nat) (p0v3a : Option Addr) (p0v3n : Nat) (p0v3c : Nat) (r : Bool) (w : World) (hr : M.spec_l03Is p0 = some r) (p0v0R : RS w encSVector (Value.slice p0v0a p0v0n p0v0c) p0.places) (p0v1R : RS w encSVector (Value.slice p0v1a p0v1n p0v1c) p0.before) (p0v2R : RS w encF_f32 (Value.slice p0v2a p0v2n p0v2c) p0.weights) (p0v3R : RS w encSRod (Value.slice p0v3a p0v3n p0v3c) p0.rods) (p0B : w.heap[p0b]? = some (.cells p0c p0T p0f)) (p0P : (p0c.toList.drop p0o).take 4 = [(Value.slice p0v0a p0v0n p0v0c), (Value.slice p0v1a p0v1n p0v1c), (Value.slice p0v2a p0v2n p0v2c), (Value.slice p0v3a p0v3n p0v3c)]) :
    Calls Try.prog 102 #[.pointer (some ⟨p0b, p0o, none⟩)] w fun e w' => e = .returned (.bool r) ∧ Ext w w' := by
  refine calls_of_W Try.func102 rfl (Nat.le_of_ble_eq_true rfl) ?_
  refine W_seq ?_
  refine W_region rfl ?_
  refine da_op rfl (d_as (v := .bool false) rfl ?_)
  refine da_nil ?_
  refine W_seq ?_
  refine W_region rfl ?_
  refine da_op rfl (d_mv (v := .pointer (some ⟨p0b, p0o, none⟩)) rfl ?_)
  refine da_op rfl (d_nil rfl ?_)
  refine da_op rfl (d_fieldAddr rfl (fa51_0 _ _) ?_)
  refine da_op rfl (d_load (v := (Value.slice p0v0a p0v0n p0v0c)) rfl agg33 p0B (sub_get (vs := #[(Value.slice p0v0a p0v0n p0v0c), (Value.slice p0v1a p0v1n p0v1c), (Value.slice p0v2a p0v2n p0v2c), (Value.slice p0v3a p0v3n p0v3c)]) p0P (i := 0) rfl) ?_)
  refine da_op rfl (d_len (e := encSVector) un33 rfl p0v0R ?_)
  refine da_op rfl (d_as (v := .int .i64 ((p0.places).length : Int)) rfl ?_)
  refine da_nil ?_
  refine W_seq ?_
  refine W_seq ?_
  obtain ⟨m1, hm1, hr⟩ := letv_out hr
  refine W_cut (fun σ' w' => σ' 39 = .bool m1 ∧ Ext w w') rfl ?_ ?_
  · skip
    have hr := hm1
    refine da_op rfl (d_mv (v := .int .i64 ((p0.places).length : Int)) rfl ?_)
    refine da_op rfl (d_icmp cGtr rfl rfl ?_)
    refine da_op rfl (d_mv (v := .bool (icmp .gtr ((p0.places).length : Int) 24)) rfl ?_)
    rcases Bool.eq_false_or_eq_true (icmp .gtr ((p0.places).length : Int) 24) with hc2 | hc2
    · skip
      replace hr := bif_t hr hc2
      refine da_off rfl (Eq.trans (show sl _ _ _ = .bool (icmp .gtr ((p0.places).length : Int) 24) from rfl) (congrArg Value.bool hc2)) (by decide) ?_
      refine da_off rfl (Eq.trans (show sl _ _ _ = .bool (icmp .gtr ((p0.places).length : Int) 24) from rfl) (congrArg Value.bool hc2)) (by decide) ?_
      refine da_off rfl (Eq.trans (show sl _ _ _ = .bool (icmp .gtr ((p0.places).length : Int) 24) from rfl) (congrArg Value.bool hc2)) (by decide) ?_
      refine da_off rfl (Eq.trans (show sl _ _ _ = .bool (icmp .gtr ((p0.places).length : Int) 24) from rfl) (congrArg Value.bool hc2)) (by decide) ?_
      refine da_off rfl (Eq.trans (show sl _ _ _ = .bool (icmp .gtr ((p0.places).length : Int) 24) from rfl) (congrArg Value.bool hc2)) (by decide) ?_
      refine da_off rfl (Eq.trans (show sl _ _ _ = .bool (icmp .gtr ((p0.places).length : Int) 24) from rfl) (congrArg Value.bool hc2)) (by decide) ?_
      refine da_off rfl (Eq.trans (show sl _ _ _ = .bool (icmp .gtr ((p0.places).length : Int) 24) from rfl) (congrArg Value.bool hc2)) (by decide) ?_
      refine da_op rfl (d_pick (b := true) (Eq.trans (show ev _ _ = .bool (icmp .gtr ((p0.places).length : Int) 24) from rfl) (congrArg Value.bool hc2)) ?_)
      refine da_op rfl (d_mv (v := .bool true) rfl ?_)
      refine da_off rfl rfl (by decide) ?_
      refine da_off rfl rfl (by decide) ?_
      refine da_off rfl rfl (by decide) ?_
      refine da_off rfl rfl (by decide) ?_
      refine da_off rfl rfl (by decide) ?_
      refine da_off rfl rfl (by decide) ?_
      refine da_off rfl rfl (by decide) ?_
      refine da_op rfl (d_pick (b := true) rfl ?_)
      refine da_op rfl (d_mv (v := .bool true) rfl ?_)
      refine da_off rfl rfl (by decide) ?_
      refine da_off rfl rfl (by decide) ?_
      refine da_off rfl rfl (by decide) ?_
      refine da_off rfl rfl (by decide) ?_
      refine da_off rfl rfl (by decide) ?_
      refine da_off rfl rfl (by decide) ?_
      refine da_op rfl (d_pick (b := true) rfl ?_)
      refine da_nil ?_
      subst hr
      exact ⟨rfl, (Ext.refl w)⟩
    · skip
      replace hr := bif_f hr hc2
      refine da_on rfl (Eq.trans (show sl _ _ _ = .bool (icmp .gtr ((p0.places).length : Int) 24) from rfl) (congrArg Value.bool hc2)) (d_mv (v := .pointer (some ⟨p0b, p0o, none⟩)) rfl ?_)
      refine da_on rfl (Eq.trans (show sl _ _ _ = .bool (icmp .gtr ((p0.places).length : Int) 24) from rfl) (congrArg Value.bool hc2)) (d_nil rfl ?_)
      refine da_on rfl (Eq.trans (show sl _ _ _ = .bool (icmp .gtr ((p0.places).length : Int) 24) from rfl) (congrArg Value.bool hc2)) (d_fieldAddr rfl (fa51_1 _ _) ?_)
      refine da_on rfl (Eq.trans (show sl _ _ _ = .bool (icmp .gtr ((p0.places).length : Int) 24) from rfl) (congrArg Value.bool hc2)) (d_load (v := (Value.slice p0v1a p0v1n p0v1c)) rfl agg33 p0B (sub_get (vs := #[(Value.slice p0v0a p0v0n p0v0c), (Value.slice p0v1a p0v1n p0v1c), (Value.slice p0v2a p0v2n p0v2c), (Value.slice p0v3a p0v3n p0v3c)]) p0P (i := 1) rfl) ?_)
      refine da_on rfl (Eq.trans (show sl _ _ _ = .bool (icmp .gtr ((p0.places).length : Int) 24) from rfl) (congrArg Value.bool hc2)) (d_len (e := encSVector) un33 rfl p0v1R ?_)
      refine da_on rfl (Eq.trans (show sl _ _ _ = .bool (icmp .gtr ((p0.places).length : Int) 24) from rfl) (congrArg Value.bool hc2)) (d_mv (v := .int .i64 ((p0.places).length : Int)) rfl ?_)
      refine da_on rfl (Eq.trans (show sl _ _ _ = .bool (icmp .gtr ((p0.places).length : Int) 24) from rfl) (congrArg Value.bool hc2)) (d_icmp cNeq rfl rfl ?_)
      refine da_op rfl (d_pick (b := false) (Eq.trans (show ev _ _ = .bool (icmp .gtr ((p0.places).length : Int) 24) from rfl) (congrArg Value.bool hc2)) ?_)
      refine da_op rfl (d_mv (v := .bool (icmp .neq ((p0.before).length : Int) ((p0.places).length : Int))) rfl ?_)
      rcases Bool.eq_false_or_eq_true (icmp .neq ((p0.before).length : Int) ((p0.places).length : Int)) with hc3 | hc3
      · skip
        replace hr := bif_t hr hc3
        refine da_off rfl (Eq.trans (show sl _ _ _ = .bool (icmp .neq ((p0.before).length : Int) ((p0.places).length : Int)) from rfl) (congrArg Value.bool hc3)) (by decide) ?_
        refine da_off rfl (Eq.trans (show sl _ _ _ = .bool (icmp .neq ((p0.before).length : Int) ((p0.places).length : Int)) from rfl) (congrArg Value.bool hc3)) (by decide) ?_
        refine da_off rfl (Eq.trans (show sl _ _ _ = .bool (icmp .neq ((p0.before).length : Int) ((p0.places).length : Int)) from rfl) (congrArg Value.bool hc3)) (by decide) ?_
        refine da_off rfl (Eq.trans (show sl _ _ _ = .bool (icmp .neq ((p0.before).length : Int) ((p0.places).length : Int)) from rfl) (congrArg Value.bool hc3)) (by decide) ?_
        refine da_off rfl (Eq.trans (show sl _ _ _ = .bool (icmp .neq ((p0.before).length : Int) ((p0.places).length : Int)) from rfl) (congrArg Value.bool hc3)) (by decide) ?_
        refine da_off rfl (Eq.trans (show sl _ _ _ = .bool (icmp .neq ((p0.before).length : Int) ((p0.places).length : Int)) from rfl) (congrArg Value.bool hc3)) (by decide) ?_
        refine da_off rfl (Eq.trans (show sl _ _ _ = .bool (icmp .neq ((p0.before).length : Int) ((p0.places).length : Int)) from rfl) (congrArg Value.bool hc3)) (by decide) ?_
        refine da_op rfl (d_pick (b := true) (Eq.trans (show ev _ _ = .bool (icmp .neq ((p0.before).length : Int) ((p0.places).length : Int)) from rfl) (congrArg Value.bool hc3)) ?_)
        refine da_op rfl (d_mv (v := .bool true) rfl ?_)
        refine da_off rfl rfl (by decide) ?_
        refine da_off rfl rfl (by decide) ?_
        refine da_off rfl rfl (by decide) ?_
        refine da_off rfl rfl (by decide) ?_
        refine da_off rfl rfl (by decide) ?_
        refine da_off rfl rfl (by decide) ?_
        refine da_op rfl (d_pick (b := true) rfl ?_)
        refine da_nil ?_
        subst hr
        exact ⟨rfl, (Ext.refl w)⟩
      · skip
        replace hr := bif_f hr hc3
        refine da_on rfl (Eq.trans (show sl _ _ _ = .bool (icmp .neq ((p0.before).length : Int) ((p0.places).length : Int)) from rfl) (congrArg Value.bool hc3)) (d_mv (v := .pointer (some ⟨p0b, p0o, none⟩)) rfl ?_)
        refine da_on rfl (Eq.trans (show sl _ _ _ = .bool (icmp .neq ((p0.before).length : Int) ((p0.places).length : Int)) from rfl) (congrArg Value.bool hc3)) (d_nil rfl ?_)
        refine da_on rfl (Eq.trans (show sl _ _ _ = .bool (icmp .neq ((p0.before).length : Int) ((p0.places).length : Int)) from rfl) (congrArg Value.bool hc3)) (d_fieldAddr rfl (fa51_2 _ _) ?_)
        refine da_on rfl (Eq.trans (show sl _ _ _ = .bool (icmp .neq ((p0.before).length : Int) ((p0.places).length : Int)) from rfl) (congrArg Value.bool hc3)) (d_load (v := (Value.slice p0v2a p0v2n p0v2c)) rfl agg48 p0B (sub_get (vs := #[(Value.slice p0v0a p0v0n p0v0c), (Value.slice p0v1a p0v1n p0v1c), (Value.slice p0v2a p0v2n p0v2c), (Value.slice p0v3a p0v3n p0v3c)]) p0P (i := 2) rfl) ?_)
        refine da_on rfl (Eq.trans (show sl _ _ _ = .bool (icmp .neq ((p0.before).length : Int) ((p0.places).length : Int)) from rfl) (congrArg Value.bool hc3)) (d_len (e := encF_f32) un48 rfl p0v2R ?_)
        refine da_on rfl (Eq.trans (show sl _ _ _ = .bool (icmp .neq ((p0.before).length : Int) ((p0.places).length : Int)) from rfl) (congrArg Value.bool hc3)) (d_mv (v := .int .i64 ((p0.places).length : Int)) rfl ?_)
        refine da_on rfl (Eq.trans (show sl _ _ _ = .bool (icmp .neq ((p0.before).length : Int) ((p0.places).length : Int)) from rfl) (congrArg Value.bool hc3)) (d_icmp cNeq rfl rfl ?_)
        refine da_op rfl (d_pick (b := false) (Eq.trans (show ev _ _ = .bool (icmp .neq ((p0.before).length : Int) ((p0.places).length : Int)) from rfl) (congrArg Value.bool hc3)) ?_)
        refine da_op rfl (d_mv (v := .bool (icmp .neq ((p0.weights).length : Int) ((p0.places).length : Int))) rfl ?_)
        rcases Bool.eq_false_or_eq_true (icmp .neq ((p0.weights).length : Int) ((p0.places).length : Int)) with hc4 | hc4
        · skip
          replace hr := bif_t hr hc4
          refine da_off rfl (Eq.trans (show sl _ _ _ = .bool (icmp .neq ((p0.weights).length : Int) ((p0.places).length : Int)) from rfl) (congrArg Value.bool hc4)) (by decide) ?_
          refine da_off rfl (Eq.trans (show sl _ _ _ = .bool (icmp .neq ((p0.weights).length : Int) ((p0.places).length : Int)) from rfl) (congrArg Value.bool hc4)) (by decide) ?_
          refine da_off rfl (Eq.trans (show sl _ _ _ = .bool (icmp .neq ((p0.weights).length : Int) ((p0.places).length : Int)) from rfl) (congrArg Value.bool hc4)) (by decide) ?_
          refine da_off rfl (Eq.trans (show sl _ _ _ = .bool (icmp .neq ((p0.weights).length : Int) ((p0.places).length : Int)) from rfl) (congrArg Value.bool hc4)) (by decide) ?_
          refine da_off rfl (Eq.trans (show sl _ _ _ = .bool (icmp .neq ((p0.weights).length : Int) ((p0.places).length : Int)) from rfl) (congrArg Value.bool hc4)) (by decide) ?_
          refine da_off rfl (Eq.trans (show sl _ _ _ = .bool (icmp .neq ((p0.weights).length : Int) ((p0.places).length : Int)) from rfl) (congrArg Value.bool hc4)) (by decide) ?_
          refine da_op rfl (d_pick (b := true) (Eq.trans (show ev _ _ = .bool (icmp .neq ((p0.weights).length : Int) ((p0.places).length : Int)) from rfl) (congrArg Value.bool hc4)) ?_)
          refine da_nil ?_
          subst hr
          exact ⟨rfl, (Ext.refl w)⟩
        · skip
          replace hr := bif_f hr hc4
          refine da_on rfl (Eq.trans (show sl _ _ _ = .bool (icmp .neq ((p0.weights).length : Int) ((p0.places).length : Int)) from rfl) (congrArg Value.bool hc4)) (d_mv (v := .pointer (some ⟨p0b, p0o, none⟩)) rfl ?_)
          refine da_on rfl (Eq.trans (show sl _ _ _ = .bool (icmp .neq ((p0.weights).length : Int) ((p0.places).length : Int)) from rfl) (congrArg Value.bool hc4)) (d_nil rfl ?_)
          refine da_on rfl (Eq.trans (show sl _ _ _ = .bool (icmp .neq ((p0.weights).length : Int) ((p0.places).length : Int)) from rfl) (congrArg Value.bool hc4)) (d_fieldAddr rfl (fa51_3 _ _) ?_)
          refine da_on rfl (Eq.trans (show sl _ _ _ = .bool (icmp .neq ((p0.weights).length : Int) ((p0.places).length : Int)) from rfl) (congrArg Value.bool hc4)) (d_load (v := (Value.slice p0v3a p0v3n p0v3c)) rfl agg49 p0B (sub_get (vs := #[(Value.slice p0v0a p0v0n p0v0c), (Value.slice p0v1a p0v1n p0v1c), (Value.slice p0v2a p0v2n p0v2c), (Value.slice p0v3a p0v3n p0v3c)]) p0P (i := 3) rfl) ?_)
          refine da_on rfl (Eq.trans (show sl _ _ _ = .bool (icmp .neq ((p0.weights).length : Int) ((p0.places).length : Int)) from rfl) (congrArg Value.bool hc4)) (d_len (e := encSRod) un49 rfl p0v3R ?_)
          refine da_on rfl (Eq.trans (show sl _ _ _ = .bool (icmp .neq ((p0.weights).length : Int) ((p0.places).length : Int)) from rfl) (congrArg Value.bool hc4)) (d_icmp cGtr rfl rfl ?_)
          refine da_op rfl (d_pick (b := false) (Eq.trans (show ev _ _ = .bool (icmp .neq ((p0.weights).length : Int) ((p0.places).length : Int)) from rfl) (congrArg Value.bool hc4)) ?_)
          refine da_nil ?_
          subst hr
          exact ⟨rfl, (Ext.refl w)⟩
  · skip
    rintro σ1 w1 o1 ⟨s39_1, E1⟩
    have s0_1 : σ1 0 = .pointer (some ⟨p0b, p0o, none⟩) := (o1 0 rfl).trans rfl
    have s3_1 : σ1 3 = .int .i64 ((p0.places).length : Int) := (o1 3 rfl).trans rfl
    have X5 : Ext w w1 := (Ext.refl w).trans E1
    refine W_cond (b := m1) s39_1 (fun hc6 => ?_) (fun hc6 => ?_)
    · skip
      replace hr := bif_t hr hc6
      refine W_seq ?_
      refine W_region rfl ?_
      refine da_op rfl (d_as (v := .bool false) rfl ?_)
      refine da_nil ?_
      refine W_ret ?_
      obtain rfl := Option.some.inj hr
      refine ⟨_, res1 (rv_tmp rfl), ?_⟩
      exact ⟨rfl, X5⟩
    · skip
      replace hr := bif_f hr hc6
      refine W_skip ?_
      refine W_seq ?_
      refine W_seq ?_
      refine W_region rfl ?_
      refine da_op rfl (d_mv (v := .pointer (some ⟨p0b, p0o, none⟩)) s0_1 ?_)
      refine da_op rfl (d_nil rfl ?_)
      refine da_op rfl (d_fieldAddr rfl (fa51_0 _ _) ?_)
      have B7 : w1.heap[p0b]? = some (.cells p0c p0T p0f) := X5.heap p0B
      refine da_op rfl (d_load (v := (Value.slice p0v0a p0v0n p0v0c)) rfl agg33 B7 (sub_get (vs := #[(Value.slice p0v0a p0v0n p0v0c), (Value.slice p0v1a p0v1n p0v1c), (Value.slice p0v2a p0v2n p0v2c), (Value.slice p0v3a p0v3n p0v3c)]) p0P (i := 0) rfl) ?_)
      have B8 : RS w1 encSVector (Value.slice p0v0a p0v0n p0v0c) p0.places := p0v0R.ext X5
      refine da_op rfl (d_len (e := encSVector) un33 rfl B8 ?_)
      refine da_op rfl (d_mv (v := .int .i64 0) rfl ?_)
      refine da_nil ?_
      refine W_block ?_
      obtain ⟨m9, hm9, hr⟩ := bind_out hr
      refine W_loopM hm9 (fun (s9 : Int) σ w' => σ 45 = .int .i64 s9 ∧ σ 0 = .pointer (some ⟨p0b, p0o, none⟩) ∧ σ 3 = .int .i64 ((p0.places).length : Int) ∧ σ 44 = .int .i64 ((p0.places).length : Int) ∧ Ext w w') (fun (e9 : (Unit ⊕ Bool)) ex σ w' => sel e9 (fun e9 => ex = .exit 0 ∧ σ 0 = .pointer (some ⟨p0b, p0o, none⟩) ∧ σ 3 = .int .i64 ((p0.places).length : Int) ∧ Ext w w') (fun e9 => ex = .ret ∧ σ 2 = .bool e9 ∧ Ext w w')) ⟨rfl, s0_1, s3_1, rfl, X5⟩ ?_ ?_
      · skip
        rintro s9 σl9 wl9 r9l ⟨i9_S45, i9_S0, i9_S3, i9_S44, i9_X⟩ hr
        refine W_seq ?_
        refine W_region rfl ?_
        refine da_op rfl (d_icmp cLss i9_S45 i9_S44 ?_)
        refine da_nil ?_
        refine W_seq ?_
        refine W_cond (b := (icmp .lss s9 ((p0.places).length : Int))) rfl (fun hc10 => ?_) (fun hc10 => ?_)
        · skip
          replace hr := bif_t hr hc10
          refine W_skip ?_
          refine W_seq ?_
          refine W_block ?_
          refine W_seq ?_
          refine W_region rfl ?_
          refine da_op rfl (d_mv (v := .int .i64 s9) i9_S45 ?_)
          refine da_op rfl (d_as (v := .int .i64 s9) rfl ?_)
          refine da_nil ?_
          refine W_seq ?_
          obtain ⟨m11, hm11, hr⟩ := bind_out hr
          refine W_cut (fun σ' w' => σ' 78 = .bool m11 ∧ Ext wl9 w') rfl ?_ ?_
          · skip
            have hr := hm11
            refine da_op rfl (d_mv (v := .pointer (some ⟨p0b, p0o, none⟩)) i9_S0 ?_)
            refine da_op rfl (d_nil rfl ?_)
            refine da_op rfl (d_fieldAddr rfl (fa51_0 _ _) ?_)
            have B12 : wl9.heap[p0b]? = some (.cells p0c p0T p0f) := i9_X.heap p0B
            refine da_op rfl (d_load (v := (Value.slice p0v0a p0v0n p0v0c)) rfl agg33 B12 (sub_get (vs := #[(Value.slice p0v0a p0v0n p0v0c), (Value.slice p0v1a p0v1n p0v1c), (Value.slice p0v2a p0v2n p0v2c), (Value.slice p0v3a p0v3n p0v3c)]) p0P (i := 0) rfl) ?_)
            refine da_op rfl (d_mv (v := .int .i64 s9) rfl ?_)
            obtain ⟨m13, hm13, hr⟩ := bind_out hr
            have B15 : RS wl9 encSVector (Value.slice p0v0a p0v0n p0v0c) p0.places := p0v0R.ext i9_X
            refine da_op rfl (d_index (e := encSVector) (v := (Value.slice p0v0a p0v0n p0v0c)) un33 size29 rfl rfl B15 hm13 fun g14 o14 cu14 T14 fr14 vs14 hv14 hg14 hp14 hq14 => ?_)
            obtain ⟨e14_r0, e14_r1, e14_r2, rfl, e14_h0, e14_h1, e14_h2⟩ := dec_encSVector hq14
            refine da_op rfl (d_loads (vs := #[.float .f32 e14_r0, .float .f32 e14_r1, .float .f32 e14_r2]) rfl agg29 size29 hg14 (sub_take (vs := #[.float .f32 e14_r0, .float .f32 e14_r1, .float .f32 e14_r2]) (us := #[.float .f32 e14_r0, .float .f32 e14_r1, .float .f32 e14_r2]) (i := 0) hp14 rfl (Nat.le_of_ble_eq_true rfl)) ?_)
            obtain ⟨m16, hm16, hr⟩ := letv_out hr
            refine da_op rfl (d_cl (vs := [.agg #[.float .f32 e14_r0, .float .f32 e14_r1, .float .f32 e14_r2]]) en47 (ac rfl rfl) rfl ?_)
            refine (c47 m13 e14_r0 e14_r1 e14_r2 m16 wl9 hm16 e14_h0 e14_h1 e14_h2).mono ?_
            rintro _ w17 ⟨rfl, E17⟩
            refine ⟨_, rfl, ?_⟩
            have X18 : Ext w w17 := i9_X.trans E17
            refine da_op rfl (d_not rfl ?_)
            refine da_op rfl (d_mv (v := .bool (!m16)) rfl ?_)
            rcases Bool.eq_false_or_eq_true m16 with hc19 | hc19
            · skip
              replace hr := bif_t hr hc19
              refine da_on rfl (Eq.trans (show sl _ _ _ = .bool (!m16) from rfl) (congrArg Value.bool (congrArg not hc19))) (d_mv (v := .pointer (some ⟨p0b, p0o, none⟩)) i9_S0 ?_)
              refine da_on rfl (Eq.trans (show sl _ _ _ = .bool (!m16) from rfl) (congrArg Value.bool (congrArg not hc19))) (d_nil rfl ?_)
              refine da_on rfl (Eq.trans (show sl _ _ _ = .bool (!m16) from rfl) (congrArg Value.bool (congrArg not hc19))) (d_fieldAddr rfl (fa51_1 _ _) ?_)
              have B20 : w17.heap[p0b]? = some (.cells p0c p0T p0f) := X18.heap p0B
              refine da_on rfl (Eq.trans (show sl _ _ _ = .bool (!m16) from rfl) (congrArg Value.bool (congrArg not hc19))) (d_load (v := (Value.slice p0v1a p0v1n p0v1c)) rfl agg33 B20 (sub_get (vs := #[(Value.slice p0v0a p0v0n p0v0c), (Value.slice p0v1a p0v1n p0v1c), (Value.slice p0v2a p0v2n p0v2c), (Value.slice p0v3a p0v3n p0v3c)]) p0P (i := 1) rfl) ?_)
              refine da_on rfl (Eq.trans (show sl _ _ _ = .bool (!m16) from rfl) (congrArg Value.bool (congrArg not hc19))) (d_mv (v := .int .i64 s9) rfl ?_)
              obtain ⟨m21, hm21, hr⟩ := bind_out hr
              have B23 : RS w17 encSVector (Value.slice p0v1a p0v1n p0v1c) p0.before := p0v1R.ext X18
              refine da_on rfl (Eq.trans (show sl _ _ _ = .bool (!m16) from rfl) (congrArg Value.bool (congrArg not hc19))) (d_index (e := encSVector) (v := (Value.slice p0v1a p0v1n p0v1c)) un33 size29 rfl rfl B23 hm21 fun g22 o22 cu22 T22 fr22 vs22 hv22 hg22 hp22 hq22 => ?_)
              obtain ⟨e22_r0, e22_r1, e22_r2, rfl, e22_h0, e22_h1, e22_h2⟩ := dec_encSVector hq22
              refine da_on rfl (Eq.trans (show sl _ _ _ = .bool (!m16) from rfl) (congrArg Value.bool (congrArg not hc19))) (d_loads (vs := #[.float .f32 e22_r0, .float .f32 e22_r1, .float .f32 e22_r2]) rfl agg29 size29 hg22 (sub_take (vs := #[.float .f32 e22_r0, .float .f32 e22_r1, .float .f32 e22_r2]) (us := #[.float .f32 e22_r0, .float .f32 e22_r1, .float .f32 e22_r2]) (i := 0) hp22 rfl (Nat.le_of_ble_eq_true rfl)) ?_)
              obtain ⟨m24, hm24, hr⟩ := letv_out hr
              have B25 : w17.heap[g14]? = some (.cells cu14 T14 fr14) := E17.heap hg14
              refine da_on rfl (Eq.trans (show sl _ _ _ = .bool (!m16) from rfl) (congrArg Value.bool (congrArg not hc19))) (d_cl (vs := [.agg #[.float .f32 e22_r0, .float .f32 e22_r1, .float .f32 e22_r2]]) en47 (ac rfl rfl) rfl ?_)
              refine (c47 m21 e22_r0 e22_r1 e22_r2 m24 w17 hm24 e22_h0 e22_h1 e22_h2).mono ?_
              rintro _ w26 ⟨rfl, E26⟩
              refine ⟨_, rfl, ?_⟩
              have X27 : Ext w w26 := X18.trans E26
              refine da_on rfl (Eq.trans (show sl _ _ _ = .bool (!m16) from rfl) (congrArg Value.bool (congrArg not hc19))) (d_not rfl ?_)
              refine da_op rfl (d_pick (b := false) (Eq.trans (show ev _ _ = .bool (!m16) from rfl) (congrArg Value.bool (congrArg not hc19))) ?_)
              refine da_op rfl (d_mv (v := .bool (!m24)) rfl ?_)
              rcases Bool.eq_false_or_eq_true m24 with hc28 | hc28
              · skip
                replace hr := bif_t hr hc28
                refine da_on rfl (Eq.trans (show sl _ _ _ = .bool (!m24) from rfl) (congrArg Value.bool (congrArg not hc28))) (d_mv (v := .pointer (some ⟨p0b, p0o, none⟩)) i9_S0 ?_)
                refine da_on rfl (Eq.trans (show sl _ _ _ = .bool (!m24) from rfl) (congrArg Value.bool (congrArg not hc28))) (d_nil rfl ?_)
                refine da_on rfl (Eq.trans (show sl _ _ _ = .bool (!m24) from rfl) (congrArg Value.bool (congrArg not hc28))) (d_fieldAddr rfl (fa51_2 _ _) ?_)
                have B29 : w26.heap[p0b]? = some (.cells p0c p0T p0f) := X27.heap p0B
                refine da_on rfl (Eq.trans (show sl _ _ _ = .bool (!m24) from rfl) (congrArg Value.bool (congrArg not hc28))) (d_load (v := (Value.slice p0v2a p0v2n p0v2c)) rfl agg48 B29 (sub_get (vs := #[(Value.slice p0v0a p0v0n p0v0c), (Value.slice p0v1a p0v1n p0v1c), (Value.slice p0v2a p0v2n p0v2c), (Value.slice p0v3a p0v3n p0v3c)]) p0P (i := 2) rfl) ?_)
                refine da_on rfl (Eq.trans (show sl _ _ _ = .bool (!m24) from rfl) (congrArg Value.bool (congrArg not hc28))) (d_mv (v := .int .i64 s9) rfl ?_)
                obtain ⟨m30, hm30, hr⟩ := bind_out hr
                have B32 : RS w26 encF_f32 (Value.slice p0v2a p0v2n p0v2c) p0.weights := p0v2R.ext X27
                refine da_on rfl (Eq.trans (show sl _ _ _ = .bool (!m24) from rfl) (congrArg Value.bool (congrArg not hc28))) (d_index (e := encF_f32) (v := (Value.slice p0v2a p0v2n p0v2c)) un48 size22 rfl rfl B32 hm30 fun g31 o31 cu31 T31 fr31 vs31 hv31 hg31 hp31 hq31 => ?_)
                obtain ⟨e31_r0, rfl, e31_h0⟩ := dec_encF_f32 hq31
                refine da_on rfl (Eq.trans (show sl _ _ _ = .bool (!m24) from rfl) (congrArg Value.bool (congrArg not hc28))) (d_load (v := .float .f32 e31_r0) rfl agg22 hg31 (sub_get (vs := #[.float .f32 e31_r0]) hp31 (i := 0) rfl) ?_)
                obtain ⟨m33, hm33, hr⟩ := letv_out hr
                have B34 : w26.heap[g14]? = some (.cells cu14 T14 fr14) := E26.heap B25
                have B35 : w26.heap[g22]? = some (.cells cu22 T22 fr22) := E26.heap hg22
                refine da_on rfl (Eq.trans (show sl _ _ _ = .bool (!m24) from rfl) (congrArg Value.bool (congrArg not hc28))) (d_cl (vs := [.float .f32 e31_r0]) en117 (ac rfl rfl) rfl ?_)
                refine (c117 m30 e31_r0 m33 w26 hm33 e31_h0).mono ?_
                rintro _ w36 ⟨rfl, E36⟩
                refine ⟨_, rfl, ?_⟩
                have X37 : Ext w w36 := X27.trans E36
                refine da_on rfl (Eq.trans (show sl _ _ _ = .bool (!m24) from rfl) (congrArg Value.bool (congrArg not hc28))) (d_not rfl ?_)
                refine da_op rfl (d_pick (b := false) (Eq.trans (show ev _ _ = .bool (!m24) from rfl) (congrArg Value.bool (congrArg not hc28))) ?_)
                refine da_nil ?_
                obtain rfl := Option.some.inj hr
                exact ⟨rfl, (Ext.trans (Ext.trans (Ext.trans (Ext.refl wl9) E17) E26) E36)⟩
              · skip
                replace hr := bif_f hr hc28
                refine da_off rfl (Eq.trans (show sl _ _ _ = .bool (!m24) from rfl) (congrArg Value.bool (congrArg not hc28))) (by decide) ?_
                refine da_off rfl (Eq.trans (show sl _ _ _ = .bool (!m24) from rfl) (congrArg Value.bool (congrArg not hc28))) (by decide) ?_
                refine da_off rfl (Eq.trans (show sl _ _ _ = .bool (!m24) from rfl) (congrArg Value.bool (congrArg not hc28))) (by decide) ?_
                refine da_off rfl (Eq.trans (show sl _ _ _ = .bool (!m24) from rfl) (congrArg Value.bool (congrArg not hc28))) (by decide) ?_
                refine da_off rfl (Eq.trans (show sl _ _ _ = .bool (!m24) from rfl) (congrArg Value.bool (congrArg not hc28))) (by decide) ?_
                refine da_off rfl (Eq.trans (show sl _ _ _ = .bool (!m24) from rfl) (congrArg Value.bool (congrArg not hc28))) (by decide) ?_
                refine da_off rfl (Eq.trans (show sl _ _ _ = .bool (!m24) from rfl) (congrArg Value.bool (congrArg not hc28))) (by decide) ?_
                refine da_off rfl (Eq.trans (show sl _ _ _ = .bool (!m24) from rfl) (congrArg Value.bool (congrArg not hc28))) (by decide) ?_
                refine da_off rfl (Eq.trans (show sl _ _ _ = .bool (!m24) from rfl) (congrArg Value.bool (congrArg not hc28))) (by decide) ?_
                refine da_op rfl (d_pick (b := true) (Eq.trans (show ev _ _ = .bool (!m24) from rfl) (congrArg Value.bool (congrArg not hc28))) ?_)
                refine da_nil ?_
                obtain rfl := Option.some.inj hr
                exact ⟨rfl, (Ext.trans (Ext.trans (Ext.refl wl9) E17) E26)⟩
            · skip
              replace hr := bif_f hr hc19
              refine da_off rfl (Eq.trans (show sl _ _ _ = .bool (!m16) from rfl) (congrArg Value.bool (congrArg not hc19))) (by decide) ?_
              refine da_off rfl (Eq.trans (show sl _ _ _ = .bool (!m16) from rfl) (congrArg Value.bool (congrArg not hc19))) (by decide) ?_
              refine da_off rfl (Eq.trans (show sl _ _ _ = .bool (!m16) from rfl) (congrArg Value.bool (congrArg not hc19))) (by decide) ?_
              refine da_off rfl (Eq.trans (show sl _ _ _ = .bool (!m16) from rfl) (congrArg Value.bool (congrArg not hc19))) (by decide) ?_
              refine da_off rfl (Eq.trans (show sl _ _ _ = .bool (!m16) from rfl) (congrArg Value.bool (congrArg not hc19))) (by decide) ?_
              refine da_off rfl (Eq.trans (show sl _ _ _ = .bool (!m16) from rfl) (congrArg Value.bool (congrArg not hc19))) (by decide) ?_
              refine da_off rfl (Eq.trans (show sl _ _ _ = .bool (!m16) from rfl) (congrArg Value.bool (congrArg not hc19))) (by decide) ?_
              refine da_off rfl (Eq.trans (show sl _ _ _ = .bool (!m16) from rfl) (congrArg Value.bool (congrArg not hc19))) (by decide) ?_
              refine da_off rfl (Eq.trans (show sl _ _ _ = .bool (!m16) from rfl) (congrArg Value.bool (congrArg not hc19))) (by decide) ?_
              refine da_op rfl (d_pick (b := true) (Eq.trans (show ev _ _ = .bool (!m16) from rfl) (congrArg Value.bool (congrArg not hc19))) ?_)
              refine da_op rfl (d_mv (v := .bool true) rfl ?_)
              refine da_off rfl rfl (by decide) ?_
              refine da_off rfl rfl (by decide) ?_
              refine da_off rfl rfl (by decide) ?_
              refine da_off rfl rfl (by decide) ?_
              refine da_off rfl rfl (by decide) ?_
              refine da_off rfl rfl (by decide) ?_
              refine da_off rfl rfl (by decide) ?_
              refine da_off rfl rfl (by decide) ?_
              refine da_off rfl rfl (by decide) ?_
              refine da_op rfl (d_pick (b := true) rfl ?_)
              refine da_nil ?_
              obtain rfl := Option.some.inj hr
              exact ⟨rfl, (Ext.trans (Ext.refl wl9) E17)⟩
          · skip
            rintro σ11 w11 o11 ⟨s78_11, E11⟩
            have s45_11 : σ11 45 = .int .i64 s9 := (o11 45 rfl).trans i9_S45
            have s0_11 : σ11 0 = .pointer (some ⟨p0b, p0o, none⟩) := (o11 0 rfl).trans i9_S0
            have s3_11 : σ11 3 = .int .i64 ((p0.places).length : Int) := (o11 3 rfl).trans i9_S3
            have s44_11 : σ11 44 = .int .i64 ((p0.places).length : Int) := (o11 44 rfl).trans i9_S44
            have X38 : Ext w w11 := i9_X.trans E11
            refine W_cond (b := m11) s78_11 (fun hc39 => ?_) (fun hc39 => ?_)
            · skip
              replace hr := bif_t hr hc39
              refine W_seq ?_
              refine W_region rfl ?_
              refine da_op rfl (d_as (v := .bool false) rfl ?_)
              refine da_nil ?_
              refine W_ret ?_
              obtain rfl := Option.some.inj hr
              exact ⟨_, rfl, rfl, rfl, X38⟩
            · skip
              replace hr := bif_f hr hc39
              refine W_skip ?_
              refine W_region rfl ?_
              refine da_op rfl (d_iarith s45_11 rfl (.inl ⟨rfl, rfl⟩) ?_)
              refine da_op rfl (d_mv (v := .int .i64 (IntKind.i64.wrap (s9 + 1))) rfl ?_)
              refine da_nil ?_
              obtain rfl := Option.some.inj hr
              exact ⟨_, rfl, ⟨rfl, s0_11, s3_11, s44_11, X38⟩⟩
        · skip
          replace hr := bif_f hr hc10
          refine W_exit ?_
          obtain rfl := Option.some.inj hr
          exact ⟨_, rfl, rfl, i9_S0, i9_S3, i9_X⟩
      · skip
        intro ex σx9 wx9 hq
        rcases m9 with m9 | m9
        · skip
          obtain ⟨rfl, q9_0_S0, q9_0_S3, q9_0_X⟩ := hq
          refine W_seq ?_
          refine W_seq ?_
          refine W_region rfl ?_
          refine da_op rfl (d_mv (v := .pointer (some ⟨p0b, p0o, none⟩)) q9_0_S0 ?_)
          refine da_op rfl (d_nil rfl ?_)
          refine da_op rfl (d_fieldAddr rfl (fa51_3 _ _) ?_)
          have B40 : wx9.heap[p0b]? = some (.cells p0c p0T p0f) := q9_0_X.heap p0B
          refine da_op rfl (d_load (v := (Value.slice p0v3a p0v3n p0v3c)) rfl agg49 B40 (sub_get (vs := #[(Value.slice p0v0a p0v0n p0v0c), (Value.slice p0v1a p0v1n p0v1c), (Value.slice p0v2a p0v2n p0v2c), (Value.slice p0v3a p0v3n p0v3c)]) p0P (i := 3) rfl) ?_)
          have B41 : RS wx9 encSRod (Value.slice p0v3a p0v3n p0v3c) p0.rods := p0v3R.ext q9_0_X
          refine da_op rfl (d_len (e := encSRod) un49 rfl B41 ?_)
          refine da_op rfl (d_mv (v := .int .i64 0) rfl ?_)
          refine da_nil ?_
          refine W_block ?_
          obtain ⟨m42, hm42, hr⟩ := bind_out hr
          refine W_loopM hm42 (fun (s42 : Int) σ w' => σ 85 = .int .i64 s42 ∧ σ 0 = .pointer (some ⟨p0b, p0o, none⟩) ∧ σ 3 = .int .i64 ((p0.places).length : Int) ∧ σ 84 = .int .i64 ((p0.rods).length : Int) ∧ Ext w w') (fun (e42 : (Unit ⊕ Bool)) ex σ w' => sel e42 (fun e42 => ex = .exit 2 ∧ Ext w w') (fun e42 => ex = .ret ∧ σ 2 = .bool e42 ∧ Ext w w')) ⟨rfl, q9_0_S0, q9_0_S3, rfl, q9_0_X⟩ ?_ ?_
          · skip
            rintro s42 σl42 wl42 r42l ⟨i42_S85, i42_S0, i42_S3, i42_S84, i42_X⟩ hr
            refine W_seq ?_
            refine W_region rfl ?_
            refine da_op rfl (d_icmp cLss i42_S85 i42_S84 ?_)
            refine da_nil ?_
            refine W_seq ?_
            refine W_cond (b := (icmp .lss s42 ((p0.rods).length : Int))) rfl (fun hc43 => ?_) (fun hc43 => ?_)
            · skip
              replace hr := bif_t hr hc43
              refine W_skip ?_
              refine W_seq ?_
              refine W_block ?_
              refine W_seq ?_
              refine W_region rfl ?_
              refine da_op rfl (d_mv (v := .int .i64 s42) i42_S85 ?_)
              refine da_op rfl (d_as (v := .int .i64 s42) rfl ?_)
              refine da_nil ?_
              refine W_seq ?_
              refine W_region rfl ?_
              refine da_op rfl (d_mv (v := .pointer (some ⟨p0b, p0o, none⟩)) i42_S0 ?_)
              refine da_op rfl (d_nil rfl ?_)
              refine da_op rfl (d_fieldAddr rfl (fa51_3 _ _) ?_)
              have B44 : wl42.heap[p0b]? = some (.cells p0c p0T p0f) := i42_X.heap p0B
              refine da_op rfl (d_load (v := (Value.slice p0v3a p0v3n p0v3c)) rfl agg49 B44 (sub_get (vs := #[(Value.slice p0v0a p0v0n p0v0c), (Value.slice p0v1a p0v1n p0v1c), (Value.slice p0v2a p0v2n p0v2c), (Value.slice p0v3a p0v3n p0v3c)]) p0P (i := 3) rfl) ?_)
              refine da_op rfl (d_mv (v := .int .i64 s42) rfl ?_)
              obtain ⟨m45, hm45, hr⟩ := bind_out hr
              have B47 : RS wl42 encSRod (Value.slice p0v3a p0v3n p0v3c) p0.rods := p0v3R.ext i42_X
              refine da_op rfl (d_index (e := encSRod) (v := (Value.slice p0v3a p0v3n p0v3c)) un49 size104 rfl rfl B47 hm45 fun g46 o46 cu46 T46 fr46 vs46 hv46 hg46 hp46 hq46 => ?_)
              obtain ⟨e46_r2, rfl, e46_h2⟩ := dec_encSRod hq46
              refine da_op rfl (d_loads (vs := #[.int .i64 m45.a, .int .i64 m45.b, .float .f32 e46_r2]) rfl agg104 size104 hg46 (sub_take (vs := #[.int .i64 m45.a, .int .i64 m45.b, .float .f32 e46_r2]) (us := #[.int .i64 m45.a, .int .i64 m45.b, .float .f32 e46_r2]) (i := 0) hp46 rfl (Nat.le_of_ble_eq_true rfl)) ?_)
              refine da_op rfl (d_alloc (cs := #[.int .i64 0, .int .i64 0, .float .f32 0]) zero104 rfl fun w48 B48 E48 => ?_)
              have own49 : w.heap.size ≤ wl42.heap.size := Nat.le_trans i42_X.size (Nat.le_refl _)
              have sp50 : g46 ≠ wl42.heap.size := Nat.ne_of_lt (Nat.lt_of_lt_of_le (lt_heap hg46) (Nat.le_refl _))
              have X51 : Ext w w48 := i42_X.trans E48
              refine da_op rfl (d_store (vs := #[.int .i64 m45.a, .int .i64 m45.b, .float .f32 e46_r2]) rfl rfl B48 size104 (Nat.le_of_ble_eq_true rfl) rfl fun w52 S52 => ?_)
              have X53 : Ext w w52 := Ext.step X51 S52.frmb (fun k _ hk => hk ▸ own49)
              have B54 : w52.heap[wl42.heap.size]? = some (.cells #[.int .i64 m45.a, .int .i64 m45.b, .float .f32 e46_r2] 104 (0, 0)) := S52.here
              refine da_nil ?_
              refine W_seq ?_
              obtain ⟨m55, hm55, hr⟩ := letv_out hr
              refine W_cut (fun σ' w' => σ' 121 = .bool m55 ∧ Ext w52 w') rfl ?_ ?_
              · skip
                have hr := hm55
                refine da_op rfl (d_fieldAddr rfl (fa104_0 _ _) ?_)
                refine da_op rfl (d_load (v := .int .i64 m45.a) rfl agg2 B54 rfl ?_)
                refine da_op rfl (d_mv (v := .int .i64 ((p0.places).length : Int)) i42_S3 ?_)
                refine da_op rfl (d_iarith rfl rfl (.inr (.inl ⟨rfl, rfl⟩)) ?_)
                obtain ⟨m56, hm56, hr⟩ := letv_out hr
                refine da_op rfl (d_cl (vs := [.int .i64 m45.a, .int .i64 0, .int .i64 (IntKind.i64.wrap (((p0.places).length : Int) - 1))]) en48 (ac rfl (ac rfl (ac rfl rfl))) rfl ?_)
                refine (c48 m45.a 0 (IntKind.i64.wrap (((p0.places).length : Int) - 1)) m56 w52 hm56 ).mono ?_
                rintro _ w57 ⟨rfl, E57⟩
                refine ⟨_, rfl, ?_⟩
                have X58 : Ext w w57 := X53.trans E57
                refine da_op rfl (d_not rfl ?_)
                refine da_op rfl (d_mv (v := .bool (!m56)) rfl ?_)
                rcases Bool.eq_false_or_eq_true m56 with hc59 | hc59
                · skip
                  replace hr := bif_t hr hc59
                  refine da_on rfl (Eq.trans (show sl _ _ _ = .bool (!m56) from rfl) (congrArg Value.bool (congrArg not hc59))) (d_fieldAddr rfl (fa104_1 _ _) ?_)
                  have B60 : w57.heap[wl42.heap.size]? = some (.cells #[.int .i64 m45.a, .int .i64 m45.b, .float .f32 e46_r2] 104 (0, 0)) := E57.heap B54
                  refine da_on rfl (Eq.trans (show sl _ _ _ = .bool (!m56) from rfl) (congrArg Value.bool (congrArg not hc59))) (d_load (v := .int .i64 m45.b) rfl agg2 B60 rfl ?_)
                  refine da_on rfl (Eq.trans (show sl _ _ _ = .bool (!m56) from rfl) (congrArg Value.bool (congrArg not hc59))) (d_mv (v := .int .i64 ((p0.places).length : Int)) i42_S3 ?_)
                  refine da_on rfl (Eq.trans (show sl _ _ _ = .bool (!m56) from rfl) (congrArg Value.bool (congrArg not hc59))) (d_iarith rfl rfl (.inr (.inl ⟨rfl, rfl⟩)) ?_)
                  obtain ⟨m61, hm61, hr⟩ := letv_out hr
                  refine da_on rfl (Eq.trans (show sl _ _ _ = .bool (!m56) from rfl) (congrArg Value.bool (congrArg not hc59))) (d_cl (vs := [.int .i64 m45.b, .int .i64 0, .int .i64 (IntKind.i64.wrap (((p0.places).length : Int) - 1))]) en48 (ac rfl (ac rfl (ac rfl rfl))) rfl ?_)
                  refine (c48 m45.b 0 (IntKind.i64.wrap (((p0.places).length : Int) - 1)) m61 w57 hm61 ).mono ?_
                  rintro _ w62 ⟨rfl, E62⟩
                  refine ⟨_, rfl, ?_⟩
                  have X63 : Ext w w62 := X58.trans E62
                  refine da_on rfl (Eq.trans (show sl _ _ _ = .bool (!m56) from rfl) (congrArg Value.bool (congrArg not hc59))) (d_not rfl ?_)
                  refine da_op rfl (d_pick (b := false) (Eq.trans (show ev _ _ = .bool (!m56) from rfl) (congrArg Value.bool (congrArg not hc59))) ?_)
                  refine da_op rfl (d_mv (v := .bool (!m61)) rfl ?_)
                  rcases Bool.eq_false_or_eq_true m61 with hc64 | hc64
                  · skip
                    replace hr := bif_t hr hc64
                    refine da_on rfl (Eq.trans (show sl _ _ _ = .bool (!m61) from rfl) (congrArg Value.bool (congrArg not hc64))) (d_fieldAddr rfl (fa104_0 _ _) ?_)
                    have B65 : w62.heap[wl42.heap.size]? = some (.cells #[.int .i64 m45.a, .int .i64 m45.b, .float .f32 e46_r2] 104 (0, 0)) := E62.heap B60
                    refine da_on rfl (Eq.trans (show sl _ _ _ = .bool (!m61) from rfl) (congrArg Value.bool (congrArg not hc64))) (d_load (v := .int .i64 m45.a) rfl agg2 B65 rfl ?_)
                    refine da_on rfl (Eq.trans (show sl _ _ _ = .bool (!m61) from rfl) (congrArg Value.bool (congrArg not hc64))) (d_fieldAddr rfl (fa104_1 _ _) ?_)
                    refine da_on rfl (Eq.trans (show sl _ _ _ = .bool (!m61) from rfl) (congrArg Value.bool (congrArg not hc64))) (d_load (v := .int .i64 m45.b) rfl agg2 B65 rfl ?_)
                    refine da_on rfl (Eq.trans (show sl _ _ _ = .bool (!m61) from rfl) (congrArg Value.bool (congrArg not hc64))) (d_icmp cEql rfl rfl ?_)
                    refine da_op rfl (d_pick (b := false) (Eq.trans (show ev _ _ = .bool (!m61) from rfl) (congrArg Value.bool (congrArg not hc64))) ?_)
                    refine da_op rfl (d_mv (v := .bool (icmp .eql m45.a m45.b)) rfl ?_)
                    rcases Bool.eq_false_or_eq_true (icmp .eql m45.a m45.b) with hc66 | hc66
                    · skip
                      replace hr := bif_t hr hc66
                      refine da_off rfl (Eq.trans (show sl _ _ _ = .bool (icmp .eql m45.a m45.b) from rfl) (congrArg Value.bool hc66)) (by decide) ?_
                      refine da_off rfl (Eq.trans (show sl _ _ _ = .bool (icmp .eql m45.a m45.b) from rfl) (congrArg Value.bool hc66)) (by decide) ?_
                      refine da_off rfl (Eq.trans (show sl _ _ _ = .bool (icmp .eql m45.a m45.b) from rfl) (congrArg Value.bool hc66)) (by decide) ?_
                      refine da_off rfl (Eq.trans (show sl _ _ _ = .bool (icmp .eql m45.a m45.b) from rfl) (congrArg Value.bool hc66)) (by decide) ?_
                      refine da_op rfl (d_pick (b := true) (Eq.trans (show ev _ _ = .bool (icmp .eql m45.a m45.b) from rfl) (congrArg Value.bool hc66)) ?_)
                      refine da_nil ?_
                      subst hr
                      exact ⟨rfl, (Ext.trans (Ext.trans (Ext.refl w52) E57) E62)⟩
                    · skip
                      replace hr := bif_f hr hc66
                      refine da_on rfl (Eq.trans (show sl _ _ _ = .bool (icmp .eql m45.a m45.b) from rfl) (congrArg Value.bool hc66)) (d_fieldAddr rfl (fa104_2 _ _) ?_)
                      refine da_on rfl (Eq.trans (show sl _ _ _ = .bool (icmp .eql m45.a m45.b) from rfl) (congrArg Value.bool hc66)) (d_load (v := .float .f32 e46_r2) rfl agg22 B65 rfl ?_)
                      obtain ⟨m67, hm67, hr⟩ := letv_out hr
                      refine da_on rfl (Eq.trans (show sl _ _ _ = .bool (icmp .eql m45.a m45.b) from rfl) (congrArg Value.bool hc66)) (d_cl (vs := [.float .f32 e46_r2]) en117 (ac rfl rfl) rfl ?_)
                      refine (c117 m45.long e46_r2 m67 w62 hm67 e46_h2).mono ?_
                      rintro _ w68 ⟨rfl, E68⟩
                      refine ⟨_, rfl, ?_⟩
                      have X69 : Ext w w68 := X63.trans E68
                      refine da_on rfl (Eq.trans (show sl _ _ _ = .bool (icmp .eql m45.a m45.b) from rfl) (congrArg Value.bool hc66)) (d_not rfl ?_)
                      refine da_op rfl (d_pick (b := false) (Eq.trans (show ev _ _ = .bool (icmp .eql m45.a m45.b) from rfl) (congrArg Value.bool hc66)) ?_)
                      refine da_nil ?_
                      subst hr
                      exact ⟨rfl, (Ext.trans (Ext.trans (Ext.trans (Ext.refl w52) E57) E62) E68)⟩
                  · skip
                    replace hr := bif_f hr hc64
                    refine da_off rfl (Eq.trans (show sl _ _ _ = .bool (!m61) from rfl) (congrArg Value.bool (congrArg not hc64))) (by decide) ?_
                    refine da_off rfl (Eq.trans (show sl _ _ _ = .bool (!m61) from rfl) (congrArg Value.bool (congrArg not hc64))) (by decide) ?_
                    refine da_off rfl (Eq.trans (show sl _ _ _ = .bool (!m61) from rfl) (congrArg Value.bool (congrArg not hc64))) (by decide) ?_
                    refine da_off rfl (Eq.trans (show sl _ _ _ = .bool (!m61) from rfl) (congrArg Value.bool (congrArg not hc64))) (by decide) ?_
                    refine da_off rfl (Eq.trans (show sl _ _ _ = .bool (!m61) from rfl) (congrArg Value.bool (congrArg not hc64))) (by decide) ?_
                    refine da_op rfl (d_pick (b := true) (Eq.trans (show ev _ _ = .bool (!m61) from rfl) (congrArg Value.bool (congrArg not hc64))) ?_)
                    refine da_op rfl (d_mv (v := .bool true) rfl ?_)
                    refine da_off rfl rfl (by decide) ?_
                    refine da_off rfl rfl (by decide) ?_
                    refine da_off rfl rfl (by decide) ?_
                    refine da_off rfl rfl (by decide) ?_
                    refine da_op rfl (d_pick (b := true) rfl ?_)
                    refine da_nil ?_
                    subst hr
                    exact ⟨rfl, (Ext.trans (Ext.trans (Ext.refl w52) E57) E62)⟩
                · skip
                  replace hr := bif_f hr hc59
                  refine da_off rfl (Eq.trans (show sl _ _ _ = .bool (!m56) from rfl) (congrArg Value.bool (congrArg not hc59))) (by decide) ?_
                  refine da_off rfl (Eq.trans (show sl _ _ _ = .bool (!m56) from rfl) (congrArg Value.bool (congrArg not hc59))) (by decide) ?_
                  refine da_off rfl (Eq.trans (show sl _ _ _ = .bool (!m56) from rfl) (congrArg Value.bool (congrArg not hc59))) (by decide) ?_
                  refine da_off rfl (Eq.trans (show sl _ _ _ = .bool (!m56) from rfl) (congrArg Value.bool (congrArg not hc59))) (by decide) ?_
                  refine da_off rfl (Eq.trans (show sl _ _ _ = .bool (!m56) from rfl) (congrArg Value.bool (congrArg not hc59))) (by decide) ?_
                  refine da_off rfl (Eq.trans (show sl _ _ _ = .bool (!m56) from rfl) (congrArg Value.bool (congrArg not hc59))) (by decide) ?_
                  refine da_op rfl (d_pick (b := true) (Eq.trans (show ev _ _ = .bool (!m56) from rfl) (congrArg Value.bool (congrArg not hc59))) ?_)
                  refine da_op rfl (d_mv (v := .bool true) rfl ?_)
                  refine da_off rfl rfl (by decide) ?_
                  refine da_off rfl rfl (by decide) ?_
                  refine da_off rfl rfl (by decide) ?_
                  refine da_off rfl rfl (by decide) ?_
                  refine da_off rfl rfl (by decide) ?_
                  refine da_op rfl (d_pick (b := true) rfl ?_)
                  refine da_op rfl (d_mv (v := .bool true) rfl ?_)
                  refine da_off rfl rfl (by decide) ?_
                  refine da_off rfl rfl (by decide) ?_
                  refine da_off rfl rfl (by decide) ?_
                  refine da_off rfl rfl (by decide) ?_
                  refine da_op rfl (d_pick (b := true) rfl ?_)
                  refine da_nil ?_
                  subst hr
                  exact ⟨rfl, (Ext.trans (Ext.refl w52) E57)⟩
              · skip
                rintro σ55 w55 o55 ⟨s121_55, E55⟩
                have s85_55 : σ55 85 = .int .i64 s42 := (o55 85 rfl).trans i42_S85
                have s0_55 : σ55 0 = .pointer (some ⟨p0b, p0o, none⟩) := (o55 0 rfl).trans i42_S0
                have s3_55 : σ55 3 = .int .i64 ((p0.places).length : Int) := (o55 3 rfl).trans i42_S3
                have s84_55 : σ55 84 = .int .i64 ((p0.rods).length : Int) := (o55 84 rfl).trans i42_S84
                have X70 : Ext w w55 := X53.trans E55
                refine W_cond (b := m55) s121_55 (fun hc71 => ?_) (fun hc71 => ?_)
                · skip
                  replace hr := bif_t hr hc71
                  refine W_seq ?_
                  refine W_region rfl ?_
                  refine da_op rfl (d_as (v := .bool false) rfl ?_)
                  refine da_nil ?_
                  refine W_ret ?_
                  obtain rfl := Option.some.inj hr
                  exact ⟨_, rfl, rfl, rfl, X70⟩
                · skip
                  replace hr := bif_f hr hc71
                  refine W_skip ?_
                  refine W_region rfl ?_
                  refine da_op rfl (d_iarith s85_55 rfl (.inl ⟨rfl, rfl⟩) ?_)
                  refine da_op rfl (d_mv (v := .int .i64 (IntKind.i64.wrap (s42 + 1))) rfl ?_)
                  refine da_nil ?_
                  obtain rfl := Option.some.inj hr
                  exact ⟨_, rfl, ⟨rfl, s0_55, s3_55, s84_55, X70⟩⟩
            · skip
              replace hr := bif_f hr hc43
              refine W_exit ?_
              obtain rfl := Option.some.inj hr
              exact ⟨_, rfl, rfl, i42_X⟩
          · skip
            intro ex σx42 wx42 hq
            rcases m42 with m42 | m42
            · skip
              obtain ⟨rfl, q42_0_X⟩ := hq
              refine W_seq ?_
              refine W_region rfl ?_
              refine da_op rfl (d_as (v := .bool true) rfl ?_)
              refine da_nil ?_
              refine W_ret ?_
              obtain rfl := Option.some.inj hr
              refine ⟨_, res1 (rv_tmp rfl), ?_⟩
              exact ⟨rfl, q42_0_X⟩
            · skip
              obtain ⟨rfl, q42_1_S2, q42_1_X⟩ := hq
              obtain rfl := Option.some.inj hr
              refine ⟨_, res1 (rv_tmp q42_1_S2), ?_⟩
              exact ⟨rfl, q42_1_X⟩
        · skip
          obtain ⟨rfl, q9_1_S2, q9_1_X⟩ := hq
          obtain rfl := Option.some.inj hr
          refine ⟨_, res1 (rv_tmp q9_1_S2), ?_⟩
          exact ⟨rfl, q9_1_X⟩
set_option maxHeartbeats 4000000 in
theorem c68 (p0 : SChain) (p0v0a : Option Addr) (p0v0n : Nat) (p0v0c : Nat) (p0v1a : Option Addr) (p0v1n : Nat) (p0v1c : Nat) (p0v2a : Option Addr) (p0v2n : Nat) (p0v2c : Nat) (p0v3a : Option Addr) (p0v3n : Nat) (p0v3c : Nat) (r : SChain × Bool) (w : World) (hr : M.spec_l03Give p0 = some r) (p0v0R : RS w encSVector (Value.slice p0v0a p0v0n p0v0c) p0.places) (p0v1R : RS w encSVector (Value.slice p0v1a p0v1n p0v1c) p0.before) (p0v2R : RS w encF_f32 (Value.slice p0v2a p0v2n p0v2c) p0.weights) (p0v3R : RS w encSRod (Value.slice p0v3a p0v3n p0v3c) p0.rods) :
    Calls Try.prog 68 #[.agg #[(Value.slice p0v0a p0v0n p0v0c), (Value.slice p0v1a p0v1n p0v1c), (Value.slice p0v2a p0v2n p0v2c), (Value.slice p0v3a p0v3n p0v3c)]] w fun e w' => ∃ q0v0a : Option Addr, ∃ q0v0n : Nat, ∃ q0v0c : Nat, ∃ q0v1a : Option Addr, ∃ q0v1n : Nat, ∃ q0v1c : Nat, ∃ q0v2a : Option Addr, ∃ q0v2n : Nat, ∃ q0v2c : Nat, ∃ q0v3a : Option Addr, ∃ q0v3n : Nat, ∃ q0v3c : Nat, e = .returned (.tuple #[.agg #[(Value.slice q0v0a q0v0n q0v0c), (Value.slice q0v1a q0v1n q0v1c), (Value.slice q0v2a q0v2n q0v2c), (Value.slice q0v3a q0v3n q0v3c)], .bool r.2]) ∧ Hand (Value.slice p0v0a p0v0n p0v0c) p0.places (Value.slice q0v0a q0v0n q0v0c) r.1.places ∧ Hand (Value.slice p0v1a p0v1n p0v1c) p0.before (Value.slice q0v1a q0v1n q0v1c) r.1.before ∧ Hand (Value.slice p0v2a p0v2n p0v2c) p0.weights (Value.slice q0v2a q0v2n q0v2c) r.1.weights ∧ Hand (Value.slice p0v3a p0v3n p0v3c) p0.rods (Value.slice q0v3a q0v3n q0v3c) r.1.rods ∧ Ext w w' := by
  refine calls_of_W Try.func68 rfl (Nat.le_of_ble_eq_true rfl) ?_
  refine W_seq ?_
  refine W_region rfl ?_
  refine da_op rfl (d_box (cs := #[(Value.slice p0v0a p0v0n p0v0c), (Value.slice p0v1a p0v1n p0v1c), (Value.slice p0v2a p0v2n p0v2c), (Value.slice p0v3a p0v3n p0v3c)]) rfl fun w1 B1 E1 => ?_)
  have own2 : w.heap.size ≤ w.heap.size := Nat.le_trans (Ext.refl w).size (Nat.le_refl _)
  have X3 : Ext w w1 := (Ext.refl w).trans E1
  refine da_op rfl (d_alloc (cs := #[.slice none 0 0, .slice none 0 0, .slice none 0 0, .slice none 0 0]) zero51 rfl fun w4 B4 E4 => ?_)
  have own5 : w.heap.size ≤ w1.heap.size := Nat.le_trans X3.size (Nat.le_refl _)
  have sp6 : w.heap.size ≠ w1.heap.size := Nat.ne_of_lt (Nat.lt_of_lt_of_le (lt_heap B1) (Nat.le_refl _))
  have X7 : Ext w w4 := X3.trans E4
  refine da_op rfl (d_as (v := .bool false) rfl ?_)
  refine da_nil ?_
  refine W_seq ?_
  refine W_seq ?_
  refine W_region rfl ?_
  obtain ⟨m8, hm8, hr⟩ := bind_out hr
  have B9 : w4.heap[w.heap.size]? = some (.cells #[(Value.slice p0v0a p0v0n p0v0c), (Value.slice p0v1a p0v1n p0v1c), (Value.slice p0v2a p0v2n p0v2c), (Value.slice p0v3a p0v3n p0v3c)] 51 (0, 0)) := E4.heap B1
  have B10 : RS w4 encSVector (Value.slice p0v0a p0v0n p0v0c) p0.places := p0v0R.ext X7
  have B11 : RS w4 encSVector (Value.slice p0v1a p0v1n p0v1c) p0.before := p0v1R.ext X7
  have B12 : RS w4 encF_f32 (Value.slice p0v2a p0v2n p0v2c) p0.weights := p0v2R.ext X7
  have B13 : RS w4 encSRod (Value.slice p0v3a p0v3n p0v3c) p0.rods := p0v3R.ext X7
  refine da_op rfl (d_cl (vs := [.pointer (some ⟨w.heap.size, 0, none⟩)]) en102 (ac rfl rfl) rfl ?_)
  refine (c102 p0 w.heap.size 0 #[(Value.slice p0v0a p0v0n p0v0c), (Value.slice p0v1a p0v1n p0v1c), (Value.slice p0v2a p0v2n p0v2c), (Value.slice p0v3a p0v3n p0v3c)] 51 (0, 0) p0v0a p0v0n p0v0c p0v1a p0v1n p0v1c p0v2a p0v2n p0v2c p0v3a p0v3n p0v3c m8 w4 hm8 B10 B11 B12 B13 B9 rfl).mono ?_
  rintro _ w14 ⟨rfl, E14⟩
  refine ⟨_, rfl, ?_⟩
  have X15 : Ext w w14 := X7.trans E14
  refine da_op rfl (d_not rfl ?_)
  refine da_nil ?_
  refine W_cond (b := (!m8)) rfl (fun hc16 => ?_) (fun hc16 => ?_)
  · skip
    replace hr := bif_t hr hc16
    refine W_seq ?_
    refine W_region rfl ?_
    refine da_op rfl (d_bd (vs := []) (cs := #[.slice none 0 0, .slice none 0 0, .slice none 0 0, .slice none 0 0]) rfl (by kernel_rfl) ?_)
    have B17 : w14.heap[w1.heap.size]? = some (.cells #[.slice none 0 0, .slice none 0 0, .slice none 0 0, .slice none 0 0] 51 (0, 0)) := E14.heap B4
    refine da_op rfl (d_store (vs := #[.slice none 0 0, .slice none 0 0, .slice none 0 0, .slice none 0 0]) rfl rfl B17 size51 (Nat.le_of_ble_eq_true rfl) rfl fun w18 S18 => ?_)
    have X19 : Ext w w18 := Ext.step X15 S18.frmb (fun k _ hk => hk ▸ own5)
    have B20 : w18.heap[w1.heap.size]? = some (.cells #[.slice none 0 0, .slice none 0 0, .slice none 0 0, .slice none 0 0] 51 (0, 0)) := S18.here
    refine da_op rfl (d_as (v := .bool false) rfl ?_)
    refine da_nil ?_
    refine W_ret ?_
    obtain rfl := Option.some.inj hr
    refine ⟨_, res2 (rv_cells (vs := #[.slice none 0 0, .slice none 0 0, .slice none 0 0, .slice none 0 0]) rfl agg51 size51 B20 rfl) (rv_tmp rfl), ?_⟩
    exact ⟨none, 0, 0, none, 0, 0, none, 0, 0, none, 0, 0, rfl, (.inr ⟨rfl, rfl⟩), (.inr ⟨rfl, rfl⟩), (.inr ⟨rfl, rfl⟩), (.inr ⟨rfl, rfl⟩), X19⟩
  · skip
    replace hr := bif_f hr hc16
    refine W_skip ?_
    refine W_seq ?_
    refine W_region rfl ?_
    have B21 : w14.heap[w.heap.size]? = some (.cells #[(Value.slice p0v0a p0v0n p0v0c), (Value.slice p0v1a p0v1n p0v1c), (Value.slice p0v2a p0v2n p0v2c), (Value.slice p0v3a p0v3n p0v3c)] 51 (0, 0)) := E14.heap B9
    refine da_op rfl (d_loads (vs := #[(Value.slice p0v0a p0v0n p0v0c), (Value.slice p0v1a p0v1n p0v1c), (Value.slice p0v2a p0v2n p0v2c), (Value.slice p0v3a p0v3n p0v3c)]) rfl agg51 size51 B21 rfl ?_)
    have B22 : w14.heap[w1.heap.size]? = some (.cells #[.slice none 0 0, .slice none 0 0, .slice none 0 0, .slice none 0 0] 51 (0, 0)) := E14.heap B4
    refine da_op rfl (d_store (vs := #[(Value.slice p0v0a p0v0n p0v0c), (Value.slice p0v1a p0v1n p0v1c), (Value.slice p0v2a p0v2n p0v2c), (Value.slice p0v3a p0v3n p0v3c)]) rfl rfl B22 size51 (Nat.le_of_ble_eq_true rfl) rfl fun w23 S23 => ?_)
    have X24 : Ext w w23 := Ext.step X15 S23.frmb (fun k _ hk => hk ▸ own5)
    have B25 : w23.heap[w1.heap.size]? = some (.cells #[(Value.slice p0v0a p0v0n p0v0c), (Value.slice p0v1a p0v1n p0v1c), (Value.slice p0v2a p0v2n p0v2c), (Value.slice p0v3a p0v3n p0v3c)] 51 (0, 0)) := S23.here
    refine da_op rfl (d_as (v := .bool true) rfl ?_)
    refine da_nil ?_
    refine W_ret ?_
    obtain rfl := Option.some.inj hr
    refine ⟨_, res2 (rv_cells (vs := #[(Value.slice p0v0a p0v0n p0v0c), (Value.slice p0v1a p0v1n p0v1c), (Value.slice p0v2a p0v2n p0v2c), (Value.slice p0v3a p0v3n p0v3c)]) rfl agg51 size51 B25 rfl) (rv_tmp rfl), ?_⟩
    exact ⟨p0v0a, p0v0n, p0v0c, p0v1a, p0v1n, p0v1c, p0v2a, p0v2n, p0v2c, p0v3a, p0v3n, p0v3c, rfl, (.inl ⟨rfl, rfl⟩), (.inl ⟨rfl, rfl⟩), (.inl ⟨rfl, rfl⟩), (.inl ⟨rfl, rfl⟩), X24⟩
set_option maxHeartbeats 4000000 in
theorem c35 (p0 : Int) (p1 : Nat) (p2 : Nat) (p1r : Nat) (p2r : Nat) (r : SChain × Bool) (w : World) (hr : M.spec_RopeChain p0 p1 p2 = some r) (p1h : cn .f32 p1r = p1) (p2h : cn .f32 p2r = p2) :
    Calls Try.prog 35 #[.int .i64 p0, .float .f32 p1r, .float .f32 p2r] w fun e w' => ∃ q0v0a : Option Addr, ∃ q0v0n : Nat, ∃ q0v0c : Nat, ∃ q0v1a : Option Addr, ∃ q0v1n : Nat, ∃ q0v1c : Nat, ∃ q0v2a : Option Addr, ∃ q0v2n : Nat, ∃ q0v2c : Nat, ∃ q0v3a : Option Addr, ∃ q0v3n : Nat, ∃ q0v3c : Nat, e = .returned (.tuple #[.agg #[(Value.slice q0v0a q0v0n q0v0c), (Value.slice q0v1a q0v1n q0v1c), (Value.slice q0v2a q0v2n q0v2c), (Value.slice q0v3a q0v3n q0v3c)], .bool r.2]) ∧ OS w' 29 encSVector (Value.slice q0v0a q0v0n q0v0c) r.1.places ∧ (∀ k, (Value.slice q0v0a q0v0n q0v0c).ownBlock = some k → w.heap.size ≤ k) ∧ OS w' 29 encSVector (Value.slice q0v1a q0v1n q0v1c) r.1.before ∧ (∀ k, (Value.slice q0v1a q0v1n q0v1c).ownBlock = some k → w.heap.size ≤ k) ∧ OS w' 22 encF_f32 (Value.slice q0v2a q0v2n q0v2c) r.1.weights ∧ (∀ k, (Value.slice q0v2a q0v2n q0v2c).ownBlock = some k → w.heap.size ≤ k) ∧ OS w' 104 encSRod (Value.slice q0v3a q0v3n q0v3c) r.1.rods ∧ (∀ k, (Value.slice q0v3a q0v3n q0v3c).ownBlock = some k → w.heap.size ≤ k) ∧ (∀ k, (Value.slice q0v0a q0v0n q0v0c).ownBlock = some k → ¬ (Value.slice q0v1a q0v1n q0v1c).ownBlock = some k) ∧ (∀ k, (Value.slice q0v0a q0v0n q0v0c).ownBlock = some k → ¬ (Value.slice q0v2a q0v2n q0v2c).ownBlock = some k) ∧ (∀ k, (Value.slice q0v1a q0v1n q0v1c).ownBlock = some k → ¬ (Value.slice q0v2a q0v2n q0v2c).ownBlock = some k) ∧ (∀ k, (Value.slice q0v0a q0v0n q0v0c).ownBlock = some k → ¬ (Value.slice q0v3a q0v3n q0v3c).ownBlock = some k) ∧ (∀ k, (Value.slice q0v1a q0v1n q0v1c).ownBlock = some k → ¬ (Value.slice q0v3a q0v3n q0v3c).ownBlock = some k) ∧ (∀ k, (Value.slice q0v2a q0v2n q0v2c).ownBlock = some k → ¬ (Value.slice q0v3a q0v3n q0v3c).ownBlock = some k) ∧ Ext w w' := by
  refine calls_of_W Try.func35 rfl (Nat.le_of_ble_eq_true rfl) ?_
  refine W_seq ?_
  refine W_region rfl ?_
  refine da_op rfl (d_alloc (cs := #[.slice none 0 0, .slice none 0 0, .slice none 0 0, .slice none 0 0]) zero51 rfl fun w1 B1 E1 => ?_)
  have own2 : w.heap.size ≤ w.heap.size := Nat.le_trans (Ext.refl w).size (Nat.le_refl _)
  have X3 : Ext w w1 := (Ext.refl w).trans E1
  refine da_op rfl (d_as (v := .bool false) rfl ?_)
  refine da_nil ?_
  refine W_seq ?_
  refine W_seq ?_
  obtain ⟨m4, hm4, hr⟩ := letv_out hr
  refine W_cut (fun σ' w' => σ' 23 = .bool m4 ∧ Ext w1 w') rfl ?_ ?_
  · skip
    have hr := hm4
    refine da_op rfl (d_mv (v := .int .i64 p0) rfl ?_)
    obtain ⟨m5, hm5, hr⟩ := letv_out hr
    refine da_op rfl (d_cl (vs := [.int .i64 p0, .int .i64 2, .int .i64 24]) en48 (ac rfl (ac rfl (ac rfl rfl))) rfl ?_)
    refine (c48 p0 2 24 m5 w1 hm5 ).mono ?_
    rintro _ w6 ⟨rfl, E6⟩
    refine ⟨_, rfl, ?_⟩
    have X7 : Ext w w6 := X3.trans E6
    refine da_op rfl (d_not rfl ?_)
    refine da_op rfl (d_mv (v := .bool (!m5)) rfl ?_)
    rcases Bool.eq_false_or_eq_true m5 with hc8 | hc8
    · skip
      replace hr := bif_t hr hc8
      refine da_on rfl (Eq.trans (show sl _ _ _ = .bool (!m5) from rfl) (congrArg Value.bool (congrArg not hc8))) (d_mv (v := .float .f32 p1r) rfl ?_)
      obtain ⟨m9, hm9, hr⟩ := letv_out hr
      have B10 : w6.heap[w.heap.size]? = some (.cells #[.slice none 0 0, .slice none 0 0, .slice none 0 0, .slice none 0 0] 51 (0, 0)) := E6.heap B1
      refine da_on rfl (Eq.trans (show sl _ _ _ = .bool (!m5) from rfl) (congrArg Value.bool (congrArg not hc8))) (d_cl (vs := [.float .f32 p1r]) en66 (ac rfl rfl) rfl ?_)
      refine (c66 p1 p1r m9 w6 hm9 p1h).mono ?_
      rintro _ w11 ⟨rfl, E11⟩
      refine ⟨_, rfl, ?_⟩
      have X12 : Ext w w11 := X7.trans E11
      refine da_on rfl (Eq.trans (show sl _ _ _ = .bool (!m5) from rfl) (congrArg Value.bool (congrArg not hc8))) (d_not rfl ?_)
      refine da_op rfl (d_pick (b := false) (Eq.trans (show ev _ _ = .bool (!m5) from rfl) (congrArg Value.bool (congrArg not hc8))) ?_)
      refine da_op rfl (d_mv (v := .bool (!m9)) rfl ?_)
      rcases Bool.eq_false_or_eq_true m9 with hc13 | hc13
      · skip
        replace hr := bif_t hr hc13
        refine da_on rfl (Eq.trans (show sl _ _ _ = .bool (!m9) from rfl) (congrArg Value.bool (congrArg not hc13))) (d_mv (v := .float .f32 p2r) rfl ?_)
        obtain ⟨m14, hm14, hr⟩ := letv_out hr
        have B15 : w11.heap[w.heap.size]? = some (.cells #[.slice none 0 0, .slice none 0 0, .slice none 0 0, .slice none 0 0] 51 (0, 0)) := E11.heap B10
        refine da_on rfl (Eq.trans (show sl _ _ _ = .bool (!m9) from rfl) (congrArg Value.bool (congrArg not hc13))) (d_cl (vs := [.float .f32 p2r]) en66 (ac rfl rfl) rfl ?_)
        refine (c66 p2 p2r m14 w11 hm14 p2h).mono ?_
        rintro _ w16 ⟨rfl, E16⟩
        refine ⟨_, rfl, ?_⟩
        have X17 : Ext w w16 := X12.trans E16
        refine da_on rfl (Eq.trans (show sl _ _ _ = .bool (!m9) from rfl) (congrArg Value.bool (congrArg not hc13))) (d_not rfl ?_)
        refine da_op rfl (d_pick (b := false) (Eq.trans (show ev _ _ = .bool (!m9) from rfl) (congrArg Value.bool (congrArg not hc13))) ?_)
        refine da_nil ?_
        subst hr
        exact ⟨rfl, (Ext.trans (Ext.trans (Ext.trans (Ext.refl w1) E6) E11) E16)⟩
      · skip
        replace hr := bif_f hr hc13
        refine da_off rfl (Eq.trans (show sl _ _ _ = .bool (!m9) from rfl) (congrArg Value.bool (congrArg not hc13))) (by decide) ?_
        refine da_off rfl (Eq.trans (show sl _ _ _ = .bool (!m9) from rfl) (congrArg Value.bool (congrArg not hc13))) (by decide) ?_
        refine da_off rfl (Eq.trans (show sl _ _ _ = .bool (!m9) from rfl) (congrArg Value.bool (congrArg not hc13))) (by decide) ?_
        refine da_op rfl (d_pick (b := true) (Eq.trans (show ev _ _ = .bool (!m9) from rfl) (congrArg Value.bool (congrArg not hc13))) ?_)
        refine da_nil ?_
        subst hr
        exact ⟨rfl, (Ext.trans (Ext.trans (Ext.refl w1) E6) E11)⟩
    · skip
      replace hr := bif_f hr hc8
      refine da_off rfl (Eq.trans (show sl _ _ _ = .bool (!m5) from rfl) (congrArg Value.bool (congrArg not hc8))) (by decide) ?_
      refine da_off rfl (Eq.trans (show sl _ _ _ = .bool (!m5) from rfl) (congrArg Value.bool (congrArg not hc8))) (by decide) ?_
      refine da_off rfl (Eq.trans (show sl _ _ _ = .bool (!m5) from rfl) (congrArg Value.bool (congrArg not hc8))) (by decide) ?_
      refine da_op rfl (d_pick (b := true) (Eq.trans (show ev _ _ = .bool (!m5) from rfl) (congrArg Value.bool (congrArg not hc8))) ?_)
      refine da_op rfl (d_mv (v := .bool true) rfl ?_)
      refine da_off rfl rfl (by decide) ?_
      refine da_off rfl rfl (by decide) ?_
      refine da_off rfl rfl (by decide) ?_
      refine da_op rfl (d_pick (b := true) rfl ?_)
      refine da_nil ?_
      subst hr
      exact ⟨rfl, (Ext.trans (Ext.refl w1) E6)⟩
  · skip
    rintro σ4 w4 o4 ⟨s23_4, E4⟩
    have s0_4 : σ4 0 = .int .i64 p0 := (o4 0 rfl).trans rfl
    have s1_4 : σ4 1 = .float .f32 p1r := (o4 1 rfl).trans rfl
    have s2_4 : σ4 2 = .float .f32 p2r := (o4 2 rfl).trans rfl
    have s6_4 : σ4 6 = .pointer (some ⟨w.heap.size, 0, none⟩) := (o4 6 rfl).trans rfl
    have X18 : Ext w w4 := X3.trans E4
    refine W_cond (b := m4) s23_4 (fun hc19 => ?_) (fun hc19 => ?_)
    · skip
      replace hr := bif_t hr hc19
      refine W_seq ?_
      refine W_region rfl ?_
      refine da_op rfl (d_bd (vs := []) (cs := #[.slice none 0 0, .slice none 0 0, .slice none 0 0, .slice none 0 0]) rfl (by kernel_rfl) ?_)
      have B20 : w4.heap[w.heap.size]? = some (.cells #[.slice none 0 0, .slice none 0 0, .slice none 0 0, .slice none 0 0] 51 (0, 0)) := E4.heap B1
      refine da_op rfl (d_store (vs := #[.slice none 0 0, .slice none 0 0, .slice none 0 0, .slice none 0 0]) s6_4 rfl B20 size51 (Nat.le_of_ble_eq_true rfl) rfl fun w21 S21 => ?_)
      have X22 : Ext w w21 := Ext.step X18 S21.frmb (fun k _ hk => hk ▸ own2)
      have B23 : w21.heap[w.heap.size]? = some (.cells #[.slice none 0 0, .slice none 0 0, .slice none 0 0, .slice none 0 0] 51 (0, 0)) := S21.here
      refine da_op rfl (d_as (v := .bool false) rfl ?_)
      refine da_nil ?_
      refine W_ret ?_
      obtain rfl := Option.some.inj hr
      refine ⟨_, res2 (rv_cells (vs := #[.slice none 0 0, .slice none 0 0, .slice none 0 0, .slice none 0 0]) s6_4 agg51 size51 B23 rfl) (rv_tmp rfl), ?_⟩
      exact ⟨none, 0, 0, none, 0, 0, none, 0, 0, none, 0, 0, rfl, (OS.nil _ 29 encSVector), (fun k hk => by cases hk), (OS.nil _ 29 encSVector), (fun k hk => by cases hk), (OS.nil _ 22 encF_f32), (fun k hk => by cases hk), (OS.nil _ 104 encSRod), (fun k hk => by cases hk), (by intro k hk; cases hk), (by intro k hk; cases hk), (by intro k hk; cases hk), (by intro k hk; cases hk), (by intro k hk; cases hk), (by intro k hk; cases hk), X22⟩
    · skip
      replace hr := bif_f hr hc19
      refine W_skip ?_
      refine W_seq ?_
      refine W_region rfl ?_
      refine da_op rfl (d_bd (vs := []) (cs := #[.slice none 0 0, .slice none 0 0, .slice none 0 0, .slice none 0 0]) rfl (by kernel_rfl) ?_)
      have B25 : w4.heap[w.heap.size]? = some (.cells #[.slice none 0 0, .slice none 0 0, .slice none 0 0, .slice none 0 0] 51 (0, 0)) := E4.heap B1
      refine da_op rfl (d_alloc (cs := #[.slice none 0 0, .slice none 0 0, .slice none 0 0, .slice none 0 0]) zero51 rfl fun w24 B24 E24 => ?_)
      have own26 : w.heap.size ≤ w4.heap.size := Nat.le_trans X18.size (Nat.le_refl _)
      have sp27 : w.heap.size ≠ w4.heap.size := Nat.ne_of_lt (Nat.lt_of_lt_of_le (lt_heap B25) (Nat.le_refl _))
      have X28 : Ext w w24 := X18.trans E24
      refine da_op rfl (d_store (vs := #[.slice none 0 0, .slice none 0 0, .slice none 0 0, .slice none 0 0]) rfl rfl B24 size51 (Nat.le_of_ble_eq_true rfl) rfl fun w29 S29 => ?_)
      have X30 : Ext w w29 := Ext.step X28 S29.frmb (fun k _ hk => hk ▸ own26)
      have B31 : w29.heap[w4.heap.size]? = some (.cells #[.slice none 0 0, .slice none 0 0, .slice none 0 0, .slice none 0 0] 51 (0, 0)) := S29.here
      refine da_nil ?_
      refine W_seq ?_
      refine W_seq ?_
      refine W_region rfl ?_
      refine da_op rfl (d_as (v := .int .i64 0) rfl ?_)
      refine da_nil ?_
      refine W_block ?_
      have B33 : w29.heap[w.heap.size]? = some (.cells #[.slice none 0 0, .slice none 0 0, .slice none 0 0, .slice none 0 0] 51 (0, 0)) := S29.frmb.heap sp27 (E24.heap B25)
      obtain ⟨m32, hm32, hr⟩ := bind_out hr
      refine W_loopM hm32 (fun (s32 : Int × SChain) σ w' => ∃ i32_1v0a : Option Addr, ∃ i32_1v0n : Nat, ∃ i32_1v0c : Nat, ∃ i32_1v1a : Option Addr, ∃ i32_1v1n : Nat, ∃ i32_1v1c : Nat, ∃ i32_1v2a : Option Addr, ∃ i32_1v2n : Nat, ∃ i32_1v2c : Nat, ∃ i32_1v3a : Option Addr, ∃ i32_1v3n : Nat, ∃ i32_1v3c : Nat, σ 9 = .int .i64 s32.1 ∧ σ 0 = .int .i64 p0 ∧ σ 1 = .float .f32 p1r ∧ σ 2 = .float .f32 p2r ∧ σ 6 = .pointer (some ⟨w.heap.size, 0, none⟩) ∧ σ 8 = .pointer (some ⟨w4.heap.size, 0, none⟩) ∧ OS w' 29 encSVector (Value.slice i32_1v0a i32_1v0n i32_1v0c) s32.2.places ∧ (∀ k, (Value.slice i32_1v0a i32_1v0n i32_1v0c).ownBlock = some k → w.heap.size ≤ k) ∧ OS w' 29 encSVector (Value.slice i32_1v1a i32_1v1n i32_1v1c) s32.2.before ∧ (∀ k, (Value.slice i32_1v1a i32_1v1n i32_1v1c).ownBlock = some k → w.heap.size ≤ k) ∧ OS w' 22 encF_f32 (Value.slice i32_1v2a i32_1v2n i32_1v2c) s32.2.weights ∧ (∀ k, (Value.slice i32_1v2a i32_1v2n i32_1v2c).ownBlock = some k → w.heap.size ≤ k) ∧ OS w' 104 encSRod (Value.slice i32_1v3a i32_1v3n i32_1v3c) s32.2.rods ∧ (∀ k, (Value.slice i32_1v3a i32_1v3n i32_1v3c).ownBlock = some k → w.heap.size ≤ k) ∧ w'.heap[w4.heap.size]? = some (.cells #[(Value.slice i32_1v0a i32_1v0n i32_1v0c), (Value.slice i32_1v1a i32_1v1n i32_1v1c), (Value.slice i32_1v2a i32_1v2n i32_1v2c), (Value.slice i32_1v3a i32_1v3n i32_1v3c)] 51 (0, 0)) ∧ w'.heap[w.heap.size]? = some (.cells #[.slice none 0 0, .slice none 0 0, .slice none 0 0, .slice none 0 0] 51 (0, 0)) ∧ ¬ (Value.slice i32_1v0a i32_1v0n i32_1v0c).ownBlock = some w.heap.size ∧ ¬ (Value.slice i32_1v0a i32_1v0n i32_1v0c).ownBlock = some w4.heap.size ∧ ¬ (Value.slice i32_1v1a i32_1v1n i32_1v1c).ownBlock = some w.heap.size ∧ ¬ (Value.slice i32_1v1a i32_1v1n i32_1v1c).ownBlock = some w4.heap.size ∧ ¬ (Value.slice i32_1v2a i32_1v2n i32_1v2c).ownBlock = some w.heap.size ∧ ¬ (Value.slice i32_1v2a i32_1v2n i32_1v2c).ownBlock = some w4.heap.size ∧ ¬ (Value.slice i32_1v3a i32_1v3n i32_1v3c).ownBlock = some w.heap.size ∧ ¬ (Value.slice i32_1v3a i32_1v3n i32_1v3c).ownBlock = some w4.heap.size ∧ (∀ k, (Value.slice i32_1v0a i32_1v0n i32_1v0c).ownBlock = some k → ¬ (Value.slice i32_1v1a i32_1v1n i32_1v1c).ownBlock = some k) ∧ (∀ k, (Value.slice i32_1v0a i32_1v0n i32_1v0c).ownBlock = some k → ¬ (Value.slice i32_1v2a i32_1v2n i32_1v2c).ownBlock = some k) ∧ (∀ k, (Value.slice i32_1v1a i32_1v1n i32_1v1c).ownBlock = some k → ¬ (Value.slice i32_1v2a i32_1v2n i32_1v2c).ownBlock = some k) ∧ (∀ k, (Value.slice i32_1v0a i32_1v0n i32_1v0c).ownBlock = some k → ¬ (Value.slice i32_1v3a i32_1v3n i32_1v3c).ownBlock = some k) ∧ (∀ k, (Value.slice i32_1v1a i32_1v1n i32_1v1c).ownBlock = some k → ¬ (Value.slice i32_1v3a i32_1v3n i32_1v3c).ownBlock = some k) ∧ (∀ k, (Value.slice i32_1v2a i32_1v2n i32_1v2c).ownBlock = some k → ¬ (Value.slice i32_1v3a i32_1v3n i32_1v3c).ownBlock = some k) ∧ Ext w w') (fun (e32 : SChain) ex σ w' => ex = .exit 0 ∧ ∃ q32_0_0v0a : Option Addr, ∃ q32_0_0v0n : Nat, ∃ q32_0_0v0c : Nat, ∃ q32_0_0v1a : Option Addr, ∃ q32_0_0v1n : Nat, ∃ q32_0_0v1c : Nat, ∃ q32_0_0v2a : Option Addr, ∃ q32_0_0v2n : Nat, ∃ q32_0_0v2c : Nat, ∃ q32_0_0v3a : Option Addr, ∃ q32_0_0v3n : Nat, ∃ q32_0_0v3c : Nat, σ 6 = .pointer (some ⟨w.heap.size, 0, none⟩) ∧ σ 8 = .pointer (some ⟨w4.heap.size, 0, none⟩) ∧ OS w' 29 encSVector (Value.slice q32_0_0v0a q32_0_0v0n q32_0_0v0c) e32.places ∧ (∀ k, (Value.slice q32_0_0v0a q32_0_0v0n q32_0_0v0c).ownBlock = some k → w.heap.size ≤ k) ∧ OS w' 29 encSVector (Value.slice q32_0_0v1a q32_0_0v1n q32_0_0v1c) e32.before ∧ (∀ k, (Value.slice q32_0_0v1a q32_0_0v1n q32_0_0v1c).ownBlock = some k → w.heap.size ≤ k) ∧ OS w' 22 encF_f32 (Value.slice q32_0_0v2a q32_0_0v2n q32_0_0v2c) e32.weights ∧ (∀ k, (Value.slice q32_0_0v2a q32_0_0v2n q32_0_0v2c).ownBlock = some k → w.heap.size ≤ k) ∧ OS w' 104 encSRod (Value.slice q32_0_0v3a q32_0_0v3n q32_0_0v3c) e32.rods ∧ (∀ k, (Value.slice q32_0_0v3a q32_0_0v3n q32_0_0v3c).ownBlock = some k → w.heap.size ≤ k) ∧ w'.heap[w4.heap.size]? = some (.cells #[(Value.slice q32_0_0v0a q32_0_0v0n q32_0_0v0c), (Value.slice q32_0_0v1a q32_0_0v1n q32_0_0v1c), (Value.slice q32_0_0v2a q32_0_0v2n q32_0_0v2c), (Value.slice q32_0_0v3a q32_0_0v3n q32_0_0v3c)] 51 (0, 0)) ∧ w'.heap[w.heap.size]? = some (.cells #[.slice none 0 0, .slice none 0 0, .slice none 0 0, .slice none 0 0] 51 (0, 0)) ∧ ¬ (Value.slice q32_0_0v0a q32_0_0v0n q32_0_0v0c).ownBlock = some w.heap.size ∧ ¬ (Value.slice q32_0_0v0a q32_0_0v0n q32_0_0v0c).ownBlock = some w4.heap.size ∧ ¬ (Value.slice q32_0_0v1a q32_0_0v1n q32_0_0v1c).ownBlock = some w.heap.size ∧ ¬ (Value.slice q32_0_0v1a q32_0_0v1n q32_0_0v1c).ownBlock = some w4.heap.size ∧ ¬ (Value.slice q32_0_0v2a q32_0_0v2n q32_0_0v2c).ownBlock = some w.heap.size ∧ ¬ (Value.slice q32_0_0v2a q32_0_0v2n q32_0_0v2c).ownBlock = some w4.heap.size ∧ ¬ (Value.slice q32_0_0v3a q32_0_0v3n q32_0_0v3c).ownBlock = some w.heap.size ∧ ¬ (Value.slice q32_0_0v3a q32_0_0v3n q32_0_0v3c).ownBlock = some w4.heap.size ∧ (∀ k, (Value.slice q32_0_0v0a q32_0_0v0n q32_0_0v0c).ownBlock = some k → ¬ (Value.slice q32_0_0v1a q32_0_0v1n q32_0_0v1c).ownBlock = some k) ∧ (∀ k, (Value.slice q32_0_0v0a q32_0_0v0n q32_0_0v0c).ownBlock = some k → ¬ (Value.slice q32_0_0v2a q32_0_0v2n q32_0_0v2c).ownBlock = some k) ∧ (∀ k, (Value.slice q32_0_0v1a q32_0_0v1n q32_0_0v1c).ownBlock = some k → ¬ (Value.slice q32_0_0v2a q32_0_0v2n q32_0_0v2c).ownBlock = some k) ∧ (∀ k, (Value.slice q32_0_0v0a q32_0_0v0n q32_0_0v0c).ownBlock = some k → ¬ (Value.slice q32_0_0v3a q32_0_0v3n q32_0_0v3c).ownBlock = some k) ∧ (∀ k, (Value.slice q32_0_0v1a q32_0_0v1n q32_0_0v1c).ownBlock = some k → ¬ (Value.slice q32_0_0v3a q32_0_0v3n q32_0_0v3c).ownBlock = some k) ∧ (∀ k, (Value.slice q32_0_0v2a q32_0_0v2n q32_0_0v2c).ownBlock = some k → ¬ (Value.slice q32_0_0v3a q32_0_0v3n q32_0_0v3c).ownBlock = some k) ∧ Ext w w') ⟨none, 0, 0, none, 0, 0, none, 0, 0, none, 0, 0, rfl, s0_4, s1_4, s2_4, s6_4, rfl, (OS.nil _ 29 encSVector), (fun k hk => by cases hk), (OS.nil _ 29 encSVector), (fun k hk => by cases hk), (OS.nil _ 22 encF_f32), (fun k hk => by cases hk), (OS.nil _ 104 encSRod), (fun k hk => by cases hk), B31, B33, (by intro e; cases e), (by intro e; cases e), (by intro e; cases e), (by intro e; cases e), (by intro e; cases e), (by intro e; cases e), (by intro e; cases e), (by intro e; cases e), (by intro k hk; cases hk), (by intro k hk; cases hk), (by intro k hk; cases hk), (by intro k hk; cases hk), (by intro k hk; cases hk), (by intro k hk; cases hk), X30⟩ ?_ ?_
      · skip
        rintro s32 σl32 wl32 r32l ⟨i32_1v0a, i32_1v0n, i32_1v0c, i32_1v1a, i32_1v1n, i32_1v1c, i32_1v2a, i32_1v2n, i32_1v2c, i32_1v3a, i32_1v3n, i32_1v3c, i32_S9, i32_S0, i32_S1, i32_S2, i32_S6, i32_S8, i32_1v0R, i32_1v0O, i32_1v1R, i32_1v1O, i32_1v2R, i32_1v2O, i32_1v3R, i32_1v3O, i32_1B, i32_K0, i32_A0, i32_A1, i32_A2, i32_A3, i32_A4, i32_A5, i32_A6, i32_A7, i32_A8, i32_A9, i32_A10, i32_A11, i32_A12, i32_A13, i32_X⟩ hr
        refine W_seq ?_
        refine W_seq ?_
        refine W_region rfl ?_
        refine da_op rfl (d_mv (v := .int .i64 s32.1) i32_S9 ?_)
        refine da_op rfl (d_mv (v := .int .i64 p0) i32_S0 ?_)
        refine da_op rfl (d_icmp cLss rfl rfl ?_)
        refine da_nil ?_
        refine W_cond (b := (icmp .lss s32.1 p0)) rfl (fun hc34 => ?_) (fun hc34 => ?_)
        · skip
          replace hr := bif_t hr hc34
          refine W_skip ?_
          refine W_seq ?_
          refine W_block ?_
          refine W_seq ?_
          refine W_region rfl ?_
          refine da_op rfl (d_mv (v := .float .f32 p2r) i32_S2 ?_)
          refine da_op rfl (d_as (v := .float .f32 p2r) rfl ?_)
          refine da_nil ?_
          refine W_seq ?_
          refine W_seq ?_
          refine W_region rfl ?_
          refine da_op rfl (d_mv (v := .int .i64 s32.1) i32_S9 ?_)
          refine da_op rfl (d_icmp cEql rfl rfl ?_)
          refine da_nil ?_
          refine W_cond (b := (icmp .eql s32.1 0)) rfl (fun hc35 => ?_) (fun hc35 => ?_)
          · skip
            replace hr := bif_t hr hc35
            refine W_region rfl ?_
            refine da_op rfl (d_as (v := .float .f32 0) rfl ?_)
            refine da_nil ?_
            refine W_region rfl ?_
            refine da_op rfl (d_mv (v := .int .i64 s32.1) i32_S9 ?_)
            refine da_op rfl (d_ofInt un2 un22 rfl ?_)
            refine da_op rfl (d_mv (v := .float .f32 p1r) i32_S1 ?_)
            refine da_op rfl (d_fop (k := .f32) fMul rfl rfl (cn_fint _ _) p1h fun r36 w36 h36 _ E36 => ?_)
            have X37 : Ext w w36 := i32_X.trans E36
            refine da_op rfl (d_bd (vs := [(0, .float .f32 r36)]) (cs := #[.float .f32 r36, .float .f32 0, .float .f32 0]) (pc rfl rfl) (by kernel_rfl) ?_)
            refine da_op rfl (d_mv (v := .float .f32 0) rfl ?_)
            refine da_op rfl (d_cl (vs := [.pointer (some ⟨w4.heap.size, 0, none⟩), .agg #[.float .f32 r36, .float .f32 0, .float .f32 0], .float .f32 0]) en67 (ac i32_S8 (ac rfl (ac rfl rfl))) rfl ?_)
            refine calls_of_W Try.func67 rfl (Nat.le_of_ble_eq_true rfl) ?_
            refine W_seq ?_
            refine W_region rfl ?_
            have B39 : w36.heap[w.heap.size]? = some (.cells #[.slice none 0 0, .slice none 0 0, .slice none 0 0, .slice none 0 0] 51 (0, 0)) := E36.heap i32_K0
            have B40 : OS w36 29 encSVector (Value.slice i32_1v0a i32_1v0n i32_1v0c) s32.2.places := i32_1v0R.ext E36
            have B41 : OS w36 29 encSVector (Value.slice i32_1v1a i32_1v1n i32_1v1c) s32.2.before := i32_1v1R.ext E36
            have B42 : OS w36 22 encF_f32 (Value.slice i32_1v2a i32_1v2n i32_1v2c) s32.2.weights := i32_1v2R.ext E36
            have B43 : OS w36 104 encSRod (Value.slice i32_1v3a i32_1v3n i32_1v3c) s32.2.rods := i32_1v3R.ext E36
            have B44 : w36.heap[w4.heap.size]? = some (.cells #[(Value.slice i32_1v0a i32_1v0n i32_1v0c), (Value.slice i32_1v1a i32_1v1n i32_1v1c), (Value.slice i32_1v2a i32_1v2n i32_1v2c), (Value.slice i32_1v3a i32_1v3n i32_1v3c)] 51 (0, 0)) := E36.heap i32_1B
            refine da_op rfl (d_box (cs := #[.float .f32 r36, .float .f32 0, .float .f32 0]) rfl fun w38 B38 E38 => ?_)
            have own45 : w.heap.size ≤ w36.heap.size := Nat.le_trans X37.size (Nat.le_refl _)
            have sp46 : w.heap.size ≠ w36.heap.size := Nat.ne_of_lt (Nat.lt_of_lt_of_le (lt_heap B39) (Nat.le_refl _))
            have sp47 : ¬ (Value.slice i32_1v0a i32_1v0n i32_1v0c).ownBlock = some w36.heap.size := OS.ne_new B40 (Nat.le_refl _)
            have sp48 : ¬ (Value.slice i32_1v1a i32_1v1n i32_1v1c).ownBlock = some w36.heap.size := OS.ne_new B41 (Nat.le_refl _)
            have sp49 : ¬ (Value.slice i32_1v2a i32_1v2n i32_1v2c).ownBlock = some w36.heap.size := OS.ne_new B42 (Nat.le_refl _)
            have sp50 : ¬ (Value.slice i32_1v3a i32_1v3n i32_1v3c).ownBlock = some w36.heap.size := OS.ne_new B43 (Nat.le_refl _)
            have sp51 : w4.heap.size ≠ w36.heap.size := Nat.ne_of_lt (Nat.lt_of_lt_of_le (lt_heap B44) (Nat.le_refl _))
            have X52 : Ext w w38 := X37.trans E38
            refine da_nil ?_
            refine W_seq ?_
            have B54 : w38.heap[w.heap.size]? = some (.cells #[.slice none 0 0, .slice none 0 0, .slice none 0 0, .slice none 0 0] 51 (0, 0)) := E38.heap B39
            have B55 : OS w38 29 encSVector (Value.slice i32_1v0a i32_1v0n i32_1v0c) s32.2.places := B40.ext E38
            have B56 : OS w38 29 encSVector (Value.slice i32_1v1a i32_1v1n i32_1v1c) s32.2.before := B41.ext E38
            have B57 : OS w38 22 encF_f32 (Value.slice i32_1v2a i32_1v2n i32_1v2c) s32.2.weights := B42.ext E38
            have B58 : OS w38 104 encSRod (Value.slice i32_1v3a i32_1v3n i32_1v3c) s32.2.rods := B43.ext E38
            have B59 : w38.heap[w4.heap.size]? = some (.cells #[(Value.slice i32_1v0a i32_1v0n i32_1v0c), (Value.slice i32_1v1a i32_1v1n i32_1v1c), (Value.slice i32_1v2a i32_1v2n i32_1v2c), (Value.slice i32_1v3a i32_1v3n i32_1v3c)] 51 (0, 0)) := E38.heap B44
            obtain ⟨m60, hm60, hr⟩ := bind_out hr
            refine W_anyT 8 [fun k _ => (Value.slice i32_1v0a i32_1v0n i32_1v0c).ownBlock = some k] [{ V := fun _ v _ => v = (.pointer (some ⟨w4.heap.size, 0, none⟩)) }, { V := fun _ v _ => v = (.pointer (some ⟨w4.heap.size, 0, none⟩)) }, { V := fun _ v _ => v = (.pointer (some ⟨w4.heap.size, 0, none⟩)) }, { V := fun _ v _ => v = (.pointer (some ⟨w4.heap.size, 0, none⟩)) }, { V := fun _ v _ => v = (Value.slice i32_1v0a i32_1v0n i32_1v0c) }, { V := fun _ v _ => v = (.agg #[.float .f32 r36, .float .f32 0, .float .f32 0]) }, { V := fun _ v w' => ∃ d53_6a : Option Addr, ∃ d53_6n : Nat, ∃ d53_6c : Nat, v = (Value.slice d53_6a d53_6n d53_6c) ∧ (∀ k, (Value.slice d53_6a d53_6n d53_6c).ownBlock = some k → w38.heap.size ≤ k) ∧ OS w' 29 encSVector (Value.slice d53_6a d53_6n d53_6c) ([(⟨(fop .mul .f32 (fint .f32 s32.1) p1), 0, 0⟩ : SVector)]) }, ⟨fun _ v w' => ∃ d53_7a : Option Addr, ∃ d53_7n : Nat, ∃ d53_7c : Nat, v = (Value.slice d53_7a d53_7n d53_7c) ∧ (∀ k, (Value.slice d53_7a d53_7n d53_7c).ownBlock = some k → (Value.slice i32_1v0a i32_1v0n i32_1v0c).ownBlock = some k ∨ w38.heap.size ≤ k) ∧ OS w' 29 encSVector (Value.slice d53_7a d53_7n d53_7c) m60, some 0, fun w' => OS w' 29 encSVector (Value.slice i32_1v0a i32_1v0n i32_1v0c) s32.2.places⟩] mixed (by kernel_rfl) ⟨trivial, trivial, trivial, trivial, trivial, trivial, trivial, B55, trivial⟩ ⟨?_, ?_, ?_, ?_, ?_, ?_, ?_, ?_, trivial⟩ ?_
            · skip
              refine ⟨fun _ _ _ _ _ _ h _ => h, fun _ _ h _ => h, fun σ' w' hA hE hD hP => ?_⟩
              have t0 : σ' 0 = .pointer (some ⟨w4.heap.size, 0, none⟩) := (hA 0 rfl).trans rfl
              have B0_61 : w'.heap[w4.heap.size]? = some (.cells #[(Value.slice i32_1v0a i32_1v0n i32_1v0c), (Value.slice i32_1v1a i32_1v1n i32_1v1c), (Value.slice i32_1v2a i32_1v2n i32_1v2c), (Value.slice i32_1v3a i32_1v3n i32_1v3c)] 51 (0, 0)) := hE.heap (not_oth1 i32_A1) B59
              have B0_63 : OS w' 29 encSVector (Value.slice i32_1v1a i32_1v1n i32_1v1c) s32.2.before := B56.frm hE (fun k hk => (not_oth1 ((apart_symm i32_A8) k hk)))
              have B0_64 : OS w' 22 encF_f32 (Value.slice i32_1v2a i32_1v2n i32_1v2c) s32.2.weights := B57.frm hE (fun k hk => (not_oth1 ((apart_symm i32_A9) k hk)))
              have B0_65 : OS w' 104 encSRod (Value.slice i32_1v3a i32_1v3n i32_1v3c) s32.2.rods := B58.frm hE (fun k hk => (not_oth1 ((apart_symm i32_A11) k hk)))
              refine dg_op rfl (d_mv (v := .pointer (some ⟨w4.heap.size, 0, none⟩)) t0 ?_)
              exact ⟨rfl, own_none (Ext.refl w')⟩
            · skip
              refine ⟨fun _ _ _ _ _ _ h _ => h, fun _ _ h _ => h, fun σ' w' hA hE hD hP => ?_⟩
              have t0 : σ' 0 = .pointer (some ⟨w4.heap.size, 0, none⟩) := (hA 0 rfl).trans rfl
              have B0_66 : w'.heap[w4.heap.size]? = some (.cells #[(Value.slice i32_1v0a i32_1v0n i32_1v0c), (Value.slice i32_1v1a i32_1v1n i32_1v1c), (Value.slice i32_1v2a i32_1v2n i32_1v2c), (Value.slice i32_1v3a i32_1v3n i32_1v3c)] 51 (0, 0)) := hE.heap (not_oth1 i32_A1) B59
              have B0_68 : OS w' 29 encSVector (Value.slice i32_1v1a i32_1v1n i32_1v1c) s32.2.before := B56.frm hE (fun k hk => (not_oth1 ((apart_symm i32_A8) k hk)))
              have B0_69 : OS w' 22 encF_f32 (Value.slice i32_1v2a i32_1v2n i32_1v2c) s32.2.weights := B57.frm hE (fun k hk => (not_oth1 ((apart_symm i32_A9) k hk)))
              have B0_70 : OS w' 104 encSRod (Value.slice i32_1v3a i32_1v3n i32_1v3c) s32.2.rods := B58.frm hE (fun k hk => (not_oth1 ((apart_symm i32_A11) k hk)))
              refine dg_op rfl (d_mv (v := .pointer (some ⟨w4.heap.size, 0, none⟩)) t0 ?_)
              exact ⟨rfl, own_none (Ext.refl w')⟩
            · skip
              refine ⟨fun _ _ _ _ _ _ h _ => h, fun _ _ h _ => h, fun σ' w' hA hE hD hP => ?_⟩
              have t7 : σ' 7 = (.pointer (some ⟨w4.heap.size, 0, none⟩)) := hD 1 rfl
              have B0_71 : w'.heap[w4.heap.size]? = some (.cells #[(Value.slice i32_1v0a i32_1v0n i32_1v0c), (Value.slice i32_1v1a i32_1v1n i32_1v1c), (Value.slice i32_1v2a i32_1v2n i32_1v2c), (Value.slice i32_1v3a i32_1v3n i32_1v3c)] 51 (0, 0)) := hE.heap (not_oth1 i32_A1) B59
              have B0_73 : OS w' 29 encSVector (Value.slice i32_1v1a i32_1v1n i32_1v1c) s32.2.before := B56.frm hE (fun k hk => (not_oth1 ((apart_symm i32_A8) k hk)))
              have B0_74 : OS w' 22 encF_f32 (Value.slice i32_1v2a i32_1v2n i32_1v2c) s32.2.weights := B57.frm hE (fun k hk => (not_oth1 ((apart_symm i32_A9) k hk)))
              have B0_75 : OS w' 104 encSRod (Value.slice i32_1v3a i32_1v3n i32_1v3c) s32.2.rods := B58.frm hE (fun k hk => (not_oth1 ((apart_symm i32_A11) k hk)))
              refine dg_op rfl (d_nil t7 ?_)
              exact ⟨rfl, own_none (Ext.refl w')⟩
            · skip
              refine ⟨fun _ _ _ _ _ _ h _ => h, fun _ _ h _ => h, fun σ' w' hA hE hD hP => ?_⟩
              have t8 : σ' 8 = (.pointer (some ⟨w4.heap.size, 0, none⟩)) := hD 2 rfl
              have B0_76 : w'.heap[w4.heap.size]? = some (.cells #[(Value.slice i32_1v0a i32_1v0n i32_1v0c), (Value.slice i32_1v1a i32_1v1n i32_1v1c), (Value.slice i32_1v2a i32_1v2n i32_1v2c), (Value.slice i32_1v3a i32_1v3n i32_1v3c)] 51 (0, 0)) := hE.heap (not_oth1 i32_A1) B59
              have B0_78 : OS w' 29 encSVector (Value.slice i32_1v1a i32_1v1n i32_1v1c) s32.2.before := B56.frm hE (fun k hk => (not_oth1 ((apart_symm i32_A8) k hk)))
              have B0_79 : OS w' 22 encF_f32 (Value.slice i32_1v2a i32_1v2n i32_1v2c) s32.2.weights := B57.frm hE (fun k hk => (not_oth1 ((apart_symm i32_A9) k hk)))
              have B0_80 : OS w' 104 encSRod (Value.slice i32_1v3a i32_1v3n i32_1v3c) s32.2.rods := B58.frm hE (fun k hk => (not_oth1 ((apart_symm i32_A11) k hk)))
              refine dg_op rfl (d_fieldAddr t8 (fa51_0 _ _) ?_)
              exact ⟨rfl, own_none (Ext.refl w')⟩
            · skip
              refine ⟨fun _ _ _ _ _ _ h _ => h, fun _ _ h _ => h, fun σ' w' hA hE hD hP => ?_⟩
              have t9 : σ' 9 = (.pointer (some ⟨w4.heap.size, 0, none⟩)) := hD 3 rfl
              have B0_81 : w'.heap[w4.heap.size]? = some (.cells #[(Value.slice i32_1v0a i32_1v0n i32_1v0c), (Value.slice i32_1v1a i32_1v1n i32_1v1c), (Value.slice i32_1v2a i32_1v2n i32_1v2c), (Value.slice i32_1v3a i32_1v3n i32_1v3c)] 51 (0, 0)) := hE.heap (not_oth1 i32_A1) B59
              have B0_82 : OS w' 29 encSVector (Value.slice i32_1v0a i32_1v0n i32_1v0c) s32.2.places := (hP 7 _ _ rfl rfl (.inr rfl)).1
              have B0_83 : OS w' 29 encSVector (Value.slice i32_1v1a i32_1v1n i32_1v1c) s32.2.before := B56.frm hE (fun k hk => (not_oth1 ((apart_symm i32_A8) k hk)))
              have B0_84 : OS w' 22 encF_f32 (Value.slice i32_1v2a i32_1v2n i32_1v2c) s32.2.weights := B57.frm hE (fun k hk => (not_oth1 ((apart_symm i32_A9) k hk)))
              have B0_85 : OS w' 104 encSRod (Value.slice i32_1v3a i32_1v3n i32_1v3c) s32.2.rods := B58.frm hE (fun k hk => (not_oth1 ((apart_symm i32_A11) k hk)))
              refine dg_op rfl (d_load (v := (Value.slice i32_1v0a i32_1v0n i32_1v0c)) t9 agg33 B0_81 rfl ?_)
              exact ⟨rfl, own_none (Ext.refl w')⟩
            · skip
              refine ⟨fun _ _ _ _ _ _ h _ => h, fun _ _ h _ => h, fun σ' w' hA hE hD hP => ?_⟩
              have t4 : σ' 4 = .pointer (some ⟨w36.heap.size, 0, none⟩) := (hA 4 rfl).trans rfl
              have B0_86 : w'.heap[w36.heap.size]? = some (.cells #[.float .f32 r36, .float .f32 0, .float .f32 0] 29 (0, 0)) := hE.heap (not_oth1 sp47) B38
              refine dg_op rfl (d_loads (vs := #[.float .f32 r36, .float .f32 0, .float .f32 0]) t4 agg29 size29 B0_86 rfl ?_)
              exact ⟨rfl, own_none (Ext.refl w')⟩
            · skip
              refine ⟨fun _ _ _ w' w'' _ ⟨d53_6a, d53_6n, d53_6c, hv, d53_6L, d53_6R⟩ hF => ⟨d53_6a, d53_6n, d53_6c, hv, d53_6L, d53_6R.frm hF (fun k hk => (not_oth1 (nb_row B55 (d53_6L k hk))))⟩, fun _ _ h _ => h, fun σ' w' hA hE hD hP => ?_⟩
              have t11 : σ' 11 = (.agg #[.float .f32 r36, .float .f32 0, .float .f32 0]) := hD 5 rfl
              refine dg_op rfl (d_bslice (vs := [(0, .agg #[.float .f32 r36, .float .f32 0, .float .f32 0])]) (cs := #[.float .f32 r36, .float .f32 0, .float .f32 0]) un33 (pc t11 rfl) (by kernel_rfl) fun w87 B87 E87 => ?_)
              have fr87 : ∀ k, (Value.slice (some ⟨w'.heap.size, 0, none⟩) 1 1).ownBlock = some k → w'.heap.size ≤ k := fun k hk => by cases hk; exact Nat.le_refl _
              have X88 : Ext w' w87 := (Ext.refl w').trans E87
              have O87 : OS w87 29 encSVector (Value.slice (some ⟨w'.heap.size, 0, none⟩) 1 1) [(⟨(fop .mul .f32 (fint .f32 s32.1) p1), 0, 0⟩ : SVector)] := OS.box (xs := [(⟨(fop .mul .f32 (fint .f32 s32.1) p1), 0, 0⟩ : SVector)]) B87 (lc_f h36 (lc_f cn_f32_0 (lc_f cn_f32_0 rfl))) (Nat.le_of_ble_eq_true rfl)
              exact ⟨⟨(some ⟨w'.heap.size, 0, none⟩), 1, 1, rfl, (fun k hk => Nat.le_trans hE.size (fr87 k hk)), O87⟩, own_none X88⟩
            · skip
              refine ⟨fun _ _ _ w' w'' _ ⟨d53_7a, d53_7n, d53_7c, hv, d53_7L, d53_7R⟩ hF => ⟨d53_7a, d53_7n, d53_7c, hv, d53_7L, d53_7R.frm hF (fun k hk => not_oth1s)⟩, fun _ _ h hF => h.frm hF (fun k hk => not_oth1s), fun σ' w' hA hE hD hP => ?_⟩
              have t10 : σ' 10 = (Value.slice i32_1v0a i32_1v0n i32_1v0c) := hD 4 rfl
              obtain ⟨d53_6a, d53_6n, d53_6c, t12, d53_6L, d53_6R⟩ : ∃ d53_6a : Option Addr, ∃ d53_6n : Nat, ∃ d53_6c : Nat, σ' 12 = (Value.slice d53_6a d53_6n d53_6c) ∧ (∀ k, (Value.slice d53_6a d53_6n d53_6c).ownBlock = some k → w38.heap.size ≤ k) ∧ OS w' 29 encSVector (Value.slice d53_6a d53_6n d53_6c) ([(⟨(fop .mul .f32 (fint .f32 s32.1) p1), 0, 0⟩ : SVector)]) := hD 6 rfl
              have B0_89 : OS w' 29 encSVector (Value.slice i32_1v0a i32_1v0n i32_1v0c) s32.2.places := (hP 7 _ _ rfl rfl (.inl rfl)).1
              refine dg_op rfl (d_append (e := encSVector) (v := (Value.slice i32_1v0a i32_1v0n i32_1v0c)) (y := (Value.slice d53_6a d53_6n d53_6c)) un33 info29 rfl (by kernel_rfl) (by kernel_rfl) (by decide) (by decide) t10 t12 B0_89 d53_6R.rs hm60 fun v90 w90 O90 Fm90 at_90 nl90 => ?_)
              obtain ⟨v90pa, v90pn, v90pc, rfl⟩ := O90.vals
              exact ⟨⟨v90pa, v90pn, v90pc, rfl, (app_loc at_90 hE.size), O90⟩, own_some (j := 0) rfl Fm90⟩
            · skip
              intro σ53 w53 A53 E53 V53
              have s6_53 : σ53 6 = (.pointer (some ⟨w4.heap.size, 0, none⟩)) := V53 0 (Nat.le_of_ble_eq_true rfl)
              obtain ⟨z53_13_7a, z53_13_7n, z53_13_7c, s13_53, z53_13_7L, z53_13_7R⟩ : ∃ z53_13_7a : Option Addr, ∃ z53_13_7n : Nat, ∃ z53_13_7c : Nat, σ53 13 = (Value.slice z53_13_7a z53_13_7n z53_13_7c) ∧ (∀ k, (Value.slice z53_13_7a z53_13_7n z53_13_7c).ownBlock = some k → (Value.slice i32_1v0a i32_1v0n i32_1v0c).ownBlock = some k ∨ w38.heap.size ≤ k) ∧ OS w53 29 encSVector (Value.slice z53_13_7a z53_13_7n z53_13_7c) m60 := V53 7 (Nat.le_of_ble_eq_true rfl)
              have own91 : ∀ k, (Value.slice z53_13_7a z53_13_7n z53_13_7c).ownBlock = some k → w.heap.size ≤ k := app_own2 z53_13_7L i32_1v0O X52.size
              have sp92 : ¬ (Value.slice z53_13_7a z53_13_7n z53_13_7c).ownBlock = some w.heap.size := app_nb2 z53_13_7L i32_A0 B54
              have sp93 : ∀ k, (Value.slice i32_1v1a i32_1v1n i32_1v1c).ownBlock = some k → ¬ (Value.slice z53_13_7a z53_13_7n z53_13_7c).ownBlock = some k := app_nr2 z53_13_7L (apart_symm i32_A8) B56
              have sp94 : ∀ k, (Value.slice i32_1v2a i32_1v2n i32_1v2c).ownBlock = some k → ¬ (Value.slice z53_13_7a z53_13_7n z53_13_7c).ownBlock = some k := app_nr2 z53_13_7L (apart_symm i32_A9) B57
              have sp95 : ∀ k, (Value.slice i32_1v3a i32_1v3n i32_1v3c).ownBlock = some k → ¬ (Value.slice z53_13_7a z53_13_7n z53_13_7c).ownBlock = some k := app_nr2 z53_13_7L (apart_symm i32_A11) B58
              have sp96 : ¬ (Value.slice z53_13_7a z53_13_7n z53_13_7c).ownBlock = some w4.heap.size := app_nb2 z53_13_7L i32_A1 B59
              have sp97 : ¬ (Value.slice z53_13_7a z53_13_7n z53_13_7c).ownBlock = some w36.heap.size := app_nb2 z53_13_7L sp47 B38
              have s0_53 : σ53 0 = .pointer (some ⟨w4.heap.size, 0, none⟩) := (A53 0 rfl).trans rfl
              have s2_53 : σ53 2 = .float .f32 0 := (A53 2 rfl).trans rfl
              have s4_53 : σ53 4 = .pointer (some ⟨w36.heap.size, 0, none⟩) := (A53 4 rfl).trans rfl
              have X98 : Ext w w53 := Ext.step X52 E53 (oth_own1 (fun k _ hk => i32_1v0O k hk))
              refine da_op rfl (d_nil s6_53 ?_)
              refine da_op rfl (d_fieldAddr rfl (fa51_0 _ _) ?_)
              have B99 : w53.heap[w4.heap.size]? = some (.cells #[(Value.slice i32_1v0a i32_1v0n i32_1v0c), (Value.slice i32_1v1a i32_1v1n i32_1v1c), (Value.slice i32_1v2a i32_1v2n i32_1v2c), (Value.slice i32_1v3a i32_1v3n i32_1v3c)] 51 (0, 0)) := E53.heap (not_oth1 i32_A1) B59
              refine da_op rfl (d_store (vs := #[(Value.slice z53_13_7a z53_13_7n z53_13_7c)]) rfl (congrArg Value.cells s13_53) B99 size33 (Nat.le_of_ble_eq_true rfl) rfl fun w100 S100 => ?_)
              have X101 : Ext w w100 := Ext.step X98 S100.frmb (fun k _ hk => hk ▸ own26)
              have B102 : w100.heap[w4.heap.size]? = some (.cells #[(Value.slice z53_13_7a z53_13_7n z53_13_7c), (Value.slice i32_1v1a i32_1v1n i32_1v1c), (Value.slice i32_1v2a i32_1v2n i32_1v2c), (Value.slice i32_1v3a i32_1v3n i32_1v3c)] 51 (0, 0)) := S100.here
              refine da_nil ?_
              refine W_seq ?_
              have B104 : w100.heap[w.heap.size]? = some (.cells #[.slice none 0 0, .slice none 0 0, .slice none 0 0, .slice none 0 0] 51 (0, 0)) := S100.frmb.heap sp27 (E53.heap (not_oth1 i32_A0) B54)
              have B105 : OS w100 29 encSVector (Value.slice i32_1v1a i32_1v1n i32_1v1c) s32.2.before := (B56.frm E53 (fun k hk => (not_oth1 ((apart_symm i32_A8) k hk)))).frm S100.frmb (rb i32_A3)
              have B106 : OS w100 22 encF_f32 (Value.slice i32_1v2a i32_1v2n i32_1v2c) s32.2.weights := (B57.frm E53 (fun k hk => (not_oth1 ((apart_symm i32_A9) k hk)))).frm S100.frmb (rb i32_A5)
              have B107 : OS w100 104 encSRod (Value.slice i32_1v3a i32_1v3n i32_1v3c) s32.2.rods := (B58.frm E53 (fun k hk => (not_oth1 ((apart_symm i32_A11) k hk)))).frm S100.frmb (rb i32_A7)
              have B108 : w100.heap[w36.heap.size]? = some (.cells #[.float .f32 r36, .float .f32 0, .float .f32 0] 29 (0, 0)) := S100.frmb.heap (Ne.symm sp51) (E53.heap (not_oth1 sp47) B38)
              have B109 : OS w100 29 encSVector (Value.slice z53_13_7a z53_13_7n z53_13_7c) m60 := z53_13_7R.frm S100.frmb (rb sp96)
              obtain ⟨m110, hm110, hr⟩ := bind_out hr
              refine W_anyT 8 [fun k _ => (Value.slice i32_1v1a i32_1v1n i32_1v1c).ownBlock = some k] [{ V := fun _ v _ => v = (.pointer (some ⟨w4.heap.size, 0, none⟩)) }, { V := fun _ v _ => v = (.pointer (some ⟨w4.heap.size, 0, none⟩)) }, { V := fun _ v _ => v = (.pointer (some ⟨w4.heap.size, 0, none⟩)) }, { V := fun _ v _ => v = (.pointer (some ⟨w4.heap.size, 1, none⟩)) }, { V := fun _ v _ => v = (Value.slice i32_1v1a i32_1v1n i32_1v1c) }, { V := fun _ v _ => v = (.agg #[.float .f32 r36, .float .f32 0, .float .f32 0]) }, { V := fun _ v w' => ∃ d103_6a : Option Addr, ∃ d103_6n : Nat, ∃ d103_6c : Nat, v = (Value.slice d103_6a d103_6n d103_6c) ∧ (∀ k, (Value.slice d103_6a d103_6n d103_6c).ownBlock = some k → w100.heap.size ≤ k) ∧ OS w' 29 encSVector (Value.slice d103_6a d103_6n d103_6c) ([(⟨(fop .mul .f32 (fint .f32 s32.1) p1), 0, 0⟩ : SVector)]) }, ⟨fun _ v w' => ∃ d103_7a : Option Addr, ∃ d103_7n : Nat, ∃ d103_7c : Nat, v = (Value.slice d103_7a d103_7n d103_7c) ∧ (∀ k, (Value.slice d103_7a d103_7n d103_7c).ownBlock = some k → (Value.slice i32_1v1a i32_1v1n i32_1v1c).ownBlock = some k ∨ w100.heap.size ≤ k) ∧ OS w' 29 encSVector (Value.slice d103_7a d103_7n d103_7c) m110, some 0, fun w' => OS w' 29 encSVector (Value.slice i32_1v1a i32_1v1n i32_1v1c) s32.2.before⟩] mixed (by kernel_rfl) ⟨trivial, trivial, trivial, trivial, trivial, trivial, trivial, B105, trivial⟩ ⟨?_, ?_, ?_, ?_, ?_, ?_, ?_, ?_, trivial⟩ ?_
              · skip
                refine ⟨fun _ _ _ _ _ _ h _ => h, fun _ _ h _ => h, fun σ' w' hA hE hD hP => ?_⟩
                have t0 : σ' 0 = .pointer (some ⟨w4.heap.size, 0, none⟩) := (hA 0 rfl).trans s0_53
                have B0_111 : w'.heap[w4.heap.size]? = some (.cells #[(Value.slice z53_13_7a z53_13_7n z53_13_7c), (Value.slice i32_1v1a i32_1v1n i32_1v1c), (Value.slice i32_1v2a i32_1v2n i32_1v2c), (Value.slice i32_1v3a i32_1v3n i32_1v3c)] 51 (0, 0)) := hE.heap (not_oth1 i32_A3) B102
                have B0_112 : OS w' 29 encSVector (Value.slice z53_13_7a z53_13_7n z53_13_7c) m60 := B109.frm hE (fun k hk => (not_oth1 ((apart_symm sp93) k hk)))
                have B0_114 : OS w' 22 encF_f32 (Value.slice i32_1v2a i32_1v2n i32_1v2c) s32.2.weights := B106.frm hE (fun k hk => (not_oth1 ((apart_symm i32_A10) k hk)))
                have B0_115 : OS w' 104 encSRod (Value.slice i32_1v3a i32_1v3n i32_1v3c) s32.2.rods := B107.frm hE (fun k hk => (not_oth1 ((apart_symm i32_A12) k hk)))
                refine dg_op rfl (d_mv (v := .pointer (some ⟨w4.heap.size, 0, none⟩)) t0 ?_)
                exact ⟨rfl, own_none (Ext.refl w')⟩
              · skip
                refine ⟨fun _ _ _ _ _ _ h _ => h, fun _ _ h _ => h, fun σ' w' hA hE hD hP => ?_⟩
                have t0 : σ' 0 = .pointer (some ⟨w4.heap.size, 0, none⟩) := (hA 0 rfl).trans s0_53
                have B0_116 : w'.heap[w4.heap.size]? = some (.cells #[(Value.slice z53_13_7a z53_13_7n z53_13_7c), (Value.slice i32_1v1a i32_1v1n i32_1v1c), (Value.slice i32_1v2a i32_1v2n i32_1v2c), (Value.slice i32_1v3a i32_1v3n i32_1v3c)] 51 (0, 0)) := hE.heap (not_oth1 i32_A3) B102
                have B0_117 : OS w' 29 encSVector (Value.slice z53_13_7a z53_13_7n z53_13_7c) m60 := B109.frm hE (fun k hk => (not_oth1 ((apart_symm sp93) k hk)))
                have B0_119 : OS w' 22 encF_f32 (Value.slice i32_1v2a i32_1v2n i32_1v2c) s32.2.weights := B106.frm hE (fun k hk => (not_oth1 ((apart_symm i32_A10) k hk)))
                have B0_120 : OS w' 104 encSRod (Value.slice i32_1v3a i32_1v3n i32_1v3c) s32.2.rods := B107.frm hE (fun k hk => (not_oth1 ((apart_symm i32_A12) k hk)))
                refine dg_op rfl (d_mv (v := .pointer (some ⟨w4.heap.size, 0, none⟩)) t0 ?_)
                exact ⟨rfl, own_none (Ext.refl w')⟩
              · skip
                refine ⟨fun _ _ _ _ _ _ h _ => h, fun _ _ h _ => h, fun σ' w' hA hE hD hP => ?_⟩
                have t17 : σ' 17 = (.pointer (some ⟨w4.heap.size, 0, none⟩)) := hD 1 rfl
                have B0_121 : w'.heap[w4.heap.size]? = some (.cells #[(Value.slice z53_13_7a z53_13_7n z53_13_7c), (Value.slice i32_1v1a i32_1v1n i32_1v1c), (Value.slice i32_1v2a i32_1v2n i32_1v2c), (Value.slice i32_1v3a i32_1v3n i32_1v3c)] 51 (0, 0)) := hE.heap (not_oth1 i32_A3) B102
                have B0_122 : OS w' 29 encSVector (Value.slice z53_13_7a z53_13_7n z53_13_7c) m60 := B109.frm hE (fun k hk => (not_oth1 ((apart_symm sp93) k hk)))
                have B0_124 : OS w' 22 encF_f32 (Value.slice i32_1v2a i32_1v2n i32_1v2c) s32.2.weights := B106.frm hE (fun k hk => (not_oth1 ((apart_symm i32_A10) k hk)))
                have B0_125 : OS w' 104 encSRod (Value.slice i32_1v3a i32_1v3n i32_1v3c) s32.2.rods := B107.frm hE (fun k hk => (not_oth1 ((apart_symm i32_A12) k hk)))
                refine dg_op rfl (d_nil t17 ?_)
                exact ⟨rfl, own_none (Ext.refl w')⟩
              · skip
                refine ⟨fun _ _ _ _ _ _ h _ => h, fun _ _ h _ => h, fun σ' w' hA hE hD hP => ?_⟩
                have t18 : σ' 18 = (.pointer (some ⟨w4.heap.size, 0, none⟩)) := hD 2 rfl
                have B0_126 : w'.heap[w4.heap.size]? = some (.cells #[(Value.slice z53_13_7a z53_13_7n z53_13_7c), (Value.slice i32_1v1a i32_1v1n i32_1v1c), (Value.slice i32_1v2a i32_1v2n i32_1v2c), (Value.slice i32_1v3a i32_1v3n i32_1v3c)] 51 (0, 0)) := hE.heap (not_oth1 i32_A3) B102
                have B0_127 : OS w' 29 encSVector (Value.slice z53_13_7a z53_13_7n z53_13_7c) m60 := B109.frm hE (fun k hk => (not_oth1 ((apart_symm sp93) k hk)))
                have B0_129 : OS w' 22 encF_f32 (Value.slice i32_1v2a i32_1v2n i32_1v2c) s32.2.weights := B106.frm hE (fun k hk => (not_oth1 ((apart_symm i32_A10) k hk)))
                have B0_130 : OS w' 104 encSRod (Value.slice i32_1v3a i32_1v3n i32_1v3c) s32.2.rods := B107.frm hE (fun k hk => (not_oth1 ((apart_symm i32_A12) k hk)))
                refine dg_op rfl (d_fieldAddr t18 (fa51_1 _ _) ?_)
                exact ⟨rfl, own_none (Ext.refl w')⟩
              · skip
                refine ⟨fun _ _ _ _ _ _ h _ => h, fun _ _ h _ => h, fun σ' w' hA hE hD hP => ?_⟩
                have t19 : σ' 19 = (.pointer (some ⟨w4.heap.size, 1, none⟩)) := hD 3 rfl
                have B0_131 : w'.heap[w4.heap.size]? = some (.cells #[(Value.slice z53_13_7a z53_13_7n z53_13_7c), (Value.slice i32_1v1a i32_1v1n i32_1v1c), (Value.slice i32_1v2a i32_1v2n i32_1v2c), (Value.slice i32_1v3a i32_1v3n i32_1v3c)] 51 (0, 0)) := hE.heap (not_oth1 i32_A3) B102
                have B0_132 : OS w' 29 encSVector (Value.slice z53_13_7a z53_13_7n z53_13_7c) m60 := B109.frm hE (fun k hk => (not_oth1 ((apart_symm sp93) k hk)))
                have B0_133 : OS w' 29 encSVector (Value.slice i32_1v1a i32_1v1n i32_1v1c) s32.2.before := (hP 7 _ _ rfl rfl (.inr rfl)).1
                have B0_134 : OS w' 22 encF_f32 (Value.slice i32_1v2a i32_1v2n i32_1v2c) s32.2.weights := B106.frm hE (fun k hk => (not_oth1 ((apart_symm i32_A10) k hk)))
                have B0_135 : OS w' 104 encSRod (Value.slice i32_1v3a i32_1v3n i32_1v3c) s32.2.rods := B107.frm hE (fun k hk => (not_oth1 ((apart_symm i32_A12) k hk)))
                refine dg_op rfl (d_load (v := (Value.slice i32_1v1a i32_1v1n i32_1v1c)) t19 agg33 B0_131 rfl ?_)
                exact ⟨rfl, own_none (Ext.refl w')⟩
              · skip
                refine ⟨fun _ _ _ _ _ _ h _ => h, fun _ _ h _ => h, fun σ' w' hA hE hD hP => ?_⟩
                have t4 : σ' 4 = .pointer (some ⟨w36.heap.size, 0, none⟩) := (hA 4 rfl).trans s4_53
                have B0_136 : w'.heap[w36.heap.size]? = some (.cells #[.float .f32 r36, .float .f32 0, .float .f32 0] 29 (0, 0)) := hE.heap (not_oth1 sp48) B108
                refine dg_op rfl (d_loads (vs := #[.float .f32 r36, .float .f32 0, .float .f32 0]) t4 agg29 size29 B0_136 rfl ?_)
                exact ⟨rfl, own_none (Ext.refl w')⟩
              · skip
                refine ⟨fun _ _ _ w' w'' _ ⟨d103_6a, d103_6n, d103_6c, hv, d103_6L, d103_6R⟩ hF => ⟨d103_6a, d103_6n, d103_6c, hv, d103_6L, d103_6R.frm hF (fun k hk => (not_oth1 (nb_row B105 (d103_6L k hk))))⟩, fun _ _ h _ => h, fun σ' w' hA hE hD hP => ?_⟩
                have t21 : σ' 21 = (.agg #[.float .f32 r36, .float .f32 0, .float .f32 0]) := hD 5 rfl
                refine dg_op rfl (d_bslice (vs := [(0, .agg #[.float .f32 r36, .float .f32 0, .float .f32 0])]) (cs := #[.float .f32 r36, .float .f32 0, .float .f32 0]) un33 (pc t21 rfl) (by kernel_rfl) fun w137 B137 E137 => ?_)
                have fr137 : ∀ k, (Value.slice (some ⟨w'.heap.size, 0, none⟩) 1 1).ownBlock = some k → w'.heap.size ≤ k := fun k hk => by cases hk; exact Nat.le_refl _
                have X138 : Ext w' w137 := (Ext.refl w').trans E137
                have O137 : OS w137 29 encSVector (Value.slice (some ⟨w'.heap.size, 0, none⟩) 1 1) [(⟨(fop .mul .f32 (fint .f32 s32.1) p1), 0, 0⟩ : SVector)] := OS.box (xs := [(⟨(fop .mul .f32 (fint .f32 s32.1) p1), 0, 0⟩ : SVector)]) B137 (lc_f h36 (lc_f cn_f32_0 (lc_f cn_f32_0 rfl))) (Nat.le_of_ble_eq_true rfl)
                exact ⟨⟨(some ⟨w'.heap.size, 0, none⟩), 1, 1, rfl, (fun k hk => Nat.le_trans hE.size (fr137 k hk)), O137⟩, own_none X138⟩
              · skip
                refine ⟨fun _ _ _ w' w'' _ ⟨d103_7a, d103_7n, d103_7c, hv, d103_7L, d103_7R⟩ hF => ⟨d103_7a, d103_7n, d103_7c, hv, d103_7L, d103_7R.frm hF (fun k hk => not_oth1s)⟩, fun _ _ h hF => h.frm hF (fun k hk => not_oth1s), fun σ' w' hA hE hD hP => ?_⟩
                have t20 : σ' 20 = (Value.slice i32_1v1a i32_1v1n i32_1v1c) := hD 4 rfl
                obtain ⟨d103_6a, d103_6n, d103_6c, t22, d103_6L, d103_6R⟩ : ∃ d103_6a : Option Addr, ∃ d103_6n : Nat, ∃ d103_6c : Nat, σ' 22 = (Value.slice d103_6a d103_6n d103_6c) ∧ (∀ k, (Value.slice d103_6a d103_6n d103_6c).ownBlock = some k → w100.heap.size ≤ k) ∧ OS w' 29 encSVector (Value.slice d103_6a d103_6n d103_6c) ([(⟨(fop .mul .f32 (fint .f32 s32.1) p1), 0, 0⟩ : SVector)]) := hD 6 rfl
                have B0_139 : OS w' 29 encSVector (Value.slice i32_1v1a i32_1v1n i32_1v1c) s32.2.before := (hP 7 _ _ rfl rfl (.inl rfl)).1
                refine dg_op rfl (d_append (e := encSVector) (v := (Value.slice i32_1v1a i32_1v1n i32_1v1c)) (y := (Value.slice d103_6a d103_6n d103_6c)) un33 info29 rfl (by kernel_rfl) (by kernel_rfl) (by decide) (by decide) t20 t22 B0_139 d103_6R.rs hm110 fun v140 w140 O140 Fm140 at_140 nl140 => ?_)
                obtain ⟨v140pa, v140pn, v140pc, rfl⟩ := O140.vals
                exact ⟨⟨v140pa, v140pn, v140pc, rfl, (app_loc at_140 hE.size), O140⟩, own_some (j := 0) rfl Fm140⟩
              · skip
                intro σ103 w103 A103 E103 V103
                have s16_103 : σ103 16 = (.pointer (some ⟨w4.heap.size, 0, none⟩)) := V103 0 (Nat.le_of_ble_eq_true rfl)
                obtain ⟨z103_23_7a, z103_23_7n, z103_23_7c, s23_103, z103_23_7L, z103_23_7R⟩ : ∃ z103_23_7a : Option Addr, ∃ z103_23_7n : Nat, ∃ z103_23_7c : Nat, σ103 23 = (Value.slice z103_23_7a z103_23_7n z103_23_7c) ∧ (∀ k, (Value.slice z103_23_7a z103_23_7n z103_23_7c).ownBlock = some k → (Value.slice i32_1v1a i32_1v1n i32_1v1c).ownBlock = some k ∨ w100.heap.size ≤ k) ∧ OS w103 29 encSVector (Value.slice z103_23_7a z103_23_7n z103_23_7c) m110 := V103 7 (Nat.le_of_ble_eq_true rfl)
                have own141 : ∀ k, (Value.slice z103_23_7a z103_23_7n z103_23_7c).ownBlock = some k → w.heap.size ≤ k := app_own2 z103_23_7L i32_1v1O X101.size
                have sp142 : ¬ (Value.slice z103_23_7a z103_23_7n z103_23_7c).ownBlock = some w.heap.size := app_nb2 z103_23_7L i32_A2 B104
                have sp143 : ∀ k, (Value.slice i32_1v2a i32_1v2n i32_1v2c).ownBlock = some k → ¬ (Value.slice z103_23_7a z103_23_7n z103_23_7c).ownBlock = some k := app_nr2 z103_23_7L (apart_symm i32_A10) B106
                have sp144 : ∀ k, (Value.slice i32_1v3a i32_1v3n i32_1v3c).ownBlock = some k → ¬ (Value.slice z103_23_7a z103_23_7n z103_23_7c).ownBlock = some k := app_nr2 z103_23_7L (apart_symm i32_A12) B107
                have sp145 : ¬ (Value.slice z103_23_7a z103_23_7n z103_23_7c).ownBlock = some w4.heap.size := app_nb2 z103_23_7L i32_A3 B102
                have sp146 : ¬ (Value.slice z103_23_7a z103_23_7n z103_23_7c).ownBlock = some w36.heap.size := app_nb2 z103_23_7L sp48 B108
                have sp147 : ∀ k, (Value.slice z53_13_7a z53_13_7n z53_13_7c).ownBlock = some k → ¬ (Value.slice z103_23_7a z103_23_7n z103_23_7c).ownBlock = some k := app_nr2 z103_23_7L (apart_symm sp93) B109
                have s0_103 : σ103 0 = .pointer (some ⟨w4.heap.size, 0, none⟩) := (A103 0 rfl).trans s0_53
                have s2_103 : σ103 2 = .float .f32 0 := (A103 2 rfl).trans s2_53
                have X148 : Ext w w103 := Ext.step X101 E103 (oth_own1 (fun k _ hk => i32_1v1O k hk))
                refine da_op rfl (d_nil s16_103 ?_)
                refine da_op rfl (d_fieldAddr rfl (fa51_1 _ _) ?_)
                have B149 : w103.heap[w4.heap.size]? = some (.cells #[(Value.slice z53_13_7a z53_13_7n z53_13_7c), (Value.slice i32_1v1a i32_1v1n i32_1v1c), (Value.slice i32_1v2a i32_1v2n i32_1v2c), (Value.slice i32_1v3a i32_1v3n i32_1v3c)] 51 (0, 0)) := E103.heap (not_oth1 i32_A3) B102
                refine da_op rfl (d_store (vs := #[(Value.slice z103_23_7a z103_23_7n z103_23_7c)]) rfl (congrArg Value.cells s23_103) B149 size33 (Nat.le_of_ble_eq_true rfl) rfl fun w150 S150 => ?_)
                have X151 : Ext w w150 := Ext.step X148 S150.frmb (fun k _ hk => hk ▸ own26)
                have B152 : w150.heap[w4.heap.size]? = some (.cells #[(Value.slice z53_13_7a z53_13_7n z53_13_7c), (Value.slice z103_23_7a z103_23_7n z103_23_7c), (Value.slice i32_1v2a i32_1v2n i32_1v2c), (Value.slice i32_1v3a i32_1v3n i32_1v3c)] 51 (0, 0)) := S150.here
                refine da_nil ?_
                refine W_region rfl ?_
                refine da_op rfl (d_mv (v := .pointer (some ⟨w4.heap.size, 0, none⟩)) s0_103 ?_)
                refine da_op rfl (d_mv (v := .pointer (some ⟨w4.heap.size, 0, none⟩)) s0_103 ?_)
                refine da_op rfl (d_nil rfl ?_)
                refine da_op rfl (d_fieldAddr rfl (fa51_2 _ _) ?_)
                refine da_op rfl (d_load (v := (Value.slice i32_1v2a i32_1v2n i32_1v2c)) rfl agg48 B152 rfl ?_)
                refine da_op rfl (d_mv (v := .float .f32 0) s2_103 ?_)
                have B154 : w150.heap[w.heap.size]? = some (.cells #[.slice none 0 0, .slice none 0 0, .slice none 0 0, .slice none 0 0] 51 (0, 0)) := S150.frmb.heap sp27 (E103.heap (not_oth1 i32_A2) B104)
                have B155 : OS w150 22 encF_f32 (Value.slice i32_1v2a i32_1v2n i32_1v2c) s32.2.weights := (B106.frm E103 (fun k hk => (not_oth1 ((apart_symm i32_A10) k hk)))).frm S150.frmb (rb i32_A5)
                have B156 : OS w150 104 encSRod (Value.slice i32_1v3a i32_1v3n i32_1v3c) s32.2.rods := (B107.frm E103 (fun k hk => (not_oth1 ((apart_symm i32_A12) k hk)))).frm S150.frmb (rb i32_A7)
                have B157 : OS w150 29 encSVector (Value.slice z53_13_7a z53_13_7n z53_13_7c) m60 := (B109.frm E103 (fun k hk => (not_oth1 ((apart_symm sp93) k hk)))).frm S150.frmb (rb sp96)
                have B158 : OS w150 29 encSVector (Value.slice z103_23_7a z103_23_7n z103_23_7c) m110 := z103_23_7R.frm S150.frmb (rb sp145)
                refine da_op rfl (d_bslice (vs := [(0, .float .f32 0)]) (cs := #[.float .f32 0]) un48 (pc rfl rfl) (by kernel_rfl) fun w153 B153 E153 => ?_)
                have fr153 : ∀ k, (Value.slice (some ⟨w150.heap.size, 0, none⟩) 1 1).ownBlock = some k → w150.heap.size ≤ k := fun k hk => by cases hk; exact Nat.le_refl _
                have own153 : ∀ k, (Value.slice (some ⟨w150.heap.size, 0, none⟩) 1 1).ownBlock = some k → w.heap.size ≤ k := fun k hk => Nat.le_trans X151.size (fr153 k hk)
                have sp159 : ¬ (Value.slice (some ⟨w150.heap.size, 0, none⟩) 1 1).ownBlock = some w.heap.size := ne_fresh fr153 (lt_heap B154)
                have sp160 : ∀ k, (Value.slice i32_1v2a i32_1v2n i32_1v2c).ownBlock = some k → ¬ (Value.slice (some ⟨w150.heap.size, 0, none⟩) 1 1).ownBlock = some k := apart_fresh B155 fr153
                have sp161 : ∀ k, (Value.slice i32_1v3a i32_1v3n i32_1v3c).ownBlock = some k → ¬ (Value.slice (some ⟨w150.heap.size, 0, none⟩) 1 1).ownBlock = some k := apart_fresh B156 fr153
                have sp162 : ¬ (Value.slice (some ⟨w150.heap.size, 0, none⟩) 1 1).ownBlock = some w4.heap.size := ne_fresh fr153 (lt_heap B152)
                have sp163 : ∀ k, (Value.slice z53_13_7a z53_13_7n z53_13_7c).ownBlock = some k → ¬ (Value.slice (some ⟨w150.heap.size, 0, none⟩) 1 1).ownBlock = some k := apart_fresh B157 fr153
                have sp164 : ∀ k, (Value.slice z103_23_7a z103_23_7n z103_23_7c).ownBlock = some k → ¬ (Value.slice (some ⟨w150.heap.size, 0, none⟩) 1 1).ownBlock = some k := apart_fresh B158 fr153
                have X165 : Ext w w153 := X151.trans E153
                have O153 : OS w153 22 encF_f32 (Value.slice (some ⟨w150.heap.size, 0, none⟩) 1 1) [0] := OS.box (xs := [0]) B153 (lc_f cn_f32_0 rfl) (Nat.le_of_ble_eq_true rfl)
                obtain ⟨m166, hm166, hr⟩ := bind_out hr
                have B167 : OS w153 22 encF_f32 (Value.slice i32_1v2a i32_1v2n i32_1v2c) s32.2.weights := B155.ext E153
                have B168 : w153.heap[w.heap.size]? = some (.cells #[.slice none 0 0, .slice none 0 0, .slice none 0 0, .slice none 0 0] 51 (0, 0)) := E153.heap B154
                have B169 : OS w153 104 encSRod (Value.slice i32_1v3a i32_1v3n i32_1v3c) s32.2.rods := B156.ext E153
                have B170 : w153.heap[w4.heap.size]? = some (.cells #[(Value.slice z53_13_7a z53_13_7n z53_13_7c), (Value.slice z103_23_7a z103_23_7n z103_23_7c), (Value.slice i32_1v2a i32_1v2n i32_1v2c), (Value.slice i32_1v3a i32_1v3n i32_1v3c)] 51 (0, 0)) := E153.heap B152
                have B171 : OS w153 29 encSVector (Value.slice z53_13_7a z53_13_7n z53_13_7c) m60 := B157.ext E153
                have B172 : OS w153 29 encSVector (Value.slice z103_23_7a z103_23_7n z103_23_7c) m110 := B158.ext E153
                refine da_op rfl (d_append (e := encF_f32) (v := (Value.slice i32_1v2a i32_1v2n i32_1v2c)) (y := (Value.slice (some ⟨w150.heap.size, 0, none⟩) 1 1)) un48 info22 rfl (by kernel_rfl) (by kernel_rfl) (by decide) (by decide) rfl rfl B167 O153.rs hm166 fun v173 w173 O173 Fm173 at_173 nl173 => ?_)
                obtain ⟨v173pa, v173pn, v173pc, rfl⟩ := O173.vals
                have own173 : ∀ k, (Value.slice v173pa v173pn v173pc).ownBlock = some k → w.heap.size ≤ k := app_own (w := w153) at_173 i32_1v2O X165.size
                have sp174 : ¬ (Value.slice v173pa v173pn v173pc).ownBlock = some w.heap.size := app_nb at_173 i32_A4 (lt_heap B168)
                have sp175 : ∀ k, (Value.slice i32_1v3a i32_1v3n i32_1v3c).ownBlock = some k → ¬ (Value.slice v173pa v173pn v173pc).ownBlock = some k := app_nr at_173 (apart_symm i32_A13) B169
                have sp176 : ¬ (Value.slice v173pa v173pn v173pc).ownBlock = some w4.heap.size := app_nb at_173 i32_A5 (lt_heap B170)
                have sp177 : ∀ k, (Value.slice z53_13_7a z53_13_7n z53_13_7c).ownBlock = some k → ¬ (Value.slice v173pa v173pn v173pc).ownBlock = some k := app_nr at_173 (apart_symm sp94) B171
                have sp178 : ∀ k, (Value.slice z103_23_7a z103_23_7n z103_23_7c).ownBlock = some k → ¬ (Value.slice v173pa v173pn v173pc).ownBlock = some k := app_nr at_173 (apart_symm sp143) B172
                have sp179 : ∀ k, (Value.slice (some ⟨w150.heap.size, 0, none⟩) 1 1).ownBlock = some k → ¬ (Value.slice v173pa v173pn v173pc).ownBlock = some k := app_nr at_173 (apart_symm sp160) O153
                have X180 : Ext w w173 := Ext.step X165 Fm173 (fun k _ hk => i32_1v2O k hk)
                refine da_op rfl (d_nil rfl ?_)
                refine da_op rfl (d_fieldAddr rfl (fa51_2 _ _) ?_)
                have B181 : w173.heap[w4.heap.size]? = some (.cells #[(Value.slice z53_13_7a z53_13_7n z53_13_7c), (Value.slice z103_23_7a z103_23_7n z103_23_7c), (Value.slice i32_1v2a i32_1v2n i32_1v2c), (Value.slice i32_1v3a i32_1v3n i32_1v3c)] 51 (0, 0)) := Fm173.heap i32_A5 B170
                refine da_op rfl (d_store (vs := #[(Value.slice v173pa v173pn v173pc)]) rfl rfl B181 size48 (Nat.le_of_ble_eq_true rfl) rfl fun w182 S182 => ?_)
                have X183 : Ext w w182 := Ext.step X180 S182.frmb (fun k _ hk => hk ▸ own26)
                have B184 : w182.heap[w4.heap.size]? = some (.cells #[(Value.slice z53_13_7a z53_13_7n z53_13_7c), (Value.slice z103_23_7a z103_23_7n z103_23_7c), (Value.slice v173pa v173pn v173pc), (Value.slice i32_1v3a i32_1v3n i32_1v3c)] 51 (0, 0)) := S182.here
                refine da_nil ?_
                refine ⟨_, res0 , ?_⟩
                refine ⟨_, rfl, ?_⟩
                refine da_nil ?_
                refine W_region rfl ?_
                refine da_op rfl (d_mv (v := .int .i64 s32.1) i32_S9 ?_)
                refine da_op rfl (d_iarith rfl rfl (.inl ⟨rfl, rfl⟩) ?_)
                refine da_op rfl (d_as (v := .int .i64 (IntKind.i64.wrap (s32.1 + 1))) rfl ?_)
                refine da_nil ?_
                have B185 : OS w182 29 encSVector (Value.slice z53_13_7a z53_13_7n z53_13_7c) m60 := (B171.frm Fm173 (apart_symm sp94)).frm S182.frmb (rb sp96)
                have B186 : OS w182 29 encSVector (Value.slice z103_23_7a z103_23_7n z103_23_7c) m110 := (B172.frm Fm173 (apart_symm sp143)).frm S182.frmb (rb sp145)
                have B187 : OS w182 22 encF_f32 (Value.slice v173pa v173pn v173pc) m166 := O173.frm S182.frmb (rb sp176)
                have B188 : OS w182 104 encSRod (Value.slice i32_1v3a i32_1v3n i32_1v3c) s32.2.rods := (B169.frm Fm173 (apart_symm i32_A13)).frm S182.frmb (rb i32_A7)
                have B189 : w182.heap[w.heap.size]? = some (.cells #[.slice none 0 0, .slice none 0 0, .slice none 0 0, .slice none 0 0] 51 (0, 0)) := S182.frmb.heap sp27 (Fm173.heap i32_A4 B168)
                obtain rfl := Option.some.inj hr
                exact ⟨_, rfl, ⟨z53_13_7a, z53_13_7n, z53_13_7c, z103_23_7a, z103_23_7n, z103_23_7c, v173pa, v173pn, v173pc, i32_1v3a, i32_1v3n, i32_1v3c, rfl, i32_S0, i32_S1, i32_S2, i32_S6, i32_S8, B185, own91, B186, own141, B187, own173, B188, i32_1v3O, B184, B189, sp92, sp96, sp142, sp145, sp174, sp176, i32_A6, i32_A7, sp147, sp177, sp178, (apart_symm sp95), (apart_symm sp144), (apart_symm sp175), X183⟩⟩
          · skip
            replace hr := bif_f hr hc35
            refine W_region rfl ?_
            refine da_op rfl (d_fieldAddr i32_S8 (fa51_3 _ _) ?_)
            refine da_op rfl (d_load (v := (Value.slice i32_1v3a i32_1v3n i32_1v3c)) rfl agg49 i32_1B rfl ?_)
            refine da_op rfl (d_mv (v := .int .i64 s32.1) i32_S9 ?_)
            refine da_op rfl (d_iarith rfl rfl (.inr (.inl ⟨rfl, rfl⟩)) ?_)
            refine da_op rfl (d_mv (v := .int .i64 s32.1) i32_S9 ?_)
            refine da_op rfl (d_mv (v := .float .f32 p1r) i32_S1 ?_)
            refine da_op rfl (d_bd (vs := [(0, .int .i64 (IntKind.i64.wrap (s32.1 - 1))), (1, .int .i64 s32.1), (2, .float .f32 p1r)]) (cs := #[.int .i64 (IntKind.i64.wrap (s32.1 - 1)), .int .i64 s32.1, .float .f32 p1r]) (pc rfl (pc rfl (pc rfl rfl))) (by kernel_rfl) ?_)
            refine da_op rfl (d_bslice (vs := [(0, .agg #[.int .i64 (IntKind.i64.wrap (s32.1 - 1)), .int .i64 s32.1, .float .f32 p1r])]) (cs := #[.int .i64 (IntKind.i64.wrap (s32.1 - 1)), .int .i64 s32.1, .float .f32 p1r]) un49 (pc rfl rfl) (by kernel_rfl) fun w190 B190 E190 => ?_)
            have fr190 : ∀ k, (Value.slice (some ⟨wl32.heap.size, 0, none⟩) 1 1).ownBlock = some k → wl32.heap.size ≤ k := fun k hk => by cases hk; exact Nat.le_refl _
            have own190 : ∀ k, (Value.slice (some ⟨wl32.heap.size, 0, none⟩) 1 1).ownBlock = some k → w.heap.size ≤ k := fun k hk => Nat.le_trans i32_X.size (fr190 k hk)
            have sp191 : ¬ (Value.slice (some ⟨wl32.heap.size, 0, none⟩) 1 1).ownBlock = some w.heap.size := ne_fresh fr190 (lt_heap i32_K0)
            have sp192 : ∀ k, (Value.slice i32_1v0a i32_1v0n i32_1v0c).ownBlock = some k → ¬ (Value.slice (some ⟨wl32.heap.size, 0, none⟩) 1 1).ownBlock = some k := apart_fresh i32_1v0R fr190
            have sp193 : ∀ k, (Value.slice i32_1v1a i32_1v1n i32_1v1c).ownBlock = some k → ¬ (Value.slice (some ⟨wl32.heap.size, 0, none⟩) 1 1).ownBlock = some k := apart_fresh i32_1v1R fr190
            have sp194 : ∀ k, (Value.slice i32_1v2a i32_1v2n i32_1v2c).ownBlock = some k → ¬ (Value.slice (some ⟨wl32.heap.size, 0, none⟩) 1 1).ownBlock = some k := apart_fresh i32_1v2R fr190
            have sp195 : ∀ k, (Value.slice i32_1v3a i32_1v3n i32_1v3c).ownBlock = some k → ¬ (Value.slice (some ⟨wl32.heap.size, 0, none⟩) 1 1).ownBlock = some k := apart_fresh i32_1v3R fr190
            have sp196 : ¬ (Value.slice (some ⟨wl32.heap.size, 0, none⟩) 1 1).ownBlock = some w4.heap.size := ne_fresh fr190 (lt_heap i32_1B)
            have X197 : Ext w w190 := i32_X.trans E190
            have O190 : OS w190 104 encSRod (Value.slice (some ⟨wl32.heap.size, 0, none⟩) 1 1) [(⟨(IntKind.i64.wrap (s32.1 - 1)), s32.1, p1⟩ : SRod)] := OS.box (xs := [(⟨(IntKind.i64.wrap (s32.1 - 1)), s32.1, p1⟩ : SRod)]) B190 (lc_v rfl (lc_v rfl (lc_f p1h rfl))) (Nat.le_of_ble_eq_true rfl)
            obtain ⟨m198, hm198, hr⟩ := bind_out hr
            have B199 : OS w190 104 encSRod (Value.slice i32_1v3a i32_1v3n i32_1v3c) s32.2.rods := i32_1v3R.ext E190
            have B200 : w190.heap[w.heap.size]? = some (.cells #[.slice none 0 0, .slice none 0 0, .slice none 0 0, .slice none 0 0] 51 (0, 0)) := E190.heap i32_K0
            have B201 : OS w190 29 encSVector (Value.slice i32_1v0a i32_1v0n i32_1v0c) s32.2.places := i32_1v0R.ext E190
            have B202 : OS w190 29 encSVector (Value.slice i32_1v1a i32_1v1n i32_1v1c) s32.2.before := i32_1v1R.ext E190
            have B203 : OS w190 22 encF_f32 (Value.slice i32_1v2a i32_1v2n i32_1v2c) s32.2.weights := i32_1v2R.ext E190
            have B204 : w190.heap[w4.heap.size]? = some (.cells #[(Value.slice i32_1v0a i32_1v0n i32_1v0c), (Value.slice i32_1v1a i32_1v1n i32_1v1c), (Value.slice i32_1v2a i32_1v2n i32_1v2c), (Value.slice i32_1v3a i32_1v3n i32_1v3c)] 51 (0, 0)) := E190.heap i32_1B
            refine da_op rfl (d_append (e := encSRod) (v := (Value.slice i32_1v3a i32_1v3n i32_1v3c)) (y := (Value.slice (some ⟨wl32.heap.size, 0, none⟩) 1 1)) un49 info104 rfl (by kernel_rfl) (by kernel_rfl) (by decide) (by decide) rfl rfl B199 O190.rs hm198 fun v205 w205 O205 Fm205 at_205 nl205 => ?_)
            obtain ⟨v205pa, v205pn, v205pc, rfl⟩ := O205.vals
            have own205 : ∀ k, (Value.slice v205pa v205pn v205pc).ownBlock = some k → w.heap.size ≤ k := app_own (w := w190) at_205 i32_1v3O X197.size
            have sp206 : ¬ (Value.slice v205pa v205pn v205pc).ownBlock = some w.heap.size := app_nb at_205 i32_A6 (lt_heap B200)
            have sp207 : ∀ k, (Value.slice i32_1v0a i32_1v0n i32_1v0c).ownBlock = some k → ¬ (Value.slice v205pa v205pn v205pc).ownBlock = some k := app_nr at_205 i32_A11 B201
            have sp208 : ∀ k, (Value.slice i32_1v1a i32_1v1n i32_1v1c).ownBlock = some k → ¬ (Value.slice v205pa v205pn v205pc).ownBlock = some k := app_nr at_205 i32_A12 B202
            have sp209 : ∀ k, (Value.slice i32_1v2a i32_1v2n i32_1v2c).ownBlock = some k → ¬ (Value.slice v205pa v205pn v205pc).ownBlock = some k := app_nr at_205 i32_A13 B203
            have sp210 : ¬ (Value.slice v205pa v205pn v205pc).ownBlock = some w4.heap.size := app_nb at_205 i32_A7 (lt_heap B204)
            have sp211 : ∀ k, (Value.slice (some ⟨wl32.heap.size, 0, none⟩) 1 1).ownBlock = some k → ¬ (Value.slice v205pa v205pn v205pc).ownBlock = some k := app_nr at_205 (apart_symm sp195) O190
            have X212 : Ext w w205 := Ext.step X197 Fm205 (fun k _ hk => i32_1v3O k hk)
            refine da_op rfl (d_fieldAddr i32_S8 (fa51_3 _ _) ?_)
            have B213 : w205.heap[w4.heap.size]? = some (.cells #[(Value.slice i32_1v0a i32_1v0n i32_1v0c), (Value.slice i32_1v1a i32_1v1n i32_1v1c), (Value.slice i32_1v2a i32_1v2n i32_1v2c), (Value.slice i32_1v3a i32_1v3n i32_1v3c)] 51 (0, 0)) := Fm205.heap i32_A7 B204
            refine da_op rfl (d_store (vs := #[(Value.slice v205pa v205pn v205pc)]) rfl rfl B213 size49 (Nat.le_of_ble_eq_true rfl) rfl fun w214 S214 => ?_)
            have X215 : Ext w w214 := Ext.step X212 S214.frmb (fun k _ hk => hk ▸ own26)
            have B216 : w214.heap[w4.heap.size]? = some (.cells #[(Value.slice i32_1v0a i32_1v0n i32_1v0c), (Value.slice i32_1v1a i32_1v1n i32_1v1c), (Value.slice i32_1v2a i32_1v2n i32_1v2c), (Value.slice v205pa v205pn v205pc)] 51 (0, 0)) := S214.here
            refine da_nil ?_
            refine W_region rfl ?_
            refine da_op rfl (d_mv (v := .int .i64 s32.1) i32_S9 ?_)
            refine da_op rfl (d_ofInt un2 un22 rfl ?_)
            refine da_op rfl (d_mv (v := .float .f32 p1r) i32_S1 ?_)
            refine da_op rfl (d_fop (k := .f32) fMul rfl rfl (cn_fint _ _) p1h fun r217 w217 h217 _ E217 => ?_)
            have X218 : Ext w w217 := X215.trans E217
            refine da_op rfl (d_bd (vs := [(0, .float .f32 r217)]) (cs := #[.float .f32 r217, .float .f32 0, .float .f32 0]) (pc rfl rfl) (by kernel_rfl) ?_)
            refine da_op rfl (d_mv (v := .float .f32 p2r) rfl ?_)
            refine da_op rfl (d_cl (vs := [.pointer (some ⟨w4.heap.size, 0, none⟩), .agg #[.float .f32 r217, .float .f32 0, .float .f32 0], .float .f32 p2r]) en67 (ac i32_S8 (ac rfl (ac rfl rfl))) rfl ?_)
            refine calls_of_W Try.func67 rfl (Nat.le_of_ble_eq_true rfl) ?_
            refine W_seq ?_
            refine W_region rfl ?_
            have B220 : w217.heap[w.heap.size]? = some (.cells #[.slice none 0 0, .slice none 0 0, .slice none 0 0, .slice none 0 0] 51 (0, 0)) := E217.heap (S214.frmb.heap sp27 (Fm205.heap i32_A6 B200))
            have B221 : OS w217 29 encSVector (Value.slice i32_1v0a i32_1v0n i32_1v0c) s32.2.places := ((B201.frm Fm205 i32_A11).frm S214.frmb (rb i32_A1)).ext E217
            have B222 : OS w217 29 encSVector (Value.slice i32_1v1a i32_1v1n i32_1v1c) s32.2.before := ((B202.frm Fm205 i32_A12).frm S214.frmb (rb i32_A3)).ext E217
            have B223 : OS w217 22 encF_f32 (Value.slice i32_1v2a i32_1v2n i32_1v2c) s32.2.weights := ((B203.frm Fm205 i32_A13).frm S214.frmb (rb i32_A5)).ext E217
            have B224 : w217.heap[w4.heap.size]? = some (.cells #[(Value.slice i32_1v0a i32_1v0n i32_1v0c), (Value.slice i32_1v1a i32_1v1n i32_1v1c), (Value.slice i32_1v2a i32_1v2n i32_1v2c), (Value.slice v205pa v205pn v205pc)] 51 (0, 0)) := E217.heap B216
            have B225 : OS w217 104 encSRod (Value.slice v205pa v205pn v205pc) m198 := (O205.frm S214.frmb (rb sp210)).ext E217
            refine da_op rfl (d_box (cs := #[.float .f32 r217, .float .f32 0, .float .f32 0]) rfl fun w219 B219 E219 => ?_)
            have own226 : w.heap.size ≤ w217.heap.size := Nat.le_trans X218.size (Nat.le_refl _)
            have sp227 : w.heap.size ≠ w217.heap.size := Nat.ne_of_lt (Nat.lt_of_lt_of_le (lt_heap B220) (Nat.le_refl _))
            have sp228 : ¬ (Value.slice i32_1v0a i32_1v0n i32_1v0c).ownBlock = some w217.heap.size := OS.ne_new B221 (Nat.le_refl _)
            have sp229 : ¬ (Value.slice i32_1v1a i32_1v1n i32_1v1c).ownBlock = some w217.heap.size := OS.ne_new B222 (Nat.le_refl _)
            have sp230 : ¬ (Value.slice i32_1v2a i32_1v2n i32_1v2c).ownBlock = some w217.heap.size := OS.ne_new B223 (Nat.le_refl _)
            have sp231 : w4.heap.size ≠ w217.heap.size := Nat.ne_of_lt (Nat.lt_of_lt_of_le (lt_heap B224) (Nat.le_refl _))
            have sp232 : ¬ (Value.slice v205pa v205pn v205pc).ownBlock = some w217.heap.size := OS.ne_new B225 (Nat.le_refl _)
            have X233 : Ext w w219 := X218.trans E219
            refine da_nil ?_
            refine W_seq ?_
            have B235 : w219.heap[w.heap.size]? = some (.cells #[.slice none 0 0, .slice none 0 0, .slice none 0 0, .slice none 0 0] 51 (0, 0)) := E219.heap B220
            have B236 : OS w219 29 encSVector (Value.slice i32_1v0a i32_1v0n i32_1v0c) s32.2.places := B221.ext E219
            have B237 : OS w219 29 encSVector (Value.slice i32_1v1a i32_1v1n i32_1v1c) s32.2.before := B222.ext E219
            have B238 : OS w219 22 encF_f32 (Value.slice i32_1v2a i32_1v2n i32_1v2c) s32.2.weights := B223.ext E219
            have B239 : w219.heap[w4.heap.size]? = some (.cells #[(Value.slice i32_1v0a i32_1v0n i32_1v0c), (Value.slice i32_1v1a i32_1v1n i32_1v1c), (Value.slice i32_1v2a i32_1v2n i32_1v2c), (Value.slice v205pa v205pn v205pc)] 51 (0, 0)) := E219.heap B224
            have B240 : OS w219 104 encSRod (Value.slice v205pa v205pn v205pc) m198 := B225.ext E219
            obtain ⟨m241, hm241, hr⟩ := bind_out hr
            refine W_anyT 8 [fun k _ => (Value.slice i32_1v0a i32_1v0n i32_1v0c).ownBlock = some k] [{ V := fun _ v _ => v = (.pointer (some ⟨w4.heap.size, 0, none⟩)) }, { V := fun _ v _ => v = (.pointer (some ⟨w4.heap.size, 0, none⟩)) }, { V := fun _ v _ => v = (.pointer (some ⟨w4.heap.size, 0, none⟩)) }, { V := fun _ v _ => v = (.pointer (some ⟨w4.heap.size, 0, none⟩)) }, { V := fun _ v _ => v = (Value.slice i32_1v0a i32_1v0n i32_1v0c) }, { V := fun _ v _ => v = (.agg #[.float .f32 r217, .float .f32 0, .float .f32 0]) }, { V := fun _ v w' => ∃ d234_6a : Option Addr, ∃ d234_6n : Nat, ∃ d234_6c : Nat, v = (Value.slice d234_6a d234_6n d234_6c) ∧ (∀ k, (Value.slice d234_6a d234_6n d234_6c).ownBlock = some k → w219.heap.size ≤ k) ∧ OS w' 29 encSVector (Value.slice d234_6a d234_6n d234_6c) ([(⟨(fop .mul .f32 (fint .f32 s32.1) p1), 0, 0⟩ : SVector)]) }, ⟨fun _ v w' => ∃ d234_7a : Option Addr, ∃ d234_7n : Nat, ∃ d234_7c : Nat, v = (Value.slice d234_7a d234_7n d234_7c) ∧ (∀ k, (Value.slice d234_7a d234_7n d234_7c).ownBlock = some k → (Value.slice i32_1v0a i32_1v0n i32_1v0c).ownBlock = some k ∨ w219.heap.size ≤ k) ∧ OS w' 29 encSVector (Value.slice d234_7a d234_7n d234_7c) m241, some 0, fun w' => OS w' 29 encSVector (Value.slice i32_1v0a i32_1v0n i32_1v0c) s32.2.places⟩] mixed (by kernel_rfl) ⟨trivial, trivial, trivial, trivial, trivial, trivial, trivial, B236, trivial⟩ ⟨?_, ?_, ?_, ?_, ?_, ?_, ?_, ?_, trivial⟩ ?_
            · skip
              refine ⟨fun _ _ _ _ _ _ h _ => h, fun _ _ h _ => h, fun σ' w' hA hE hD hP => ?_⟩
              have t0 : σ' 0 = .pointer (some ⟨w4.heap.size, 0, none⟩) := (hA 0 rfl).trans rfl
              have B0_242 : w'.heap[w4.heap.size]? = some (.cells #[(Value.slice i32_1v0a i32_1v0n i32_1v0c), (Value.slice i32_1v1a i32_1v1n i32_1v1c), (Value.slice i32_1v2a i32_1v2n i32_1v2c), (Value.slice v205pa v205pn v205pc)] 51 (0, 0)) := hE.heap (not_oth1 i32_A1) B239
              have B0_244 : OS w' 29 encSVector (Value.slice i32_1v1a i32_1v1n i32_1v1c) s32.2.before := B237.frm hE (fun k hk => (not_oth1 ((apart_symm i32_A8) k hk)))
              have B0_245 : OS w' 22 encF_f32 (Value.slice i32_1v2a i32_1v2n i32_1v2c) s32.2.weights := B238.frm hE (fun k hk => (not_oth1 ((apart_symm i32_A9) k hk)))
              have B0_246 : OS w' 104 encSRod (Value.slice v205pa v205pn v205pc) m198 := B240.frm hE (fun k hk => (not_oth1 ((apart_symm sp207) k hk)))
              refine dg_op rfl (d_mv (v := .pointer (some ⟨w4.heap.size, 0, none⟩)) t0 ?_)
              exact ⟨rfl, own_none (Ext.refl w')⟩
            · skip
              refine ⟨fun _ _ _ _ _ _ h _ => h, fun _ _ h _ => h, fun σ' w' hA hE hD hP => ?_⟩
              have t0 : σ' 0 = .pointer (some ⟨w4.heap.size, 0, none⟩) := (hA 0 rfl).trans rfl
              have B0_247 : w'.heap[w4.heap.size]? = some (.cells #[(Value.slice i32_1v0a i32_1v0n i32_1v0c), (Value.slice i32_1v1a i32_1v1n i32_1v1c), (Value.slice i32_1v2a i32_1v2n i32_1v2c), (Value.slice v205pa v205pn v205pc)] 51 (0, 0)) := hE.heap (not_oth1 i32_A1) B239
              have B0_249 : OS w' 29 encSVector (Value.slice i32_1v1a i32_1v1n i32_1v1c) s32.2.before := B237.frm hE (fun k hk => (not_oth1 ((apart_symm i32_A8) k hk)))
              have B0_250 : OS w' 22 encF_f32 (Value.slice i32_1v2a i32_1v2n i32_1v2c) s32.2.weights := B238.frm hE (fun k hk => (not_oth1 ((apart_symm i32_A9) k hk)))
              have B0_251 : OS w' 104 encSRod (Value.slice v205pa v205pn v205pc) m198 := B240.frm hE (fun k hk => (not_oth1 ((apart_symm sp207) k hk)))
              refine dg_op rfl (d_mv (v := .pointer (some ⟨w4.heap.size, 0, none⟩)) t0 ?_)
              exact ⟨rfl, own_none (Ext.refl w')⟩
            · skip
              refine ⟨fun _ _ _ _ _ _ h _ => h, fun _ _ h _ => h, fun σ' w' hA hE hD hP => ?_⟩
              have t7 : σ' 7 = (.pointer (some ⟨w4.heap.size, 0, none⟩)) := hD 1 rfl
              have B0_252 : w'.heap[w4.heap.size]? = some (.cells #[(Value.slice i32_1v0a i32_1v0n i32_1v0c), (Value.slice i32_1v1a i32_1v1n i32_1v1c), (Value.slice i32_1v2a i32_1v2n i32_1v2c), (Value.slice v205pa v205pn v205pc)] 51 (0, 0)) := hE.heap (not_oth1 i32_A1) B239
              have B0_254 : OS w' 29 encSVector (Value.slice i32_1v1a i32_1v1n i32_1v1c) s32.2.before := B237.frm hE (fun k hk => (not_oth1 ((apart_symm i32_A8) k hk)))
              have B0_255 : OS w' 22 encF_f32 (Value.slice i32_1v2a i32_1v2n i32_1v2c) s32.2.weights := B238.frm hE (fun k hk => (not_oth1 ((apart_symm i32_A9) k hk)))
              have B0_256 : OS w' 104 encSRod (Value.slice v205pa v205pn v205pc) m198 := B240.frm hE (fun k hk => (not_oth1 ((apart_symm sp207) k hk)))
              refine dg_op rfl (d_nil t7 ?_)
              exact ⟨rfl, own_none (Ext.refl w')⟩
            · skip
              refine ⟨fun _ _ _ _ _ _ h _ => h, fun _ _ h _ => h, fun σ' w' hA hE hD hP => ?_⟩
              have t8 : σ' 8 = (.pointer (some ⟨w4.heap.size, 0, none⟩)) := hD 2 rfl
              have B0_257 : w'.heap[w4.heap.size]? = some (.cells #[(Value.slice i32_1v0a i32_1v0n i32_1v0c), (Value.slice i32_1v1a i32_1v1n i32_1v1c), (Value.slice i32_1v2a i32_1v2n i32_1v2c), (Value.slice v205pa v205pn v205pc)] 51 (0, 0)) := hE.heap (not_oth1 i32_A1) B239
              have B0_259 : OS w' 29 encSVector (Value.slice i32_1v1a i32_1v1n i32_1v1c) s32.2.before := B237.frm hE (fun k hk => (not_oth1 ((apart_symm i32_A8) k hk)))
              have B0_260 : OS w' 22 encF_f32 (Value.slice i32_1v2a i32_1v2n i32_1v2c) s32.2.weights := B238.frm hE (fun k hk => (not_oth1 ((apart_symm i32_A9) k hk)))
              have B0_261 : OS w' 104 encSRod (Value.slice v205pa v205pn v205pc) m198 := B240.frm hE (fun k hk => (not_oth1 ((apart_symm sp207) k hk)))
              refine dg_op rfl (d_fieldAddr t8 (fa51_0 _ _) ?_)
              exact ⟨rfl, own_none (Ext.refl w')⟩
            · skip
              refine ⟨fun _ _ _ _ _ _ h _ => h, fun _ _ h _ => h, fun σ' w' hA hE hD hP => ?_⟩
              have t9 : σ' 9 = (.pointer (some ⟨w4.heap.size, 0, none⟩)) := hD 3 rfl
              have B0_262 : w'.heap[w4.heap.size]? = some (.cells #[(Value.slice i32_1v0a i32_1v0n i32_1v0c), (Value.slice i32_1v1a i32_1v1n i32_1v1c), (Value.slice i32_1v2a i32_1v2n i32_1v2c), (Value.slice v205pa v205pn v205pc)] 51 (0, 0)) := hE.heap (not_oth1 i32_A1) B239
              have B0_263 : OS w' 29 encSVector (Value.slice i32_1v0a i32_1v0n i32_1v0c) s32.2.places := (hP 7 _ _ rfl rfl (.inr rfl)).1
              have B0_264 : OS w' 29 encSVector (Value.slice i32_1v1a i32_1v1n i32_1v1c) s32.2.before := B237.frm hE (fun k hk => (not_oth1 ((apart_symm i32_A8) k hk)))
              have B0_265 : OS w' 22 encF_f32 (Value.slice i32_1v2a i32_1v2n i32_1v2c) s32.2.weights := B238.frm hE (fun k hk => (not_oth1 ((apart_symm i32_A9) k hk)))
              have B0_266 : OS w' 104 encSRod (Value.slice v205pa v205pn v205pc) m198 := B240.frm hE (fun k hk => (not_oth1 ((apart_symm sp207) k hk)))
              refine dg_op rfl (d_load (v := (Value.slice i32_1v0a i32_1v0n i32_1v0c)) t9 agg33 B0_262 rfl ?_)
              exact ⟨rfl, own_none (Ext.refl w')⟩
            · skip
              refine ⟨fun _ _ _ _ _ _ h _ => h, fun _ _ h _ => h, fun σ' w' hA hE hD hP => ?_⟩
              have t4 : σ' 4 = .pointer (some ⟨w217.heap.size, 0, none⟩) := (hA 4 rfl).trans rfl
              have B0_267 : w'.heap[w217.heap.size]? = some (.cells #[.float .f32 r217, .float .f32 0, .float .f32 0] 29 (0, 0)) := hE.heap (not_oth1 sp228) B219
              refine dg_op rfl (d_loads (vs := #[.float .f32 r217, .float .f32 0, .float .f32 0]) t4 agg29 size29 B0_267 rfl ?_)
              exact ⟨rfl, own_none (Ext.refl w')⟩
            · skip
              refine ⟨fun _ _ _ w' w'' _ ⟨d234_6a, d234_6n, d234_6c, hv, d234_6L, d234_6R⟩ hF => ⟨d234_6a, d234_6n, d234_6c, hv, d234_6L, d234_6R.frm hF (fun k hk => (not_oth1 (nb_row B236 (d234_6L k hk))))⟩, fun _ _ h _ => h, fun σ' w' hA hE hD hP => ?_⟩
              have t11 : σ' 11 = (.agg #[.float .f32 r217, .float .f32 0, .float .f32 0]) := hD 5 rfl
              refine dg_op rfl (d_bslice (vs := [(0, .agg #[.float .f32 r217, .float .f32 0, .float .f32 0])]) (cs := #[.float .f32 r217, .float .f32 0, .float .f32 0]) un33 (pc t11 rfl) (by kernel_rfl) fun w268 B268 E268 => ?_)
              have fr268 : ∀ k, (Value.slice (some ⟨w'.heap.size, 0, none⟩) 1 1).ownBlock = some k → w'.heap.size ≤ k := fun k hk => by cases hk; exact Nat.le_refl _
              have X269 : Ext w' w268 := (Ext.refl w').trans E268
              have O268 : OS w268 29 encSVector (Value.slice (some ⟨w'.heap.size, 0, none⟩) 1 1) [(⟨(fop .mul .f32 (fint .f32 s32.1) p1), 0, 0⟩ : SVector)] := OS.box (xs := [(⟨(fop .mul .f32 (fint .f32 s32.1) p1), 0, 0⟩ : SVector)]) B268 (lc_f h217 (lc_f cn_f32_0 (lc_f cn_f32_0 rfl))) (Nat.le_of_ble_eq_true rfl)
              exact ⟨⟨(some ⟨w'.heap.size, 0, none⟩), 1, 1, rfl, (fun k hk => Nat.le_trans hE.size (fr268 k hk)), O268⟩, own_none X269⟩
            · skip
              refine ⟨fun _ _ _ w' w'' _ ⟨d234_7a, d234_7n, d234_7c, hv, d234_7L, d234_7R⟩ hF => ⟨d234_7a, d234_7n, d234_7c, hv, d234_7L, d234_7R.frm hF (fun k hk => not_oth1s)⟩, fun _ _ h hF => h.frm hF (fun k hk => not_oth1s), fun σ' w' hA hE hD hP => ?_⟩
              have t10 : σ' 10 = (Value.slice i32_1v0a i32_1v0n i32_1v0c) := hD 4 rfl
              obtain ⟨d234_6a, d234_6n, d234_6c, t12, d234_6L, d234_6R⟩ : ∃ d234_6a : Option Addr, ∃ d234_6n : Nat, ∃ d234_6c : Nat, σ' 12 = (Value.slice d234_6a d234_6n d234_6c) ∧ (∀ k, (Value.slice d234_6a d234_6n d234_6c).ownBlock = some k → w219.heap.size ≤ k) ∧ OS w' 29 encSVector (Value.slice d234_6a d234_6n d234_6c) ([(⟨(fop .mul .f32 (fint .f32 s32.1) p1), 0, 0⟩ : SVector)]) := hD 6 rfl
              have B0_270 : OS w' 29 encSVector (Value.slice i32_1v0a i32_1v0n i32_1v0c) s32.2.places := (hP 7 _ _ rfl rfl (.inl rfl)).1
              refine dg_op rfl (d_append (e := encSVector) (v := (Value.slice i32_1v0a i32_1v0n i32_1v0c)) (y := (Value.slice d234_6a d234_6n d234_6c)) un33 info29 rfl (by kernel_rfl) (by kernel_rfl) (by decide) (by decide) t10 t12 B0_270 d234_6R.rs hm241 fun v271 w271 O271 Fm271 at_271 nl271 => ?_)
              obtain ⟨v271pa, v271pn, v271pc, rfl⟩ := O271.vals
              exact ⟨⟨v271pa, v271pn, v271pc, rfl, (app_loc at_271 hE.size), O271⟩, own_some (j := 0) rfl Fm271⟩
            · skip
              intro σ234 w234 A234 E234 V234
              have s6_234 : σ234 6 = (.pointer (some ⟨w4.heap.size, 0, none⟩)) := V234 0 (Nat.le_of_ble_eq_true rfl)
              obtain ⟨z234_13_7a, z234_13_7n, z234_13_7c, s13_234, z234_13_7L, z234_13_7R⟩ : ∃ z234_13_7a : Option Addr, ∃ z234_13_7n : Nat, ∃ z234_13_7c : Nat, σ234 13 = (Value.slice z234_13_7a z234_13_7n z234_13_7c) ∧ (∀ k, (Value.slice z234_13_7a z234_13_7n z234_13_7c).ownBlock = some k → (Value.slice i32_1v0a i32_1v0n i32_1v0c).ownBlock = some k ∨ w219.heap.size ≤ k) ∧ OS w234 29 encSVector (Value.slice z234_13_7a z234_13_7n z234_13_7c) m241 := V234 7 (Nat.le_of_ble_eq_true rfl)
              have own272 : ∀ k, (Value.slice z234_13_7a z234_13_7n z234_13_7c).ownBlock = some k → w.heap.size ≤ k := app_own2 z234_13_7L i32_1v0O X233.size
              have sp273 : ¬ (Value.slice z234_13_7a z234_13_7n z234_13_7c).ownBlock = some w.heap.size := app_nb2 z234_13_7L i32_A0 B235
              have sp274 : ∀ k, (Value.slice i32_1v1a i32_1v1n i32_1v1c).ownBlock = some k → ¬ (Value.slice z234_13_7a z234_13_7n z234_13_7c).ownBlock = some k := app_nr2 z234_13_7L (apart_symm i32_A8) B237
              have sp275 : ∀ k, (Value.slice i32_1v2a i32_1v2n i32_1v2c).ownBlock = some k → ¬ (Value.slice z234_13_7a z234_13_7n z234_13_7c).ownBlock = some k := app_nr2 z234_13_7L (apart_symm i32_A9) B238
              have sp276 : ¬ (Value.slice z234_13_7a z234_13_7n z234_13_7c).ownBlock = some w4.heap.size := app_nb2 z234_13_7L i32_A1 B239
              have sp277 : ∀ k, (Value.slice v205pa v205pn v205pc).ownBlock = some k → ¬ (Value.slice z234_13_7a z234_13_7n z234_13_7c).ownBlock = some k := app_nr2 z234_13_7L (apart_symm sp207) B240
              have sp278 : ¬ (Value.slice z234_13_7a z234_13_7n z234_13_7c).ownBlock = some w217.heap.size := app_nb2 z234_13_7L sp228 B219
              have s0_234 : σ234 0 = .pointer (some ⟨w4.heap.size, 0, none⟩) := (A234 0 rfl).trans rfl
              have s2_234 : σ234 2 = .float .f32 p2r := (A234 2 rfl).trans rfl
              have s4_234 : σ234 4 = .pointer (some ⟨w217.heap.size, 0, none⟩) := (A234 4 rfl).trans rfl
              have X279 : Ext w w234 := Ext.step X233 E234 (oth_own1 (fun k _ hk => i32_1v0O k hk))
              refine da_op rfl (d_nil s6_234 ?_)
              refine da_op rfl (d_fieldAddr rfl (fa51_0 _ _) ?_)
              have B280 : w234.heap[w4.heap.size]? = some (.cells #[(Value.slice i32_1v0a i32_1v0n i32_1v0c), (Value.slice i32_1v1a i32_1v1n i32_1v1c), (Value.slice i32_1v2a i32_1v2n i32_1v2c), (Value.slice v205pa v205pn v205pc)] 51 (0, 0)) := E234.heap (not_oth1 i32_A1) B239
              refine da_op rfl (d_store (vs := #[(Value.slice z234_13_7a z234_13_7n z234_13_7c)]) rfl (congrArg Value.cells s13_234) B280 size33 (Nat.le_of_ble_eq_true rfl) rfl fun w281 S281 => ?_)
              have X282 : Ext w w281 := Ext.step X279 S281.frmb (fun k _ hk => hk ▸ own26)
              have B283 : w281.heap[w4.heap.size]? = some (.cells #[(Value.slice z234_13_7a z234_13_7n z234_13_7c), (Value.slice i32_1v1a i32_1v1n i32_1v1c), (Value.slice i32_1v2a i32_1v2n i32_1v2c), (Value.slice v205pa v205pn v205pc)] 51 (0, 0)) := S281.here
              refine da_nil ?_
              refine W_seq ?_
              have B285 : w281.heap[w.heap.size]? = some (.cells #[.slice none 0 0, .slice none 0 0, .slice none 0 0, .slice none 0 0] 51 (0, 0)) := S281.frmb.heap sp27 (E234.heap (not_oth1 i32_A0) B235)
              have B286 : OS w281 29 encSVector (Value.slice i32_1v1a i32_1v1n i32_1v1c) s32.2.before := (B237.frm E234 (fun k hk => (not_oth1 ((apart_symm i32_A8) k hk)))).frm S281.frmb (rb i32_A3)
              have B287 : OS w281 22 encF_f32 (Value.slice i32_1v2a i32_1v2n i32_1v2c) s32.2.weights := (B238.frm E234 (fun k hk => (not_oth1 ((apart_symm i32_A9) k hk)))).frm S281.frmb (rb i32_A5)
              have B288 : OS w281 104 encSRod (Value.slice v205pa v205pn v205pc) m198 := (B240.frm E234 (fun k hk => (not_oth1 ((apart_symm sp207) k hk)))).frm S281.frmb (rb sp210)
              have B289 : w281.heap[w217.heap.size]? = some (.cells #[.float .f32 r217, .float .f32 0, .float .f32 0] 29 (0, 0)) := S281.frmb.heap (Ne.symm sp231) (E234.heap (not_oth1 sp228) B219)
              have B290 : OS w281 29 encSVector (Value.slice z234_13_7a z234_13_7n z234_13_7c) m241 := z234_13_7R.frm S281.frmb (rb sp276)
              obtain ⟨m291, hm291, hr⟩ := bind_out hr
              refine W_anyT 8 [fun k _ => (Value.slice i32_1v1a i32_1v1n i32_1v1c).ownBlock = some k] [{ V := fun _ v _ => v = (.pointer (some ⟨w4.heap.size, 0, none⟩)) }, { V := fun _ v _ => v = (.pointer (some ⟨w4.heap.size, 0, none⟩)) }, { V := fun _ v _ => v = (.pointer (some ⟨w4.heap.size, 0, none⟩)) }, { V := fun _ v _ => v = (.pointer (some ⟨w4.heap.size, 1, none⟩)) }, { V := fun _ v _ => v = (Value.slice i32_1v1a i32_1v1n i32_1v1c) }, { V := fun _ v _ => v = (.agg #[.float .f32 r217, .float .f32 0, .float .f32 0]) }, { V := fun _ v w' => ∃ d284_6a : Option Addr, ∃ d284_6n : Nat, ∃ d284_6c : Nat, v = (Value.slice d284_6a d284_6n d284_6c) ∧ (∀ k, (Value.slice d284_6a d284_6n d284_6c).ownBlock = some k → w281.heap.size ≤ k) ∧ OS w' 29 encSVector (Value.slice d284_6a d284_6n d284_6c) ([(⟨(fop .mul .f32 (fint .f32 s32.1) p1), 0, 0⟩ : SVector)]) }, ⟨fun _ v w' => ∃ d284_7a : Option Addr, ∃ d284_7n : Nat, ∃ d284_7c : Nat, v = (Value.slice d284_7a d284_7n d284_7c) ∧ (∀ k, (Value.slice d284_7a d284_7n d284_7c).ownBlock = some k → (Value.slice i32_1v1a i32_1v1n i32_1v1c).ownBlock = some k ∨ w281.heap.size ≤ k) ∧ OS w' 29 encSVector (Value.slice d284_7a d284_7n d284_7c) m291, some 0, fun w' => OS w' 29 encSVector (Value.slice i32_1v1a i32_1v1n i32_1v1c) s32.2.before⟩] mixed (by kernel_rfl) ⟨trivial, trivial, trivial, trivial, trivial, trivial, trivial, B286, trivial⟩ ⟨?_, ?_, ?_, ?_, ?_, ?_, ?_, ?_, trivial⟩ ?_
              · skip
                refine ⟨fun _ _ _ _ _ _ h _ => h, fun _ _ h _ => h, fun σ' w' hA hE hD hP => ?_⟩
                have t0 : σ' 0 = .pointer (some ⟨w4.heap.size, 0, none⟩) := (hA 0 rfl).trans s0_234
                have B0_292 : w'.heap[w4.heap.size]? = some (.cells #[(Value.slice z234_13_7a z234_13_7n z234_13_7c), (Value.slice i32_1v1a i32_1v1n i32_1v1c), (Value.slice i32_1v2a i32_1v2n i32_1v2c), (Value.slice v205pa v205pn v205pc)] 51 (0, 0)) := hE.heap (not_oth1 i32_A3) B283
                have B0_293 : OS w' 29 encSVector (Value.slice z234_13_7a z234_13_7n z234_13_7c) m241 := B290.frm hE (fun k hk => (not_oth1 ((apart_symm sp274) k hk)))
                have B0_295 : OS w' 22 encF_f32 (Value.slice i32_1v2a i32_1v2n i32_1v2c) s32.2.weights := B287.frm hE (fun k hk => (not_oth1 ((apart_symm i32_A10) k hk)))
                have B0_296 : OS w' 104 encSRod (Value.slice v205pa v205pn v205pc) m198 := B288.frm hE (fun k hk => (not_oth1 ((apart_symm sp208) k hk)))
                refine dg_op rfl (d_mv (v := .pointer (some ⟨w4.heap.size, 0, none⟩)) t0 ?_)
                exact ⟨rfl, own_none (Ext.refl w')⟩
              · skip
                refine ⟨fun _ _ _ _ _ _ h _ => h, fun _ _ h _ => h, fun σ' w' hA hE hD hP => ?_⟩
                have t0 : σ' 0 = .pointer (some ⟨w4.heap.size, 0, none⟩) := (hA 0 rfl).trans s0_234
                have B0_297 : w'.heap[w4.heap.size]? = some (.cells #[(Value.slice z234_13_7a z234_13_7n z234_13_7c), (Value.slice i32_1v1a i32_1v1n i32_1v1c), (Value.slice i32_1v2a i32_1v2n i32_1v2c), (Value.slice v205pa v205pn v205pc)] 51 (0, 0)) := hE.heap (not_oth1 i32_A3) B283
                have B0_298 : OS w' 29 encSVector (Value.slice z234_13_7a z234_13_7n z234_13_7c) m241 := B290.frm hE (fun k hk => (not_oth1 ((apart_symm sp274) k hk)))
                have B0_300 : OS w' 22 encF_f32 (Value.slice i32_1v2a i32_1v2n i32_1v2c) s32.2.weights := B287.frm hE (fun k hk => (not_oth1 ((apart_symm i32_A10) k hk)))
                have B0_301 : OS w' 104 encSRod (Value.slice v205pa v205pn v205pc) m198 := B288.frm hE (fun k hk => (not_oth1 ((apart_symm sp208) k hk)))
                refine dg_op rfl (d_mv (v := .pointer (some ⟨w4.heap.size, 0, none⟩)) t0 ?_)
                exact ⟨rfl, own_none (Ext.refl w')⟩
              · skip
                refine ⟨fun _ _ _ _ _ _ h _ => h, fun _ _ h _ => h, fun σ' w' hA hE hD hP => ?_⟩
                have t17 : σ' 17 = (.pointer (some ⟨w4.heap.size, 0, none⟩)) := hD 1 rfl
                have B0_302 : w'.heap[w4.heap.size]? = some (.cells #[(Value.slice z234_13_7a z234_13_7n z234_13_7c), (Value.slice i32_1v1a i32_1v1n i32_1v1c), (Value.slice i32_1v2a i32_1v2n i32_1v2c), (Value.slice v205pa v205pn v205pc)] 51 (0, 0)) := hE.heap (not_oth1 i32_A3) B283
                have B0_303 : OS w' 29 encSVector (Value.slice z234_13_7a z234_13_7n z234_13_7c) m241 := B290.frm hE (fun k hk => (not_oth1 ((apart_symm sp274) k hk)))
                have B0_305 : OS w' 22 encF_f32 (Value.slice i32_1v2a i32_1v2n i32_1v2c) s32.2.weights := B287.frm hE (fun k hk => (not_oth1 ((apart_symm i32_A10) k hk)))
                have B0_306 : OS w' 104 encSRod (Value.slice v205pa v205pn v205pc) m198 := B288.frm hE (fun k hk => (not_oth1 ((apart_symm sp208) k hk)))
                refine dg_op rfl (d_nil t17 ?_)
                exact ⟨rfl, own_none (Ext.refl w')⟩
              · skip
                refine ⟨fun _ _ _ _ _ _ h _ => h, fun _ _ h _ => h, fun σ' w' hA hE hD hP => ?_⟩
                have t18 : σ' 18 = (.pointer (some ⟨w4.heap.size, 0, none⟩)) := hD 2 rfl
                have B0_307 : w'.heap[w4.heap.size]? = some (.cells #[(Value.slice z234_13_7a z234_13_7n z234_13_7c), (Value.slice i32_1v1a i32_1v1n i32_1v1c), (Value.slice i32_1v2a i32_1v2n i32_1v2c), (Value.slice v205pa v205pn v205pc)] 51 (0, 0)) := hE.heap (not_oth1 i32_A3) B283
                have B0_308 : OS w' 29 encSVector (Value.slice z234_13_7a z234_13_7n z234_13_7c) m241 := B290.frm hE (fun k hk => (not_oth1 ((apart_symm sp274) k hk)))
                have B0_310 : OS w' 22 encF_f32 (Value.slice i32_1v2a i32_1v2n i32_1v2c) s32.2.weights := B287.frm hE (fun k hk => (not_oth1 ((apart_symm i32_A10) k hk)))
                have B0_311 : OS w' 104 encSRod (Value.slice v205pa v205pn v205pc) m198 := B288.frm hE (fun k hk => (not_oth1 ((apart_symm sp208) k hk)))
                refine dg_op rfl (d_fieldAddr t18 (fa51_1 _ _) ?_)
                exact ⟨rfl, own_none (Ext.refl w')⟩
              · skip
                refine ⟨fun _ _ _ _ _ _ h _ => h, fun _ _ h _ => h, fun σ' w' hA hE hD hP => ?_⟩
                have t19 : σ' 19 = (.pointer (some ⟨w4.heap.size, 1, none⟩)) := hD 3 rfl
                have B0_312 : w'.heap[w4.heap.size]? = some (.cells #[(Value.slice z234_13_7a z234_13_7n z234_13_7c), (Value.slice i32_1v1a i32_1v1n i32_1v1c), (Value.slice i32_1v2a i32_1v2n i32_1v2c), (Value.slice v205pa v205pn v205pc)] 51 (0, 0)) := hE.heap (not_oth1 i32_A3) B283
                have B0_313 : OS w' 29 encSVector (Value.slice z234_13_7a z234_13_7n z234_13_7c) m241 := B290.frm hE (fun k hk => (not_oth1 ((apart_symm sp274) k hk)))
                have B0_314 : OS w' 29 encSVector (Value.slice i32_1v1a i32_1v1n i32_1v1c) s32.2.before := (hP 7 _ _ rfl rfl (.inr rfl)).1
                have B0_315 : OS w' 22 encF_f32 (Value.slice i32_1v2a i32_1v2n i32_1v2c) s32.2.weights := B287.frm hE (fun k hk => (not_oth1 ((apart_symm i32_A10) k hk)))
                have B0_316 : OS w' 104 encSRod (Value.slice v205pa v205pn v205pc) m198 := B288.frm hE (fun k hk => (not_oth1 ((apart_symm sp208) k hk)))
                refine dg_op rfl (d_load (v := (Value.slice i32_1v1a i32_1v1n i32_1v1c)) t19 agg33 B0_312 rfl ?_)
                exact ⟨rfl, own_none (Ext.refl w')⟩
              · skip
                refine ⟨fun _ _ _ _ _ _ h _ => h, fun _ _ h _ => h, fun σ' w' hA hE hD hP => ?_⟩
                have t4 : σ' 4 = .pointer (some ⟨w217.heap.size, 0, none⟩) := (hA 4 rfl).trans s4_234
                have B0_317 : w'.heap[w217.heap.size]? = some (.cells #[.float .f32 r217, .float .f32 0, .float .f32 0] 29 (0, 0)) := hE.heap (not_oth1 sp229) B289
                refine dg_op rfl (d_loads (vs := #[.float .f32 r217, .float .f32 0, .float .f32 0]) t4 agg29 size29 B0_317 rfl ?_)
                exact ⟨rfl, own_none (Ext.refl w')⟩
              · skip
                refine ⟨fun _ _ _ w' w'' _ ⟨d284_6a, d284_6n, d284_6c, hv, d284_6L, d284_6R⟩ hF => ⟨d284_6a, d284_6n, d284_6c, hv, d284_6L, d284_6R.frm hF (fun k hk => (not_oth1 (nb_row B286 (d284_6L k hk))))⟩, fun _ _ h _ => h, fun σ' w' hA hE hD hP => ?_⟩
                have t21 : σ' 21 = (.agg #[.float .f32 r217, .float .f32 0, .float .f32 0]) := hD 5 rfl
                refine dg_op rfl (d_bslice (vs := [(0, .agg #[.float .f32 r217, .float .f32 0, .float .f32 0])]) (cs := #[.float .f32 r217, .float .f32 0, .float .f32 0]) un33 (pc t21 rfl) (by kernel_rfl) fun w318 B318 E318 => ?_)
                have fr318 : ∀ k, (Value.slice (some ⟨w'.heap.size, 0, none⟩) 1 1).ownBlock = some k → w'.heap.size ≤ k := fun k hk => by cases hk; exact Nat.le_refl _
                have X319 : Ext w' w318 := (Ext.refl w').trans E318
                have O318 : OS w318 29 encSVector (Value.slice (some ⟨w'.heap.size, 0, none⟩) 1 1) [(⟨(fop .mul .f32 (fint .f32 s32.1) p1), 0, 0⟩ : SVector)] := OS.box (xs := [(⟨(fop .mul .f32 (fint .f32 s32.1) p1), 0, 0⟩ : SVector)]) B318 (lc_f h217 (lc_f cn_f32_0 (lc_f cn_f32_0 rfl))) (Nat.le_of_ble_eq_true rfl)
                exact ⟨⟨(some ⟨w'.heap.size, 0, none⟩), 1, 1, rfl, (fun k hk => Nat.le_trans hE.size (fr318 k hk)), O318⟩, own_none X319⟩
              · skip
                refine ⟨fun _ _ _ w' w'' _ ⟨d284_7a, d284_7n, d284_7c, hv, d284_7L, d284_7R⟩ hF => ⟨d284_7a, d284_7n, d284_7c, hv, d284_7L, d284_7R.frm hF (fun k hk => not_oth1s)⟩, fun _ _ h hF => h.frm hF (fun k hk => not_oth1s), fun σ' w' hA hE hD hP => ?_⟩
                have t20 : σ' 20 = (Value.slice i32_1v1a i32_1v1n i32_1v1c) := hD 4 rfl
                obtain ⟨d284_6a, d284_6n, d284_6c, t22, d284_6L, d284_6R⟩ : ∃ d284_6a : Option Addr, ∃ d284_6n : Nat, ∃ d284_6c : Nat, σ' 22 = (Value.slice d284_6a d284_6n d284_6c) ∧ (∀ k, (Value.slice d284_6a d284_6n d284_6c).ownBlock = some k → w281.heap.size ≤ k) ∧ OS w' 29 encSVector (Value.slice d284_6a d284_6n d284_6c) ([(⟨(fop .mul .f32 (fint .f32 s32.1) p1), 0, 0⟩ : SVector)]) := hD 6 rfl
                have B0_320 : OS w' 29 encSVector (Value.slice i32_1v1a i32_1v1n i32_1v1c) s32.2.before := (hP 7 _ _ rfl rfl (.inl rfl)).1
                refine dg_op rfl (d_append (e := encSVector) (v := (Value.slice i32_1v1a i32_1v1n i32_1v1c)) (y := (Value.slice d284_6a d284_6n d284_6c)) un33 info29 rfl (by kernel_rfl) (by kernel_rfl) (by decide) (by decide) t20 t22 B0_320 d284_6R.rs hm291 fun v321 w321 O321 Fm321 at_321 nl321 => ?_)
                obtain ⟨v321pa, v321pn, v321pc, rfl⟩ := O321.vals
                exact ⟨⟨v321pa, v321pn, v321pc, rfl, (app_loc at_321 hE.size), O321⟩, own_some (j := 0) rfl Fm321⟩
              · skip
                intro σ284 w284 A284 E284 V284
                have s16_284 : σ284 16 = (.pointer (some ⟨w4.heap.size, 0, none⟩)) := V284 0 (Nat.le_of_ble_eq_true rfl)
                obtain ⟨z284_23_7a, z284_23_7n, z284_23_7c, s23_284, z284_23_7L, z284_23_7R⟩ : ∃ z284_23_7a : Option Addr, ∃ z284_23_7n : Nat, ∃ z284_23_7c : Nat, σ284 23 = (Value.slice z284_23_7a z284_23_7n z284_23_7c) ∧ (∀ k, (Value.slice z284_23_7a z284_23_7n z284_23_7c).ownBlock = some k → (Value.slice i32_1v1a i32_1v1n i32_1v1c).ownBlock = some k ∨ w281.heap.size ≤ k) ∧ OS w284 29 encSVector (Value.slice z284_23_7a z284_23_7n z284_23_7c) m291 := V284 7 (Nat.le_of_ble_eq_true rfl)
                have own322 : ∀ k, (Value.slice z284_23_7a z284_23_7n z284_23_7c).ownBlock = some k → w.heap.size ≤ k := app_own2 z284_23_7L i32_1v1O X282.size
                have sp323 : ¬ (Value.slice z284_23_7a z284_23_7n z284_23_7c).ownBlock = some w.heap.size := app_nb2 z284_23_7L i32_A2 B285
                have sp324 : ∀ k, (Value.slice i32_1v2a i32_1v2n i32_1v2c).ownBlock = some k → ¬ (Value.slice z284_23_7a z284_23_7n z284_23_7c).ownBlock = some k := app_nr2 z284_23_7L (apart_symm i32_A10) B287
                have sp325 : ¬ (Value.slice z284_23_7a z284_23_7n z284_23_7c).ownBlock = some w4.heap.size := app_nb2 z284_23_7L i32_A3 B283
                have sp326 : ∀ k, (Value.slice v205pa v205pn v205pc).ownBlock = some k → ¬ (Value.slice z284_23_7a z284_23_7n z284_23_7c).ownBlock = some k := app_nr2 z284_23_7L (apart_symm sp208) B288
                have sp327 : ¬ (Value.slice z284_23_7a z284_23_7n z284_23_7c).ownBlock = some w217.heap.size := app_nb2 z284_23_7L sp229 B289
                have sp328 : ∀ k, (Value.slice z234_13_7a z234_13_7n z234_13_7c).ownBlock = some k → ¬ (Value.slice z284_23_7a z284_23_7n z284_23_7c).ownBlock = some k := app_nr2 z284_23_7L (apart_symm sp274) B290
                have s0_284 : σ284 0 = .pointer (some ⟨w4.heap.size, 0, none⟩) := (A284 0 rfl).trans s0_234
                have s2_284 : σ284 2 = .float .f32 p2r := (A284 2 rfl).trans s2_234
                have X329 : Ext w w284 := Ext.step X282 E284 (oth_own1 (fun k _ hk => i32_1v1O k hk))
                refine da_op rfl (d_nil s16_284 ?_)
                refine da_op rfl (d_fieldAddr rfl (fa51_1 _ _) ?_)
                have B330 : w284.heap[w4.heap.size]? = some (.cells #[(Value.slice z234_13_7a z234_13_7n z234_13_7c), (Value.slice i32_1v1a i32_1v1n i32_1v1c), (Value.slice i32_1v2a i32_1v2n i32_1v2c), (Value.slice v205pa v205pn v205pc)] 51 (0, 0)) := E284.heap (not_oth1 i32_A3) B283
                refine da_op rfl (d_store (vs := #[(Value.slice z284_23_7a z284_23_7n z284_23_7c)]) rfl (congrArg Value.cells s23_284) B330 size33 (Nat.le_of_ble_eq_true rfl) rfl fun w331 S331 => ?_)
                have X332 : Ext w w331 := Ext.step X329 S331.frmb (fun k _ hk => hk ▸ own26)
                have B333 : w331.heap[w4.heap.size]? = some (.cells #[(Value.slice z234_13_7a z234_13_7n z234_13_7c), (Value.slice z284_23_7a z284_23_7n z284_23_7c), (Value.slice i32_1v2a i32_1v2n i32_1v2c), (Value.slice v205pa v205pn v205pc)] 51 (0, 0)) := S331.here
                refine da_nil ?_
                refine W_region rfl ?_
                refine da_op rfl (d_mv (v := .pointer (some ⟨w4.heap.size, 0, none⟩)) s0_284 ?_)
                refine da_op rfl (d_mv (v := .pointer (some ⟨w4.heap.size, 0, none⟩)) s0_284 ?_)
                refine da_op rfl (d_nil rfl ?_)
                refine da_op rfl (d_fieldAddr rfl (fa51_2 _ _) ?_)
                refine da_op rfl (d_load (v := (Value.slice i32_1v2a i32_1v2n i32_1v2c)) rfl agg48 B333 rfl ?_)
                refine da_op rfl (d_mv (v := .float .f32 p2r) s2_284 ?_)
                have B335 : w331.heap[w.heap.size]? = some (.cells #[.slice none 0 0, .slice none 0 0, .slice none 0 0, .slice none 0 0] 51 (0, 0)) := S331.frmb.heap sp27 (E284.heap (not_oth1 i32_A2) B285)
                have B336 : OS w331 22 encF_f32 (Value.slice i32_1v2a i32_1v2n i32_1v2c) s32.2.weights := (B287.frm E284 (fun k hk => (not_oth1 ((apart_symm i32_A10) k hk)))).frm S331.frmb (rb i32_A5)
                have B337 : OS w331 104 encSRod (Value.slice v205pa v205pn v205pc) m198 := (B288.frm E284 (fun k hk => (not_oth1 ((apart_symm sp208) k hk)))).frm S331.frmb (rb sp210)
                have B338 : OS w331 29 encSVector (Value.slice z234_13_7a z234_13_7n z234_13_7c) m241 := (B290.frm E284 (fun k hk => (not_oth1 ((apart_symm sp274) k hk)))).frm S331.frmb (rb sp276)
                have B339 : OS w331 29 encSVector (Value.slice z284_23_7a z284_23_7n z284_23_7c) m291 := z284_23_7R.frm S331.frmb (rb sp325)
                refine da_op rfl (d_bslice (vs := [(0, .float .f32 p2r)]) (cs := #[.float .f32 p2r]) un48 (pc rfl rfl) (by kernel_rfl) fun w334 B334 E334 => ?_)
                have fr334 : ∀ k, (Value.slice (some ⟨w331.heap.size, 0, none⟩) 1 1).ownBlock = some k → w331.heap.size ≤ k := fun k hk => by cases hk; exact Nat.le_refl _
                have own334 : ∀ k, (Value.slice (some ⟨w331.heap.size, 0, none⟩) 1 1).ownBlock = some k → w.heap.size ≤ k := fun k hk => Nat.le_trans X332.size (fr334 k hk)
                have sp340 : ¬ (Value.slice (some ⟨w331.heap.size, 0, none⟩) 1 1).ownBlock = some w.heap.size := ne_fresh fr334 (lt_heap B335)
                have sp341 : ∀ k, (Value.slice i32_1v2a i32_1v2n i32_1v2c).ownBlock = some k → ¬ (Value.slice (some ⟨w331.heap.size, 0, none⟩) 1 1).ownBlock = some k := apart_fresh B336 fr334
                have sp342 : ¬ (Value.slice (some ⟨w331.heap.size, 0, none⟩) 1 1).ownBlock = some w4.heap.size := ne_fresh fr334 (lt_heap B333)
                have sp343 : ∀ k, (Value.slice v205pa v205pn v205pc).ownBlock = some k → ¬ (Value.slice (some ⟨w331.heap.size, 0, none⟩) 1 1).ownBlock = some k := apart_fresh B337 fr334
                have sp344 : ∀ k, (Value.slice z234_13_7a z234_13_7n z234_13_7c).ownBlock = some k → ¬ (Value.slice (some ⟨w331.heap.size, 0, none⟩) 1 1).ownBlock = some k := apart_fresh B338 fr334
                have sp345 : ∀ k, (Value.slice z284_23_7a z284_23_7n z284_23_7c).ownBlock = some k → ¬ (Value.slice (some ⟨w331.heap.size, 0, none⟩) 1 1).ownBlock = some k := apart_fresh B339 fr334
                have X346 : Ext w w334 := X332.trans E334
                have O334 : OS w334 22 encF_f32 (Value.slice (some ⟨w331.heap.size, 0, none⟩) 1 1) [p2] := OS.box (xs := [p2]) B334 (lc_f p2h rfl) (Nat.le_of_ble_eq_true rfl)
                obtain ⟨m347, hm347, hr⟩ := bind_out hr
                have B348 : OS w334 22 encF_f32 (Value.slice i32_1v2a i32_1v2n i32_1v2c) s32.2.weights := B336.ext E334
                have B349 : w334.heap[w.heap.size]? = some (.cells #[.slice none 0 0, .slice none 0 0, .slice none 0 0, .slice none 0 0] 51 (0, 0)) := E334.heap B335
                have B350 : w334.heap[w4.heap.size]? = some (.cells #[(Value.slice z234_13_7a z234_13_7n z234_13_7c), (Value.slice z284_23_7a z284_23_7n z284_23_7c), (Value.slice i32_1v2a i32_1v2n i32_1v2c), (Value.slice v205pa v205pn v205pc)] 51 (0, 0)) := E334.heap B333
                have B351 : OS w334 104 encSRod (Value.slice v205pa v205pn v205pc) m198 := B337.ext E334
                have B352 : OS w334 29 encSVector (Value.slice z234_13_7a z234_13_7n z234_13_7c) m241 := B338.ext E334
                have B353 : OS w334 29 encSVector (Value.slice z284_23_7a z284_23_7n z284_23_7c) m291 := B339.ext E334
                refine da_op rfl (d_append (e := encF_f32) (v := (Value.slice i32_1v2a i32_1v2n i32_1v2c)) (y := (Value.slice (some ⟨w331.heap.size, 0, none⟩) 1 1)) un48 info22 rfl (by kernel_rfl) (by kernel_rfl) (by decide) (by decide) rfl rfl B348 O334.rs hm347 fun v354 w354 O354 Fm354 at_354 nl354 => ?_)
                obtain ⟨v354pa, v354pn, v354pc, rfl⟩ := O354.vals
                have own354 : ∀ k, (Value.slice v354pa v354pn v354pc).ownBlock = some k → w.heap.size ≤ k := app_own (w := w334) at_354 i32_1v2O X346.size
                have sp355 : ¬ (Value.slice v354pa v354pn v354pc).ownBlock = some w.heap.size := app_nb at_354 i32_A4 (lt_heap B349)
                have sp356 : ¬ (Value.slice v354pa v354pn v354pc).ownBlock = some w4.heap.size := app_nb at_354 i32_A5 (lt_heap B350)
                have sp357 : ∀ k, (Value.slice v205pa v205pn v205pc).ownBlock = some k → ¬ (Value.slice v354pa v354pn v354pc).ownBlock = some k := app_nr at_354 (apart_symm sp209) B351
                have sp358 : ∀ k, (Value.slice z234_13_7a z234_13_7n z234_13_7c).ownBlock = some k → ¬ (Value.slice v354pa v354pn v354pc).ownBlock = some k := app_nr at_354 (apart_symm sp275) B352
                have sp359 : ∀ k, (Value.slice z284_23_7a z284_23_7n z284_23_7c).ownBlock = some k → ¬ (Value.slice v354pa v354pn v354pc).ownBlock = some k := app_nr at_354 (apart_symm sp324) B353
                have sp360 : ∀ k, (Value.slice (some ⟨w331.heap.size, 0, none⟩) 1 1).ownBlock = some k → ¬ (Value.slice v354pa v354pn v354pc).ownBlock = some k := app_nr at_354 (apart_symm sp341) O334
                have X361 : Ext w w354 := Ext.step X346 Fm354 (fun k _ hk => i32_1v2O k hk)
                refine da_op rfl (d_nil rfl ?_)
                refine da_op rfl (d_fieldAddr rfl (fa51_2 _ _) ?_)
                have B362 : w354.heap[w4.heap.size]? = some (.cells #[(Value.slice z234_13_7a z234_13_7n z234_13_7c), (Value.slice z284_23_7a z284_23_7n z284_23_7c), (Value.slice i32_1v2a i32_1v2n i32_1v2c), (Value.slice v205pa v205pn v205pc)] 51 (0, 0)) := Fm354.heap i32_A5 B350
                refine da_op rfl (d_store (vs := #[(Value.slice v354pa v354pn v354pc)]) rfl rfl B362 size48 (Nat.le_of_ble_eq_true rfl) rfl fun w363 S363 => ?_)
                have X364 : Ext w w363 := Ext.step X361 S363.frmb (fun k _ hk => hk ▸ own26)
                have B365 : w363.heap[w4.heap.size]? = some (.cells #[(Value.slice z234_13_7a z234_13_7n z234_13_7c), (Value.slice z284_23_7a z284_23_7n z284_23_7c), (Value.slice v354pa v354pn v354pc), (Value.slice v205pa v205pn v205pc)] 51 (0, 0)) := S363.here
                refine da_nil ?_
                refine ⟨_, res0 , ?_⟩
                refine ⟨_, rfl, ?_⟩
                refine da_nil ?_
                refine W_region rfl ?_
                refine da_op rfl (d_mv (v := .int .i64 s32.1) i32_S9 ?_)
                refine da_op rfl (d_iarith rfl rfl (.inl ⟨rfl, rfl⟩) ?_)
                refine da_op rfl (d_as (v := .int .i64 (IntKind.i64.wrap (s32.1 + 1))) rfl ?_)
                refine da_nil ?_
                have B366 : OS w363 29 encSVector (Value.slice z234_13_7a z234_13_7n z234_13_7c) m241 := (B352.frm Fm354 (apart_symm sp275)).frm S363.frmb (rb sp276)
                have B367 : OS w363 29 encSVector (Value.slice z284_23_7a z284_23_7n z284_23_7c) m291 := (B353.frm Fm354 (apart_symm sp324)).frm S363.frmb (rb sp325)
                have B368 : OS w363 22 encF_f32 (Value.slice v354pa v354pn v354pc) m347 := O354.frm S363.frmb (rb sp356)
                have B369 : OS w363 104 encSRod (Value.slice v205pa v205pn v205pc) m198 := (B351.frm Fm354 (apart_symm sp209)).frm S363.frmb (rb sp210)
                have B370 : w363.heap[w.heap.size]? = some (.cells #[.slice none 0 0, .slice none 0 0, .slice none 0 0, .slice none 0 0] 51 (0, 0)) := S363.frmb.heap sp27 (Fm354.heap i32_A4 B349)
                obtain rfl := Option.some.inj hr
                exact ⟨_, rfl, ⟨z234_13_7a, z234_13_7n, z234_13_7c, z284_23_7a, z284_23_7n, z284_23_7c, v354pa, v354pn, v354pc, v205pa, v205pn, v205pc, rfl, i32_S0, i32_S1, i32_S2, i32_S6, i32_S8, B366, own272, B367, own322, B368, own354, B369, own205, B365, B370, sp273, sp276, sp323, sp325, sp355, sp356, sp206, sp210, sp328, sp358, sp359, (apart_symm sp277), (apart_symm sp326), (apart_symm sp357), X364⟩⟩
        · skip
          replace hr := bif_f hr hc34
          refine W_exit ?_
          obtain rfl := Option.some.inj hr
          exact ⟨_, rfl, rfl, i32_1v0a, i32_1v0n, i32_1v0c, i32_1v1a, i32_1v1n, i32_1v1c, i32_1v2a, i32_1v2n, i32_1v2c, i32_1v3a, i32_1v3n, i32_1v3c, i32_S6, i32_S8, i32_1v0R, i32_1v0O, i32_1v1R, i32_1v1O, i32_1v2R, i32_1v2O, i32_1v3R, i32_1v3O, i32_1B, i32_K0, i32_A0, i32_A1, i32_A2, i32_A3, i32_A4, i32_A5, i32_A6, i32_A7, i32_A8, i32_A9, i32_A10, i32_A11, i32_A12, i32_A13, i32_X⟩
      · skip
        intro ex σx32 wx32 hq
        obtain ⟨rfl, q32_0_0v0a, q32_0_0v0n, q32_0_0v0c, q32_0_0v1a, q32_0_0v1n, q32_0_0v1c, q32_0_0v2a, q32_0_0v2n, q32_0_0v2c, q32_0_0v3a, q32_0_0v3n, q32_0_0v3c, q32_0_S6, q32_0_S8, q32_0_0v0R, q32_0_0v0O, q32_0_0v1R, q32_0_0v1O, q32_0_0v2R, q32_0_0v2O, q32_0_0v3R, q32_0_0v3O, q32_0_0B, q32_0_K0, q32_0_A0, q32_0_A1, q32_0_A2, q32_0_A3, q32_0_A4, q32_0_A5, q32_0_A6, q32_0_A7, q32_0_A8, q32_0_A9, q32_0_A10, q32_0_A11, q32_0_A12, q32_0_A13, q32_0_X⟩ := hq
        refine W_seq ?_
        refine W_region rfl ?_
        refine da_op rfl (d_loads (vs := #[(Value.slice q32_0_0v0a q32_0_0v0n q32_0_0v0c), (Value.slice q32_0_0v1a q32_0_0v1n q32_0_0v1c), (Value.slice q32_0_0v2a q32_0_0v2n q32_0_0v2c), (Value.slice q32_0_0v3a q32_0_0v3n q32_0_0v3c)]) q32_0_S8 agg51 size51 q32_0_0B rfl ?_)
        obtain ⟨m371, hm371, hr⟩ := bind_out hr
        refine da_op rfl (d_cl (vs := [.agg #[(Value.slice q32_0_0v0a q32_0_0v0n q32_0_0v0c), (Value.slice q32_0_0v1a q32_0_0v1n q32_0_0v1c), (Value.slice q32_0_0v2a q32_0_0v2n q32_0_0v2c), (Value.slice q32_0_0v3a q32_0_0v3n q32_0_0v3c)]]) en68 (ac rfl rfl) rfl ?_)
        refine (c68 (⟨m32.places, m32.before, m32.weights, m32.rods⟩ : SChain) q32_0_0v0a q32_0_0v0n q32_0_0v0c q32_0_0v1a q32_0_0v1n q32_0_0v1c q32_0_0v2a q32_0_0v2n q32_0_0v2c q32_0_0v3a q32_0_0v3n q32_0_0v3c m371 wx32 hm371 q32_0_0v0R.rs q32_0_0v1R.rs q32_0_0v2R.rs q32_0_0v3R.rs).mono ?_
        rintro _ w372 ⟨q372_0v0a, q372_0v0n, q372_0v0c, q372_0v1a, q372_0v1n, q372_0v1c, q372_0v2a, q372_0v2n, q372_0v2c, q372_0v3a, q372_0v3n, q372_0v3c, rfl, q372_0v0H, q372_0v1H, q372_0v2H, q372_0v3H, E372⟩
        refine ⟨_, rfl, ?_⟩
        have X373 : Ext w w372 := q32_0_X.trans E372
        have B375 : OS w372 29 encSVector (Value.slice q32_0_0v0a q32_0_0v0n q32_0_0v0c) m32.places := q32_0_0v0R.ext E372
        have O374 : OS w372 29 encSVector (Value.slice q372_0v0a q372_0v0n q372_0v0c) m371.1.places := Hand.os q372_0v0H B375
        have B377 : OS w372 29 encSVector (Value.slice q32_0_0v1a q32_0_0v1n q32_0_0v1c) m32.before := q32_0_0v1R.ext E372
        have O376 : OS w372 29 encSVector (Value.slice q372_0v1a q372_0v1n q372_0v1c) m371.1.before := Hand.os q372_0v1H B377
        have B379 : OS w372 22 encF_f32 (Value.slice q32_0_0v2a q32_0_0v2n q32_0_0v2c) m32.weights := q32_0_0v2R.ext E372
        have O378 : OS w372 22 encF_f32 (Value.slice q372_0v2a q372_0v2n q372_0v2c) m371.1.weights := Hand.os q372_0v2H B379
        have B381 : OS w372 104 encSRod (Value.slice q32_0_0v3a q32_0_0v3n q32_0_0v3c) m32.rods := q32_0_0v3R.ext E372
        have O380 : OS w372 104 encSRod (Value.slice q372_0v3a q372_0v3n q372_0v3c) m371.1.rods := Hand.os q372_0v3H B381
        refine da_op rfl (d_extract (v := .agg #[(Value.slice q372_0v0a q372_0v0n q372_0v0c), (Value.slice q372_0v1a q372_0v1n q372_0v1c), (Value.slice q372_0v2a q372_0v2n q372_0v2c), (Value.slice q372_0v3a q372_0v3n q372_0v3c)]) rfl rfl ?_)
        refine da_op rfl (d_extract (v := .bool m371.2) rfl rfl ?_)
        have B382 : w372.heap[w.heap.size]? = some (.cells #[.slice none 0 0, .slice none 0 0, .slice none 0 0, .slice none 0 0] 51 (0, 0)) := E372.heap q32_0_K0
        refine da_op rfl (d_store (vs := #[(Value.slice q372_0v0a q372_0v0n q372_0v0c), (Value.slice q372_0v1a q372_0v1n q372_0v1c), (Value.slice q372_0v2a q372_0v2n q372_0v2c), (Value.slice q372_0v3a q372_0v3n q372_0v3c)]) q32_0_S6 rfl B382 size51 (Nat.le_of_ble_eq_true rfl) rfl fun w383 S383 => ?_)
        have X384 : Ext w w383 := Ext.step X373 S383.frmb (fun k _ hk => hk ▸ own2)
        have B385 : w383.heap[w.heap.size]? = some (.cells #[(Value.slice q372_0v0a q372_0v0n q372_0v0c), (Value.slice q372_0v1a q372_0v1n q372_0v1c), (Value.slice q372_0v2a q372_0v2n q372_0v2c), (Value.slice q372_0v3a q372_0v3n q372_0v3c)] 51 (0, 0)) := S383.here
        refine da_op rfl (d_as (v := .bool m371.2) rfl ?_)
        refine da_nil ?_
        refine W_ret ?_
        have B386 : OS w383 29 encSVector (Value.slice q372_0v0a q372_0v0n q372_0v0c) m371.1.places := O374.frm S383.frmb (rb (Hand.nb q372_0v0H q32_0_A0))
        have B387 : OS w383 29 encSVector (Value.slice q372_0v1a q372_0v1n q372_0v1c) m371.1.before := O376.frm S383.frmb (rb (Hand.nb q372_0v1H q32_0_A2))
        have B388 : OS w383 22 encF_f32 (Value.slice q372_0v2a q372_0v2n q372_0v2c) m371.1.weights := O378.frm S383.frmb (rb (Hand.nb q372_0v2H q32_0_A4))
        have B389 : OS w383 104 encSRod (Value.slice q372_0v3a q372_0v3n q372_0v3c) m371.1.rods := O380.frm S383.frmb (rb (Hand.nb q372_0v3H q32_0_A6))
        obtain rfl := Option.some.inj hr
        refine ⟨_, res2 (rv_cells (vs := #[(Value.slice q372_0v0a q372_0v0n q372_0v0c), (Value.slice q372_0v1a q372_0v1n q372_0v1c), (Value.slice q372_0v2a q372_0v2n q372_0v2c), (Value.slice q372_0v3a q372_0v3n q372_0v3c)]) q32_0_S6 agg51 size51 B385 rfl) (rv_tmp rfl), ?_⟩
        exact ⟨q372_0v0a, q372_0v0n, q372_0v0c, q372_0v1a, q372_0v1n, q372_0v1c, q372_0v2a, q372_0v2n, q372_0v2c, q372_0v3a, q372_0v3n, q372_0v3c, rfl, B386, (Hand.own q372_0v0H q32_0_0v0O), B387, (Hand.own q372_0v1H q32_0_0v1O), B388, (Hand.own q372_0v2H q32_0_0v2O), B389, (Hand.own q372_0v3H q32_0_0v3O), (Hand.nr q372_0v0H (Hand.nr2 q372_0v1H q32_0_A8)), (Hand.nr q372_0v0H (Hand.nr2 q372_0v2H q32_0_A9)), (Hand.nr q372_0v1H (Hand.nr2 q372_0v2H q32_0_A10)), (Hand.nr q372_0v0H (Hand.nr2 q372_0v3H q32_0_A11)), (Hand.nr q372_0v1H (Hand.nr2 q372_0v3H q32_0_A12)), (Hand.nr q372_0v2H (Hand.nr2 q372_0v3H q32_0_A13)), X384⟩
set_option maxHeartbeats 4000000 in
theorem c103 (p0 : SClocks) (p0b p0o : Nat) (p0c : Array Value) (p0T : TypeId) (p0f : Nat × Nat) (p0v0a : Option Addr) (p0v0n : Nat) (p0v0c : Nat) (p0v1a : Option Addr) (p0v1n : Nat) (p0v1c : Nat) (r : Bool) (w : World) (hr : M.spec_l05Is p0 = some r) (p0v0R : RS w encSClock (Value.slice p0v0a p0v0n p0v0c) p0.list) (p0v1R : RS w encF_f32 (Value.slice p0v1a p0v1n p0v1c) p0.links) (p0B : w.heap[p0b]? = some (.cells p0c p0T p0f)) (p0P : (p0c.toList.drop p0o).take 2 = [(Value.slice p0v0a p0v0n p0v0c), (Value.slice p0v1a p0v1n p0v1c)]) :
    Calls Try.prog 103 #[.pointer (some ⟨p0b, p0o, none⟩)] w fun e w' => e = .returned (.bool r) ∧ Ext w w' := by
  refine calls_of_W Try.func103 rfl (Nat.le_of_ble_eq_true rfl) ?_
  refine W_seq ?_
  refine W_region rfl ?_
  refine da_op rfl (d_as (v := .bool false) rfl ?_)
  refine da_nil ?_
  refine W_seq ?_
  refine W_region rfl ?_
  refine da_op rfl (d_mv (v := .pointer (some ⟨p0b, p0o, none⟩)) rfl ?_)
  refine da_op rfl (d_nil rfl ?_)
  refine da_op rfl (d_fieldAddr rfl (fa54_0 _ _) ?_)
  refine da_op rfl (d_load (v := (Value.slice p0v0a p0v0n p0v0c)) rfl agg52 p0B (sub_get (vs := #[(Value.slice p0v0a p0v0n p0v0c), (Value.slice p0v1a p0v1n p0v1c)]) p0P (i := 0) rfl) ?_)
  refine da_op rfl (d_len (e := encSClock) un52 rfl p0v0R ?_)
  refine da_op rfl (d_as (v := .int .i64 ((p0.list).length : Int)) rfl ?_)
  refine da_nil ?_
  refine W_seq ?_
  refine W_seq ?_
  obtain ⟨m1, hm1, hr⟩ := letv_out hr
  refine W_cut (fun σ' w' => σ' 27 = .bool m1 ∧ Ext w w') rfl ?_ ?_
  · skip
    have hr := hm1
    refine da_op rfl (d_mv (v := .int .i64 ((p0.list).length : Int)) rfl ?_)
    refine da_op rfl (d_icmp cLss rfl rfl ?_)
    refine da_op rfl (d_mv (v := .bool (icmp .lss ((p0.list).length : Int) 1)) rfl ?_)
    rcases Bool.eq_false_or_eq_true (icmp .lss ((p0.list).length : Int) 1) with hc2 | hc2
    · skip
      replace hr := bif_t hr hc2
      refine da_off rfl (Eq.trans (show sl _ _ _ = .bool (icmp .lss ((p0.list).length : Int) 1) from rfl) (congrArg Value.bool hc2)) (by decide) ?_
      refine da_off rfl (Eq.trans (show sl _ _ _ = .bool (icmp .lss ((p0.list).length : Int) 1) from rfl) (congrArg Value.bool hc2)) (by decide) ?_
      refine da_op rfl (d_pick (b := true) (Eq.trans (show ev _ _ = .bool (icmp .lss ((p0.list).length : Int) 1) from rfl) (congrArg Value.bool hc2)) ?_)
      refine da_op rfl (d_mv (v := .bool true) rfl ?_)
      refine da_off rfl rfl (by decide) ?_
      refine da_off rfl rfl (by decide) ?_
      refine da_off rfl rfl (by decide) ?_
      refine da_off rfl rfl (by decide) ?_
      refine da_off rfl rfl (by decide) ?_
      refine da_off rfl rfl (by decide) ?_
      refine da_off rfl rfl (by decide) ?_
      refine da_off rfl rfl (by decide) ?_
      refine da_off rfl rfl (by decide) ?_
      refine da_op rfl (d_pick (b := true) rfl ?_)
      refine da_nil ?_
      subst hr
      exact ⟨rfl, (Ext.refl w)⟩
    · skip
      replace hr := bif_f hr hc2
      refine da_on rfl (Eq.trans (show sl _ _ _ = .bool (icmp .lss ((p0.list).length : Int) 1) from rfl) (congrArg Value.bool hc2)) (d_mv (v := .int .i64 ((p0.list).length : Int)) rfl ?_)
      refine da_on rfl (Eq.trans (show sl _ _ _ = .bool (icmp .lss ((p0.list).length : Int) 1) from rfl) (congrArg Value.bool hc2)) (d_icmp cGtr rfl rfl ?_)
      refine da_op rfl (d_pick (b := false) (Eq.trans (show ev _ _ = .bool (icmp .lss ((p0.list).length : Int) 1) from rfl) (congrArg Value.bool hc2)) ?_)
      refine da_op rfl (d_mv (v := .bool (icmp .gtr ((p0.list).length : Int) 12)) rfl ?_)
      rcases Bool.eq_false_or_eq_true (icmp .gtr ((p0.list).length : Int) 12) with hc3 | hc3
      · skip
        replace hr := bif_t hr hc3
        refine da_off rfl (Eq.trans (show sl _ _ _ = .bool (icmp .gtr ((p0.list).length : Int) 12) from rfl) (congrArg Value.bool hc3)) (by decide) ?_
        refine da_off rfl (Eq.trans (show sl _ _ _ = .bool (icmp .gtr ((p0.list).length : Int) 12) from rfl) (congrArg Value.bool hc3)) (by decide) ?_
        refine da_off rfl (Eq.trans (show sl _ _ _ = .bool (icmp .gtr ((p0.list).length : Int) 12) from rfl) (congrArg Value.bool hc3)) (by decide) ?_
        refine da_off rfl (Eq.trans (show sl _ _ _ = .bool (icmp .gtr ((p0.list).length : Int) 12) from rfl) (congrArg Value.bool hc3)) (by decide) ?_
        refine da_off rfl (Eq.trans (show sl _ _ _ = .bool (icmp .gtr ((p0.list).length : Int) 12) from rfl) (congrArg Value.bool hc3)) (by decide) ?_
        refine da_off rfl (Eq.trans (show sl _ _ _ = .bool (icmp .gtr ((p0.list).length : Int) 12) from rfl) (congrArg Value.bool hc3)) (by decide) ?_
        refine da_off rfl (Eq.trans (show sl _ _ _ = .bool (icmp .gtr ((p0.list).length : Int) 12) from rfl) (congrArg Value.bool hc3)) (by decide) ?_
        refine da_off rfl (Eq.trans (show sl _ _ _ = .bool (icmp .gtr ((p0.list).length : Int) 12) from rfl) (congrArg Value.bool hc3)) (by decide) ?_
        refine da_off rfl (Eq.trans (show sl _ _ _ = .bool (icmp .gtr ((p0.list).length : Int) 12) from rfl) (congrArg Value.bool hc3)) (by decide) ?_
        refine da_op rfl (d_pick (b := true) (Eq.trans (show ev _ _ = .bool (icmp .gtr ((p0.list).length : Int) 12) from rfl) (congrArg Value.bool hc3)) ?_)
        refine da_nil ?_
        subst hr
        exact ⟨rfl, (Ext.refl w)⟩
      · skip
        replace hr := bif_f hr hc3
        refine da_on rfl (Eq.trans (show sl _ _ _ = .bool (icmp .gtr ((p0.list).length : Int) 12) from rfl) (congrArg Value.bool hc3)) (d_mv (v := .pointer (some ⟨p0b, p0o, none⟩)) rfl ?_)
        refine da_on rfl (Eq.trans (show sl _ _ _ = .bool (icmp .gtr ((p0.list).length : Int) 12) from rfl) (congrArg Value.bool hc3)) (d_nil rfl ?_)
        refine da_on rfl (Eq.trans (show sl _ _ _ = .bool (icmp .gtr ((p0.list).length : Int) 12) from rfl) (congrArg Value.bool hc3)) (d_fieldAddr rfl (fa54_1 _ _) ?_)
        refine da_on rfl (Eq.trans (show sl _ _ _ = .bool (icmp .gtr ((p0.list).length : Int) 12) from rfl) (congrArg Value.bool hc3)) (d_load (v := (Value.slice p0v1a p0v1n p0v1c)) rfl agg48 p0B (sub_get (vs := #[(Value.slice p0v0a p0v0n p0v0c), (Value.slice p0v1a p0v1n p0v1c)]) p0P (i := 1) rfl) ?_)
        refine da_on rfl (Eq.trans (show sl _ _ _ = .bool (icmp .gtr ((p0.list).length : Int) 12) from rfl) (congrArg Value.bool hc3)) (d_len (e := encF_f32) un48 rfl p0v1R ?_)
        refine da_on rfl (Eq.trans (show sl _ _ _ = .bool (icmp .gtr ((p0.list).length : Int) 12) from rfl) (congrArg Value.bool hc3)) (d_mv (v := .int .i64 ((p0.list).length : Int)) rfl ?_)
        refine da_on rfl (Eq.trans (show sl _ _ _ = .bool (icmp .gtr ((p0.list).length : Int) 12) from rfl) (congrArg Value.bool hc3)) (d_mv (v := .int .i64 ((p0.list).length : Int)) rfl ?_)
        refine da_on rfl (Eq.trans (show sl _ _ _ = .bool (icmp .gtr ((p0.list).length : Int) 12) from rfl) (congrArg Value.bool hc3)) (d_iarith rfl rfl (.inr (.inr ⟨rfl, rfl⟩)) ?_)
        refine da_on rfl (Eq.trans (show sl _ _ _ = .bool (icmp .gtr ((p0.list).length : Int) 12) from rfl) (congrArg Value.bool hc3)) (d_icmp cNeq rfl rfl ?_)
        refine da_op rfl (d_pick (b := false) (Eq.trans (show ev _ _ = .bool (icmp .gtr ((p0.list).length : Int) 12) from rfl) (congrArg Value.bool hc3)) ?_)
        refine da_nil ?_
        subst hr
        exact ⟨rfl, (Ext.refl w)⟩
  · skip
    rintro σ1 w1 o1 ⟨s27_1, E1⟩
    have s0_1 : σ1 0 = .pointer (some ⟨p0b, p0o, none⟩) := (o1 0 rfl).trans rfl
    have X4 : Ext w w1 := (Ext.refl w).trans E1
    refine W_cond (b := m1) s27_1 (fun hc5 => ?_) (fun hc5 => ?_)
    · skip
      replace hr := bif_t hr hc5
      refine W_seq ?_
      refine W_region rfl ?_
      refine da_op rfl (d_as (v := .bool false) rfl ?_)
      refine da_nil ?_
      refine W_ret ?_
      obtain rfl := Option.some.inj hr
      refine ⟨_, res1 (rv_tmp rfl), ?_⟩
      exact ⟨rfl, X4⟩
    · skip
      replace hr := bif_f hr hc5
      refine W_skip ?_
      refine W_seq ?_
      refine W_seq ?_
      refine W_region rfl ?_
      refine da_op rfl (d_mv (v := .pointer (some ⟨p0b, p0o, none⟩)) s0_1 ?_)
      refine da_op rfl (d_nil rfl ?_)
      refine da_op rfl (d_fieldAddr rfl (fa54_0 _ _) ?_)
      have B6 : w1.heap[p0b]? = some (.cells p0c p0T p0f) := X4.heap p0B
      refine da_op rfl (d_load (v := (Value.slice p0v0a p0v0n p0v0c)) rfl agg52 B6 (sub_get (vs := #[(Value.slice p0v0a p0v0n p0v0c), (Value.slice p0v1a p0v1n p0v1c)]) p0P (i := 0) rfl) ?_)
      have B7 : RS w1 encSClock (Value.slice p0v0a p0v0n p0v0c) p0.list := p0v0R.ext X4
      refine da_op rfl (d_len (e := encSClock) un52 rfl B7 ?_)
      refine da_op rfl (d_mv (v := .int .i64 0) rfl ?_)
      refine da_nil ?_
      refine W_block ?_
      obtain ⟨m8, hm8, hr⟩ := bind_out hr
      refine W_loopM hm8 (fun (s8 : Int) σ w' => σ 33 = .int .i64 s8 ∧ σ 0 = .pointer (some ⟨p0b, p0o, none⟩) ∧ σ 32 = .int .i64 ((p0.list).length : Int) ∧ Ext w w') (fun (e8 : (Unit ⊕ Bool)) ex σ w' => sel e8 (fun e8 => ex = .exit 0 ∧ σ 0 = .pointer (some ⟨p0b, p0o, none⟩) ∧ Ext w w') (fun e8 => ex = .ret ∧ σ 2 = .bool e8 ∧ Ext w w')) ⟨rfl, s0_1, rfl, X4⟩ ?_ ?_
      · skip
        rintro s8 σl8 wl8 r8l ⟨i8_S33, i8_S0, i8_S32, i8_X⟩ hr
        refine W_seq ?_
        refine W_region rfl ?_
        refine da_op rfl (d_icmp cLss i8_S33 i8_S32 ?_)
        refine da_nil ?_
        refine W_seq ?_
        refine W_cond (b := (icmp .lss s8 ((p0.list).length : Int))) rfl (fun hc9 => ?_) (fun hc9 => ?_)
        · skip
          replace hr := bif_t hr hc9
          refine W_skip ?_
          refine W_seq ?_
          refine W_block ?_
          refine W_seq ?_
          refine W_region rfl ?_
          refine da_op rfl (d_mv (v := .int .i64 s8) i8_S33 ?_)
          refine da_op rfl (d_as (v := .int .i64 s8) rfl ?_)
          refine da_nil ?_
          refine W_seq ?_
          obtain ⟨m10, hm10, hr⟩ := bind_out hr
          refine W_cut (fun σ' w' => σ' 68 = .bool m10 ∧ Ext wl8 w') rfl ?_ ?_
          · skip
            have hr := hm10
            refine da_op rfl (d_mv (v := .pointer (some ⟨p0b, p0o, none⟩)) i8_S0 ?_)
            refine da_op rfl (d_nil rfl ?_)
            refine da_op rfl (d_fieldAddr rfl (fa54_0 _ _) ?_)
            have B11 : wl8.heap[p0b]? = some (.cells p0c p0T p0f) := i8_X.heap p0B
            refine da_op rfl (d_load (v := (Value.slice p0v0a p0v0n p0v0c)) rfl agg52 B11 (sub_get (vs := #[(Value.slice p0v0a p0v0n p0v0c), (Value.slice p0v1a p0v1n p0v1c)]) p0P (i := 0) rfl) ?_)
            refine da_op rfl (d_mv (v := .int .i64 s8) rfl ?_)
            obtain ⟨m12, hm12, hr⟩ := bind_out hr
            have B14 : RS wl8 encSClock (Value.slice p0v0a p0v0n p0v0c) p0.list := p0v0R.ext i8_X
            refine da_op rfl (d_index (e := encSClock) (v := (Value.slice p0v0a p0v0n p0v0c)) un52 size109 rfl rfl B14 hm12 fun g13 o13 cu13 T13 fr13 vs13 hv13 hg13 hp13 hq13 => ?_)
            obtain ⟨e13_r0, e13_r1, rfl, e13_h0, e13_h1⟩ := dec_encSClock hq13
            refine da_op rfl (d_fieldAddr rfl (fa109_0 _ _) ?_)
            refine da_op rfl (d_load (v := .float .f32 e13_r0) rfl agg22 hg13 (sub_get (vs := #[.float .f32 e13_r0, .float .f32 e13_r1]) hp13 (i := 0) rfl) ?_)
            refine da_op rfl (d_fcmp (k := .f32) cGeq rfl rfl e13_h0 cn_f32_0 ?_)
            refine da_op rfl (d_not rfl ?_)
            refine da_op rfl (d_mv (v := .bool (!(fcmp .geq .f32 m12.turn 0))) rfl ?_)
            rcases Bool.eq_false_or_eq_true (fcmp .geq .f32 m12.turn 0) with hc15 | hc15
            · skip
              replace hr := bif_t hr hc15
              refine da_on rfl (Eq.trans (show sl _ _ _ = .bool (!(fcmp .geq .f32 m12.turn 0)) from rfl) (congrArg Value.bool (congrArg not hc15))) (d_mv (v := .pointer (some ⟨p0b, p0o, none⟩)) i8_S0 ?_)
              refine da_on rfl (Eq.trans (show sl _ _ _ = .bool (!(fcmp .geq .f32 m12.turn 0)) from rfl) (congrArg Value.bool (congrArg not hc15))) (d_nil rfl ?_)
              refine da_on rfl (Eq.trans (show sl _ _ _ = .bool (!(fcmp .geq .f32 m12.turn 0)) from rfl) (congrArg Value.bool (congrArg not hc15))) (d_fieldAddr rfl (fa54_0 _ _) ?_)
              refine da_on rfl (Eq.trans (show sl _ _ _ = .bool (!(fcmp .geq .f32 m12.turn 0)) from rfl) (congrArg Value.bool (congrArg not hc15))) (d_load (v := (Value.slice p0v0a p0v0n p0v0c)) rfl agg52 B11 (sub_get (vs := #[(Value.slice p0v0a p0v0n p0v0c), (Value.slice p0v1a p0v1n p0v1c)]) p0P (i := 0) rfl) ?_)
              refine da_on rfl (Eq.trans (show sl _ _ _ = .bool (!(fcmp .geq .f32 m12.turn 0)) from rfl) (congrArg Value.bool (congrArg not hc15))) (d_mv (v := .int .i64 s8) rfl ?_)
              obtain ⟨m16, hm16, hr⟩ := bind_out hr
              refine da_on rfl (Eq.trans (show sl _ _ _ = .bool (!(fcmp .geq .f32 m12.turn 0)) from rfl) (congrArg Value.bool (congrArg not hc15))) (d_index (e := encSClock) (v := (Value.slice p0v0a p0v0n p0v0c)) un52 size109 rfl rfl B14 hm16 fun g17 o17 cu17 T17 fr17 vs17 hv17 hg17 hp17 hq17 => ?_)
              obtain ⟨e17_r0, e17_r1, rfl, e17_h0, e17_h1⟩ := dec_encSClock hq17
              refine da_on rfl (Eq.trans (show sl _ _ _ = .bool (!(fcmp .geq .f32 m12.turn 0)) from rfl) (congrArg Value.bool (congrArg not hc15))) (d_fieldAddr rfl (fa109_0 _ _) ?_)
              refine da_on rfl (Eq.trans (show sl _ _ _ = .bool (!(fcmp .geq .f32 m12.turn 0)) from rfl) (congrArg Value.bool (congrArg not hc15))) (d_load (v := .float .f32 e17_r0) rfl agg22 hg17 (sub_get (vs := #[.float .f32 e17_r0, .float .f32 e17_r1]) hp17 (i := 0) rfl) ?_)
              refine da_on rfl (Eq.trans (show sl _ _ _ = .bool (!(fcmp .geq .f32 m12.turn 0)) from rfl) (congrArg Value.bool (congrArg not hc15))) (d_fcmp (k := .f32) cGeq rfl rfl e17_h0 cn_f32_1065353216 ?_)
              refine da_op rfl (d_pick (b := false) (Eq.trans (show ev _ _ = .bool (!(fcmp .geq .f32 m12.turn 0)) from rfl) (congrArg Value.bool (congrArg not hc15))) ?_)
              refine da_op rfl (d_mv (v := .bool (fcmp .geq .f32 m16.turn 1065353216)) rfl ?_)
              rcases Bool.eq_false_or_eq_true (fcmp .geq .f32 m16.turn 1065353216) with hc18 | hc18
              · skip
                replace hr := bif_t hr hc18
                refine da_off rfl (Eq.trans (show sl _ _ _ = .bool (fcmp .geq .f32 m16.turn 1065353216) from rfl) (congrArg Value.bool hc18)) (by decide) ?_
                refine da_off rfl (Eq.trans (show sl _ _ _ = .bool (fcmp .geq .f32 m16.turn 1065353216) from rfl) (congrArg Value.bool hc18)) (by decide) ?_
                refine da_off rfl (Eq.trans (show sl _ _ _ = .bool (fcmp .geq .f32 m16.turn 1065353216) from rfl) (congrArg Value.bool hc18)) (by decide) ?_
                refine da_off rfl (Eq.trans (show sl _ _ _ = .bool (fcmp .geq .f32 m16.turn 1065353216) from rfl) (congrArg Value.bool hc18)) (by decide) ?_
                refine da_off rfl (Eq.trans (show sl _ _ _ = .bool (fcmp .geq .f32 m16.turn 1065353216) from rfl) (congrArg Value.bool hc18)) (by decide) ?_
                refine da_off rfl (Eq.trans (show sl _ _ _ = .bool (fcmp .geq .f32 m16.turn 1065353216) from rfl) (congrArg Value.bool hc18)) (by decide) ?_
                refine da_off rfl (Eq.trans (show sl _ _ _ = .bool (fcmp .geq .f32 m16.turn 1065353216) from rfl) (congrArg Value.bool hc18)) (by decide) ?_
                refine da_off rfl (Eq.trans (show sl _ _ _ = .bool (fcmp .geq .f32 m16.turn 1065353216) from rfl) (congrArg Value.bool hc18)) (by decide) ?_
                refine da_off rfl (Eq.trans (show sl _ _ _ = .bool (fcmp .geq .f32 m16.turn 1065353216) from rfl) (congrArg Value.bool hc18)) (by decide) ?_
                refine da_off rfl (Eq.trans (show sl _ _ _ = .bool (fcmp .geq .f32 m16.turn 1065353216) from rfl) (congrArg Value.bool hc18)) (by decide) ?_
                refine da_op rfl (d_pick (b := true) (Eq.trans (show ev _ _ = .bool (fcmp .geq .f32 m16.turn 1065353216) from rfl) (congrArg Value.bool hc18)) ?_)
                refine da_nil ?_
                obtain rfl := Option.some.inj hr
                exact ⟨rfl, (Ext.refl wl8)⟩
              · skip
                replace hr := bif_f hr hc18
                refine da_on rfl (Eq.trans (show sl _ _ _ = .bool (fcmp .geq .f32 m16.turn 1065353216) from rfl) (congrArg Value.bool hc18)) (d_mv (v := .pointer (some ⟨p0b, p0o, none⟩)) i8_S0 ?_)
                refine da_on rfl (Eq.trans (show sl _ _ _ = .bool (fcmp .geq .f32 m16.turn 1065353216) from rfl) (congrArg Value.bool hc18)) (d_nil rfl ?_)
                refine da_on rfl (Eq.trans (show sl _ _ _ = .bool (fcmp .geq .f32 m16.turn 1065353216) from rfl) (congrArg Value.bool hc18)) (d_fieldAddr rfl (fa54_0 _ _) ?_)
                refine da_on rfl (Eq.trans (show sl _ _ _ = .bool (fcmp .geq .f32 m16.turn 1065353216) from rfl) (congrArg Value.bool hc18)) (d_load (v := (Value.slice p0v0a p0v0n p0v0c)) rfl agg52 B11 (sub_get (vs := #[(Value.slice p0v0a p0v0n p0v0c), (Value.slice p0v1a p0v1n p0v1c)]) p0P (i := 0) rfl) ?_)
                refine da_on rfl (Eq.trans (show sl _ _ _ = .bool (fcmp .geq .f32 m16.turn 1065353216) from rfl) (congrArg Value.bool hc18)) (d_mv (v := .int .i64 s8) rfl ?_)
                obtain ⟨m19, hm19, hr⟩ := bind_out hr
                refine da_on rfl (Eq.trans (show sl _ _ _ = .bool (fcmp .geq .f32 m16.turn 1065353216) from rfl) (congrArg Value.bool hc18)) (d_index (e := encSClock) (v := (Value.slice p0v0a p0v0n p0v0c)) un52 size109 rfl rfl B14 hm19 fun g20 o20 cu20 T20 fr20 vs20 hv20 hg20 hp20 hq20 => ?_)
                obtain ⟨e20_r0, e20_r1, rfl, e20_h0, e20_h1⟩ := dec_encSClock hq20
                refine da_on rfl (Eq.trans (show sl _ _ _ = .bool (fcmp .geq .f32 m16.turn 1065353216) from rfl) (congrArg Value.bool hc18)) (d_fieldAddr rfl (fa109_1 _ _) ?_)
                refine da_on rfl (Eq.trans (show sl _ _ _ = .bool (fcmp .geq .f32 m16.turn 1065353216) from rfl) (congrArg Value.bool hc18)) (d_load (v := .float .f32 e20_r1) rfl agg22 hg20 (sub_get (vs := #[.float .f32 e20_r0, .float .f32 e20_r1]) hp20 (i := 1) rfl) ?_)
                obtain ⟨m21, hm21, hr⟩ := letv_out hr
                refine da_on rfl (Eq.trans (show sl _ _ _ = .bool (fcmp .geq .f32 m16.turn 1065353216) from rfl) (congrArg Value.bool hc18)) (d_cl (vs := [.float .f32 e20_r1]) en31 (ac rfl rfl) rfl ?_)
                refine (c31 m19.rate e20_r1 m21 wl8 hm21 e20_h1).mono ?_
                rintro _ w22 ⟨rfl, E22⟩
                refine ⟨_, rfl, ?_⟩
                have X23 : Ext w w22 := i8_X.trans E22
                refine da_on rfl (Eq.trans (show sl _ _ _ = .bool (fcmp .geq .f32 m16.turn 1065353216) from rfl) (congrArg Value.bool hc18)) (d_not rfl ?_)
                refine da_op rfl (d_pick (b := false) (Eq.trans (show ev _ _ = .bool (fcmp .geq .f32 m16.turn 1065353216) from rfl) (congrArg Value.bool hc18)) ?_)
                refine da_nil ?_
                obtain rfl := Option.some.inj hr
                exact ⟨rfl, (Ext.trans (Ext.refl wl8) E22)⟩
            · skip
              replace hr := bif_f hr hc15
              refine da_off rfl (Eq.trans (show sl _ _ _ = .bool (!(fcmp .geq .f32 m12.turn 0)) from rfl) (congrArg Value.bool (congrArg not hc15))) (by decide) ?_
              refine da_off rfl (Eq.trans (show sl _ _ _ = .bool (!(fcmp .geq .f32 m12.turn 0)) from rfl) (congrArg Value.bool (congrArg not hc15))) (by decide) ?_
              refine da_off rfl (Eq.trans (show sl _ _ _ = .bool (!(fcmp .geq .f32 m12.turn 0)) from rfl) (congrArg Value.bool (congrArg not hc15))) (by decide) ?_
              refine da_off rfl (Eq.trans (show sl _ _ _ = .bool (!(fcmp .geq .f32 m12.turn 0)) from rfl) (congrArg Value.bool (congrArg not hc15))) (by decide) ?_
              refine da_off rfl (Eq.trans (show sl _ _ _ = .bool (!(fcmp .geq .f32 m12.turn 0)) from rfl) (congrArg Value.bool (congrArg not hc15))) (by decide) ?_
              refine da_off rfl (Eq.trans (show sl _ _ _ = .bool (!(fcmp .geq .f32 m12.turn 0)) from rfl) (congrArg Value.bool (congrArg not hc15))) (by decide) ?_
              refine da_off rfl (Eq.trans (show sl _ _ _ = .bool (!(fcmp .geq .f32 m12.turn 0)) from rfl) (congrArg Value.bool (congrArg not hc15))) (by decide) ?_
              refine da_off rfl (Eq.trans (show sl _ _ _ = .bool (!(fcmp .geq .f32 m12.turn 0)) from rfl) (congrArg Value.bool (congrArg not hc15))) (by decide) ?_
              refine da_off rfl (Eq.trans (show sl _ _ _ = .bool (!(fcmp .geq .f32 m12.turn 0)) from rfl) (congrArg Value.bool (congrArg not hc15))) (by decide) ?_
              refine da_op rfl (d_pick (b := true) (Eq.trans (show ev _ _ = .bool (!(fcmp .geq .f32 m12.turn 0)) from rfl) (congrArg Value.bool (congrArg not hc15))) ?_)
              refine da_op rfl (d_mv (v := .bool true) rfl ?_)
              refine da_off rfl rfl (by decide) ?_
              refine da_off rfl rfl (by decide) ?_
              refine da_off rfl rfl (by decide) ?_
              refine da_off rfl rfl (by decide) ?_
              refine da_off rfl rfl (by decide) ?_
              refine da_off rfl rfl (by decide) ?_
              refine da_off rfl rfl (by decide) ?_
              refine da_off rfl rfl (by decide) ?_
              refine da_off rfl rfl (by decide) ?_
              refine da_off rfl rfl (by decide) ?_
              refine da_op rfl (d_pick (b := true) rfl ?_)
              refine da_nil ?_
              obtain rfl := Option.some.inj hr
              exact ⟨rfl, (Ext.refl wl8)⟩
          · skip
            rintro σ10 w10 o10 ⟨s68_10, E10⟩
            have s33_10 : σ10 33 = .int .i64 s8 := (o10 33 rfl).trans i8_S33
            have s0_10 : σ10 0 = .pointer (some ⟨p0b, p0o, none⟩) := (o10 0 rfl).trans i8_S0
            have s32_10 : σ10 32 = .int .i64 ((p0.list).length : Int) := (o10 32 rfl).trans i8_S32
            have X24 : Ext w w10 := i8_X.trans E10
            refine W_cond (b := m10) s68_10 (fun hc25 => ?_) (fun hc25 => ?_)
            · skip
              replace hr := bif_t hr hc25
              refine W_seq ?_
              refine W_region rfl ?_
              refine da_op rfl (d_as (v := .bool false) rfl ?_)
              refine da_nil ?_
              refine W_ret ?_
              obtain rfl := Option.some.inj hr
              exact ⟨_, rfl, rfl, rfl, X24⟩
            · skip
              replace hr := bif_f hr hc25
              refine W_skip ?_
              refine W_region rfl ?_
              refine da_op rfl (d_iarith s33_10 rfl (.inl ⟨rfl, rfl⟩) ?_)
              refine da_op rfl (d_mv (v := .int .i64 (IntKind.i64.wrap (s8 + 1))) rfl ?_)
              refine da_nil ?_
              obtain rfl := Option.some.inj hr
              exact ⟨_, rfl, ⟨rfl, s0_10, s32_10, X24⟩⟩
        · skip
          replace hr := bif_f hr hc9
          refine W_exit ?_
          obtain rfl := Option.some.inj hr
          exact ⟨_, rfl, rfl, i8_S0, i8_X⟩
      · skip
        intro ex σx8 wx8 hq
        rcases m8 with m8 | m8
        · skip
          obtain ⟨rfl, q8_0_S0, q8_0_X⟩ := hq
          refine W_seq ?_
          refine W_seq ?_
          refine W_region rfl ?_
          refine da_op rfl (d_mv (v := .pointer (some ⟨p0b, p0o, none⟩)) q8_0_S0 ?_)
          refine da_op rfl (d_nil rfl ?_)
          refine da_op rfl (d_fieldAddr rfl (fa54_1 _ _) ?_)
          have B26 : wx8.heap[p0b]? = some (.cells p0c p0T p0f) := q8_0_X.heap p0B
          refine da_op rfl (d_load (v := (Value.slice p0v1a p0v1n p0v1c)) rfl agg48 B26 (sub_get (vs := #[(Value.slice p0v0a p0v0n p0v0c), (Value.slice p0v1a p0v1n p0v1c)]) p0P (i := 1) rfl) ?_)
          have B27 : RS wx8 encF_f32 (Value.slice p0v1a p0v1n p0v1c) p0.links := p0v1R.ext q8_0_X
          refine da_op rfl (d_len (e := encF_f32) un48 rfl B27 ?_)
          refine da_op rfl (d_mv (v := .int .i64 0) rfl ?_)
          refine da_nil ?_
          refine W_block ?_
          obtain ⟨m28, hm28, hr⟩ := bind_out hr
          refine W_loopM hm28 (fun (s28 : Int) σ w' => σ 75 = .int .i64 s28 ∧ σ 0 = .pointer (some ⟨p0b, p0o, none⟩) ∧ σ 74 = .int .i64 ((p0.links).length : Int) ∧ Ext w w') (fun (e28 : (Unit ⊕ Bool)) ex σ w' => sel e28 (fun e28 => ex = .exit 2 ∧ Ext w w') (fun e28 => ex = .ret ∧ σ 2 = .bool e28 ∧ Ext w w')) ⟨rfl, q8_0_S0, rfl, q8_0_X⟩ ?_ ?_
          · skip
            rintro s28 σl28 wl28 r28l ⟨i28_S75, i28_S0, i28_S74, i28_X⟩ hr
            refine W_seq ?_
            refine W_region rfl ?_
            refine da_op rfl (d_icmp cLss i28_S75 i28_S74 ?_)
            refine da_nil ?_
            refine W_seq ?_
            refine W_cond (b := (icmp .lss s28 ((p0.links).length : Int))) rfl (fun hc29 => ?_) (fun hc29 => ?_)
            · skip
              replace hr := bif_t hr hc29
              refine W_skip ?_
              refine W_seq ?_
              refine W_block ?_
              refine W_seq ?_
              refine W_region rfl ?_
              refine da_op rfl (d_mv (v := .int .i64 s28) i28_S75 ?_)
              refine da_op rfl (d_as (v := .int .i64 s28) rfl ?_)
              refine da_nil ?_
              refine W_seq ?_
              refine W_region rfl ?_
              refine da_op rfl (d_mv (v := .pointer (some ⟨p0b, p0o, none⟩)) i28_S0 ?_)
              refine da_op rfl (d_nil rfl ?_)
              refine da_op rfl (d_fieldAddr rfl (fa54_1 _ _) ?_)
              have B30 : wl28.heap[p0b]? = some (.cells p0c p0T p0f) := i28_X.heap p0B
              refine da_op rfl (d_load (v := (Value.slice p0v1a p0v1n p0v1c)) rfl agg48 B30 (sub_get (vs := #[(Value.slice p0v0a p0v0n p0v0c), (Value.slice p0v1a p0v1n p0v1c)]) p0P (i := 1) rfl) ?_)
              refine da_op rfl (d_mv (v := .int .i64 s28) rfl ?_)
              obtain ⟨m31, hm31, hr⟩ := bind_out hr
              have B33 : RS wl28 encF_f32 (Value.slice p0v1a p0v1n p0v1c) p0.links := p0v1R.ext i28_X
              refine da_op rfl (d_index (e := encF_f32) (v := (Value.slice p0v1a p0v1n p0v1c)) un48 size22 rfl rfl B33 hm31 fun g32 o32 cu32 T32 fr32 vs32 hv32 hg32 hp32 hq32 => ?_)
              obtain ⟨e32_r0, rfl, e32_h0⟩ := dec_encF_f32 hq32
              refine da_op rfl (d_load (v := .float .f32 e32_r0) rfl agg22 hg32 (sub_get (vs := #[.float .f32 e32_r0]) hp32 (i := 0) rfl) ?_)
              obtain ⟨m34, hm34, hr⟩ := letv_out hr
              refine da_op rfl (d_cl (vs := [.float .f32 e32_r0]) en31 (ac rfl rfl) rfl ?_)
              refine (c31 m31 e32_r0 m34 wl28 hm34 e32_h0).mono ?_
              rintro _ w35 ⟨rfl, E35⟩
              refine ⟨_, rfl, ?_⟩
              have X36 : Ext w w35 := i28_X.trans E35
              refine da_op rfl (d_not rfl ?_)
              refine da_nil ?_
              refine W_cond (b := (!m34)) rfl (fun hc37 => ?_) (fun hc37 => ?_)
              · skip
                replace hr := bif_t hr hc37
                refine W_seq ?_
                refine W_region rfl ?_
                refine da_op rfl (d_as (v := .bool false) rfl ?_)
                refine da_nil ?_
                refine W_ret ?_
                obtain rfl := Option.some.inj hr
                exact ⟨_, rfl, rfl, rfl, X36⟩
              · skip
                replace hr := bif_f hr hc37
                refine W_skip ?_
                refine W_region rfl ?_
                refine da_op rfl (d_iarith i28_S75 rfl (.inl ⟨rfl, rfl⟩) ?_)
                refine da_op rfl (d_mv (v := .int .i64 (IntKind.i64.wrap (s28 + 1))) rfl ?_)
                refine da_nil ?_
                obtain rfl := Option.some.inj hr
                exact ⟨_, rfl, ⟨rfl, i28_S0, i28_S74, X36⟩⟩
            · skip
              replace hr := bif_f hr hc29
              refine W_exit ?_
              obtain rfl := Option.some.inj hr
              exact ⟨_, rfl, rfl, i28_X⟩
          · skip
            intro ex σx28 wx28 hq
            rcases m28 with m28 | m28
            · skip
              obtain ⟨rfl, q28_0_X⟩ := hq
              refine W_seq ?_
              refine W_region rfl ?_
              refine da_op rfl (d_as (v := .bool true) rfl ?_)
              refine da_nil ?_
              refine W_ret ?_
              obtain rfl := Option.some.inj hr
              refine ⟨_, res1 (rv_tmp rfl), ?_⟩
              exact ⟨rfl, q28_0_X⟩
            · skip
              obtain ⟨rfl, q28_1_S2, q28_1_X⟩ := hq
              obtain rfl := Option.some.inj hr
              refine ⟨_, res1 (rv_tmp q28_1_S2), ?_⟩
              exact ⟨rfl, q28_1_X⟩
        · skip
          obtain ⟨rfl, q8_1_S2, q8_1_X⟩ := hq
          obtain rfl := Option.some.inj hr
          refine ⟨_, res1 (rv_tmp q8_1_S2), ?_⟩
          exact ⟨rfl, q8_1_X⟩
set_option maxHeartbeats 4000000 in
theorem c69 (p0 : SClocks) (p0v0a : Option Addr) (p0v0n : Nat) (p0v0c : Nat) (p0v1a : Option Addr) (p0v1n : Nat) (p0v1c : Nat) (r : SClocks × Bool) (w : World) (hr : M.spec_l05Give p0 = some r) (p0v0R : RS w encSClock (Value.slice p0v0a p0v0n p0v0c) p0.list) (p0v1R : RS w encF_f32 (Value.slice p0v1a p0v1n p0v1c) p0.links) :
    Calls Try.prog 69 #[.agg #[(Value.slice p0v0a p0v0n p0v0c), (Value.slice p0v1a p0v1n p0v1c)]] w fun e w' => ∃ q0v0a : Option Addr, ∃ q0v0n : Nat, ∃ q0v0c : Nat, ∃ q0v1a : Option Addr, ∃ q0v1n : Nat, ∃ q0v1c : Nat, e = .returned (.tuple #[.agg #[(Value.slice q0v0a q0v0n q0v0c), (Value.slice q0v1a q0v1n q0v1c)], .bool r.2]) ∧ Hand (Value.slice p0v0a p0v0n p0v0c) p0.list (Value.slice q0v0a q0v0n q0v0c) r.1.list ∧ Hand (Value.slice p0v1a p0v1n p0v1c) p0.links (Value.slice q0v1a q0v1n q0v1c) r.1.links ∧ Ext w w' := by
  refine calls_of_W Try.func69 rfl (Nat.le_of_ble_eq_true rfl) ?_
  refine W_seq ?_
  refine W_region rfl ?_
  refine da_op rfl (d_box (cs := #[(Value.slice p0v0a p0v0n p0v0c), (Value.slice p0v1a p0v1n p0v1c)]) rfl fun w1 B1 E1 => ?_)
  have own2 : w.heap.size ≤ w.heap.size := Nat.le_trans (Ext.refl w).size (Nat.le_refl _)
  have X3 : Ext w w1 := (Ext.refl w).trans E1
  refine da_op rfl (d_alloc (cs := #[.slice none 0 0, .slice none 0 0]) zero54 rfl fun w4 B4 E4 => ?_)
  have own5 : w.heap.size ≤ w1.heap.size := Nat.le_trans X3.size (Nat.le_refl _)
  have sp6 : w.heap.size ≠ w1.heap.size := Nat.ne_of_lt (Nat.lt_of_lt_of_le (lt_heap B1) (Nat.le_refl _))
  have X7 : Ext w w4 := X3.trans E4
  refine da_op rfl (d_as (v := .bool false) rfl ?_)
  refine da_nil ?_
  refine W_seq ?_
  refine W_seq ?_
  refine W_region rfl ?_
  obtain ⟨m8, hm8, hr⟩ := bind_out hr
  have B9 : w4.heap[w.heap.size]? = some (.cells #[(Value.slice p0v0a p0v0n p0v0c), (Value.slice p0v1a p0v1n p0v1c)] 54 (0, 0)) := E4.heap B1
  have B10 : RS w4 encSClock (Value.slice p0v0a p0v0n p0v0c) p0.list := p0v0R.ext X7
  have B11 : RS w4 encF_f32 (Value.slice p0v1a p0v1n p0v1c) p0.links := p0v1R.ext X7
  refine da_op rfl (d_cl (vs := [.pointer (some ⟨w.heap.size, 0, none⟩)]) en103 (ac rfl rfl) rfl ?_)
  refine (c103 p0 w.heap.size 0 #[(Value.slice p0v0a p0v0n p0v0c), (Value.slice p0v1a p0v1n p0v1c)] 54 (0, 0) p0v0a p0v0n p0v0c p0v1a p0v1n p0v1c m8 w4 hm8 B10 B11 B9 rfl).mono ?_
  rintro _ w12 ⟨rfl, E12⟩
  refine ⟨_, rfl, ?_⟩
  have X13 : Ext w w12 := X7.trans E12
  refine da_op rfl (d_not rfl ?_)
  refine da_nil ?_
  refine W_cond (b := (!m8)) rfl (fun hc14 => ?_) (fun hc14 => ?_)
  · skip
    replace hr := bif_t hr hc14
    refine W_seq ?_
    refine W_region rfl ?_
    refine da_op rfl (d_bd (vs := []) (cs := #[.slice none 0 0, .slice none 0 0]) rfl (by kernel_rfl) ?_)
    have B15 : w12.heap[w1.heap.size]? = some (.cells #[.slice none 0 0, .slice none 0 0] 54 (0, 0)) := E12.heap B4
    refine da_op rfl (d_store (vs := #[.slice none 0 0, .slice none 0 0]) rfl rfl B15 size54 (Nat.le_of_ble_eq_true rfl) rfl fun w16 S16 => ?_)
    have X17 : Ext w w16 := Ext.step X13 S16.frmb (fun k _ hk => hk ▸ own5)
    have B18 : w16.heap[w1.heap.size]? = some (.cells #[.slice none 0 0, .slice none 0 0] 54 (0, 0)) := S16.here
    refine da_op rfl (d_as (v := .bool false) rfl ?_)
    refine da_nil ?_
    refine W_ret ?_
    obtain rfl := Option.some.inj hr
    refine ⟨_, res2 (rv_cells (vs := #[.slice none 0 0, .slice none 0 0]) rfl agg54 size54 B18 rfl) (rv_tmp rfl), ?_⟩
    exact ⟨none, 0, 0, none, 0, 0, rfl, (.inr ⟨rfl, rfl⟩), (.inr ⟨rfl, rfl⟩), X17⟩
  · skip
    replace hr := bif_f hr hc14
    refine W_skip ?_
    refine W_seq ?_
    refine W_region rfl ?_
    have B19 : w12.heap[w.heap.size]? = some (.cells #[(Value.slice p0v0a p0v0n p0v0c), (Value.slice p0v1a p0v1n p0v1c)] 54 (0, 0)) := E12.heap B9
    refine da_op rfl (d_loads (vs := #[(Value.slice p0v0a p0v0n p0v0c), (Value.slice p0v1a p0v1n p0v1c)]) rfl agg54 size54 B19 rfl ?_)
    have B20 : w12.heap[w1.heap.size]? = some (.cells #[.slice none 0 0, .slice none 0 0] 54 (0, 0)) := E12.heap B4
    refine da_op rfl (d_store (vs := #[(Value.slice p0v0a p0v0n p0v0c), (Value.slice p0v1a p0v1n p0v1c)]) rfl rfl B20 size54 (Nat.le_of_ble_eq_true rfl) rfl fun w21 S21 => ?_)
    have X22 : Ext w w21 := Ext.step X13 S21.frmb (fun k _ hk => hk ▸ own5)
    have B23 : w21.heap[w1.heap.size]? = some (.cells #[(Value.slice p0v0a p0v0n p0v0c), (Value.slice p0v1a p0v1n p0v1c)] 54 (0, 0)) := S21.here
    refine da_op rfl (d_as (v := .bool true) rfl ?_)
    refine da_nil ?_
    refine W_ret ?_
    obtain rfl := Option.some.inj hr
    refine ⟨_, res2 (rv_cells (vs := #[(Value.slice p0v0a p0v0n p0v0c), (Value.slice p0v1a p0v1n p0v1c)]) rfl agg54 size54 B23 rfl) (rv_tmp rfl), ?_⟩
    exact ⟨p0v0a, p0v0n, p0v0c, p0v1a, p0v1n, p0v1c, rfl, (.inl ⟨rfl, rfl⟩), (.inl ⟨rfl, rfl⟩), X22⟩
end Go.Proofs
