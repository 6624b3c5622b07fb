import Derived.Test.YtdcienojgkioiaaDoorBCCf
namespace Go.Proofs
open Go Go.Fl Go.RowKit Go.Rg
set_option maxRecDepth 100000
set_option linter.unusedVariables false
attribute [local irreducible] Go.Calls doAll Does DoesG W Wr
set_option maxHeartbeats 4000000 in
theorem c80 (p0 : List SVector) (p1 : Int) (p0a : Option Addr) (p0n : Nat) (p0c : Nat) (r : Int) (w : World) (hr : M.laws_szVectorS p0 p1 = r) (p0R : RS w encSVector (Value.slice p0a p0n p0c) p0) :
    Calls Tryd.prog 80 #[(Value.slice p0a p0n p0c), .int .i64 p1] w fun e w' => e = .returned (.int .i64 r) ∧ Ext w w' := by
  refine calls_of_W Tryd.func80 rfl (Nat.le_of_ble_eq_true rfl) ?_
  refine W_seq ?_
  refine W_region rfl ?_
  refine da_op rfl (d_as (v := .int .i64 0) rfl ?_)
  refine da_nil ?_
  refine W_seq ?_
  refine W_region rfl ?_
  refine da_op rfl (d_mv (v := .int .i64 p1) rfl ?_)
  refine da_op rfl (d_mv (v := (Value.slice p0a p0n p0c)) rfl ?_)
  refine da_op rfl (d_len (e := encSVector) un60 rfl p0R ?_)
  refine da_op rfl (d_iarith rfl rfl (.inr (.inl ⟨rfl, rfl⟩)) ?_)
  refine da_op rfl (d_as (v := .int .i64 (IntKind.i64.wrap (p1 - ((p0).length : Int)))) rfl ?_)
  refine da_nil ?_
  refine W_seq ?_
  refine W_seq ?_
  refine W_region rfl ?_
  refine da_op rfl (d_mv (v := .int .i64 (IntKind.i64.wrap (p1 - ((p0).length : Int)))) rfl ?_)
  refine da_op rfl (d_icmp cLss rfl rfl ?_)
  refine da_nil ?_
  refine W_cond (b := (icmp .lss (IntKind.i64.wrap (p1 - ((p0).length : Int))) 0)) rfl (fun hc1 => ?_) (fun hc1 => ?_)
  · skip
    replace hr := bif_t hr hc1
    refine W_seq ?_
    refine W_region rfl ?_
    refine da_op rfl (d_as (v := .int .i64 (-1)) rfl ?_)
    refine da_nil ?_
    refine W_ret ?_
    subst hr
    refine ⟨_, res1 (rv_tmp rfl), ?_⟩
    exact ⟨rfl, (Ext.refl w)⟩
  · skip
    replace hr := bif_f hr hc1
    refine W_skip ?_
    refine W_seq ?_
    refine W_region rfl ?_
    refine da_op rfl (d_mv (v := .int .i64 (IntKind.i64.wrap (p1 - ((p0).length : Int)))) rfl ?_)
    refine da_op rfl (d_as (v := .int .i64 (IntKind.i64.wrap (p1 - ((p0).length : Int)))) rfl ?_)
    refine da_nil ?_
    refine W_ret ?_
    subst hr
    refine ⟨_, res1 (rv_tmp rfl), ?_⟩
    exact ⟨rfl, (Ext.refl w)⟩
set_option maxHeartbeats 4000000 in
theorem c81 (p0 : List Nat) (p1 : Int) (p0a : Option Addr) (p0n : Nat) (p0c : Nat) (r : Int) (w : World) (hr : M.laws_szFloat32S p0 p1 = r) (p0R : RS w encF_f32 (Value.slice p0a p0n p0c) p0) :
    Calls Tryd.prog 81 #[(Value.slice p0a p0n p0c), .int .i64 p1] w fun e w' => e = .returned (.int .i64 r) ∧ Ext w w' := by
  refine calls_of_W Tryd.func81 rfl (Nat.le_of_ble_eq_true rfl) ?_
  refine W_seq ?_
  refine W_region rfl ?_
  refine da_op rfl (d_as (v := .int .i64 0) rfl ?_)
  refine da_nil ?_
  refine W_seq ?_
  refine W_region rfl ?_
  refine da_op rfl (d_mv (v := .int .i64 p1) rfl ?_)
  refine da_op rfl (d_mv (v := (Value.slice p0a p0n p0c)) rfl ?_)
  refine da_op rfl (d_len (e := encF_f32) un53 rfl p0R ?_)
  refine da_op rfl (d_iarith rfl rfl (.inr (.inl ⟨rfl, rfl⟩)) ?_)
  refine da_op rfl (d_as (v := .int .i64 (IntKind.i64.wrap (p1 - ((p0).length : Int)))) rfl ?_)
  refine da_nil ?_
  refine W_seq ?_
  refine W_seq ?_
  refine W_region rfl ?_
  refine da_op rfl (d_mv (v := .int .i64 (IntKind.i64.wrap (p1 - ((p0).length : Int)))) rfl ?_)
  refine da_op rfl (d_icmp cLss rfl rfl ?_)
  refine da_nil ?_
  refine W_cond (b := (icmp .lss (IntKind.i64.wrap (p1 - ((p0).length : Int))) 0)) rfl (fun hc1 => ?_) (fun hc1 => ?_)
  · skip
    replace hr := bif_t hr hc1
    refine W_seq ?_
    refine W_region rfl ?_
    refine da_op rfl (d_as (v := .int .i64 (-1)) rfl ?_)
    refine da_nil ?_
    refine W_ret ?_
    subst hr
    refine ⟨_, res1 (rv_tmp rfl), ?_⟩
    exact ⟨rfl, (Ext.refl w)⟩
  · skip
    replace hr := bif_f hr hc1
    refine W_skip ?_
    refine W_seq ?_
    refine W_region rfl ?_
    refine da_op rfl (d_mv (v := .int .i64 (IntKind.i64.wrap (p1 - ((p0).length : Int)))) rfl ?_)
    refine da_op rfl (d_as (v := .int .i64 (IntKind.i64.wrap (p1 - ((p0).length : Int)))) rfl ?_)
    refine da_nil ?_
    refine W_ret ?_
    subst hr
    refine ⟨_, res1 (rv_tmp rfl), ?_⟩
    exact ⟨rfl, (Ext.refl w)⟩
set_option maxHeartbeats 4000000 in
theorem c82 (p0 : List SRod) (p1 : Int) (p0a : Option Addr) (p0n : Nat) (p0c : Nat) (r : Int) (w : World) (hr : M.laws_szRodS p0 p1 = r) (p0R : RS w encSRod (Value.slice p0a p0n p0c) p0) :
    Calls Tryd.prog 82 #[(Value.slice p0a p0n p0c), .int .i64 p1] w fun e w' => e = .returned (.int .i64 r) ∧ Ext w w' := by
  refine calls_of_W Tryd.func82 rfl (Nat.le_of_ble_eq_true rfl) ?_
  refine W_seq ?_
  refine W_region rfl ?_
  refine da_op rfl (d_as (v := .int .i64 0) rfl ?_)
  refine da_nil ?_
  refine W_seq ?_
  refine W_region rfl ?_
  refine da_op rfl (d_mv (v := .int .i64 p1) rfl ?_)
  refine da_op rfl (d_mv (v := (Value.slice p0a p0n p0c)) rfl ?_)
  refine da_op rfl (d_len (e := encSRod) un61 rfl p0R ?_)
  refine da_op rfl (d_iarith rfl rfl (.inr (.inl ⟨rfl, rfl⟩)) ?_)
  refine da_op rfl (d_as (v := .int .i64 (IntKind.i64.wrap (p1 - ((p0).length : Int)))) rfl ?_)
  refine da_nil ?_
  refine W_seq ?_
  refine W_seq ?_
  refine W_region rfl ?_
  refine da_op rfl (d_mv (v := .int .i64 (IntKind.i64.wrap (p1 - ((p0).length : Int)))) rfl ?_)
  refine da_op rfl (d_icmp cLss rfl rfl ?_)
  refine da_nil ?_
  refine W_cond (b := (icmp .lss (IntKind.i64.wrap (p1 - ((p0).length : Int))) 0)) rfl (fun hc1 => ?_) (fun hc1 => ?_)
  · skip
    replace hr := bif_t hr hc1
    refine W_seq ?_
    refine W_region rfl ?_
    refine da_op rfl (d_as (v := .int .i64 (-1)) rfl ?_)
    refine da_nil ?_
    refine W_ret ?_
    subst hr
    refine ⟨_, res1 (rv_tmp rfl), ?_⟩
    exact ⟨rfl, (Ext.refl w)⟩
  · skip
    replace hr := bif_f hr hc1
    refine W_skip ?_
    refine W_seq ?_
    refine W_region rfl ?_
    refine da_op rfl (d_mv (v := .int .i64 (IntKind.i64.wrap (p1 - ((p0).length : Int)))) rfl ?_)
    refine da_op rfl (d_as (v := .int .i64 (IntKind.i64.wrap (p1 - ((p0).length : Int)))) rfl ?_)
    refine da_nil ?_
    refine W_ret ?_
    subst hr
    refine ⟨_, res1 (rv_tmp rfl), ?_⟩
    exact ⟨rfl, (Ext.refl w)⟩
set_option maxHeartbeats 4000000 in
theorem c34 (p0 : SChain) (p1 : Int) (p0v0a : Option Addr) (p0v0n : Nat) (p0v0c : Nat) (p0v1a : Option Addr) (p0v1n : Nat) (p0v1c : Nat) (p0v2a : Option Addr) (p0v2n : Nat) (p0v2c : Nat) (p0v3a : Option Addr) (p0v3n : Nat) (p0v3c : Nat) (r : Int) (w : World) (hr : M.laws_szChain p0 p1 = r) (p0v0R : RS w encSVector (Value.slice p0v0a p0v0n p0v0c) p0.places) (p0v1R : RS w encSVector (Value.slice p0v1a p0v1n p0v1c) p0.before) (p0v2R : RS w encF_f32 (Value.slice p0v2a p0v2n p0v2c) p0.weights) (p0v3R : RS w encSRod (Value.slice p0v3a p0v3n p0v3c) p0.rods) :
    Calls Tryd.prog 34 #[.agg #[(Value.slice p0v0a p0v0n p0v0c), (Value.slice p0v1a p0v1n p0v1c), (Value.slice p0v2a p0v2n p0v2c), (Value.slice p0v3a p0v3n p0v3c)], .int .i64 p1] w fun e w' => e = .returned (.int .i64 r) ∧ Ext w w' := by
  refine calls_of_W Tryd.func34 rfl (Nat.le_of_ble_eq_true rfl) ?_
  refine W_seq ?_
  refine W_region rfl ?_
  refine da_op rfl (d_box (cs := #[(Value.slice p0v0a p0v0n p0v0c), (Value.slice p0v1a p0v1n p0v1c), (Value.slice p0v2a p0v2n p0v2c), (Value.slice p0v3a p0v3n p0v3c)]) rfl fun w1 B1 E1 => ?_)
  have own2 : w.heap.size ≤ w.heap.size := Nat.le_trans (Ext.refl w).size (Nat.le_refl _)
  have X3 : Ext w w1 := (Ext.refl w).trans E1
  refine da_op rfl (d_as (v := .int .i64 0) rfl ?_)
  refine da_nil ?_
  refine W_seq ?_
  refine W_region rfl ?_
  refine da_op rfl (d_fieldAddr rfl (fa63_0 _ _) ?_)
  refine da_op rfl (d_load (v := (Value.slice p0v0a p0v0n p0v0c)) rfl agg60 B1 rfl ?_)
  refine da_op rfl (d_mv (v := .int .i64 p1) rfl ?_)
  obtain ⟨m4, hm4, hr⟩ := letv_out hr
  have B5 : RS w1 encSVector (Value.slice p0v0a p0v0n p0v0c) p0.places := p0v0R.ext X3
  refine da_op rfl (d_cl (vs := [(Value.slice p0v0a p0v0n p0v0c), .int .i64 p1]) en80 (ac rfl (ac rfl rfl)) rfl ?_)
  refine (c80 p0.places p1 p0v0a p0v0n p0v0c m4 w1 hm4 B5).mono ?_
  rintro _ w6 ⟨rfl, E6⟩
  refine ⟨_, rfl, ?_⟩
  have X7 : Ext w w6 := X3.trans E6
  refine da_op rfl (d_as (v := .int .i64 m4) rfl ?_)
  refine da_nil ?_
  refine W_seq ?_
  refine W_seq ?_
  refine W_region rfl ?_
  refine da_op rfl (d_mv (v := .int .i64 m4) rfl ?_)
  refine da_op rfl (d_icmp cLss rfl rfl ?_)
  refine da_nil ?_
  refine W_cond (b := (icmp .lss m4 0)) rfl (fun hc8 => ?_) (fun hc8 => ?_)
  · skip
    replace hr := bif_t hr hc8
    refine W_seq ?_
    refine W_region rfl ?_
    refine da_op rfl (d_as (v := .int .i64 (-1)) rfl ?_)
    refine da_nil ?_
    refine W_ret ?_
    subst hr
    refine ⟨_, res1 (rv_tmp rfl), ?_⟩
    exact ⟨rfl, X7⟩
  · skip
    replace hr := bif_f hr hc8
    refine W_skip ?_
    refine W_seq ?_
    refine W_region rfl ?_
    refine da_op rfl (d_fieldAddr rfl (fa63_1 _ _) ?_)
    have B9 : w6.heap[w.heap.size]? = some (.cells #[(Value.slice p0v0a p0v0n p0v0c), (Value.slice p0v1a p0v1n p0v1c), (Value.slice p0v2a p0v2n p0v2c), (Value.slice p0v3a p0v3n p0v3c)] 63 (0, 0)) := E6.heap B1
    refine da_op rfl (d_load (v := (Value.slice p0v1a p0v1n p0v1c)) rfl agg60 B9 rfl ?_)
    refine da_op rfl (d_mv (v := .int .i64 m4) rfl ?_)
    obtain ⟨m10, hm10, hr⟩ := letv_out hr
    have B11 : RS w6 encSVector (Value.slice p0v1a p0v1n p0v1c) p0.before := p0v1R.ext X7
    refine da_op rfl (d_cl (vs := [(Value.slice p0v1a p0v1n p0v1c), .int .i64 m4]) en80 (ac rfl (ac rfl rfl)) rfl ?_)
    refine (c80 p0.before m4 p0v1a p0v1n p0v1c m10 w6 hm10 B11).mono ?_
    rintro _ w12 ⟨rfl, E12⟩
    refine ⟨_, rfl, ?_⟩
    have X13 : Ext w w12 := X7.trans E12
    refine da_op rfl (d_as (v := .int .i64 m10) rfl ?_)
    refine da_nil ?_
    refine W_seq ?_
    refine W_seq ?_
    refine W_region rfl ?_
    refine da_op rfl (d_mv (v := .int .i64 m10) rfl ?_)
    refine da_op rfl (d_icmp cLss rfl rfl ?_)
    refine da_nil ?_
    refine W_cond (b := (icmp .lss m10 0)) rfl (fun hc14 => ?_) (fun hc14 => ?_)
    · skip
      replace hr := bif_t hr hc14
      refine W_seq ?_
      refine W_region rfl ?_
      refine da_op rfl (d_as (v := .int .i64 (-1)) rfl ?_)
      refine da_nil ?_
      refine W_ret ?_
      subst hr
      refine ⟨_, res1 (rv_tmp rfl), ?_⟩
      exact ⟨rfl, X13⟩
    · skip
      replace hr := bif_f hr hc14
      refine W_skip ?_
      refine W_seq ?_
      refine W_region rfl ?_
      refine da_op rfl (d_fieldAddr rfl (fa63_2 _ _) ?_)
      have B15 : w12.heap[w.heap.size]? = some (.cells #[(Value.slice p0v0a p0v0n p0v0c), (Value.slice p0v1a p0v1n p0v1c), (Value.slice p0v2a p0v2n p0v2c), (Value.slice p0v3a p0v3n p0v3c)] 63 (0, 0)) := E12.heap B9
      refine da_op rfl (d_load (v := (Value.slice p0v2a p0v2n p0v2c)) rfl agg53 B15 rfl ?_)
      refine da_op rfl (d_mv (v := .int .i64 m10) rfl ?_)
      obtain ⟨m16, hm16, hr⟩ := letv_out hr
      have B17 : RS w12 encF_f32 (Value.slice p0v2a p0v2n p0v2c) p0.weights := p0v2R.ext X13
      refine da_op rfl (d_cl (vs := [(Value.slice p0v2a p0v2n p0v2c), .int .i64 m10]) en81 (ac rfl (ac rfl rfl)) rfl ?_)
      refine (c81 p0.weights m10 p0v2a p0v2n p0v2c m16 w12 hm16 B17).mono ?_
      rintro _ w18 ⟨rfl, E18⟩
      refine ⟨_, rfl, ?_⟩
      have X19 : Ext w w18 := X13.trans E18
      refine da_op rfl (d_as (v := .int .i64 m16) rfl ?_)
      refine da_nil ?_
      refine W_seq ?_
      refine W_seq ?_
      refine W_region rfl ?_
      refine da_op rfl (d_mv (v := .int .i64 m16) rfl ?_)
      refine da_op rfl (d_icmp cLss rfl rfl ?_)
      refine da_nil ?_
      refine W_cond (b := (icmp .lss m16 0)) rfl (fun hc20 => ?_) (fun hc20 => ?_)
      · skip
        replace hr := bif_t hr hc20
        refine W_seq ?_
        refine W_region rfl ?_
        refine da_op rfl (d_as (v := .int .i64 (-1)) rfl ?_)
        refine da_nil ?_
        refine W_ret ?_
        subst hr
        refine ⟨_, res1 (rv_tmp rfl), ?_⟩
        exact ⟨rfl, X19⟩
      · skip
        replace hr := bif_f hr hc20
        refine W_skip ?_
        refine W_seq ?_
        refine W_region rfl ?_
        refine da_op rfl (d_fieldAddr rfl (fa63_3 _ _) ?_)
        have B21 : w18.heap[w.heap.size]? = some (.cells #[(Value.slice p0v0a p0v0n p0v0c), (Value.slice p0v1a p0v1n p0v1c), (Value.slice p0v2a p0v2n p0v2c), (Value.slice p0v3a p0v3n p0v3c)] 63 (0, 0)) := E18.heap B15
        refine da_op rfl (d_load (v := (Value.slice p0v3a p0v3n p0v3c)) rfl agg61 B21 rfl ?_)
        refine da_op rfl (d_mv (v := .int .i64 m16) rfl ?_)
        obtain ⟨m22, hm22, hr⟩ := letv_out hr
        have B23 : RS w18 encSRod (Value.slice p0v3a p0v3n p0v3c) p0.rods := p0v3R.ext X19
        refine da_op rfl (d_cl (vs := [(Value.slice p0v3a p0v3n p0v3c), .int .i64 m16]) en82 (ac rfl (ac rfl rfl)) rfl ?_)
        refine (c82 p0.rods m16 p0v3a p0v3n p0v3c m22 w18 hm22 B23).mono ?_
        rintro _ w24 ⟨rfl, E24⟩
        refine ⟨_, rfl, ?_⟩
        have X25 : Ext w w24 := X19.trans E24
        refine da_op rfl (d_as (v := .int .i64 m22) rfl ?_)
        refine da_nil ?_
        refine W_seq ?_
        refine W_seq ?_
        refine W_region rfl ?_
        refine da_op rfl (d_mv (v := .int .i64 m22) rfl ?_)
        refine da_op rfl (d_icmp cLss rfl rfl ?_)
        refine da_nil ?_
        refine W_cond (b := (icmp .lss m22 0)) rfl (fun hc26 => ?_) (fun hc26 => ?_)
        · skip
          replace hr := bif_t hr hc26
          refine W_seq ?_
          refine W_region rfl ?_
          refine da_op rfl (d_as (v := .int .i64 (-1)) rfl ?_)
          refine da_nil ?_
          refine W_ret ?_
          subst hr
          refine ⟨_, res1 (rv_tmp rfl), ?_⟩
          exact ⟨rfl, X25⟩
        · skip
          replace hr := bif_f hr hc26
          refine W_skip ?_
          refine W_seq ?_
          refine W_region rfl ?_
          refine da_op rfl (d_mv (v := .int .i64 m22) rfl ?_)
          refine da_op rfl (d_as (v := .int .i64 m22) rfl ?_)
          refine da_nil ?_
          refine W_ret ?_
          subst hr
          refine ⟨_, res1 (rv_tmp rfl), ?_⟩
          exact ⟨rfl, X25⟩
set_option maxHeartbeats 4000000 in
theorem c138 (p0 : SVector) (p0r0 : Nat) (p0r1 : Nat) (p0r2 : Nat) (r : SVector) (w : World) (hr : M.laws_toVector p0 = r) (p0h0 : cn .f32 p0r0 = p0.x) (p0h1 : cn .f32 p0r1 = p0.y) (p0h2 : cn .f32 p0r2 = p0.z) :
    Calls Tryd.prog 138 #[.agg #[.float .f32 p0r0, .float .f32 p0r1, .float .f32 p0r2]] w fun e w' => ∃ q0r0 : Nat, ∃ q0r1 : Nat, ∃ q0r2 : Nat, e = .returned (.agg #[.float .f32 q0r0, .float .f32 q0r1, .float .f32 q0r2]) ∧ cn .f32 q0r0 = r.x ∧ cn .f32 q0r1 = r.y ∧ cn .f32 q0r2 = r.z ∧ Ext w w' := by
  refine calls_of_W Tryd.func138 rfl (Nat.le_of_ble_eq_true rfl) ?_
  refine W_seq ?_
  refine W_region rfl ?_
  refine da_op rfl (d_box (cs := #[.float .f32 p0r0, .float .f32 p0r1, .float .f32 p0r2]) rfl fun w1 B1 E1 => ?_)
  have own2 : w.heap.size ≤ w.heap.size := Nat.le_trans (Ext.refl w).size (Nat.le_refl _)
  have X3 : Ext w w1 := (Ext.refl w).trans E1
  refine da_op rfl (d_alloc (cs := #[.float .f32 0, .float .f32 0, .float .f32 0]) zero44 rfl fun w4 B4 E4 => ?_)
  have own5 : w.heap.size ≤ w1.heap.size := Nat.le_trans X3.size (Nat.le_refl _)
  have sp6 : w.heap.size ≠ w1.heap.size := Nat.ne_of_lt (Nat.lt_of_lt_of_le (lt_heap B1) (Nat.le_refl _))
  have X7 : Ext w w4 := X3.trans E4
  refine da_nil ?_
  refine W_seq ?_
  refine W_region rfl ?_
  have B9 : w4.heap[w.heap.size]? = some (.cells #[.float .f32 p0r0, .float .f32 p0r1, .float .f32 p0r2] 178 (0, 0)) := E4.heap B1
  refine da_op rfl (d_alloc (cs := #[.float .f32 0, .float .f32 0, .float .f32 0]) zero44 rfl fun w8 B8 E8 => ?_)
  have own10 : w.heap.size ≤ w4.heap.size := Nat.le_trans X7.size (Nat.le_refl _)
  have sp11 : w.heap.size ≠ w4.heap.size := Nat.ne_of_lt (Nat.lt_of_lt_of_le (lt_heap B9) (Nat.le_refl _))
  have sp12 : w1.heap.size ≠ w4.heap.size := Nat.ne_of_lt (Nat.lt_of_lt_of_le (lt_heap B4) (Nat.le_refl _))
  have X13 : Ext w w8 := X7.trans E8
  refine da_nil ?_
  refine W_seq ?_
  refine W_region rfl ?_
  refine da_op rfl (d_fieldAddr rfl (fa178_0 _ _) ?_)
  have B14 : w8.heap[w.heap.size]? = some (.cells #[.float .f32 p0r0, .float .f32 p0r1, .float .f32 p0r2] 178 (0, 0)) := E8.heap B9
  refine da_op rfl (d_load (v := .float .f32 p0r0) rfl agg22 B14 rfl ?_)
  refine da_op rfl (d_fieldAddr rfl (fa44_0 _ _) ?_)
  refine da_op rfl (d_store (vs := #[.float .f32 p0r0]) rfl rfl B8 size22 (Nat.le_of_ble_eq_true rfl) rfl fun w15 S15 => ?_)
  have X16 : Ext w w15 := Ext.step X13 S15.frmb (fun k _ hk => hk ▸ own10)
  have B17 : w15.heap[w4.heap.size]? = some (.cells #[.float .f32 p0r0, .float .f32 0, .float .f32 0] 44 (0, 0)) := S15.here
  refine da_nil ?_
  refine W_seq ?_
  refine W_region rfl ?_
  refine da_op rfl (d_fieldAddr rfl (fa178_1 _ _) ?_)
  have B18 : w15.heap[w.heap.size]? = some (.cells #[.float .f32 p0r0, .float .f32 p0r1, .float .f32 p0r2] 178 (0, 0)) := S15.frmb.heap sp11 B14
  refine da_op rfl (d_load (v := .float .f32 p0r1) rfl agg22 B18 rfl ?_)
  refine da_op rfl (d_fieldAddr rfl (fa44_1 _ _) ?_)
  refine da_op rfl (d_store (vs := #[.float .f32 p0r1]) rfl rfl B17 size22 (Nat.le_of_ble_eq_true rfl) rfl fun w19 S19 => ?_)
  have X20 : Ext w w19 := Ext.step X16 S19.frmb (fun k _ hk => hk ▸ own10)
  have B21 : w19.heap[w4.heap.size]? = some (.cells #[.float .f32 p0r0, .float .f32 p0r1, .float .f32 0] 44 (0, 0)) := S19.here
  refine da_nil ?_
  refine W_seq ?_
  refine W_region rfl ?_
  refine da_op rfl (d_fieldAddr rfl (fa178_2 _ _) ?_)
  have B22 : w19.heap[w.heap.size]? = some (.cells #[.float .f32 p0r0, .float .f32 p0r1, .float .f32 p0r2] 178 (0, 0)) := S19.frmb.heap sp11 B18
  refine da_op rfl (d_load (v := .float .f32 p0r2) rfl agg22 B22 rfl ?_)
  refine da_op rfl (d_fieldAddr rfl (fa44_2 _ _) ?_)
  refine da_op rfl (d_store (vs := #[.float .f32 p0r2]) rfl rfl B21 size22 (Nat.le_of_ble_eq_true rfl) rfl fun w23 S23 => ?_)
  have X24 : Ext w w23 := Ext.step X20 S23.frmb (fun k _ hk => hk ▸ own10)
  have B25 : w23.heap[w4.heap.size]? = some (.cells #[.float .f32 p0r0, .float .f32 p0r1, .float .f32 p0r2] 44 (0, 0)) := S23.here
  refine da_nil ?_
  refine W_seq ?_
  refine W_region rfl ?_
  refine da_op rfl (d_loads (vs := #[.float .f32 p0r0, .float .f32 p0r1, .float .f32 p0r2]) rfl agg44 size44 B25 rfl ?_)
  have B26 : w23.heap[w1.heap.size]? = some (.cells #[.float .f32 0, .float .f32 0, .float .f32 0] 44 (0, 0)) := S23.frmb.heap sp12 (S19.frmb.heap sp12 (S15.frmb.heap sp12 (E8.heap B4)))
  refine da_op rfl (d_store (vs := #[.float .f32 p0r0, .float .f32 p0r1, .float .f32 p0r2]) rfl rfl B26 size44 (Nat.le_of_ble_eq_true rfl) rfl fun w27 S27 => ?_)
  have X28 : Ext w w27 := Ext.step X24 S27.frmb (fun k _ hk => hk ▸ own5)
  have B29 : w27.heap[w1.heap.size]? = some (.cells #[.float .f32 p0r0, .float .f32 p0r1, .float .f32 p0r2] 44 (0, 0)) := S27.here
  refine da_nil ?_
  refine W_ret ?_
  subst hr
  refine ⟨_, res1 (rv_cells (vs := #[.float .f32 p0r0, .float .f32 p0r1, .float .f32 p0r2]) rfl agg44 size44 B29 rfl), ?_⟩
  exact ⟨p0r0, p0r1, p0r2, rfl, p0h0, p0h1, p0h2, X28⟩
set_option maxHeartbeats 4000000 in
theorem c85 (p0 : List SVector) (p0a : Option Addr) (p0n : Nat) (p0c : Nat) (r : List SVector) (w : World) (hr : M.laws_toVectorS p0 = some r) (p0R : RS w encSVector (Value.slice p0a p0n p0c) p0) :
    Calls Tryd.prog 85 #[(Value.slice p0a p0n p0c)] w fun e w' => ∃ q0a : Option Addr, ∃ q0n : Nat, ∃ q0c : Nat, e = .returned ((Value.slice q0a q0n q0c)) ∧ OS w' 44 encSVector (Value.slice q0a q0n q0c) r ∧ (∀ k, (Value.slice q0a q0n q0c).ownBlock = some k → w.heap.size ≤ k) ∧ Ext w w' := by
  refine calls_of_W Tryd.func85 rfl (Nat.le_of_ble_eq_true rfl) ?_
  refine W_seq ?_
  refine W_region rfl ?_
  refine da_op rfl (d_as (v := .slice none 0 0) rfl ?_)
  refine da_nil ?_
  refine W_seq ?_
  refine W_region rfl ?_
  refine da_op rfl (d_mv (v := (Value.slice p0a p0n p0c)) rfl ?_)
  refine da_op rfl (d_len (e := encSVector) un60 rfl p0R ?_)
  obtain ⟨m1, hm1, hr⟩ := bind_out hr
  refine da_op rfl (d_make (e := encSVector) un66 info44 rfl (by kernel_rfl) (by kernel_rfl) (by decide) (by decide) rfl rfl hm1 fun v2 w2 O2 E2 fr2 => ?_)
  obtain ⟨v2pa, v2pn, v2pc, rfl⟩ := O2.vals
  have own2 : ∀ k, (Value.slice v2pa v2pn v2pc).ownBlock = some k → w.heap.size ≤ k := fun k hk => Nat.le_trans (Ext.refl w).size (fr2 k hk)
  have X3 : Ext w w2 := (Ext.refl w).trans E2
  refine da_op rfl (d_as (v := (Value.slice v2pa v2pn v2pc)) rfl ?_)
  refine da_nil ?_
  refine W_seq ?_
  refine W_seq ?_
  refine W_region rfl ?_
  refine da_op rfl (d_as (v := .int .i64 0) rfl ?_)
  refine da_nil ?_
  refine W_block ?_
  obtain ⟨m4, hm4, hr⟩ := bind_out hr
  refine W_loopM hm4 (fun (s4 : Int × List SVector) σ w' => σ 4 = .int .i64 s4.1 ∧ σ 0 = (Value.slice p0a p0n p0c) ∧ σ 3 = (Value.slice v2pa v2pn v2pc) ∧ OS w' 44 encSVector (Value.slice v2pa v2pn v2pc) s4.2 ∧ Ext w w') (fun (e4 : (List SVector)) ex σ w' => ex = .exit 0 ∧ σ 3 = (Value.slice v2pa v2pn v2pc) ∧ OS w' 44 encSVector (Value.slice v2pa v2pn v2pc) e4 ∧ Ext w w') ⟨rfl, rfl, rfl, O2, X3⟩ ?_ ?_
  · skip
    rintro s4 σl4 wl4 r4l ⟨i4_S4, i4_S0, i4_S3, i4_1R, i4_X⟩ hr
    refine W_seq ?_
    refine W_seq ?_
    refine W_region rfl ?_
    refine da_op rfl (d_mv (v := .int .i64 s4.1) i4_S4 ?_)
    refine da_op rfl (d_mv (v := (Value.slice p0a p0n p0c)) i4_S0 ?_)
    have B5 : RS wl4 encSVector (Value.slice p0a p0n p0c) p0 := p0R.ext i4_X
    refine da_op rfl (d_len (e := encSVector) un60 rfl B5 ?_)
    refine da_op rfl (d_icmp cLss rfl rfl ?_)
    refine da_nil ?_
    refine W_cond (b := (icmp .lss s4.1 ((p0).length : Int))) rfl (fun hc6 => ?_) (fun hc6 => ?_)
    · skip
      replace hr := bif_t hr hc6
      refine W_skip ?_
      refine W_seq ?_
      refine W_block ?_
      refine W_region rfl ?_
      refine da_op rfl (d_mv (v := (Value.slice v2pa v2pn v2pc)) i4_S3 ?_)
      refine da_op rfl (d_mv (v := .int .i64 s4.1) i4_S4 ?_)
      refine da_op rfl (d_mv (v := (Value.slice p0a p0n p0c)) i4_S0 ?_)
      refine da_op rfl (d_mv (v := .int .i64 s4.1) i4_S4 ?_)
      obtain ⟨m7, hm7, hr⟩ := bind_out hr
      refine da_op rfl (d_index (e := encSVector) (v := (Value.slice p0a p0n p0c)) un60 size178 rfl rfl B5 hm7 fun g8 o8 cu8 T8 fr8 vs8 hv8 hg8 hp8 hq8 => ?_)
      obtain ⟨e8_r0, e8_r1, e8_r2, rfl, e8_h0, e8_h1, e8_h2⟩ := dec_encSVector hq8
      refine da_op rfl (d_loads (vs := #[.float .f32 e8_r0, .float .f32 e8_r1, .float .f32 e8_r2]) rfl agg178 size178 hg8 (sub_take (vs := #[.float .f32 e8_r0, .float .f32 e8_r1, .float .f32 e8_r2]) (us := #[.float .f32 e8_r0, .float .f32 e8_r1, .float .f32 e8_r2]) (i := 0) hp8 rfl (Nat.le_of_ble_eq_true rfl)) ?_)
      obtain ⟨m9, hm9, hr⟩ := letv_out hr
      refine da_op rfl (d_cl (vs := [.agg #[.float .f32 e8_r0, .float .f32 e8_r1, .float .f32 e8_r2]]) en138 (ac rfl rfl) rfl ?_)
      refine (c138 m7 e8_r0 e8_r1 e8_r2 m9 wl4 hm9 e8_h0 e8_h1 e8_h2).mono ?_
      rintro _ w10 ⟨q10_0r0, q10_0r1, q10_0r2, rfl, q10_0h0, q10_0h1, q10_0h2, E10⟩
      refine ⟨_, rfl, ?_⟩
      have X11 : Ext w w10 := i4_X.trans E10
      obtain ⟨m12, hm12, hr⟩ := bind_out hr
      have B14 : OS w10 44 encSVector (Value.slice v2pa v2pn v2pc) s4.2 := i4_1R.ext E10
      refine da_op rfl (d_indexO (e := encSVector) (v := (Value.slice v2pa v2pn v2pc)) un66 size44 rfl rfl B14 hm12 fun g13 fr13 cu13 vs13 hv13 hg13 hp13 hq13 => ?_)
      obtain ⟨e13_r0, e13_r1, e13_r2, rfl, e13_h0, e13_h1, e13_h2⟩ := dec_encSVector hq13
      refine da_op rfl (d_store_elem (e := encSVector) (i := s4.1) (k := 0) (old := [.float .f32 e13_r0, .float .f32 e13_r1, .float .f32 e13_r2]) (vs := #[.float .f32 q10_0r0, .float .f32 q10_0r1, .float .f32 q10_0r2]) (new := [.float .f32 q10_0r0, .float .f32 q10_0r1, .float .f32 q10_0r2]) (x2 := m9) rfl rfl hv13 B14 hg13 hp13 hm12 size44 (by kernel_rfl) (Nat.le_of_ble_eq_true rfl) rfl rfl (lc_f q10_0h0 (lc_f q10_0h1 (lc_f q10_0h2 rfl))) rfl fun w17 S17 O18 => ?_)
      have X19 : Ext w w17 := Ext.step X11 S17.frmb (fun k _ hk => own2 k (by rw [hv13, hk]; rfl))
      refine da_nil ?_
      refine W_region rfl ?_
      refine da_op rfl (d_mv (v := .int .i64 s4.1) i4_S4 ?_)
      refine da_op rfl (d_iarith rfl rfl (.inl ⟨rfl, rfl⟩) ?_)
      refine da_op rfl (d_as (v := .int .i64 (IntKind.i64.wrap (s4.1 + 1))) rfl ?_)
      refine da_nil ?_
      obtain rfl := Option.some.inj hr
      exact ⟨_, rfl, ⟨rfl, i4_S0, i4_S3, O18, X19⟩⟩
    · skip
      replace hr := bif_f hr hc6
      refine W_exit ?_
      obtain rfl := Option.some.inj hr
      exact ⟨_, rfl, rfl, i4_S3, i4_1R, i4_X⟩
  · skip
    intro ex σx4 wx4 hq
    obtain ⟨rfl, q4_0_S3, q4_0_0R, q4_0_X⟩ := hq
    refine W_seq ?_
    refine W_region rfl ?_
    refine da_op rfl (d_mv (v := (Value.slice v2pa v2pn v2pc)) q4_0_S3 ?_)
    refine da_op rfl (d_as (v := (Value.slice v2pa v2pn v2pc)) rfl ?_)
    refine da_nil ?_
    refine W_ret ?_
    obtain rfl := Option.some.inj hr
    refine ⟨_, res1 (rv_tmp rfl), ?_⟩
    exact ⟨v2pa, v2pn, v2pc, rfl, q4_0_0R, own2, q4_0_X⟩
set_option maxHeartbeats 4000000 in
theorem c86 (p0 : List Nat) (p0a : Option Addr) (p0n : Nat) (p0c : Nat) (r : List Nat) (w : World) (hr : M.laws_toFloat32S p0 = some r) (p0R : RS w encF_f32 (Value.slice p0a p0n p0c) p0) :
    Calls Tryd.prog 86 #[(Value.slice p0a p0n p0c)] w fun e w' => ∃ q0a : Option Addr, ∃ q0n : Nat, ∃ q0c : Nat, e = .returned ((Value.slice q0a q0n q0c)) ∧ OS w' 22 encF_f32 (Value.slice q0a q0n q0c) r ∧ (∀ k, (Value.slice q0a q0n q0c).ownBlock = some k → w.heap.size ≤ k) ∧ Ext w w' := by
  refine calls_of_W Tryd.func86 rfl (Nat.le_of_ble_eq_true rfl) ?_
  refine W_seq ?_
  refine W_region rfl ?_
  refine da_op rfl (d_as (v := .slice none 0 0) rfl ?_)
  refine da_nil ?_
  refine W_seq ?_
  refine W_region rfl ?_
  refine da_op rfl (d_mv (v := (Value.slice p0a p0n p0c)) rfl ?_)
  refine da_op rfl (d_len (e := encF_f32) un53 rfl p0R ?_)
  obtain ⟨m1, hm1, hr⟩ := bind_out hr
  refine da_op rfl (d_make (e := encF_f32) un53 info22 rfl (by kernel_rfl) (by kernel_rfl) (by decide) (by decide) rfl rfl hm1 fun v2 w2 O2 E2 fr2 => ?_)
  obtain ⟨v2pa, v2pn, v2pc, rfl⟩ := O2.vals
  have own2 : ∀ k, (Value.slice v2pa v2pn v2pc).ownBlock = some k → w.heap.size ≤ k := fun k hk => Nat.le_trans (Ext.refl w).size (fr2 k hk)
  have X3 : Ext w w2 := (Ext.refl w).trans E2
  refine da_op rfl (d_as (v := (Value.slice v2pa v2pn v2pc)) rfl ?_)
  refine da_nil ?_
  refine W_seq ?_
  refine W_seq ?_
  refine W_region rfl ?_
  refine da_op rfl (d_as (v := .int .i64 0) rfl ?_)
  refine da_nil ?_
  refine W_block ?_
  obtain ⟨m4, hm4, hr⟩ := bind_out hr
  refine W_loopM hm4 (fun (s4 : Int × List Nat) σ w' => σ 4 = .int .i64 s4.1 ∧ σ 0 = (Value.slice p0a p0n p0c) ∧ σ 3 = (Value.slice v2pa v2pn v2pc) ∧ OS w' 22 encF_f32 (Value.slice v2pa v2pn v2pc) s4.2 ∧ Ext w w') (fun (e4 : (List Nat)) ex σ w' => ex = .exit 0 ∧ σ 3 = (Value.slice v2pa v2pn v2pc) ∧ OS w' 22 encF_f32 (Value.slice v2pa v2pn v2pc) e4 ∧ Ext w w') ⟨rfl, rfl, rfl, O2, X3⟩ ?_ ?_
  · skip
    rintro s4 σl4 wl4 r4l ⟨i4_S4, i4_S0, i4_S3, i4_1R, i4_X⟩ hr
    refine W_seq ?_
    refine W_seq ?_
    refine W_region rfl ?_
    refine da_op rfl (d_mv (v := .int .i64 s4.1) i4_S4 ?_)
    refine da_op rfl (d_mv (v := (Value.slice p0a p0n p0c)) i4_S0 ?_)
    have B5 : RS wl4 encF_f32 (Value.slice p0a p0n p0c) p0 := p0R.ext i4_X
    refine da_op rfl (d_len (e := encF_f32) un53 rfl B5 ?_)
    refine da_op rfl (d_icmp cLss rfl rfl ?_)
    refine da_nil ?_
    refine W_cond (b := (icmp .lss s4.1 ((p0).length : Int))) rfl (fun hc6 => ?_) (fun hc6 => ?_)
    · skip
      replace hr := bif_t hr hc6
      refine W_skip ?_
      refine W_seq ?_
      refine W_block ?_
      refine W_region rfl ?_
      refine da_op rfl (d_mv (v := (Value.slice v2pa v2pn v2pc)) i4_S3 ?_)
      refine da_op rfl (d_mv (v := .int .i64 s4.1) i4_S4 ?_)
      refine da_op rfl (d_mv (v := (Value.slice p0a p0n p0c)) i4_S0 ?_)
      refine da_op rfl (d_mv (v := .int .i64 s4.1) i4_S4 ?_)
      obtain ⟨m7, hm7, hr⟩ := bind_out hr
      refine da_op rfl (d_index (e := encF_f32) (v := (Value.slice p0a p0n p0c)) un53 size22 rfl rfl B5 hm7 fun g8 o8 cu8 T8 fr8 vs8 hv8 hg8 hp8 hq8 => ?_)
      obtain ⟨e8_r0, rfl, e8_h0⟩ := dec_encF_f32 hq8
      refine da_op rfl (d_load (v := .float .f32 e8_r0) rfl agg22 hg8 (sub_get (vs := #[.float .f32 e8_r0]) hp8 (i := 0) rfl) ?_)
      obtain ⟨m9, hm9, hr⟩ := bind_out hr
      refine da_op rfl (d_indexO (e := encF_f32) (v := (Value.slice v2pa v2pn v2pc)) un53 size22 rfl rfl i4_1R hm9 fun g10 fr10 cu10 vs10 hv10 hg10 hp10 hq10 => ?_)
      obtain ⟨e10_r0, rfl, e10_h0⟩ := dec_encF_f32 hq10
      refine da_op rfl (d_store_elem (e := encF_f32) (i := s4.1) (k := 0) (old := [.float .f32 e10_r0]) (vs := #[.float .f32 e8_r0]) (new := [.float .f32 e8_r0]) (x2 := m7) rfl rfl hv10 i4_1R hg10 hp10 hm9 size22 (by kernel_rfl) (Nat.le_of_ble_eq_true rfl) rfl rfl (lc_f e8_h0 rfl) rfl fun w13 S13 O14 => ?_)
      have X15 : Ext w w13 := Ext.step i4_X S13.frmb (fun k _ hk => own2 k (by rw [hv10, hk]; rfl))
      refine da_nil ?_
      refine W_region rfl ?_
      refine da_op rfl (d_mv (v := .int .i64 s4.1) i4_S4 ?_)
      refine da_op rfl (d_iarith rfl rfl (.inl ⟨rfl, rfl⟩) ?_)
      refine da_op rfl (d_as (v := .int .i64 (IntKind.i64.wrap (s4.1 + 1))) rfl ?_)
      refine da_nil ?_
      obtain rfl := Option.some.inj hr
      exact ⟨_, rfl, ⟨rfl, i4_S0, i4_S3, O14, X15⟩⟩
    · skip
      replace hr := bif_f hr hc6
      refine W_exit ?_
      obtain rfl := Option.some.inj hr
      exact ⟨_, rfl, rfl, i4_S3, i4_1R, i4_X⟩
  · skip
    intro ex σx4 wx4 hq
    obtain ⟨rfl, q4_0_S3, q4_0_0R, q4_0_X⟩ := hq
    refine W_seq ?_
    refine W_region rfl ?_
    refine da_op rfl (d_mv (v := (Value.slice v2pa v2pn v2pc)) q4_0_S3 ?_)
    refine da_op rfl (d_as (v := (Value.slice v2pa v2pn v2pc)) rfl ?_)
    refine da_nil ?_
    refine W_ret ?_
    obtain rfl := Option.some.inj hr
    refine ⟨_, res1 (rv_tmp rfl), ?_⟩
    exact ⟨v2pa, v2pn, v2pc, rfl, q4_0_0R, own2, q4_0_X⟩
set_option maxHeartbeats 4000000 in
theorem c139 (p0 : SRod) (p0r2 : Nat) (r : SRod) (w : World) (hr : M.laws_toRod p0 = r) (p0h2 : cn .f32 p0r2 = p0.long) :
    Calls Tryd.prog 139 #[.agg #[.int .i64 p0.a, .int .i64 p0.b, .float .f32 p0r2]] w fun e w' => ∃ q0r2 : Nat, e = .returned (.agg #[.int .i64 r.a, .int .i64 r.b, .float .f32 q0r2]) ∧ cn .f32 q0r2 = r.long ∧ Ext w w' := by
  refine calls_of_W Tryd.func139 rfl (Nat.le_of_ble_eq_true rfl) ?_
  refine W_seq ?_
  refine W_region rfl ?_
  refine da_op rfl (d_box (cs := #[.int .i64 p0.a, .int .i64 p0.b, .float .f32 p0r2]) rfl fun w1 B1 E1 => ?_)
  have own2 : w.heap.size ≤ w.heap.size := Nat.le_trans (Ext.refl w).size (Nat.le_refl _)
  have X3 : Ext w w1 := (Ext.refl w).trans E1
  refine da_op rfl (d_alloc (cs := #[.int .i64 0, .int .i64 0, .float .f32 0]) zero136 rfl fun w4 B4 E4 => ?_)
  have own5 : w.heap.size ≤ w1.heap.size := Nat.le_trans X3.size (Nat.le_refl _)
  have sp6 : w.heap.size ≠ w1.heap.size := Nat.ne_of_lt (Nat.lt_of_lt_of_le (lt_heap B1) (Nat.le_refl _))
  have X7 : Ext w w4 := X3.trans E4
  refine da_nil ?_
  refine W_seq ?_
  refine W_region rfl ?_
  have B9 : w4.heap[w.heap.size]? = some (.cells #[.int .i64 p0.a, .int .i64 p0.b, .float .f32 p0r2] 180 (0, 0)) := E4.heap B1
  refine da_op rfl (d_alloc (cs := #[.int .i64 0, .int .i64 0, .float .f32 0]) zero136 rfl fun w8 B8 E8 => ?_)
  have own10 : w.heap.size ≤ w4.heap.size := Nat.le_trans X7.size (Nat.le_refl _)
  have sp11 : w.heap.size ≠ w4.heap.size := Nat.ne_of_lt (Nat.lt_of_lt_of_le (lt_heap B9) (Nat.le_refl _))
  have sp12 : w1.heap.size ≠ w4.heap.size := Nat.ne_of_lt (Nat.lt_of_lt_of_le (lt_heap B4) (Nat.le_refl _))
  have X13 : Ext w w8 := X7.trans E8
  refine da_nil ?_
  refine W_seq ?_
  refine W_region rfl ?_
  refine da_op rfl (d_fieldAddr rfl (fa180_0 _ _) ?_)
  have B14 : w8.heap[w.heap.size]? = some (.cells #[.int .i64 p0.a, .int .i64 p0.b, .float .f32 p0r2] 180 (0, 0)) := E8.heap B9
  refine da_op rfl (d_load (v := .int .i64 p0.a) rfl agg2 B14 rfl ?_)
  refine da_op rfl (d_fieldAddr rfl (fa136_0 _ _) ?_)
  refine da_op rfl (d_store (vs := #[.int .i64 p0.a]) rfl rfl B8 size2 (Nat.le_of_ble_eq_true rfl) rfl fun w15 S15 => ?_)
  have X16 : Ext w w15 := Ext.step X13 S15.frmb (fun k _ hk => hk ▸ own10)
  have B17 : w15.heap[w4.heap.size]? = some (.cells #[.int .i64 p0.a, .int .i64 0, .float .f32 0] 136 (0, 0)) := S15.here
  refine da_nil ?_
  refine W_seq ?_
  refine W_region rfl ?_
  refine da_op rfl (d_fieldAddr rfl (fa180_1 _ _) ?_)
  have B18 : w15.heap[w.heap.size]? = some (.cells #[.int .i64 p0.a, .int .i64 p0.b, .float .f32 p0r2] 180 (0, 0)) := S15.frmb.heap sp11 B14
  refine da_op rfl (d_load (v := .int .i64 p0.b) rfl agg2 B18 rfl ?_)
  refine da_op rfl (d_fieldAddr rfl (fa136_1 _ _) ?_)
  refine da_op rfl (d_store (vs := #[.int .i64 p0.b]) rfl rfl B17 size2 (Nat.le_of_ble_eq_true rfl) rfl fun w19 S19 => ?_)
  have X20 : Ext w w19 := Ext.step X16 S19.frmb (fun k _ hk => hk ▸ own10)
  have B21 : w19.heap[w4.heap.size]? = some (.cells #[.int .i64 p0.a, .int .i64 p0.b, .float .f32 0] 136 (0, 0)) := S19.here
  refine da_nil ?_
  refine W_seq ?_
  refine W_region rfl ?_
  refine da_op rfl (d_fieldAddr rfl (fa180_2 _ _) ?_)
  have B22 : w19.heap[w.heap.size]? = some (.cells #[.int .i64 p0.a, .int .i64 p0.b, .float .f32 p0r2] 180 (0, 0)) := S19.frmb.heap sp11 B18
  refine da_op rfl (d_load (v := .float .f32 p0r2) rfl agg22 B22 rfl ?_)
  refine da_op rfl (d_fieldAddr rfl (fa136_2 _ _) ?_)
  refine da_op rfl (d_store (vs := #[.float .f32 p0r2]) rfl rfl B21 size22 (Nat.le_of_ble_eq_true rfl) rfl fun w23 S23 => ?_)
  have X24 : Ext w w23 := Ext.step X20 S23.frmb (fun k _ hk => hk ▸ own10)
  have B25 : w23.heap[w4.heap.size]? = some (.cells #[.int .i64 p0.a, .int .i64 p0.b, .float .f32 p0r2] 136 (0, 0)) := S23.here
  refine da_nil ?_
  refine W_seq ?_
  refine W_region rfl ?_
  refine da_op rfl (d_loads (vs := #[.int .i64 p0.a, .int .i64 p0.b, .float .f32 p0r2]) rfl agg136 size136 B25 rfl ?_)
  have B26 : w23.heap[w1.heap.size]? = some (.cells #[.int .i64 0, .int .i64 0, .float .f32 0] 136 (0, 0)) := S23.frmb.heap sp12 (S19.frmb.heap sp12 (S15.frmb.heap sp12 (E8.heap B4)))
  refine da_op rfl (d_store (vs := #[.int .i64 p0.a, .int .i64 p0.b, .float .f32 p0r2]) rfl rfl B26 size136 (Nat.le_of_ble_eq_true rfl) rfl fun w27 S27 => ?_)
  have X28 : Ext w w27 := Ext.step X24 S27.frmb (fun k _ hk => hk ▸ own5)
  have B29 : w27.heap[w1.heap.size]? = some (.cells #[.int .i64 p0.a, .int .i64 p0.b, .float .f32 p0r2] 136 (0, 0)) := S27.here
  refine da_nil ?_
  refine W_ret ?_
  subst hr
  refine ⟨_, res1 (rv_cells (vs := #[.int .i64 p0.a, .int .i64 p0.b, .float .f32 p0r2]) rfl agg136 size136 B29 rfl), ?_⟩
  exact ⟨p0r2, rfl, p0h2, X28⟩
set_option maxHeartbeats 4000000 in
theorem c87 (p0 : List SRod) (p0a : Option Addr) (p0n : Nat) (p0c : Nat) (r : List SRod) (w : World) (hr : M.laws_toRodS p0 = some r) (p0R : RS w encSRod (Value.slice p0a p0n p0c) p0) :
    Calls Tryd.prog 87 #[(Value.slice p0a p0n p0c)] w fun e w' => ∃ q0a : Option Addr, ∃ q0n : Nat, ∃ q0c : Nat, e = .returned ((Value.slice q0a q0n q0c)) ∧ OS w' 136 encSRod (Value.slice q0a q0n q0c) r ∧ (∀ k, (Value.slice q0a q0n q0c).ownBlock = some k → w.heap.size ≤ k) ∧ Ext w w' := by
  refine calls_of_W Tryd.func87 rfl (Nat.le_of_ble_eq_true rfl) ?_
  refine W_seq ?_
  refine W_region rfl ?_
  refine da_op rfl (d_as (v := .slice none 0 0) rfl ?_)
  refine da_nil ?_
  refine W_seq ?_
  refine W_region rfl ?_
  refine da_op rfl (d_mv (v := (Value.slice p0a p0n p0c)) rfl ?_)
  refine da_op rfl (d_len (e := encSRod) un61 rfl p0R ?_)
  obtain ⟨m1, hm1, hr⟩ := bind_out hr
  refine da_op rfl (d_make (e := encSRod) un67 info136 rfl (by kernel_rfl) (by kernel_rfl) (by decide) (by decide) rfl rfl hm1 fun v2 w2 O2 E2 fr2 => ?_)
  obtain ⟨v2pa, v2pn, v2pc, rfl⟩ := O2.vals
  have own2 : ∀ k, (Value.slice v2pa v2pn v2pc).ownBlock = some k → w.heap.size ≤ k := fun k hk => Nat.le_trans (Ext.refl w).size (fr2 k hk)
  have X3 : Ext w w2 := (Ext.refl w).trans E2
  refine da_op rfl (d_as (v := (Value.slice v2pa v2pn v2pc)) rfl ?_)
  refine da_nil ?_
  refine W_seq ?_
  refine W_seq ?_
  refine W_region rfl ?_
  refine da_op rfl (d_as (v := .int .i64 0) rfl ?_)
  refine da_nil ?_
  refine W_block ?_
  obtain ⟨m4, hm4, hr⟩ := bind_out hr
  refine W_loopM hm4 (fun (s4 : Int × List SRod) σ w' => σ 4 = .int .i64 s4.1 ∧ σ 0 = (Value.slice p0a p0n p0c) ∧ σ 3 = (Value.slice v2pa v2pn v2pc) ∧ OS w' 136 encSRod (Value.slice v2pa v2pn v2pc) s4.2 ∧ Ext w w') (fun (e4 : (List SRod)) ex σ w' => ex = .exit 0 ∧ σ 3 = (Value.slice v2pa v2pn v2pc) ∧ OS w' 136 encSRod (Value.slice v2pa v2pn v2pc) e4 ∧ Ext w w') ⟨rfl, rfl, rfl, O2, X3⟩ ?_ ?_
  · skip
    rintro s4 σl4 wl4 r4l ⟨i4_S4, i4_S0, i4_S3, i4_1R, i4_X⟩ hr
    refine W_seq ?_
    refine W_seq ?_
    refine W_region rfl ?_
    refine da_op rfl (d_mv (v := .int .i64 s4.1) i4_S4 ?_)
    refine da_op rfl (d_mv (v := (Value.slice p0a p0n p0c)) i4_S0 ?_)
    have B5 : RS wl4 encSRod (Value.slice p0a p0n p0c) p0 := p0R.ext i4_X
    refine da_op rfl (d_len (e := encSRod) un61 rfl B5 ?_)
    refine da_op rfl (d_icmp cLss rfl rfl ?_)
    refine da_nil ?_
    refine W_cond (b := (icmp .lss s4.1 ((p0).length : Int))) rfl (fun hc6 => ?_) (fun hc6 => ?_)
    · skip
      replace hr := bif_t hr hc6
      refine W_skip ?_
      refine W_seq ?_
      refine W_block ?_
      refine W_region rfl ?_
      refine da_op rfl (d_mv (v := (Value.slice v2pa v2pn v2pc)) i4_S3 ?_)
      refine da_op rfl (d_mv (v := .int .i64 s4.1) i4_S4 ?_)
      refine da_op rfl (d_mv (v := (Value.slice p0a p0n p0c)) i4_S0 ?_)
      refine da_op rfl (d_mv (v := .int .i64 s4.1) i4_S4 ?_)
      obtain ⟨m7, hm7, hr⟩ := bind_out hr
      refine da_op rfl (d_index (e := encSRod) (v := (Value.slice p0a p0n p0c)) un61 size180 rfl rfl B5 hm7 fun g8 o8 cu8 T8 fr8 vs8 hv8 hg8 hp8 hq8 => ?_)
      obtain ⟨e8_r2, rfl, e8_h2⟩ := dec_encSRod hq8
      refine da_op rfl (d_loads (vs := #[.int .i64 m7.a, .int .i64 m7.b, .float .f32 e8_r2]) rfl agg180 size180 hg8 (sub_take (vs := #[.int .i64 m7.a, .int .i64 m7.b, .float .f32 e8_r2]) (us := #[.int .i64 m7.a, .int .i64 m7.b, .float .f32 e8_r2]) (i := 0) hp8 rfl (Nat.le_of_ble_eq_true rfl)) ?_)
      obtain ⟨m9, hm9, hr⟩ := letv_out hr
      refine da_op rfl (d_cl (vs := [.agg #[.int .i64 m7.a, .int .i64 m7.b, .float .f32 e8_r2]]) en139 (ac rfl rfl) rfl ?_)
      refine (c139 m7 e8_r2 m9 wl4 hm9 e8_h2).mono ?_
      rintro _ w10 ⟨q10_0r2, rfl, q10_0h2, E10⟩
      refine ⟨_, rfl, ?_⟩
      have X11 : Ext w w10 := i4_X.trans E10
      obtain ⟨m12, hm12, hr⟩ := bind_out hr
      have B14 : OS w10 136 encSRod (Value.slice v2pa v2pn v2pc) s4.2 := i4_1R.ext E10
      refine da_op rfl (d_indexO (e := encSRod) (v := (Value.slice v2pa v2pn v2pc)) un67 size136 rfl rfl B14 hm12 fun g13 fr13 cu13 vs13 hv13 hg13 hp13 hq13 => ?_)
      obtain ⟨e13_r2, rfl, e13_h2⟩ := dec_encSRod hq13
      refine da_op rfl (d_store_elem (e := encSRod) (i := s4.1) (k := 0) (old := [.int .i64 m12.a, .int .i64 m12.b, .float .f32 e13_r2]) (vs := #[.int .i64 m9.a, .int .i64 m9.b, .float .f32 q10_0r2]) (new := [.int .i64 m9.a, .int .i64 m9.b, .float .f32 q10_0r2]) (x2 := m9) rfl rfl hv13 B14 hg13 hp13 hm12 size136 (by kernel_rfl) (Nat.le_of_ble_eq_true rfl) rfl rfl (lc_v rfl (lc_v rfl (lc_f q10_0h2 rfl))) rfl fun w17 S17 O18 => ?_)
      have X19 : Ext w w17 := Ext.step X11 S17.frmb (fun k _ hk => own2 k (by rw [hv13, hk]; rfl))
      refine da_nil ?_
      refine W_region rfl ?_
      refine da_op rfl (d_mv (v := .int .i64 s4.1) i4_S4 ?_)
      refine da_op rfl (d_iarith rfl rfl (.inl ⟨rfl, rfl⟩) ?_)
      refine da_op rfl (d_as (v := .int .i64 (IntKind.i64.wrap (s4.1 + 1))) rfl ?_)
      refine da_nil ?_
      obtain rfl := Option.some.inj hr
      exact ⟨_, rfl, ⟨rfl, i4_S0, i4_S3, O18, X19⟩⟩
    · skip
      replace hr := bif_f hr hc6
      refine W_exit ?_
      obtain rfl := Option.some.inj hr
      exact ⟨_, rfl, rfl, i4_S3, i4_1R, i4_X⟩
  · skip
    intro ex σx4 wx4 hq
    obtain ⟨rfl, q4_0_S3, q4_0_0R, q4_0_X⟩ := hq
    refine W_seq ?_
    refine W_region rfl ?_
    refine da_op rfl (d_mv (v := (Value.slice v2pa v2pn v2pc)) q4_0_S3 ?_)
    refine da_op rfl (d_as (v := (Value.slice v2pa v2pn v2pc)) rfl ?_)
    refine da_nil ?_
    refine W_ret ?_
    obtain rfl := Option.some.inj hr
    refine ⟨_, res1 (rv_tmp rfl), ?_⟩
    exact ⟨v2pa, v2pn, v2pc, rfl, q4_0_0R, own2, q4_0_X⟩
set_option maxHeartbeats 4000000 in
theorem c36 (p0 : SChain) (p0v0a : Option Addr) (p0v0n : Nat) (p0v0c : Nat) (p0v1a : Option Addr) (p0v1n : Nat) (p0v1c : Nat) (p0v2a : Option Addr) (p0v2n : Nat) (p0v2c : Nat) (p0v3a : Option Addr) (p0v3n : Nat) (p0v3c : Nat) (r : SChain) (w : World) (hr : M.laws_toChain p0 = some r) (p0v0R : RS w encSVector (Value.slice p0v0a p0v0n p0v0c) p0.places) (p0v1R : RS w encSVector (Value.slice p0v1a p0v1n p0v1c) p0.before) (p0v2R : RS w encF_f32 (Value.slice p0v2a p0v2n p0v2c) p0.weights) (p0v3R : RS w encSRod (Value.slice p0v3a p0v3n p0v3c) p0.rods) :
    Calls Tryd.prog 36 #[.agg #[(Value.slice p0v0a p0v0n p0v0c), (Value.slice p0v1a p0v1n p0v1c), (Value.slice p0v2a p0v2n p0v2c), (Value.slice p0v3a p0v3n p0v3c)]] w fun e w' => ∃ q0v0a : Option Addr, ∃ q0v0n : Nat, ∃ q0v0c : Nat, ∃ q0v1a : Option Addr, ∃ q0v1n : Nat, ∃ q0v1c : Nat, ∃ q0v2a : Option Addr, ∃ q0v2n : Nat, ∃ q0v2c : Nat, ∃ q0v3a : Option Addr, ∃ q0v3n : Nat, ∃ q0v3c : Nat, e = .returned (.agg #[(Value.slice q0v0a q0v0n q0v0c), (Value.slice q0v1a q0v1n q0v1c), (Value.slice q0v2a q0v2n q0v2c), (Value.slice q0v3a q0v3n q0v3c)]) ∧ OS w' 44 encSVector (Value.slice q0v0a q0v0n q0v0c) r.places ∧ (∀ k, (Value.slice q0v0a q0v0n q0v0c).ownBlock = some k → w.heap.size ≤ k) ∧ OS w' 44 encSVector (Value.slice q0v1a q0v1n q0v1c) r.before ∧ (∀ k, (Value.slice q0v1a q0v1n q0v1c).ownBlock = some k → w.heap.size ≤ k) ∧ OS w' 22 encF_f32 (Value.slice q0v2a q0v2n q0v2c) r.weights ∧ (∀ k, (Value.slice q0v2a q0v2n q0v2c).ownBlock = some k → w.heap.size ≤ k) ∧ OS w' 136 encSRod (Value.slice q0v3a q0v3n q0v3c) r.rods ∧ (∀ k, (Value.slice q0v3a q0v3n q0v3c).ownBlock = some k → w.heap.size ≤ k) ∧ (∀ k, (Value.slice q0v0a q0v0n q0v0c).ownBlock = some k → ¬ (Value.slice q0v1a q0v1n q0v1c).ownBlock = some k) ∧ (∀ k, (Value.slice q0v0a q0v0n q0v0c).ownBlock = some k → ¬ (Value.slice q0v2a q0v2n q0v2c).ownBlock = some k) ∧ (∀ k, (Value.slice q0v1a q0v1n q0v1c).ownBlock = some k → ¬ (Value.slice q0v2a q0v2n q0v2c).ownBlock = some k) ∧ (∀ k, (Value.slice q0v0a q0v0n q0v0c).ownBlock = some k → ¬ (Value.slice q0v3a q0v3n q0v3c).ownBlock = some k) ∧ (∀ k, (Value.slice q0v1a q0v1n q0v1c).ownBlock = some k → ¬ (Value.slice q0v3a q0v3n q0v3c).ownBlock = some k) ∧ (∀ k, (Value.slice q0v2a q0v2n q0v2c).ownBlock = some k → ¬ (Value.slice q0v3a q0v3n q0v3c).ownBlock = some k) ∧ Ext w w' := by
  refine calls_of_W Tryd.func36 rfl (Nat.le_of_ble_eq_true rfl) ?_
  refine W_seq ?_
  refine W_region rfl ?_
  refine da_op rfl (d_box (cs := #[(Value.slice p0v0a p0v0n p0v0c), (Value.slice p0v1a p0v1n p0v1c), (Value.slice p0v2a p0v2n p0v2c), (Value.slice p0v3a p0v3n p0v3c)]) rfl fun w1 B1 E1 => ?_)
  have own2 : w.heap.size ≤ w.heap.size := Nat.le_trans (Ext.refl w).size (Nat.le_refl _)
  have X3 : Ext w w1 := (Ext.refl w).trans E1
  refine da_op rfl (d_alloc (cs := #[.slice none 0 0, .slice none 0 0, .slice none 0 0, .slice none 0 0]) zero69 rfl fun w4 B4 E4 => ?_)
  have own5 : w.heap.size ≤ w1.heap.size := Nat.le_trans X3.size (Nat.le_refl _)
  have sp6 : w.heap.size ≠ w1.heap.size := Nat.ne_of_lt (Nat.lt_of_lt_of_le (lt_heap B1) (Nat.le_refl _))
  have X7 : Ext w w4 := X3.trans E4
  refine da_nil ?_
  refine W_seq ?_
  refine W_region rfl ?_
  have B9 : w4.heap[w.heap.size]? = some (.cells #[(Value.slice p0v0a p0v0n p0v0c), (Value.slice p0v1a p0v1n p0v1c), (Value.slice p0v2a p0v2n p0v2c), (Value.slice p0v3a p0v3n p0v3c)] 63 (0, 0)) := E4.heap B1
  refine da_op rfl (d_alloc (cs := #[.slice none 0 0, .slice none 0 0, .slice none 0 0, .slice none 0 0]) zero69 rfl fun w8 B8 E8 => ?_)
  have own10 : w.heap.size ≤ w4.heap.size := Nat.le_trans X7.size (Nat.le_refl _)
  have sp11 : w.heap.size ≠ w4.heap.size := Nat.ne_of_lt (Nat.lt_of_lt_of_le (lt_heap B9) (Nat.le_refl _))
  have sp12 : w1.heap.size ≠ w4.heap.size := Nat.ne_of_lt (Nat.lt_of_lt_of_le (lt_heap B4) (Nat.le_refl _))
  have X13 : Ext w w8 := X7.trans E8
  refine da_nil ?_
  refine W_seq ?_
  refine W_region rfl ?_
  refine da_op rfl (d_fieldAddr rfl (fa63_0 _ _) ?_)
  have B14 : w8.heap[w.heap.size]? = some (.cells #[(Value.slice p0v0a p0v0n p0v0c), (Value.slice p0v1a p0v1n p0v1c), (Value.slice p0v2a p0v2n p0v2c), (Value.slice p0v3a p0v3n p0v3c)] 63 (0, 0)) := E8.heap B9
  refine da_op rfl (d_load (v := (Value.slice p0v0a p0v0n p0v0c)) rfl agg60 B14 rfl ?_)
  obtain ⟨m15, hm15, hr⟩ := bind_out hr
  have B16 : RS w8 encSVector (Value.slice p0v0a p0v0n p0v0c) p0.places := p0v0R.ext X13
  have B17 : w8.heap[w1.heap.size]? = some (.cells #[.slice none 0 0, .slice none 0 0, .slice none 0 0, .slice none 0 0] 69 (0, 0)) := E8.heap B4
  refine da_op rfl (d_cl (vs := [(Value.slice p0v0a p0v0n p0v0c)]) en85 (ac rfl rfl) rfl ?_)
  refine (c85 p0.places p0v0a p0v0n p0v0c m15 w8 hm15 B16).mono ?_
  rintro _ w18 ⟨q18_0a, q18_0n, q18_0c, rfl, q18_0R, q18_0F, E18⟩
  refine ⟨_, rfl, ?_⟩
  have own19 : ∀ k, (Value.slice q18_0a q18_0n q18_0c).ownBlock = some k → w.heap.size ≤ k := fun k hk => Nat.le_trans X13.size (q18_0F k hk)
  have sp20 : ¬ (Value.slice q18_0a q18_0n q18_0c).ownBlock = some w.heap.size := ne_fresh q18_0F (lt_heap B14)
  have sp21 : ¬ (Value.slice q18_0a q18_0n q18_0c).ownBlock = some w1.heap.size := ne_fresh q18_0F (lt_heap B17)
  have sp22 : ¬ (Value.slice q18_0a q18_0n q18_0c).ownBlock = some w4.heap.size := ne_fresh q18_0F (lt_heap B8)
  have X23 : Ext w w18 := X13.trans E18
  refine da_op rfl (d_fieldAddr rfl (fa69_0 _ _) ?_)
  have B24 : w18.heap[w4.heap.size]? = some (.cells #[.slice none 0 0, .slice none 0 0, .slice none 0 0, .slice none 0 0] 69 (0, 0)) := E18.heap B8
  refine da_op rfl (d_store (vs := #[(Value.slice q18_0a q18_0n q18_0c)]) rfl rfl B24 size66 (Nat.le_of_ble_eq_true rfl) rfl fun w25 S25 => ?_)
  have X26 : Ext w w25 := Ext.step X23 S25.frmb (fun k _ hk => hk ▸ own10)
  have B27 : w25.heap[w4.heap.size]? = some (.cells #[(Value.slice q18_0a q18_0n q18_0c), .slice none 0 0, .slice none 0 0, .slice none 0 0] 69 (0, 0)) := S25.here
  refine da_nil ?_
  refine W_seq ?_
  refine W_region rfl ?_
  refine da_op rfl (d_fieldAddr rfl (fa63_1 _ _) ?_)
  have B28 : w25.heap[w.heap.size]? = some (.cells #[(Value.slice p0v0a p0v0n p0v0c), (Value.slice p0v1a p0v1n p0v1c), (Value.slice p0v2a p0v2n p0v2c), (Value.slice p0v3a p0v3n p0v3c)] 63 (0, 0)) := S25.frmb.heap sp11 (E18.heap B14)
  refine da_op rfl (d_load (v := (Value.slice p0v1a p0v1n p0v1c)) rfl agg60 B28 rfl ?_)
  obtain ⟨m29, hm29, hr⟩ := bind_out hr
  have B30 : RS w25 encSVector (Value.slice p0v1a p0v1n p0v1c) p0.before := p0v1R.ext X26
  have B31 : w25.heap[w1.heap.size]? = some (.cells #[.slice none 0 0, .slice none 0 0, .slice none 0 0, .slice none 0 0] 69 (0, 0)) := S25.frmb.heap sp12 (E18.heap B17)
  have B32 : OS w25 44 encSVector (Value.slice q18_0a q18_0n q18_0c) m15 := q18_0R.frm S25.frmb (rb sp22)
  refine da_op rfl (d_cl (vs := [(Value.slice p0v1a p0v1n p0v1c)]) en85 (ac rfl rfl) rfl ?_)
  refine (c85 p0.before p0v1a p0v1n p0v1c m29 w25 hm29 B30).mono ?_
  rintro _ w33 ⟨q33_0a, q33_0n, q33_0c, rfl, q33_0R, q33_0F, E33⟩
  refine ⟨_, rfl, ?_⟩
  have own34 : ∀ k, (Value.slice q33_0a q33_0n q33_0c).ownBlock = some k → w.heap.size ≤ k := fun k hk => Nat.le_trans X26.size (q33_0F k hk)
  have sp35 : ¬ (Value.slice q33_0a q33_0n q33_0c).ownBlock = some w.heap.size := ne_fresh q33_0F (lt_heap B28)
  have sp36 : ¬ (Value.slice q33_0a q33_0n q33_0c).ownBlock = some w1.heap.size := ne_fresh q33_0F (lt_heap B31)
  have sp37 : ¬ (Value.slice q33_0a q33_0n q33_0c).ownBlock = some w4.heap.size := ne_fresh q33_0F (lt_heap B27)
  have sp38 : ∀ k, (Value.slice q18_0a q18_0n q18_0c).ownBlock = some k → ¬ (Value.slice q33_0a q33_0n q33_0c).ownBlock = some k := apart_fresh B32 q33_0F
  have X39 : Ext w w33 := X26.trans E33
  refine da_op rfl (d_fieldAddr rfl (fa69_1 _ _) ?_)
  have B40 : w33.heap[w4.heap.size]? = some (.cells #[(Value.slice q18_0a q18_0n q18_0c), .slice none 0 0, .slice none 0 0, .slice none 0 0] 69 (0, 0)) := E33.heap B27
  refine da_op rfl (d_store (vs := #[(Value.slice q33_0a q33_0n q33_0c)]) rfl rfl B40 size66 (Nat.le_of_ble_eq_true rfl) rfl fun w41 S41 => ?_)
  have X42 : Ext w w41 := Ext.step X39 S41.frmb (fun k _ hk => hk ▸ own10)
  have B43 : w41.heap[w4.heap.size]? = some (.cells #[(Value.slice q18_0a q18_0n q18_0c), (Value.slice q33_0a q33_0n q33_0c), .slice none 0 0, .slice none 0 0] 69 (0, 0)) := S41.here
  refine da_nil ?_
  refine W_seq ?_
  refine W_region rfl ?_
  refine da_op rfl (d_fieldAddr rfl (fa63_2 _ _) ?_)
  have B44 : w41.heap[w.heap.size]? = some (.cells #[(Value.slice p0v0a p0v0n p0v0c), (Value.slice p0v1a p0v1n p0v1c), (Value.slice p0v2a p0v2n p0v2c), (Value.slice p0v3a p0v3n p0v3c)] 63 (0, 0)) := S41.frmb.heap sp11 (E33.heap B28)
  refine da_op rfl (d_load (v := (Value.slice p0v2a p0v2n p0v2c)) rfl agg53 B44 rfl ?_)
  obtain ⟨m45, hm45, hr⟩ := bind_out hr
  have B46 : RS w41 encF_f32 (Value.slice p0v2a p0v2n p0v2c) p0.weights := p0v2R.ext X42
  have B47 : w41.heap[w1.heap.size]? = some (.cells #[.slice none 0 0, .slice none 0 0, .slice none 0 0, .slice none 0 0] 69 (0, 0)) := S41.frmb.heap sp12 (E33.heap B31)
  have B48 : OS w41 44 encSVector (Value.slice q18_0a q18_0n q18_0c) m15 := (B32.ext E33).frm S41.frmb (rb sp22)
  have B49 : OS w41 44 encSVector (Value.slice q33_0a q33_0n q33_0c) m29 := q33_0R.frm S41.frmb (rb sp37)
  refine da_op rfl (d_cl (vs := [(Value.slice p0v2a p0v2n p0v2c)]) en86 (ac rfl rfl) rfl ?_)
  refine (c86 p0.weights p0v2a p0v2n p0v2c m45 w41 hm45 B46).mono ?_
  rintro _ w50 ⟨q50_0a, q50_0n, q50_0c, rfl, q50_0R, q50_0F, E50⟩
  refine ⟨_, rfl, ?_⟩
  have own51 : ∀ k, (Value.slice q50_0a q50_0n q50_0c).ownBlock = some k → w.heap.size ≤ k := fun k hk => Nat.le_trans X42.size (q50_0F k hk)
  have sp52 : ¬ (Value.slice q50_0a q50_0n q50_0c).ownBlock = some w.heap.size := ne_fresh q50_0F (lt_heap B44)
  have sp53 : ¬ (Value.slice q50_0a q50_0n q50_0c).ownBlock = some w1.heap.size := ne_fresh q50_0F (lt_heap B47)
  have sp54 : ¬ (Value.slice q50_0a q50_0n q50_0c).ownBlock = some w4.heap.size := ne_fresh q50_0F (lt_heap B43)
  have sp55 : ∀ k, (Value.slice q18_0a q18_0n q18_0c).ownBlock = some k → ¬ (Value.slice q50_0a q50_0n q50_0c).ownBlock = some k := apart_fresh B48 q50_0F
  have sp56 : ∀ k, (Value.slice q33_0a q33_0n q33_0c).ownBlock = some k → ¬ (Value.slice q50_0a q50_0n q50_0c).ownBlock = some k := apart_fresh B49 q50_0F
  have X57 : Ext w w50 := X42.trans E50
  refine da_op rfl (d_fieldAddr rfl (fa69_2 _ _) ?_)
  have B58 : w50.heap[w4.heap.size]? = some (.cells #[(Value.slice q18_0a q18_0n q18_0c), (Value.slice q33_0a q33_0n q33_0c), .slice none 0 0, .slice none 0 0] 69 (0, 0)) := E50.heap B43
  refine da_op rfl (d_store (vs := #[(Value.slice q50_0a q50_0n q50_0c)]) rfl rfl B58 size53 (Nat.le_of_ble_eq_true rfl) rfl fun w59 S59 => ?_)
  have X60 : Ext w w59 := Ext.step X57 S59.frmb (fun k _ hk => hk ▸ own10)
  have B61 : w59.heap[w4.heap.size]? = some (.cells #[(Value.slice q18_0a q18_0n q18_0c), (Value.slice q33_0a q33_0n q33_0c), (Value.slice q50_0a q50_0n q50_0c), .slice none 0 0] 69 (0, 0)) := S59.here
  refine da_nil ?_
  refine W_seq ?_
  refine W_region rfl ?_
  refine da_op rfl (d_fieldAddr rfl (fa63_3 _ _) ?_)
  have B62 : w59.heap[w.heap.size]? = some (.cells #[(Value.slice p0v0a p0v0n p0v0c), (Value.slice p0v1a p0v1n p0v1c), (Value.slice p0v2a p0v2n p0v2c), (Value.slice p0v3a p0v3n p0v3c)] 63 (0, 0)) := S59.frmb.heap sp11 (E50.heap B44)
  refine da_op rfl (d_load (v := (Value.slice p0v3a p0v3n p0v3c)) rfl agg61 B62 rfl ?_)
  obtain ⟨m63, hm63, hr⟩ := bind_out hr
  have B64 : RS w59 encSRod (Value.slice p0v3a p0v3n p0v3c) p0.rods := p0v3R.ext X60
  have B65 : w59.heap[w1.heap.size]? = some (.cells #[.slice none 0 0, .slice none 0 0, .slice none 0 0, .slice none 0 0] 69 (0, 0)) := S59.frmb.heap sp12 (E50.heap B47)
  have B66 : OS w59 44 encSVector (Value.slice q18_0a q18_0n q18_0c) m15 := (B48.ext E50).frm S59.frmb (rb sp22)
  have B67 : OS w59 44 encSVector (Value.slice q33_0a q33_0n q33_0c) m29 := (B49.ext E50).frm S59.frmb (rb sp37)
  have B68 : OS w59 22 encF_f32 (Value.slice q50_0a q50_0n q50_0c) m45 := q50_0R.frm S59.frmb (rb sp54)
  refine da_op rfl (d_cl (vs := [(Value.slice p0v3a p0v3n p0v3c)]) en87 (ac rfl rfl) rfl ?_)
  refine (c87 p0.rods p0v3a p0v3n p0v3c m63 w59 hm63 B64).mono ?_
  rintro _ w69 ⟨q69_0a, q69_0n, q69_0c, rfl, q69_0R, q69_0F, E69⟩
  refine ⟨_, rfl, ?_⟩
  have own70 : ∀ k, (Value.slice q69_0a q69_0n q69_0c).ownBlock = some k → w.heap.size ≤ k := fun k hk => Nat.le_trans X60.size (q69_0F k hk)
  have sp71 : ¬ (Value.slice q69_0a q69_0n q69_0c).ownBlock = some w.heap.size := ne_fresh q69_0F (lt_heap B62)
  have sp72 : ¬ (Value.slice q69_0a q69_0n q69_0c).ownBlock = some w1.heap.size := ne_fresh q69_0F (lt_heap B65)
  have sp73 : ¬ (Value.slice q69_0a q69_0n q69_0c).ownBlock = some w4.heap.size := ne_fresh q69_0F (lt_heap B61)
  have sp74 : ∀ k, (Value.slice q18_0a q18_0n q18_0c).ownBlock = some k → ¬ (Value.slice q69_0a q69_0n q69_0c).ownBlock = some k := apart_fresh B66 q69_0F
  have sp75 : ∀ k, (Value.slice q33_0a q33_0n q33_0c).ownBlock = some k → ¬ (Value.slice q69_0a q69_0n q69_0c).ownBlock = some k := apart_fresh B67 q69_0F
  have sp76 : ∀ k, (Value.slice q50_0a q50_0n q50_0c).ownBlock = some k → ¬ (Value.slice q69_0a q69_0n q69_0c).ownBlock = some k := apart_fresh B68 q69_0F
  have X77 : Ext w w69 := X60.trans E69
  refine da_op rfl (d_fieldAddr rfl (fa69_3 _ _) ?_)
  have B78 : w69.heap[w4.heap.size]? = some (.cells #[(Value.slice q18_0a q18_0n q18_0c), (Value.slice q33_0a q33_0n q33_0c), (Value.slice q50_0a q50_0n q50_0c), .slice none 0 0] 69 (0, 0)) := E69.heap B61
  refine da_op rfl (d_store (vs := #[(Value.slice q69_0a q69_0n q69_0c)]) rfl rfl B78 size67 (Nat.le_of_ble_eq_true rfl) rfl fun w79 S79 => ?_)
  have X80 : Ext w w79 := Ext.step X77 S79.frmb (fun k _ hk => hk ▸ own10)
  have B81 : w79.heap[w4.heap.size]? = some (.cells #[(Value.slice q18_0a q18_0n q18_0c), (Value.slice q33_0a q33_0n q33_0c), (Value.slice q50_0a q50_0n q50_0c), (Value.slice q69_0a q69_0n q69_0c)] 69 (0, 0)) := S79.here
  refine da_nil ?_
  refine W_seq ?_
  refine W_region rfl ?_
  refine da_op rfl (d_loads (vs := #[(Value.slice q18_0a q18_0n q18_0c), (Value.slice q33_0a q33_0n q33_0c), (Value.slice q50_0a q50_0n q50_0c), (Value.slice q69_0a q69_0n q69_0c)]) rfl agg69 size69 B81 rfl ?_)
  have B82 : w79.heap[w1.heap.size]? = some (.cells #[.slice none 0 0, .slice none 0 0, .slice none 0 0, .slice none 0 0] 69 (0, 0)) := S79.frmb.heap sp12 (E69.heap B65)
  refine da_op rfl (d_store (vs := #[(Value.slice q18_0a q18_0n q18_0c), (Value.slice q33_0a q33_0n q33_0c), (Value.slice q50_0a q50_0n q50_0c), (Value.slice q69_0a q69_0n q69_0c)]) rfl rfl B82 size69 (Nat.le_of_ble_eq_true rfl) rfl fun w83 S83 => ?_)
  have X84 : Ext w w83 := Ext.step X80 S83.frmb (fun k _ hk => hk ▸ own5)
  have B85 : w83.heap[w1.heap.size]? = some (.cells #[(Value.slice q18_0a q18_0n q18_0c), (Value.slice q33_0a q33_0n q33_0c), (Value.slice q50_0a q50_0n q50_0c), (Value.slice q69_0a q69_0n q69_0c)] 69 (0, 0)) := S83.here
  refine da_nil ?_
  refine W_ret ?_
  have B86 : OS w83 44 encSVector (Value.slice q18_0a q18_0n q18_0c) m15 := ((B66.ext E69).frm S79.frmb (rb sp22)).frm S83.frmb (rb sp21)
  have B87 : OS w83 44 encSVector (Value.slice q33_0a q33_0n q33_0c) m29 := ((B67.ext E69).frm S79.frmb (rb sp37)).frm S83.frmb (rb sp36)
  have B88 : OS w83 22 encF_f32 (Value.slice q50_0a q50_0n q50_0c) m45 := ((B68.ext E69).frm S79.frmb (rb sp54)).frm S83.frmb (rb sp53)
  have B89 : OS w83 136 encSRod (Value.slice q69_0a q69_0n q69_0c) m63 := (q69_0R.frm S79.frmb (rb sp73)).frm S83.frmb (rb sp72)
  obtain rfl := Option.some.inj hr
  refine ⟨_, res1 (rv_cells (vs := #[(Value.slice q18_0a q18_0n q18_0c), (Value.slice q33_0a q33_0n q33_0c), (Value.slice q50_0a q50_0n q50_0c), (Value.slice q69_0a q69_0n q69_0c)]) rfl agg69 size69 B85 rfl), ?_⟩
  exact ⟨q18_0a, q18_0n, q18_0c, q33_0a, q33_0n, q33_0c, q50_0a, q50_0n, q50_0c, q69_0a, q69_0n, q69_0c, rfl, B86, own19, B87, own34, B88, own51, B89, own70, sp38, sp55, sp56, sp74, sp75, sp76, X84⟩
set_option maxHeartbeats 4000000 in
theorem c164 (p0 : Nat) (p0r : Nat) (r : Bool) (w : World) (hr : M.spec_l01Finite p0 = r) (p0h : cn .f32 p0r = p0) :
    Calls Tryd.prog 164 #[.float .f32 p0r] w fun e w' => e = .returned (.bool r) ∧ Ext w w' := by
  refine calls_of_W Tryd.func164 rfl (Nat.le_of_ble_eq_true rfl) ?_
  refine W_seq ?_
  refine W_region rfl ?_
  refine da_op rfl (d_as (v := .bool false) rfl ?_)
  refine da_nil ?_
  refine W_seq ?_
  refine W_region rfl ?_
  refine da_op rfl (d_mv (v := .float .f32 p0r) rfl ?_)
  refine da_op rfl (d_mv (v := .float .f32 p0r) rfl ?_)
  refine da_op rfl (d_fop (k := .f32) fSub rfl rfl p0h p0h fun r1 w1 h1 _ E1 => ?_)
  have X2 : Ext w w1 := (Ext.refl w).trans E1
  refine da_op rfl (d_fcmp (k := .f32) cEql rfl rfl h1 cn_f32_0 ?_)
  refine da_op rfl (d_as (v := .bool (fcmp .eql .f32 (fop .sub .f32 p0 p0) 0)) rfl ?_)
  refine da_nil ?_
  refine W_ret ?_
  subst hr
  refine ⟨_, res1 (rv_tmp rfl), ?_⟩
  exact ⟨rfl, X2⟩
set_option maxHeartbeats 4000000 in
theorem c132 (p0 : SVector) (p0r0 : Nat) (p0r1 : Nat) (p0r2 : Nat) (r : Bool) (w : World) (hr : M.spec_l01VFinite p0 = r) (p0h0 : cn .f32 p0r0 = p0.x) (p0h1 : cn .f32 p0r1 = p0.y) (p0h2 : cn .f32 p0r2 = p0.z) :
    Calls Tryd.prog 132 #[.agg #[.float .f32 p0r0, .float .f32 p0r1, .float .f32 p0r2]] w fun e w' => e = .returned (.bool r) ∧ Ext w w' := by
  refine calls_of_W Tryd.func132 rfl (Nat.le_of_ble_eq_true rfl) ?_
  refine W_seq ?_
  refine W_region rfl ?_
  refine da_op rfl (d_box (cs := #[.float .f32 p0r0, .float .f32 p0r1, .float .f32 p0r2]) rfl fun w1 B1 E1 => ?_)
  have own2 : w.heap.size ≤ w.heap.size := Nat.le_trans (Ext.refl w).size (Nat.le_refl _)
  have X3 : Ext w w1 := (Ext.refl w).trans E1
  refine da_op rfl (d_as (v := .bool false) rfl ?_)
  refine da_nil ?_
  refine W_seq ?_
  obtain ⟨m4, hm4, hr⟩ := letv_out hr
  refine W_cut (fun σ' w' => σ' 2 = .bool m4 ∧ Ext w1 w') rfl ?_ ?_
  · skip
    have hr := hm4
    refine da_op rfl (d_fieldAddr rfl (fa44_0 _ _) ?_)
    refine da_op rfl (d_load (v := .float .f32 p0r0) rfl agg22 B1 rfl ?_)
    obtain ⟨m5, hm5, hr⟩ := letv_out hr
    refine da_op rfl (d_cl (vs := [.float .f32 p0r0]) en164 (ac rfl rfl) rfl ?_)
    refine (c164 p0.x p0r0 m5 w1 hm5 p0h0).mono ?_
    rintro _ w6 ⟨rfl, E6⟩
    refine ⟨_, rfl, ?_⟩
    have X7 : Ext w w6 := X3.trans E6
    refine da_op rfl (d_mv (v := .bool m5) rfl ?_)
    rcases Bool.eq_false_or_eq_true m5 with hc8 | hc8
    · skip
      replace hr := bif_t hr hc8
      refine da_on rfl (Eq.trans (show sl _ _ _ = .bool m5 from rfl) (congrArg Value.bool hc8)) (d_fieldAddr rfl (fa44_1 _ _) ?_)
      have B9 : w6.heap[w.heap.size]? = some (.cells #[.float .f32 p0r0, .float .f32 p0r1, .float .f32 p0r2] 44 (0, 0)) := E6.heap B1
      refine da_on rfl (Eq.trans (show sl _ _ _ = .bool m5 from rfl) (congrArg Value.bool hc8)) (d_load (v := .float .f32 p0r1) rfl agg22 B9 rfl ?_)
      obtain ⟨m10, hm10, hr⟩ := letv_out hr
      refine da_on rfl (Eq.trans (show sl _ _ _ = .bool m5 from rfl) (congrArg Value.bool hc8)) (d_cl (vs := [.float .f32 p0r1]) en164 (ac rfl rfl) rfl ?_)
      refine (c164 p0.y p0r1 m10 w6 hm10 p0h1).mono ?_
      rintro _ w11 ⟨rfl, E11⟩
      refine ⟨_, rfl, ?_⟩
      have X12 : Ext w w11 := X7.trans E11
      refine da_op rfl (d_pick (b := true) (Eq.trans (show ev _ _ = .bool m5 from rfl) (congrArg Value.bool hc8)) ?_)
      refine da_op rfl (d_mv (v := .bool m10) rfl ?_)
      rcases Bool.eq_false_or_eq_true m10 with hc13 | hc13
      · skip
        replace hr := bif_t hr hc13
        refine da_on rfl (Eq.trans (show sl _ _ _ = .bool m10 from rfl) (congrArg Value.bool hc13)) (d_fieldAddr rfl (fa44_2 _ _) ?_)
        have B14 : w11.heap[w.heap.size]? = some (.cells #[.float .f32 p0r0, .float .f32 p0r1, .float .f32 p0r2] 44 (0, 0)) := E11.heap B9
        refine da_on rfl (Eq.trans (show sl _ _ _ = .bool m10 from rfl) (congrArg Value.bool hc13)) (d_load (v := .float .f32 p0r2) rfl agg22 B14 rfl ?_)
        obtain ⟨m15, hm15, hr⟩ := letv_out hr
        refine da_on rfl (Eq.trans (show sl _ _ _ = .bool m10 from rfl) (congrArg Value.bool hc13)) (d_cl (vs := [.float .f32 p0r2]) en164 (ac rfl rfl) rfl ?_)
        refine (c164 p0.z p0r2 m15 w11 hm15 p0h2).mono ?_
        rintro _ w16 ⟨rfl, E16⟩
        refine ⟨_, rfl, ?_⟩
        have X17 : Ext w w16 := X12.trans E16
        refine da_op rfl (d_pick (b := true) (Eq.trans (show ev _ _ = .bool m10 from rfl) (congrArg Value.bool hc13)) ?_)
        refine da_op rfl (d_as (v := .bool m15) rfl ?_)
        refine da_nil ?_
        subst hr
        exact ⟨rfl, (Ext.trans (Ext.trans (Ext.trans (Ext.refl w1) E6) E11) E16)⟩
      · skip
        replace hr := bif_f hr hc13
        refine da_off rfl (Eq.trans (show sl _ _ _ = .bool m10 from rfl) (congrArg Value.bool hc13)) (by decide) ?_
        refine da_off rfl (Eq.trans (show sl _ _ _ = .bool m10 from rfl) (congrArg Value.bool hc13)) (by decide) ?_
        refine da_off rfl (Eq.trans (show sl _ _ _ = .bool m10 from rfl) (congrArg Value.bool hc13)) (by decide) ?_
        refine da_op rfl (d_pick (b := false) (Eq.trans (show ev _ _ = .bool m10 from rfl) (congrArg Value.bool hc13)) ?_)
        refine da_op rfl (d_as (v := .bool false) rfl ?_)
        refine da_nil ?_
        subst hr
        exact ⟨rfl, (Ext.trans (Ext.trans (Ext.refl w1) E6) E11)⟩
    · skip
      replace hr := bif_f hr hc8
      refine da_off rfl (Eq.trans (show sl _ _ _ = .bool m5 from rfl) (congrArg Value.bool hc8)) (by decide) ?_
      refine da_off rfl (Eq.trans (show sl _ _ _ = .bool m5 from rfl) (congrArg Value.bool hc8)) (by decide) ?_
      refine da_off rfl (Eq.trans (show sl _ _ _ = .bool m5 from rfl) (congrArg Value.bool hc8)) (by decide) ?_
      refine da_op rfl (d_pick (b := false) (Eq.trans (show ev _ _ = .bool m5 from rfl) (congrArg Value.bool hc8)) ?_)
      refine da_op rfl (d_mv (v := .bool false) rfl ?_)
      refine da_off rfl rfl (by decide) ?_
      refine da_off rfl rfl (by decide) ?_
      refine da_off rfl rfl (by decide) ?_
      refine da_op rfl (d_pick (b := false) rfl ?_)
      refine da_op rfl (d_as (v := .bool false) rfl ?_)
      refine da_nil ?_
      subst hr
      exact ⟨rfl, (Ext.trans (Ext.refl w1) E6)⟩
  · skip
    rintro σ4 w4 o4 ⟨s2_4, E4⟩
    have X18 : Ext w w4 := X3.trans E4
    refine W_ret ?_
    subst hr
    refine ⟨_, res1 (rv_tmp s2_4), ?_⟩
    exact ⟨rfl, X18⟩
set_option maxHeartbeats 4000000 in
theorem c133 (p0 : Nat) (p0r : Nat) (r : Bool) (w : World) (hr : M.spec_l03Least p0 = r) (p0h : cn .f32 p0r = p0) :
    Calls Tryd.prog 133 #[.float .f32 p0r] w fun e w' => e = .returned (.bool r) ∧ Ext w w' := by
  refine calls_of_W Tryd.func133 rfl (Nat.le_of_ble_eq_true rfl) ?_
  refine W_seq ?_
  refine W_region rfl ?_
  refine da_op rfl (d_as (v := .bool false) rfl ?_)
  refine da_nil ?_
  refine W_seq ?_
  obtain ⟨m1, hm1, hr⟩ := letv_out hr
  refine W_cut (fun σ' w' => σ' 2 = .bool m1 ∧ Ext w w') rfl ?_ ?_
  · skip
    have hr := hm1
    refine da_op rfl (d_mv (v := .float .f32 p0r) rfl ?_)
    obtain ⟨m2, hm2, hr⟩ := letv_out hr
    refine da_op rfl (d_cl (vs := [.float .f32 p0r]) en164 (ac rfl rfl) rfl ?_)
    refine (c164 p0 p0r m2 w hm2 p0h).mono ?_
    rintro _ w3 ⟨rfl, E3⟩
    refine ⟨_, rfl, ?_⟩
    have X4 : Ext w w3 := (Ext.refl w).trans E3
    refine da_op rfl (d_mv (v := .bool m2) rfl ?_)
    rcases Bool.eq_false_or_eq_true m2 with hc5 | hc5
    · skip
      replace hr := bif_t hr hc5
      refine da_on rfl (Eq.trans (show sl _ _ _ = .bool m2 from rfl) (congrArg Value.bool hc5)) (d_mv (v := .float .f32 p0r) rfl ?_)
      refine da_on rfl (Eq.trans (show sl _ _ _ = .bool m2 from rfl) (congrArg Value.bool hc5)) (d_fcmp (k := .f32) cGeq rfl rfl p0h cn_f32_0 ?_)
      refine da_op rfl (d_pick (b := true) (Eq.trans (show ev _ _ = .bool m2 from rfl) (congrArg Value.bool hc5)) ?_)
      refine da_op rfl (d_as (v := .bool (fcmp .geq .f32 p0 0)) rfl ?_)
      refine da_nil ?_
      subst hr
      exact ⟨rfl, (Ext.trans (Ext.refl w) E3)⟩
    · skip
      replace hr := bif_f hr hc5
      refine da_off rfl (Eq.trans (show sl _ _ _ = .bool m2 from rfl) (congrArg Value.bool hc5)) (by decide) ?_
      refine da_off rfl (Eq.trans (show sl _ _ _ = .bool m2 from rfl) (congrArg Value.bool hc5)) (by decide) ?_
      refine da_op rfl (d_pick (b := false) (Eq.trans (show ev _ _ = .bool m2 from rfl) (congrArg Value.bool hc5)) ?_)
      refine da_op rfl (d_as (v := .bool false) rfl ?_)
      refine da_nil ?_
      subst hr
      exact ⟨rfl, (Ext.trans (Ext.refl w) E3)⟩
  · skip
    rintro σ1 w1 o1 ⟨s2_1, E1⟩
    have X6 : Ext w w1 := (Ext.refl w).trans E1
    refine W_ret ?_
    subst hr
    refine ⟨_, res1 (rv_tmp s2_1), ?_⟩
    exact ⟨rfl, X6⟩
set_option maxHeartbeats 4000000 in
theorem c134 (p0 : Int) (p1 : Int) (p2 : Int) (r : Bool) (w : World) (hr : M.spec_l00In p0 p1 p2 = r)  :
    Calls Tryd.prog 134 #[.int .i64 p0, .int .i64 p1, .int .i64 p2] w fun e w' => e = .returned (.bool r) ∧ Ext w w' := by
  refine calls_of_W Tryd.func134 rfl (Nat.le_of_ble_eq_true rfl) ?_
  refine W_seq ?_
  refine W_region rfl ?_
  refine da_op rfl (d_as (v := .bool false) rfl ?_)
  refine da_nil ?_
  refine W_seq ?_
  obtain ⟨m1, hm1, hr⟩ := letv_out hr
  refine W_cut (fun σ' w' => σ' 6 = .bool m1 ∧ Ext w w') rfl ?_ ?_
  · skip
    have hr := hm1
    refine da_op rfl (d_mv (v := .int .i64 p0) rfl ?_)
    refine da_op rfl (d_mv (v := .int .i64 p1) rfl ?_)
    refine da_op rfl (d_icmp cGeq rfl rfl ?_)
    refine da_op rfl (d_mv (v := .bool (icmp .geq p0 p1)) rfl ?_)
    rcases Bool.eq_false_or_eq_true (icmp .geq p0 p1) with hc2 | hc2
    · skip
      replace hr := bif_t hr hc2
      refine da_on rfl (Eq.trans (show sl _ _ _ = .bool (icmp .geq p0 p1) from rfl) (congrArg Value.bool hc2)) (d_mv (v := .int .i64 p0) rfl ?_)
      refine da_on rfl (Eq.trans (show sl _ _ _ = .bool (icmp .geq p0 p1) from rfl) (congrArg Value.bool hc2)) (d_mv (v := .int .i64 p2) rfl ?_)
      refine da_on rfl (Eq.trans (show sl _ _ _ = .bool (icmp .geq p0 p1) from rfl) (congrArg Value.bool hc2)) (d_icmp cLeq rfl rfl ?_)
      refine da_op rfl (d_pick (b := true) (Eq.trans (show ev _ _ = .bool (icmp .geq p0 p1) from rfl) (congrArg Value.bool hc2)) ?_)
      refine da_op rfl (d_as (v := .bool (icmp .leq p0 p2)) rfl ?_)
      refine da_nil ?_
      subst hr
      exact ⟨rfl, (Ext.refl w)⟩
    · skip
      replace hr := bif_f hr hc2
      refine da_off rfl (Eq.trans (show sl _ _ _ = .bool (icmp .geq p0 p1) from rfl) (congrArg Value.bool hc2)) (by decide) ?_
      refine da_off rfl (Eq.trans (show sl _ _ _ = .bool (icmp .geq p0 p1) from rfl) (congrArg Value.bool hc2)) (by decide) ?_
      refine da_off rfl (Eq.trans (show sl _ _ _ = .bool (icmp .geq p0 p1) from rfl) (congrArg Value.bool hc2)) (by decide) ?_
      refine da_op rfl (d_pick (b := false) (Eq.trans (show ev _ _ = .bool (icmp .geq p0 p1) from rfl) (congrArg Value.bool hc2)) ?_)
      refine da_op rfl (d_as (v := .bool false) rfl ?_)
      refine da_nil ?_
      subst hr
      exact ⟨rfl, (Ext.refl w)⟩
  · skip
    rintro σ1 w1 o1 ⟨s6_1, E1⟩
    have X3 : Ext w w1 := (Ext.refl w).trans E1
    refine W_ret ?_
    subst hr
    refine ⟨_, res1 (rv_tmp s6_1), ?_⟩
    exact ⟨rfl, X3⟩
set_option maxHeartbeats 4000000 in
theorem c83 (p0 : SChain) (p0b p0o : Nat) (p0c : Array Value) (p0T : TypeId) (p0f : Nat × Nat) (p0v0a : Option Addr) (p0v0n : Nat) (p0v0c : Nat) (p0v1a : Option Addr) (p0v1n : Nat) (p0v1c : Nat) (p0v2a : Option Addr) (p0v2n : Nat) (p0v2c : Nat) (p0v3a : Option Addr) (p0v3n : Nat) (p0v3c : Nat) (r : Bool) (w : World) (hr : M.spec_l03Is p0 = some r) (p0v0R : RS w encSVector (Value.slice p0v0a p0v0n p0v0c) p0.places) (p0v1R : RS w encSVector (Value.slice p0v1a p0v1n p0v1c) p0.before) (p0v2R : RS w encF_f32 (Value.slice p0v2a p0v2n p0v2c) p0.weights) (p0v3R : RS w encSRod (Value.slice p0v3a p0v3n p0v3c) p0.rods) (p0B : w.heap[p0b]? = some (.cells p0c p0T p0f)) (p0P : (p0c.toList.drop p0o).take 4 = [(Value.slice p0v0a p0v0n p0v0c), (Value.slice p0v1a p0v1n p0v1c), (Value.slice p0v2a p0v2n p0v2c), (Value.slice p0v3a p0v3n p0v3c)]) :
    Calls Tryd.prog 83 #[.pointer (some ⟨p0b, p0o, none⟩)] w fun e w' => e = .returned (.bool r) ∧ Ext w w' := by
  refine calls_of_W Tryd.func83 rfl (Nat.le_of_ble_eq_true rfl) ?_
  refine W_seq ?_
  refine W_region rfl ?_
  refine da_op rfl (d_as (v := .bool false) rfl ?_)
  refine da_nil ?_
  refine W_seq ?_
  refine W_region rfl ?_
  refine da_op rfl (d_mv (v := .pointer (some ⟨p0b, p0o, none⟩)) rfl ?_)
  refine da_op rfl (d_nil rfl ?_)
  refine da_op rfl (d_fieldAddr rfl (fa69_0 _ _) ?_)
  refine da_op rfl (d_load (v := (Value.slice p0v0a p0v0n p0v0c)) rfl agg66 p0B (sub_get (vs := #[(Value.slice p0v0a p0v0n p0v0c), (Value.slice p0v1a p0v1n p0v1c), (Value.slice p0v2a p0v2n p0v2c), (Value.slice p0v3a p0v3n p0v3c)]) p0P (i := 0) rfl) ?_)
  refine da_op rfl (d_len (e := encSVector) un66 rfl p0v0R ?_)
  refine da_op rfl (d_as (v := .int .i64 ((p0.places).length : Int)) rfl ?_)
  refine da_nil ?_
  refine W_seq ?_
  refine W_seq ?_
  obtain ⟨m1, hm1, hr⟩ := letv_out hr
  refine W_cut (fun σ' w' => σ' 39 = .bool m1 ∧ Ext w w') rfl ?_ ?_
  · skip
    have hr := hm1
    refine da_op rfl (d_mv (v := .int .i64 ((p0.places).length : Int)) rfl ?_)
    refine da_op rfl (d_icmp cGtr rfl rfl ?_)
    refine da_op rfl (d_mv (v := .bool (icmp .gtr ((p0.places).length : Int) 24)) rfl ?_)
    rcases Bool.eq_false_or_eq_true (icmp .gtr ((p0.places).length : Int) 24) with hc2 | hc2
    · skip
      replace hr := bif_t hr hc2
      refine da_off rfl (Eq.trans (show sl _ _ _ = .bool (icmp .gtr ((p0.places).length : Int) 24) from rfl) (congrArg Value.bool hc2)) (by decide) ?_
      refine da_off rfl (Eq.trans (show sl _ _ _ = .bool (icmp .gtr ((p0.places).length : Int) 24) from rfl) (congrArg Value.bool hc2)) (by decide) ?_
      refine da_off rfl (Eq.trans (show sl _ _ _ = .bool (icmp .gtr ((p0.places).length : Int) 24) from rfl) (congrArg Value.bool hc2)) (by decide) ?_
      refine da_off rfl (Eq.trans (show sl _ _ _ = .bool (icmp .gtr ((p0.places).length : Int) 24) from rfl) (congrArg Value.bool hc2)) (by decide) ?_
      refine da_off rfl (Eq.trans (show sl _ _ _ = .bool (icmp .gtr ((p0.places).length : Int) 24) from rfl) (congrArg Value.bool hc2)) (by decide) ?_
      refine da_off rfl (Eq.trans (show sl _ _ _ = .bool (icmp .gtr ((p0.places).length : Int) 24) from rfl) (congrArg Value.bool hc2)) (by decide) ?_
      refine da_off rfl (Eq.trans (show sl _ _ _ = .bool (icmp .gtr ((p0.places).length : Int) 24) from rfl) (congrArg Value.bool hc2)) (by decide) ?_
      refine da_op rfl (d_pick (b := true) (Eq.trans (show ev _ _ = .bool (icmp .gtr ((p0.places).length : Int) 24) from rfl) (congrArg Value.bool hc2)) ?_)
      refine da_op rfl (d_mv (v := .bool true) rfl ?_)
      refine da_off rfl rfl (by decide) ?_
      refine da_off rfl rfl (by decide) ?_
      refine da_off rfl rfl (by decide) ?_
      refine da_off rfl rfl (by decide) ?_
      refine da_off rfl rfl (by decide) ?_
      refine da_off rfl rfl (by decide) ?_
      refine da_off rfl rfl (by decide) ?_
      refine da_op rfl (d_pick (b := true) rfl ?_)
      refine da_op rfl (d_mv (v := .bool true) rfl ?_)
      refine da_off rfl rfl (by decide) ?_
      refine da_off rfl rfl (by decide) ?_
      refine da_off rfl rfl (by decide) ?_
      refine da_off rfl rfl (by decide) ?_
      refine da_off rfl rfl (by decide) ?_
      refine da_off rfl rfl (by decide) ?_
      refine da_op rfl (d_pick (b := true) rfl ?_)
      refine da_nil ?_
      subst hr
      exact ⟨rfl, (Ext.refl w)⟩
    · skip
      replace hr := bif_f hr hc2
      refine da_on rfl (Eq.trans (show sl _ _ _ = .bool (icmp .gtr ((p0.places).length : Int) 24) from rfl) (congrArg Value.bool hc2)) (d_mv (v := .pointer (some ⟨p0b, p0o, none⟩)) rfl ?_)
      refine da_on rfl (Eq.trans (show sl _ _ _ = .bool (icmp .gtr ((p0.places).length : Int) 24) from rfl) (congrArg Value.bool hc2)) (d_nil rfl ?_)
      refine da_on rfl (Eq.trans (show sl _ _ _ = .bool (icmp .gtr ((p0.places).length : Int) 24) from rfl) (congrArg Value.bool hc2)) (d_fieldAddr rfl (fa69_1 _ _) ?_)
      refine da_on rfl (Eq.trans (show sl _ _ _ = .bool (icmp .gtr ((p0.places).length : Int) 24) from rfl) (congrArg Value.bool hc2)) (d_load (v := (Value.slice p0v1a p0v1n p0v1c)) rfl agg66 p0B (sub_get (vs := #[(Value.slice p0v0a p0v0n p0v0c), (Value.slice p0v1a p0v1n p0v1c), (Value.slice p0v2a p0v2n p0v2c), (Value.slice p0v3a p0v3n p0v3c)]) p0P (i := 1) rfl) ?_)
      refine da_on rfl (Eq.trans (show sl _ _ _ = .bool (icmp .gtr ((p0.places).length : Int) 24) from rfl) (congrArg Value.bool hc2)) (d_len (e := encSVector) un66 rfl p0v1R ?_)
      refine da_on rfl (Eq.trans (show sl _ _ _ = .bool (icmp .gtr ((p0.places).length : Int) 24) from rfl) (congrArg Value.bool hc2)) (d_mv (v := .int .i64 ((p0.places).length : Int)) rfl ?_)
      refine da_on rfl (Eq.trans (show sl _ _ _ = .bool (icmp .gtr ((p0.places).length : Int) 24) from rfl) (congrArg Value.bool hc2)) (d_icmp cNeq rfl rfl ?_)
      refine da_op rfl (d_pick (b := false) (Eq.trans (show ev _ _ = .bool (icmp .gtr ((p0.places).length : Int) 24) from rfl) (congrArg Value.bool hc2)) ?_)
      refine da_op rfl (d_mv (v := .bool (icmp .neq ((p0.before).length : Int) ((p0.places).length : Int))) rfl ?_)
      rcases Bool.eq_false_or_eq_true (icmp .neq ((p0.before).length : Int) ((p0.places).length : Int)) with hc3 | hc3
      · skip
        replace hr := bif_t hr hc3
        refine da_off rfl (Eq.trans (show sl _ _ _ = .bool (icmp .neq ((p0.before).length : Int) ((p0.places).length : Int)) from rfl) (congrArg Value.bool hc3)) (by decide) ?_
        refine da_off rfl (Eq.trans (show sl _ _ _ = .bool (icmp .neq ((p0.before).length : Int) ((p0.places).length : Int)) from rfl) (congrArg Value.bool hc3)) (by decide) ?_
        refine da_off rfl (Eq.trans (show sl _ _ _ = .bool (icmp .neq ((p0.before).length : Int) ((p0.places).length : Int)) from rfl) (congrArg Value.bool hc3)) (by decide) ?_
        refine da_off rfl (Eq.trans (show sl _ _ _ = .bool (icmp .neq ((p0.before).length : Int) ((p0.places).length : Int)) from rfl) (congrArg Value.bool hc3)) (by decide) ?_
        refine da_off rfl (Eq.trans (show sl _ _ _ = .bool (icmp .neq ((p0.before).length : Int) ((p0.places).length : Int)) from rfl) (congrArg Value.bool hc3)) (by decide) ?_
        refine da_off rfl (Eq.trans (show sl _ _ _ = .bool (icmp .neq ((p0.before).length : Int) ((p0.places).length : Int)) from rfl) (congrArg Value.bool hc3)) (by decide) ?_
        refine da_off rfl (Eq.trans (show sl _ _ _ = .bool (icmp .neq ((p0.before).length : Int) ((p0.places).length : Int)) from rfl) (congrArg Value.bool hc3)) (by decide) ?_
        refine da_op rfl (d_pick (b := true) (Eq.trans (show ev _ _ = .bool (icmp .neq ((p0.before).length : Int) ((p0.places).length : Int)) from rfl) (congrArg Value.bool hc3)) ?_)
        refine da_op rfl (d_mv (v := .bool true) rfl ?_)
        refine da_off rfl rfl (by decide) ?_
        refine da_off rfl rfl (by decide) ?_
        refine da_off rfl rfl (by decide) ?_
        refine da_off rfl rfl (by decide) ?_
        refine da_off rfl rfl (by decide) ?_
        refine da_off rfl rfl (by decide) ?_
        refine da_op rfl (d_pick (b := true) rfl ?_)
        refine da_nil ?_
        subst hr
        exact ⟨rfl, (Ext.refl w)⟩
      · skip
        replace hr := bif_f hr hc3
        refine da_on rfl (Eq.trans (show sl _ _ _ = .bool (icmp .neq ((p0.before).length : Int) ((p0.places).length : Int)) from rfl) (congrArg Value.bool hc3)) (d_mv (v := .pointer (some ⟨p0b, p0o, none⟩)) rfl ?_)
        refine da_on rfl (Eq.trans (show sl _ _ _ = .bool (icmp .neq ((p0.before).length : Int) ((p0.places).length : Int)) from rfl) (congrArg Value.bool hc3)) (d_nil rfl ?_)
        refine da_on rfl (Eq.trans (show sl _ _ _ = .bool (icmp .neq ((p0.before).length : Int) ((p0.places).length : Int)) from rfl) (congrArg Value.bool hc3)) (d_fieldAddr rfl (fa69_2 _ _) ?_)
        refine da_on rfl (Eq.trans (show sl _ _ _ = .bool (icmp .neq ((p0.before).length : Int) ((p0.places).length : Int)) from rfl) (congrArg Value.bool hc3)) (d_load (v := (Value.slice p0v2a p0v2n p0v2c)) rfl agg53 p0B (sub_get (vs := #[(Value.slice p0v0a p0v0n p0v0c), (Value.slice p0v1a p0v1n p0v1c), (Value.slice p0v2a p0v2n p0v2c), (Value.slice p0v3a p0v3n p0v3c)]) p0P (i := 2) rfl) ?_)
        refine da_on rfl (Eq.trans (show sl _ _ _ = .bool (icmp .neq ((p0.before).length : Int) ((p0.places).length : Int)) from rfl) (congrArg Value.bool hc3)) (d_len (e := encF_f32) un53 rfl p0v2R ?_)
        refine da_on rfl (Eq.trans (show sl _ _ _ = .bool (icmp .neq ((p0.before).length : Int) ((p0.places).length : Int)) from rfl) (congrArg Value.bool hc3)) (d_mv (v := .int .i64 ((p0.places).length : Int)) rfl ?_)
        refine da_on rfl (Eq.trans (show sl _ _ _ = .bool (icmp .neq ((p0.before).length : Int) ((p0.places).length : Int)) from rfl) (congrArg Value.bool hc3)) (d_icmp cNeq rfl rfl ?_)
        refine da_op rfl (d_pick (b := false) (Eq.trans (show ev _ _ = .bool (icmp .neq ((p0.before).length : Int) ((p0.places).length : Int)) from rfl) (congrArg Value.bool hc3)) ?_)
        refine da_op rfl (d_mv (v := .bool (icmp .neq ((p0.weights).length : Int) ((p0.places).length : Int))) rfl ?_)
        rcases Bool.eq_false_or_eq_true (icmp .neq ((p0.weights).length : Int) ((p0.places).length : Int)) with hc4 | hc4
        · skip
          replace hr := bif_t hr hc4
          refine da_off rfl (Eq.trans (show sl _ _ _ = .bool (icmp .neq ((p0.weights).length : Int) ((p0.places).length : Int)) from rfl) (congrArg Value.bool hc4)) (by decide) ?_
          refine da_off rfl (Eq.trans (show sl _ _ _ = .bool (icmp .neq ((p0.weights).length : Int) ((p0.places).length : Int)) from rfl) (congrArg Value.bool hc4)) (by decide) ?_
          refine da_off rfl (Eq.trans (show sl _ _ _ = .bool (icmp .neq ((p0.weights).length : Int) ((p0.places).length : Int)) from rfl) (congrArg Value.bool hc4)) (by decide) ?_
          refine da_off rfl (Eq.trans (show sl _ _ _ = .bool (icmp .neq ((p0.weights).length : Int) ((p0.places).length : Int)) from rfl) (congrArg Value.bool hc4)) (by decide) ?_
          refine da_off rfl (Eq.trans (show sl _ _ _ = .bool (icmp .neq ((p0.weights).length : Int) ((p0.places).length : Int)) from rfl) (congrArg Value.bool hc4)) (by decide) ?_
          refine da_off rfl (Eq.trans (show sl _ _ _ = .bool (icmp .neq ((p0.weights).length : Int) ((p0.places).length : Int)) from rfl) (congrArg Value.bool hc4)) (by decide) ?_
          refine da_op rfl (d_pick (b := true) (Eq.trans (show ev _ _ = .bool (icmp .neq ((p0.weights).length : Int) ((p0.places).length : Int)) from rfl) (congrArg Value.bool hc4)) ?_)
          refine da_nil ?_
          subst hr
          exact ⟨rfl, (Ext.refl w)⟩
        · skip
          replace hr := bif_f hr hc4
          refine da_on rfl (Eq.trans (show sl _ _ _ = .bool (icmp .neq ((p0.weights).length : Int) ((p0.places).length : Int)) from rfl) (congrArg Value.bool hc4)) (d_mv (v := .pointer (some ⟨p0b, p0o, none⟩)) rfl ?_)
          refine da_on rfl (Eq.trans (show sl _ _ _ = .bool (icmp .neq ((p0.weights).length : Int) ((p0.places).length : Int)) from rfl) (congrArg Value.bool hc4)) (d_nil rfl ?_)
          refine da_on rfl (Eq.trans (show sl _ _ _ = .bool (icmp .neq ((p0.weights).length : Int) ((p0.places).length : Int)) from rfl) (congrArg Value.bool hc4)) (d_fieldAddr rfl (fa69_3 _ _) ?_)
          refine da_on rfl (Eq.trans (show sl _ _ _ = .bool (icmp .neq ((p0.weights).length : Int) ((p0.places).length : Int)) from rfl) (congrArg Value.bool hc4)) (d_load (v := (Value.slice p0v3a p0v3n p0v3c)) rfl agg67 p0B (sub_get (vs := #[(Value.slice p0v0a p0v0n p0v0c), (Value.slice p0v1a p0v1n p0v1c), (Value.slice p0v2a p0v2n p0v2c), (Value.slice p0v3a p0v3n p0v3c)]) p0P (i := 3) rfl) ?_)
          refine da_on rfl (Eq.trans (show sl _ _ _ = .bool (icmp .neq ((p0.weights).length : Int) ((p0.places).length : Int)) from rfl) (congrArg Value.bool hc4)) (d_len (e := encSRod) un67 rfl p0v3R ?_)
          refine da_on rfl (Eq.trans (show sl _ _ _ = .bool (icmp .neq ((p0.weights).length : Int) ((p0.places).length : Int)) from rfl) (congrArg Value.bool hc4)) (d_icmp cGtr rfl rfl ?_)
          refine da_op rfl (d_pick (b := false) (Eq.trans (show ev _ _ = .bool (icmp .neq ((p0.weights).length : Int) ((p0.places).length : Int)) from rfl) (congrArg Value.bool hc4)) ?_)
          refine da_nil ?_
          subst hr
          exact ⟨rfl, (Ext.refl w)⟩
  · skip
    rintro σ1 w1 o1 ⟨s39_1, E1⟩
    have s0_1 : σ1 0 = .pointer (some ⟨p0b, p0o, none⟩) := (o1 0 rfl).trans rfl
    have s3_1 : σ1 3 = .int .i64 ((p0.places).length : Int) := (o1 3 rfl).trans rfl
    have X5 : Ext w w1 := (Ext.refl w).trans E1
    refine W_cond (b := m1) s39_1 (fun hc6 => ?_) (fun hc6 => ?_)
    · skip
      replace hr := bif_t hr hc6
      refine W_seq ?_
      refine W_region rfl ?_
      refine da_op rfl (d_as (v := .bool false) rfl ?_)
      refine da_nil ?_
      refine W_ret ?_
      obtain rfl := Option.some.inj hr
      refine ⟨_, res1 (rv_tmp rfl), ?_⟩
      exact ⟨rfl, X5⟩
    · skip
      replace hr := bif_f hr hc6
      refine W_skip ?_
      refine W_seq ?_
      refine W_seq ?_
      refine W_region rfl ?_
      refine da_op rfl (d_mv (v := .pointer (some ⟨p0b, p0o, none⟩)) s0_1 ?_)
      refine da_op rfl (d_nil rfl ?_)
      refine da_op rfl (d_fieldAddr rfl (fa69_0 _ _) ?_)
      have B7 : w1.heap[p0b]? = some (.cells p0c p0T p0f) := X5.heap p0B
      refine da_op rfl (d_load (v := (Value.slice p0v0a p0v0n p0v0c)) rfl agg66 B7 (sub_get (vs := #[(Value.slice p0v0a p0v0n p0v0c), (Value.slice p0v1a p0v1n p0v1c), (Value.slice p0v2a p0v2n p0v2c), (Value.slice p0v3a p0v3n p0v3c)]) p0P (i := 0) rfl) ?_)
      have B8 : RS w1 encSVector (Value.slice p0v0a p0v0n p0v0c) p0.places := p0v0R.ext X5
      refine da_op rfl (d_len (e := encSVector) un66 rfl B8 ?_)
      refine da_op rfl (d_mv (v := .int .i64 0) rfl ?_)
      refine da_nil ?_
      refine W_block ?_
      obtain ⟨m9, hm9, hr⟩ := bind_out hr
      refine W_loopM hm9 (fun (s9 : Int) σ w' => σ 45 = .int .i64 s9 ∧ σ 0 = .pointer (some ⟨p0b, p0o, none⟩) ∧ σ 3 = .int .i64 ((p0.places).length : Int) ∧ σ 44 = .int .i64 ((p0.places).length : Int) ∧ Ext w w') (fun (e9 : (Unit ⊕ Bool)) ex σ w' => sel e9 (fun e9 => ex = .exit 0 ∧ σ 0 = .pointer (some ⟨p0b, p0o, none⟩) ∧ σ 3 = .int .i64 ((p0.places).length : Int) ∧ Ext w w') (fun e9 => ex = .ret ∧ σ 2 = .bool e9 ∧ Ext w w')) ⟨rfl, s0_1, s3_1, rfl, X5⟩ ?_ ?_
      · skip
        rintro s9 σl9 wl9 r9l ⟨i9_S45, i9_S0, i9_S3, i9_S44, i9_X⟩ hr
        refine W_seq ?_
        refine W_region rfl ?_
        refine da_op rfl (d_icmp cLss i9_S45 i9_S44 ?_)
        refine da_nil ?_
        refine W_seq ?_
        refine W_cond (b := (icmp .lss s9 ((p0.places).length : Int))) rfl (fun hc10 => ?_) (fun hc10 => ?_)
        · skip
          replace hr := bif_t hr hc10
          refine W_skip ?_
          refine W_seq ?_
          refine W_block ?_
          refine W_seq ?_
          refine W_region rfl ?_
          refine da_op rfl (d_mv (v := .int .i64 s9) i9_S45 ?_)
          refine da_op rfl (d_as (v := .int .i64 s9) rfl ?_)
          refine da_nil ?_
          refine W_seq ?_
          obtain ⟨m11, hm11, hr⟩ := bind_out hr
          refine W_cut (fun σ' w' => σ' 78 = .bool m11 ∧ Ext wl9 w') rfl ?_ ?_
          · skip
            have hr := hm11
            refine da_op rfl (d_mv (v := .pointer (some ⟨p0b, p0o, none⟩)) i9_S0 ?_)
            refine da_op rfl (d_nil rfl ?_)
            refine da_op rfl (d_fieldAddr rfl (fa69_0 _ _) ?_)
            have B12 : wl9.heap[p0b]? = some (.cells p0c p0T p0f) := i9_X.heap p0B
            refine da_op rfl (d_load (v := (Value.slice p0v0a p0v0n p0v0c)) rfl agg66 B12 (sub_get (vs := #[(Value.slice p0v0a p0v0n p0v0c), (Value.slice p0v1a p0v1n p0v1c), (Value.slice p0v2a p0v2n p0v2c), (Value.slice p0v3a p0v3n p0v3c)]) p0P (i := 0) rfl) ?_)
            refine da_op rfl (d_mv (v := .int .i64 s9) rfl ?_)
            obtain ⟨m13, hm13, hr⟩ := bind_out hr
            have B15 : RS wl9 encSVector (Value.slice p0v0a p0v0n p0v0c) p0.places := p0v0R.ext i9_X
            refine da_op rfl (d_index (e := encSVector) (v := (Value.slice p0v0a p0v0n p0v0c)) un66 size44 rfl rfl B15 hm13 fun g14 o14 cu14 T14 fr14 vs14 hv14 hg14 hp14 hq14 => ?_)
            obtain ⟨e14_r0, e14_r1, e14_r2, rfl, e14_h0, e14_h1, e14_h2⟩ := dec_encSVector hq14
            refine da_op rfl (d_loads (vs := #[.float .f32 e14_r0, .float .f32 e14_r1, .float .f32 e14_r2]) rfl agg44 size44 hg14 (sub_take (vs := #[.float .f32 e14_r0, .float .f32 e14_r1, .float .f32 e14_r2]) (us := #[.float .f32 e14_r0, .float .f32 e14_r1, .float .f32 e14_r2]) (i := 0) hp14 rfl (Nat.le_of_ble_eq_true rfl)) ?_)
            obtain ⟨m16, hm16, hr⟩ := letv_out hr
            refine da_op rfl (d_cl (vs := [.agg #[.float .f32 e14_r0, .float .f32 e14_r1, .float .f32 e14_r2]]) en132 (ac rfl rfl) rfl ?_)
            refine (c132 m13 e14_r0 e14_r1 e14_r2 m16 wl9 hm16 e14_h0 e14_h1 e14_h2).mono ?_
            rintro _ w17 ⟨rfl, E17⟩
            refine ⟨_, rfl, ?_⟩
            have X18 : Ext w w17 := i9_X.trans E17
            refine da_op rfl (d_not rfl ?_)
            refine da_op rfl (d_mv (v := .bool (!m16)) rfl ?_)
            rcases Bool.eq_false_or_eq_true m16 with hc19 | hc19
            · skip
              replace hr := bif_t hr hc19
              refine da_on rfl (Eq.trans (show sl _ _ _ = .bool (!m16) from rfl) (congrArg Value.bool (congrArg not hc19))) (d_mv (v := .pointer (some ⟨p0b, p0o, none⟩)) i9_S0 ?_)
              refine da_on rfl (Eq.trans (show sl _ _ _ = .bool (!m16) from rfl) (congrArg Value.bool (congrArg not hc19))) (d_nil rfl ?_)
              refine da_on rfl (Eq.trans (show sl _ _ _ = .bool (!m16) from rfl) (congrArg Value.bool (congrArg not hc19))) (d_fieldAddr rfl (fa69_1 _ _) ?_)
              have B20 : w17.heap[p0b]? = some (.cells p0c p0T p0f) := X18.heap p0B
              refine da_on rfl (Eq.trans (show sl _ _ _ = .bool (!m16) from rfl) (congrArg Value.bool (congrArg not hc19))) (d_load (v := (Value.slice p0v1a p0v1n p0v1c)) rfl agg66 B20 (sub_get (vs := #[(Value.slice p0v0a p0v0n p0v0c), (Value.slice p0v1a p0v1n p0v1c), (Value.slice p0v2a p0v2n p0v2c), (Value.slice p0v3a p0v3n p0v3c)]) p0P (i := 1) rfl) ?_)
              refine da_on rfl (Eq.trans (show sl _ _ _ = .bool (!m16) from rfl) (congrArg Value.bool (congrArg not hc19))) (d_mv (v := .int .i64 s9) rfl ?_)
              obtain ⟨m21, hm21, hr⟩ := bind_out hr
              have B23 : RS w17 encSVector (Value.slice p0v1a p0v1n p0v1c) p0.before := p0v1R.ext X18
              refine da_on rfl (Eq.trans (show sl _ _ _ = .bool (!m16) from rfl) (congrArg Value.bool (congrArg not hc19))) (d_index (e := encSVector) (v := (Value.slice p0v1a p0v1n p0v1c)) un66 size44 rfl rfl B23 hm21 fun g22 o22 cu22 T22 fr22 vs22 hv22 hg22 hp22 hq22 => ?_)
              obtain ⟨e22_r0, e22_r1, e22_r2, rfl, e22_h0, e22_h1, e22_h2⟩ := dec_encSVector hq22
              refine da_on rfl (Eq.trans (show sl _ _ _ = .bool (!m16) from rfl) (congrArg Value.bool (congrArg not hc19))) (d_loads (vs := #[.float .f32 e22_r0, .float .f32 e22_r1, .float .f32 e22_r2]) rfl agg44 size44 hg22 (sub_take (vs := #[.float .f32 e22_r0, .float .f32 e22_r1, .float .f32 e22_r2]) (us := #[.float .f32 e22_r0, .float .f32 e22_r1, .float .f32 e22_r2]) (i := 0) hp22 rfl (Nat.le_of_ble_eq_true rfl)) ?_)
              obtain ⟨m24, hm24, hr⟩ := letv_out hr
              have B25 : w17.heap[g14]? = some (.cells cu14 T14 fr14) := E17.heap hg14
              refine da_on rfl (Eq.trans (show sl _ _ _ = .bool (!m16) from rfl) (congrArg Value.bool (congrArg not hc19))) (d_cl (vs := [.agg #[.float .f32 e22_r0, .float .f32 e22_r1, .float .f32 e22_r2]]) en132 (ac rfl rfl) rfl ?_)
              refine (c132 m21 e22_r0 e22_r1 e22_r2 m24 w17 hm24 e22_h0 e22_h1 e22_h2).mono ?_
              rintro _ w26 ⟨rfl, E26⟩
              refine ⟨_, rfl, ?_⟩
              have X27 : Ext w w26 := X18.trans E26
              refine da_on rfl (Eq.trans (show sl _ _ _ = .bool (!m16) from rfl) (congrArg Value.bool (congrArg not hc19))) (d_not rfl ?_)
              refine da_op rfl (d_pick (b := false) (Eq.trans (show ev _ _ = .bool (!m16) from rfl) (congrArg Value.bool (congrArg not hc19))) ?_)
              refine da_op rfl (d_mv (v := .bool (!m24)) rfl ?_)
              rcases Bool.eq_false_or_eq_true m24 with hc28 | hc28
              · skip
                replace hr := bif_t hr hc28
                refine da_on rfl (Eq.trans (show sl _ _ _ = .bool (!m24) from rfl) (congrArg Value.bool (congrArg not hc28))) (d_mv (v := .pointer (some ⟨p0b, p0o, none⟩)) i9_S0 ?_)
                refine da_on rfl (Eq.trans (show sl _ _ _ = .bool (!m24) from rfl) (congrArg Value.bool (congrArg not hc28))) (d_nil rfl ?_)
                refine da_on rfl (Eq.trans (show sl _ _ _ = .bool (!m24) from rfl) (congrArg Value.bool (congrArg not hc28))) (d_fieldAddr rfl (fa69_2 _ _) ?_)
                have B29 : w26.heap[p0b]? = some (.cells p0c p0T p0f) := X27.heap p0B
                refine da_on rfl (Eq.trans (show sl _ _ _ = .bool (!m24) from rfl) (congrArg Value.bool (congrArg not hc28))) (d_load (v := (Value.slice p0v2a p0v2n p0v2c)) rfl agg53 B29 (sub_get (vs := #[(Value.slice p0v0a p0v0n p0v0c), (Value.slice p0v1a p0v1n p0v1c), (Value.slice p0v2a p0v2n p0v2c), (Value.slice p0v3a p0v3n p0v3c)]) p0P (i := 2) rfl) ?_)
                refine da_on rfl (Eq.trans (show sl _ _ _ = .bool (!m24) from rfl) (congrArg Value.bool (congrArg not hc28))) (d_mv (v := .int .i64 s9) rfl ?_)
                obtain ⟨m30, hm30, hr⟩ := bind_out hr
                have B32 : RS w26 encF_f32 (Value.slice p0v2a p0v2n p0v2c) p0.weights := p0v2R.ext X27
                refine da_on rfl (Eq.trans (show sl _ _ _ = .bool (!m24) from rfl) (congrArg Value.bool (congrArg not hc28))) (d_index (e := encF_f32) (v := (Value.slice p0v2a p0v2n p0v2c)) un53 size22 rfl rfl B32 hm30 fun g31 o31 cu31 T31 fr31 vs31 hv31 hg31 hp31 hq31 => ?_)
                obtain ⟨e31_r0, rfl, e31_h0⟩ := dec_encF_f32 hq31
                refine da_on rfl (Eq.trans (show sl _ _ _ = .bool (!m24) from rfl) (congrArg Value.bool (congrArg not hc28))) (d_load (v := .float .f32 e31_r0) rfl agg22 hg31 (sub_get (vs := #[.float .f32 e31_r0]) hp31 (i := 0) rfl) ?_)
                obtain ⟨m33, hm33, hr⟩ := letv_out hr
                have B34 : w26.heap[g14]? = some (.cells cu14 T14 fr14) := E26.heap B25
                have B35 : w26.heap[g22]? = some (.cells cu22 T22 fr22) := E26.heap hg22
                refine da_on rfl (Eq.trans (show sl _ _ _ = .bool (!m24) from rfl) (congrArg Value.bool (congrArg not hc28))) (d_cl (vs := [.float .f32 e31_r0]) en133 (ac rfl rfl) rfl ?_)
                refine (c133 m30 e31_r0 m33 w26 hm33 e31_h0).mono ?_
                rintro _ w36 ⟨rfl, E36⟩
                refine ⟨_, rfl, ?_⟩
                have X37 : Ext w w36 := X27.trans E36
                refine da_on rfl (Eq.trans (show sl _ _ _ = .bool (!m24) from rfl) (congrArg Value.bool (congrArg not hc28))) (d_not rfl ?_)
                refine da_op rfl (d_pick (b := false) (Eq.trans (show ev _ _ = .bool (!m24) from rfl) (congrArg Value.bool (congrArg not hc28))) ?_)
                refine da_nil ?_
                obtain rfl := Option.some.inj hr
                exact ⟨rfl, (Ext.trans (Ext.trans (Ext.trans (Ext.refl wl9) E17) E26) E36)⟩
              · skip
                replace hr := bif_f hr hc28
                refine da_off rfl (Eq.trans (show sl _ _ _ = .bool (!m24) from rfl) (congrArg Value.bool (congrArg not hc28))) (by decide) ?_
                refine da_off rfl (Eq.trans (show sl _ _ _ = .bool (!m24) from rfl) (congrArg Value.bool (congrArg not hc28))) (by decide) ?_
                refine da_off rfl (Eq.trans (show sl _ _ _ = .bool (!m24) from rfl) (congrArg Value.bool (congrArg not hc28))) (by decide) ?_
                refine da_off rfl (Eq.trans (show sl _ _ _ = .bool (!m24) from rfl) (congrArg Value.bool (congrArg not hc28))) (by decide) ?_
                refine da_off rfl (Eq.trans (show sl _ _ _ = .bool (!m24) from rfl) (congrArg Value.bool (congrArg not hc28))) (by decide) ?_
                refine da_off rfl (Eq.trans (show sl _ _ _ = .bool (!m24) from rfl) (congrArg Value.bool (congrArg not hc28))) (by decide) ?_
                refine da_off rfl (Eq.trans (show sl _ _ _ = .bool (!m24) from rfl) (congrArg Value.bool (congrArg not hc28))) (by decide) ?_
                refine da_off rfl (Eq.trans (show sl _ _ _ = .bool (!m24) from rfl) (congrArg Value.bool (congrArg not hc28))) (by decide) ?_
                refine da_off rfl (Eq.trans (show sl _ _ _ = .bool (!m24) from rfl) (congrArg Value.bool (congrArg not hc28))) (by decide) ?_
                refine da_op rfl (d_pick (b := true) (Eq.trans (show ev _ _ = .bool (!m24) from rfl) (congrArg Value.bool (congrArg not hc28))) ?_)
                refine da_nil ?_
                obtain rfl := Option.some.inj hr
                exact ⟨rfl, (Ext.trans (Ext.trans (Ext.refl wl9) E17) E26)⟩
            · skip
              replace hr := bif_f hr hc19
              refine da_off rfl (Eq.trans (show sl _ _ _ = .bool (!m16) from rfl) (congrArg Value.bool (congrArg not hc19))) (by decide) ?_
              refine da_off rfl (Eq.trans (show sl _ _ _ = .bool (!m16) from rfl) (congrArg Value.bool (congrArg not hc19))) (by decide) ?_
              refine da_off rfl (Eq.trans (show sl _ _ _ = .bool (!m16) from rfl) (congrArg Value.bool (congrArg not hc19))) (by decide) ?_
              refine da_off rfl (Eq.trans (show sl _ _ _ = .bool (!m16) from rfl) (congrArg Value.bool (congrArg not hc19))) (by decide) ?_
              refine da_off rfl (Eq.trans (show sl _ _ _ = .bool (!m16) from rfl) (congrArg Value.bool (congrArg not hc19))) (by decide) ?_
              refine da_off rfl (Eq.trans (show sl _ _ _ = .bool (!m16) from rfl) (congrArg Value.bool (congrArg not hc19))) (by decide) ?_
              refine da_off rfl (Eq.trans (show sl _ _ _ = .bool (!m16) from rfl) (congrArg Value.bool (congrArg not hc19))) (by decide) ?_
              refine da_off rfl (Eq.trans (show sl _ _ _ = .bool (!m16) from rfl) (congrArg Value.bool (congrArg not hc19))) (by decide) ?_
              refine da_off rfl (Eq.trans (show sl _ _ _ = .bool (!m16) from rfl) (congrArg Value.bool (congrArg not hc19))) (by decide) ?_
              refine da_op rfl (d_pick (b := true) (Eq.trans (show ev _ _ = .bool (!m16) from rfl) (congrArg Value.bool (congrArg not hc19))) ?_)
              refine da_op rfl (d_mv (v := .bool true) rfl ?_)
              refine da_off rfl rfl (by decide) ?_
              refine da_off rfl rfl (by decide) ?_
              refine da_off rfl rfl (by decide) ?_
              refine da_off rfl rfl (by decide) ?_
              refine da_off rfl rfl (by decide) ?_
              refine da_off rfl rfl (by decide) ?_
              refine da_off rfl rfl (by decide) ?_
              refine da_off rfl rfl (by decide) ?_
              refine da_off rfl rfl (by decide) ?_
              refine da_op rfl (d_pick (b := true) rfl ?_)
              refine da_nil ?_
              obtain rfl := Option.some.inj hr
              exact ⟨rfl, (Ext.trans (Ext.refl wl9) E17)⟩
          · skip
            rintro σ11 w11 o11 ⟨s78_11, E11⟩
            have s45_11 : σ11 45 = .int .i64 s9 := (o11 45 rfl).trans i9_S45
            have s0_11 : σ11 0 = .pointer (some ⟨p0b, p0o, none⟩) := (o11 0 rfl).trans i9_S0
            have s3_11 : σ11 3 = .int .i64 ((p0.places).length : Int) := (o11 3 rfl).trans i9_S3
            have s44_11 : σ11 44 = .int .i64 ((p0.places).length : Int) := (o11 44 rfl).trans i9_S44
            have X38 : Ext w w11 := i9_X.trans E11
            refine W_cond (b := m11) s78_11 (fun hc39 => ?_) (fun hc39 => ?_)
            · skip
              replace hr := bif_t hr hc39
              refine W_seq ?_
              refine W_region rfl ?_
              refine da_op rfl (d_as (v := .bool false) rfl ?_)
              refine da_nil ?_
              refine W_ret ?_
              obtain rfl := Option.some.inj hr
              exact ⟨_, rfl, rfl, rfl, X38⟩
            · skip
              replace hr := bif_f hr hc39
              refine W_skip ?_
              refine W_region rfl ?_
              refine da_op rfl (d_iarith s45_11 rfl (.inl ⟨rfl, rfl⟩) ?_)
              refine da_op rfl (d_mv (v := .int .i64 (IntKind.i64.wrap (s9 + 1))) rfl ?_)
              refine da_nil ?_
              obtain rfl := Option.some.inj hr
              exact ⟨_, rfl, ⟨rfl, s0_11, s3_11, s44_11, X38⟩⟩
        · skip
          replace hr := bif_f hr hc10
          refine W_exit ?_
          obtain rfl := Option.some.inj hr
          exact ⟨_, rfl, rfl, i9_S0, i9_S3, i9_X⟩
      · skip
        intro ex σx9 wx9 hq
        rcases m9 with m9 | m9
        · skip
          obtain ⟨rfl, q9_0_S0, q9_0_S3, q9_0_X⟩ := hq
          refine W_seq ?_
          refine W_seq ?_
          refine W_region rfl ?_
          refine da_op rfl (d_mv (v := .pointer (some ⟨p0b, p0o, none⟩)) q9_0_S0 ?_)
          refine da_op rfl (d_nil rfl ?_)
          refine da_op rfl (d_fieldAddr rfl (fa69_3 _ _) ?_)
          have B40 : wx9.heap[p0b]? = some (.cells p0c p0T p0f) := q9_0_X.heap p0B
          refine da_op rfl (d_load (v := (Value.slice p0v3a p0v3n p0v3c)) rfl agg67 B40 (sub_get (vs := #[(Value.slice p0v0a p0v0n p0v0c), (Value.slice p0v1a p0v1n p0v1c), (Value.slice p0v2a p0v2n p0v2c), (Value.slice p0v3a p0v3n p0v3c)]) p0P (i := 3) rfl) ?_)
          have B41 : RS wx9 encSRod (Value.slice p0v3a p0v3n p0v3c) p0.rods := p0v3R.ext q9_0_X
          refine da_op rfl (d_len (e := encSRod) un67 rfl B41 ?_)
          refine da_op rfl (d_mv (v := .int .i64 0) rfl ?_)
          refine da_nil ?_
          refine W_block ?_
          obtain ⟨m42, hm42, hr⟩ := bind_out hr
          refine W_loopM hm42 (fun (s42 : Int) σ w' => σ 85 = .int .i64 s42 ∧ σ 0 = .pointer (some ⟨p0b, p0o, none⟩) ∧ σ 3 = .int .i64 ((p0.places).length : Int) ∧ σ 84 = .int .i64 ((p0.rods).length : Int) ∧ Ext w w') (fun (e42 : (Unit ⊕ Bool)) ex σ w' => sel e42 (fun e42 => ex = .exit 2 ∧ Ext w w') (fun e42 => ex = .ret ∧ σ 2 = .bool e42 ∧ Ext w w')) ⟨rfl, q9_0_S0, q9_0_S3, rfl, q9_0_X⟩ ?_ ?_
          · skip
            rintro s42 σl42 wl42 r42l ⟨i42_S85, i42_S0, i42_S3, i42_S84, i42_X⟩ hr
            refine W_seq ?_
            refine W_region rfl ?_
            refine da_op rfl (d_icmp cLss i42_S85 i42_S84 ?_)
            refine da_nil ?_
            refine W_seq ?_
            refine W_cond (b := (icmp .lss s42 ((p0.rods).length : Int))) rfl (fun hc43 => ?_) (fun hc43 => ?_)
            · skip
              replace hr := bif_t hr hc43
              refine W_skip ?_
              refine W_seq ?_
              refine W_block ?_
              refine W_seq ?_
              refine W_region rfl ?_
              refine da_op rfl (d_mv (v := .int .i64 s42) i42_S85 ?_)
              refine da_op rfl (d_as (v := .int .i64 s42) rfl ?_)
              refine da_nil ?_
              refine W_seq ?_
              refine W_region rfl ?_
              refine da_op rfl (d_mv (v := .pointer (some ⟨p0b, p0o, none⟩)) i42_S0 ?_)
              refine da_op rfl (d_nil rfl ?_)
              refine da_op rfl (d_fieldAddr rfl (fa69_3 _ _) ?_)
              have B44 : wl42.heap[p0b]? = some (.cells p0c p0T p0f) := i42_X.heap p0B
              refine da_op rfl (d_load (v := (Value.slice p0v3a p0v3n p0v3c)) rfl agg67 B44 (sub_get (vs := #[(Value.slice p0v0a p0v0n p0v0c), (Value.slice p0v1a p0v1n p0v1c), (Value.slice p0v2a p0v2n p0v2c), (Value.slice p0v3a p0v3n p0v3c)]) p0P (i := 3) rfl) ?_)
              refine da_op rfl (d_mv (v := .int .i64 s42) rfl ?_)
              obtain ⟨m45, hm45, hr⟩ := bind_out hr
              have B47 : RS wl42 encSRod (Value.slice p0v3a p0v3n p0v3c) p0.rods := p0v3R.ext i42_X
              refine da_op rfl (d_index (e := encSRod) (v := (Value.slice p0v3a p0v3n p0v3c)) un67 size136 rfl rfl B47 hm45 fun g46 o46 cu46 T46 fr46 vs46 hv46 hg46 hp46 hq46 => ?_)
              obtain ⟨e46_r2, rfl, e46_h2⟩ := dec_encSRod hq46
              refine da_op rfl (d_loads (vs := #[.int .i64 m45.a, .int .i64 m45.b, .float .f32 e46_r2]) rfl agg136 size136 hg46 (sub_take (vs := #[.int .i64 m45.a, .int .i64 m45.b, .float .f32 e46_r2]) (us := #[.int .i64 m45.a, .int .i64 m45.b, .float .f32 e46_r2]) (i := 0) hp46 rfl (Nat.le_of_ble_eq_true rfl)) ?_)
              refine da_op rfl (d_alloc (cs := #[.int .i64 0, .int .i64 0, .float .f32 0]) zero136 rfl fun w48 B48 E48 => ?_)
              have own49 : w.heap.size ≤ wl42.heap.size := Nat.le_trans i42_X.size (Nat.le_refl _)
              have sp50 : g46 ≠ wl42.heap.size := Nat.ne_of_lt (Nat.lt_of_lt_of_le (lt_heap hg46) (Nat.le_refl _))
              have X51 : Ext w w48 := i42_X.trans E48
              refine da_op rfl (d_store (vs := #[.int .i64 m45.a, .int .i64 m45.b, .float .f32 e46_r2]) rfl rfl B48 size136 (Nat.le_of_ble_eq_true rfl) rfl fun w52 S52 => ?_)
              have X53 : Ext w w52 := Ext.step X51 S52.frmb (fun k _ hk => hk ▸ own49)
              have B54 : w52.heap[wl42.heap.size]? = some (.cells #[.int .i64 m45.a, .int .i64 m45.b, .float .f32 e46_r2] 136 (0, 0)) := S52.here
              refine da_nil ?_
              refine W_seq ?_
              obtain ⟨m55, hm55, hr⟩ := letv_out hr
              refine W_cut (fun σ' w' => σ' 121 = .bool m55 ∧ Ext w52 w') rfl ?_ ?_
              · skip
                have hr := hm55
                refine da_op rfl (d_fieldAddr rfl (fa136_0 _ _) ?_)
                refine da_op rfl (d_load (v := .int .i64 m45.a) rfl agg2 B54 rfl ?_)
                refine da_op rfl (d_mv (v := .int .i64 ((p0.places).length : Int)) i42_S3 ?_)
                refine da_op rfl (d_iarith rfl rfl (.inr (.inl ⟨rfl, rfl⟩)) ?_)
                obtain ⟨m56, hm56, hr⟩ := letv_out hr
                refine da_op rfl (d_cl (vs := [.int .i64 m45.a, .int .i64 0, .int .i64 (IntKind.i64.wrap (((p0.places).length : Int) - 1))]) en134 (ac rfl (ac rfl (ac rfl rfl))) rfl ?_)
                refine (c134 m45.a 0 (IntKind.i64.wrap (((p0.places).length : Int) - 1)) m56 w52 hm56 ).mono ?_
                rintro _ w57 ⟨rfl, E57⟩
                refine ⟨_, rfl, ?_⟩
                have X58 : Ext w w57 := X53.trans E57
                refine da_op rfl (d_not rfl ?_)
                refine da_op rfl (d_mv (v := .bool (!m56)) rfl ?_)
                rcases Bool.eq_false_or_eq_true m56 with hc59 | hc59
                · skip
                  replace hr := bif_t hr hc59
                  refine da_on rfl (Eq.trans (show sl _ _ _ = .bool (!m56) from rfl) (congrArg Value.bool (congrArg not hc59))) (d_fieldAddr rfl (fa136_1 _ _) ?_)
                  have B60 : w57.heap[wl42.heap.size]? = some (.cells #[.int .i64 m45.a, .int .i64 m45.b, .float .f32 e46_r2] 136 (0, 0)) := E57.heap B54
                  refine da_on rfl (Eq.trans (show sl _ _ _ = .bool (!m56) from rfl) (congrArg Value.bool (congrArg not hc59))) (d_load (v := .int .i64 m45.b) rfl agg2 B60 rfl ?_)
                  refine da_on rfl (Eq.trans (show sl _ _ _ = .bool (!m56) from rfl) (congrArg Value.bool (congrArg not hc59))) (d_mv (v := .int .i64 ((p0.places).length : Int)) i42_S3 ?_)
                  refine da_on rfl (Eq.trans (show sl _ _ _ = .bool (!m56) from rfl) (congrArg Value.bool (congrArg not hc59))) (d_iarith rfl rfl (.inr (.inl ⟨rfl, rfl⟩)) ?_)
                  obtain ⟨m61, hm61, hr⟩ := letv_out hr
                  refine da_on rfl (Eq.trans (show sl _ _ _ = .bool (!m56) from rfl) (congrArg Value.bool (congrArg not hc59))) (d_cl (vs := [.int .i64 m45.b, .int .i64 0, .int .i64 (IntKind.i64.wrap (((p0.places).length : Int) - 1))]) en134 (ac rfl (ac rfl (ac rfl rfl))) rfl ?_)
                  refine (c134 m45.b 0 (IntKind.i64.wrap (((p0.places).length : Int) - 1)) m61 w57 hm61 ).mono ?_
                  rintro _ w62 ⟨rfl, E62⟩
                  refine ⟨_, rfl, ?_⟩
                  have X63 : Ext w w62 := X58.trans E62
                  refine da_on rfl (Eq.trans (show sl _ _ _ = .bool (!m56) from rfl) (congrArg Value.bool (congrArg not hc59))) (d_not rfl ?_)
                  refine da_op rfl (d_pick (b := false) (Eq.trans (show ev _ _ = .bool (!m56) from rfl) (congrArg Value.bool (congrArg not hc59))) ?_)
                  refine da_op rfl (d_mv (v := .bool (!m61)) rfl ?_)
                  rcases Bool.eq_false_or_eq_true m61 with hc64 | hc64
                  · skip
                    replace hr := bif_t hr hc64
                    refine da_on rfl (Eq.trans (show sl _ _ _ = .bool (!m61) from rfl) (congrArg Value.bool (congrArg not hc64))) (d_fieldAddr rfl (fa136_0 _ _) ?_)
                    have B65 : w62.heap[wl42.heap.size]? = some (.cells #[.int .i64 m45.a, .int .i64 m45.b, .float .f32 e46_r2] 136 (0, 0)) := E62.heap B60
                    refine da_on rfl (Eq.trans (show sl _ _ _ = .bool (!m61) from rfl) (congrArg Value.bool (congrArg not hc64))) (d_load (v := .int .i64 m45.a) rfl agg2 B65 rfl ?_)
                    refine da_on rfl (Eq.trans (show sl _ _ _ = .bool (!m61) from rfl) (congrArg Value.bool (congrArg not hc64))) (d_fieldAddr rfl (fa136_1 _ _) ?_)
                    refine da_on rfl (Eq.trans (show sl _ _ _ = .bool (!m61) from rfl) (congrArg Value.bool (congrArg not hc64))) (d_load (v := .int .i64 m45.b) rfl agg2 B65 rfl ?_)
                    refine da_on rfl (Eq.trans (show sl _ _ _ = .bool (!m61) from rfl) (congrArg Value.bool (congrArg not hc64))) (d_icmp cEql rfl rfl ?_)
                    refine da_op rfl (d_pick (b := false) (Eq.trans (show ev _ _ = .bool (!m61) from rfl) (congrArg Value.bool (congrArg not hc64))) ?_)
                    refine da_op rfl (d_mv (v := .bool (icmp .eql m45.a m45.b)) rfl ?_)
                    rcases Bool.eq_false_or_eq_true (icmp .eql m45.a m45.b) with hc66 | hc66
                    · skip
                      replace hr := bif_t hr hc66
                      refine da_off rfl (Eq.trans (show sl _ _ _ = .bool (icmp .eql m45.a m45.b) from rfl) (congrArg Value.bool hc66)) (by decide) ?_
                      refine da_off rfl (Eq.trans (show sl _ _ _ = .bool (icmp .eql m45.a m45.b) from rfl) (congrArg Value.bool hc66)) (by decide) ?_
                      refine da_off rfl (Eq.trans (show sl _ _ _ = .bool (icmp .eql m45.a m45.b) from rfl) (congrArg Value.bool hc66)) (by decide) ?_
                      refine da_off rfl (Eq.trans (show sl _ _ _ = .bool (icmp .eql m45.a m45.b) from rfl) (congrArg Value.bool hc66)) (by decide) ?_
                      refine da_op rfl (d_pick (b := true) (Eq.trans (show ev _ _ = .bool (icmp .eql m45.a m45.b) from rfl) (congrArg Value.bool hc66)) ?_)
                      refine da_nil ?_
                      subst hr
                      exact ⟨rfl, (Ext.trans (Ext.trans (Ext.refl w52) E57) E62)⟩
                    · skip
                      replace hr := bif_f hr hc66
                      refine da_on rfl (Eq.trans (show sl _ _ _ = .bool (icmp .eql m45.a m45.b) from rfl) (congrArg Value.bool hc66)) (d_fieldAddr rfl (fa136_2 _ _) ?_)
                      refine da_on rfl (Eq.trans (show sl _ _ _ = .bool (icmp .eql m45.a m45.b) from rfl) (congrArg Value.bool hc66)) (d_load (v := .float .f32 e46_r2) rfl agg22 B65 rfl ?_)
                      obtain ⟨m67, hm67, hr⟩ := letv_out hr
                      refine da_on rfl (Eq.trans (show sl _ _ _ = .bool (icmp .eql m45.a m45.b) from rfl) (congrArg Value.bool hc66)) (d_cl (vs := [.float .f32 e46_r2]) en133 (ac rfl rfl) rfl ?_)
                      refine (c133 m45.long e46_r2 m67 w62 hm67 e46_h2).mono ?_
                      rintro _ w68 ⟨rfl, E68⟩
                      refine ⟨_, rfl, ?_⟩
                      have X69 : Ext w w68 := X63.trans E68
                      refine da_on rfl (Eq.trans (show sl _ _ _ = .bool (icmp .eql m45.a m45.b) from rfl) (congrArg Value.bool hc66)) (d_not rfl ?_)
                      refine da_op rfl (d_pick (b := false) (Eq.trans (show ev _ _ = .bool (icmp .eql m45.a m45.b) from rfl) (congrArg Value.bool hc66)) ?_)
                      refine da_nil ?_
                      subst hr
                      exact ⟨rfl, (Ext.trans (Ext.trans (Ext.trans (Ext.refl w52) E57) E62) E68)⟩
                  · skip
                    replace hr := bif_f hr hc64
                    refine da_off rfl (Eq.trans (show sl _ _ _ = .bool (!m61) from rfl) (congrArg Value.bool (congrArg not hc64))) (by decide) ?_
                    refine da_off rfl (Eq.trans (show sl _ _ _ = .bool (!m61) from rfl) (congrArg Value.bool (congrArg not hc64))) (by decide) ?_
                    refine da_off rfl (Eq.trans (show sl _ _ _ = .bool (!m61) from rfl) (congrArg Value.bool (congrArg not hc64))) (by decide) ?_
                    refine da_off rfl (Eq.trans (show sl _ _ _ = .bool (!m61) from rfl) (congrArg Value.bool (congrArg not hc64))) (by decide) ?_
                    refine da_off rfl (Eq.trans (show sl _ _ _ = .bool (!m61) from rfl) (congrArg Value.bool (congrArg not hc64))) (by decide) ?_
                    refine da_op rfl (d_pick (b := true) (Eq.trans (show ev _ _ = .bool (!m61) from rfl) (congrArg Value.bool (congrArg not hc64))) ?_)
                    refine da_op rfl (d_mv (v := .bool true) rfl ?_)
                    refine da_off rfl rfl (by decide) ?_
                    refine da_off rfl rfl (by decide) ?_
                    refine da_off rfl rfl (by decide) ?_
                    refine da_off rfl rfl (by decide) ?_
                    refine da_op rfl (d_pick (b := true) rfl ?_)
                    refine da_nil ?_
                    subst hr
                    exact ⟨rfl, (Ext.trans (Ext.trans (Ext.refl w52) E57) E62)⟩
                · skip
                  replace hr := bif_f hr hc59
                  refine da_off rfl (Eq.trans (show sl _ _ _ = .bool (!m56) from rfl) (congrArg Value.bool (congrArg not hc59))) (by decide) ?_
                  refine da_off rfl (Eq.trans (show sl _ _ _ = .bool (!m56) from rfl) (congrArg Value.bool (congrArg not hc59))) (by decide) ?_
                  refine da_off rfl (Eq.trans (show sl _ _ _ = .bool (!m56) from rfl) (congrArg Value.bool (congrArg not hc59))) (by decide) ?_
                  refine da_off rfl (Eq.trans (show sl _ _ _ = .bool (!m56) from rfl) (congrArg Value.bool (congrArg not hc59))) (by decide) ?_
                  refine da_off rfl (Eq.trans (show sl _ _ _ = .bool (!m56) from rfl) (congrArg Value.bool (congrArg not hc59))) (by decide) ?_
                  refine da_off rfl (Eq.trans (show sl _ _ _ = .bool (!m56) from rfl) (congrArg Value.bool (congrArg not hc59))) (by decide) ?_
                  refine da_op rfl (d_pick (b := true) (Eq.trans (show ev _ _ = .bool (!m56) from rfl) (congrArg Value.bool (congrArg not hc59))) ?_)
                  refine da_op rfl (d_mv (v := .bool true) rfl ?_)
                  refine da_off rfl rfl (by decide) ?_
                  refine da_off rfl rfl (by decide) ?_
                  refine da_off rfl rfl (by decide) ?_
                  refine da_off rfl rfl (by decide) ?_
                  refine da_off rfl rfl (by decide) ?_
                  refine da_op rfl (d_pick (b := true) rfl ?_)
                  refine da_op rfl (d_mv (v := .bool true) rfl ?_)
                  refine da_off rfl rfl (by decide) ?_
                  refine da_off rfl rfl (by decide) ?_
                  refine da_off rfl rfl (by decide) ?_
                  refine da_off rfl rfl (by decide) ?_
                  refine da_op rfl (d_pick (b := true) rfl ?_)
                  refine da_nil ?_
                  subst hr
                  exact ⟨rfl, (Ext.trans (Ext.refl w52) E57)⟩
              · skip
                rintro σ55 w55 o55 ⟨s121_55, E55⟩
                have s85_55 : σ55 85 = .int .i64 s42 := (o55 85 rfl).trans i42_S85
                have s0_55 : σ55 0 = .pointer (some ⟨p0b, p0o, none⟩) := (o55 0 rfl).trans i42_S0
                have s3_55 : σ55 3 = .int .i64 ((p0.places).length : Int) := (o55 3 rfl).trans i42_S3
                have s84_55 : σ55 84 = .int .i64 ((p0.rods).length : Int) := (o55 84 rfl).trans i42_S84
                have X70 : Ext w w55 := X53.trans E55
                refine W_cond (b := m55) s121_55 (fun hc71 => ?_) (fun hc71 => ?_)
                · skip
                  replace hr := bif_t hr hc71
                  refine W_seq ?_
                  refine W_region rfl ?_
                  refine da_op rfl (d_as (v := .bool false) rfl ?_)
                  refine da_nil ?_
                  refine W_ret ?_
                  obtain rfl := Option.some.inj hr
                  exact ⟨_, rfl, rfl, rfl, X70⟩
                · skip
                  replace hr := bif_f hr hc71
                  refine W_skip ?_
                  refine W_region rfl ?_
                  refine da_op rfl (d_iarith s85_55 rfl (.inl ⟨rfl, rfl⟩) ?_)
                  refine da_op rfl (d_mv (v := .int .i64 (IntKind.i64.wrap (s42 + 1))) rfl ?_)
                  refine da_nil ?_
                  obtain rfl := Option.some.inj hr
                  exact ⟨_, rfl, ⟨rfl, s0_55, s3_55, s84_55, X70⟩⟩
            · skip
              replace hr := bif_f hr hc43
              refine W_exit ?_
              obtain rfl := Option.some.inj hr
              exact ⟨_, rfl, rfl, i42_X⟩
          · skip
            intro ex σx42 wx42 hq
            rcases m42 with m42 | m42
            · skip
              obtain ⟨rfl, q42_0_X⟩ := hq
              refine W_seq ?_
              refine W_region rfl ?_
              refine da_op rfl (d_as (v := .bool true) rfl ?_)
              refine da_nil ?_
              refine W_ret ?_
              obtain rfl := Option.some.inj hr
              refine ⟨_, res1 (rv_tmp rfl), ?_⟩
              exact ⟨rfl, q42_0_X⟩
            · skip
              obtain ⟨rfl, q42_1_S2, q42_1_X⟩ := hq
              obtain rfl := Option.some.inj hr
              refine ⟨_, res1 (rv_tmp q42_1_S2), ?_⟩
              exact ⟨rfl, q42_1_X⟩
        · skip
          obtain ⟨rfl, q9_1_S2, q9_1_X⟩ := hq
          obtain rfl := Option.some.inj hr
          refine ⟨_, res1 (rv_tmp q9_1_S2), ?_⟩
          exact ⟨rfl, q9_1_X⟩
set_option maxHeartbeats 4000000 in
theorem c159 (p0 : Nat) (p0r : Nat) (r : Int) (w : World) (hr : M.spec_l01Bits p0 = r) (p0h : cn .f32 p0r = p0) :
    Calls Tryd.prog 159 #[.float .f32 p0r] w fun e w' => e = .returned (.int .i64 r) ∧ Ext w w' := by
  refine calls_of_W Tryd.func159 rfl (Nat.le_of_ble_eq_true rfl) ?_
  refine W_seq ?_
  refine W_region rfl ?_
  refine da_op rfl (d_as (v := .int .i64 0) rfl ?_)
  refine da_nil ?_
  refine W_seq ?_
  refine W_seq ?_
  refine W_region rfl ?_
  refine da_op rfl (d_mv (v := .float .f32 p0r) rfl ?_)
  refine da_op rfl (d_mv (v := .float .f32 p0r) rfl ?_)
  refine da_op rfl (d_fcmp (k := .f32) cNeq rfl rfl p0h p0h ?_)
  refine da_nil ?_
  refine W_cond (b := (fcmp .neq .f32 p0 p0)) rfl (fun hc1 => ?_) (fun hc1 => ?_)
  · skip
    replace hr := bif_t hr hc1
    refine W_seq ?_
    refine W_region rfl ?_
    refine da_op rfl (d_as (v := .int .i64 2143289344) rfl ?_)
    refine da_nil ?_
    refine W_ret ?_
    subst hr
    refine ⟨_, res1 (rv_tmp rfl), ?_⟩
    exact ⟨rfl, (Ext.refl w)⟩
  · skip
    replace hr := bif_f hr hc1
    refine W_skip ?_
    refine W_seq ?_
    refine W_region rfl ?_
    refine da_op rfl (d_mv (v := .float .f32 p0r) rfl ?_)
    refine da_op rfl (d_f32bits ext154_0 ext154_1 ext154_2 (Option.isNone_iff_eq_none.1 ext154_3) ext154_4 rfl rfl p0h (nn_ne hc1) ?_)
    refine da_op rfl (d_iconv un193 un2 rfl ?_)
    refine da_op rfl (d_as (v := .int .i64 (IntKind.i64.wrap (p0 : Int))) rfl ?_)
    refine da_nil ?_
    refine W_ret ?_
    subst hr
    refine ⟨_, res1 (rv_tmp rfl), ?_⟩
    exact ⟨rfl, (Ext.refl w)⟩
set_option maxHeartbeats 4000000 in
theorem c176 (p0 : Nat) (p0r : Nat) (r : List UInt8) (w : World) (hr : M.spec_l01Hex p0 = some r) (p0h : cn .f32 p0r = p0) :
    Calls Tryd.prog 176 #[.float .f32 p0r] w fun e w' => e = .returned (.string (bs r)) ∧ Ext w w' := by
  refine calls_of_W Tryd.func176 rfl (Nat.le_of_ble_eq_true rfl) ?_
  refine W_seq ?_
  refine W_region rfl ?_
  refine da_op rfl (d_as (v := .string (bs ([] : List UInt8))) rfl ?_)
  refine da_nil ?_
  refine W_seq ?_
  refine W_region rfl ?_
  refine da_op rfl (d_mv (v := .float .f32 p0r) rfl ?_)
  obtain ⟨m1, hm1, hr⟩ := letv_out hr
  refine da_op rfl (d_cl (vs := [.float .f32 p0r]) en159 (ac rfl rfl) rfl ?_)
  refine (c159 p0 p0r m1 w hm1 p0h).mono ?_
  rintro _ w2 ⟨rfl, E2⟩
  refine ⟨_, rfl, ?_⟩
  have X3 : Ext w w2 := (Ext.refl w).trans E2
  refine da_op rfl (d_as (v := .int .i64 m1) rfl ?_)
  refine da_nil ?_
  refine W_seq ?_
  refine W_region rfl ?_
  refine da_op rfl (d_bslice0 un73 size5 fun w4 B4 E4 => ?_)
  have fr4 : ∀ k, (Value.slice (some ⟨w2.heap.size, 0, none⟩) 0 0).ownBlock = some k → w2.heap.size ≤ k := fun k hk => by cases hk; exact Nat.le_refl _
  have own4 : ∀ k, (Value.slice (some ⟨w2.heap.size, 0, none⟩) 0 0).ownBlock = some k → w.heap.size ≤ k := fun k hk => Nat.le_trans X3.size (fr4 k hk)
  have X5 : Ext w w4 := X3.trans E4
  have O4 : OS w4 5 encI_u8 (Value.slice (some ⟨w2.heap.size, 0, none⟩) 0 0) ([] : List Int) := OS.box (xs := ([] : List Int)) B4 rfl (Nat.le_of_ble_eq_true rfl)
  refine da_op rfl (d_as (v := (Value.slice (some ⟨w2.heap.size, 0, none⟩) 0 0)) rfl ?_)
  refine da_nil ?_
  refine W_seq ?_
  refine W_seq ?_
  refine W_region rfl ?_
  refine da_op rfl (d_as (v := .int .i64 28) rfl ?_)
  refine da_nil ?_
  refine W_block ?_
  refine W_rounds 100 ?_
  refine Wr_next ?_
  refine W_seq ?_
  refine W_seq ?_
  refine W_region rfl ?_
  refine da_op rfl (d_mv (v := .int .i64 28) rfl ?_)
  refine da_op rfl (d_icmpL (b := true) cGeq rfl rfl (by decide) ?_)
  refine da_nil ?_
  refine W_true rfl ?_
  refine W_skip ?_
  refine W_seq ?_
  refine W_block ?_
  refine W_region rfl ?_
  refine da_op rfl (d_mv (v := (Value.slice (some ⟨w2.heap.size, 0, none⟩) 0 0)) rfl ?_)
  refine da_op rfl (d_mv (v := .int .i64 m1) rfl ?_)
  refine da_op rfl (d_mv (v := .int .i64 28) rfl ?_)
  refine da_op rfl (d_iconvL (r := 28) un3 un219 rfl (by decide) ?_)
  refine da_op rfl (d_shrL rfl rfl (n := 28) (by decide) ?_)
  refine da_op rfl (d_and rfl rfl ?_)
  obtain ⟨m6, hm6, hr⟩ := bind_out hr
  refine da_op rfl (d_sidx un9 rfl rfl hm6 ?_)
  refine da_op rfl (d_bslice (vs := [(0, .int .u8 m6)]) (cs := #[.int .u8 m6]) un73 (pc rfl rfl) (by kernel_rfl) fun w7 B7 E7 => ?_)
  have fr7 : ∀ k, (Value.slice (some ⟨w4.heap.size, 0, none⟩) 1 1).ownBlock = some k → w4.heap.size ≤ k := fun k hk => by cases hk; exact Nat.le_refl _
  have own7 : ∀ k, (Value.slice (some ⟨w4.heap.size, 0, none⟩) 1 1).ownBlock = some k → w.heap.size ≤ k := fun k hk => Nat.le_trans X5.size (fr7 k hk)
  have sp8 : ∀ k, (Value.slice (some ⟨w2.heap.size, 0, none⟩) 0 0).ownBlock = some k → ¬ (Value.slice (some ⟨w4.heap.size, 0, none⟩) 1 1).ownBlock = some k := apart_fresh O4 fr7
  have X9 : Ext w w7 := X5.trans E7
  have O7 : OS w7 5 encI_u8 (Value.slice (some ⟨w4.heap.size, 0, none⟩) 1 1) [m6] := OS.box (xs := [m6]) B7 (lc_v rfl rfl) (Nat.le_of_ble_eq_true rfl)
  obtain ⟨m10, hm10, hr⟩ := bind_out hr
  have B11 : OS w7 5 encI_u8 (Value.slice (some ⟨w2.heap.size, 0, none⟩) 0 0) ([] : List Int) := O4.ext E7
  refine da_op rfl (d_append (e := encI_u8) (v := (Value.slice (some ⟨w2.heap.size, 0, none⟩) 0 0)) (y := (Value.slice (some ⟨w4.heap.size, 0, none⟩) 1 1)) un73 info5 rfl (by kernel_rfl) (by kernel_rfl) (by decide) (by decide) rfl rfl B11 O7.rs hm10 fun v12 w12 O12 Fm12 at_12 nl12 => ?_)
  obtain ⟨v12pa, v12pn, v12pc, rfl⟩ := O12.vals
  have own12 : ∀ k, (Value.slice v12pa v12pn v12pc).ownBlock = some k → w.heap.size ≤ k := app_own (w := w7) at_12 own4 X9.size
  have sp13 : ∀ k, (Value.slice (some ⟨w4.heap.size, 0, none⟩) 1 1).ownBlock = some k → ¬ (Value.slice v12pa v12pn v12pc).ownBlock = some k := app_nr at_12 (apart_symm sp8) O7
  have X14 : Ext w w12 := Ext.step X9 Fm12 (fun k _ hk => own4 k hk)
  refine da_op rfl (d_as (v := (Value.slice v12pa v12pn v12pc)) rfl ?_)
  refine da_nil ?_
  refine W_region rfl ?_
  refine da_op rfl (d_mv (v := .int .i64 28) rfl ?_)
  refine da_op rfl (d_iarith (r := 24) rfl rfl (.inr (.inl ⟨rfl, (by decide)⟩)) ?_)
  refine da_op rfl (d_as (v := .int .i64 24) rfl ?_)
  refine da_nil ?_
  refine Wr_next ?_
  refine W_seq ?_
  refine W_seq ?_
  refine W_region rfl ?_
  refine da_op rfl (d_mv (v := .int .i64 24) rfl ?_)
  refine da_op rfl (d_icmpL (b := true) cGeq rfl rfl (by decide) ?_)
  refine da_nil ?_
  refine W_true rfl ?_
  refine W_skip ?_
  refine W_seq ?_
  refine W_block ?_
  refine W_region rfl ?_
  refine da_op rfl (d_mv (v := (Value.slice v12pa v12pn v12pc)) rfl ?_)
  refine da_op rfl (d_mv (v := .int .i64 m1) rfl ?_)
  refine da_op rfl (d_mv (v := .int .i64 24) rfl ?_)
  refine da_op rfl (d_iconvL (r := 24) un3 un219 rfl (by decide) ?_)
  refine da_op rfl (d_shrL rfl rfl (n := 24) (by decide) ?_)
  refine da_op rfl (d_and rfl rfl ?_)
  obtain ⟨m15, hm15, hr⟩ := bind_out hr
  refine da_op rfl (d_sidx un9 rfl rfl hm15 ?_)
  refine da_op rfl (d_bslice (vs := [(0, .int .u8 m15)]) (cs := #[.int .u8 m15]) un73 (pc rfl rfl) (by kernel_rfl) fun w16 B16 E16 => ?_)
  have fr16 : ∀ k, (Value.slice (some ⟨w12.heap.size, 0, none⟩) 1 1).ownBlock = some k → w12.heap.size ≤ k := fun k hk => by cases hk; exact Nat.le_refl _
  have own16 : ∀ k, (Value.slice (some ⟨w12.heap.size, 0, none⟩) 1 1).ownBlock = some k → w.heap.size ≤ k := fun k hk => Nat.le_trans X14.size (fr16 k hk)
  have sp17 : ∀ k, (Value.slice v12pa v12pn v12pc).ownBlock = some k → ¬ (Value.slice (some ⟨w12.heap.size, 0, none⟩) 1 1).ownBlock = some k := apart_fresh O12 fr16
  have X18 : Ext w w16 := X14.trans E16
  have O16 : OS w16 5 encI_u8 (Value.slice (some ⟨w12.heap.size, 0, none⟩) 1 1) [m15] := OS.box (xs := [m15]) B16 (lc_v rfl rfl) (Nat.le_of_ble_eq_true rfl)
  obtain ⟨m19, hm19, hr⟩ := bind_out hr
  have B20 : OS w16 5 encI_u8 (Value.slice v12pa v12pn v12pc) m10 := O12.ext E16
  refine da_op rfl (d_append (e := encI_u8) (v := (Value.slice v12pa v12pn v12pc)) (y := (Value.slice (some ⟨w12.heap.size, 0, none⟩) 1 1)) un73 info5 rfl (by kernel_rfl) (by kernel_rfl) (by decide) (by decide) rfl rfl B20 O16.rs hm19 fun v21 w21 O21 Fm21 at_21 nl21 => ?_)
  obtain ⟨v21pa, v21pn, v21pc, rfl⟩ := O21.vals
  have own21 : ∀ k, (Value.slice v21pa v21pn v21pc).ownBlock = some k → w.heap.size ≤ k := app_own (w := w16) at_21 own12 X18.size
  have sp22 : ∀ k, (Value.slice (some ⟨w12.heap.size, 0, none⟩) 1 1).ownBlock = some k → ¬ (Value.slice v21pa v21pn v21pc).ownBlock = some k := app_nr at_21 (apart_symm sp17) O16
  have X23 : Ext w w21 := Ext.step X18 Fm21 (fun k _ hk => own12 k hk)
  refine da_op rfl (d_as (v := (Value.slice v21pa v21pn v21pc)) rfl ?_)
  refine da_nil ?_
  refine W_region rfl ?_
  refine da_op rfl (d_mv (v := .int .i64 24) rfl ?_)
  refine da_op rfl (d_iarith (r := 20) rfl rfl (.inr (.inl ⟨rfl, (by decide)⟩)) ?_)
  refine da_op rfl (d_as (v := .int .i64 20) rfl ?_)
  refine da_nil ?_
  refine Wr_next ?_
  refine W_seq ?_
  refine W_seq ?_
  refine W_region rfl ?_
  refine da_op rfl (d_mv (v := .int .i64 20) rfl ?_)
  refine da_op rfl (d_icmpL (b := true) cGeq rfl rfl (by decide) ?_)
  refine da_nil ?_
  refine W_true rfl ?_
  refine W_skip ?_
  refine W_seq ?_
  refine W_block ?_
  refine W_region rfl ?_
  refine da_op rfl (d_mv (v := (Value.slice v21pa v21pn v21pc)) rfl ?_)
  refine da_op rfl (d_mv (v := .int .i64 m1) rfl ?_)
  refine da_op rfl (d_mv (v := .int .i64 20) rfl ?_)
  refine da_op rfl (d_iconvL (r := 20) un3 un219 rfl (by decide) ?_)
  refine da_op rfl (d_shrL rfl rfl (n := 20) (by decide) ?_)
  refine da_op rfl (d_and rfl rfl ?_)
  obtain ⟨m24, hm24, hr⟩ := bind_out hr
  refine da_op rfl (d_sidx un9 rfl rfl hm24 ?_)
  refine da_op rfl (d_bslice (vs := [(0, .int .u8 m24)]) (cs := #[.int .u8 m24]) un73 (pc rfl rfl) (by kernel_rfl) fun w25 B25 E25 => ?_)
  have fr25 : ∀ k, (Value.slice (some ⟨w21.heap.size, 0, none⟩) 1 1).ownBlock = some k → w21.heap.size ≤ k := fun k hk => by cases hk; exact Nat.le_refl _
  have own25 : ∀ k, (Value.slice (some ⟨w21.heap.size, 0, none⟩) 1 1).ownBlock = some k → w.heap.size ≤ k := fun k hk => Nat.le_trans X23.size (fr25 k hk)
  have sp26 : ∀ k, (Value.slice v21pa v21pn v21pc).ownBlock = some k → ¬ (Value.slice (some ⟨w21.heap.size, 0, none⟩) 1 1).ownBlock = some k := apart_fresh O21 fr25
  have X27 : Ext w w25 := X23.trans E25
  have O25 : OS w25 5 encI_u8 (Value.slice (some ⟨w21.heap.size, 0, none⟩) 1 1) [m24] := OS.box (xs := [m24]) B25 (lc_v rfl rfl) (Nat.le_of_ble_eq_true rfl)
  obtain ⟨m28, hm28, hr⟩ := bind_out hr
  have B29 : OS w25 5 encI_u8 (Value.slice v21pa v21pn v21pc) m19 := O21.ext E25
  refine da_op rfl (d_append (e := encI_u8) (v := (Value.slice v21pa v21pn v21pc)) (y := (Value.slice (some ⟨w21.heap.size, 0, none⟩) 1 1)) un73 info5 rfl (by kernel_rfl) (by kernel_rfl) (by decide) (by decide) rfl rfl B29 O25.rs hm28 fun v30 w30 O30 Fm30 at_30 nl30 => ?_)
  obtain ⟨v30pa, v30pn, v30pc, rfl⟩ := O30.vals
  have own30 : ∀ k, (Value.slice v30pa v30pn v30pc).ownBlock = some k → w.heap.size ≤ k := app_own (w := w25) at_30 own21 X27.size
  have sp31 : ∀ k, (Value.slice (some ⟨w21.heap.size, 0, none⟩) 1 1).ownBlock = some k → ¬ (Value.slice v30pa v30pn v30pc).ownBlock = some k := app_nr at_30 (apart_symm sp26) O25
  have X32 : Ext w w30 := Ext.step X27 Fm30 (fun k _ hk => own21 k hk)
  refine da_op rfl (d_as (v := (Value.slice v30pa v30pn v30pc)) rfl ?_)
  refine da_nil ?_
  refine W_region rfl ?_
  refine da_op rfl (d_mv (v := .int .i64 20) rfl ?_)
  refine da_op rfl (d_iarith (r := 16) rfl rfl (.inr (.inl ⟨rfl, (by decide)⟩)) ?_)
  refine da_op rfl (d_as (v := .int .i64 16) rfl ?_)
  refine da_nil ?_
  refine Wr_next ?_
  refine W_seq ?_
  refine W_seq ?_
  refine W_region rfl ?_
  refine da_op rfl (d_mv (v := .int .i64 16) rfl ?_)
  refine da_op rfl (d_icmpL (b := true) cGeq rfl rfl (by decide) ?_)
  refine da_nil ?_
  refine W_true rfl ?_
  refine W_skip ?_
  refine W_seq ?_
  refine W_block ?_
  refine W_region rfl ?_
  refine da_op rfl (d_mv (v := (Value.slice v30pa v30pn v30pc)) rfl ?_)
  refine da_op rfl (d_mv (v := .int .i64 m1) rfl ?_)
  refine da_op rfl (d_mv (v := .int .i64 16) rfl ?_)
  refine da_op rfl (d_iconvL (r := 16) un3 un219 rfl (by decide) ?_)
  refine da_op rfl (d_shrL rfl rfl (n := 16) (by decide) ?_)
  refine da_op rfl (d_and rfl rfl ?_)
  obtain ⟨m33, hm33, hr⟩ := bind_out hr
  refine da_op rfl (d_sidx un9 rfl rfl hm33 ?_)
  refine da_op rfl (d_bslice (vs := [(0, .int .u8 m33)]) (cs := #[.int .u8 m33]) un73 (pc rfl rfl) (by kernel_rfl) fun w34 B34 E34 => ?_)
  have fr34 : ∀ k, (Value.slice (some ⟨w30.heap.size, 0, none⟩) 1 1).ownBlock = some k → w30.heap.size ≤ k := fun k hk => by cases hk; exact Nat.le_refl _
  have own34 : ∀ k, (Value.slice (some ⟨w30.heap.size, 0, none⟩) 1 1).ownBlock = some k → w.heap.size ≤ k := fun k hk => Nat.le_trans X32.size (fr34 k hk)
  have sp35 : ∀ k, (Value.slice v30pa v30pn v30pc).ownBlock = some k → ¬ (Value.slice (some ⟨w30.heap.size, 0, none⟩) 1 1).ownBlock = some k := apart_fresh O30 fr34
  have X36 : Ext w w34 := X32.trans E34
  have O34 : OS w34 5 encI_u8 (Value.slice (some ⟨w30.heap.size, 0, none⟩) 1 1) [m33] := OS.box (xs := [m33]) B34 (lc_v rfl rfl) (Nat.le_of_ble_eq_true rfl)
  obtain ⟨m37, hm37, hr⟩ := bind_out hr
  have B38 : OS w34 5 encI_u8 (Value.slice v30pa v30pn v30pc) m28 := O30.ext E34
  refine da_op rfl (d_append (e := encI_u8) (v := (Value.slice v30pa v30pn v30pc)) (y := (Value.slice (some ⟨w30.heap.size, 0, none⟩) 1 1)) un73 info5 rfl (by kernel_rfl) (by kernel_rfl) (by decide) (by decide) rfl rfl B38 O34.rs hm37 fun v39 w39 O39 Fm39 at_39 nl39 => ?_)
  obtain ⟨v39pa, v39pn, v39pc, rfl⟩ := O39.vals
  have own39 : ∀ k, (Value.slice v39pa v39pn v39pc).ownBlock = some k → w.heap.size ≤ k := app_own (w := w34) at_39 own30 X36.size
  have sp40 : ∀ k, (Value.slice (some ⟨w30.heap.size, 0, none⟩) 1 1).ownBlock = some k → ¬ (Value.slice v39pa v39pn v39pc).ownBlock = some k := app_nr at_39 (apart_symm sp35) O34
  have X41 : Ext w w39 := Ext.step X36 Fm39 (fun k _ hk => own30 k hk)
  refine da_op rfl (d_as (v := (Value.slice v39pa v39pn v39pc)) rfl ?_)
  refine da_nil ?_
  refine W_region rfl ?_
  refine da_op rfl (d_mv (v := .int .i64 16) rfl ?_)
  refine da_op rfl (d_iarith (r := 12) rfl rfl (.inr (.inl ⟨rfl, (by decide)⟩)) ?_)
  refine da_op rfl (d_as (v := .int .i64 12) rfl ?_)
  refine da_nil ?_
  refine Wr_next ?_
  refine W_seq ?_
  refine W_seq ?_
  refine W_region rfl ?_
  refine da_op rfl (d_mv (v := .int .i64 12) rfl ?_)
  refine da_op rfl (d_icmpL (b := true) cGeq rfl rfl (by decide) ?_)
  refine da_nil ?_
  refine W_true rfl ?_
  refine W_skip ?_
  refine W_seq ?_
  refine W_block ?_
  refine W_region rfl ?_
  refine da_op rfl (d_mv (v := (Value.slice v39pa v39pn v39pc)) rfl ?_)
  refine da_op rfl (d_mv (v := .int .i64 m1) rfl ?_)
  refine da_op rfl (d_mv (v := .int .i64 12) rfl ?_)
  refine da_op rfl (d_iconvL (r := 12) un3 un219 rfl (by decide) ?_)
  refine da_op rfl (d_shrL rfl rfl (n := 12) (by decide) ?_)
  refine da_op rfl (d_and rfl rfl ?_)
  obtain ⟨m42, hm42, hr⟩ := bind_out hr
  refine da_op rfl (d_sidx un9 rfl rfl hm42 ?_)
  refine da_op rfl (d_bslice (vs := [(0, .int .u8 m42)]) (cs := #[.int .u8 m42]) un73 (pc rfl rfl) (by kernel_rfl) fun w43 B43 E43 => ?_)
  have fr43 : ∀ k, (Value.slice (some ⟨w39.heap.size, 0, none⟩) 1 1).ownBlock = some k → w39.heap.size ≤ k := fun k hk => by cases hk; exact Nat.le_refl _
  have own43 : ∀ k, (Value.slice (some ⟨w39.heap.size, 0, none⟩) 1 1).ownBlock = some k → w.heap.size ≤ k := fun k hk => Nat.le_trans X41.size (fr43 k hk)
  have sp44 : ∀ k, (Value.slice v39pa v39pn v39pc).ownBlock = some k → ¬ (Value.slice (some ⟨w39.heap.size, 0, none⟩) 1 1).ownBlock = some k := apart_fresh O39 fr43
  have X45 : Ext w w43 := X41.trans E43
  have O43 : OS w43 5 encI_u8 (Value.slice (some ⟨w39.heap.size, 0, none⟩) 1 1) [m42] := OS.box (xs := [m42]) B43 (lc_v rfl rfl) (Nat.le_of_ble_eq_true rfl)
  obtain ⟨m46, hm46, hr⟩ := bind_out hr
  have B47 : OS w43 5 encI_u8 (Value.slice v39pa v39pn v39pc) m37 := O39.ext E43
  refine da_op rfl (d_append (e := encI_u8) (v := (Value.slice v39pa v39pn v39pc)) (y := (Value.slice (some ⟨w39.heap.size, 0, none⟩) 1 1)) un73 info5 rfl (by kernel_rfl) (by kernel_rfl) (by decide) (by decide) rfl rfl B47 O43.rs hm46 fun v48 w48 O48 Fm48 at_48 nl48 => ?_)
  obtain ⟨v48pa, v48pn, v48pc, rfl⟩ := O48.vals
  have own48 : ∀ k, (Value.slice v48pa v48pn v48pc).ownBlock = some k → w.heap.size ≤ k := app_own (w := w43) at_48 own39 X45.size
  have sp49 : ∀ k, (Value.slice (some ⟨w39.heap.size, 0, none⟩) 1 1).ownBlock = some k → ¬ (Value.slice v48pa v48pn v48pc).ownBlock = some k := app_nr at_48 (apart_symm sp44) O43
  have X50 : Ext w w48 := Ext.step X45 Fm48 (fun k _ hk => own39 k hk)
  refine da_op rfl (d_as (v := (Value.slice v48pa v48pn v48pc)) rfl ?_)
  refine da_nil ?_
  refine W_region rfl ?_
  refine da_op rfl (d_mv (v := .int .i64 12) rfl ?_)
  refine da_op rfl (d_iarith (r := 8) rfl rfl (.inr (.inl ⟨rfl, (by decide)⟩)) ?_)
  refine da_op rfl (d_as (v := .int .i64 8) rfl ?_)
  refine da_nil ?_
  refine Wr_next ?_
  refine W_seq ?_
  refine W_seq ?_
  refine W_region rfl ?_
  refine da_op rfl (d_mv (v := .int .i64 8) rfl ?_)
  refine da_op rfl (d_icmpL (b := true) cGeq rfl rfl (by decide) ?_)
  refine da_nil ?_
  refine W_true rfl ?_
  refine W_skip ?_
  refine W_seq ?_
  refine W_block ?_
  refine W_region rfl ?_
  refine da_op rfl (d_mv (v := (Value.slice v48pa v48pn v48pc)) rfl ?_)
  refine da_op rfl (d_mv (v := .int .i64 m1) rfl ?_)
  refine da_op rfl (d_mv (v := .int .i64 8) rfl ?_)
  refine da_op rfl (d_iconvL (r := 8) un3 un219 rfl (by decide) ?_)
  refine da_op rfl (d_shrL rfl rfl (n := 8) (by decide) ?_)
  refine da_op rfl (d_and rfl rfl ?_)
  obtain ⟨m51, hm51, hr⟩ := bind_out hr
  refine da_op rfl (d_sidx un9 rfl rfl hm51 ?_)
  refine da_op rfl (d_bslice (vs := [(0, .int .u8 m51)]) (cs := #[.int .u8 m51]) un73 (pc rfl rfl) (by kernel_rfl) fun w52 B52 E52 => ?_)
  have fr52 : ∀ k, (Value.slice (some ⟨w48.heap.size, 0, none⟩) 1 1).ownBlock = some k → w48.heap.size ≤ k := fun k hk => by cases hk; exact Nat.le_refl _
  have own52 : ∀ k, (Value.slice (some ⟨w48.heap.size, 0, none⟩) 1 1).ownBlock = some k → w.heap.size ≤ k := fun k hk => Nat.le_trans X50.size (fr52 k hk)
  have sp53 : ∀ k, (Value.slice v48pa v48pn v48pc).ownBlock = some k → ¬ (Value.slice (some ⟨w48.heap.size, 0, none⟩) 1 1).ownBlock = some k := apart_fresh O48 fr52
  have X54 : Ext w w52 := X50.trans E52
  have O52 : OS w52 5 encI_u8 (Value.slice (some ⟨w48.heap.size, 0, none⟩) 1 1) [m51] := OS.box (xs := [m51]) B52 (lc_v rfl rfl) (Nat.le_of_ble_eq_true rfl)
  obtain ⟨m55, hm55, hr⟩ := bind_out hr
  have B56 : OS w52 5 encI_u8 (Value.slice v48pa v48pn v48pc) m46 := O48.ext E52
  refine da_op rfl (d_append (e := encI_u8) (v := (Value.slice v48pa v48pn v48pc)) (y := (Value.slice (some ⟨w48.heap.size, 0, none⟩) 1 1)) un73 info5 rfl (by kernel_rfl) (by kernel_rfl) (by decide) (by decide) rfl rfl B56 O52.rs hm55 fun v57 w57 O57 Fm57 at_57 nl57 => ?_)
  obtain ⟨v57pa, v57pn, v57pc, rfl⟩ := O57.vals
  have own57 : ∀ k, (Value.slice v57pa v57pn v57pc).ownBlock = some k → w.heap.size ≤ k := app_own (w := w52) at_57 own48 X54.size
  have sp58 : ∀ k, (Value.slice (some ⟨w48.heap.size, 0, none⟩) 1 1).ownBlock = some k → ¬ (Value.slice v57pa v57pn v57pc).ownBlock = some k := app_nr at_57 (apart_symm sp53) O52
  have X59 : Ext w w57 := Ext.step X54 Fm57 (fun k _ hk => own48 k hk)
  refine da_op rfl (d_as (v := (Value.slice v57pa v57pn v57pc)) rfl ?_)
  refine da_nil ?_
  refine W_region rfl ?_
  refine da_op rfl (d_mv (v := .int .i64 8) rfl ?_)
  refine da_op rfl (d_iarith (r := 4) rfl rfl (.inr (.inl ⟨rfl, (by decide)⟩)) ?_)
  refine da_op rfl (d_as (v := .int .i64 4) rfl ?_)
  refine da_nil ?_
  refine Wr_next ?_
  refine W_seq ?_
  refine W_seq ?_
  refine W_region rfl ?_
  refine da_op rfl (d_mv (v := .int .i64 4) rfl ?_)
  refine da_op rfl (d_icmpL (b := true) cGeq rfl rfl (by decide) ?_)
  refine da_nil ?_
  refine W_true rfl ?_
  refine W_skip ?_
  refine W_seq ?_
  refine W_block ?_
  refine W_region rfl ?_
  refine da_op rfl (d_mv (v := (Value.slice v57pa v57pn v57pc)) rfl ?_)
  refine da_op rfl (d_mv (v := .int .i64 m1) rfl ?_)
  refine da_op rfl (d_mv (v := .int .i64 4) rfl ?_)
  refine da_op rfl (d_iconvL (r := 4) un3 un219 rfl (by decide) ?_)
  refine da_op rfl (d_shrL rfl rfl (n := 4) (by decide) ?_)
  refine da_op rfl (d_and rfl rfl ?_)
  obtain ⟨m60, hm60, hr⟩ := bind_out hr
  refine da_op rfl (d_sidx un9 rfl rfl hm60 ?_)
  refine da_op rfl (d_bslice (vs := [(0, .int .u8 m60)]) (cs := #[.int .u8 m60]) un73 (pc rfl rfl) (by kernel_rfl) fun w61 B61 E61 => ?_)
  have fr61 : ∀ k, (Value.slice (some ⟨w57.heap.size, 0, none⟩) 1 1).ownBlock = some k → w57.heap.size ≤ k := fun k hk => by cases hk; exact Nat.le_refl _
  have own61 : ∀ k, (Value.slice (some ⟨w57.heap.size, 0, none⟩) 1 1).ownBlock = some k → w.heap.size ≤ k := fun k hk => Nat.le_trans X59.size (fr61 k hk)
  have sp62 : ∀ k, (Value.slice v57pa v57pn v57pc).ownBlock = some k → ¬ (Value.slice (some ⟨w57.heap.size, 0, none⟩) 1 1).ownBlock = some k := apart_fresh O57 fr61
  have X63 : Ext w w61 := X59.trans E61
  have O61 : OS w61 5 encI_u8 (Value.slice (some ⟨w57.heap.size, 0, none⟩) 1 1) [m60] := OS.box (xs := [m60]) B61 (lc_v rfl rfl) (Nat.le_of_ble_eq_true rfl)
  obtain ⟨m64, hm64, hr⟩ := bind_out hr
  have B65 : OS w61 5 encI_u8 (Value.slice v57pa v57pn v57pc) m55 := O57.ext E61
  refine da_op rfl (d_append (e := encI_u8) (v := (Value.slice v57pa v57pn v57pc)) (y := (Value.slice (some ⟨w57.heap.size, 0, none⟩) 1 1)) un73 info5 rfl (by kernel_rfl) (by kernel_rfl) (by decide) (by decide) rfl rfl B65 O61.rs hm64 fun v66 w66 O66 Fm66 at_66 nl66 => ?_)
  obtain ⟨v66pa, v66pn, v66pc, rfl⟩ := O66.vals
  have own66 : ∀ k, (Value.slice v66pa v66pn v66pc).ownBlock = some k → w.heap.size ≤ k := app_own (w := w61) at_66 own57 X63.size
  have sp67 : ∀ k, (Value.slice (some ⟨w57.heap.size, 0, none⟩) 1 1).ownBlock = some k → ¬ (Value.slice v66pa v66pn v66pc).ownBlock = some k := app_nr at_66 (apart_symm sp62) O61
  have X68 : Ext w w66 := Ext.step X63 Fm66 (fun k _ hk => own57 k hk)
  refine da_op rfl (d_as (v := (Value.slice v66pa v66pn v66pc)) rfl ?_)
  refine da_nil ?_
  refine W_region rfl ?_
  refine da_op rfl (d_mv (v := .int .i64 4) rfl ?_)
  refine da_op rfl (d_iarith (r := 0) rfl rfl (.inr (.inl ⟨rfl, (by decide)⟩)) ?_)
  refine da_op rfl (d_as (v := .int .i64 0) rfl ?_)
  refine da_nil ?_
  refine Wr_next ?_
  refine W_seq ?_
  refine W_seq ?_
  refine W_region rfl ?_
  refine da_op rfl (d_mv (v := .int .i64 0) rfl ?_)
  refine da_op rfl (d_icmpL (b := true) cGeq rfl rfl (by decide) ?_)
  refine da_nil ?_
  refine W_true rfl ?_
  refine W_skip ?_
  refine W_seq ?_
  refine W_block ?_
  refine W_region rfl ?_
  refine da_op rfl (d_mv (v := (Value.slice v66pa v66pn v66pc)) rfl ?_)
  refine da_op rfl (d_mv (v := .int .i64 m1) rfl ?_)
  refine da_op rfl (d_mv (v := .int .i64 0) rfl ?_)
  refine da_op rfl (d_iconvL (r := 0) un3 un219 rfl (by decide) ?_)
  refine da_op rfl (d_shrL rfl rfl (n := 0) (by decide) ?_)
  refine da_op rfl (d_and rfl rfl ?_)
  obtain ⟨m69, hm69, hr⟩ := bind_out hr
  refine da_op rfl (d_sidx un9 rfl rfl hm69 ?_)
  refine da_op rfl (d_bslice (vs := [(0, .int .u8 m69)]) (cs := #[.int .u8 m69]) un73 (pc rfl rfl) (by kernel_rfl) fun w70 B70 E70 => ?_)
  have fr70 : ∀ k, (Value.slice (some ⟨w66.heap.size, 0, none⟩) 1 1).ownBlock = some k → w66.heap.size ≤ k := fun k hk => by cases hk; exact Nat.le_refl _
  have own70 : ∀ k, (Value.slice (some ⟨w66.heap.size, 0, none⟩) 1 1).ownBlock = some k → w.heap.size ≤ k := fun k hk => Nat.le_trans X68.size (fr70 k hk)
  have sp71 : ∀ k, (Value.slice v66pa v66pn v66pc).ownBlock = some k → ¬ (Value.slice (some ⟨w66.heap.size, 0, none⟩) 1 1).ownBlock = some k := apart_fresh O66 fr70
  have X72 : Ext w w70 := X68.trans E70
  have O70 : OS w70 5 encI_u8 (Value.slice (some ⟨w66.heap.size, 0, none⟩) 1 1) [m69] := OS.box (xs := [m69]) B70 (lc_v rfl rfl) (Nat.le_of_ble_eq_true rfl)
  obtain ⟨m73, hm73, hr⟩ := bind_out hr
  have B74 : OS w70 5 encI_u8 (Value.slice v66pa v66pn v66pc) m64 := O66.ext E70
  refine da_op rfl (d_append (e := encI_u8) (v := (Value.slice v66pa v66pn v66pc)) (y := (Value.slice (some ⟨w66.heap.size, 0, none⟩) 1 1)) un73 info5 rfl (by kernel_rfl) (by kernel_rfl) (by decide) (by decide) rfl rfl B74 O70.rs hm73 fun v75 w75 O75 Fm75 at_75 nl75 => ?_)
  obtain ⟨v75pa, v75pn, v75pc, rfl⟩ := O75.vals
  have own75 : ∀ k, (Value.slice v75pa v75pn v75pc).ownBlock = some k → w.heap.size ≤ k := app_own (w := w70) at_75 own66 X72.size
  have sp76 : ∀ k, (Value.slice (some ⟨w66.heap.size, 0, none⟩) 1 1).ownBlock = some k → ¬ (Value.slice v75pa v75pn v75pc).ownBlock = some k := app_nr at_75 (apart_symm sp71) O70
  have X77 : Ext w w75 := Ext.step X72 Fm75 (fun k _ hk => own66 k hk)
  refine da_op rfl (d_as (v := (Value.slice v75pa v75pn v75pc)) rfl ?_)
  refine da_nil ?_
  refine W_region rfl ?_
  refine da_op rfl (d_mv (v := .int .i64 0) rfl ?_)
  refine da_op rfl (d_iarith (r := -4) rfl rfl (.inr (.inl ⟨rfl, (by decide)⟩)) ?_)
  refine da_op rfl (d_as (v := .int .i64 (-4)) rfl ?_)
  refine da_nil ?_
  refine Wr_next ?_
  refine W_seq ?_
  refine W_seq ?_
  refine W_region rfl ?_
  refine da_op rfl (d_mv (v := .int .i64 (-4)) rfl ?_)
  refine da_op rfl (d_icmpL (b := false) cGeq rfl rfl (by decide) ?_)
  refine da_nil ?_
  refine W_false rfl ?_
  refine W_exit ?_
  refine W_seq ?_
  refine W_region rfl ?_
  refine da_op rfl (d_mv (v := (Value.slice v75pa v75pn v75pc)) rfl ?_)
  refine da_op rfl (d_bstr (e := encI_u8) (v := (Value.slice v75pa v75pn v75pc)) rfl un73 un5 un9 rfl O75.rs ?_)
  refine da_op rfl (d_as (v := .string (bs (u8s m73))) rfl ?_)
  refine da_nil ?_
  refine W_ret ?_
  obtain rfl := Option.some.inj hr
  refine ⟨_, res1 (rv_tmp rfl), ?_⟩
  exact ⟨rfl, X77⟩
set_option maxHeartbeats 4000000 in
theorem c136 (p0 : List Nat) (p0a : Option Addr) (p0n : Nat) (p0c : Nat) (r : List UInt8) (w : World) (hr : M.spec_l01NText p0 = some r) (p0R : RS w encF_f32 (Value.slice p0a p0n p0c) p0) :
    Calls Tryd.prog 136 #[(Value.slice p0a p0n p0c)] w fun e w' => e = .returned (.string (bs r)) ∧ Ext w w' := by
  refine calls_of_W Tryd.func136 rfl (Nat.le_of_ble_eq_true rfl) ?_
  refine W_seq ?_
  refine W_region rfl ?_
  refine da_op rfl (d_as (v := .string (bs ([] : List UInt8))) rfl ?_)
  refine da_nil ?_
  refine W_seq ?_
  refine W_seq ?_
  refine W_region rfl ?_
  refine da_op rfl (d_mv (v := (Value.slice p0a p0n p0c)) rfl ?_)
  refine da_op rfl (d_len (e := encF_f32) un53 rfl p0R ?_)
  refine da_op rfl (d_icmp cEql rfl rfl ?_)
  refine da_nil ?_
  refine W_cond (b := (icmp .eql ((p0).length : Int) 0)) rfl (fun hc1 => ?_) (fun hc1 => ?_)
  · skip
    replace hr := bif_t hr hc1
    refine W_seq ?_
    refine W_region rfl ?_
    refine da_op rfl (d_as (v := .string (bs ([110, 111, 110, 101] : List UInt8))) rfl ?_)
    refine da_nil ?_
    refine W_ret ?_
    obtain rfl := Option.some.inj hr
    refine ⟨_, res1 (rv_tmp rfl), ?_⟩
    exact ⟨rfl, (Ext.refl w)⟩
  · skip
    replace hr := bif_f hr hc1
    refine W_skip ?_
    refine W_seq ?_
    refine W_region rfl ?_
    refine da_op rfl (d_mv (v := (Value.slice p0a p0n p0c)) rfl ?_)
    obtain ⟨m2, hm2, hr⟩ := bind_out hr
    refine da_op rfl (d_index (e := encF_f32) (v := (Value.slice p0a p0n p0c)) un53 size22 rfl rfl p0R hm2 fun g3 o3 cu3 T3 fr3 vs3 hv3 hg3 hp3 hq3 => ?_)
    obtain ⟨e3_r0, rfl, e3_h0⟩ := dec_encF_f32 hq3
    refine da_op rfl (d_load (v := .float .f32 e3_r0) rfl agg22 hg3 (sub_get (vs := #[.float .f32 e3_r0]) hp3 (i := 0) rfl) ?_)
    obtain ⟨m4, hm4, hr⟩ := bind_out hr
    refine da_op rfl (d_cl (vs := [.float .f32 e3_r0]) en176 (ac rfl rfl) rfl ?_)
    refine (c176 m2 e3_r0 m4 w hm4 e3_h0).mono ?_
    rintro _ w5 ⟨rfl, E5⟩
    refine ⟨_, rfl, ?_⟩
    have X6 : Ext w w5 := (Ext.refl w).trans E5
    refine da_op rfl (d_as (v := .string (bs m4)) rfl ?_)
    refine da_nil ?_
    refine W_seq ?_
    refine W_seq ?_
    refine W_region rfl ?_
    refine da_op rfl (d_as (v := .int .i64 1) rfl ?_)
    refine da_nil ?_
    refine W_block ?_
    obtain ⟨m7, hm7, hr⟩ := bind_out hr
    refine W_loopM hm7 (fun (s7 : List UInt8 × Int) σ w' => σ 3 = .string (bs s7.1) ∧ σ 4 = .int .i64 s7.2 ∧ σ 0 = (Value.slice p0a p0n p0c) ∧ Ext w w') (fun (e7 : (List UInt8)) ex σ w' => ex = .exit 0 ∧ σ 3 = .string (bs e7) ∧ Ext w w') ⟨rfl, rfl, rfl, X6⟩ ?_ ?_
    · skip
      rintro s7 σl7 wl7 r7l ⟨i7_S3, i7_S4, i7_S0, i7_X⟩ hr
      refine W_seq ?_
      refine W_seq ?_
      refine W_region rfl ?_
      refine da_op rfl (d_mv (v := .int .i64 s7.2) i7_S4 ?_)
      refine da_op rfl (d_mv (v := (Value.slice p0a p0n p0c)) i7_S0 ?_)
      have B8 : RS wl7 encF_f32 (Value.slice p0a p0n p0c) p0 := p0R.ext i7_X
      refine da_op rfl (d_len (e := encF_f32) un53 rfl B8 ?_)
      refine da_op rfl (d_icmp cLss rfl rfl ?_)
      refine da_nil ?_
      refine W_cond (b := (icmp .lss s7.2 ((p0).length : Int))) rfl (fun hc9 => ?_) (fun hc9 => ?_)
      · skip
        replace hr := bif_t hr hc9
        refine W_skip ?_
        refine W_seq ?_
        refine W_block ?_
        refine W_region rfl ?_
        refine da_op rfl (d_mv (v := .string (bs s7.1)) i7_S3 ?_)
        refine da_op rfl (d_mv (v := (Value.slice p0a p0n p0c)) i7_S0 ?_)
        refine da_op rfl (d_mv (v := .int .i64 s7.2) i7_S4 ?_)
        obtain ⟨m10, hm10, hr⟩ := bind_out hr
        refine da_op rfl (d_index (e := encF_f32) (v := (Value.slice p0a p0n p0c)) un53 size22 rfl rfl B8 hm10 fun g11 o11 cu11 T11 fr11 vs11 hv11 hg11 hp11 hq11 => ?_)
        obtain ⟨e11_r0, rfl, e11_h0⟩ := dec_encF_f32 hq11
        refine da_op rfl (d_load (v := .float .f32 e11_r0) rfl agg22 hg11 (sub_get (vs := #[.float .f32 e11_r0]) hp11 (i := 0) rfl) ?_)
        obtain ⟨m12, hm12, hr⟩ := bind_out hr
        refine da_op rfl (d_cl (vs := [.float .f32 e11_r0]) en176 (ac rfl rfl) rfl ?_)
        refine (c176 m10 e11_r0 m12 wl7 hm12 e11_h0).mono ?_
        rintro _ w13 ⟨rfl, E13⟩
        refine ⟨_, rfl, ?_⟩
        have X14 : Ext w w13 := i7_X.trans E13
        obtain ⟨m15, hm15, hr⟩ := bind_out hr
        refine da_op rfl (d_scat rfl rfl hm15 ?_)
        obtain ⟨m16, hm16, hr⟩ := bind_out hr
        refine da_op rfl (d_scat rfl rfl hm16 ?_)
        refine da_op rfl (d_as (v := .string (bs m16)) rfl ?_)
        refine da_nil ?_
        refine W_region rfl ?_
        refine da_op rfl (d_mv (v := .int .i64 s7.2) i7_S4 ?_)
        refine da_op rfl (d_iarith rfl rfl (.inl ⟨rfl, rfl⟩) ?_)
        refine da_op rfl (d_as (v := .int .i64 (IntKind.i64.wrap (s7.2 + 1))) rfl ?_)
        refine da_nil ?_
        obtain rfl := Option.some.inj hr
        exact ⟨_, rfl, ⟨rfl, rfl, i7_S0, X14⟩⟩
      · skip
        replace hr := bif_f hr hc9
        refine W_exit ?_
        obtain rfl := Option.some.inj hr
        exact ⟨_, rfl, rfl, i7_S3, i7_X⟩
    · skip
      intro ex σx7 wx7 hq
      obtain ⟨rfl, q7_0_S3, q7_0_X⟩ := hq
      refine W_seq ?_
      refine W_region rfl ?_
      refine da_op rfl (d_mv (v := .string (bs m7)) q7_0_S3 ?_)
      refine da_op rfl (d_as (v := .string (bs m7)) rfl ?_)
      refine da_nil ?_
      refine W_ret ?_
      obtain rfl := Option.some.inj hr
      refine ⟨_, res1 (rv_tmp rfl), ?_⟩
      exact ⟨rfl, q7_0_X⟩
set_option maxHeartbeats 4000000 in
theorem c175 (p0 : SVector) (p0r0 : Nat) (p0r1 : Nat) (p0r2 : Nat) (r : List UInt8) (w : World) (hr : M.spec_l01VText p0 = some r) (p0h0 : cn .f32 p0r0 = p0.x) (p0h1 : cn .f32 p0r1 = p0.y) (p0h2 : cn .f32 p0r2 = p0.z) :
    Calls Tryd.prog 175 #[.agg #[.float .f32 p0r0, .float .f32 p0r1, .float .f32 p0r2]] w fun e w' => e = .returned (.string (bs r)) ∧ Ext w w' := by
  refine calls_of_W Tryd.func175 rfl (Nat.le_of_ble_eq_true rfl) ?_
  refine W_seq ?_
  refine W_region rfl ?_
  refine da_op rfl (d_box (cs := #[.float .f32 p0r0, .float .f32 p0r1, .float .f32 p0r2]) rfl fun w1 B1 E1 => ?_)
  have own2 : w.heap.size ≤ w.heap.size := Nat.le_trans (Ext.refl w).size (Nat.le_refl _)
  have X3 : Ext w w1 := (Ext.refl w).trans E1
  refine da_op rfl (d_as (v := .string (bs ([] : List UInt8))) rfl ?_)
  refine da_nil ?_
  refine W_seq ?_
  refine W_region rfl ?_
  refine da_op rfl (d_fieldAddr rfl (fa44_0 _ _) ?_)
  refine da_op rfl (d_load (v := .float .f32 p0r0) rfl agg22 B1 rfl ?_)
  refine da_op rfl (d_fieldAddr rfl (fa44_1 _ _) ?_)
  refine da_op rfl (d_load (v := .float .f32 p0r1) rfl agg22 B1 rfl ?_)
  refine da_op rfl (d_fieldAddr rfl (fa44_2 _ _) ?_)
  refine da_op rfl (d_load (v := .float .f32 p0r2) rfl agg22 B1 rfl ?_)
  refine da_op rfl (d_bslice (vs := [(0, .float .f32 p0r0), (1, .float .f32 p0r1), (2, .float .f32 p0r2)]) (cs := #[.float .f32 p0r0, .float .f32 p0r1, .float .f32 p0r2]) un53 (pc rfl (pc rfl (pc rfl rfl))) (by kernel_rfl) fun w4 B4 E4 => ?_)
  have fr4 : ∀ k, (Value.slice (some ⟨w1.heap.size, 0, none⟩) 3 3).ownBlock = some k → w1.heap.size ≤ k := fun k hk => by cases hk; exact Nat.le_refl _
  have own4 : ∀ k, (Value.slice (some ⟨w1.heap.size, 0, none⟩) 3 3).ownBlock = some k → w.heap.size ≤ k := fun k hk => Nat.le_trans X3.size (fr4 k hk)
  have sp5 : ¬ (Value.slice (some ⟨w1.heap.size, 0, none⟩) 3 3).ownBlock = some w.heap.size := ne_fresh fr4 (lt_heap B1)
  have X6 : Ext w w4 := X3.trans E4
  have O4 : OS w4 22 encF_f32 (Value.slice (some ⟨w1.heap.size, 0, none⟩) 3 3) [p0.x, p0.y, p0.z] := OS.box (xs := [p0.x, p0.y, p0.z]) B4 (lc_f p0h0 (lc_f p0h1 (lc_f p0h2 rfl))) (Nat.le_of_ble_eq_true rfl)
  obtain ⟨m7, hm7, hr⟩ := bind_out hr
  have B8 : w4.heap[w.heap.size]? = some (.cells #[.float .f32 p0r0, .float .f32 p0r1, .float .f32 p0r2] 44 (0, 0)) := E4.heap B1
  refine da_op rfl (d_cl (vs := [(Value.slice (some ⟨w1.heap.size, 0, none⟩) 3 3)]) en136 (ac rfl rfl) rfl ?_)
  refine (c136 ([p0.x, p0.y, p0.z]) (some ⟨w1.heap.size, 0, none⟩) 3 3 m7 w4 hm7 O4.rs).mono ?_
  rintro _ w9 ⟨rfl, E9⟩
  refine ⟨_, rfl, ?_⟩
  have X10 : Ext w w9 := X6.trans E9
  refine da_op rfl (d_as (v := .string (bs m7)) rfl ?_)
  refine da_nil ?_
  refine W_ret ?_
  obtain rfl := Option.some.inj hr
  refine ⟨_, res1 (rv_tmp rfl), ?_⟩
  exact ⟨rfl, X10⟩
set_option maxHeartbeats 4000000 in
theorem c135 (p0 : List SVector) (p0a : Option Addr) (p0n : Nat) (p0c : Nat) (r : List UInt8) (w : World) (hr : M.spec_l08Vectors p0 = some r) (p0R : RS w encSVector (Value.slice p0a p0n p0c) p0) :
    Calls Tryd.prog 135 #[(Value.slice p0a p0n p0c)] w fun e w' => e = .returned (.string (bs r)) ∧ Ext w w' := by
  refine calls_of_W Tryd.func135 rfl (Nat.le_of_ble_eq_true rfl) ?_
  refine W_seq ?_
  refine W_region rfl ?_
  refine da_op rfl (d_as (v := .string (bs ([] : List UInt8))) rfl ?_)
  refine da_nil ?_
  refine W_seq ?_
  refine W_seq ?_
  refine W_region rfl ?_
  refine da_op rfl (d_mv (v := (Value.slice p0a p0n p0c)) rfl ?_)
  refine da_op rfl (d_len (e := encSVector) un66 rfl p0R ?_)
  refine da_op rfl (d_icmp cEql rfl rfl ?_)
  refine da_nil ?_
  refine W_cond (b := (icmp .eql ((p0).length : Int) 0)) rfl (fun hc1 => ?_) (fun hc1 => ?_)
  · skip
    replace hr := bif_t hr hc1
    refine W_seq ?_
    refine W_region rfl ?_
    refine da_op rfl (d_as (v := .string (bs ([110, 111, 110, 101] : List UInt8))) rfl ?_)
    refine da_nil ?_
    refine W_ret ?_
    obtain rfl := Option.some.inj hr
    refine ⟨_, res1 (rv_tmp rfl), ?_⟩
    exact ⟨rfl, (Ext.refl w)⟩
  · skip
    replace hr := bif_f hr hc1
    refine W_skip ?_
    refine W_seq ?_
    refine W_region rfl ?_
    refine da_op rfl (d_mv (v := (Value.slice p0a p0n p0c)) rfl ?_)
    obtain ⟨m2, hm2, hr⟩ := bind_out hr
    refine da_op rfl (d_index (e := encSVector) (v := (Value.slice p0a p0n p0c)) un66 size44 rfl rfl p0R hm2 fun g3 o3 cu3 T3 fr3 vs3 hv3 hg3 hp3 hq3 => ?_)
    obtain ⟨e3_r0, e3_r1, e3_r2, rfl, e3_h0, e3_h1, e3_h2⟩ := dec_encSVector hq3
    refine da_op rfl (d_loads (vs := #[.float .f32 e3_r0, .float .f32 e3_r1, .float .f32 e3_r2]) rfl agg44 size44 hg3 (sub_take (vs := #[.float .f32 e3_r0, .float .f32 e3_r1, .float .f32 e3_r2]) (us := #[.float .f32 e3_r0, .float .f32 e3_r1, .float .f32 e3_r2]) (i := 0) hp3 rfl (Nat.le_of_ble_eq_true rfl)) ?_)
    obtain ⟨m4, hm4, hr⟩ := bind_out hr
    refine da_op rfl (d_cl (vs := [.agg #[.float .f32 e3_r0, .float .f32 e3_r1, .float .f32 e3_r2]]) en175 (ac rfl rfl) rfl ?_)
    refine (c175 (⟨m2.x, m2.y, m2.z⟩ : SVector) e3_r0 e3_r1 e3_r2 m4 w hm4 e3_h0 e3_h1 e3_h2).mono ?_
    rintro _ w5 ⟨rfl, E5⟩
    refine ⟨_, rfl, ?_⟩
    have X6 : Ext w w5 := (Ext.refl w).trans E5
    refine da_op rfl (d_as (v := .string (bs m4)) rfl ?_)
    refine da_nil ?_
    refine W_seq ?_
    refine W_seq ?_
    refine W_region rfl ?_
    refine da_op rfl (d_as (v := .int .i64 1) rfl ?_)
    refine da_nil ?_
    refine W_block ?_
    obtain ⟨m7, hm7, hr⟩ := bind_out hr
    refine W_loopM hm7 (fun (s7 : List UInt8 × Int) σ w' => σ 3 = .string (bs s7.1) ∧ σ 4 = .int .i64 s7.2 ∧ σ 0 = (Value.slice p0a p0n p0c) ∧ Ext w w') (fun (e7 : (List UInt8)) ex σ w' => ex = .exit 0 ∧ σ 3 = .string (bs e7) ∧ Ext w w') ⟨rfl, rfl, rfl, X6⟩ ?_ ?_
    · skip
      rintro s7 σl7 wl7 r7l ⟨i7_S3, i7_S4, i7_S0, i7_X⟩ hr
      refine W_seq ?_
      refine W_seq ?_
      refine W_region rfl ?_
      refine da_op rfl (d_mv (v := .int .i64 s7.2) i7_S4 ?_)
      refine da_op rfl (d_mv (v := (Value.slice p0a p0n p0c)) i7_S0 ?_)
      have B8 : RS wl7 encSVector (Value.slice p0a p0n p0c) p0 := p0R.ext i7_X
      refine da_op rfl (d_len (e := encSVector) un66 rfl B8 ?_)
      refine da_op rfl (d_icmp cLss rfl rfl ?_)
      refine da_nil ?_
      refine W_cond (b := (icmp .lss s7.2 ((p0).length : Int))) rfl (fun hc9 => ?_) (fun hc9 => ?_)
      · skip
        replace hr := bif_t hr hc9
        refine W_skip ?_
        refine W_seq ?_
        refine W_block ?_
        refine W_region rfl ?_
        refine da_op rfl (d_mv (v := .string (bs s7.1)) i7_S3 ?_)
        refine da_op rfl (d_mv (v := (Value.slice p0a p0n p0c)) i7_S0 ?_)
        refine da_op rfl (d_mv (v := .int .i64 s7.2) i7_S4 ?_)
        obtain ⟨m10, hm10, hr⟩ := bind_out hr
        refine da_op rfl (d_index (e := encSVector) (v := (Value.slice p0a p0n p0c)) un66 size44 rfl rfl B8 hm10 fun g11 o11 cu11 T11 fr11 vs11 hv11 hg11 hp11 hq11 => ?_)
        obtain ⟨e11_r0, e11_r1, e11_r2, rfl, e11_h0, e11_h1, e11_h2⟩ := dec_encSVector hq11
        refine da_op rfl (d_loads (vs := #[.float .f32 e11_r0, .float .f32 e11_r1, .float .f32 e11_r2]) rfl agg44 size44 hg11 (sub_take (vs := #[.float .f32 e11_r0, .float .f32 e11_r1, .float .f32 e11_r2]) (us := #[.float .f32 e11_r0, .float .f32 e11_r1, .float .f32 e11_r2]) (i := 0) hp11 rfl (Nat.le_of_ble_eq_true rfl)) ?_)
        obtain ⟨m12, hm12, hr⟩ := bind_out hr
        refine da_op rfl (d_cl (vs := [.agg #[.float .f32 e11_r0, .float .f32 e11_r1, .float .f32 e11_r2]]) en175 (ac rfl rfl) rfl ?_)
        refine (c175 m10 e11_r0 e11_r1 e11_r2 m12 wl7 hm12 e11_h0 e11_h1 e11_h2).mono ?_
        rintro _ w13 ⟨rfl, E13⟩
        refine ⟨_, rfl, ?_⟩
        have X14 : Ext w w13 := i7_X.trans E13
        obtain ⟨m15, hm15, hr⟩ := bind_out hr
        refine da_op rfl (d_scat rfl rfl hm15 ?_)
        obtain ⟨m16, hm16, hr⟩ := bind_out hr
        refine da_op rfl (d_scat rfl rfl hm16 ?_)
        refine da_op rfl (d_as (v := .string (bs m16)) rfl ?_)
        refine da_nil ?_
        refine W_region rfl ?_
        refine da_op rfl (d_mv (v := .int .i64 s7.2) i7_S4 ?_)
        refine da_op rfl (d_iarith rfl rfl (.inl ⟨rfl, rfl⟩) ?_)
        refine da_op rfl (d_as (v := .int .i64 (IntKind.i64.wrap (s7.2 + 1))) rfl ?_)
        refine da_nil ?_
        obtain rfl := Option.some.inj hr
        exact ⟨_, rfl, ⟨rfl, rfl, i7_S0, X14⟩⟩
      · skip
        replace hr := bif_f hr hc9
        refine W_exit ?_
        obtain rfl := Option.some.inj hr
        exact ⟨_, rfl, rfl, i7_S3, i7_X⟩
    · skip
      intro ex σx7 wx7 hq
      obtain ⟨rfl, q7_0_S3, q7_0_X⟩ := hq
      refine W_seq ?_
      refine W_region rfl ?_
      refine da_op rfl (d_mv (v := .string (bs m7)) q7_0_S3 ?_)
      refine da_op rfl (d_as (v := .string (bs m7)) rfl ?_)
      refine da_nil ?_
      refine W_ret ?_
      obtain rfl := Option.some.inj hr
      refine ⟨_, res1 (rv_tmp rfl), ?_⟩
      exact ⟨rfl, q7_0_X⟩
set_option maxHeartbeats 4000000 in
theorem c112 (p0 : Int) (r : List UInt8) (w : World) (hr : M.spec_l01Dec p0 = some r)  :
    Calls Tryd.prog 112 #[.int .i64 p0] w fun e w' => e = .returned (.string (bs r)) ∧ Ext w w' := by
  refine calls_of_W Tryd.func112 rfl (Nat.le_of_ble_eq_true rfl) ?_
  refine W_seq ?_
  refine W_region rfl ?_
  refine da_op rfl (d_as (v := .string (bs ([] : List UInt8))) rfl ?_)
  refine da_nil ?_
  refine W_seq ?_
  refine W_region rfl ?_
  refine da_op rfl (d_bslice0 un73 size5 fun w1 B1 E1 => ?_)
  have fr1 : ∀ k, (Value.slice (some ⟨w.heap.size, 0, none⟩) 0 0).ownBlock = some k → w.heap.size ≤ k := fun k hk => by cases hk; exact Nat.le_refl _
  have own1 : ∀ k, (Value.slice (some ⟨w.heap.size, 0, none⟩) 0 0).ownBlock = some k → w.heap.size ≤ k := fun k hk => Nat.le_trans (Ext.refl w).size (fr1 k hk)
  have X2 : Ext w w1 := (Ext.refl w).trans E1
  have O1 : OS w1 5 encI_u8 (Value.slice (some ⟨w.heap.size, 0, none⟩) 0 0) ([] : List Int) := OS.box (xs := ([] : List Int)) B1 rfl (Nat.le_of_ble_eq_true rfl)
  refine da_op rfl (d_as (v := (Value.slice (some ⟨w.heap.size, 0, none⟩) 0 0)) rfl ?_)
  refine da_nil ?_
  refine W_seq ?_
  refine W_region rfl ?_
  refine da_op rfl (d_mv (v := .int .i64 p0) rfl ?_)
  refine da_op rfl (d_as (v := .int .i64 p0) rfl ?_)
  refine da_nil ?_
  refine W_seq ?_
  refine W_block ?_
  obtain ⟨m3, hm3, hr⟩ := bind_out hr
  refine W_loopM hm3 (fun (s3 : List Int × Int) σ w' => ∃ i3_0a : Option Addr, ∃ i3_0n : Nat, ∃ i3_0c : Nat, σ 3 = (Value.slice i3_0a i3_0n i3_0c) ∧ σ 4 = .int .i64 s3.2 ∧ σ 0 = .int .i64 p0 ∧ OS w' 5 encI_u8 (Value.slice i3_0a i3_0n i3_0c) s3.1 ∧ (∀ k, (Value.slice i3_0a i3_0n i3_0c).ownBlock = some k → w.heap.size ≤ k) ∧ Ext w w') (fun (e3 : (List Int)) ex σ w' => ex = .exit 0 ∧ ∃ q3_0_0a : Option Addr, ∃ q3_0_0n : Nat, ∃ q3_0_0c : Nat, σ 3 = (Value.slice q3_0_0a q3_0_0n q3_0_0c) ∧ σ 0 = .int .i64 p0 ∧ OS w' 5 encI_u8 (Value.slice q3_0_0a q3_0_0n q3_0_0c) e3 ∧ (∀ k, (Value.slice q3_0_0a q3_0_0n q3_0_0c).ownBlock = some k → w.heap.size ≤ k) ∧ Ext w w') ⟨(some ⟨w.heap.size, 0, none⟩), 0, 0, rfl, rfl, rfl, O1, own1, X2⟩ ?_ ?_
  · skip
    rintro s3 σl3 wl3 r3l ⟨i3_0a, i3_0n, i3_0c, i3_S3, i3_S4, i3_S0, i3_0R, i3_0O, i3_X⟩ hr
    refine W_seq ?_
    refine W_seq ?_
    obtain ⟨m4, hm4, hr⟩ := letv_out hr
    refine W_cut (fun σ' w' => σ' 14 = .bool m4 ∧ Ext wl3 w') rfl ?_ ?_
    · skip
      have hr := hm4
      refine da_op rfl (d_mv (v := (Value.slice i3_0a i3_0n i3_0c)) i3_S3 ?_)
      refine da_op rfl (d_len (e := encI_u8) un73 rfl i3_0R.rs ?_)
      refine da_op rfl (d_icmp cEql rfl rfl ?_)
      refine da_op rfl (d_mv (v := .bool (icmp .eql ((s3.1).length : Int) 0)) rfl ?_)
      rcases Bool.eq_false_or_eq_true (icmp .eql ((s3.1).length : Int) 0) with hc5 | hc5
      · skip
        replace hr := bif_t hr hc5
        refine da_off rfl (Eq.trans (show sl _ _ _ = .bool (icmp .eql ((s3.1).length : Int) 0) from rfl) (congrArg Value.bool hc5)) (by decide) ?_
        refine da_off rfl (Eq.trans (show sl _ _ _ = .bool (icmp .eql ((s3.1).length : Int) 0) from rfl) (congrArg Value.bool hc5)) (by decide) ?_
        refine da_op rfl (d_pick (b := true) (Eq.trans (show ev _ _ = .bool (icmp .eql ((s3.1).length : Int) 0) from rfl) (congrArg Value.bool hc5)) ?_)
        refine da_nil ?_
        subst hr
        exact ⟨rfl, (Ext.refl wl3)⟩
      · skip
        replace hr := bif_f hr hc5
        refine da_on rfl (Eq.trans (show sl _ _ _ = .bool (icmp .eql ((s3.1).length : Int) 0) from rfl) (congrArg Value.bool hc5)) (d_mv (v := .int .i64 s3.2) i3_S4 ?_)
        refine da_on rfl (Eq.trans (show sl _ _ _ = .bool (icmp .eql ((s3.1).length : Int) 0) from rfl) (congrArg Value.bool hc5)) (d_icmp cNeq rfl rfl ?_)
        refine da_op rfl (d_pick (b := false) (Eq.trans (show ev _ _ = .bool (icmp .eql ((s3.1).length : Int) 0) from rfl) (congrArg Value.bool hc5)) ?_)
        refine da_nil ?_
        subst hr
        exact ⟨rfl, (Ext.refl wl3)⟩
    · skip
      rintro σ4 w4 o4 ⟨s14_4, E4⟩
      have s3_4 : σ4 3 = (Value.slice i3_0a i3_0n i3_0c) := (o4 3 rfl).trans i3_S3
      have s4_4 : σ4 4 = .int .i64 s3.2 := (o4 4 rfl).trans i3_S4
      have s0_4 : σ4 0 = .int .i64 p0 := (o4 0 rfl).trans i3_S0
      have X6 : Ext w w4 := i3_X.trans E4
      refine W_cond (b := m4) s14_4 (fun hc7 => ?_) (fun hc7 => ?_)
      · skip
        replace hr := bif_t hr hc7
        refine W_skip ?_
        refine W_block ?_
        refine W_seq ?_
        refine W_region rfl ?_
        refine da_op rfl (d_mv (v := .int .i64 s3.2) s4_4 ?_)
        refine da_op rfl (d_remL rfl rfl (by decide) ?_)
        refine da_op rfl (d_as (v := .int .i64 ((s3.2).tmod 10)) rfl ?_)
        refine da_nil ?_
        refine W_seq ?_
        refine W_seq ?_
        refine W_region rfl ?_
        refine da_op rfl (d_mv (v := .int .i64 ((s3.2).tmod 10)) rfl ?_)
        refine da_op rfl (d_icmp cLss rfl rfl ?_)
        refine da_nil ?_
        refine W_cond (b := (icmp .lss ((s3.2).tmod 10) 0)) rfl (fun hc8 => ?_) (fun hc8 => ?_)
        · skip
          replace hr := bif_t hr hc8
          refine W_region rfl ?_
          refine da_op rfl (d_mv (v := .int .i64 ((s3.2).tmod 10)) rfl ?_)
          refine da_op rfl (d_ineg rfl ?_)
          refine da_op rfl (d_as (v := .int .i64 (IntKind.i64.wrap (0 - ((s3.2).tmod 10)))) rfl ?_)
          refine da_nil ?_
          refine W_seq ?_
          refine W_region rfl ?_
          refine da_op rfl (d_mv (v := .int .i64 (IntKind.i64.wrap (0 - ((s3.2).tmod 10)))) rfl ?_)
          refine da_op rfl (d_iarith rfl rfl (.inl ⟨rfl, rfl⟩) ?_)
          refine da_op rfl (d_iconv un2 un5 rfl ?_)
          have B10 : OS w4 5 encI_u8 (Value.slice i3_0a i3_0n i3_0c) s3.1 := i3_0R.ext E4
          refine da_op rfl (d_bslice (vs := [(0, .int .u8 (IntKind.u8.wrap (IntKind.i64.wrap (48 + (IntKind.i64.wrap (0 - ((s3.2).tmod 10)))))))]) (cs := #[.int .u8 (IntKind.u8.wrap (IntKind.i64.wrap (48 + (IntKind.i64.wrap (0 - ((s3.2).tmod 10))))))]) un73 (pc rfl rfl) (by kernel_rfl) fun w9 B9 E9 => ?_)
          have fr9 : ∀ k, (Value.slice (some ⟨w4.heap.size, 0, none⟩) 1 1).ownBlock = some k → w4.heap.size ≤ k := fun k hk => by cases hk; exact Nat.le_refl _
          have own9 : ∀ k, (Value.slice (some ⟨w4.heap.size, 0, none⟩) 1 1).ownBlock = some k → w.heap.size ≤ k := fun k hk => Nat.le_trans X6.size (fr9 k hk)
          have sp11 : ∀ k, (Value.slice i3_0a i3_0n i3_0c).ownBlock = some k → ¬ (Value.slice (some ⟨w4.heap.size, 0, none⟩) 1 1).ownBlock = some k := apart_fresh B10 fr9
          have X12 : Ext w w9 := X6.trans E9
          have O9 : OS w9 5 encI_u8 (Value.slice (some ⟨w4.heap.size, 0, none⟩) 1 1) [(IntKind.u8.wrap (IntKind.i64.wrap (48 + (IntKind.i64.wrap (0 - ((s3.2).tmod 10))))))] := OS.box (xs := [(IntKind.u8.wrap (IntKind.i64.wrap (48 + (IntKind.i64.wrap (0 - ((s3.2).tmod 10))))))]) B9 (lc_v rfl rfl) (Nat.le_of_ble_eq_true rfl)
          refine da_op rfl (d_mv (v := (Value.slice i3_0a i3_0n i3_0c)) s3_4 ?_)
          obtain ⟨m13, hm13, hr⟩ := bind_out hr
          have B14 : OS w9 5 encI_u8 (Value.slice i3_0a i3_0n i3_0c) s3.1 := B10.ext E9
          refine da_op rfl (d_append (e := encI_u8) (v := (Value.slice (some ⟨w4.heap.size, 0, none⟩) 1 1)) (y := (Value.slice i3_0a i3_0n i3_0c)) un73 info5 rfl (by kernel_rfl) (by kernel_rfl) (by decide) (by decide) rfl rfl O9 B14.rs hm13 fun v15 w15 O15 Fm15 at_15 nl15 => ?_)
          obtain ⟨v15pa, v15pn, v15pc, rfl⟩ := O15.vals
          have own15 : ∀ k, (Value.slice v15pa v15pn v15pc).ownBlock = some k → w.heap.size ≤ k := app_own (w := w9) at_15 own9 X12.size
          have sp16 : ∀ k, (Value.slice i3_0a i3_0n i3_0c).ownBlock = some k → ¬ (Value.slice v15pa v15pn v15pc).ownBlock = some k := app_nr at_15 sp11 B14
          have X17 : Ext w w15 := Ext.step X12 Fm15 (fun k _ hk => own9 k hk)
          refine da_op rfl (d_as (v := (Value.slice v15pa v15pn v15pc)) rfl ?_)
          refine da_nil ?_
          refine W_region rfl ?_
          refine da_op rfl (d_mv (v := .int .i64 s3.2) s4_4 ?_)
          refine da_op rfl (d_quoL rfl rfl (by decide) ?_)
          refine da_op rfl (d_as (v := .int .i64 (IntKind.i64.wrap ((s3.2).tdiv 10))) rfl ?_)
          refine da_nil ?_
          obtain rfl := Option.some.inj hr
          exact ⟨_, rfl, ⟨v15pa, v15pn, v15pc, rfl, rfl, s0_4, O15, own15, X17⟩⟩
        · skip
          replace hr := bif_f hr hc8
          refine W_skip ?_
          refine W_seq ?_
          refine W_region rfl ?_
          refine da_op rfl (d_mv (v := .int .i64 ((s3.2).tmod 10)) rfl ?_)
          refine da_op rfl (d_iarith rfl rfl (.inl ⟨rfl, rfl⟩) ?_)
          refine da_op rfl (d_iconv un2 un5 rfl ?_)
          have B19 : OS w4 5 encI_u8 (Value.slice i3_0a i3_0n i3_0c) s3.1 := i3_0R.ext E4
          refine da_op rfl (d_bslice (vs := [(0, .int .u8 (IntKind.u8.wrap (IntKind.i64.wrap (48 + ((s3.2).tmod 10)))))]) (cs := #[.int .u8 (IntKind.u8.wrap (IntKind.i64.wrap (48 + ((s3.2).tmod 10))))]) un73 (pc rfl rfl) (by kernel_rfl) fun w18 B18 E18 => ?_)
          have fr18 : ∀ k, (Value.slice (some ⟨w4.heap.size, 0, none⟩) 1 1).ownBlock = some k → w4.heap.size ≤ k := fun k hk => by cases hk; exact Nat.le_refl _
          have own18 : ∀ k, (Value.slice (some ⟨w4.heap.size, 0, none⟩) 1 1).ownBlock = some k → w.heap.size ≤ k := fun k hk => Nat.le_trans X6.size (fr18 k hk)
          have sp20 : ∀ k, (Value.slice i3_0a i3_0n i3_0c).ownBlock = some k → ¬ (Value.slice (some ⟨w4.heap.size, 0, none⟩) 1 1).ownBlock = some k := apart_fresh B19 fr18
          have X21 : Ext w w18 := X6.trans E18
          have O18 : OS w18 5 encI_u8 (Value.slice (some ⟨w4.heap.size, 0, none⟩) 1 1) [(IntKind.u8.wrap (IntKind.i64.wrap (48 + ((s3.2).tmod 10))))] := OS.box (xs := [(IntKind.u8.wrap (IntKind.i64.wrap (48 + ((s3.2).tmod 10))))]) B18 (lc_v rfl rfl) (Nat.le_of_ble_eq_true rfl)
          refine da_op rfl (d_mv (v := (Value.slice i3_0a i3_0n i3_0c)) s3_4 ?_)
          obtain ⟨m22, hm22, hr⟩ := bind_out hr
          have B23 : OS w18 5 encI_u8 (Value.slice i3_0a i3_0n i3_0c) s3.1 := B19.ext E18
          refine da_op rfl (d_append (e := encI_u8) (v := (Value.slice (some ⟨w4.heap.size, 0, none⟩) 1 1)) (y := (Value.slice i3_0a i3_0n i3_0c)) un73 info5 rfl (by kernel_rfl) (by kernel_rfl) (by decide) (by decide) rfl rfl O18 B23.rs hm22 fun v24 w24 O24 Fm24 at_24 nl24 => ?_)
          obtain ⟨v24pa, v24pn, v24pc, rfl⟩ := O24.vals
          have own24 : ∀ k, (Value.slice v24pa v24pn v24pc).ownBlock = some k → w.heap.size ≤ k := app_own (w := w18) at_24 own18 X21.size
          have sp25 : ∀ k, (Value.slice i3_0a i3_0n i3_0c).ownBlock = some k → ¬ (Value.slice v24pa v24pn v24pc).ownBlock = some k := app_nr at_24 sp20 B23
          have X26 : Ext w w24 := Ext.step X21 Fm24 (fun k _ hk => own18 k hk)
          refine da_op rfl (d_as (v := (Value.slice v24pa v24pn v24pc)) rfl ?_)
          refine da_nil ?_
          refine W_region rfl ?_
          refine da_op rfl (d_mv (v := .int .i64 s3.2) s4_4 ?_)
          refine da_op rfl (d_quoL rfl rfl (by decide) ?_)
          refine da_op rfl (d_as (v := .int .i64 (IntKind.i64.wrap ((s3.2).tdiv 10))) rfl ?_)
          refine da_nil ?_
          obtain rfl := Option.some.inj hr
          exact ⟨_, rfl, ⟨v24pa, v24pn, v24pc, rfl, rfl, s0_4, O24, own24, X26⟩⟩
      · skip
        replace hr := bif_f hr hc7
        refine W_exit ?_
        have B27 : OS w4 5 encI_u8 (Value.slice i3_0a i3_0n i3_0c) s3.1 := i3_0R.ext E4
        obtain rfl := Option.some.inj hr
        exact ⟨_, rfl, rfl, i3_0a, i3_0n, i3_0c, s3_4, s0_4, B27, i3_0O, X6⟩
  · skip
    intro ex σx3 wx3 hq
    obtain ⟨rfl, q3_0_0a, q3_0_0n, q3_0_0c, q3_0_S3, q3_0_S0, q3_0_0R, q3_0_0O, q3_0_X⟩ := hq
    refine W_seq ?_
    refine W_seq ?_
    refine W_region rfl ?_
    refine da_op rfl (d_mv (v := .int .i64 p0) q3_0_S0 ?_)
    refine da_op rfl (d_icmp cLss rfl rfl ?_)
    refine da_nil ?_
    refine W_cond (b := (icmp .lss p0 0)) rfl (fun hc28 => ?_) (fun hc28 => ?_)
    · skip
      replace hr := bif_t hr hc28
      refine W_region rfl ?_
      refine da_op rfl (d_bslice (vs := [(0, .int .u8 45)]) (cs := #[.int .u8 45]) un73 (pc rfl rfl) (by kernel_rfl) fun w29 B29 E29 => ?_)
      have fr29 : ∀ k, (Value.slice (some ⟨wx3.heap.size, 0, none⟩) 1 1).ownBlock = some k → wx3.heap.size ≤ k := fun k hk => by cases hk; exact Nat.le_refl _
      have own29 : ∀ k, (Value.slice (some ⟨wx3.heap.size, 0, none⟩) 1 1).ownBlock = some k → w.heap.size ≤ k := fun k hk => Nat.le_trans q3_0_X.size (fr29 k hk)
      have sp30 : ∀ k, (Value.slice q3_0_0a q3_0_0n q3_0_0c).ownBlock = some k → ¬ (Value.slice (some ⟨wx3.heap.size, 0, none⟩) 1 1).ownBlock = some k := apart_fresh q3_0_0R fr29
      have X31 : Ext w w29 := q3_0_X.trans E29
      have O29 : OS w29 5 encI_u8 (Value.slice (some ⟨wx3.heap.size, 0, none⟩) 1 1) [45] := OS.box (xs := [45]) B29 (lc_v rfl rfl) (Nat.le_of_ble_eq_true rfl)
      refine da_op rfl (d_mv (v := (Value.slice q3_0_0a q3_0_0n q3_0_0c)) q3_0_S3 ?_)
      obtain ⟨m32, hm32, hr⟩ := bind_out hr
      have B33 : OS w29 5 encI_u8 (Value.slice q3_0_0a q3_0_0n q3_0_0c) m3 := q3_0_0R.ext E29
      refine da_op rfl (d_append (e := encI_u8) (v := (Value.slice (some ⟨wx3.heap.size, 0, none⟩) 1 1)) (y := (Value.slice q3_0_0a q3_0_0n q3_0_0c)) un73 info5 rfl (by kernel_rfl) (by kernel_rfl) (by decide) (by decide) rfl rfl O29 B33.rs hm32 fun v34 w34 O34 Fm34 at_34 nl34 => ?_)
      obtain ⟨v34pa, v34pn, v34pc, rfl⟩ := O34.vals
      have own34 : ∀ k, (Value.slice v34pa v34pn v34pc).ownBlock = some k → w.heap.size ≤ k := app_own (w := w29) at_34 own29 X31.size
      have sp35 : ∀ k, (Value.slice q3_0_0a q3_0_0n q3_0_0c).ownBlock = some k → ¬ (Value.slice v34pa v34pn v34pc).ownBlock = some k := app_nr at_34 sp30 B33
      have X36 : Ext w w34 := Ext.step X31 Fm34 (fun k _ hk => own29 k hk)
      refine da_op rfl (d_as (v := (Value.slice v34pa v34pn v34pc)) rfl ?_)
      refine da_nil ?_
      refine W_seq ?_
      refine W_region rfl ?_
      refine da_op rfl (d_mv (v := (Value.slice v34pa v34pn v34pc)) rfl ?_)
      refine da_op rfl (d_bstr (e := encI_u8) (v := (Value.slice v34pa v34pn v34pc)) rfl un73 un5 un9 rfl O34.rs ?_)
      refine da_op rfl (d_as (v := .string (bs (u8s m32))) rfl ?_)
      refine da_nil ?_
      refine W_ret ?_
      obtain rfl := Option.some.inj hr
      refine ⟨_, res1 (rv_tmp rfl), ?_⟩
      exact ⟨rfl, X36⟩
    · skip
      replace hr := bif_f hr hc28
      refine W_skip ?_
      refine W_seq ?_
      refine W_region rfl ?_
      refine da_op rfl (d_mv (v := (Value.slice q3_0_0a q3_0_0n q3_0_0c)) q3_0_S3 ?_)
      refine da_op rfl (d_bstr (e := encI_u8) (v := (Value.slice q3_0_0a q3_0_0n q3_0_0c)) rfl un73 un5 un9 rfl q3_0_0R.rs ?_)
      refine da_op rfl (d_as (v := .string (bs (u8s m3))) rfl ?_)
      refine da_nil ?_
      refine W_ret ?_
      obtain rfl := Option.some.inj hr
      refine ⟨_, res1 (rv_tmp rfl), ?_⟩
      exact ⟨rfl, q3_0_X⟩
set_option maxHeartbeats 4000000 in
theorem c177 (p0 : List Int) (p0a : Option Addr) (p0n : Nat) (p0c : Nat) (r : List UInt8) (w : World) (hr : M.spec_l01Text p0 = some r) (p0R : RS w encI_i64 (Value.slice p0a p0n p0c) p0) :
    Calls Tryd.prog 177 #[(Value.slice p0a p0n p0c)] w fun e w' => e = .returned (.string (bs r)) ∧ Ext w w' := by
  refine calls_of_W Tryd.func177 rfl (Nat.le_of_ble_eq_true rfl) ?_
  refine W_seq ?_
  refine W_region rfl ?_
  refine da_op rfl (d_as (v := .string (bs ([] : List UInt8))) rfl ?_)
  refine da_nil ?_
  refine W_seq ?_
  refine W_seq ?_
  refine W_region rfl ?_
  refine da_op rfl (d_mv (v := (Value.slice p0a p0n p0c)) rfl ?_)
  refine da_op rfl (d_len (e := encI_i64) un81 rfl p0R ?_)
  refine da_op rfl (d_icmp cEql rfl rfl ?_)
  refine da_nil ?_
  refine W_cond (b := (icmp .eql ((p0).length : Int) 0)) rfl (fun hc1 => ?_) (fun hc1 => ?_)
  · skip
    replace hr := bif_t hr hc1
    refine W_seq ?_
    refine W_region rfl ?_
    refine da_op rfl (d_as (v := .string (bs ([110, 111, 110, 101] : List UInt8))) rfl ?_)
    refine da_nil ?_
    refine W_ret ?_
    obtain rfl := Option.some.inj hr
    refine ⟨_, res1 (rv_tmp rfl), ?_⟩
    exact ⟨rfl, (Ext.refl w)⟩
  · skip
    replace hr := bif_f hr hc1
    refine W_skip ?_
    refine W_seq ?_
    refine W_region rfl ?_
    refine da_op rfl (d_mv (v := (Value.slice p0a p0n p0c)) rfl ?_)
    obtain ⟨m2, hm2, hr⟩ := bind_out hr
    refine da_op rfl (d_index (e := encI_i64) (v := (Value.slice p0a p0n p0c)) un81 size2 rfl rfl p0R hm2 fun g3 o3 cu3 T3 fr3 vs3 hv3 hg3 hp3 hq3 => ?_)
    obtain rfl := dec_encI_i64 hq3
    refine da_op rfl (d_load (v := .int .i64 m2) rfl agg2 hg3 (sub_get (vs := #[.int .i64 m2]) hp3 (i := 0) rfl) ?_)
    obtain ⟨m4, hm4, hr⟩ := bind_out hr
    refine da_op rfl (d_cl (vs := [.int .i64 m2]) en112 (ac rfl rfl) rfl ?_)
    refine (c112 m2 m4 w hm4 ).mono ?_
    rintro _ w5 ⟨rfl, E5⟩
    refine ⟨_, rfl, ?_⟩
    have X6 : Ext w w5 := (Ext.refl w).trans E5
    refine da_op rfl (d_as (v := .string (bs m4)) rfl ?_)
    refine da_nil ?_
    refine W_seq ?_
    refine W_seq ?_
    refine W_region rfl ?_
    refine da_op rfl (d_as (v := .int .i64 1) rfl ?_)
    refine da_nil ?_
    refine W_block ?_
    obtain ⟨m7, hm7, hr⟩ := bind_out hr
    refine W_loopM hm7 (fun (s7 : List UInt8 × Int) σ w' => σ 3 = .string (bs s7.1) ∧ σ 4 = .int .i64 s7.2 ∧ σ 0 = (Value.slice p0a p0n p0c) ∧ Ext w w') (fun (e7 : (List UInt8)) ex σ w' => ex = .exit 0 ∧ σ 3 = .string (bs e7) ∧ Ext w w') ⟨rfl, rfl, rfl, X6⟩ ?_ ?_
    · skip
      rintro s7 σl7 wl7 r7l ⟨i7_S3, i7_S4, i7_S0, i7_X⟩ hr
      refine W_seq ?_
      refine W_seq ?_
      refine W_region rfl ?_
      refine da_op rfl (d_mv (v := .int .i64 s7.2) i7_S4 ?_)
      refine da_op rfl (d_mv (v := (Value.slice p0a p0n p0c)) i7_S0 ?_)
      have B8 : RS wl7 encI_i64 (Value.slice p0a p0n p0c) p0 := p0R.ext i7_X
      refine da_op rfl (d_len (e := encI_i64) un81 rfl B8 ?_)
      refine da_op rfl (d_icmp cLss rfl rfl ?_)
      refine da_nil ?_
      refine W_cond (b := (icmp .lss s7.2 ((p0).length : Int))) rfl (fun hc9 => ?_) (fun hc9 => ?_)
      · skip
        replace hr := bif_t hr hc9
        refine W_skip ?_
        refine W_seq ?_
        refine W_block ?_
        refine W_region rfl ?_
        refine da_op rfl (d_mv (v := .string (bs s7.1)) i7_S3 ?_)
        refine da_op rfl (d_mv (v := (Value.slice p0a p0n p0c)) i7_S0 ?_)
        refine da_op rfl (d_mv (v := .int .i64 s7.2) i7_S4 ?_)
        obtain ⟨m10, hm10, hr⟩ := bind_out hr
        refine da_op rfl (d_index (e := encI_i64) (v := (Value.slice p0a p0n p0c)) un81 size2 rfl rfl B8 hm10 fun g11 o11 cu11 T11 fr11 vs11 hv11 hg11 hp11 hq11 => ?_)
        obtain rfl := dec_encI_i64 hq11
        refine da_op rfl (d_load (v := .int .i64 m10) rfl agg2 hg11 (sub_get (vs := #[.int .i64 m10]) hp11 (i := 0) rfl) ?_)
        obtain ⟨m12, hm12, hr⟩ := bind_out hr
        refine da_op rfl (d_cl (vs := [.int .i64 m10]) en112 (ac rfl rfl) rfl ?_)
        refine (c112 m10 m12 wl7 hm12 ).mono ?_
        rintro _ w13 ⟨rfl, E13⟩
        refine ⟨_, rfl, ?_⟩
        have X14 : Ext w w13 := i7_X.trans E13
        obtain ⟨m15, hm15, hr⟩ := bind_out hr
        refine da_op rfl (d_scat rfl rfl hm15 ?_)
        obtain ⟨m16, hm16, hr⟩ := bind_out hr
        refine da_op rfl (d_scat rfl rfl hm16 ?_)
        refine da_op rfl (d_as (v := .string (bs m16)) rfl ?_)
        refine da_nil ?_
        refine W_region rfl ?_
        refine da_op rfl (d_mv (v := .int .i64 s7.2) i7_S4 ?_)
        refine da_op rfl (d_iarith rfl rfl (.inl ⟨rfl, rfl⟩) ?_)
        refine da_op rfl (d_as (v := .int .i64 (IntKind.i64.wrap (s7.2 + 1))) rfl ?_)
        refine da_nil ?_
        obtain rfl := Option.some.inj hr
        exact ⟨_, rfl, ⟨rfl, rfl, i7_S0, X14⟩⟩
      · skip
        replace hr := bif_f hr hc9
        refine W_exit ?_
        obtain rfl := Option.some.inj hr
        exact ⟨_, rfl, rfl, i7_S3, i7_X⟩
    · skip
      intro ex σx7 wx7 hq
      obtain ⟨rfl, q7_0_S3, q7_0_X⟩ := hq
      refine W_seq ?_
      refine W_region rfl ?_
      refine da_op rfl (d_mv (v := .string (bs m7)) q7_0_S3 ?_)
      refine da_op rfl (d_as (v := .string (bs m7)) rfl ?_)
      refine da_nil ?_
      refine W_ret ?_
      obtain rfl := Option.some.inj hr
      refine ⟨_, res1 (rv_tmp rfl), ?_⟩
      exact ⟨rfl, q7_0_X⟩
set_option maxHeartbeats 4000000 in
theorem c137 (p0 : List SRod) (p0a : Option Addr) (p0n : Nat) (p0c : Nat) (r : List UInt8) (w : World) (hr : M.spec_l08Rods p0 = some r) (p0R : RS w encSRod (Value.slice p0a p0n p0c) p0) :
    Calls Tryd.prog 137 #[(Value.slice p0a p0n p0c)] w fun e w' => e = .returned (.string (bs r)) ∧ Ext w w' := by
  refine calls_of_W Tryd.func137 rfl (Nat.le_of_ble_eq_true rfl) ?_
  refine W_seq ?_
  refine W_region rfl ?_
  refine da_op rfl (d_as (v := .string (bs ([] : List UInt8))) rfl ?_)
  refine da_nil ?_
  refine W_seq ?_
  refine W_seq ?_
  refine W_region rfl ?_
  refine da_op rfl (d_mv (v := (Value.slice p0a p0n p0c)) rfl ?_)
  refine da_op rfl (d_len (e := encSRod) un67 rfl p0R ?_)
  refine da_op rfl (d_icmp cEql rfl rfl ?_)
  refine da_nil ?_
  refine W_cond (b := (icmp .eql ((p0).length : Int) 0)) rfl (fun hc1 => ?_) (fun hc1 => ?_)
  · skip
    replace hr := bif_t hr hc1
    refine W_seq ?_
    refine W_region rfl ?_
    refine da_op rfl (d_as (v := .string (bs ([110, 111, 110, 101] : List UInt8))) rfl ?_)
    refine da_nil ?_
    refine W_ret ?_
    obtain rfl := Option.some.inj hr
    refine ⟨_, res1 (rv_tmp rfl), ?_⟩
    exact ⟨rfl, (Ext.refl w)⟩
  · skip
    replace hr := bif_f hr hc1
    refine W_skip ?_
    refine W_seq ?_
    refine W_region rfl ?_
    refine da_op rfl (d_as (v := .string (bs ([] : List UInt8))) rfl ?_)
    refine da_nil ?_
    refine W_seq ?_
    refine W_seq ?_
    refine W_region rfl ?_
    refine da_op rfl (d_as (v := .int .i64 0) rfl ?_)
    refine da_nil ?_
    refine W_block ?_
    obtain ⟨m2, hm2, hr⟩ := bind_out hr
    refine W_loopM hm2 (fun (s2 : List UInt8 × Int) σ w' => σ 3 = .string (bs s2.1) ∧ σ 4 = .int .i64 s2.2 ∧ σ 0 = (Value.slice p0a p0n p0c) ∧ Ext w w') (fun (e2 : (List UInt8)) ex σ w' => ex = .exit 0 ∧ σ 3 = .string (bs e2) ∧ Ext w w') ⟨rfl, rfl, rfl, (Ext.refl w)⟩ ?_ ?_
    · skip
      rintro s2 σl2 wl2 r2l ⟨i2_S3, i2_S4, i2_S0, i2_X⟩ hr
      refine W_seq ?_
      refine W_seq ?_
      refine W_region rfl ?_
      refine da_op rfl (d_mv (v := .int .i64 s2.2) i2_S4 ?_)
      refine da_op rfl (d_mv (v := (Value.slice p0a p0n p0c)) i2_S0 ?_)
      have B3 : RS wl2 encSRod (Value.slice p0a p0n p0c) p0 := p0R.ext i2_X
      refine da_op rfl (d_len (e := encSRod) un67 rfl B3 ?_)
      refine da_op rfl (d_icmp cLss rfl rfl ?_)
      refine da_nil ?_
      refine W_cond (b := (icmp .lss s2.2 ((p0).length : Int))) rfl (fun hc4 => ?_) (fun hc4 => ?_)
      · skip
        replace hr := bif_t hr hc4
        refine W_skip ?_
        refine W_seq ?_
        refine W_block ?_
        refine W_seq ?_
        refine W_seq ?_
        refine W_region rfl ?_
        refine da_op rfl (d_mv (v := .int .i64 s2.2) i2_S4 ?_)
        refine da_op rfl (d_icmp cGtr rfl rfl ?_)
        refine da_nil ?_
        refine W_cond (b := (icmp .gtr s2.2 0)) rfl (fun hc5 => ?_) (fun hc5 => ?_)
        · skip
          replace hr := bif_t hr hc5
          refine W_region rfl ?_
          refine da_op rfl (d_mv (v := .string (bs s2.1)) i2_S3 ?_)
          obtain ⟨m6, hm6, hr⟩ := bind_out hr
          refine da_op rfl (d_scat rfl rfl hm6 ?_)
          refine da_op rfl (d_as (v := .string (bs m6)) rfl ?_)
          refine da_nil ?_
          obtain ⟨m8, hm8, hr⟩ := bind_out hr
          obtain ⟨m9, hm9, hr⟩ := bind_out hr
          obtain ⟨m10, hm10, hr⟩ := bind_out hr
          obtain ⟨m11, hm11, hr⟩ := bind_out hr
          obtain ⟨m12, hm12, hr⟩ := bind_out hr
          obtain ⟨m13, hm13, hr⟩ := bind_out hr
          obtain ⟨m14, hm14, hr⟩ := bind_out hr
          obtain ⟨m15, hm15, hr⟩ := bind_out hr
          refine W_any [] [{ V := fun _ v _ => v = (.string (bs m6)) }, { V := fun _ v _ => v = (Value.slice p0a p0n p0c) }, { V := fun _ v _ => v = (.int .i64 s2.2) }, { V := fun _ v _ => ∃ d7_3g : Nat, ∃ d7_3o : Nat, v = (.pointer (some ⟨d7_3g, d7_3o, none⟩)) ∧ EL encSRod (Value.slice p0a p0n p0c) (p0).length s2.2 d7_3g d7_3o }, { V := fun _ v _ => ∃ d7_3g : Nat, ∃ d7_3o : Nat, v = (.pointer (some ⟨d7_3g, d7_3o, none⟩)) ∧ EL encSRod (Value.slice p0a p0n p0c) (p0).length s2.2 d7_3g d7_3o }, { V := fun _ v _ => v = (.int .i64 m8.a) }, { V := fun _ v _ => v = (Value.slice p0a p0n p0c) }, { V := fun _ v _ => v = (.int .i64 s2.2) }, { V := fun _ v _ => ∃ d7_8g : Nat, ∃ d7_8o : Nat, v = (.pointer (some ⟨d7_8g, d7_8o, none⟩)) ∧ EL encSRod (Value.slice p0a p0n p0c) (p0).length s2.2 d7_8g d7_8o }, { V := fun _ v _ => ∃ d7_8g : Nat, ∃ d7_8o : Nat, v = (.pointer (some ⟨d7_8g, d7_8o + 1, none⟩)) ∧ EL encSRod (Value.slice p0a p0n p0c) (p0).length s2.2 d7_8g d7_8o }, { V := fun _ v _ => v = (.int .i64 m9.b) }, { V := fun _ v w' => ∃ d7_11a : Option Addr, ∃ d7_11n : Nat, ∃ d7_11c : Nat, v = (Value.slice d7_11a d7_11n d7_11c) ∧ (∀ k, (Value.slice d7_11a d7_11n d7_11c).ownBlock = some k → wl2.heap.size ≤ k) ∧ OS w' 2 encI_i64 (Value.slice d7_11a d7_11n d7_11c) ([m8.a, m9.b]) }, { V := fun _ v _ => v = (.string (bs m10)) }, { V := fun _ v _ => v = (.string (bs m11)) }, { V := fun _ v _ => v = (Value.slice p0a p0n p0c) }, { V := fun _ v _ => v = (.int .i64 s2.2) }, { V := fun _ v _ => ∃ d7_16g : Nat, ∃ d7_16o : Nat, v = (.pointer (some ⟨d7_16g, d7_16o, none⟩)) ∧ EL encSRod (Value.slice p0a p0n p0c) (p0).length s2.2 d7_16g d7_16o }, { V := fun _ v _ => ∃ d7_16g : Nat, ∃ d7_16o : Nat, v = (.pointer (some ⟨d7_16g, d7_16o + 2, none⟩)) ∧ EL encSRod (Value.slice p0a p0n p0c) (p0).length s2.2 d7_16g d7_16o }, { V := fun _ v _ => ∃ d7_16r2 : Nat, v = (.float .f32 d7_16r2) ∧ cn .f32 d7_16r2 = m12.long }, { V := fun _ v w' => ∃ d7_19a : Option Addr, ∃ d7_19n : Nat, ∃ d7_19c : Nat, v = (Value.slice d7_19a d7_19n d7_19c) ∧ (∀ k, (Value.slice d7_19a d7_19n d7_19c).ownBlock = some k → wl2.heap.size ≤ k) ∧ OS w' 22 encF_f32 (Value.slice d7_19a d7_19n d7_19c) ([m12.long]) }, { V := fun _ v _ => v = (.string (bs m13)) }, { V := fun _ v _ => v = (.string (bs m14)) }, { V := fun _ v _ => v = (.string (bs m15)) }, { V := fun _ v _ => v = (.string (bs m15)) }] mixed (by kernel_rfl) ⟨trivial, trivial, trivial, trivial, trivial, trivial, trivial, trivial, trivial, trivial, trivial, trivial, trivial, trivial, trivial, trivial, trivial, trivial, trivial, trivial, trivial, trivial, trivial, trivial, trivial⟩ ⟨?_, ?_, ?_, ?_, ?_, ?_, ?_, ?_, ?_, ?_, ?_, ?_, ?_, ?_, ?_, ?_, ?_, ?_, ?_, ?_, ?_, ?_, ?_, ?_, trivial⟩ ?_
          · skip
            refine ⟨fun _ _ _ _ _ _ h _ => h, fun _ _ h _ => h, fun σ' w' hA hE hD hP => ?_⟩
            have t3 : σ' 3 = .string (bs m6) := ((hP 23 _ _ rfl rfl (.inr rfl)).2 3 rfl).trans rfl
            refine dg_op rfl (d_mv (v := .string (bs m6)) t3 ?_)
            exact ⟨rfl, own_none (Ext.refl w')⟩
          · skip
            refine ⟨fun _ _ _ _ _ _ h _ => h, fun _ _ h _ => h, fun σ' w' hA hE hD hP => ?_⟩
            have t0 : σ' 0 = (Value.slice p0a p0n p0c) := (hA 0 rfl).trans i2_S0
            have B0_16 : RS w' encSRod (Value.slice p0a p0n p0c) p0 := B3.frm hE (fun k _ hk => not_oth0)
            refine dg_op rfl (d_mv (v := (Value.slice p0a p0n p0c)) t0 ?_)
            exact ⟨rfl, own_none (Ext.refl w')⟩
          · skip
            refine ⟨fun _ _ _ _ _ _ h _ => h, fun _ _ h _ => h, fun σ' w' hA hE hD hP => ?_⟩
            have t4 : σ' 4 = .int .i64 s2.2 := (hA 4 rfl).trans i2_S4
            refine dg_op rfl (d_mv (v := .int .i64 s2.2) t4 ?_)
            exact ⟨rfl, own_none (Ext.refl w')⟩
          · skip
            refine ⟨fun _ _ _ _ _ _ h _ => h, fun _ _ h _ => h, fun σ' w' hA hE hD hP => ?_⟩
            have t19 : σ' 19 = (Value.slice p0a p0n p0c) := hD 1 rfl
            have t20 : σ' 20 = (.int .i64 s2.2) := hD 2 rfl
            have B0_17 : RS w' encSRod (Value.slice p0a p0n p0c) p0 := B3.frm hE (fun k _ hk => not_oth0)
            refine dg_op rfl (d_indexE (e := encSRod) (v := (Value.slice p0a p0n p0c)) un67 size136 t19 t20 B0_17 hm8 fun g18 o18 l18 => ?_)
            exact ⟨⟨g18, o18, rfl, l18⟩, own_none (Ext.refl _)⟩
          · skip
            refine ⟨fun _ _ _ _ _ _ h _ => h, fun _ _ h _ => h, fun σ' w' hA hE hD hP => ?_⟩
            obtain ⟨d7_3g, d7_3o, t21, d7_3gE⟩ : ∃ d7_3g : Nat, ∃ d7_3o : Nat, σ' 21 = (.pointer (some ⟨d7_3g, d7_3o, none⟩)) ∧ EL encSRod (Value.slice p0a p0n p0c) (p0).length s2.2 d7_3g d7_3o := hD 3 rfl
            have B0_19 : RS w' encSRod (Value.slice p0a p0n p0c) p0 := B3.frm hE (fun k _ hk => not_oth0)
            obtain ⟨d7_3c, d7_3T, d7_3f, d7_3vs, d7_3hg, d7_3P, d7_3hq⟩ := RS.el B0_19 d7_3gE hm8
            obtain ⟨d7_3r2, rfl, d7_3h2⟩ := dec_encSRod d7_3hq
            refine dg_op rfl (d_fieldAddr t21 (fa136_0 _ _) ?_)
            exact ⟨⟨d7_3g, d7_3o, rfl, d7_3gE⟩, own_none (Ext.refl w')⟩
          · skip
            refine ⟨fun _ _ _ _ _ _ h _ => h, fun _ _ h _ => h, fun σ' w' hA hE hD hP => ?_⟩
            obtain ⟨d7_3g, d7_3o, t22, d7_3gE⟩ : ∃ d7_3g : Nat, ∃ d7_3o : Nat, σ' 22 = (.pointer (some ⟨d7_3g, d7_3o, none⟩)) ∧ EL encSRod (Value.slice p0a p0n p0c) (p0).length s2.2 d7_3g d7_3o := hD 4 rfl
            have B0_20 : RS w' encSRod (Value.slice p0a p0n p0c) p0 := B3.frm hE (fun k _ hk => not_oth0)
            obtain ⟨d7_3c, d7_3T, d7_3f, d7_3vs, d7_3hg, d7_3P, d7_3hq⟩ := RS.el B0_20 d7_3gE hm8
            obtain ⟨d7_3r2, rfl, d7_3h2⟩ := dec_encSRod d7_3hq
            refine dg_op rfl (d_load (v := .int .i64 m8.a) t22 agg2 d7_3hg (sub_get (vs := #[.int .i64 m8.a, .int .i64 m8.b, .float .f32 d7_3r2]) d7_3P (i := 0) rfl) ?_)
            exact ⟨rfl, own_none (Ext.refl w')⟩
          · skip
            refine ⟨fun _ _ _ _ _ _ h _ => h, fun _ _ h _ => h, fun σ' w' hA hE hD hP => ?_⟩
            have t0 : σ' 0 = (Value.slice p0a p0n p0c) := (hA 0 rfl).trans i2_S0
            have B0_21 : RS w' encSRod (Value.slice p0a p0n p0c) p0 := B3.frm hE (fun k _ hk => not_oth0)
            refine dg_op rfl (d_mv (v := (Value.slice p0a p0n p0c)) t0 ?_)
            exact ⟨rfl, own_none (Ext.refl w')⟩
          · skip
            refine ⟨fun _ _ _ _ _ _ h _ => h, fun _ _ h _ => h, fun σ' w' hA hE hD hP => ?_⟩
            have t4 : σ' 4 = .int .i64 s2.2 := (hA 4 rfl).trans i2_S4
            refine dg_op rfl (d_mv (v := .int .i64 s2.2) t4 ?_)
            exact ⟨rfl, own_none (Ext.refl w')⟩
          · skip
            refine ⟨fun _ _ _ _ _ _ h _ => h, fun _ _ h _ => h, fun σ' w' hA hE hD hP => ?_⟩
            have t24 : σ' 24 = (Value.slice p0a p0n p0c) := hD 6 rfl
            have t25 : σ' 25 = (.int .i64 s2.2) := hD 7 rfl
            have B0_22 : RS w' encSRod (Value.slice p0a p0n p0c) p0 := B3.frm hE (fun k _ hk => not_oth0)
            refine dg_op rfl (d_indexE (e := encSRod) (v := (Value.slice p0a p0n p0c)) un67 size136 t24 t25 B0_22 hm9 fun g23 o23 l23 => ?_)
            exact ⟨⟨g23, o23, rfl, l23⟩, own_none (Ext.refl _)⟩
          · skip
            refine ⟨fun _ _ _ _ _ _ h _ => h, fun _ _ h _ => h, fun σ' w' hA hE hD hP => ?_⟩
            obtain ⟨d7_8g, d7_8o, t26, d7_8gE⟩ : ∃ d7_8g : Nat, ∃ d7_8o : Nat, σ' 26 = (.pointer (some ⟨d7_8g, d7_8o, none⟩)) ∧ EL encSRod (Value.slice p0a p0n p0c) (p0).length s2.2 d7_8g d7_8o := hD 8 rfl
            have B0_24 : RS w' encSRod (Value.slice p0a p0n p0c) p0 := B3.frm hE (fun k _ hk => not_oth0)
            obtain ⟨d7_8c, d7_8T, d7_8f, d7_8vs, d7_8hg, d7_8P, d7_8hq⟩ := RS.el B0_24 d7_8gE hm9
            obtain ⟨d7_8r2, rfl, d7_8h2⟩ := dec_encSRod d7_8hq
            refine dg_op rfl (d_fieldAddr t26 (fa136_1 _ _) ?_)
            exact ⟨⟨d7_8g, d7_8o, rfl, d7_8gE⟩, own_none (Ext.refl w')⟩
          · skip
            refine ⟨fun _ _ _ _ _ _ h _ => h, fun _ _ h _ => h, fun σ' w' hA hE hD hP => ?_⟩
            obtain ⟨d7_8g, d7_8o, t27, d7_8gE⟩ : ∃ d7_8g : Nat, ∃ d7_8o : Nat, σ' 27 = (.pointer (some ⟨d7_8g, d7_8o + 1, none⟩)) ∧ EL encSRod (Value.slice p0a p0n p0c) (p0).length s2.2 d7_8g d7_8o := hD 9 rfl
            have B0_25 : RS w' encSRod (Value.slice p0a p0n p0c) p0 := B3.frm hE (fun k _ hk => not_oth0)
            obtain ⟨d7_8c, d7_8T, d7_8f, d7_8vs, d7_8hg, d7_8P, d7_8hq⟩ := RS.el B0_25 d7_8gE hm9
            obtain ⟨d7_8r2, rfl, d7_8h2⟩ := dec_encSRod d7_8hq
            refine dg_op rfl (d_load (v := .int .i64 m9.b) t27 agg2 d7_8hg (sub_get (vs := #[.int .i64 m9.a, .int .i64 m9.b, .float .f32 d7_8r2]) d7_8P (i := 1) rfl) ?_)
            exact ⟨rfl, own_none (Ext.refl w')⟩
          · skip
            refine ⟨fun _ _ _ w' w'' _ ⟨d7_11a, d7_11n, d7_11c, hv, d7_11L, d7_11R⟩ hF => ⟨d7_11a, d7_11n, d7_11c, hv, d7_11L, d7_11R.frm hF (fun k hk => not_oth0)⟩, fun _ _ h _ => h, fun σ' w' hA hE hD hP => ?_⟩
            have t23 : σ' 23 = (.int .i64 m8.a) := hD 5 rfl
            have t28 : σ' 28 = (.int .i64 m9.b) := hD 10 rfl
            refine dg_op rfl (d_bslice (vs := [(0, .int .i64 m8.a), (1, .int .i64 m9.b)]) (cs := #[.int .i64 m8.a, .int .i64 m9.b]) un81 (pc t23 (pc t28 rfl)) (by kernel_rfl) fun w26 B26 E26 => ?_)
            have fr26 : ∀ k, (Value.slice (some ⟨w'.heap.size, 0, none⟩) 2 2).ownBlock = some k → w'.heap.size ≤ k := fun k hk => by cases hk; exact Nat.le_refl _
            have X27 : Ext w' w26 := (Ext.refl w').trans E26
            have O26 : OS w26 2 encI_i64 (Value.slice (some ⟨w'.heap.size, 0, none⟩) 2 2) [m8.a, m9.b] := OS.box (xs := [m8.a, m9.b]) B26 (lc_v rfl (lc_v rfl rfl)) (Nat.le_of_ble_eq_true rfl)
            exact ⟨⟨(some ⟨w'.heap.size, 0, none⟩), 2, 2, rfl, (fun k hk => Nat.le_trans hE.size (fr26 k hk)), O26⟩, own_none X27⟩
          · skip
            refine ⟨fun _ _ _ _ _ _ h _ => h, fun _ _ h _ => h, fun σ' w' hA hE hD hP => ?_⟩
            obtain ⟨d7_11a, d7_11n, d7_11c, t29, d7_11L, d7_11R⟩ : ∃ d7_11a : Option Addr, ∃ d7_11n : Nat, ∃ d7_11c : Nat, σ' 29 = (Value.slice d7_11a d7_11n d7_11c) ∧ (∀ k, (Value.slice d7_11a d7_11n d7_11c).ownBlock = some k → wl2.heap.size ≤ k) ∧ OS w' 2 encI_i64 (Value.slice d7_11a d7_11n d7_11c) ([m8.a, m9.b]) := hD 11 rfl
            refine dg_op rfl (d_cl (vs := [(Value.slice d7_11a d7_11n d7_11c)]) en177 (ac t29 rfl) rfl ?_)
            refine (c177 ([m8.a, m9.b]) d7_11a d7_11n d7_11c m10 w' hm10 d7_11R.rs).mono ?_
            rintro _ w28 ⟨rfl, E28⟩
            refine ⟨_, rfl, ?_⟩
            have X29 : Ext w' w28 := (Ext.refl w').trans E28
            exact ⟨rfl, own_none X29⟩
          · skip
            refine ⟨fun _ _ _ _ _ _ h _ => h, fun _ _ h _ => h, fun σ' w' hA hE hD hP => ?_⟩
            have t30 : σ' 30 = (.string (bs m10)) := hD 12 rfl
            refine dg_op rfl (d_scat t30 rfl hm11 ?_)
            exact ⟨rfl, own_none (Ext.refl w')⟩
          · skip
            refine ⟨fun _ _ _ _ _ _ h _ => h, fun _ _ h _ => h, fun σ' w' hA hE hD hP => ?_⟩
            have t0 : σ' 0 = (Value.slice p0a p0n p0c) := (hA 0 rfl).trans i2_S0
            have B0_30 : RS w' encSRod (Value.slice p0a p0n p0c) p0 := B3.frm hE (fun k _ hk => not_oth0)
            refine dg_op rfl (d_mv (v := (Value.slice p0a p0n p0c)) t0 ?_)
            exact ⟨rfl, own_none (Ext.refl w')⟩
          · skip
            refine ⟨fun _ _ _ _ _ _ h _ => h, fun _ _ h _ => h, fun σ' w' hA hE hD hP => ?_⟩
            have t4 : σ' 4 = .int .i64 s2.2 := (hA 4 rfl).trans i2_S4
            refine dg_op rfl (d_mv (v := .int .i64 s2.2) t4 ?_)
            exact ⟨rfl, own_none (Ext.refl w')⟩
          · skip
            refine ⟨fun _ _ _ _ _ _ h _ => h, fun _ _ h _ => h, fun σ' w' hA hE hD hP => ?_⟩
            have t32 : σ' 32 = (Value.slice p0a p0n p0c) := hD 14 rfl
            have t33 : σ' 33 = (.int .i64 s2.2) := hD 15 rfl
            have B0_31 : RS w' encSRod (Value.slice p0a p0n p0c) p0 := B3.frm hE (fun k _ hk => not_oth0)
            refine dg_op rfl (d_indexE (e := encSRod) (v := (Value.slice p0a p0n p0c)) un67 size136 t32 t33 B0_31 hm12 fun g32 o32 l32 => ?_)
            exact ⟨⟨g32, o32, rfl, l32⟩, own_none (Ext.refl _)⟩
          · skip
            refine ⟨fun _ _ _ _ _ _ h _ => h, fun _ _ h _ => h, fun σ' w' hA hE hD hP => ?_⟩
            obtain ⟨d7_16g, d7_16o, t34, d7_16gE⟩ : ∃ d7_16g : Nat, ∃ d7_16o : Nat, σ' 34 = (.pointer (some ⟨d7_16g, d7_16o, none⟩)) ∧ EL encSRod (Value.slice p0a p0n p0c) (p0).length s2.2 d7_16g d7_16o := hD 16 rfl
            have B0_33 : RS w' encSRod (Value.slice p0a p0n p0c) p0 := B3.frm hE (fun k _ hk => not_oth0)
            obtain ⟨d7_16c, d7_16T, d7_16f, d7_16vs, d7_16hg, d7_16P, d7_16hq⟩ := RS.el B0_33 d7_16gE hm12
            obtain ⟨d7_16r2, rfl, d7_16h2⟩ := dec_encSRod d7_16hq
            refine dg_op rfl (d_fieldAddr t34 (fa136_2 _ _) ?_)
            exact ⟨⟨d7_16g, d7_16o, rfl, d7_16gE⟩, own_none (Ext.refl w')⟩
          · skip
            refine ⟨fun _ _ _ _ _ _ h _ => h, fun _ _ h _ => h, fun σ' w' hA hE hD hP => ?_⟩
            obtain ⟨d7_16g, d7_16o, t35, d7_16gE⟩ : ∃ d7_16g : Nat, ∃ d7_16o : Nat, σ' 35 = (.pointer (some ⟨d7_16g, d7_16o + 2, none⟩)) ∧ EL encSRod (Value.slice p0a p0n p0c) (p0).length s2.2 d7_16g d7_16o := hD 17 rfl
            have B0_34 : RS w' encSRod (Value.slice p0a p0n p0c) p0 := B3.frm hE (fun k _ hk => not_oth0)
            obtain ⟨d7_16c, d7_16T, d7_16f, d7_16vs, d7_16hg, d7_16P, d7_16hq⟩ := RS.el B0_34 d7_16gE hm12
            obtain ⟨d7_16r2, rfl, d7_16h2⟩ := dec_encSRod d7_16hq
            refine dg_op rfl (d_load (v := .float .f32 d7_16r2) t35 agg22 d7_16hg (sub_get (vs := #[.int .i64 m12.a, .int .i64 m12.b, .float .f32 d7_16r2]) d7_16P (i := 2) rfl) ?_)
            exact ⟨⟨d7_16r2, rfl, d7_16h2⟩, own_none (Ext.refl w')⟩
          · skip
            refine ⟨fun _ _ _ w' w'' _ ⟨d7_19a, d7_19n, d7_19c, hv, d7_19L, d7_19R⟩ hF => ⟨d7_19a, d7_19n, d7_19c, hv, d7_19L, d7_19R.frm hF (fun k hk => not_oth0)⟩, fun _ _ h _ => h, fun σ' w' hA hE hD hP => ?_⟩
            obtain ⟨d7_16r2, t36, d7_16h2⟩ : ∃ d7_16r2 : Nat, σ' 36 = (.float .f32 d7_16r2) ∧ cn .f32 d7_16r2 = m12.long := hD 18 rfl
            refine dg_op rfl (d_bslice (vs := [(0, .float .f32 d7_16r2)]) (cs := #[.float .f32 d7_16r2]) un53 (pc t36 rfl) (by kernel_rfl) fun w35 B35 E35 => ?_)
            have fr35 : ∀ k, (Value.slice (some ⟨w'.heap.size, 0, none⟩) 1 1).ownBlock = some k → w'.heap.size ≤ k := fun k hk => by cases hk; exact Nat.le_refl _
            have X36 : Ext w' w35 := (Ext.refl w').trans E35
            have O35 : OS w35 22 encF_f32 (Value.slice (some ⟨w'.heap.size, 0, none⟩) 1 1) [m12.long] := OS.box (xs := [m12.long]) B35 (lc_f d7_16h2 rfl) (Nat.le_of_ble_eq_true rfl)
            exact ⟨⟨(some ⟨w'.heap.size, 0, none⟩), 1, 1, rfl, (fun k hk => Nat.le_trans hE.size (fr35 k hk)), O35⟩, own_none X36⟩
          · skip
            refine ⟨fun _ _ _ _ _ _ h _ => h, fun _ _ h _ => h, fun σ' w' hA hE hD hP => ?_⟩
            obtain ⟨d7_19a, d7_19n, d7_19c, t37, d7_19L, d7_19R⟩ : ∃ d7_19a : Option Addr, ∃ d7_19n : Nat, ∃ d7_19c : Nat, σ' 37 = (Value.slice d7_19a d7_19n d7_19c) ∧ (∀ k, (Value.slice d7_19a d7_19n d7_19c).ownBlock = some k → wl2.heap.size ≤ k) ∧ OS w' 22 encF_f32 (Value.slice d7_19a d7_19n d7_19c) ([m12.long]) := hD 19 rfl
            refine dg_op rfl (d_cl (vs := [(Value.slice d7_19a d7_19n d7_19c)]) en136 (ac t37 rfl) rfl ?_)
            refine (c136 ([m12.long]) d7_19a d7_19n d7_19c m13 w' hm13 d7_19R.rs).mono ?_
            rintro _ w37 ⟨rfl, E37⟩
            refine ⟨_, rfl, ?_⟩
            have X38 : Ext w' w37 := (Ext.refl w').trans E37
            exact ⟨rfl, own_none X38⟩
          · skip
            refine ⟨fun _ _ _ _ _ _ h _ => h, fun _ _ h _ => h, fun σ' w' hA hE hD hP => ?_⟩
            have t31 : σ' 31 = (.string (bs m11)) := hD 13 rfl
            have t38 : σ' 38 = (.string (bs m13)) := hD 20 rfl
            refine dg_op rfl (d_scat t31 t38 hm14 ?_)
            exact ⟨rfl, own_none (Ext.refl w')⟩
          · skip
            refine ⟨fun _ _ _ _ _ _ h _ => h, fun _ _ h _ => h, fun σ' w' hA hE hD hP => ?_⟩
            have t18 : σ' 18 = (.string (bs m6)) := hD 0 rfl
            have t39 : σ' 39 = (.string (bs m14)) := hD 21 rfl
            refine dg_op rfl (d_scat t18 t39 hm15 ?_)
            exact ⟨rfl, own_none (Ext.refl w')⟩
          · skip
            refine ⟨fun _ _ _ _ _ _ h _ => h, fun _ _ h _ => h, fun σ' w' hA hE hD hP => ?_⟩
            have t40 : σ' 40 = (.string (bs m15)) := hD 22 rfl
            refine dg_op rfl (d_as (v := .string (bs m15)) t40 ?_)
            exact ⟨rfl, own_none (Ext.refl w')⟩
          · skip
            intro σ7 w7 A7 E7 V7
            have E7x : Ext wl2 w7 := ext_of_oth0 E7
            have s3_7 : σ7 3 = (.string (bs m15)) := V7 23 (Nat.le_of_ble_eq_true rfl)
            have s4_7 : σ7 4 = .int .i64 s2.2 := (A7 4 rfl).trans i2_S4
            have s0_7 : σ7 0 = (Value.slice p0a p0n p0c) := (A7 0 rfl).trans i2_S0
            have X39 : Ext w w7 := i2_X.trans E7x
            refine W_region rfl ?_
            refine da_op rfl (d_mv (v := .int .i64 s2.2) s4_7 ?_)
            refine da_op rfl (d_iarith rfl rfl (.inl ⟨rfl, rfl⟩) ?_)
            refine da_op rfl (d_as (v := .int .i64 (IntKind.i64.wrap (s2.2 + 1))) rfl ?_)
            refine da_nil ?_
            obtain rfl := Option.some.inj hr
            exact ⟨_, rfl, ⟨s3_7, rfl, s0_7, X39⟩⟩
        · skip
          replace hr := bif_f hr hc5
          refine W_skip ?_
          obtain ⟨m41, hm41, hr⟩ := bind_out hr
          obtain ⟨m42, hm42, hr⟩ := bind_out hr
          obtain ⟨m43, hm43, hr⟩ := bind_out hr
          obtain ⟨m44, hm44, hr⟩ := bind_out hr
          obtain ⟨m45, hm45, hr⟩ := bind_out hr
          obtain ⟨m46, hm46, hr⟩ := bind_out hr
          obtain ⟨m47, hm47, hr⟩ := bind_out hr
          obtain ⟨m48, hm48, hr⟩ := bind_out hr
          refine W_any [] [{ V := fun _ v _ => v = (.string (bs s2.1)) }, { V := fun _ v _ => v = (Value.slice p0a p0n p0c) }, { V := fun _ v _ => v = (.int .i64 s2.2) }, { V := fun _ v _ => ∃ d40_3g : Nat, ∃ d40_3o : Nat, v = (.pointer (some ⟨d40_3g, d40_3o, none⟩)) ∧ EL encSRod (Value.slice p0a p0n p0c) (p0).length s2.2 d40_3g d40_3o }, { V := fun _ v _ => ∃ d40_3g : Nat, ∃ d40_3o : Nat, v = (.pointer (some ⟨d40_3g, d40_3o, none⟩)) ∧ EL encSRod (Value.slice p0a p0n p0c) (p0).length s2.2 d40_3g d40_3o }, { V := fun _ v _ => v = (.int .i64 m41.a) }, { V := fun _ v _ => v = (Value.slice p0a p0n p0c) }, { V := fun _ v _ => v = (.int .i64 s2.2) }, { V := fun _ v _ => ∃ d40_8g : Nat, ∃ d40_8o : Nat, v = (.pointer (some ⟨d40_8g, d40_8o, none⟩)) ∧ EL encSRod (Value.slice p0a p0n p0c) (p0).length s2.2 d40_8g d40_8o }, { V := fun _ v _ => ∃ d40_8g : Nat, ∃ d40_8o : Nat, v = (.pointer (some ⟨d40_8g, d40_8o + 1, none⟩)) ∧ EL encSRod (Value.slice p0a p0n p0c) (p0).length s2.2 d40_8g d40_8o }, { V := fun _ v _ => v = (.int .i64 m42.b) }, { V := fun _ v w' => ∃ d40_11a : Option Addr, ∃ d40_11n : Nat, ∃ d40_11c : Nat, v = (Value.slice d40_11a d40_11n d40_11c) ∧ (∀ k, (Value.slice d40_11a d40_11n d40_11c).ownBlock = some k → wl2.heap.size ≤ k) ∧ OS w' 2 encI_i64 (Value.slice d40_11a d40_11n d40_11c) ([m41.a, m42.b]) }, { V := fun _ v _ => v = (.string (bs m43)) }, { V := fun _ v _ => v = (.string (bs m44)) }, { V := fun _ v _ => v = (Value.slice p0a p0n p0c) }, { V := fun _ v _ => v = (.int .i64 s2.2) }, { V := fun _ v _ => ∃ d40_16g : Nat, ∃ d40_16o : Nat, v = (.pointer (some ⟨d40_16g, d40_16o, none⟩)) ∧ EL encSRod (Value.slice p0a p0n p0c) (p0).length s2.2 d40_16g d40_16o }, { V := fun _ v _ => ∃ d40_16g : Nat, ∃ d40_16o : Nat, v = (.pointer (some ⟨d40_16g, d40_16o + 2, none⟩)) ∧ EL encSRod (Value.slice p0a p0n p0c) (p0).length s2.2 d40_16g d40_16o }, { V := fun _ v _ => ∃ d40_16r2 : Nat, v = (.float .f32 d40_16r2) ∧ cn .f32 d40_16r2 = m45.long }, { V := fun _ v w' => ∃ d40_19a : Option Addr, ∃ d40_19n : Nat, ∃ d40_19c : Nat, v = (Value.slice d40_19a d40_19n d40_19c) ∧ (∀ k, (Value.slice d40_19a d40_19n d40_19c).ownBlock = some k → wl2.heap.size ≤ k) ∧ OS w' 22 encF_f32 (Value.slice d40_19a d40_19n d40_19c) ([m45.long]) }, { V := fun _ v _ => v = (.string (bs m46)) }, { V := fun _ v _ => v = (.string (bs m47)) }, { V := fun _ v _ => v = (.string (bs m48)) }, { V := fun _ v _ => v = (.string (bs m48)) }] mixed (by kernel_rfl) ⟨trivial, trivial, trivial, trivial, trivial, trivial, trivial, trivial, trivial, trivial, trivial, trivial, trivial, trivial, trivial, trivial, trivial, trivial, trivial, trivial, trivial, trivial, trivial, trivial, trivial⟩ ⟨?_, ?_, ?_, ?_, ?_, ?_, ?_, ?_, ?_, ?_, ?_, ?_, ?_, ?_, ?_, ?_, ?_, ?_, ?_, ?_, ?_, ?_, ?_, ?_, trivial⟩ ?_
          · skip
            refine ⟨fun _ _ _ _ _ _ h _ => h, fun _ _ h _ => h, fun σ' w' hA hE hD hP => ?_⟩
            have t3 : σ' 3 = .string (bs s2.1) := ((hP 23 _ _ rfl rfl (.inr rfl)).2 3 rfl).trans i2_S3
            refine dg_op rfl (d_mv (v := .string (bs s2.1)) t3 ?_)
            exact ⟨rfl, own_none (Ext.refl w')⟩
          · skip
            refine ⟨fun _ _ _ _ _ _ h _ => h, fun _ _ h _ => h, fun σ' w' hA hE hD hP => ?_⟩
            have t0 : σ' 0 = (Value.slice p0a p0n p0c) := (hA 0 rfl).trans i2_S0
            have B0_49 : RS w' encSRod (Value.slice p0a p0n p0c) p0 := B3.frm hE (fun k _ hk => not_oth0)
            refine dg_op rfl (d_mv (v := (Value.slice p0a p0n p0c)) t0 ?_)
            exact ⟨rfl, own_none (Ext.refl w')⟩
          · skip
            refine ⟨fun _ _ _ _ _ _ h _ => h, fun _ _ h _ => h, fun σ' w' hA hE hD hP => ?_⟩
            have t4 : σ' 4 = .int .i64 s2.2 := (hA 4 rfl).trans i2_S4
            refine dg_op rfl (d_mv (v := .int .i64 s2.2) t4 ?_)
            exact ⟨rfl, own_none (Ext.refl w')⟩
          · skip
            refine ⟨fun _ _ _ _ _ _ h _ => h, fun _ _ h _ => h, fun σ' w' hA hE hD hP => ?_⟩
            have t19 : σ' 19 = (Value.slice p0a p0n p0c) := hD 1 rfl
            have t20 : σ' 20 = (.int .i64 s2.2) := hD 2 rfl
            have B0_50 : RS w' encSRod (Value.slice p0a p0n p0c) p0 := B3.frm hE (fun k _ hk => not_oth0)
            refine dg_op rfl (d_indexE (e := encSRod) (v := (Value.slice p0a p0n p0c)) un67 size136 t19 t20 B0_50 hm41 fun g51 o51 l51 => ?_)
            exact ⟨⟨g51, o51, rfl, l51⟩, own_none (Ext.refl _)⟩
          · skip
            refine ⟨fun _ _ _ _ _ _ h _ => h, fun _ _ h _ => h, fun σ' w' hA hE hD hP => ?_⟩
            obtain ⟨d40_3g, d40_3o, t21, d40_3gE⟩ : ∃ d40_3g : Nat, ∃ d40_3o : Nat, σ' 21 = (.pointer (some ⟨d40_3g, d40_3o, none⟩)) ∧ EL encSRod (Value.slice p0a p0n p0c) (p0).length s2.2 d40_3g d40_3o := hD 3 rfl
            have B0_52 : RS w' encSRod (Value.slice p0a p0n p0c) p0 := B3.frm hE (fun k _ hk => not_oth0)
            obtain ⟨d40_3c, d40_3T, d40_3f, d40_3vs, d40_3hg, d40_3P, d40_3hq⟩ := RS.el B0_52 d40_3gE hm41
            obtain ⟨d40_3r2, rfl, d40_3h2⟩ := dec_encSRod d40_3hq
            refine dg_op rfl (d_fieldAddr t21 (fa136_0 _ _) ?_)
            exact ⟨⟨d40_3g, d40_3o, rfl, d40_3gE⟩, own_none (Ext.refl w')⟩
          · skip
            refine ⟨fun _ _ _ _ _ _ h _ => h, fun _ _ h _ => h, fun σ' w' hA hE hD hP => ?_⟩
            obtain ⟨d40_3g, d40_3o, t22, d40_3gE⟩ : ∃ d40_3g : Nat, ∃ d40_3o : Nat, σ' 22 = (.pointer (some ⟨d40_3g, d40_3o, none⟩)) ∧ EL encSRod (Value.slice p0a p0n p0c) (p0).length s2.2 d40_3g d40_3o := hD 4 rfl
            have B0_53 : RS w' encSRod (Value.slice p0a p0n p0c) p0 := B3.frm hE (fun k _ hk => not_oth0)
            obtain ⟨d40_3c, d40_3T, d40_3f, d40_3vs, d40_3hg, d40_3P, d40_3hq⟩ := RS.el B0_53 d40_3gE hm41
            obtain ⟨d40_3r2, rfl, d40_3h2⟩ := dec_encSRod d40_3hq
            refine dg_op rfl (d_load (v := .int .i64 m41.a) t22 agg2 d40_3hg (sub_get (vs := #[.int .i64 m41.a, .int .i64 m41.b, .float .f32 d40_3r2]) d40_3P (i := 0) rfl) ?_)
            exact ⟨rfl, own_none (Ext.refl w')⟩
          · skip
            refine ⟨fun _ _ _ _ _ _ h _ => h, fun _ _ h _ => h, fun σ' w' hA hE hD hP => ?_⟩
            have t0 : σ' 0 = (Value.slice p0a p0n p0c) := (hA 0 rfl).trans i2_S0
            have B0_54 : RS w' encSRod (Value.slice p0a p0n p0c) p0 := B3.frm hE (fun k _ hk => not_oth0)
            refine dg_op rfl (d_mv (v := (Value.slice p0a p0n p0c)) t0 ?_)
            exact ⟨rfl, own_none (Ext.refl w')⟩
          · skip
            refine ⟨fun _ _ _ _ _ _ h _ => h, fun _ _ h _ => h, fun σ' w' hA hE hD hP => ?_⟩
            have t4 : σ' 4 = .int .i64 s2.2 := (hA 4 rfl).trans i2_S4
            refine dg_op rfl (d_mv (v := .int .i64 s2.2) t4 ?_)
            exact ⟨rfl, own_none (Ext.refl w')⟩
          · skip
            refine ⟨fun _ _ _ _ _ _ h _ => h, fun _ _ h _ => h, fun σ' w' hA hE hD hP => ?_⟩
            have t24 : σ' 24 = (Value.slice p0a p0n p0c) := hD 6 rfl
            have t25 : σ' 25 = (.int .i64 s2.2) := hD 7 rfl
            have B0_55 : RS w' encSRod (Value.slice p0a p0n p0c) p0 := B3.frm hE (fun k _ hk => not_oth0)
            refine dg_op rfl (d_indexE (e := encSRod) (v := (Value.slice p0a p0n p0c)) un67 size136 t24 t25 B0_55 hm42 fun g56 o56 l56 => ?_)
            exact ⟨⟨g56, o56, rfl, l56⟩, own_none (Ext.refl _)⟩
          · skip
            refine ⟨fun _ _ _ _ _ _ h _ => h, fun _ _ h _ => h, fun σ' w' hA hE hD hP => ?_⟩
            obtain ⟨d40_8g, d40_8o, t26, d40_8gE⟩ : ∃ d40_8g : Nat, ∃ d40_8o : Nat, σ' 26 = (.pointer (some ⟨d40_8g, d40_8o, none⟩)) ∧ EL encSRod (Value.slice p0a p0n p0c) (p0).length s2.2 d40_8g d40_8o := hD 8 rfl
            have B0_57 : RS w' encSRod (Value.slice p0a p0n p0c) p0 := B3.frm hE (fun k _ hk => not_oth0)
            obtain ⟨d40_8c, d40_8T, d40_8f, d40_8vs, d40_8hg, d40_8P, d40_8hq⟩ := RS.el B0_57 d40_8gE hm42
            obtain ⟨d40_8r2, rfl, d40_8h2⟩ := dec_encSRod d40_8hq
            refine dg_op rfl (d_fieldAddr t26 (fa136_1 _ _) ?_)
            exact ⟨⟨d40_8g, d40_8o, rfl, d40_8gE⟩, own_none (Ext.refl w')⟩
          · skip
            refine ⟨fun _ _ _ _ _ _ h _ => h, fun _ _ h _ => h, fun σ' w' hA hE hD hP => ?_⟩
            obtain ⟨d40_8g, d40_8o, t27, d40_8gE⟩ : ∃ d40_8g : Nat, ∃ d40_8o : Nat, σ' 27 = (.pointer (some ⟨d40_8g, d40_8o + 1, none⟩)) ∧ EL encSRod (Value.slice p0a p0n p0c) (p0).length s2.2 d40_8g d40_8o := hD 9 rfl
            have B0_58 : RS w' encSRod (Value.slice p0a p0n p0c) p0 := B3.frm hE (fun k _ hk => not_oth0)
            obtain ⟨d40_8c, d40_8T, d40_8f, d40_8vs, d40_8hg, d40_8P, d40_8hq⟩ := RS.el B0_58 d40_8gE hm42
            obtain ⟨d40_8r2, rfl, d40_8h2⟩ := dec_encSRod d40_8hq
            refine dg_op rfl (d_load (v := .int .i64 m42.b) t27 agg2 d40_8hg (sub_get (vs := #[.int .i64 m42.a, .int .i64 m42.b, .float .f32 d40_8r2]) d40_8P (i := 1) rfl) ?_)
            exact ⟨rfl, own_none (Ext.refl w')⟩
          · skip
            refine ⟨fun _ _ _ w' w'' _ ⟨d40_11a, d40_11n, d40_11c, hv, d40_11L, d40_11R⟩ hF => ⟨d40_11a, d40_11n, d40_11c, hv, d40_11L, d40_11R.frm hF (fun k hk => not_oth0)⟩, fun _ _ h _ => h, fun σ' w' hA hE hD hP => ?_⟩
            have t23 : σ' 23 = (.int .i64 m41.a) := hD 5 rfl
            have t28 : σ' 28 = (.int .i64 m42.b) := hD 10 rfl
            refine dg_op rfl (d_bslice (vs := [(0, .int .i64 m41.a), (1, .int .i64 m42.b)]) (cs := #[.int .i64 m41.a, .int .i64 m42.b]) un81 (pc t23 (pc t28 rfl)) (by kernel_rfl) fun w59 B59 E59 => ?_)
            have fr59 : ∀ k, (Value.slice (some ⟨w'.heap.size, 0, none⟩) 2 2).ownBlock = some k → w'.heap.size ≤ k := fun k hk => by cases hk; exact Nat.le_refl _
            have X60 : Ext w' w59 := (Ext.refl w').trans E59
            have O59 : OS w59 2 encI_i64 (Value.slice (some ⟨w'.heap.size, 0, none⟩) 2 2) [m41.a, m42.b] := OS.box (xs := [m41.a, m42.b]) B59 (lc_v rfl (lc_v rfl rfl)) (Nat.le_of_ble_eq_true rfl)
            exact ⟨⟨(some ⟨w'.heap.size, 0, none⟩), 2, 2, rfl, (fun k hk => Nat.le_trans hE.size (fr59 k hk)), O59⟩, own_none X60⟩
          · skip
            refine ⟨fun _ _ _ _ _ _ h _ => h, fun _ _ h _ => h, fun σ' w' hA hE hD hP => ?_⟩
            obtain ⟨d40_11a, d40_11n, d40_11c, t29, d40_11L, d40_11R⟩ : ∃ d40_11a : Option Addr, ∃ d40_11n : Nat, ∃ d40_11c : Nat, σ' 29 = (Value.slice d40_11a d40_11n d40_11c) ∧ (∀ k, (Value.slice d40_11a d40_11n d40_11c).ownBlock = some k → wl2.heap.size ≤ k) ∧ OS w' 2 encI_i64 (Value.slice d40_11a d40_11n d40_11c) ([m41.a, m42.b]) := hD 11 rfl
            refine dg_op rfl (d_cl (vs := [(Value.slice d40_11a d40_11n d40_11c)]) en177 (ac t29 rfl) rfl ?_)
            refine (c177 ([m41.a, m42.b]) d40_11a d40_11n d40_11c m43 w' hm43 d40_11R.rs).mono ?_
            rintro _ w61 ⟨rfl, E61⟩
            refine ⟨_, rfl, ?_⟩
            have X62 : Ext w' w61 := (Ext.refl w').trans E61
            exact ⟨rfl, own_none X62⟩
          · skip
            refine ⟨fun _ _ _ _ _ _ h _ => h, fun _ _ h _ => h, fun σ' w' hA hE hD hP => ?_⟩
            have t30 : σ' 30 = (.string (bs m43)) := hD 12 rfl
            refine dg_op rfl (d_scat t30 rfl hm44 ?_)
            exact ⟨rfl, own_none (Ext.refl w')⟩
          · skip
            refine ⟨fun _ _ _ _ _ _ h _ => h, fun _ _ h _ => h, fun σ' w' hA hE hD hP => ?_⟩
            have t0 : σ' 0 = (Value.slice p0a p0n p0c) := (hA 0 rfl).trans i2_S0
            have B0_63 : RS w' encSRod (Value.slice p0a p0n p0c) p0 := B3.frm hE (fun k _ hk => not_oth0)
            refine dg_op rfl (d_mv (v := (Value.slice p0a p0n p0c)) t0 ?_)
            exact ⟨rfl, own_none (Ext.refl w')⟩
          · skip
            refine ⟨fun _ _ _ _ _ _ h _ => h, fun _ _ h _ => h, fun σ' w' hA hE hD hP => ?_⟩
            have t4 : σ' 4 = .int .i64 s2.2 := (hA 4 rfl).trans i2_S4
            refine dg_op rfl (d_mv (v := .int .i64 s2.2) t4 ?_)
            exact ⟨rfl, own_none (Ext.refl w')⟩
          · skip
            refine ⟨fun _ _ _ _ _ _ h _ => h, fun _ _ h _ => h, fun σ' w' hA hE hD hP => ?_⟩
            have t32 : σ' 32 = (Value.slice p0a p0n p0c) := hD 14 rfl
            have t33 : σ' 33 = (.int .i64 s2.2) := hD 15 rfl
            have B0_64 : RS w' encSRod (Value.slice p0a p0n p0c) p0 := B3.frm hE (fun k _ hk => not_oth0)
            refine dg_op rfl (d_indexE (e := encSRod) (v := (Value.slice p0a p0n p0c)) un67 size136 t32 t33 B0_64 hm45 fun g65 o65 l65 => ?_)
            exact ⟨⟨g65, o65, rfl, l65⟩, own_none (Ext.refl _)⟩
          · skip
            refine ⟨fun _ _ _ _ _ _ h _ => h, fun _ _ h _ => h, fun σ' w' hA hE hD hP => ?_⟩
            obtain ⟨d40_16g, d40_16o, t34, d40_16gE⟩ : ∃ d40_16g : Nat, ∃ d40_16o : Nat, σ' 34 = (.pointer (some ⟨d40_16g, d40_16o, none⟩)) ∧ EL encSRod (Value.slice p0a p0n p0c) (p0).length s2.2 d40_16g d40_16o := hD 16 rfl
            have B0_66 : RS w' encSRod (Value.slice p0a p0n p0c) p0 := B3.frm hE (fun k _ hk => not_oth0)
            obtain ⟨d40_16c, d40_16T, d40_16f, d40_16vs, d40_16hg, d40_16P, d40_16hq⟩ := RS.el B0_66 d40_16gE hm45
            obtain ⟨d40_16r2, rfl, d40_16h2⟩ := dec_encSRod d40_16hq
            refine dg_op rfl (d_fieldAddr t34 (fa136_2 _ _) ?_)
            exact ⟨⟨d40_16g, d40_16o, rfl, d40_16gE⟩, own_none (Ext.refl w')⟩
          · skip
            refine ⟨fun _ _ _ _ _ _ h _ => h, fun _ _ h _ => h, fun σ' w' hA hE hD hP => ?_⟩
            obtain ⟨d40_16g, d40_16o, t35, d40_16gE⟩ : ∃ d40_16g : Nat, ∃ d40_16o : Nat, σ' 35 = (.pointer (some ⟨d40_16g, d40_16o + 2, none⟩)) ∧ EL encSRod (Value.slice p0a p0n p0c) (p0).length s2.2 d40_16g d40_16o := hD 17 rfl
            have B0_67 : RS w' encSRod (Value.slice p0a p0n p0c) p0 := B3.frm hE (fun k _ hk => not_oth0)
            obtain ⟨d40_16c, d40_16T, d40_16f, d40_16vs, d40_16hg, d40_16P, d40_16hq⟩ := RS.el B0_67 d40_16gE hm45
            obtain ⟨d40_16r2, rfl, d40_16h2⟩ := dec_encSRod d40_16hq
            refine dg_op rfl (d_load (v := .float .f32 d40_16r2) t35 agg22 d40_16hg (sub_get (vs := #[.int .i64 m45.a, .int .i64 m45.b, .float .f32 d40_16r2]) d40_16P (i := 2) rfl) ?_)
            exact ⟨⟨d40_16r2, rfl, d40_16h2⟩, own_none (Ext.refl w')⟩
          · skip
            refine ⟨fun _ _ _ w' w'' _ ⟨d40_19a, d40_19n, d40_19c, hv, d40_19L, d40_19R⟩ hF => ⟨d40_19a, d40_19n, d40_19c, hv, d40_19L, d40_19R.frm hF (fun k hk => not_oth0)⟩, fun _ _ h _ => h, fun σ' w' hA hE hD hP => ?_⟩
            obtain ⟨d40_16r2, t36, d40_16h2⟩ : ∃ d40_16r2 : Nat, σ' 36 = (.float .f32 d40_16r2) ∧ cn .f32 d40_16r2 = m45.long := hD 18 rfl
            refine dg_op rfl (d_bslice (vs := [(0, .float .f32 d40_16r2)]) (cs := #[.float .f32 d40_16r2]) un53 (pc t36 rfl) (by kernel_rfl) fun w68 B68 E68 => ?_)
            have fr68 : ∀ k, (Value.slice (some ⟨w'.heap.size, 0, none⟩) 1 1).ownBlock = some k → w'.heap.size ≤ k := fun k hk => by cases hk; exact Nat.le_refl _
            have X69 : Ext w' w68 := (Ext.refl w').trans E68
            have O68 : OS w68 22 encF_f32 (Value.slice (some ⟨w'.heap.size, 0, none⟩) 1 1) [m45.long] := OS.box (xs := [m45.long]) B68 (lc_f d40_16h2 rfl) (Nat.le_of_ble_eq_true rfl)
            exact ⟨⟨(some ⟨w'.heap.size, 0, none⟩), 1, 1, rfl, (fun k hk => Nat.le_trans hE.size (fr68 k hk)), O68⟩, own_none X69⟩
          · skip
            refine ⟨fun _ _ _ _ _ _ h _ => h, fun _ _ h _ => h, fun σ' w' hA hE hD hP => ?_⟩
            obtain ⟨d40_19a, d40_19n, d40_19c, t37, d40_19L, d40_19R⟩ : ∃ d40_19a : Option Addr, ∃ d40_19n : Nat, ∃ d40_19c : Nat, σ' 37 = (Value.slice d40_19a d40_19n d40_19c) ∧ (∀ k, (Value.slice d40_19a d40_19n d40_19c).ownBlock = some k → wl2.heap.size ≤ k) ∧ OS w' 22 encF_f32 (Value.slice d40_19a d40_19n d40_19c) ([m45.long]) := hD 19 rfl
            refine dg_op rfl (d_cl (vs := [(Value.slice d40_19a d40_19n d40_19c)]) en136 (ac t37 rfl) rfl ?_)
            refine (c136 ([m45.long]) d40_19a d40_19n d40_19c m46 w' hm46 d40_19R.rs).mono ?_
            rintro _ w70 ⟨rfl, E70⟩
            refine ⟨_, rfl, ?_⟩
            have X71 : Ext w' w70 := (Ext.refl w').trans E70
            exact ⟨rfl, own_none X71⟩
          · skip
            refine ⟨fun _ _ _ _ _ _ h _ => h, fun _ _ h _ => h, fun σ' w' hA hE hD hP => ?_⟩
            have t31 : σ' 31 = (.string (bs m44)) := hD 13 rfl
            have t38 : σ' 38 = (.string (bs m46)) := hD 20 rfl
            refine dg_op rfl (d_scat t31 t38 hm47 ?_)
            exact ⟨rfl, own_none (Ext.refl w')⟩
          · skip
            refine ⟨fun _ _ _ _ _ _ h _ => h, fun _ _ h _ => h, fun σ' w' hA hE hD hP => ?_⟩
            have t18 : σ' 18 = (.string (bs s2.1)) := hD 0 rfl
            have t39 : σ' 39 = (.string (bs m47)) := hD 21 rfl
            refine dg_op rfl (d_scat t18 t39 hm48 ?_)
            exact ⟨rfl, own_none (Ext.refl w')⟩
          · skip
            refine ⟨fun _ _ _ _ _ _ h _ => h, fun _ _ h _ => h, fun σ' w' hA hE hD hP => ?_⟩
            have t40 : σ' 40 = (.string (bs m48)) := hD 22 rfl
            refine dg_op rfl (d_as (v := .string (bs m48)) t40 ?_)
            exact ⟨rfl, own_none (Ext.refl w')⟩
          · skip
            intro σ40 w40 A40 E40 V40
            have E40x : Ext wl2 w40 := ext_of_oth0 E40
            have s3_40 : σ40 3 = (.string (bs m48)) := V40 23 (Nat.le_of_ble_eq_true rfl)
            have s4_40 : σ40 4 = .int .i64 s2.2 := (A40 4 rfl).trans i2_S4
            have s0_40 : σ40 0 = (Value.slice p0a p0n p0c) := (A40 0 rfl).trans i2_S0
            have X72 : Ext w w40 := i2_X.trans E40x
            refine W_region rfl ?_
            refine da_op rfl (d_mv (v := .int .i64 s2.2) s4_40 ?_)
            refine da_op rfl (d_iarith rfl rfl (.inl ⟨rfl, rfl⟩) ?_)
            refine da_op rfl (d_as (v := .int .i64 (IntKind.i64.wrap (s2.2 + 1))) rfl ?_)
            refine da_nil ?_
            obtain rfl := Option.some.inj hr
            exact ⟨_, rfl, ⟨s3_40, rfl, s0_40, X72⟩⟩
      · skip
        replace hr := bif_f hr hc4
        refine W_exit ?_
        obtain rfl := Option.some.inj hr
        exact ⟨_, rfl, rfl, i2_S3, i2_X⟩
    · skip
      intro ex σx2 wx2 hq
      obtain ⟨rfl, q2_0_S3, q2_0_X⟩ := hq
      refine W_seq ?_
      refine W_region rfl ?_
      refine da_op rfl (d_mv (v := .string (bs m2)) q2_0_S3 ?_)
      refine da_op rfl (d_as (v := .string (bs m2)) rfl ?_)
      refine da_nil ?_
      refine W_ret ?_
      obtain rfl := Option.some.inj hr
      refine ⟨_, res1 (rv_tmp rfl), ?_⟩
      exact ⟨rfl, q2_0_X⟩
end Go.Proofs
