import Derived.Test.YtdcienojgkioiaaGreatDoorBZCt3
namespace Go.Proofs
open Go Go.Fl Go.RowKit Go.Rg
set_option maxRecDepth 100000
set_option linter.unusedVariables false
attribute [local irreducible] Go.Calls doAll Does DoesG W Wr
set_option maxHeartbeats 4000000 in
theorem c22 (p0 : List SVector) (p1 : Int) (p0a : Option Addr) (p0n : Nat) (p0c : Nat) (r : Int) (w : World) (hr : M.laws_heldVectorS p0 p1 = some r) (p0R : RS w encSVector (Value.slice p0a p0n p0c) p0) :
    Calls Tryz.prog 22 #[(Value.slice p0a p0n p0c), .int .i64 p1] w fun e w' => e = .returned (.int .i64 r) ∧ Ext w w' := by
  refine calls_of_W Tryz.func22 rfl (Nat.le_of_ble_eq_true rfl) ?_
  refine W_seq ?_
  refine W_region rfl ?_
  refine da_op rfl (d_as (v := .int .i64 0) rfl ?_)
  refine da_nil ?_
  refine W_seq ?_
  refine W_seq ?_
  refine W_region rfl ?_
  refine da_op rfl (d_as (v := .int .i64 0) rfl ?_)
  refine da_nil ?_
  refine W_block ?_
  obtain ⟨m1, hm1, hr⟩ := bind_out hr
  refine W_loopM hm1 (fun (s1 : Int × Int) σ w' => σ 1 = .int .i64 s1.1 ∧ σ 5 = .int .i64 s1.2 ∧ σ 0 = (Value.slice p0a p0n p0c) ∧ Ext w w') (fun (e1 : (Int ⊕ Int)) ex σ w' => sel e1 (fun e1 => ex = .exit 0 ∧ σ 1 = .int .i64 e1 ∧ Ext w w') (fun e1 => ex = .ret ∧ σ 4 = .int .i64 e1 ∧ Ext w w')) ⟨rfl, rfl, rfl, (Ext.refl w)⟩ ?_ ?_
  · skip
    rintro s1 σl1 wl1 r1l ⟨i1_S1, i1_S5, i1_S0, i1_X⟩ hr
    refine W_seq ?_
    refine W_seq ?_
    refine W_region rfl ?_
    refine da_op rfl (d_mv (v := .int .i64 s1.2) i1_S5 ?_)
    refine da_op rfl (d_mv (v := (Value.slice p0a p0n p0c)) i1_S0 ?_)
    have B2 : RS wl1 encSVector (Value.slice p0a p0n p0c) p0 := p0R.ext i1_X
    refine da_op rfl (d_len (e := encSVector) un22 rfl B2 ?_)
    refine da_op rfl (d_icmp cLss rfl rfl ?_)
    refine da_nil ?_
    refine W_cond (b := (icmp .lss s1.2 ((p0).length : Int))) rfl (fun hc3 => ?_) (fun hc3 => ?_)
    · skip
      replace hr := bif_t hr hc3
      refine W_skip ?_
      refine W_seq ?_
      refine W_block ?_
      refine W_seq ?_
      refine W_seq ?_
      refine W_region rfl ?_
      refine da_op rfl (d_mv (v := (Value.slice p0a p0n p0c)) i1_S0 ?_)
      refine da_op rfl (d_mv (v := .int .i64 s1.2) i1_S5 ?_)
      obtain ⟨m4, hm4, hr⟩ := bind_out hr
      refine da_op rfl (d_index (e := encSVector) (v := (Value.slice p0a p0n p0c)) un22 size57 rfl rfl B2 hm4 fun g5 o5 cu5 T5 fr5 vs5 hv5 hg5 hp5 hq5 => ?_)
      obtain ⟨e5_r0, e5_r1, e5_r2, rfl, e5_h0, e5_h1, e5_h2⟩ := dec_encSVector hq5
      refine da_op rfl (d_fieldAddr rfl (fa57_0 _ _) ?_)
      refine da_op rfl (d_load (v := .float .f32 e5_r0) rfl agg40 hg5 (sub_get (vs := #[.float .f32 e5_r0, .float .f32 e5_r1, .float .f32 e5_r2]) hp5 (i := 0) rfl) ?_)
      refine da_op rfl (d_mv (v := .int .i64 s1.1) i1_S1 ?_)
      refine da_op rfl (d_ofInt un3 un40 rfl ?_)
      refine da_op rfl (d_fcmp (k := .f32) cNeq rfl rfl e5_h0 (cn_fint _ _) ?_)
      refine da_nil ?_
      refine W_cond (b := (fcmp .neq .f32 m4.x (fint .f32 s1.1))) rfl (fun hc6 => ?_) (fun hc6 => ?_)
      · skip
        replace hr := bif_t hr hc6
        refine W_seq ?_
        refine W_region rfl ?_
        refine da_op rfl (d_as (v := .int .i64 (-1)) rfl ?_)
        refine da_nil ?_
        refine W_ret ?_
        obtain rfl := Option.some.inj hr
        exact ⟨_, rfl, rfl, rfl, i1_X⟩
      · skip
        replace hr := bif_f hr hc6
        refine W_skip ?_
        refine W_seq ?_
        refine W_region rfl ?_
        refine da_op rfl (d_mv (v := .int .i64 s1.1) i1_S1 ?_)
        refine da_op rfl (d_iarith rfl rfl (.inl ⟨rfl, rfl⟩) ?_)
        refine da_op rfl (d_as (v := .int .i64 (IntKind.i64.wrap (s1.1 + 1))) rfl ?_)
        refine da_nil ?_
        refine W_seq ?_
        refine W_seq ?_
        refine W_region rfl ?_
        refine da_op rfl (d_mv (v := (Value.slice p0a p0n p0c)) i1_S0 ?_)
        refine da_op rfl (d_mv (v := .int .i64 s1.2) i1_S5 ?_)
        obtain ⟨m7, hm7, hr⟩ := bind_out hr
        refine da_op rfl (d_index (e := encSVector) (v := (Value.slice p0a p0n p0c)) un22 size57 rfl rfl B2 hm7 fun g8 o8 cu8 T8 fr8 vs8 hv8 hg8 hp8 hq8 => ?_)
        obtain ⟨e8_r0, e8_r1, e8_r2, rfl, e8_h0, e8_h1, e8_h2⟩ := dec_encSVector hq8
        refine da_op rfl (d_fieldAddr rfl (fa57_1 _ _) ?_)
        refine da_op rfl (d_load (v := .float .f32 e8_r1) rfl agg40 hg8 (sub_get (vs := #[.float .f32 e8_r0, .float .f32 e8_r1, .float .f32 e8_r2]) hp8 (i := 1) rfl) ?_)
        refine da_op rfl (d_mv (v := .int .i64 (IntKind.i64.wrap (s1.1 + 1))) rfl ?_)
        refine da_op rfl (d_ofInt un3 un40 rfl ?_)
        refine da_op rfl (d_fcmp (k := .f32) cNeq rfl rfl e8_h1 (cn_fint _ _) ?_)
        refine da_nil ?_
        refine W_cond (b := (fcmp .neq .f32 m7.y (fint .f32 (IntKind.i64.wrap (s1.1 + 1))))) rfl (fun hc9 => ?_) (fun hc9 => ?_)
        · skip
          replace hr := bif_t hr hc9
          refine W_seq ?_
          refine W_region rfl ?_
          refine da_op rfl (d_as (v := .int .i64 (-1)) rfl ?_)
          refine da_nil ?_
          refine W_ret ?_
          obtain rfl := Option.some.inj hr
          exact ⟨_, rfl, rfl, rfl, i1_X⟩
        · skip
          replace hr := bif_f hr hc9
          refine W_skip ?_
          refine W_seq ?_
          refine W_region rfl ?_
          refine da_op rfl (d_mv (v := .int .i64 (IntKind.i64.wrap (s1.1 + 1))) rfl ?_)
          refine da_op rfl (d_iarith rfl rfl (.inl ⟨rfl, rfl⟩) ?_)
          refine da_op rfl (d_as (v := .int .i64 (IntKind.i64.wrap ((IntKind.i64.wrap (s1.1 + 1)) + 1))) rfl ?_)
          refine da_nil ?_
          refine W_seq ?_
          refine W_seq ?_
          refine W_region rfl ?_
          refine da_op rfl (d_mv (v := (Value.slice p0a p0n p0c)) i1_S0 ?_)
          refine da_op rfl (d_mv (v := .int .i64 s1.2) i1_S5 ?_)
          obtain ⟨m10, hm10, hr⟩ := bind_out hr
          refine da_op rfl (d_index (e := encSVector) (v := (Value.slice p0a p0n p0c)) un22 size57 rfl rfl B2 hm10 fun g11 o11 cu11 T11 fr11 vs11 hv11 hg11 hp11 hq11 => ?_)
          obtain ⟨e11_r0, e11_r1, e11_r2, rfl, e11_h0, e11_h1, e11_h2⟩ := dec_encSVector hq11
          refine da_op rfl (d_fieldAddr rfl (fa57_2 _ _) ?_)
          refine da_op rfl (d_load (v := .float .f32 e11_r2) rfl agg40 hg11 (sub_get (vs := #[.float .f32 e11_r0, .float .f32 e11_r1, .float .f32 e11_r2]) hp11 (i := 2) rfl) ?_)
          refine da_op rfl (d_mv (v := .int .i64 (IntKind.i64.wrap ((IntKind.i64.wrap (s1.1 + 1)) + 1))) rfl ?_)
          refine da_op rfl (d_ofInt un3 un40 rfl ?_)
          refine da_op rfl (d_fcmp (k := .f32) cNeq rfl rfl e11_h2 (cn_fint _ _) ?_)
          refine da_nil ?_
          refine W_cond (b := (fcmp .neq .f32 m10.z (fint .f32 (IntKind.i64.wrap ((IntKind.i64.wrap (s1.1 + 1)) + 1))))) rfl (fun hc12 => ?_) (fun hc12 => ?_)
          · skip
            replace hr := bif_t hr hc12
            refine W_seq ?_
            refine W_region rfl ?_
            refine da_op rfl (d_as (v := .int .i64 (-1)) rfl ?_)
            refine da_nil ?_
            refine W_ret ?_
            obtain rfl := Option.some.inj hr
            exact ⟨_, rfl, rfl, rfl, i1_X⟩
          · skip
            replace hr := bif_f hr hc12
            refine W_skip ?_
            refine W_region rfl ?_
            refine da_op rfl (d_mv (v := .int .i64 (IntKind.i64.wrap ((IntKind.i64.wrap (s1.1 + 1)) + 1))) rfl ?_)
            refine da_op rfl (d_iarith rfl rfl (.inl ⟨rfl, rfl⟩) ?_)
            refine da_op rfl (d_as (v := .int .i64 (IntKind.i64.wrap ((IntKind.i64.wrap ((IntKind.i64.wrap (s1.1 + 1)) + 1)) + 1))) rfl ?_)
            refine da_nil ?_
            refine W_region rfl ?_
            refine da_op rfl (d_mv (v := .int .i64 s1.2) i1_S5 ?_)
            refine da_op rfl (d_iarith rfl rfl (.inl ⟨rfl, rfl⟩) ?_)
            refine da_op rfl (d_as (v := .int .i64 (IntKind.i64.wrap (s1.2 + 1))) rfl ?_)
            refine da_nil ?_
            obtain rfl := Option.some.inj hr
            exact ⟨_, rfl, ⟨rfl, rfl, i1_S0, i1_X⟩⟩
    · skip
      replace hr := bif_f hr hc3
      refine W_exit ?_
      obtain rfl := Option.some.inj hr
      exact ⟨_, rfl, rfl, i1_S1, i1_X⟩
  · skip
    intro ex σx1 wx1 hq
    rcases m1 with m1 | m1
    · skip
      obtain ⟨rfl, q1_0_S1, q1_0_X⟩ := hq
      refine W_seq ?_
      refine W_region rfl ?_
      refine da_op rfl (d_mv (v := .int .i64 m1) q1_0_S1 ?_)
      refine da_op rfl (d_as (v := .int .i64 m1) rfl ?_)
      refine da_nil ?_
      refine W_ret ?_
      obtain rfl := Option.some.inj hr
      refine ⟨_, res1 (rv_tmp rfl), ?_⟩
      exact ⟨rfl, q1_0_X⟩
    · skip
      obtain ⟨rfl, q1_1_S4, q1_1_X⟩ := hq
      obtain rfl := Option.some.inj hr
      refine ⟨_, res1 (rv_tmp q1_1_S4), ?_⟩
      exact ⟨rfl, q1_1_X⟩
set_option maxHeartbeats 4000000 in
theorem c23 (p0 : List Nat) (p1 : Int) (p0a : Option Addr) (p0n : Nat) (p0c : Nat) (r : Int) (w : World) (hr : M.laws_heldFloat32S p0 p1 = some r) (p0R : RS w encF_f32 (Value.slice p0a p0n p0c) p0) :
    Calls Tryz.prog 23 #[(Value.slice p0a p0n p0c), .int .i64 p1] w fun e w' => e = .returned (.int .i64 r) ∧ Ext w w' := by
  refine calls_of_W Tryz.func23 rfl (Nat.le_of_ble_eq_true rfl) ?_
  refine W_seq ?_
  refine W_region rfl ?_
  refine da_op rfl (d_as (v := .int .i64 0) rfl ?_)
  refine da_nil ?_
  refine W_seq ?_
  refine W_seq ?_
  refine W_region rfl ?_
  refine da_op rfl (d_as (v := .int .i64 0) rfl ?_)
  refine da_nil ?_
  refine W_block ?_
  obtain ⟨m1, hm1, hr⟩ := bind_out hr
  refine W_loopM hm1 (fun (s1 : Int × Int) σ w' => σ 1 = .int .i64 s1.1 ∧ σ 5 = .int .i64 s1.2 ∧ σ 0 = (Value.slice p0a p0n p0c) ∧ Ext w w') (fun (e1 : (Int ⊕ Int)) ex σ w' => sel e1 (fun e1 => ex = .exit 0 ∧ σ 1 = .int .i64 e1 ∧ Ext w w') (fun e1 => ex = .ret ∧ σ 4 = .int .i64 e1 ∧ Ext w w')) ⟨rfl, rfl, rfl, (Ext.refl w)⟩ ?_ ?_
  · skip
    rintro s1 σl1 wl1 r1l ⟨i1_S1, i1_S5, i1_S0, i1_X⟩ hr
    refine W_seq ?_
    refine W_seq ?_
    refine W_region rfl ?_
    refine da_op rfl (d_mv (v := .int .i64 s1.2) i1_S5 ?_)
    refine da_op rfl (d_mv (v := (Value.slice p0a p0n p0c)) i1_S0 ?_)
    have B2 : RS wl1 encF_f32 (Value.slice p0a p0n p0c) p0 := p0R.ext i1_X
    refine da_op rfl (d_len (e := encF_f32) un23 rfl B2 ?_)
    refine da_op rfl (d_icmp cLss rfl rfl ?_)
    refine da_nil ?_
    refine W_cond (b := (icmp .lss s1.2 ((p0).length : Int))) rfl (fun hc3 => ?_) (fun hc3 => ?_)
    · skip
      replace hr := bif_t hr hc3
      refine W_skip ?_
      refine W_seq ?_
      refine W_block ?_
      refine W_seq ?_
      refine W_seq ?_
      refine W_region rfl ?_
      refine da_op rfl (d_mv (v := (Value.slice p0a p0n p0c)) i1_S0 ?_)
      refine da_op rfl (d_mv (v := .int .i64 s1.2) i1_S5 ?_)
      obtain ⟨m4, hm4, hr⟩ := bind_out hr
      refine da_op rfl (d_index (e := encF_f32) (v := (Value.slice p0a p0n p0c)) un23 size40 rfl rfl B2 hm4 fun g5 o5 cu5 T5 fr5 vs5 hv5 hg5 hp5 hq5 => ?_)
      obtain ⟨e5_r0, rfl, e5_h0⟩ := dec_encF_f32 hq5
      refine da_op rfl (d_load (v := .float .f32 e5_r0) rfl agg40 hg5 (sub_get (vs := #[.float .f32 e5_r0]) hp5 (i := 0) rfl) ?_)
      refine da_op rfl (d_mv (v := .int .i64 s1.1) i1_S1 ?_)
      refine da_op rfl (d_ofInt un3 un40 rfl ?_)
      refine da_op rfl (d_fcmp (k := .f32) cNeq rfl rfl e5_h0 (cn_fint _ _) ?_)
      refine da_nil ?_
      refine W_cond (b := (fcmp .neq .f32 m4 (fint .f32 s1.1))) rfl (fun hc6 => ?_) (fun hc6 => ?_)
      · skip
        replace hr := bif_t hr hc6
        refine W_seq ?_
        refine W_region rfl ?_
        refine da_op rfl (d_as (v := .int .i64 (-1)) rfl ?_)
        refine da_nil ?_
        refine W_ret ?_
        obtain rfl := Option.some.inj hr
        exact ⟨_, rfl, rfl, rfl, i1_X⟩
      · skip
        replace hr := bif_f hr hc6
        refine W_skip ?_
        refine W_region rfl ?_
        refine da_op rfl (d_mv (v := .int .i64 s1.1) i1_S1 ?_)
        refine da_op rfl (d_iarith rfl rfl (.inl ⟨rfl, rfl⟩) ?_)
        refine da_op rfl (d_as (v := .int .i64 (IntKind.i64.wrap (s1.1 + 1))) rfl ?_)
        refine da_nil ?_
        refine W_region rfl ?_
        refine da_op rfl (d_mv (v := .int .i64 s1.2) i1_S5 ?_)
        refine da_op rfl (d_iarith rfl rfl (.inl ⟨rfl, rfl⟩) ?_)
        refine da_op rfl (d_as (v := .int .i64 (IntKind.i64.wrap (s1.2 + 1))) rfl ?_)
        refine da_nil ?_
        obtain rfl := Option.some.inj hr
        exact ⟨_, rfl, ⟨rfl, rfl, i1_S0, i1_X⟩⟩
    · skip
      replace hr := bif_f hr hc3
      refine W_exit ?_
      obtain rfl := Option.some.inj hr
      exact ⟨_, rfl, rfl, i1_S1, i1_X⟩
  · skip
    intro ex σx1 wx1 hq
    rcases m1 with m1 | m1
    · skip
      obtain ⟨rfl, q1_0_S1, q1_0_X⟩ := hq
      refine W_seq ?_
      refine W_region rfl ?_
      refine da_op rfl (d_mv (v := .int .i64 m1) q1_0_S1 ?_)
      refine da_op rfl (d_as (v := .int .i64 m1) rfl ?_)
      refine da_nil ?_
      refine W_ret ?_
      obtain rfl := Option.some.inj hr
      refine ⟨_, res1 (rv_tmp rfl), ?_⟩
      exact ⟨rfl, q1_0_X⟩
    · skip
      obtain ⟨rfl, q1_1_S4, q1_1_X⟩ := hq
      obtain rfl := Option.some.inj hr
      refine ⟨_, res1 (rv_tmp q1_1_S4), ?_⟩
      exact ⟨rfl, q1_1_X⟩
set_option maxHeartbeats 4000000 in
theorem c24 (p0 : List SRod) (p1 : Int) (p0a : Option Addr) (p0n : Nat) (p0c : Nat) (r : Int) (w : World) (hr : M.laws_heldRodS p0 p1 = some r) (p0R : RS w encSRod (Value.slice p0a p0n p0c) p0) :
    Calls Tryz.prog 24 #[(Value.slice p0a p0n p0c), .int .i64 p1] w fun e w' => e = .returned (.int .i64 r) ∧ Ext w w' := by
  refine calls_of_W Tryz.func24 rfl (Nat.le_of_ble_eq_true rfl) ?_
  refine W_seq ?_
  refine W_region rfl ?_
  refine da_op rfl (d_as (v := .int .i64 0) rfl ?_)
  refine da_nil ?_
  refine W_seq ?_
  refine W_seq ?_
  refine W_region rfl ?_
  refine da_op rfl (d_as (v := .int .i64 0) rfl ?_)
  refine da_nil ?_
  refine W_block ?_
  obtain ⟨m1, hm1, hr⟩ := bind_out hr
  refine W_loopM hm1 (fun (s1 : Int × Int) σ w' => σ 1 = .int .i64 s1.1 ∧ σ 5 = .int .i64 s1.2 ∧ σ 0 = (Value.slice p0a p0n p0c) ∧ Ext w w') (fun (e1 : (Int ⊕ Int)) ex σ w' => sel e1 (fun e1 => ex = .exit 0 ∧ σ 1 = .int .i64 e1 ∧ Ext w w') (fun e1 => ex = .ret ∧ σ 4 = .int .i64 e1 ∧ Ext w w')) ⟨rfl, rfl, rfl, (Ext.refl w)⟩ ?_ ?_
  · skip
    rintro s1 σl1 wl1 r1l ⟨i1_S1, i1_S5, i1_S0, i1_X⟩ hr
    refine W_seq ?_
    refine W_seq ?_
    refine W_region rfl ?_
    refine da_op rfl (d_mv (v := .int .i64 s1.2) i1_S5 ?_)
    refine da_op rfl (d_mv (v := (Value.slice p0a p0n p0c)) i1_S0 ?_)
    have B2 : RS wl1 encSRod (Value.slice p0a p0n p0c) p0 := p0R.ext i1_X
    refine da_op rfl (d_len (e := encSRod) un24 rfl B2 ?_)
    refine da_op rfl (d_icmp cLss rfl rfl ?_)
    refine da_nil ?_
    refine W_cond (b := (icmp .lss s1.2 ((p0).length : Int))) rfl (fun hc3 => ?_) (fun hc3 => ?_)
    · skip
      replace hr := bif_t hr hc3
      refine W_skip ?_
      refine W_seq ?_
      refine W_block ?_
      refine W_seq ?_
      refine W_seq ?_
      refine W_region rfl ?_
      refine da_op rfl (d_mv (v := (Value.slice p0a p0n p0c)) i1_S0 ?_)
      refine da_op rfl (d_mv (v := .int .i64 s1.2) i1_S5 ?_)
      obtain ⟨m4, hm4, hr⟩ := bind_out hr
      refine da_op rfl (d_index (e := encSRod) (v := (Value.slice p0a p0n p0c)) un24 size42 rfl rfl B2 hm4 fun g5 o5 cu5 T5 fr5 vs5 hv5 hg5 hp5 hq5 => ?_)
      obtain ⟨e5_r2, rfl, e5_h2⟩ := dec_encSRod hq5
      refine da_op rfl (d_fieldAddr rfl (fa42_0 _ _) ?_)
      refine da_op rfl (d_load (v := .int .i64 m4.a) rfl agg2 hg5 (sub_get (vs := #[.int .i64 m4.a, .int .i64 m4.b, .float .f32 e5_r2]) hp5 (i := 0) rfl) ?_)
      refine da_op rfl (d_mv (v := .int .i64 s1.1) i1_S1 ?_)
      refine da_op rfl (d_icmp cNeq rfl rfl ?_)
      refine da_nil ?_
      refine W_cond (b := (icmp .neq m4.a s1.1)) rfl (fun hc6 => ?_) (fun hc6 => ?_)
      · skip
        replace hr := bif_t hr hc6
        refine W_seq ?_
        refine W_region rfl ?_
        refine da_op rfl (d_as (v := .int .i64 (-1)) rfl ?_)
        refine da_nil ?_
        refine W_ret ?_
        obtain rfl := Option.some.inj hr
        exact ⟨_, rfl, rfl, rfl, i1_X⟩
      · skip
        replace hr := bif_f hr hc6
        refine W_skip ?_
        refine W_seq ?_
        refine W_region rfl ?_
        refine da_op rfl (d_mv (v := .int .i64 s1.1) i1_S1 ?_)
        refine da_op rfl (d_iarith rfl rfl (.inl ⟨rfl, rfl⟩) ?_)
        refine da_op rfl (d_as (v := .int .i64 (IntKind.i64.wrap (s1.1 + 1))) rfl ?_)
        refine da_nil ?_
        refine W_seq ?_
        refine W_seq ?_
        refine W_region rfl ?_
        refine da_op rfl (d_mv (v := (Value.slice p0a p0n p0c)) i1_S0 ?_)
        refine da_op rfl (d_mv (v := .int .i64 s1.2) i1_S5 ?_)
        obtain ⟨m7, hm7, hr⟩ := bind_out hr
        refine da_op rfl (d_index (e := encSRod) (v := (Value.slice p0a p0n p0c)) un24 size42 rfl rfl B2 hm7 fun g8 o8 cu8 T8 fr8 vs8 hv8 hg8 hp8 hq8 => ?_)
        obtain ⟨e8_r2, rfl, e8_h2⟩ := dec_encSRod hq8
        refine da_op rfl (d_fieldAddr rfl (fa42_1 _ _) ?_)
        refine da_op rfl (d_load (v := .int .i64 m7.b) rfl agg2 hg8 (sub_get (vs := #[.int .i64 m7.a, .int .i64 m7.b, .float .f32 e8_r2]) hp8 (i := 1) rfl) ?_)
        refine da_op rfl (d_mv (v := .int .i64 (IntKind.i64.wrap (s1.1 + 1))) rfl ?_)
        refine da_op rfl (d_icmp cNeq rfl rfl ?_)
        refine da_nil ?_
        refine W_cond (b := (icmp .neq m7.b (IntKind.i64.wrap (s1.1 + 1)))) rfl (fun hc9 => ?_) (fun hc9 => ?_)
        · skip
          replace hr := bif_t hr hc9
          refine W_seq ?_
          refine W_region rfl ?_
          refine da_op rfl (d_as (v := .int .i64 (-1)) rfl ?_)
          refine da_nil ?_
          refine W_ret ?_
          obtain rfl := Option.some.inj hr
          exact ⟨_, rfl, rfl, rfl, i1_X⟩
        · skip
          replace hr := bif_f hr hc9
          refine W_skip ?_
          refine W_seq ?_
          refine W_region rfl ?_
          refine da_op rfl (d_mv (v := .int .i64 (IntKind.i64.wrap (s1.1 + 1))) rfl ?_)
          refine da_op rfl (d_iarith rfl rfl (.inl ⟨rfl, rfl⟩) ?_)
          refine da_op rfl (d_as (v := .int .i64 (IntKind.i64.wrap ((IntKind.i64.wrap (s1.1 + 1)) + 1))) rfl ?_)
          refine da_nil ?_
          refine W_seq ?_
          refine W_seq ?_
          refine W_region rfl ?_
          refine da_op rfl (d_mv (v := (Value.slice p0a p0n p0c)) i1_S0 ?_)
          refine da_op rfl (d_mv (v := .int .i64 s1.2) i1_S5 ?_)
          obtain ⟨m10, hm10, hr⟩ := bind_out hr
          refine da_op rfl (d_index (e := encSRod) (v := (Value.slice p0a p0n p0c)) un24 size42 rfl rfl B2 hm10 fun g11 o11 cu11 T11 fr11 vs11 hv11 hg11 hp11 hq11 => ?_)
          obtain ⟨e11_r2, rfl, e11_h2⟩ := dec_encSRod hq11
          refine da_op rfl (d_fieldAddr rfl (fa42_2 _ _) ?_)
          refine da_op rfl (d_load (v := .float .f32 e11_r2) rfl agg40 hg11 (sub_get (vs := #[.int .i64 m10.a, .int .i64 m10.b, .float .f32 e11_r2]) hp11 (i := 2) rfl) ?_)
          refine da_op rfl (d_mv (v := .int .i64 (IntKind.i64.wrap ((IntKind.i64.wrap (s1.1 + 1)) + 1))) rfl ?_)
          refine da_op rfl (d_ofInt un3 un40 rfl ?_)
          refine da_op rfl (d_fcmp (k := .f32) cNeq rfl rfl e11_h2 (cn_fint _ _) ?_)
          refine da_nil ?_
          refine W_cond (b := (fcmp .neq .f32 m10.long (fint .f32 (IntKind.i64.wrap ((IntKind.i64.wrap (s1.1 + 1)) + 1))))) rfl (fun hc12 => ?_) (fun hc12 => ?_)
          · skip
            replace hr := bif_t hr hc12
            refine W_seq ?_
            refine W_region rfl ?_
            refine da_op rfl (d_as (v := .int .i64 (-1)) rfl ?_)
            refine da_nil ?_
            refine W_ret ?_
            obtain rfl := Option.some.inj hr
            exact ⟨_, rfl, rfl, rfl, i1_X⟩
          · skip
            replace hr := bif_f hr hc12
            refine W_skip ?_
            refine W_region rfl ?_
            refine da_op rfl (d_mv (v := .int .i64 (IntKind.i64.wrap ((IntKind.i64.wrap (s1.1 + 1)) + 1))) rfl ?_)
            refine da_op rfl (d_iarith rfl rfl (.inl ⟨rfl, rfl⟩) ?_)
            refine da_op rfl (d_as (v := .int .i64 (IntKind.i64.wrap ((IntKind.i64.wrap ((IntKind.i64.wrap (s1.1 + 1)) + 1)) + 1))) rfl ?_)
            refine da_nil ?_
            refine W_region rfl ?_
            refine da_op rfl (d_mv (v := .int .i64 s1.2) i1_S5 ?_)
            refine da_op rfl (d_iarith rfl rfl (.inl ⟨rfl, rfl⟩) ?_)
            refine da_op rfl (d_as (v := .int .i64 (IntKind.i64.wrap (s1.2 + 1))) rfl ?_)
            refine da_nil ?_
            obtain rfl := Option.some.inj hr
            exact ⟨_, rfl, ⟨rfl, rfl, i1_S0, i1_X⟩⟩
    · skip
      replace hr := bif_f hr hc3
      refine W_exit ?_
      obtain rfl := Option.some.inj hr
      exact ⟨_, rfl, rfl, i1_S1, i1_X⟩
  · skip
    intro ex σx1 wx1 hq
    rcases m1 with m1 | m1
    · skip
      obtain ⟨rfl, q1_0_S1, q1_0_X⟩ := hq
      refine W_seq ?_
      refine W_region rfl ?_
      refine da_op rfl (d_mv (v := .int .i64 m1) q1_0_S1 ?_)
      refine da_op rfl (d_as (v := .int .i64 m1) rfl ?_)
      refine da_nil ?_
      refine W_ret ?_
      obtain rfl := Option.some.inj hr
      refine ⟨_, res1 (rv_tmp rfl), ?_⟩
      exact ⟨rfl, q1_0_X⟩
    · skip
      obtain ⟨rfl, q1_1_S4, q1_1_X⟩ := hq
      obtain rfl := Option.some.inj hr
      refine ⟨_, res1 (rv_tmp q1_1_S4), ?_⟩
      exact ⟨rfl, q1_1_X⟩
set_option maxHeartbeats 4000000 in
theorem c8 (p0 : SChain) (p1 : Int) (p0v0a : Option Addr) (p0v0n : Nat) (p0v0c : Nat) (p0v1a : Option Addr) (p0v1n : Nat) (p0v1c : Nat) (p0v2a : Option Addr) (p0v2n : Nat) (p0v2c : Nat) (p0v3a : Option Addr) (p0v3n : Nat) (p0v3c : Nat) (r : Int) (w : World) (hr : M.laws_heldChain p0 p1 = some r) (p0v0R : RS w encSVector (Value.slice p0v0a p0v0n p0v0c) p0.places) (p0v1R : RS w encSVector (Value.slice p0v1a p0v1n p0v1c) p0.before) (p0v2R : RS w encF_f32 (Value.slice p0v2a p0v2n p0v2c) p0.weights) (p0v3R : RS w encSRod (Value.slice p0v3a p0v3n p0v3c) p0.rods) :
    Calls Tryz.prog 8 #[.agg #[(Value.slice p0v0a p0v0n p0v0c), (Value.slice p0v1a p0v1n p0v1c), (Value.slice p0v2a p0v2n p0v2c), (Value.slice p0v3a p0v3n p0v3c)], .int .i64 p1] w fun e w' => e = .returned (.int .i64 r) ∧ Ext w w' := by
  refine calls_of_W Tryz.func8 rfl (Nat.le_of_ble_eq_true rfl) ?_
  refine W_seq ?_
  refine W_region rfl ?_
  refine da_op rfl (d_box (cs := #[(Value.slice p0v0a p0v0n p0v0c), (Value.slice p0v1a p0v1n p0v1c), (Value.slice p0v2a p0v2n p0v2c), (Value.slice p0v3a p0v3n p0v3c)]) rfl fun w1 B1 E1 => ?_)
  have own2 : w.heap.size ≤ w.heap.size := Nat.le_trans (Ext.refl w).size (Nat.le_refl _)
  have X3 : Ext w w1 := (Ext.refl w).trans E1
  refine da_op rfl (d_as (v := .int .i64 0) rfl ?_)
  refine da_nil ?_
  refine W_seq ?_
  refine W_region rfl ?_
  refine da_op rfl (d_fieldAddr rfl (fa26_0 _ _) ?_)
  refine da_op rfl (d_load (v := (Value.slice p0v0a p0v0n p0v0c)) rfl agg22 B1 rfl ?_)
  refine da_op rfl (d_mv (v := .int .i64 p1) rfl ?_)
  obtain ⟨m4, hm4, hr⟩ := bind_out hr
  have B5 : RS w1 encSVector (Value.slice p0v0a p0v0n p0v0c) p0.places := p0v0R.ext X3
  refine da_op rfl (d_cl (vs := [(Value.slice p0v0a p0v0n p0v0c), .int .i64 p1]) en22 (ac rfl (ac rfl rfl)) rfl ?_)
  refine (c22 p0.places p1 p0v0a p0v0n p0v0c m4 w1 hm4 B5).mono ?_
  rintro _ w6 ⟨rfl, E6⟩
  refine ⟨_, rfl, ?_⟩
  have X7 : Ext w w6 := X3.trans E6
  refine da_op rfl (d_as (v := .int .i64 m4) rfl ?_)
  refine da_nil ?_
  refine W_seq ?_
  refine W_seq ?_
  refine W_region rfl ?_
  refine da_op rfl (d_mv (v := .int .i64 m4) rfl ?_)
  refine da_op rfl (d_icmp cLss rfl rfl ?_)
  refine da_nil ?_
  refine W_cond (b := (icmp .lss m4 0)) rfl (fun hc8 => ?_) (fun hc8 => ?_)
  · skip
    replace hr := bif_t hr hc8
    refine W_seq ?_
    refine W_region rfl ?_
    refine da_op rfl (d_as (v := .int .i64 (-1)) rfl ?_)
    refine da_nil ?_
    refine W_ret ?_
    obtain rfl := Option.some.inj hr
    refine ⟨_, res1 (rv_tmp rfl), ?_⟩
    exact ⟨rfl, X7⟩
  · skip
    replace hr := bif_f hr hc8
    refine W_skip ?_
    refine W_seq ?_
    refine W_region rfl ?_
    refine da_op rfl (d_fieldAddr rfl (fa26_1 _ _) ?_)
    have B9 : w6.heap[w.heap.size]? = some (.cells #[(Value.slice p0v0a p0v0n p0v0c), (Value.slice p0v1a p0v1n p0v1c), (Value.slice p0v2a p0v2n p0v2c), (Value.slice p0v3a p0v3n p0v3c)] 26 (0, 0)) := E6.heap B1
    refine da_op rfl (d_load (v := (Value.slice p0v1a p0v1n p0v1c)) rfl agg22 B9 rfl ?_)
    refine da_op rfl (d_mv (v := .int .i64 m4) rfl ?_)
    obtain ⟨m10, hm10, hr⟩ := bind_out hr
    have B11 : RS w6 encSVector (Value.slice p0v1a p0v1n p0v1c) p0.before := p0v1R.ext X7
    refine da_op rfl (d_cl (vs := [(Value.slice p0v1a p0v1n p0v1c), .int .i64 m4]) en22 (ac rfl (ac rfl rfl)) rfl ?_)
    refine (c22 p0.before m4 p0v1a p0v1n p0v1c m10 w6 hm10 B11).mono ?_
    rintro _ w12 ⟨rfl, E12⟩
    refine ⟨_, rfl, ?_⟩
    have X13 : Ext w w12 := X7.trans E12
    refine da_op rfl (d_as (v := .int .i64 m10) rfl ?_)
    refine da_nil ?_
    refine W_seq ?_
    refine W_seq ?_
    refine W_region rfl ?_
    refine da_op rfl (d_mv (v := .int .i64 m10) rfl ?_)
    refine da_op rfl (d_icmp cLss rfl rfl ?_)
    refine da_nil ?_
    refine W_cond (b := (icmp .lss m10 0)) rfl (fun hc14 => ?_) (fun hc14 => ?_)
    · skip
      replace hr := bif_t hr hc14
      refine W_seq ?_
      refine W_region rfl ?_
      refine da_op rfl (d_as (v := .int .i64 (-1)) rfl ?_)
      refine da_nil ?_
      refine W_ret ?_
      obtain rfl := Option.some.inj hr
      refine ⟨_, res1 (rv_tmp rfl), ?_⟩
      exact ⟨rfl, X13⟩
    · skip
      replace hr := bif_f hr hc14
      refine W_skip ?_
      refine W_seq ?_
      refine W_region rfl ?_
      refine da_op rfl (d_fieldAddr rfl (fa26_2 _ _) ?_)
      have B15 : w12.heap[w.heap.size]? = some (.cells #[(Value.slice p0v0a p0v0n p0v0c), (Value.slice p0v1a p0v1n p0v1c), (Value.slice p0v2a p0v2n p0v2c), (Value.slice p0v3a p0v3n p0v3c)] 26 (0, 0)) := E12.heap B9
      refine da_op rfl (d_load (v := (Value.slice p0v2a p0v2n p0v2c)) rfl agg23 B15 rfl ?_)
      refine da_op rfl (d_mv (v := .int .i64 m10) rfl ?_)
      obtain ⟨m16, hm16, hr⟩ := bind_out hr
      have B17 : RS w12 encF_f32 (Value.slice p0v2a p0v2n p0v2c) p0.weights := p0v2R.ext X13
      refine da_op rfl (d_cl (vs := [(Value.slice p0v2a p0v2n p0v2c), .int .i64 m10]) en23 (ac rfl (ac rfl rfl)) rfl ?_)
      refine (c23 p0.weights m10 p0v2a p0v2n p0v2c m16 w12 hm16 B17).mono ?_
      rintro _ w18 ⟨rfl, E18⟩
      refine ⟨_, rfl, ?_⟩
      have X19 : Ext w w18 := X13.trans E18
      refine da_op rfl (d_as (v := .int .i64 m16) rfl ?_)
      refine da_nil ?_
      refine W_seq ?_
      refine W_seq ?_
      refine W_region rfl ?_
      refine da_op rfl (d_mv (v := .int .i64 m16) rfl ?_)
      refine da_op rfl (d_icmp cLss rfl rfl ?_)
      refine da_nil ?_
      refine W_cond (b := (icmp .lss m16 0)) rfl (fun hc20 => ?_) (fun hc20 => ?_)
      · skip
        replace hr := bif_t hr hc20
        refine W_seq ?_
        refine W_region rfl ?_
        refine da_op rfl (d_as (v := .int .i64 (-1)) rfl ?_)
        refine da_nil ?_
        refine W_ret ?_
        obtain rfl := Option.some.inj hr
        refine ⟨_, res1 (rv_tmp rfl), ?_⟩
        exact ⟨rfl, X19⟩
      · skip
        replace hr := bif_f hr hc20
        refine W_skip ?_
        refine W_seq ?_
        refine W_region rfl ?_
        refine da_op rfl (d_fieldAddr rfl (fa26_3 _ _) ?_)
        have B21 : w18.heap[w.heap.size]? = some (.cells #[(Value.slice p0v0a p0v0n p0v0c), (Value.slice p0v1a p0v1n p0v1c), (Value.slice p0v2a p0v2n p0v2c), (Value.slice p0v3a p0v3n p0v3c)] 26 (0, 0)) := E18.heap B15
        refine da_op rfl (d_load (v := (Value.slice p0v3a p0v3n p0v3c)) rfl agg24 B21 rfl ?_)
        refine da_op rfl (d_mv (v := .int .i64 m16) rfl ?_)
        obtain ⟨m22, hm22, hr⟩ := bind_out hr
        have B23 : RS w18 encSRod (Value.slice p0v3a p0v3n p0v3c) p0.rods := p0v3R.ext X19
        refine da_op rfl (d_cl (vs := [(Value.slice p0v3a p0v3n p0v3c), .int .i64 m16]) en24 (ac rfl (ac rfl rfl)) rfl ?_)
        refine (c24 p0.rods m16 p0v3a p0v3n p0v3c m22 w18 hm22 B23).mono ?_
        rintro _ w24 ⟨rfl, E24⟩
        refine ⟨_, rfl, ?_⟩
        have X25 : Ext w w24 := X19.trans E24
        refine da_op rfl (d_as (v := .int .i64 m22) rfl ?_)
        refine da_nil ?_
        refine W_seq ?_
        refine W_seq ?_
        refine W_region rfl ?_
        refine da_op rfl (d_mv (v := .int .i64 m22) rfl ?_)
        refine da_op rfl (d_icmp cLss rfl rfl ?_)
        refine da_nil ?_
        refine W_cond (b := (icmp .lss m22 0)) rfl (fun hc26 => ?_) (fun hc26 => ?_)
        · skip
          replace hr := bif_t hr hc26
          refine W_seq ?_
          refine W_region rfl ?_
          refine da_op rfl (d_as (v := .int .i64 (-1)) rfl ?_)
          refine da_nil ?_
          refine W_ret ?_
          obtain rfl := Option.some.inj hr
          refine ⟨_, res1 (rv_tmp rfl), ?_⟩
          exact ⟨rfl, X25⟩
        · skip
          replace hr := bif_f hr hc26
          refine W_skip ?_
          refine W_seq ?_
          refine W_region rfl ?_
          refine da_op rfl (d_mv (v := .int .i64 m22) rfl ?_)
          refine da_op rfl (d_as (v := .int .i64 m22) rfl ?_)
          refine da_nil ?_
          refine W_ret ?_
          obtain rfl := Option.some.inj hr
          refine ⟨_, res1 (rv_tmp rfl), ?_⟩
          exact ⟨rfl, X25⟩
set_option maxHeartbeats 4000000 in
theorem c3 (p0 : List UInt8) (r : Bool) (w : World) (hr : M.laws_FnExactReadChain p0 = some r) (t_TSyn : TSyn Tryz.prog w) (t_TRan : TRan Tryz.prog w) (t_T10 : T10 Tryz.prog w) :
    Calls Tryz.prog 3 #[.string (bs p0)] w fun e w' => e = .returned (.bool r) ∧ Ext w w' := by
  refine calls_of_W Tryz.func3 rfl (Nat.le_of_ble_eq_true rfl) ?_
  refine W_seq ?_
  refine W_region rfl ?_
  refine da_op rfl (d_as (v := .bool false) rfl ?_)
  refine da_nil ?_
  refine W_seq ?_
  refine W_seq ?_
  refine W_region rfl ?_
  refine da_op rfl (d_mv (v := .string (bs p0)) rfl ?_)
  refine da_op rfl (d_slen un9 rfl ?_)
  refine da_op rfl (d_icmp cGtr rfl rfl ?_)
  refine da_nil ?_
  refine W_cond (b := (icmp .gtr ((p0).length : Int) 1048576)) rfl (fun hc1 => ?_) (fun hc1 => ?_)
  · skip
    replace hr := bif_t hr hc1
    refine W_seq ?_
    refine W_region rfl ?_
    refine da_op rfl (d_as (v := .bool true) rfl ?_)
    refine da_nil ?_
    refine W_ret ?_
    obtain rfl := Option.some.inj hr
    refine ⟨_, res1 (rv_tmp rfl), ?_⟩
    exact ⟨rfl, (Ext.refl w)⟩
  · skip
    replace hr := bif_f hr hc1
    refine W_skip ?_
    refine W_seq ?_
    refine W_region rfl ?_
    refine da_op rfl (d_mv (v := .string (bs p0)) rfl ?_)
    obtain ⟨m2, hm2, hr⟩ := bind_out hr
    refine da_op rfl (d_cl (vs := [.string (bs p0)]) en4 (ac rfl rfl) rfl ?_)
    refine (c4 p0 m2 w hm2 ).mono ?_
    rintro _ w3 ⟨q3_0v0a, q3_0v0n, q3_0v0c, q3_0v1a, q3_0v1n, q3_0v1c, q3_0v2a, q3_0v2n, q3_0v2c, q3_0v3a, q3_0v3n, q3_0v3c, rfl, q3_0v0R, q3_0v0F, q3_0v1R, q3_0v1F, q3_0v2R, q3_0v2F, q3_0v3R, q3_0v3F, q3_A1_0, q3_A2_0, q3_A2_1, q3_A3_0, q3_A3_1, q3_A3_2, E3⟩
    refine ⟨_, rfl, ?_⟩
    have own4 : ∀ k, (Value.slice q3_0v0a q3_0v0n q3_0v0c).ownBlock = some k → w.heap.size ≤ k := fun k hk => Nat.le_trans (Ext.refl w).size (q3_0v0F k hk)
    have own5 : ∀ k, (Value.slice q3_0v1a q3_0v1n q3_0v1c).ownBlock = some k → w.heap.size ≤ k := fun k hk => Nat.le_trans (Ext.refl w).size (q3_0v1F k hk)
    have own6 : ∀ k, (Value.slice q3_0v2a q3_0v2n q3_0v2c).ownBlock = some k → w.heap.size ≤ k := fun k hk => Nat.le_trans (Ext.refl w).size (q3_0v2F k hk)
    have own7 : ∀ k, (Value.slice q3_0v3a q3_0v3n q3_0v3c).ownBlock = some k → w.heap.size ≤ k := fun k hk => Nat.le_trans (Ext.refl w).size (q3_0v3F k hk)
    have X8 : Ext w w3 := (Ext.refl w).trans E3
    refine da_op rfl (d_mv (v := .tuple #[.agg #[(Value.slice q3_0v0a q3_0v0n q3_0v0c), (Value.slice q3_0v1a q3_0v1n q3_0v1c), (Value.slice q3_0v2a q3_0v2n q3_0v2c), (Value.slice q3_0v3a q3_0v3n q3_0v3c)], .bool m2.2]) rfl ?_)
    refine da_op rfl (d_extract (v := .agg #[(Value.slice q3_0v0a q3_0v0n q3_0v0c), (Value.slice q3_0v1a q3_0v1n q3_0v1c), (Value.slice q3_0v2a q3_0v2n q3_0v2c), (Value.slice q3_0v3a q3_0v3n q3_0v3c)]) rfl rfl ?_)
    refine da_op rfl (d_extract (v := .bool m2.2) rfl rfl ?_)
    refine da_op rfl (d_alloc (cs := #[.slice none 0 0, .slice none 0 0, .slice none 0 0, .slice none 0 0]) zero26 rfl fun w9 B9 E9 => ?_)
    have own10 : w.heap.size ≤ w3.heap.size := Nat.le_trans X8.size (Nat.le_refl _)
    have sp11 : ¬ (Value.slice q3_0v0a q3_0v0n q3_0v0c).ownBlock = some w3.heap.size := OS.ne_new q3_0v0R (Nat.le_refl _)
    have sp12 : ¬ (Value.slice q3_0v1a q3_0v1n q3_0v1c).ownBlock = some w3.heap.size := OS.ne_new q3_0v1R (Nat.le_refl _)
    have sp13 : ¬ (Value.slice q3_0v2a q3_0v2n q3_0v2c).ownBlock = some w3.heap.size := OS.ne_new q3_0v2R (Nat.le_refl _)
    have sp14 : ¬ (Value.slice q3_0v3a q3_0v3n q3_0v3c).ownBlock = some w3.heap.size := OS.ne_new q3_0v3R (Nat.le_refl _)
    have X15 : Ext w w9 := X8.trans E9
    refine da_op rfl (d_store (vs := #[(Value.slice q3_0v0a q3_0v0n q3_0v0c), (Value.slice q3_0v1a q3_0v1n q3_0v1c), (Value.slice q3_0v2a q3_0v2n q3_0v2c), (Value.slice q3_0v3a q3_0v3n q3_0v3c)]) rfl rfl B9 size26 (Nat.le_of_ble_eq_true rfl) rfl fun w16 S16 => ?_)
    have X17 : Ext w w16 := Ext.step X15 S16.frmb (fun k _ hk => hk ▸ own10)
    have B18 : w16.heap[w3.heap.size]? = some (.cells #[(Value.slice q3_0v0a q3_0v0n q3_0v0c), (Value.slice q3_0v1a q3_0v1n q3_0v1c), (Value.slice q3_0v2a q3_0v2n q3_0v2c), (Value.slice q3_0v3a q3_0v3n q3_0v3c)] 26 (0, 0)) := S16.here
    refine da_op rfl (d_as (v := .bool m2.2) rfl ?_)
    refine da_nil ?_
    refine W_seq ?_
    refine W_region rfl ?_
    refine da_op rfl (d_mv (v := .string (bs p0)) rfl ?_)
    obtain ⟨m19, hm19, hr⟩ := bind_out hr
    have B20 : OS w16 57 encSVector (Value.slice q3_0v0a q3_0v0n q3_0v0c) m2.1.places := (q3_0v0R.ext E9).frm S16.frmb (rb sp11)
    have B21 : OS w16 57 encSVector (Value.slice q3_0v1a q3_0v1n q3_0v1c) m2.1.before := (q3_0v1R.ext E9).frm S16.frmb (rb sp12)
    have B22 : OS w16 40 encF_f32 (Value.slice q3_0v2a q3_0v2n q3_0v2c) m2.1.weights := (q3_0v2R.ext E9).frm S16.frmb (rb sp13)
    have B23 : OS w16 42 encSRod (Value.slice q3_0v3a q3_0v3n q3_0v3c) m2.1.rods := (q3_0v3R.ext E9).frm S16.frmb (rb sp14)
    refine da_op rfl (d_cl (vs := [.string (bs p0)]) en5 (ac rfl rfl) rfl ?_)
    refine (c5 p0 m19 w16 hm19 (t_TSyn.ext X17) (t_TRan.ext X17) (t_T10.ext X17)).mono ?_
    rintro _ w24 ⟨q24_0v0a, q24_0v0n, q24_0v0c, q24_0v1a, q24_0v1n, q24_0v1c, q24_0v2a, q24_0v2n, q24_0v2c, q24_0v3a, q24_0v3n, q24_0v3c, rfl, q24_0v0R, q24_0v0F, q24_0v1R, q24_0v1F, q24_0v2R, q24_0v2F, q24_0v3R, q24_0v3F, q24_A1_0, q24_A2_0, q24_A2_1, q24_A3_0, q24_A3_1, q24_A3_2, E24⟩
    refine ⟨_, rfl, ?_⟩
    have own25 : ∀ k, (Value.slice q24_0v0a q24_0v0n q24_0v0c).ownBlock = some k → w.heap.size ≤ k := fun k hk => Nat.le_trans X17.size (q24_0v0F k hk)
    have sp26 : ∀ k, (Value.slice q3_0v0a q3_0v0n q3_0v0c).ownBlock = some k → ¬ (Value.slice q24_0v0a q24_0v0n q24_0v0c).ownBlock = some k := apart_fresh B20 q24_0v0F
    have sp27 : ∀ k, (Value.slice q3_0v1a q3_0v1n q3_0v1c).ownBlock = some k → ¬ (Value.slice q24_0v0a q24_0v0n q24_0v0c).ownBlock = some k := apart_fresh B21 q24_0v0F
    have sp28 : ∀ k, (Value.slice q3_0v2a q3_0v2n q3_0v2c).ownBlock = some k → ¬ (Value.slice q24_0v0a q24_0v0n q24_0v0c).ownBlock = some k := apart_fresh B22 q24_0v0F
    have sp29 : ∀ k, (Value.slice q3_0v3a q3_0v3n q3_0v3c).ownBlock = some k → ¬ (Value.slice q24_0v0a q24_0v0n q24_0v0c).ownBlock = some k := apart_fresh B23 q24_0v0F
    have sp30 : ¬ (Value.slice q24_0v0a q24_0v0n q24_0v0c).ownBlock = some w3.heap.size := ne_fresh q24_0v0F (lt_heap B18)
    have own31 : ∀ k, (Value.slice q24_0v1a q24_0v1n q24_0v1c).ownBlock = some k → w.heap.size ≤ k := fun k hk => Nat.le_trans X17.size (q24_0v1F k hk)
    have sp32 : ∀ k, (Value.slice q3_0v0a q3_0v0n q3_0v0c).ownBlock = some k → ¬ (Value.slice q24_0v1a q24_0v1n q24_0v1c).ownBlock = some k := apart_fresh B20 q24_0v1F
    have sp33 : ∀ k, (Value.slice q3_0v1a q3_0v1n q3_0v1c).ownBlock = some k → ¬ (Value.slice q24_0v1a q24_0v1n q24_0v1c).ownBlock = some k := apart_fresh B21 q24_0v1F
    have sp34 : ∀ k, (Value.slice q3_0v2a q3_0v2n q3_0v2c).ownBlock = some k → ¬ (Value.slice q24_0v1a q24_0v1n q24_0v1c).ownBlock = some k := apart_fresh B22 q24_0v1F
    have sp35 : ∀ k, (Value.slice q3_0v3a q3_0v3n q3_0v3c).ownBlock = some k → ¬ (Value.slice q24_0v1a q24_0v1n q24_0v1c).ownBlock = some k := apart_fresh B23 q24_0v1F
    have sp36 : ¬ (Value.slice q24_0v1a q24_0v1n q24_0v1c).ownBlock = some w3.heap.size := ne_fresh q24_0v1F (lt_heap B18)
    have own37 : ∀ k, (Value.slice q24_0v2a q24_0v2n q24_0v2c).ownBlock = some k → w.heap.size ≤ k := fun k hk => Nat.le_trans X17.size (q24_0v2F k hk)
    have sp38 : ∀ k, (Value.slice q3_0v0a q3_0v0n q3_0v0c).ownBlock = some k → ¬ (Value.slice q24_0v2a q24_0v2n q24_0v2c).ownBlock = some k := apart_fresh B20 q24_0v2F
    have sp39 : ∀ k, (Value.slice q3_0v1a q3_0v1n q3_0v1c).ownBlock = some k → ¬ (Value.slice q24_0v2a q24_0v2n q24_0v2c).ownBlock = some k := apart_fresh B21 q24_0v2F
    have sp40 : ∀ k, (Value.slice q3_0v2a q3_0v2n q3_0v2c).ownBlock = some k → ¬ (Value.slice q24_0v2a q24_0v2n q24_0v2c).ownBlock = some k := apart_fresh B22 q24_0v2F
    have sp41 : ∀ k, (Value.slice q3_0v3a q3_0v3n q3_0v3c).ownBlock = some k → ¬ (Value.slice q24_0v2a q24_0v2n q24_0v2c).ownBlock = some k := apart_fresh B23 q24_0v2F
    have sp42 : ¬ (Value.slice q24_0v2a q24_0v2n q24_0v2c).ownBlock = some w3.heap.size := ne_fresh q24_0v2F (lt_heap B18)
    have own43 : ∀ k, (Value.slice q24_0v3a q24_0v3n q24_0v3c).ownBlock = some k → w.heap.size ≤ k := fun k hk => Nat.le_trans X17.size (q24_0v3F k hk)
    have sp44 : ∀ k, (Value.slice q3_0v0a q3_0v0n q3_0v0c).ownBlock = some k → ¬ (Value.slice q24_0v3a q24_0v3n q24_0v3c).ownBlock = some k := apart_fresh B20 q24_0v3F
    have sp45 : ∀ k, (Value.slice q3_0v1a q3_0v1n q3_0v1c).ownBlock = some k → ¬ (Value.slice q24_0v3a q24_0v3n q24_0v3c).ownBlock = some k := apart_fresh B21 q24_0v3F
    have sp46 : ∀ k, (Value.slice q3_0v2a q3_0v2n q3_0v2c).ownBlock = some k → ¬ (Value.slice q24_0v3a q24_0v3n q24_0v3c).ownBlock = some k := apart_fresh B22 q24_0v3F
    have sp47 : ∀ k, (Value.slice q3_0v3a q3_0v3n q3_0v3c).ownBlock = some k → ¬ (Value.slice q24_0v3a q24_0v3n q24_0v3c).ownBlock = some k := apart_fresh B23 q24_0v3F
    have sp48 : ¬ (Value.slice q24_0v3a q24_0v3n q24_0v3c).ownBlock = some w3.heap.size := ne_fresh q24_0v3F (lt_heap B18)
    have X49 : Ext w w24 := X17.trans E24
    refine da_op rfl (d_mv (v := .tuple #[.agg #[(Value.slice q24_0v0a q24_0v0n q24_0v0c), (Value.slice q24_0v1a q24_0v1n q24_0v1c), (Value.slice q24_0v2a q24_0v2n q24_0v2c), (Value.slice q24_0v3a q24_0v3n q24_0v3c)], .bool m19.2]) rfl ?_)
    refine da_op rfl (d_extract (v := .agg #[(Value.slice q24_0v0a q24_0v0n q24_0v0c), (Value.slice q24_0v1a q24_0v1n q24_0v1c), (Value.slice q24_0v2a q24_0v2n q24_0v2c), (Value.slice q24_0v3a q24_0v3n q24_0v3c)]) rfl rfl ?_)
    refine da_op rfl (d_extract (v := .bool m19.2) rfl rfl ?_)
    have B51 : OS w24 57 encSVector (Value.slice q3_0v0a q3_0v0n q3_0v0c) m2.1.places := B20.ext E24
    have B52 : OS w24 57 encSVector (Value.slice q3_0v1a q3_0v1n q3_0v1c) m2.1.before := B21.ext E24
    have B53 : OS w24 40 encF_f32 (Value.slice q3_0v2a q3_0v2n q3_0v2c) m2.1.weights := B22.ext E24
    have B54 : OS w24 42 encSRod (Value.slice q3_0v3a q3_0v3n q3_0v3c) m2.1.rods := B23.ext E24
    have B55 : w24.heap[w3.heap.size]? = some (.cells #[(Value.slice q3_0v0a q3_0v0n q3_0v0c), (Value.slice q3_0v1a q3_0v1n q3_0v1c), (Value.slice q3_0v2a q3_0v2n q3_0v2c), (Value.slice q3_0v3a q3_0v3n q3_0v3c)] 26 (0, 0)) := E24.heap B18
    refine da_op rfl (d_alloc (cs := #[.slice none 0 0, .slice none 0 0, .slice none 0 0, .slice none 0 0]) zero26 rfl fun w50 B50 E50 => ?_)
    have own56 : w.heap.size ≤ w24.heap.size := Nat.le_trans X49.size (Nat.le_refl _)
    have sp57 : ¬ (Value.slice q3_0v0a q3_0v0n q3_0v0c).ownBlock = some w24.heap.size := OS.ne_new B51 (Nat.le_refl _)
    have sp58 : ¬ (Value.slice q3_0v1a q3_0v1n q3_0v1c).ownBlock = some w24.heap.size := OS.ne_new B52 (Nat.le_refl _)
    have sp59 : ¬ (Value.slice q3_0v2a q3_0v2n q3_0v2c).ownBlock = some w24.heap.size := OS.ne_new B53 (Nat.le_refl _)
    have sp60 : ¬ (Value.slice q3_0v3a q3_0v3n q3_0v3c).ownBlock = some w24.heap.size := OS.ne_new B54 (Nat.le_refl _)
    have sp61 : w3.heap.size ≠ w24.heap.size := Nat.ne_of_lt (Nat.lt_of_lt_of_le (lt_heap B55) (Nat.le_refl _))
    have sp62 : ¬ (Value.slice q24_0v0a q24_0v0n q24_0v0c).ownBlock = some w24.heap.size := OS.ne_new q24_0v0R (Nat.le_refl _)
    have sp63 : ¬ (Value.slice q24_0v1a q24_0v1n q24_0v1c).ownBlock = some w24.heap.size := OS.ne_new q24_0v1R (Nat.le_refl _)
    have sp64 : ¬ (Value.slice q24_0v2a q24_0v2n q24_0v2c).ownBlock = some w24.heap.size := OS.ne_new q24_0v2R (Nat.le_refl _)
    have sp65 : ¬ (Value.slice q24_0v3a q24_0v3n q24_0v3c).ownBlock = some w24.heap.size := OS.ne_new q24_0v3R (Nat.le_refl _)
    have X66 : Ext w w50 := X49.trans E50
    refine da_op rfl (d_store (vs := #[(Value.slice q24_0v0a q24_0v0n q24_0v0c), (Value.slice q24_0v1a q24_0v1n q24_0v1c), (Value.slice q24_0v2a q24_0v2n q24_0v2c), (Value.slice q24_0v3a q24_0v3n q24_0v3c)]) rfl rfl B50 size26 (Nat.le_of_ble_eq_true rfl) rfl fun w67 S67 => ?_)
    have X68 : Ext w w67 := Ext.step X66 S67.frmb (fun k _ hk => hk ▸ own56)
    have B69 : w67.heap[w24.heap.size]? = some (.cells #[(Value.slice q24_0v0a q24_0v0n q24_0v0c), (Value.slice q24_0v1a q24_0v1n q24_0v1c), (Value.slice q24_0v2a q24_0v2n q24_0v2c), (Value.slice q24_0v3a q24_0v3n q24_0v3c)] 26 (0, 0)) := S67.here
    refine da_op rfl (d_as (v := .bool m19.2) rfl ?_)
    refine da_nil ?_
    refine W_seq ?_
    refine W_seq ?_
    have B71 : OS w67 57 encSVector (Value.slice q3_0v0a q3_0v0n q3_0v0c) m2.1.places := (B51.ext E50).frm S67.frmb (rb sp57)
    have B72 : OS w67 57 encSVector (Value.slice q3_0v1a q3_0v1n q3_0v1c) m2.1.before := (B52.ext E50).frm S67.frmb (rb sp58)
    have B73 : OS w67 40 encF_f32 (Value.slice q3_0v2a q3_0v2n q3_0v2c) m2.1.weights := (B53.ext E50).frm S67.frmb (rb sp59)
    have B74 : OS w67 42 encSRod (Value.slice q3_0v3a q3_0v3n q3_0v3c) m2.1.rods := (B54.ext E50).frm S67.frmb (rb sp60)
    have B75 : w67.heap[w3.heap.size]? = some (.cells #[(Value.slice q3_0v0a q3_0v0n q3_0v0c), (Value.slice q3_0v1a q3_0v1n q3_0v1c), (Value.slice q3_0v2a q3_0v2n q3_0v2c), (Value.slice q3_0v3a q3_0v3n q3_0v3c)] 26 (0, 0)) := S67.frmb.heap sp61 (E50.heap B55)
    have B76 : OS w67 57 encSVector (Value.slice q24_0v0a q24_0v0n q24_0v0c) m19.1.places := (q24_0v0R.ext E50).frm S67.frmb (rb sp62)
    have B77 : OS w67 57 encSVector (Value.slice q24_0v1a q24_0v1n q24_0v1c) m19.1.before := (q24_0v1R.ext E50).frm S67.frmb (rb sp63)
    have B78 : OS w67 40 encF_f32 (Value.slice q24_0v2a q24_0v2n q24_0v2c) m19.1.weights := (q24_0v2R.ext E50).frm S67.frmb (rb sp64)
    have B79 : OS w67 42 encSRod (Value.slice q24_0v3a q24_0v3n q24_0v3c) m19.1.rods := (q24_0v3R.ext E50).frm S67.frmb (rb sp65)
    obtain ⟨m70, hm70, hr⟩ := bind_out hr
    refine W_cut (fun σ' w' => σ' 32 = .bool m70 ∧ Ext w67 w') rfl ?_ ?_
    · skip
      have hr := hm70
      refine da_op rfl (d_loads (vs := #[(Value.slice q24_0v0a q24_0v0n q24_0v0c), (Value.slice q24_0v1a q24_0v1n q24_0v1c), (Value.slice q24_0v2a q24_0v2n q24_0v2c), (Value.slice q24_0v3a q24_0v3n q24_0v3c)]) rfl agg26 size26 B69 rfl ?_)
      refine da_op rfl (d_loads (vs := #[(Value.slice q3_0v0a q3_0v0n q3_0v0c), (Value.slice q3_0v1a q3_0v1n q3_0v1c), (Value.slice q3_0v2a q3_0v2n q3_0v2c), (Value.slice q3_0v3a q3_0v3n q3_0v3c)]) rfl agg26 size26 B75 rfl ?_)
      obtain ⟨m80, hm80, hr⟩ := bind_out hr
      refine da_op rfl (d_cl (vs := [.agg #[(Value.slice q24_0v0a q24_0v0n q24_0v0c), (Value.slice q24_0v1a q24_0v1n q24_0v1c), (Value.slice q24_0v2a q24_0v2n q24_0v2c), (Value.slice q24_0v3a q24_0v3n q24_0v3c)], .agg #[(Value.slice q3_0v0a q3_0v0n q3_0v0c), (Value.slice q3_0v1a q3_0v1n q3_0v1c), (Value.slice q3_0v2a q3_0v2n q3_0v2c), (Value.slice q3_0v3a q3_0v3n q3_0v3c)]]) en6 (ac rfl (ac rfl rfl)) rfl ?_)
      refine (c6 (⟨m19.1.places, m19.1.before, m19.1.weights, m19.1.rods⟩ : SChain) (⟨m2.1.places, m2.1.before, m2.1.weights, m2.1.rods⟩ : SChain) q24_0v0a q24_0v0n q24_0v0c q24_0v1a q24_0v1n q24_0v1c q24_0v2a q24_0v2n q24_0v2c q24_0v3a q24_0v3n q24_0v3c q3_0v0a q3_0v0n q3_0v0c q3_0v1a q3_0v1n q3_0v1c q3_0v2a q3_0v2n q3_0v2c q3_0v3a q3_0v3n q3_0v3c m80 w67 hm80 B76.rs B77.rs B78.rs B79.rs B71.rs B72.rs B73.rs B74.rs).mono ?_
      rintro _ w81 ⟨rfl, E81⟩
      refine ⟨_, rfl, ?_⟩
      have X82 : Ext w w81 := X68.trans E81
      refine da_op rfl (d_not rfl ?_)
      refine da_op rfl (d_mv (v := .bool (!m80)) rfl ?_)
      rcases Bool.eq_false_or_eq_true m80 with hc83 | hc83
      · skip
        replace hr := bif_t hr hc83
        refine da_on rfl (Eq.trans (show sl _ _ _ = .bool (!m80) from rfl) (congrArg Value.bool (congrArg not hc83))) (d_mv (v := .bool m19.2) rfl ?_)
        refine da_on rfl (Eq.trans (show sl _ _ _ = .bool (!m80) from rfl) (congrArg Value.bool (congrArg not hc83))) (d_mv (v := .bool m2.2) rfl ?_)
        refine da_on rfl (Eq.trans (show sl _ _ _ = .bool (!m80) from rfl) (congrArg Value.bool (congrArg not hc83))) (d_bne un4 rfl rfl ?_)
        refine da_op rfl (d_pick (b := false) (Eq.trans (show ev _ _ = .bool (!m80) from rfl) (congrArg Value.bool (congrArg not hc83))) ?_)
        refine da_nil ?_
        obtain rfl := Option.some.inj hr
        exact ⟨rfl, (Ext.trans (Ext.refl w67) E81)⟩
      · skip
        replace hr := bif_f hr hc83
        refine da_off rfl (Eq.trans (show sl _ _ _ = .bool (!m80) from rfl) (congrArg Value.bool (congrArg not hc83))) (by decide) ?_
        refine da_off rfl (Eq.trans (show sl _ _ _ = .bool (!m80) from rfl) (congrArg Value.bool (congrArg not hc83))) (by decide) ?_
        refine da_off rfl (Eq.trans (show sl _ _ _ = .bool (!m80) from rfl) (congrArg Value.bool (congrArg not hc83))) (by decide) ?_
        refine da_op rfl (d_pick (b := true) (Eq.trans (show ev _ _ = .bool (!m80) from rfl) (congrArg Value.bool (congrArg not hc83))) ?_)
        refine da_nil ?_
        obtain rfl := Option.some.inj hr
        exact ⟨rfl, (Ext.trans (Ext.refl w67) E81)⟩
    · skip
      rintro σ70 w70 o70 ⟨s32_70, E70⟩
      have s0_70 : σ70 0 = .string (bs p0) := (o70 0 rfl).trans rfl
      have s3_70 : σ70 3 = .pointer (some ⟨w3.heap.size, 0, none⟩) := (o70 3 rfl).trans rfl
      have s4_70 : σ70 4 = .bool m2.2 := (o70 4 rfl).trans rfl
      have s5_70 : σ70 5 = .pointer (some ⟨w24.heap.size, 0, none⟩) := (o70 5 rfl).trans rfl
      have X84 : Ext w w70 := X68.trans E70
      refine W_cond (b := m70) s32_70 (fun hc85 => ?_) (fun hc85 => ?_)
      · skip
        replace hr := bif_t hr hc85
        refine W_seq ?_
        refine W_region rfl ?_
        refine da_op rfl (d_as (v := .bool false) rfl ?_)
        refine da_nil ?_
        refine W_ret ?_
        obtain rfl := Option.some.inj hr
        refine ⟨_, res1 (rv_tmp rfl), ?_⟩
        exact ⟨rfl, X84⟩
      · skip
        replace hr := bif_f hr hc85
        refine W_skip ?_
        refine W_seq ?_
        refine W_region rfl ?_
        refine da_op rfl (d_as (v := .int .i64 1) rfl ?_)
        refine da_nil ?_
        refine W_seq ?_
        refine W_region rfl ?_
        have B86 : w70.heap[w24.heap.size]? = some (.cells #[(Value.slice q24_0v0a q24_0v0n q24_0v0c), (Value.slice q24_0v1a q24_0v1n q24_0v1c), (Value.slice q24_0v2a q24_0v2n q24_0v2c), (Value.slice q24_0v3a q24_0v3n q24_0v3c)] 26 (0, 0)) := E70.heap B69
        refine da_op rfl (d_loads (vs := #[(Value.slice q24_0v0a q24_0v0n q24_0v0c), (Value.slice q24_0v1a q24_0v1n q24_0v1c), (Value.slice q24_0v2a q24_0v2n q24_0v2c), (Value.slice q24_0v3a q24_0v3n q24_0v3c)]) s5_70 agg26 size26 B86 rfl ?_)
        refine da_op rfl (d_mv (v := .int .i64 1) rfl ?_)
        obtain ⟨m87, hm87, hr⟩ := bind_out hr
        have B88 : OS w70 57 encSVector (Value.slice q24_0v0a q24_0v0n q24_0v0c) m19.1.places := B76.ext E70
        have B89 : OS w70 57 encSVector (Value.slice q24_0v1a q24_0v1n q24_0v1c) m19.1.before := B77.ext E70
        have B90 : OS w70 40 encF_f32 (Value.slice q24_0v2a q24_0v2n q24_0v2c) m19.1.weights := B78.ext E70
        have B91 : OS w70 42 encSRod (Value.slice q24_0v3a q24_0v3n q24_0v3c) m19.1.rods := B79.ext E70
        have B92 : OS w70 57 encSVector (Value.slice q3_0v0a q3_0v0n q3_0v0c) m2.1.places := B71.ext E70
        have B93 : OS w70 57 encSVector (Value.slice q3_0v1a q3_0v1n q3_0v1c) m2.1.before := B72.ext E70
        have B94 : OS w70 40 encF_f32 (Value.slice q3_0v2a q3_0v2n q3_0v2c) m2.1.weights := B73.ext E70
        have B95 : OS w70 42 encSRod (Value.slice q3_0v3a q3_0v3n q3_0v3c) m2.1.rods := B74.ext E70
        have B96 : w70.heap[w3.heap.size]? = some (.cells #[(Value.slice q3_0v0a q3_0v0n q3_0v0c), (Value.slice q3_0v1a q3_0v1n q3_0v1c), (Value.slice q3_0v2a q3_0v2n q3_0v2c), (Value.slice q3_0v3a q3_0v3n q3_0v3c)] 26 (0, 0)) := E70.heap B75
        refine da_op rfl (d_cl (vs := [.agg #[(Value.slice q24_0v0a q24_0v0n q24_0v0c), (Value.slice q24_0v1a q24_0v1n q24_0v1c), (Value.slice q24_0v2a q24_0v2n q24_0v2c), (Value.slice q24_0v3a q24_0v3n q24_0v3c)], .int .i64 1]) en7 (ac rfl (ac rfl rfl)) rfl ?_)
        refine (c7 (⟨m19.1.places, m19.1.before, m19.1.weights, m19.1.rods⟩ : SChain) 1 q24_0v0a q24_0v0n q24_0v0c q24_0v1a q24_0v1n q24_0v1c q24_0v2a q24_0v2n q24_0v2c q24_0v3a q24_0v3n q24_0v3c m87 w70 hm87 B88 B89 B90 B91 q24_A1_0 q24_A2_0 q24_A2_1 q24_A3_0 q24_A3_1 q24_A3_2).mono ?_
        rintro _ w97 ⟨rfl, q97_m0R, q97_m1R, q97_m2R, q97_m3R, E97⟩
        refine ⟨_, rfl, ?_⟩
        have X98 : Ext w w97 := Ext.step X84 E97 (fun k t hk => hk.elim ((fun k _ hk => own25 k hk) k t) (fun hk => hk.elim ((fun k _ hk => own31 k hk) k t) (fun hk => hk.elim ((fun k _ hk => own37 k hk) k t) ((fun k _ hk => own43 k hk) k t))))
        refine da_op rfl (d_as (v := .int .i64 m87.1) rfl ?_)
        refine da_nil ?_
        refine W_seq ?_
        refine W_region rfl ?_
        refine da_op rfl (d_as (v := .int .i64 1) rfl ?_)
        refine da_nil ?_
        refine W_seq ?_
        refine W_region rfl ?_
        have B99 : w97.heap[w24.heap.size]? = some (.cells #[(Value.slice q24_0v0a q24_0v0n q24_0v0c), (Value.slice q24_0v1a q24_0v1n q24_0v1c), (Value.slice q24_0v2a q24_0v2n q24_0v2c), (Value.slice q24_0v3a q24_0v3n q24_0v3c)] 26 (0, 0)) := E97.heap (not_or2 sp62 (not_or2 sp63 (not_or2 sp64 sp65))) B86
        refine da_op rfl (d_loads (vs := #[(Value.slice q24_0v0a q24_0v0n q24_0v0c), (Value.slice q24_0v1a q24_0v1n q24_0v1c), (Value.slice q24_0v2a q24_0v2n q24_0v2c), (Value.slice q24_0v3a q24_0v3n q24_0v3c)]) s5_70 agg26 size26 B99 rfl ?_)
        refine da_op rfl (d_mv (v := .int .i64 1) rfl ?_)
        obtain ⟨m100, hm100, hr⟩ := bind_out hr
        have B101 : OS w97 57 encSVector (Value.slice q3_0v0a q3_0v0n q3_0v0c) m2.1.places := B92.frm E97 (fun k hk => (not_or2 (sp26 k hk) (not_or2 (sp32 k hk) (not_or2 (sp38 k hk) (sp44 k hk)))))
        have B102 : OS w97 57 encSVector (Value.slice q3_0v1a q3_0v1n q3_0v1c) m2.1.before := B93.frm E97 (fun k hk => (not_or2 (sp27 k hk) (not_or2 (sp33 k hk) (not_or2 (sp39 k hk) (sp45 k hk)))))
        have B103 : OS w97 40 encF_f32 (Value.slice q3_0v2a q3_0v2n q3_0v2c) m2.1.weights := B94.frm E97 (fun k hk => (not_or2 (sp28 k hk) (not_or2 (sp34 k hk) (not_or2 (sp40 k hk) (sp46 k hk)))))
        have B104 : OS w97 42 encSRod (Value.slice q3_0v3a q3_0v3n q3_0v3c) m2.1.rods := B95.frm E97 (fun k hk => (not_or2 (sp29 k hk) (not_or2 (sp35 k hk) (not_or2 (sp41 k hk) (sp47 k hk)))))
        have B105 : w97.heap[w3.heap.size]? = some (.cells #[(Value.slice q3_0v0a q3_0v0n q3_0v0c), (Value.slice q3_0v1a q3_0v1n q3_0v1c), (Value.slice q3_0v2a q3_0v2n q3_0v2c), (Value.slice q3_0v3a q3_0v3n q3_0v3c)] 26 (0, 0)) := E97.heap (not_or2 sp30 (not_or2 sp36 (not_or2 sp42 sp48))) B96
        refine da_op rfl (d_cl (vs := [.agg #[(Value.slice q24_0v0a q24_0v0n q24_0v0c), (Value.slice q24_0v1a q24_0v1n q24_0v1c), (Value.slice q24_0v2a q24_0v2n q24_0v2c), (Value.slice q24_0v3a q24_0v3n q24_0v3c)], .int .i64 1]) en8 (ac rfl (ac rfl rfl)) rfl ?_)
        refine (c8 (⟨m87.2.1, m87.2.2.1, m87.2.2.2.1, m87.2.2.2.2⟩ : SChain) 1 q24_0v0a q24_0v0n q24_0v0c q24_0v1a q24_0v1n q24_0v1c q24_0v2a q24_0v2n q24_0v2c q24_0v3a q24_0v3n q24_0v3c m100 w97 hm100 q97_m0R.rs q97_m1R.rs q97_m2R.rs q97_m3R.rs).mono ?_
        rintro _ w106 ⟨rfl, E106⟩
        refine ⟨_, rfl, ?_⟩
        have X107 : Ext w w106 := X98.trans E106
        refine da_op rfl (d_as (v := .int .i64 m100) rfl ?_)
        refine da_nil ?_
        refine W_seq ?_
        refine W_seq ?_
        refine W_region rfl ?_
        refine da_op rfl (d_mv (v := .int .i64 m100) rfl ?_)
        refine da_op rfl (d_icmp cLss rfl rfl ?_)
        refine da_nil ?_
        refine W_cond (b := (icmp .lss m100 0)) rfl (fun hc108 => ?_) (fun hc108 => ?_)
        · skip
          replace hr := bif_t hr hc108
          refine W_seq ?_
          refine W_region rfl ?_
          refine da_op rfl (d_as (v := .bool false) rfl ?_)
          refine da_nil ?_
          refine W_ret ?_
          obtain rfl := Option.some.inj hr
          refine ⟨_, res1 (rv_tmp rfl), ?_⟩
          exact ⟨rfl, X107⟩
        · skip
          replace hr := bif_f hr hc108
          refine W_skip ?_
          refine W_seq ?_
          refine W_seq ?_
          refine W_region rfl ?_
          refine da_op rfl (d_mv (v := .int .i64 m100) rfl ?_)
          refine da_op rfl (d_mv (v := .int .i64 m87.1) rfl ?_)
          refine da_op rfl (d_icmp cNeq rfl rfl ?_)
          refine da_nil ?_
          refine W_cond (b := (icmp .neq m100 m87.1)) rfl (fun hc109 => ?_) (fun hc109 => ?_)
          · skip
            replace hr := bif_t hr hc109
            refine W_seq ?_
            refine W_region rfl ?_
            refine da_op rfl (d_as (v := .bool false) rfl ?_)
            refine da_nil ?_
            refine W_ret ?_
            obtain rfl := Option.some.inj hr
            refine ⟨_, res1 (rv_tmp rfl), ?_⟩
            exact ⟨rfl, X107⟩
          · skip
            replace hr := bif_f hr hc109
            refine W_skip ?_
            refine W_seq ?_
            refine W_region rfl ?_
            refine da_op rfl (d_mv (v := .string (bs p0)) s0_70 ?_)
            obtain ⟨m110, hm110, hr⟩ := bind_out hr
            have B111 : OS w106 57 encSVector (Value.slice q3_0v0a q3_0v0n q3_0v0c) m2.1.places := B101.ext E106
            have B112 : OS w106 57 encSVector (Value.slice q3_0v1a q3_0v1n q3_0v1c) m2.1.before := B102.ext E106
            have B113 : OS w106 40 encF_f32 (Value.slice q3_0v2a q3_0v2n q3_0v2c) m2.1.weights := B103.ext E106
            have B114 : OS w106 42 encSRod (Value.slice q3_0v3a q3_0v3n q3_0v3c) m2.1.rods := B104.ext E106
            have B115 : w106.heap[w3.heap.size]? = some (.cells #[(Value.slice q3_0v0a q3_0v0n q3_0v0c), (Value.slice q3_0v1a q3_0v1n q3_0v1c), (Value.slice q3_0v2a q3_0v2n q3_0v2c), (Value.slice q3_0v3a q3_0v3n q3_0v3c)] 26 (0, 0)) := E106.heap B105
            have B116 : OS w106 57 encSVector (Value.slice q24_0v0a q24_0v0n q24_0v0c) m87.2.1 := q97_m0R.ext E106
            have B117 : OS w106 57 encSVector (Value.slice q24_0v1a q24_0v1n q24_0v1c) m87.2.2.1 := q97_m1R.ext E106
            have B118 : OS w106 40 encF_f32 (Value.slice q24_0v2a q24_0v2n q24_0v2c) m87.2.2.2.1 := q97_m2R.ext E106
            have B119 : OS w106 42 encSRod (Value.slice q24_0v3a q24_0v3n q24_0v3c) m87.2.2.2.2 := q97_m3R.ext E106
            have B120 : w106.heap[w24.heap.size]? = some (.cells #[(Value.slice q24_0v0a q24_0v0n q24_0v0c), (Value.slice q24_0v1a q24_0v1n q24_0v1c), (Value.slice q24_0v2a q24_0v2n q24_0v2c), (Value.slice q24_0v3a q24_0v3n q24_0v3c)] 26 (0, 0)) := E106.heap B99
            refine da_op rfl (d_cl (vs := [.string (bs p0)]) en5 (ac rfl rfl) rfl ?_)
            refine (c5 p0 m110 w106 hm110 (t_TSyn.ext X107) (t_TRan.ext X107) (t_T10.ext X107)).mono ?_
            rintro _ w121 ⟨q121_0v0a, q121_0v0n, q121_0v0c, q121_0v1a, q121_0v1n, q121_0v1c, q121_0v2a, q121_0v2n, q121_0v2c, q121_0v3a, q121_0v3n, q121_0v3c, rfl, q121_0v0R, q121_0v0F, q121_0v1R, q121_0v1F, q121_0v2R, q121_0v2F, q121_0v3R, q121_0v3F, q121_A1_0, q121_A2_0, q121_A2_1, q121_A3_0, q121_A3_1, q121_A3_2, E121⟩
            refine ⟨_, rfl, ?_⟩
            have own122 : ∀ k, (Value.slice q121_0v0a q121_0v0n q121_0v0c).ownBlock = some k → w.heap.size ≤ k := fun k hk => Nat.le_trans X107.size (q121_0v0F k hk)
            have sp123 : ∀ k, (Value.slice q3_0v0a q3_0v0n q3_0v0c).ownBlock = some k → ¬ (Value.slice q121_0v0a q121_0v0n q121_0v0c).ownBlock = some k := apart_fresh B111 q121_0v0F
            have sp124 : ∀ k, (Value.slice q3_0v1a q3_0v1n q3_0v1c).ownBlock = some k → ¬ (Value.slice q121_0v0a q121_0v0n q121_0v0c).ownBlock = some k := apart_fresh B112 q121_0v0F
            have sp125 : ∀ k, (Value.slice q3_0v2a q3_0v2n q3_0v2c).ownBlock = some k → ¬ (Value.slice q121_0v0a q121_0v0n q121_0v0c).ownBlock = some k := apart_fresh B113 q121_0v0F
            have sp126 : ∀ k, (Value.slice q3_0v3a q3_0v3n q3_0v3c).ownBlock = some k → ¬ (Value.slice q121_0v0a q121_0v0n q121_0v0c).ownBlock = some k := apart_fresh B114 q121_0v0F
            have sp127 : ¬ (Value.slice q121_0v0a q121_0v0n q121_0v0c).ownBlock = some w3.heap.size := ne_fresh q121_0v0F (lt_heap B115)
            have sp128 : ∀ k, (Value.slice q24_0v0a q24_0v0n q24_0v0c).ownBlock = some k → ¬ (Value.slice q121_0v0a q121_0v0n q121_0v0c).ownBlock = some k := apart_fresh B116 q121_0v0F
            have sp129 : ∀ k, (Value.slice q24_0v1a q24_0v1n q24_0v1c).ownBlock = some k → ¬ (Value.slice q121_0v0a q121_0v0n q121_0v0c).ownBlock = some k := apart_fresh B117 q121_0v0F
            have sp130 : ∀ k, (Value.slice q24_0v2a q24_0v2n q24_0v2c).ownBlock = some k → ¬ (Value.slice q121_0v0a q121_0v0n q121_0v0c).ownBlock = some k := apart_fresh B118 q121_0v0F
            have sp131 : ∀ k, (Value.slice q24_0v3a q24_0v3n q24_0v3c).ownBlock = some k → ¬ (Value.slice q121_0v0a q121_0v0n q121_0v0c).ownBlock = some k := apart_fresh B119 q121_0v0F
            have sp132 : ¬ (Value.slice q121_0v0a q121_0v0n q121_0v0c).ownBlock = some w24.heap.size := ne_fresh q121_0v0F (lt_heap B120)
            have own133 : ∀ k, (Value.slice q121_0v1a q121_0v1n q121_0v1c).ownBlock = some k → w.heap.size ≤ k := fun k hk => Nat.le_trans X107.size (q121_0v1F k hk)
            have sp134 : ∀ k, (Value.slice q3_0v0a q3_0v0n q3_0v0c).ownBlock = some k → ¬ (Value.slice q121_0v1a q121_0v1n q121_0v1c).ownBlock = some k := apart_fresh B111 q121_0v1F
            have sp135 : ∀ k, (Value.slice q3_0v1a q3_0v1n q3_0v1c).ownBlock = some k → ¬ (Value.slice q121_0v1a q121_0v1n q121_0v1c).ownBlock = some k := apart_fresh B112 q121_0v1F
            have sp136 : ∀ k, (Value.slice q3_0v2a q3_0v2n q3_0v2c).ownBlock = some k → ¬ (Value.slice q121_0v1a q121_0v1n q121_0v1c).ownBlock = some k := apart_fresh B113 q121_0v1F
            have sp137 : ∀ k, (Value.slice q3_0v3a q3_0v3n q3_0v3c).ownBlock = some k → ¬ (Value.slice q121_0v1a q121_0v1n q121_0v1c).ownBlock = some k := apart_fresh B114 q121_0v1F
            have sp138 : ¬ (Value.slice q121_0v1a q121_0v1n q121_0v1c).ownBlock = some w3.heap.size := ne_fresh q121_0v1F (lt_heap B115)
            have sp139 : ∀ k, (Value.slice q24_0v0a q24_0v0n q24_0v0c).ownBlock = some k → ¬ (Value.slice q121_0v1a q121_0v1n q121_0v1c).ownBlock = some k := apart_fresh B116 q121_0v1F
            have sp140 : ∀ k, (Value.slice q24_0v1a q24_0v1n q24_0v1c).ownBlock = some k → ¬ (Value.slice q121_0v1a q121_0v1n q121_0v1c).ownBlock = some k := apart_fresh B117 q121_0v1F
            have sp141 : ∀ k, (Value.slice q24_0v2a q24_0v2n q24_0v2c).ownBlock = some k → ¬ (Value.slice q121_0v1a q121_0v1n q121_0v1c).ownBlock = some k := apart_fresh B118 q121_0v1F
            have sp142 : ∀ k, (Value.slice q24_0v3a q24_0v3n q24_0v3c).ownBlock = some k → ¬ (Value.slice q121_0v1a q121_0v1n q121_0v1c).ownBlock = some k := apart_fresh B119 q121_0v1F
            have sp143 : ¬ (Value.slice q121_0v1a q121_0v1n q121_0v1c).ownBlock = some w24.heap.size := ne_fresh q121_0v1F (lt_heap B120)
            have own144 : ∀ k, (Value.slice q121_0v2a q121_0v2n q121_0v2c).ownBlock = some k → w.heap.size ≤ k := fun k hk => Nat.le_trans X107.size (q121_0v2F k hk)
            have sp145 : ∀ k, (Value.slice q3_0v0a q3_0v0n q3_0v0c).ownBlock = some k → ¬ (Value.slice q121_0v2a q121_0v2n q121_0v2c).ownBlock = some k := apart_fresh B111 q121_0v2F
            have sp146 : ∀ k, (Value.slice q3_0v1a q3_0v1n q3_0v1c).ownBlock = some k → ¬ (Value.slice q121_0v2a q121_0v2n q121_0v2c).ownBlock = some k := apart_fresh B112 q121_0v2F
            have sp147 : ∀ k, (Value.slice q3_0v2a q3_0v2n q3_0v2c).ownBlock = some k → ¬ (Value.slice q121_0v2a q121_0v2n q121_0v2c).ownBlock = some k := apart_fresh B113 q121_0v2F
            have sp148 : ∀ k, (Value.slice q3_0v3a q3_0v3n q3_0v3c).ownBlock = some k → ¬ (Value.slice q121_0v2a q121_0v2n q121_0v2c).ownBlock = some k := apart_fresh B114 q121_0v2F
            have sp149 : ¬ (Value.slice q121_0v2a q121_0v2n q121_0v2c).ownBlock = some w3.heap.size := ne_fresh q121_0v2F (lt_heap B115)
            have sp150 : ∀ k, (Value.slice q24_0v0a q24_0v0n q24_0v0c).ownBlock = some k → ¬ (Value.slice q121_0v2a q121_0v2n q121_0v2c).ownBlock = some k := apart_fresh B116 q121_0v2F
            have sp151 : ∀ k, (Value.slice q24_0v1a q24_0v1n q24_0v1c).ownBlock = some k → ¬ (Value.slice q121_0v2a q121_0v2n q121_0v2c).ownBlock = some k := apart_fresh B117 q121_0v2F
            have sp152 : ∀ k, (Value.slice q24_0v2a q24_0v2n q24_0v2c).ownBlock = some k → ¬ (Value.slice q121_0v2a q121_0v2n q121_0v2c).ownBlock = some k := apart_fresh B118 q121_0v2F
            have sp153 : ∀ k, (Value.slice q24_0v3a q24_0v3n q24_0v3c).ownBlock = some k → ¬ (Value.slice q121_0v2a q121_0v2n q121_0v2c).ownBlock = some k := apart_fresh B119 q121_0v2F
            have sp154 : ¬ (Value.slice q121_0v2a q121_0v2n q121_0v2c).ownBlock = some w24.heap.size := ne_fresh q121_0v2F (lt_heap B120)
            have own155 : ∀ k, (Value.slice q121_0v3a q121_0v3n q121_0v3c).ownBlock = some k → w.heap.size ≤ k := fun k hk => Nat.le_trans X107.size (q121_0v3F k hk)
            have sp156 : ∀ k, (Value.slice q3_0v0a q3_0v0n q3_0v0c).ownBlock = some k → ¬ (Value.slice q121_0v3a q121_0v3n q121_0v3c).ownBlock = some k := apart_fresh B111 q121_0v3F
            have sp157 : ∀ k, (Value.slice q3_0v1a q3_0v1n q3_0v1c).ownBlock = some k → ¬ (Value.slice q121_0v3a q121_0v3n q121_0v3c).ownBlock = some k := apart_fresh B112 q121_0v3F
            have sp158 : ∀ k, (Value.slice q3_0v2a q3_0v2n q3_0v2c).ownBlock = some k → ¬ (Value.slice q121_0v3a q121_0v3n q121_0v3c).ownBlock = some k := apart_fresh B113 q121_0v3F
            have sp159 : ∀ k, (Value.slice q3_0v3a q3_0v3n q3_0v3c).ownBlock = some k → ¬ (Value.slice q121_0v3a q121_0v3n q121_0v3c).ownBlock = some k := apart_fresh B114 q121_0v3F
            have sp160 : ¬ (Value.slice q121_0v3a q121_0v3n q121_0v3c).ownBlock = some w3.heap.size := ne_fresh q121_0v3F (lt_heap B115)
            have sp161 : ∀ k, (Value.slice q24_0v0a q24_0v0n q24_0v0c).ownBlock = some k → ¬ (Value.slice q121_0v3a q121_0v3n q121_0v3c).ownBlock = some k := apart_fresh B116 q121_0v3F
            have sp162 : ∀ k, (Value.slice q24_0v1a q24_0v1n q24_0v1c).ownBlock = some k → ¬ (Value.slice q121_0v3a q121_0v3n q121_0v3c).ownBlock = some k := apart_fresh B117 q121_0v3F
            have sp163 : ∀ k, (Value.slice q24_0v2a q24_0v2n q24_0v2c).ownBlock = some k → ¬ (Value.slice q121_0v3a q121_0v3n q121_0v3c).ownBlock = some k := apart_fresh B118 q121_0v3F
            have sp164 : ∀ k, (Value.slice q24_0v3a q24_0v3n q24_0v3c).ownBlock = some k → ¬ (Value.slice q121_0v3a q121_0v3n q121_0v3c).ownBlock = some k := apart_fresh B119 q121_0v3F
            have sp165 : ¬ (Value.slice q121_0v3a q121_0v3n q121_0v3c).ownBlock = some w24.heap.size := ne_fresh q121_0v3F (lt_heap B120)
            have X166 : Ext w w121 := X107.trans E121
            refine da_op rfl (d_mv (v := .tuple #[.agg #[(Value.slice q121_0v0a q121_0v0n q121_0v0c), (Value.slice q121_0v1a q121_0v1n q121_0v1c), (Value.slice q121_0v2a q121_0v2n q121_0v2c), (Value.slice q121_0v3a q121_0v3n q121_0v3c)], .bool m110.2]) rfl ?_)
            refine da_op rfl (d_extract (v := .agg #[(Value.slice q121_0v0a q121_0v0n q121_0v0c), (Value.slice q121_0v1a q121_0v1n q121_0v1c), (Value.slice q121_0v2a q121_0v2n q121_0v2c), (Value.slice q121_0v3a q121_0v3n q121_0v3c)]) rfl rfl ?_)
            refine da_op rfl (d_extract (v := .bool m110.2) rfl rfl ?_)
            have B168 : OS w121 57 encSVector (Value.slice q3_0v0a q3_0v0n q3_0v0c) m2.1.places := B111.ext E121
            have B169 : OS w121 57 encSVector (Value.slice q3_0v1a q3_0v1n q3_0v1c) m2.1.before := B112.ext E121
            have B170 : OS w121 40 encF_f32 (Value.slice q3_0v2a q3_0v2n q3_0v2c) m2.1.weights := B113.ext E121
            have B171 : OS w121 42 encSRod (Value.slice q3_0v3a q3_0v3n q3_0v3c) m2.1.rods := B114.ext E121
            have B172 : w121.heap[w3.heap.size]? = some (.cells #[(Value.slice q3_0v0a q3_0v0n q3_0v0c), (Value.slice q3_0v1a q3_0v1n q3_0v1c), (Value.slice q3_0v2a q3_0v2n q3_0v2c), (Value.slice q3_0v3a q3_0v3n q3_0v3c)] 26 (0, 0)) := E121.heap B115
            have B173 : OS w121 57 encSVector (Value.slice q24_0v0a q24_0v0n q24_0v0c) m87.2.1 := B116.ext E121
            have B174 : OS w121 57 encSVector (Value.slice q24_0v1a q24_0v1n q24_0v1c) m87.2.2.1 := B117.ext E121
            have B175 : OS w121 40 encF_f32 (Value.slice q24_0v2a q24_0v2n q24_0v2c) m87.2.2.2.1 := B118.ext E121
            have B176 : OS w121 42 encSRod (Value.slice q24_0v3a q24_0v3n q24_0v3c) m87.2.2.2.2 := B119.ext E121
            have B177 : w121.heap[w24.heap.size]? = some (.cells #[(Value.slice q24_0v0a q24_0v0n q24_0v0c), (Value.slice q24_0v1a q24_0v1n q24_0v1c), (Value.slice q24_0v2a q24_0v2n q24_0v2c), (Value.slice q24_0v3a q24_0v3n q24_0v3c)] 26 (0, 0)) := E121.heap B120
            refine da_op rfl (d_alloc (cs := #[.slice none 0 0, .slice none 0 0, .slice none 0 0, .slice none 0 0]) zero26 rfl fun w167 B167 E167 => ?_)
            have own178 : w.heap.size ≤ w121.heap.size := Nat.le_trans X166.size (Nat.le_refl _)
            have sp179 : ¬ (Value.slice q3_0v0a q3_0v0n q3_0v0c).ownBlock = some w121.heap.size := OS.ne_new B168 (Nat.le_refl _)
            have sp180 : ¬ (Value.slice q3_0v1a q3_0v1n q3_0v1c).ownBlock = some w121.heap.size := OS.ne_new B169 (Nat.le_refl _)
            have sp181 : ¬ (Value.slice q3_0v2a q3_0v2n q3_0v2c).ownBlock = some w121.heap.size := OS.ne_new B170 (Nat.le_refl _)
            have sp182 : ¬ (Value.slice q3_0v3a q3_0v3n q3_0v3c).ownBlock = some w121.heap.size := OS.ne_new B171 (Nat.le_refl _)
            have sp183 : w3.heap.size ≠ w121.heap.size := Nat.ne_of_lt (Nat.lt_of_lt_of_le (lt_heap B172) (Nat.le_refl _))
            have sp184 : ¬ (Value.slice q24_0v0a q24_0v0n q24_0v0c).ownBlock = some w121.heap.size := OS.ne_new B173 (Nat.le_refl _)
            have sp185 : ¬ (Value.slice q24_0v1a q24_0v1n q24_0v1c).ownBlock = some w121.heap.size := OS.ne_new B174 (Nat.le_refl _)
            have sp186 : ¬ (Value.slice q24_0v2a q24_0v2n q24_0v2c).ownBlock = some w121.heap.size := OS.ne_new B175 (Nat.le_refl _)
            have sp187 : ¬ (Value.slice q24_0v3a q24_0v3n q24_0v3c).ownBlock = some w121.heap.size := OS.ne_new B176 (Nat.le_refl _)
            have sp188 : w24.heap.size ≠ w121.heap.size := Nat.ne_of_lt (Nat.lt_of_lt_of_le (lt_heap B177) (Nat.le_refl _))
            have sp189 : ¬ (Value.slice q121_0v0a q121_0v0n q121_0v0c).ownBlock = some w121.heap.size := OS.ne_new q121_0v0R (Nat.le_refl _)
            have sp190 : ¬ (Value.slice q121_0v1a q121_0v1n q121_0v1c).ownBlock = some w121.heap.size := OS.ne_new q121_0v1R (Nat.le_refl _)
            have sp191 : ¬ (Value.slice q121_0v2a q121_0v2n q121_0v2c).ownBlock = some w121.heap.size := OS.ne_new q121_0v2R (Nat.le_refl _)
            have sp192 : ¬ (Value.slice q121_0v3a q121_0v3n q121_0v3c).ownBlock = some w121.heap.size := OS.ne_new q121_0v3R (Nat.le_refl _)
            have X193 : Ext w w167 := X166.trans E167
            refine da_op rfl (d_store (vs := #[(Value.slice q121_0v0a q121_0v0n q121_0v0c), (Value.slice q121_0v1a q121_0v1n q121_0v1c), (Value.slice q121_0v2a q121_0v2n q121_0v2c), (Value.slice q121_0v3a q121_0v3n q121_0v3c)]) rfl rfl B167 size26 (Nat.le_of_ble_eq_true rfl) rfl fun w194 S194 => ?_)
            have X195 : Ext w w194 := Ext.step X193 S194.frmb (fun k _ hk => hk ▸ own178)
            have B196 : w194.heap[w121.heap.size]? = some (.cells #[(Value.slice q121_0v0a q121_0v0n q121_0v0c), (Value.slice q121_0v1a q121_0v1n q121_0v1c), (Value.slice q121_0v2a q121_0v2n q121_0v2c), (Value.slice q121_0v3a q121_0v3n q121_0v3c)] 26 (0, 0)) := S194.here
            refine da_op rfl (d_as (v := .bool m110.2) rfl ?_)
            refine da_nil ?_
            refine W_seq ?_
            refine W_seq ?_
            have B198 : OS w194 57 encSVector (Value.slice q3_0v0a q3_0v0n q3_0v0c) m2.1.places := (B168.ext E167).frm S194.frmb (rb sp179)
            have B199 : OS w194 57 encSVector (Value.slice q3_0v1a q3_0v1n q3_0v1c) m2.1.before := (B169.ext E167).frm S194.frmb (rb sp180)
            have B200 : OS w194 40 encF_f32 (Value.slice q3_0v2a q3_0v2n q3_0v2c) m2.1.weights := (B170.ext E167).frm S194.frmb (rb sp181)
            have B201 : OS w194 42 encSRod (Value.slice q3_0v3a q3_0v3n q3_0v3c) m2.1.rods := (B171.ext E167).frm S194.frmb (rb sp182)
            have B202 : w194.heap[w3.heap.size]? = some (.cells #[(Value.slice q3_0v0a q3_0v0n q3_0v0c), (Value.slice q3_0v1a q3_0v1n q3_0v1c), (Value.slice q3_0v2a q3_0v2n q3_0v2c), (Value.slice q3_0v3a q3_0v3n q3_0v3c)] 26 (0, 0)) := S194.frmb.heap sp183 (E167.heap B172)
            have B203 : OS w194 57 encSVector (Value.slice q24_0v0a q24_0v0n q24_0v0c) m87.2.1 := (B173.ext E167).frm S194.frmb (rb sp184)
            have B204 : OS w194 57 encSVector (Value.slice q24_0v1a q24_0v1n q24_0v1c) m87.2.2.1 := (B174.ext E167).frm S194.frmb (rb sp185)
            have B205 : OS w194 40 encF_f32 (Value.slice q24_0v2a q24_0v2n q24_0v2c) m87.2.2.2.1 := (B175.ext E167).frm S194.frmb (rb sp186)
            have B206 : OS w194 42 encSRod (Value.slice q24_0v3a q24_0v3n q24_0v3c) m87.2.2.2.2 := (B176.ext E167).frm S194.frmb (rb sp187)
            have B207 : w194.heap[w24.heap.size]? = some (.cells #[(Value.slice q24_0v0a q24_0v0n q24_0v0c), (Value.slice q24_0v1a q24_0v1n q24_0v1c), (Value.slice q24_0v2a q24_0v2n q24_0v2c), (Value.slice q24_0v3a q24_0v3n q24_0v3c)] 26 (0, 0)) := S194.frmb.heap sp188 (E167.heap B177)
            have B208 : OS w194 57 encSVector (Value.slice q121_0v0a q121_0v0n q121_0v0c) m110.1.places := (q121_0v0R.ext E167).frm S194.frmb (rb sp189)
            have B209 : OS w194 57 encSVector (Value.slice q121_0v1a q121_0v1n q121_0v1c) m110.1.before := (q121_0v1R.ext E167).frm S194.frmb (rb sp190)
            have B210 : OS w194 40 encF_f32 (Value.slice q121_0v2a q121_0v2n q121_0v2c) m110.1.weights := (q121_0v2R.ext E167).frm S194.frmb (rb sp191)
            have B211 : OS w194 42 encSRod (Value.slice q121_0v3a q121_0v3n q121_0v3c) m110.1.rods := (q121_0v3R.ext E167).frm S194.frmb (rb sp192)
            obtain ⟨m197, hm197, hr⟩ := bind_out hr
            refine W_cut (fun σ' w' => σ' 57 = .bool m197 ∧ Ext w194 w') rfl ?_ ?_
            · skip
              have hr := hm197
              refine da_op rfl (d_loads (vs := #[(Value.slice q121_0v0a q121_0v0n q121_0v0c), (Value.slice q121_0v1a q121_0v1n q121_0v1c), (Value.slice q121_0v2a q121_0v2n q121_0v2c), (Value.slice q121_0v3a q121_0v3n q121_0v3c)]) rfl agg26 size26 B196 rfl ?_)
              refine da_op rfl (d_loads (vs := #[(Value.slice q3_0v0a q3_0v0n q3_0v0c), (Value.slice q3_0v1a q3_0v1n q3_0v1c), (Value.slice q3_0v2a q3_0v2n q3_0v2c), (Value.slice q3_0v3a q3_0v3n q3_0v3c)]) s3_70 agg26 size26 B202 rfl ?_)
              obtain ⟨m212, hm212, hr⟩ := bind_out hr
              refine da_op rfl (d_cl (vs := [.agg #[(Value.slice q121_0v0a q121_0v0n q121_0v0c), (Value.slice q121_0v1a q121_0v1n q121_0v1c), (Value.slice q121_0v2a q121_0v2n q121_0v2c), (Value.slice q121_0v3a q121_0v3n q121_0v3c)], .agg #[(Value.slice q3_0v0a q3_0v0n q3_0v0c), (Value.slice q3_0v1a q3_0v1n q3_0v1c), (Value.slice q3_0v2a q3_0v2n q3_0v2c), (Value.slice q3_0v3a q3_0v3n q3_0v3c)]]) en6 (ac rfl (ac rfl rfl)) rfl ?_)
              refine (c6 m110.1 (⟨m2.1.places, m2.1.before, m2.1.weights, m2.1.rods⟩ : SChain) q121_0v0a q121_0v0n q121_0v0c q121_0v1a q121_0v1n q121_0v1c q121_0v2a q121_0v2n q121_0v2c q121_0v3a q121_0v3n q121_0v3c q3_0v0a q3_0v0n q3_0v0c q3_0v1a q3_0v1n q3_0v1c q3_0v2a q3_0v2n q3_0v2c q3_0v3a q3_0v3n q3_0v3c m212 w194 hm212 B208.rs B209.rs B210.rs B211.rs B198.rs B199.rs B200.rs B201.rs).mono ?_
              rintro _ w213 ⟨rfl, E213⟩
              refine ⟨_, rfl, ?_⟩
              have X214 : Ext w w213 := X195.trans E213
              refine da_op rfl (d_not rfl ?_)
              refine da_op rfl (d_mv (v := .bool (!m212)) rfl ?_)
              rcases Bool.eq_false_or_eq_true m212 with hc215 | hc215
              · skip
                replace hr := bif_t hr hc215
                refine da_on rfl (Eq.trans (show sl _ _ _ = .bool (!m212) from rfl) (congrArg Value.bool (congrArg not hc215))) (d_mv (v := .bool m110.2) rfl ?_)
                refine da_on rfl (Eq.trans (show sl _ _ _ = .bool (!m212) from rfl) (congrArg Value.bool (congrArg not hc215))) (d_mv (v := .bool m2.2) s4_70 ?_)
                refine da_on rfl (Eq.trans (show sl _ _ _ = .bool (!m212) from rfl) (congrArg Value.bool (congrArg not hc215))) (d_bne un4 rfl rfl ?_)
                refine da_op rfl (d_pick (b := false) (Eq.trans (show ev _ _ = .bool (!m212) from rfl) (congrArg Value.bool (congrArg not hc215))) ?_)
                refine da_nil ?_
                obtain rfl := Option.some.inj hr
                exact ⟨rfl, (Ext.trans (Ext.refl w194) E213)⟩
              · skip
                replace hr := bif_f hr hc215
                refine da_off rfl (Eq.trans (show sl _ _ _ = .bool (!m212) from rfl) (congrArg Value.bool (congrArg not hc215))) (by decide) ?_
                refine da_off rfl (Eq.trans (show sl _ _ _ = .bool (!m212) from rfl) (congrArg Value.bool (congrArg not hc215))) (by decide) ?_
                refine da_off rfl (Eq.trans (show sl _ _ _ = .bool (!m212) from rfl) (congrArg Value.bool (congrArg not hc215))) (by decide) ?_
                refine da_op rfl (d_pick (b := true) (Eq.trans (show ev _ _ = .bool (!m212) from rfl) (congrArg Value.bool (congrArg not hc215))) ?_)
                refine da_nil ?_
                obtain rfl := Option.some.inj hr
                exact ⟨rfl, (Ext.trans (Ext.refl w194) E213)⟩
            · skip
              rintro σ197 w197 o197 ⟨s57_197, E197⟩
              have s5_197 : σ197 5 = .pointer (some ⟨w24.heap.size, 0, none⟩) := (o197 5 rfl).trans s5_70
              have s7_197 : σ197 7 = .int .i64 m87.1 := (o197 7 rfl).trans rfl
              have X216 : Ext w w197 := X195.trans E197
              refine W_cond (b := m197) s57_197 (fun hc217 => ?_) (fun hc217 => ?_)
              · skip
                replace hr := bif_t hr hc217
                refine W_seq ?_
                refine W_region rfl ?_
                refine da_op rfl (d_as (v := .bool false) rfl ?_)
                refine da_nil ?_
                refine W_ret ?_
                obtain rfl := Option.some.inj hr
                refine ⟨_, res1 (rv_tmp rfl), ?_⟩
                exact ⟨rfl, X216⟩
              · skip
                replace hr := bif_f hr hc217
                refine W_skip ?_
                refine W_seq ?_
                refine W_region rfl ?_
                refine da_op rfl (d_as (v := .int .i64 1) rfl ?_)
                refine da_nil ?_
                refine W_seq ?_
                refine W_region rfl ?_
                have B218 : w197.heap[w24.heap.size]? = some (.cells #[(Value.slice q24_0v0a q24_0v0n q24_0v0c), (Value.slice q24_0v1a q24_0v1n q24_0v1c), (Value.slice q24_0v2a q24_0v2n q24_0v2c), (Value.slice q24_0v3a q24_0v3n q24_0v3c)] 26 (0, 0)) := E197.heap B207
                refine da_op rfl (d_loads (vs := #[(Value.slice q24_0v0a q24_0v0n q24_0v0c), (Value.slice q24_0v1a q24_0v1n q24_0v1c), (Value.slice q24_0v2a q24_0v2n q24_0v2c), (Value.slice q24_0v3a q24_0v3n q24_0v3c)]) s5_197 agg26 size26 B218 rfl ?_)
                refine da_op rfl (d_mv (v := .int .i64 1) rfl ?_)
                obtain ⟨m219, hm219, hr⟩ := bind_out hr
                have B220 : OS w197 57 encSVector (Value.slice q24_0v0a q24_0v0n q24_0v0c) m87.2.1 := B203.ext E197
                have B221 : OS w197 57 encSVector (Value.slice q24_0v1a q24_0v1n q24_0v1c) m87.2.2.1 := B204.ext E197
                have B222 : OS w197 40 encF_f32 (Value.slice q24_0v2a q24_0v2n q24_0v2c) m87.2.2.2.1 := B205.ext E197
                have B223 : OS w197 42 encSRod (Value.slice q24_0v3a q24_0v3n q24_0v3c) m87.2.2.2.2 := B206.ext E197
                refine da_op rfl (d_cl (vs := [.agg #[(Value.slice q24_0v0a q24_0v0n q24_0v0c), (Value.slice q24_0v1a q24_0v1n q24_0v1c), (Value.slice q24_0v2a q24_0v2n q24_0v2c), (Value.slice q24_0v3a q24_0v3n q24_0v3c)], .int .i64 1]) en8 (ac rfl (ac rfl rfl)) rfl ?_)
                refine (c8 (⟨m87.2.1, m87.2.2.1, m87.2.2.2.1, m87.2.2.2.2⟩ : SChain) 1 q24_0v0a q24_0v0n q24_0v0c q24_0v1a q24_0v1n q24_0v1c q24_0v2a q24_0v2n q24_0v2c q24_0v3a q24_0v3n q24_0v3c m219 w197 hm219 B220.rs B221.rs B222.rs B223.rs).mono ?_
                rintro _ w224 ⟨rfl, E224⟩
                refine ⟨_, rfl, ?_⟩
                have X225 : Ext w w224 := X216.trans E224
                refine da_op rfl (d_as (v := .int .i64 m219) rfl ?_)
                refine da_nil ?_
                refine W_seq ?_
                refine W_seq ?_
                refine W_region rfl ?_
                refine da_op rfl (d_mv (v := .int .i64 m219) rfl ?_)
                refine da_op rfl (d_icmp cLss rfl rfl ?_)
                refine da_nil ?_
                refine W_cond (b := (icmp .lss m219 0)) rfl (fun hc226 => ?_) (fun hc226 => ?_)
                · skip
                  replace hr := bif_t hr hc226
                  refine W_seq ?_
                  refine W_region rfl ?_
                  refine da_op rfl (d_as (v := .bool false) rfl ?_)
                  refine da_nil ?_
                  refine W_ret ?_
                  obtain rfl := Option.some.inj hr
                  refine ⟨_, res1 (rv_tmp rfl), ?_⟩
                  exact ⟨rfl, X225⟩
                · skip
                  replace hr := bif_f hr hc226
                  refine W_skip ?_
                  refine W_seq ?_
                  refine W_seq ?_
                  refine W_region rfl ?_
                  refine da_op rfl (d_mv (v := .int .i64 m219) rfl ?_)
                  refine da_op rfl (d_mv (v := .int .i64 m87.1) s7_197 ?_)
                  refine da_op rfl (d_icmp cNeq rfl rfl ?_)
                  refine da_nil ?_
                  refine W_cond (b := (icmp .neq m219 m87.1)) rfl (fun hc227 => ?_) (fun hc227 => ?_)
                  · skip
                    replace hr := bif_t hr hc227
                    refine W_seq ?_
                    refine W_region rfl ?_
                    refine da_op rfl (d_as (v := .bool false) rfl ?_)
                    refine da_nil ?_
                    refine W_ret ?_
                    obtain rfl := Option.some.inj hr
                    refine ⟨_, res1 (rv_tmp rfl), ?_⟩
                    exact ⟨rfl, X225⟩
                  · skip
                    replace hr := bif_f hr hc227
                    refine W_skip ?_
                    refine W_seq ?_
                    refine W_region rfl ?_
                    refine da_op rfl (d_as (v := .bool true) rfl ?_)
                    refine da_nil ?_
                    refine W_ret ?_
                    obtain rfl := Option.some.inj hr
                    refine ⟨_, res1 (rv_tmp rfl), ?_⟩
                    exact ⟨rfl, X225⟩
end Go.Proofs
