import Derived.Test.YtdcienojgkioiaaDoorBCCt2
namespace Go.Proofs
open Go Go.Fl Go.RowKit Go.Rg
set_option maxRecDepth 100000
set_option linter.unusedVariables false
attribute [local irreducible] Go.Calls doAll Does DoesG W Wr
set_option maxHeartbeats 4000000 in
theorem c93 (p0 : List SVector) (p1 : List SVector) (p0a : Option Addr) (p0n : Nat) (p0c : Nat) (p1a : Option Addr) (p1n : Nat) (p1c : Nat) (r : Bool) (w : World) (hr : M.laws_eqVectorS p0 p1 = some r) (p0R : RS w encSVector (Value.slice p0a p0n p0c) p0) (p1R : RS w encSVector (Value.slice p1a p1n p1c) p1) :
    Calls Tryd.prog 93 #[(Value.slice p0a p0n p0c), (Value.slice p1a p1n p1c)] w fun e w' => e = .returned (.bool r) ∧ Ext w w' := by
  refine calls_of_W Tryd.func93 rfl (Nat.le_of_ble_eq_true rfl) ?_
  refine W_seq ?_
  refine W_region rfl ?_
  refine da_op rfl (d_as (v := .bool false) rfl ?_)
  refine da_nil ?_
  refine W_seq ?_
  refine W_seq ?_
  refine W_region rfl ?_
  refine da_op rfl (d_mv (v := (Value.slice p0a p0n p0c)) rfl ?_)
  refine da_op rfl (d_len (e := encSVector) un66 rfl p0R ?_)
  refine da_op rfl (d_mv (v := (Value.slice p1a p1n p1c)) rfl ?_)
  refine da_op rfl (d_len (e := encSVector) un66 rfl p1R ?_)
  refine da_op rfl (d_icmp cNeq rfl rfl ?_)
  refine da_nil ?_
  refine W_cond (b := (icmp .neq ((p0).length : Int) ((p1).length : Int))) rfl (fun hc1 => ?_) (fun hc1 => ?_)
  · skip
    replace hr := bif_t hr hc1
    refine W_seq ?_
    refine W_region rfl ?_
    refine da_op rfl (d_as (v := .bool false) rfl ?_)
    refine da_nil ?_
    refine W_ret ?_
    obtain rfl := Option.some.inj hr
    refine ⟨_, res1 (rv_tmp rfl), ?_⟩
    exact ⟨rfl, (Ext.refl w)⟩
  · skip
    replace hr := bif_f hr hc1
    refine W_skip ?_
    refine W_seq ?_
    refine W_seq ?_
    refine W_region rfl ?_
    refine da_op rfl (d_as (v := .int .i64 0) rfl ?_)
    refine da_nil ?_
    refine W_block ?_
    obtain ⟨m2, hm2, hr⟩ := bind_out hr
    refine W_loopM hm2 (fun (s2 : Int) σ w' => σ 5 = .int .i64 s2 ∧ σ 0 = (Value.slice p0a p0n p0c) ∧ σ 1 = (Value.slice p1a p1n p1c) ∧ Ext w w') (fun (e2 : (Unit ⊕ Bool)) ex σ w' => sel e2 (fun e2 => ex = .exit 0 ∧ Ext w w') (fun e2 => ex = .ret ∧ σ 4 = .bool e2 ∧ Ext w w')) ⟨rfl, rfl, rfl, (Ext.refl w)⟩ ?_ ?_
    · skip
      rintro s2 σl2 wl2 r2l ⟨i2_S5, i2_S0, i2_S1, i2_X⟩ hr
      refine W_seq ?_
      refine W_seq ?_
      refine W_region rfl ?_
      refine da_op rfl (d_mv (v := .int .i64 s2) i2_S5 ?_)
      refine da_op rfl (d_mv (v := (Value.slice p0a p0n p0c)) i2_S0 ?_)
      have B3 : RS wl2 encSVector (Value.slice p0a p0n p0c) p0 := p0R.ext i2_X
      refine da_op rfl (d_len (e := encSVector) un66 rfl B3 ?_)
      refine da_op rfl (d_icmp cLss rfl rfl ?_)
      refine da_nil ?_
      refine W_cond (b := (icmp .lss s2 ((p0).length : Int))) rfl (fun hc4 => ?_) (fun hc4 => ?_)
      · skip
        replace hr := bif_t hr hc4
        refine W_skip ?_
        refine W_seq ?_
        refine W_block ?_
        refine W_seq ?_
        have B6 : RS wl2 encSVector (Value.slice p1a p1n p1c) p1 := p1R.ext i2_X
        obtain ⟨m7, hm7, hr⟩ := bind_out hr
        obtain ⟨m8, hm8, hr⟩ := bind_out hr
        obtain ⟨m9, hm9, hr⟩ := letv_out hr
        refine W_any [] [{ V := fun _ v _ => v = (Value.slice p0a p0n p0c) }, { V := fun _ v _ => v = (.int .i64 s2) }, { V := fun _ v _ => ∃ d5_2g : Nat, ∃ d5_2o : Nat, v = (.pointer (some ⟨d5_2g, d5_2o, none⟩)) ∧ EL encSVector (Value.slice p0a p0n p0c) (p0).length s2 d5_2g d5_2o }, { V := fun _ v _ => ∃ d5_2r0 : Nat, ∃ d5_2r1 : Nat, ∃ d5_2r2 : Nat, v = (.agg #[.float .f32 d5_2r0, .float .f32 d5_2r1, .float .f32 d5_2r2]) ∧ cn .f32 d5_2r0 = m7.x ∧ cn .f32 d5_2r1 = m7.y ∧ cn .f32 d5_2r2 = m7.z }, { V := fun _ v _ => v = (Value.slice p1a p1n p1c) }, { V := fun _ v _ => v = (.int .i64 s2) }, { V := fun _ v _ => ∃ d5_6g : Nat, ∃ d5_6o : Nat, v = (.pointer (some ⟨d5_6g, d5_6o, none⟩)) ∧ EL encSVector (Value.slice p1a p1n p1c) (p1).length s2 d5_6g d5_6o }, { V := fun _ v _ => ∃ d5_6r0 : Nat, ∃ d5_6r1 : Nat, ∃ d5_6r2 : Nat, v = (.agg #[.float .f32 d5_6r0, .float .f32 d5_6r1, .float .f32 d5_6r2]) ∧ cn .f32 d5_6r0 = m8.x ∧ cn .f32 d5_6r1 = m8.y ∧ cn .f32 d5_6r2 = m8.z }, { V := fun _ v _ => v = (.bool m9) }, { V := fun _ v _ => v = (.bool (!m9)) }] mixed (by kernel_rfl) ⟨trivial, trivial, trivial, trivial, trivial, trivial, trivial, trivial, trivial, trivial, trivial⟩ ⟨?_, ?_, ?_, ?_, ?_, ?_, ?_, ?_, ?_, ?_, trivial⟩ ?_
        · skip
          refine ⟨fun _ _ _ _ _ _ h _ => h, fun _ _ h _ => h, fun σ' w' hA hE hD hP => ?_⟩
          have t0 : σ' 0 = (Value.slice p0a p0n p0c) := (hA 0 rfl).trans i2_S0
          have B0_10 : RS w' encSVector (Value.slice p0a p0n p0c) p0 := B3.frm hE (fun k _ hk => not_oth0)
          refine dg_op rfl (d_mv (v := (Value.slice p0a p0n p0c)) t0 ?_)
          exact ⟨rfl, own_none (Ext.refl w')⟩
        · skip
          refine ⟨fun _ _ _ _ _ _ h _ => h, fun _ _ h _ => h, fun σ' w' hA hE hD hP => ?_⟩
          have t5 : σ' 5 = .int .i64 s2 := (hA 5 rfl).trans i2_S5
          refine dg_op rfl (d_mv (v := .int .i64 s2) t5 ?_)
          exact ⟨rfl, own_none (Ext.refl w')⟩
        · skip
          refine ⟨fun _ _ _ _ _ _ h _ => h, fun _ _ h _ => h, fun σ' w' hA hE hD hP => ?_⟩
          have t17 : σ' 17 = (Value.slice p0a p0n p0c) := hD 0 rfl
          have t18 : σ' 18 = (.int .i64 s2) := hD 1 rfl
          have B0_11 : RS w' encSVector (Value.slice p0a p0n p0c) p0 := B3.frm hE (fun k _ hk => not_oth0)
          refine dg_op rfl (d_indexE (e := encSVector) (v := (Value.slice p0a p0n p0c)) un66 size44 t17 t18 B0_11 hm7 fun g12 o12 l12 => ?_)
          exact ⟨⟨g12, o12, rfl, l12⟩, own_none (Ext.refl _)⟩
        · skip
          refine ⟨fun _ _ _ _ _ _ h _ => h, fun _ _ h _ => h, fun σ' w' hA hE hD hP => ?_⟩
          obtain ⟨d5_2g, d5_2o, t19, d5_2gE⟩ : ∃ d5_2g : Nat, ∃ d5_2o : Nat, σ' 19 = (.pointer (some ⟨d5_2g, d5_2o, none⟩)) ∧ EL encSVector (Value.slice p0a p0n p0c) (p0).length s2 d5_2g d5_2o := hD 2 rfl
          have B0_13 : RS w' encSVector (Value.slice p0a p0n p0c) p0 := B3.frm hE (fun k _ hk => not_oth0)
          obtain ⟨d5_2c, d5_2T, d5_2f, d5_2vs, d5_2hg, d5_2P, d5_2hq⟩ := RS.el B0_13 d5_2gE hm7
          obtain ⟨d5_2r0, d5_2r1, d5_2r2, rfl, d5_2h0, d5_2h1, d5_2h2⟩ := dec_encSVector d5_2hq
          refine dg_op rfl (d_loads (vs := #[.float .f32 d5_2r0, .float .f32 d5_2r1, .float .f32 d5_2r2]) t19 agg44 size44 d5_2hg (sub_take (vs := #[.float .f32 d5_2r0, .float .f32 d5_2r1, .float .f32 d5_2r2]) (us := #[.float .f32 d5_2r0, .float .f32 d5_2r1, .float .f32 d5_2r2]) (i := 0) d5_2P rfl (Nat.le_of_ble_eq_true rfl)) ?_)
          exact ⟨⟨d5_2r0, d5_2r1, d5_2r2, rfl, d5_2h0, d5_2h1, d5_2h2⟩, own_none (Ext.refl w')⟩
        · skip
          refine ⟨fun _ _ _ _ _ _ h _ => h, fun _ _ h _ => h, fun σ' w' hA hE hD hP => ?_⟩
          have t1 : σ' 1 = (Value.slice p1a p1n p1c) := (hA 1 rfl).trans i2_S1
          have B0_14 : RS w' encSVector (Value.slice p1a p1n p1c) p1 := B6.frm hE (fun k _ hk => not_oth0)
          refine dg_op rfl (d_mv (v := (Value.slice p1a p1n p1c)) t1 ?_)
          exact ⟨rfl, own_none (Ext.refl w')⟩
        · skip
          refine ⟨fun _ _ _ _ _ _ h _ => h, fun _ _ h _ => h, fun σ' w' hA hE hD hP => ?_⟩
          have t5 : σ' 5 = .int .i64 s2 := (hA 5 rfl).trans i2_S5
          refine dg_op rfl (d_mv (v := .int .i64 s2) t5 ?_)
          exact ⟨rfl, own_none (Ext.refl w')⟩
        · skip
          refine ⟨fun _ _ _ _ _ _ h _ => h, fun _ _ h _ => h, fun σ' w' hA hE hD hP => ?_⟩
          have t21 : σ' 21 = (Value.slice p1a p1n p1c) := hD 4 rfl
          have t22 : σ' 22 = (.int .i64 s2) := hD 5 rfl
          have B0_15 : RS w' encSVector (Value.slice p1a p1n p1c) p1 := B6.frm hE (fun k _ hk => not_oth0)
          refine dg_op rfl (d_indexE (e := encSVector) (v := (Value.slice p1a p1n p1c)) un66 size44 t21 t22 B0_15 hm8 fun g16 o16 l16 => ?_)
          exact ⟨⟨g16, o16, rfl, l16⟩, own_none (Ext.refl _)⟩
        · skip
          refine ⟨fun _ _ _ _ _ _ h _ => h, fun _ _ h _ => h, fun σ' w' hA hE hD hP => ?_⟩
          obtain ⟨d5_6g, d5_6o, t23, d5_6gE⟩ : ∃ d5_6g : Nat, ∃ d5_6o : Nat, σ' 23 = (.pointer (some ⟨d5_6g, d5_6o, none⟩)) ∧ EL encSVector (Value.slice p1a p1n p1c) (p1).length s2 d5_6g d5_6o := hD 6 rfl
          have B0_17 : RS w' encSVector (Value.slice p1a p1n p1c) p1 := B6.frm hE (fun k _ hk => not_oth0)
          obtain ⟨d5_6c, d5_6T, d5_6f, d5_6vs, d5_6hg, d5_6P, d5_6hq⟩ := RS.el B0_17 d5_6gE hm8
          obtain ⟨d5_6r0, d5_6r1, d5_6r2, rfl, d5_6h0, d5_6h1, d5_6h2⟩ := dec_encSVector d5_6hq
          refine dg_op rfl (d_loads (vs := #[.float .f32 d5_6r0, .float .f32 d5_6r1, .float .f32 d5_6r2]) t23 agg44 size44 d5_6hg (sub_take (vs := #[.float .f32 d5_6r0, .float .f32 d5_6r1, .float .f32 d5_6r2]) (us := #[.float .f32 d5_6r0, .float .f32 d5_6r1, .float .f32 d5_6r2]) (i := 0) d5_6P rfl (Nat.le_of_ble_eq_true rfl)) ?_)
          exact ⟨⟨d5_6r0, d5_6r1, d5_6r2, rfl, d5_6h0, d5_6h1, d5_6h2⟩, own_none (Ext.refl w')⟩
        · skip
          refine ⟨fun _ _ _ _ _ _ h _ => h, fun _ _ h _ => h, fun σ' w' hA hE hD hP => ?_⟩
          obtain ⟨d5_2r0, d5_2r1, d5_2r2, t20, d5_2h0, d5_2h1, d5_2h2⟩ : ∃ d5_2r0 : Nat, ∃ d5_2r1 : Nat, ∃ d5_2r2 : Nat, σ' 20 = (.agg #[.float .f32 d5_2r0, .float .f32 d5_2r1, .float .f32 d5_2r2]) ∧ cn .f32 d5_2r0 = m7.x ∧ cn .f32 d5_2r1 = m7.y ∧ cn .f32 d5_2r2 = m7.z := hD 3 rfl
          obtain ⟨d5_6r0, d5_6r1, d5_6r2, t24, d5_6h0, d5_6h1, d5_6h2⟩ : ∃ d5_6r0 : Nat, ∃ d5_6r1 : Nat, ∃ d5_6r2 : Nat, σ' 24 = (.agg #[.float .f32 d5_6r0, .float .f32 d5_6r1, .float .f32 d5_6r2]) ∧ cn .f32 d5_6r0 = m8.x ∧ cn .f32 d5_6r1 = m8.y ∧ cn .f32 d5_6r2 = m8.z := hD 7 rfl
          refine dg_op rfl (d_cl (vs := [.agg #[.float .f32 d5_2r0, .float .f32 d5_2r1, .float .f32 d5_2r2], .agg #[.float .f32 d5_6r0, .float .f32 d5_6r1, .float .f32 d5_6r2]]) en69 (ac t20 (ac t24 rfl)) rfl ?_)
          refine (c69 m7 m8 d5_2r0 d5_2r1 d5_2r2 d5_6r0 d5_6r1 d5_6r2 m9 w' hm9 d5_2h0 d5_2h1 d5_2h2 d5_6h0 d5_6h1 d5_6h2).mono ?_
          rintro _ w18 ⟨rfl, E18⟩
          refine ⟨_, rfl, ?_⟩
          have X19 : Ext w' w18 := (Ext.refl w').trans E18
          exact ⟨rfl, own_none X19⟩
        · skip
          refine ⟨fun _ _ _ _ _ _ h _ => h, fun _ _ h _ => h, fun σ' w' hA hE hD hP => ?_⟩
          have t25 : σ' 25 = (.bool m9) := hD 8 rfl
          refine dg_op rfl (d_not t25 ?_)
          exact ⟨rfl, own_none (Ext.refl w')⟩
        · skip
          intro σ5 w5 A5 E5 V5
          have E5x : Ext wl2 w5 := ext_of_oth0 E5
          have s26_5 : σ5 26 = (.bool (!m9)) := V5 9 (Nat.le_of_ble_eq_true rfl)
          have s5_5 : σ5 5 = .int .i64 s2 := (A5 5 rfl).trans i2_S5
          have s0_5 : σ5 0 = (Value.slice p0a p0n p0c) := (A5 0 rfl).trans i2_S0
          have s1_5 : σ5 1 = (Value.slice p1a p1n p1c) := (A5 1 rfl).trans i2_S1
          have X20 : Ext w w5 := i2_X.trans E5x
          refine W_cond (b := (!m9)) s26_5 (fun hc21 => ?_) (fun hc21 => ?_)
          · skip
            replace hr := bif_t hr hc21
            refine W_seq ?_
            refine W_region rfl ?_
            refine da_op rfl (d_as (v := .bool false) rfl ?_)
            refine da_nil ?_
            refine W_ret ?_
            obtain rfl := Option.some.inj hr
            exact ⟨_, rfl, rfl, rfl, X20⟩
          · skip
            replace hr := bif_f hr hc21
            refine W_skip ?_
            refine W_region rfl ?_
            refine da_op rfl (d_mv (v := .int .i64 s2) s5_5 ?_)
            refine da_op rfl (d_iarith rfl rfl (.inl ⟨rfl, rfl⟩) ?_)
            refine da_op rfl (d_as (v := .int .i64 (IntKind.i64.wrap (s2 + 1))) rfl ?_)
            refine da_nil ?_
            obtain rfl := Option.some.inj hr
            exact ⟨_, rfl, ⟨rfl, s0_5, s1_5, X20⟩⟩
      · skip
        replace hr := bif_f hr hc4
        refine W_exit ?_
        obtain rfl := Option.some.inj hr
        exact ⟨_, rfl, rfl, i2_X⟩
    · skip
      intro ex σx2 wx2 hq
      rcases m2 with m2 | m2
      · skip
        obtain ⟨rfl, q2_0_X⟩ := hq
        refine W_seq ?_
        refine W_region rfl ?_
        refine da_op rfl (d_as (v := .bool true) rfl ?_)
        refine da_nil ?_
        refine W_ret ?_
        obtain rfl := Option.some.inj hr
        refine ⟨_, res1 (rv_tmp rfl), ?_⟩
        exact ⟨rfl, q2_0_X⟩
      · skip
        obtain ⟨rfl, q2_1_S4, q2_1_X⟩ := hq
        obtain rfl := Option.some.inj hr
        refine ⟨_, res1 (rv_tmp q2_1_S4), ?_⟩
        exact ⟨rfl, q2_1_X⟩
set_option maxHeartbeats 4000000 in
theorem c75 (p0 : List Nat) (p1 : List Nat) (p0a : Option Addr) (p0n : Nat) (p0c : Nat) (p1a : Option Addr) (p1n : Nat) (p1c : Nat) (r : Bool) (w : World) (hr : M.laws_eqFloat32S p0 p1 = some r) (p0R : RS w encF_f32 (Value.slice p0a p0n p0c) p0) (p1R : RS w encF_f32 (Value.slice p1a p1n p1c) p1) :
    Calls Tryd.prog 75 #[(Value.slice p0a p0n p0c), (Value.slice p1a p1n p1c)] w fun e w' => e = .returned (.bool r) ∧ Ext w w' := by
  refine calls_of_W Tryd.func75 rfl (Nat.le_of_ble_eq_true rfl) ?_
  refine W_seq ?_
  refine W_region rfl ?_
  refine da_op rfl (d_as (v := .bool false) rfl ?_)
  refine da_nil ?_
  refine W_seq ?_
  refine W_seq ?_
  refine W_region rfl ?_
  refine da_op rfl (d_mv (v := (Value.slice p0a p0n p0c)) rfl ?_)
  refine da_op rfl (d_len (e := encF_f32) un53 rfl p0R ?_)
  refine da_op rfl (d_mv (v := (Value.slice p1a p1n p1c)) rfl ?_)
  refine da_op rfl (d_len (e := encF_f32) un53 rfl p1R ?_)
  refine da_op rfl (d_icmp cNeq rfl rfl ?_)
  refine da_nil ?_
  refine W_cond (b := (icmp .neq ((p0).length : Int) ((p1).length : Int))) rfl (fun hc1 => ?_) (fun hc1 => ?_)
  · skip
    replace hr := bif_t hr hc1
    refine W_seq ?_
    refine W_region rfl ?_
    refine da_op rfl (d_as (v := .bool false) rfl ?_)
    refine da_nil ?_
    refine W_ret ?_
    obtain rfl := Option.some.inj hr
    refine ⟨_, res1 (rv_tmp rfl), ?_⟩
    exact ⟨rfl, (Ext.refl w)⟩
  · skip
    replace hr := bif_f hr hc1
    refine W_skip ?_
    refine W_seq ?_
    refine W_seq ?_
    refine W_region rfl ?_
    refine da_op rfl (d_as (v := .int .i64 0) rfl ?_)
    refine da_nil ?_
    refine W_block ?_
    obtain ⟨m2, hm2, hr⟩ := bind_out hr
    refine W_loopM hm2 (fun (s2 : Int) σ w' => σ 5 = .int .i64 s2 ∧ σ 0 = (Value.slice p0a p0n p0c) ∧ σ 1 = (Value.slice p1a p1n p1c) ∧ Ext w w') (fun (e2 : (Unit ⊕ Bool)) ex σ w' => sel e2 (fun e2 => ex = .exit 0 ∧ Ext w w') (fun e2 => ex = .ret ∧ σ 4 = .bool e2 ∧ Ext w w')) ⟨rfl, rfl, rfl, (Ext.refl w)⟩ ?_ ?_
    · skip
      rintro s2 σl2 wl2 r2l ⟨i2_S5, i2_S0, i2_S1, i2_X⟩ hr
      refine W_seq ?_
      refine W_seq ?_
      refine W_region rfl ?_
      refine da_op rfl (d_mv (v := .int .i64 s2) i2_S5 ?_)
      refine da_op rfl (d_mv (v := (Value.slice p0a p0n p0c)) i2_S0 ?_)
      have B3 : RS wl2 encF_f32 (Value.slice p0a p0n p0c) p0 := p0R.ext i2_X
      refine da_op rfl (d_len (e := encF_f32) un53 rfl B3 ?_)
      refine da_op rfl (d_icmp cLss rfl rfl ?_)
      refine da_nil ?_
      refine W_cond (b := (icmp .lss s2 ((p0).length : Int))) rfl (fun hc4 => ?_) (fun hc4 => ?_)
      · skip
        replace hr := bif_t hr hc4
        refine W_skip ?_
        refine W_seq ?_
        refine W_block ?_
        refine W_seq ?_
        have B6 : RS wl2 encF_f32 (Value.slice p1a p1n p1c) p1 := p1R.ext i2_X
        obtain ⟨m7, hm7, hr⟩ := bind_out hr
        obtain ⟨m8, hm8, hr⟩ := bind_out hr
        obtain ⟨m9, hm9, hr⟩ := letv_out hr
        refine W_any [] [{ V := fun _ v _ => v = (Value.slice p0a p0n p0c) }, { V := fun _ v _ => v = (.int .i64 s2) }, { V := fun _ v _ => ∃ d5_2g : Nat, ∃ d5_2o : Nat, v = (.pointer (some ⟨d5_2g, d5_2o, none⟩)) ∧ EL encF_f32 (Value.slice p0a p0n p0c) (p0).length s2 d5_2g d5_2o }, { V := fun _ v _ => ∃ d5_2r0 : Nat, v = (.float .f32 d5_2r0) ∧ cn .f32 d5_2r0 = m7 }, { V := fun _ v _ => ∃ d5_4r : Nat, v = (.float .f64 d5_4r) ∧ cn .f64 d5_4r = (widen m7) }, { V := fun _ v _ => v = (Value.slice p1a p1n p1c) }, { V := fun _ v _ => v = (.int .i64 s2) }, { V := fun _ v _ => ∃ d5_7g : Nat, ∃ d5_7o : Nat, v = (.pointer (some ⟨d5_7g, d5_7o, none⟩)) ∧ EL encF_f32 (Value.slice p1a p1n p1c) (p1).length s2 d5_7g d5_7o }, { V := fun _ v _ => ∃ d5_7r0 : Nat, v = (.float .f32 d5_7r0) ∧ cn .f32 d5_7r0 = m8 }, { V := fun _ v _ => ∃ d5_9r : Nat, v = (.float .f64 d5_9r) ∧ cn .f64 d5_9r = (widen m8) }, { V := fun _ v _ => v = (.bool m9) }, { V := fun _ v _ => v = (.bool (!m9)) }] mixed (by kernel_rfl) ⟨trivial, trivial, trivial, trivial, trivial, trivial, trivial, trivial, trivial, trivial, trivial, trivial, trivial⟩ ⟨?_, ?_, ?_, ?_, ?_, ?_, ?_, ?_, ?_, ?_, ?_, ?_, trivial⟩ ?_
        · skip
          refine ⟨fun _ _ _ _ _ _ h _ => h, fun _ _ h _ => h, fun σ' w' hA hE hD hP => ?_⟩
          have t0 : σ' 0 = (Value.slice p0a p0n p0c) := (hA 0 rfl).trans i2_S0
          have B0_10 : RS w' encF_f32 (Value.slice p0a p0n p0c) p0 := B3.frm hE (fun k _ hk => not_oth0)
          refine dg_op rfl (d_mv (v := (Value.slice p0a p0n p0c)) t0 ?_)
          exact ⟨rfl, own_none (Ext.refl w')⟩
        · skip
          refine ⟨fun _ _ _ _ _ _ h _ => h, fun _ _ h _ => h, fun σ' w' hA hE hD hP => ?_⟩
          have t5 : σ' 5 = .int .i64 s2 := (hA 5 rfl).trans i2_S5
          refine dg_op rfl (d_mv (v := .int .i64 s2) t5 ?_)
          exact ⟨rfl, own_none (Ext.refl w')⟩
        · skip
          refine ⟨fun _ _ _ _ _ _ h _ => h, fun _ _ h _ => h, fun σ' w' hA hE hD hP => ?_⟩
          have t17 : σ' 17 = (Value.slice p0a p0n p0c) := hD 0 rfl
          have t18 : σ' 18 = (.int .i64 s2) := hD 1 rfl
          have B0_11 : RS w' encF_f32 (Value.slice p0a p0n p0c) p0 := B3.frm hE (fun k _ hk => not_oth0)
          refine dg_op rfl (d_indexE (e := encF_f32) (v := (Value.slice p0a p0n p0c)) un53 size22 t17 t18 B0_11 hm7 fun g12 o12 l12 => ?_)
          exact ⟨⟨g12, o12, rfl, l12⟩, own_none (Ext.refl _)⟩
        · skip
          refine ⟨fun _ _ _ _ _ _ h _ => h, fun _ _ h _ => h, fun σ' w' hA hE hD hP => ?_⟩
          obtain ⟨d5_2g, d5_2o, t19, d5_2gE⟩ : ∃ d5_2g : Nat, ∃ d5_2o : Nat, σ' 19 = (.pointer (some ⟨d5_2g, d5_2o, none⟩)) ∧ EL encF_f32 (Value.slice p0a p0n p0c) (p0).length s2 d5_2g d5_2o := hD 2 rfl
          have B0_13 : RS w' encF_f32 (Value.slice p0a p0n p0c) p0 := B3.frm hE (fun k _ hk => not_oth0)
          obtain ⟨d5_2c, d5_2T, d5_2f, d5_2vs, d5_2hg, d5_2P, d5_2hq⟩ := RS.el B0_13 d5_2gE hm7
          obtain ⟨d5_2r0, rfl, d5_2h0⟩ := dec_encF_f32 d5_2hq
          refine dg_op rfl (d_load (v := .float .f32 d5_2r0) t19 agg22 d5_2hg (sub_get (vs := #[.float .f32 d5_2r0]) d5_2P (i := 0) rfl) ?_)
          exact ⟨⟨d5_2r0, rfl, d5_2h0⟩, own_none (Ext.refl w')⟩
        · skip
          refine ⟨fun _ _ _ _ _ _ h _ => h, fun _ _ h _ => h, fun σ' w' hA hE hD hP => ?_⟩
          obtain ⟨d5_2r0, t20, d5_2h0⟩ : ∃ d5_2r0 : Nat, σ' 20 = (.float .f32 d5_2r0) ∧ cn .f32 d5_2r0 = m7 := hD 3 rfl
          refine dg_op rfl (d_widen un22 un89 t20 d5_2h0 fun r14 w14 h14 _ E14 => ?_)
          have X15 : Ext w' w14 := (Ext.refl w').trans E14
          exact ⟨⟨r14, rfl, h14⟩, own_none X15⟩
        · skip
          refine ⟨fun _ _ _ _ _ _ h _ => h, fun _ _ h _ => h, fun σ' w' hA hE hD hP => ?_⟩
          have t1 : σ' 1 = (Value.slice p1a p1n p1c) := (hA 1 rfl).trans i2_S1
          have B0_16 : RS w' encF_f32 (Value.slice p1a p1n p1c) p1 := B6.frm hE (fun k _ hk => not_oth0)
          refine dg_op rfl (d_mv (v := (Value.slice p1a p1n p1c)) t1 ?_)
          exact ⟨rfl, own_none (Ext.refl w')⟩
        · skip
          refine ⟨fun _ _ _ _ _ _ h _ => h, fun _ _ h _ => h, fun σ' w' hA hE hD hP => ?_⟩
          have t5 : σ' 5 = .int .i64 s2 := (hA 5 rfl).trans i2_S5
          refine dg_op rfl (d_mv (v := .int .i64 s2) t5 ?_)
          exact ⟨rfl, own_none (Ext.refl w')⟩
        · skip
          refine ⟨fun _ _ _ _ _ _ h _ => h, fun _ _ h _ => h, fun σ' w' hA hE hD hP => ?_⟩
          have t22 : σ' 22 = (Value.slice p1a p1n p1c) := hD 5 rfl
          have t23 : σ' 23 = (.int .i64 s2) := hD 6 rfl
          have B0_17 : RS w' encF_f32 (Value.slice p1a p1n p1c) p1 := B6.frm hE (fun k _ hk => not_oth0)
          refine dg_op rfl (d_indexE (e := encF_f32) (v := (Value.slice p1a p1n p1c)) un53 size22 t22 t23 B0_17 hm8 fun g18 o18 l18 => ?_)
          exact ⟨⟨g18, o18, rfl, l18⟩, own_none (Ext.refl _)⟩
        · skip
          refine ⟨fun _ _ _ _ _ _ h _ => h, fun _ _ h _ => h, fun σ' w' hA hE hD hP => ?_⟩
          obtain ⟨d5_7g, d5_7o, t24, d5_7gE⟩ : ∃ d5_7g : Nat, ∃ d5_7o : Nat, σ' 24 = (.pointer (some ⟨d5_7g, d5_7o, none⟩)) ∧ EL encF_f32 (Value.slice p1a p1n p1c) (p1).length s2 d5_7g d5_7o := hD 7 rfl
          have B0_19 : RS w' encF_f32 (Value.slice p1a p1n p1c) p1 := B6.frm hE (fun k _ hk => not_oth0)
          obtain ⟨d5_7c, d5_7T, d5_7f, d5_7vs, d5_7hg, d5_7P, d5_7hq⟩ := RS.el B0_19 d5_7gE hm8
          obtain ⟨d5_7r0, rfl, d5_7h0⟩ := dec_encF_f32 d5_7hq
          refine dg_op rfl (d_load (v := .float .f32 d5_7r0) t24 agg22 d5_7hg (sub_get (vs := #[.float .f32 d5_7r0]) d5_7P (i := 0) rfl) ?_)
          exact ⟨⟨d5_7r0, rfl, d5_7h0⟩, own_none (Ext.refl w')⟩
        · skip
          refine ⟨fun _ _ _ _ _ _ h _ => h, fun _ _ h _ => h, fun σ' w' hA hE hD hP => ?_⟩
          obtain ⟨d5_7r0, t25, d5_7h0⟩ : ∃ d5_7r0 : Nat, σ' 25 = (.float .f32 d5_7r0) ∧ cn .f32 d5_7r0 = m8 := hD 8 rfl
          refine dg_op rfl (d_widen un22 un89 t25 d5_7h0 fun r20 w20 h20 _ E20 => ?_)
          have X21 : Ext w' w20 := (Ext.refl w').trans E20
          exact ⟨⟨r20, rfl, h20⟩, own_none X21⟩
        · skip
          refine ⟨fun _ _ _ _ _ _ h _ => h, fun _ _ h _ => h, fun σ' w' hA hE hD hP => ?_⟩
          obtain ⟨d5_4r, t21, d5_4h⟩ : ∃ d5_4r : Nat, σ' 21 = (.float .f64 d5_4r) ∧ cn .f64 d5_4r = (widen m7) := hD 4 rfl
          obtain ⟨d5_9r, t26, d5_9h⟩ : ∃ d5_9r : Nat, σ' 26 = (.float .f64 d5_9r) ∧ cn .f64 d5_9r = (widen m8) := hD 9 rfl
          refine dg_op rfl (d_cl (vs := [.float .f64 d5_4r, .float .f64 d5_9r]) en51 (ac t21 (ac t26 rfl)) rfl ?_)
          refine (c51 (widen m7) (widen m8) d5_4r d5_9r m9 w' hm9 d5_4h d5_9h).mono ?_
          rintro _ w22 ⟨rfl, E22⟩
          refine ⟨_, rfl, ?_⟩
          have X23 : Ext w' w22 := (Ext.refl w').trans E22
          exact ⟨rfl, own_none X23⟩
        · skip
          refine ⟨fun _ _ _ _ _ _ h _ => h, fun _ _ h _ => h, fun σ' w' hA hE hD hP => ?_⟩
          have t27 : σ' 27 = (.bool m9) := hD 10 rfl
          refine dg_op rfl (d_not t27 ?_)
          exact ⟨rfl, own_none (Ext.refl w')⟩
        · skip
          intro σ5 w5 A5 E5 V5
          have E5x : Ext wl2 w5 := ext_of_oth0 E5
          have s28_5 : σ5 28 = (.bool (!m9)) := V5 11 (Nat.le_of_ble_eq_true rfl)
          have s5_5 : σ5 5 = .int .i64 s2 := (A5 5 rfl).trans i2_S5
          have s0_5 : σ5 0 = (Value.slice p0a p0n p0c) := (A5 0 rfl).trans i2_S0
          have s1_5 : σ5 1 = (Value.slice p1a p1n p1c) := (A5 1 rfl).trans i2_S1
          have X24 : Ext w w5 := i2_X.trans E5x
          refine W_cond (b := (!m9)) s28_5 (fun hc25 => ?_) (fun hc25 => ?_)
          · skip
            replace hr := bif_t hr hc25
            refine W_seq ?_
            refine W_region rfl ?_
            refine da_op rfl (d_as (v := .bool false) rfl ?_)
            refine da_nil ?_
            refine W_ret ?_
            obtain rfl := Option.some.inj hr
            exact ⟨_, rfl, rfl, rfl, X24⟩
          · skip
            replace hr := bif_f hr hc25
            refine W_skip ?_
            refine W_region rfl ?_
            refine da_op rfl (d_mv (v := .int .i64 s2) s5_5 ?_)
            refine da_op rfl (d_iarith rfl rfl (.inl ⟨rfl, rfl⟩) ?_)
            refine da_op rfl (d_as (v := .int .i64 (IntKind.i64.wrap (s2 + 1))) rfl ?_)
            refine da_nil ?_
            obtain rfl := Option.some.inj hr
            exact ⟨_, rfl, ⟨rfl, s0_5, s1_5, X24⟩⟩
      · skip
        replace hr := bif_f hr hc4
        refine W_exit ?_
        obtain rfl := Option.some.inj hr
        exact ⟨_, rfl, rfl, i2_X⟩
    · skip
      intro ex σx2 wx2 hq
      rcases m2 with m2 | m2
      · skip
        obtain ⟨rfl, q2_0_X⟩ := hq
        refine W_seq ?_
        refine W_region rfl ?_
        refine da_op rfl (d_as (v := .bool true) rfl ?_)
        refine da_nil ?_
        refine W_ret ?_
        obtain rfl := Option.some.inj hr
        refine ⟨_, res1 (rv_tmp rfl), ?_⟩
        exact ⟨rfl, q2_0_X⟩
      · skip
        obtain ⟨rfl, q2_1_S4, q2_1_X⟩ := hq
        obtain rfl := Option.some.inj hr
        refine ⟨_, res1 (rv_tmp q2_1_S4), ?_⟩
        exact ⟨rfl, q2_1_X⟩
set_option maxHeartbeats 4000000 in
theorem c149 (p0 : SRod) (p1 : SRod) (p0r2 : Nat) (p1r2 : Nat) (r : Bool) (w : World) (hr : M.laws_eqRod p0 p1 = r) (p0h2 : cn .f32 p0r2 = p0.long) (p1h2 : cn .f32 p1r2 = p1.long) :
    Calls Tryd.prog 149 #[.agg #[.int .i64 p0.a, .int .i64 p0.b, .float .f32 p0r2], .agg #[.int .i64 p1.a, .int .i64 p1.b, .float .f32 p1r2]] w fun e w' => e = .returned (.bool r) ∧ Ext w w' := by
  refine calls_of_W Tryd.func149 rfl (Nat.le_of_ble_eq_true rfl) ?_
  refine W_seq ?_
  refine W_region rfl ?_
  refine da_op rfl (d_box (cs := #[.int .i64 p0.a, .int .i64 p0.b, .float .f32 p0r2]) rfl fun w1 B1 E1 => ?_)
  have own2 : w.heap.size ≤ w.heap.size := Nat.le_trans (Ext.refl w).size (Nat.le_refl _)
  have X3 : Ext w w1 := (Ext.refl w).trans E1
  refine da_op rfl (d_box (cs := #[.int .i64 p1.a, .int .i64 p1.b, .float .f32 p1r2]) rfl fun w4 B4 E4 => ?_)
  have own5 : w.heap.size ≤ w1.heap.size := Nat.le_trans X3.size (Nat.le_refl _)
  have sp6 : w.heap.size ≠ w1.heap.size := Nat.ne_of_lt (Nat.lt_of_lt_of_le (lt_heap B1) (Nat.le_refl _))
  have X7 : Ext w w4 := X3.trans E4
  refine da_op rfl (d_as (v := .bool false) rfl ?_)
  refine da_nil ?_
  refine W_seq ?_
  refine W_seq ?_
  refine W_region rfl ?_
  refine da_op rfl (d_fieldAddr rfl (fa136_0 _ _) ?_)
  have B8 : w4.heap[w.heap.size]? = some (.cells #[.int .i64 p0.a, .int .i64 p0.b, .float .f32 p0r2] 136 (0, 0)) := E4.heap B1
  refine da_op rfl (d_load (v := .int .i64 p0.a) rfl agg2 B8 rfl ?_)
  refine da_op rfl (d_fieldAddr rfl (fa136_0 _ _) ?_)
  refine da_op rfl (d_load (v := .int .i64 p1.a) rfl agg2 B4 rfl ?_)
  refine da_op rfl (d_icmp cNeq rfl rfl ?_)
  refine da_nil ?_
  refine W_cond (b := (icmp .neq p0.a p1.a)) rfl (fun hc9 => ?_) (fun hc9 => ?_)
  · skip
    replace hr := bif_t hr hc9
    refine W_seq ?_
    refine W_region rfl ?_
    refine da_op rfl (d_as (v := .bool false) rfl ?_)
    refine da_nil ?_
    refine W_ret ?_
    subst hr
    refine ⟨_, res1 (rv_tmp rfl), ?_⟩
    exact ⟨rfl, X7⟩
  · skip
    replace hr := bif_f hr hc9
    refine W_skip ?_
    refine W_seq ?_
    refine W_seq ?_
    refine W_region rfl ?_
    refine da_op rfl (d_fieldAddr rfl (fa136_1 _ _) ?_)
    refine da_op rfl (d_load (v := .int .i64 p0.b) rfl agg2 B8 rfl ?_)
    refine da_op rfl (d_fieldAddr rfl (fa136_1 _ _) ?_)
    refine da_op rfl (d_load (v := .int .i64 p1.b) rfl agg2 B4 rfl ?_)
    refine da_op rfl (d_icmp cNeq rfl rfl ?_)
    refine da_nil ?_
    refine W_cond (b := (icmp .neq p0.b p1.b)) rfl (fun hc10 => ?_) (fun hc10 => ?_)
    · skip
      replace hr := bif_t hr hc10
      refine W_seq ?_
      refine W_region rfl ?_
      refine da_op rfl (d_as (v := .bool false) rfl ?_)
      refine da_nil ?_
      refine W_ret ?_
      subst hr
      refine ⟨_, res1 (rv_tmp rfl), ?_⟩
      exact ⟨rfl, X7⟩
    · skip
      replace hr := bif_f hr hc10
      refine W_skip ?_
      refine W_seq ?_
      refine W_seq ?_
      refine W_region rfl ?_
      refine da_op rfl (d_fieldAddr rfl (fa136_2 _ _) ?_)
      refine da_op rfl (d_load (v := .float .f32 p0r2) rfl agg22 B8 rfl ?_)
      refine da_op rfl (d_widen un22 un89 rfl p0h2 fun r11 w11 h11 _ E11 => ?_)
      have X12 : Ext w w11 := X7.trans E11
      refine da_op rfl (d_fieldAddr rfl (fa136_2 _ _) ?_)
      have B13 : w11.heap[w1.heap.size]? = some (.cells #[.int .i64 p1.a, .int .i64 p1.b, .float .f32 p1r2] 136 (0, 0)) := E11.heap B4
      refine da_op rfl (d_load (v := .float .f32 p1r2) rfl agg22 B13 rfl ?_)
      refine da_op rfl (d_widen un22 un89 rfl p1h2 fun r14 w14 h14 _ E14 => ?_)
      have X15 : Ext w w14 := X12.trans E14
      obtain ⟨m16, hm16, hr⟩ := letv_out hr
      have B17 : w14.heap[w.heap.size]? = some (.cells #[.int .i64 p0.a, .int .i64 p0.b, .float .f32 p0r2] 136 (0, 0)) := E14.heap (E11.heap B8)
      have B18 : w14.heap[w1.heap.size]? = some (.cells #[.int .i64 p1.a, .int .i64 p1.b, .float .f32 p1r2] 136 (0, 0)) := E14.heap B13
      refine da_op rfl (d_cl (vs := [.float .f64 r11, .float .f64 r14]) en51 (ac rfl (ac rfl rfl)) rfl ?_)
      refine (c51 (widen p0.long) (widen p1.long) r11 r14 m16 w14 hm16 h11 h14).mono ?_
      rintro _ w19 ⟨rfl, E19⟩
      refine ⟨_, rfl, ?_⟩
      have X20 : Ext w w19 := X15.trans E19
      refine da_op rfl (d_not rfl ?_)
      refine da_nil ?_
      refine W_cond (b := (!m16)) rfl (fun hc21 => ?_) (fun hc21 => ?_)
      · skip
        replace hr := bif_t hr hc21
        refine W_seq ?_
        refine W_region rfl ?_
        refine da_op rfl (d_as (v := .bool false) rfl ?_)
        refine da_nil ?_
        refine W_ret ?_
        subst hr
        refine ⟨_, res1 (rv_tmp rfl), ?_⟩
        exact ⟨rfl, X20⟩
      · skip
        replace hr := bif_f hr hc21
        refine W_skip ?_
        refine W_seq ?_
        refine W_region rfl ?_
        refine da_op rfl (d_as (v := .bool true) rfl ?_)
        refine da_nil ?_
        refine W_ret ?_
        subst hr
        refine ⟨_, res1 (rv_tmp rfl), ?_⟩
        exact ⟨rfl, X20⟩
set_option maxHeartbeats 4000000 in
theorem c94 (p0 : List SRod) (p1 : List SRod) (p0a : Option Addr) (p0n : Nat) (p0c : Nat) (p1a : Option Addr) (p1n : Nat) (p1c : Nat) (r : Bool) (w : World) (hr : M.laws_eqRodS p0 p1 = some r) (p0R : RS w encSRod (Value.slice p0a p0n p0c) p0) (p1R : RS w encSRod (Value.slice p1a p1n p1c) p1) :
    Calls Tryd.prog 94 #[(Value.slice p0a p0n p0c), (Value.slice p1a p1n p1c)] w fun e w' => e = .returned (.bool r) ∧ Ext w w' := by
  refine calls_of_W Tryd.func94 rfl (Nat.le_of_ble_eq_true rfl) ?_
  refine W_seq ?_
  refine W_region rfl ?_
  refine da_op rfl (d_as (v := .bool false) rfl ?_)
  refine da_nil ?_
  refine W_seq ?_
  refine W_seq ?_
  refine W_region rfl ?_
  refine da_op rfl (d_mv (v := (Value.slice p0a p0n p0c)) rfl ?_)
  refine da_op rfl (d_len (e := encSRod) un67 rfl p0R ?_)
  refine da_op rfl (d_mv (v := (Value.slice p1a p1n p1c)) rfl ?_)
  refine da_op rfl (d_len (e := encSRod) un67 rfl p1R ?_)
  refine da_op rfl (d_icmp cNeq rfl rfl ?_)
  refine da_nil ?_
  refine W_cond (b := (icmp .neq ((p0).length : Int) ((p1).length : Int))) rfl (fun hc1 => ?_) (fun hc1 => ?_)
  · skip
    replace hr := bif_t hr hc1
    refine W_seq ?_
    refine W_region rfl ?_
    refine da_op rfl (d_as (v := .bool false) rfl ?_)
    refine da_nil ?_
    refine W_ret ?_
    obtain rfl := Option.some.inj hr
    refine ⟨_, res1 (rv_tmp rfl), ?_⟩
    exact ⟨rfl, (Ext.refl w)⟩
  · skip
    replace hr := bif_f hr hc1
    refine W_skip ?_
    refine W_seq ?_
    refine W_seq ?_
    refine W_region rfl ?_
    refine da_op rfl (d_as (v := .int .i64 0) rfl ?_)
    refine da_nil ?_
    refine W_block ?_
    obtain ⟨m2, hm2, hr⟩ := bind_out hr
    refine W_loopM hm2 (fun (s2 : Int) σ w' => σ 5 = .int .i64 s2 ∧ σ 0 = (Value.slice p0a p0n p0c) ∧ σ 1 = (Value.slice p1a p1n p1c) ∧ Ext w w') (fun (e2 : (Unit ⊕ Bool)) ex σ w' => sel e2 (fun e2 => ex = .exit 0 ∧ Ext w w') (fun e2 => ex = .ret ∧ σ 4 = .bool e2 ∧ Ext w w')) ⟨rfl, rfl, rfl, (Ext.refl w)⟩ ?_ ?_
    · skip
      rintro s2 σl2 wl2 r2l ⟨i2_S5, i2_S0, i2_S1, i2_X⟩ hr
      refine W_seq ?_
      refine W_seq ?_
      refine W_region rfl ?_
      refine da_op rfl (d_mv (v := .int .i64 s2) i2_S5 ?_)
      refine da_op rfl (d_mv (v := (Value.slice p0a p0n p0c)) i2_S0 ?_)
      have B3 : RS wl2 encSRod (Value.slice p0a p0n p0c) p0 := p0R.ext i2_X
      refine da_op rfl (d_len (e := encSRod) un67 rfl B3 ?_)
      refine da_op rfl (d_icmp cLss rfl rfl ?_)
      refine da_nil ?_
      refine W_cond (b := (icmp .lss s2 ((p0).length : Int))) rfl (fun hc4 => ?_) (fun hc4 => ?_)
      · skip
        replace hr := bif_t hr hc4
        refine W_skip ?_
        refine W_seq ?_
        refine W_block ?_
        refine W_seq ?_
        have B6 : RS wl2 encSRod (Value.slice p1a p1n p1c) p1 := p1R.ext i2_X
        obtain ⟨m7, hm7, hr⟩ := bind_out hr
        obtain ⟨m8, hm8, hr⟩ := bind_out hr
        obtain ⟨m9, hm9, hr⟩ := letv_out hr
        refine W_any [] [{ V := fun _ v _ => v = (Value.slice p0a p0n p0c) }, { V := fun _ v _ => v = (.int .i64 s2) }, { V := fun _ v _ => ∃ d5_2g : Nat, ∃ d5_2o : Nat, v = (.pointer (some ⟨d5_2g, d5_2o, none⟩)) ∧ EL encSRod (Value.slice p0a p0n p0c) (p0).length s2 d5_2g d5_2o }, { V := fun _ v _ => ∃ d5_2r2 : Nat, v = (.agg #[.int .i64 m7.a, .int .i64 m7.b, .float .f32 d5_2r2]) ∧ cn .f32 d5_2r2 = m7.long }, { V := fun _ v _ => v = (Value.slice p1a p1n p1c) }, { V := fun _ v _ => v = (.int .i64 s2) }, { V := fun _ v _ => ∃ d5_6g : Nat, ∃ d5_6o : Nat, v = (.pointer (some ⟨d5_6g, d5_6o, none⟩)) ∧ EL encSRod (Value.slice p1a p1n p1c) (p1).length s2 d5_6g d5_6o }, { V := fun _ v _ => ∃ d5_6r2 : Nat, v = (.agg #[.int .i64 m8.a, .int .i64 m8.b, .float .f32 d5_6r2]) ∧ cn .f32 d5_6r2 = m8.long }, { V := fun _ v _ => v = (.bool m9) }, { V := fun _ v _ => v = (.bool (!m9)) }] mixed (by kernel_rfl) ⟨trivial, trivial, trivial, trivial, trivial, trivial, trivial, trivial, trivial, trivial, trivial⟩ ⟨?_, ?_, ?_, ?_, ?_, ?_, ?_, ?_, ?_, ?_, trivial⟩ ?_
        · skip
          refine ⟨fun _ _ _ _ _ _ h _ => h, fun _ _ h _ => h, fun σ' w' hA hE hD hP => ?_⟩
          have t0 : σ' 0 = (Value.slice p0a p0n p0c) := (hA 0 rfl).trans i2_S0
          have B0_10 : RS w' encSRod (Value.slice p0a p0n p0c) p0 := B3.frm hE (fun k _ hk => not_oth0)
          refine dg_op rfl (d_mv (v := (Value.slice p0a p0n p0c)) t0 ?_)
          exact ⟨rfl, own_none (Ext.refl w')⟩
        · skip
          refine ⟨fun _ _ _ _ _ _ h _ => h, fun _ _ h _ => h, fun σ' w' hA hE hD hP => ?_⟩
          have t5 : σ' 5 = .int .i64 s2 := (hA 5 rfl).trans i2_S5
          refine dg_op rfl (d_mv (v := .int .i64 s2) t5 ?_)
          exact ⟨rfl, own_none (Ext.refl w')⟩
        · skip
          refine ⟨fun _ _ _ _ _ _ h _ => h, fun _ _ h _ => h, fun σ' w' hA hE hD hP => ?_⟩
          have t17 : σ' 17 = (Value.slice p0a p0n p0c) := hD 0 rfl
          have t18 : σ' 18 = (.int .i64 s2) := hD 1 rfl
          have B0_11 : RS w' encSRod (Value.slice p0a p0n p0c) p0 := B3.frm hE (fun k _ hk => not_oth0)
          refine dg_op rfl (d_indexE (e := encSRod) (v := (Value.slice p0a p0n p0c)) un67 size136 t17 t18 B0_11 hm7 fun g12 o12 l12 => ?_)
          exact ⟨⟨g12, o12, rfl, l12⟩, own_none (Ext.refl _)⟩
        · skip
          refine ⟨fun _ _ _ _ _ _ h _ => h, fun _ _ h _ => h, fun σ' w' hA hE hD hP => ?_⟩
          obtain ⟨d5_2g, d5_2o, t19, d5_2gE⟩ : ∃ d5_2g : Nat, ∃ d5_2o : Nat, σ' 19 = (.pointer (some ⟨d5_2g, d5_2o, none⟩)) ∧ EL encSRod (Value.slice p0a p0n p0c) (p0).length s2 d5_2g d5_2o := hD 2 rfl
          have B0_13 : RS w' encSRod (Value.slice p0a p0n p0c) p0 := B3.frm hE (fun k _ hk => not_oth0)
          obtain ⟨d5_2c, d5_2T, d5_2f, d5_2vs, d5_2hg, d5_2P, d5_2hq⟩ := RS.el B0_13 d5_2gE hm7
          obtain ⟨d5_2r2, rfl, d5_2h2⟩ := dec_encSRod d5_2hq
          refine dg_op rfl (d_loads (vs := #[.int .i64 m7.a, .int .i64 m7.b, .float .f32 d5_2r2]) t19 agg136 size136 d5_2hg (sub_take (vs := #[.int .i64 m7.a, .int .i64 m7.b, .float .f32 d5_2r2]) (us := #[.int .i64 m7.a, .int .i64 m7.b, .float .f32 d5_2r2]) (i := 0) d5_2P rfl (Nat.le_of_ble_eq_true rfl)) ?_)
          exact ⟨⟨d5_2r2, rfl, d5_2h2⟩, own_none (Ext.refl w')⟩
        · skip
          refine ⟨fun _ _ _ _ _ _ h _ => h, fun _ _ h _ => h, fun σ' w' hA hE hD hP => ?_⟩
          have t1 : σ' 1 = (Value.slice p1a p1n p1c) := (hA 1 rfl).trans i2_S1
          have B0_14 : RS w' encSRod (Value.slice p1a p1n p1c) p1 := B6.frm hE (fun k _ hk => not_oth0)
          refine dg_op rfl (d_mv (v := (Value.slice p1a p1n p1c)) t1 ?_)
          exact ⟨rfl, own_none (Ext.refl w')⟩
        · skip
          refine ⟨fun _ _ _ _ _ _ h _ => h, fun _ _ h _ => h, fun σ' w' hA hE hD hP => ?_⟩
          have t5 : σ' 5 = .int .i64 s2 := (hA 5 rfl).trans i2_S5
          refine dg_op rfl (d_mv (v := .int .i64 s2) t5 ?_)
          exact ⟨rfl, own_none (Ext.refl w')⟩
        · skip
          refine ⟨fun _ _ _ _ _ _ h _ => h, fun _ _ h _ => h, fun σ' w' hA hE hD hP => ?_⟩
          have t21 : σ' 21 = (Value.slice p1a p1n p1c) := hD 4 rfl
          have t22 : σ' 22 = (.int .i64 s2) := hD 5 rfl
          have B0_15 : RS w' encSRod (Value.slice p1a p1n p1c) p1 := B6.frm hE (fun k _ hk => not_oth0)
          refine dg_op rfl (d_indexE (e := encSRod) (v := (Value.slice p1a p1n p1c)) un67 size136 t21 t22 B0_15 hm8 fun g16 o16 l16 => ?_)
          exact ⟨⟨g16, o16, rfl, l16⟩, own_none (Ext.refl _)⟩
        · skip
          refine ⟨fun _ _ _ _ _ _ h _ => h, fun _ _ h _ => h, fun σ' w' hA hE hD hP => ?_⟩
          obtain ⟨d5_6g, d5_6o, t23, d5_6gE⟩ : ∃ d5_6g : Nat, ∃ d5_6o : Nat, σ' 23 = (.pointer (some ⟨d5_6g, d5_6o, none⟩)) ∧ EL encSRod (Value.slice p1a p1n p1c) (p1).length s2 d5_6g d5_6o := hD 6 rfl
          have B0_17 : RS w' encSRod (Value.slice p1a p1n p1c) p1 := B6.frm hE (fun k _ hk => not_oth0)
          obtain ⟨d5_6c, d5_6T, d5_6f, d5_6vs, d5_6hg, d5_6P, d5_6hq⟩ := RS.el B0_17 d5_6gE hm8
          obtain ⟨d5_6r2, rfl, d5_6h2⟩ := dec_encSRod d5_6hq
          refine dg_op rfl (d_loads (vs := #[.int .i64 m8.a, .int .i64 m8.b, .float .f32 d5_6r2]) t23 agg136 size136 d5_6hg (sub_take (vs := #[.int .i64 m8.a, .int .i64 m8.b, .float .f32 d5_6r2]) (us := #[.int .i64 m8.a, .int .i64 m8.b, .float .f32 d5_6r2]) (i := 0) d5_6P rfl (Nat.le_of_ble_eq_true rfl)) ?_)
          exact ⟨⟨d5_6r2, rfl, d5_6h2⟩, own_none (Ext.refl w')⟩
        · skip
          refine ⟨fun _ _ _ _ _ _ h _ => h, fun _ _ h _ => h, fun σ' w' hA hE hD hP => ?_⟩
          obtain ⟨d5_2r2, t20, d5_2h2⟩ : ∃ d5_2r2 : Nat, σ' 20 = (.agg #[.int .i64 m7.a, .int .i64 m7.b, .float .f32 d5_2r2]) ∧ cn .f32 d5_2r2 = m7.long := hD 3 rfl
          obtain ⟨d5_6r2, t24, d5_6h2⟩ : ∃ d5_6r2 : Nat, σ' 24 = (.agg #[.int .i64 m8.a, .int .i64 m8.b, .float .f32 d5_6r2]) ∧ cn .f32 d5_6r2 = m8.long := hD 7 rfl
          refine dg_op rfl (d_cl (vs := [.agg #[.int .i64 m7.a, .int .i64 m7.b, .float .f32 d5_2r2], .agg #[.int .i64 m8.a, .int .i64 m8.b, .float .f32 d5_6r2]]) en149 (ac t20 (ac t24 rfl)) rfl ?_)
          refine (c149 m7 m8 d5_2r2 d5_6r2 m9 w' hm9 d5_2h2 d5_6h2).mono ?_
          rintro _ w18 ⟨rfl, E18⟩
          refine ⟨_, rfl, ?_⟩
          have X19 : Ext w' w18 := (Ext.refl w').trans E18
          exact ⟨rfl, own_none X19⟩
        · skip
          refine ⟨fun _ _ _ _ _ _ h _ => h, fun _ _ h _ => h, fun σ' w' hA hE hD hP => ?_⟩
          have t25 : σ' 25 = (.bool m9) := hD 8 rfl
          refine dg_op rfl (d_not t25 ?_)
          exact ⟨rfl, own_none (Ext.refl w')⟩
        · skip
          intro σ5 w5 A5 E5 V5
          have E5x : Ext wl2 w5 := ext_of_oth0 E5
          have s26_5 : σ5 26 = (.bool (!m9)) := V5 9 (Nat.le_of_ble_eq_true rfl)
          have s5_5 : σ5 5 = .int .i64 s2 := (A5 5 rfl).trans i2_S5
          have s0_5 : σ5 0 = (Value.slice p0a p0n p0c) := (A5 0 rfl).trans i2_S0
          have s1_5 : σ5 1 = (Value.slice p1a p1n p1c) := (A5 1 rfl).trans i2_S1
          have X20 : Ext w w5 := i2_X.trans E5x
          refine W_cond (b := (!m9)) s26_5 (fun hc21 => ?_) (fun hc21 => ?_)
          · skip
            replace hr := bif_t hr hc21
            refine W_seq ?_
            refine W_region rfl ?_
            refine da_op rfl (d_as (v := .bool false) rfl ?_)
            refine da_nil ?_
            refine W_ret ?_
            obtain rfl := Option.some.inj hr
            exact ⟨_, rfl, rfl, rfl, X20⟩
          · skip
            replace hr := bif_f hr hc21
            refine W_skip ?_
            refine W_region rfl ?_
            refine da_op rfl (d_mv (v := .int .i64 s2) s5_5 ?_)
            refine da_op rfl (d_iarith rfl rfl (.inl ⟨rfl, rfl⟩) ?_)
            refine da_op rfl (d_as (v := .int .i64 (IntKind.i64.wrap (s2 + 1))) rfl ?_)
            refine da_nil ?_
            obtain rfl := Option.some.inj hr
            exact ⟨_, rfl, ⟨rfl, s0_5, s1_5, X20⟩⟩
      · skip
        replace hr := bif_f hr hc4
        refine W_exit ?_
        obtain rfl := Option.some.inj hr
        exact ⟨_, rfl, rfl, i2_X⟩
    · skip
      intro ex σx2 wx2 hq
      rcases m2 with m2 | m2
      · skip
        obtain ⟨rfl, q2_0_X⟩ := hq
        refine W_seq ?_
        refine W_region rfl ?_
        refine da_op rfl (d_as (v := .bool true) rfl ?_)
        refine da_nil ?_
        refine W_ret ?_
        obtain rfl := Option.some.inj hr
        refine ⟨_, res1 (rv_tmp rfl), ?_⟩
        exact ⟨rfl, q2_0_X⟩
      · skip
        obtain ⟨rfl, q2_1_S4, q2_1_X⟩ := hq
        obtain rfl := Option.some.inj hr
        refine ⟨_, res1 (rv_tmp q2_1_S4), ?_⟩
        exact ⟨rfl, q2_1_X⟩
set_option maxHeartbeats 4000000 in
theorem c38 (p0 : SChain) (p1 : SChain) (p0v0a : Option Addr) (p0v0n : Nat) (p0v0c : Nat) (p0v1a : Option Addr) (p0v1n : Nat) (p0v1c : Nat) (p0v2a : Option Addr) (p0v2n : Nat) (p0v2c : Nat) (p0v3a : Option Addr) (p0v3n : Nat) (p0v3c : Nat) (p1v0a : Option Addr) (p1v0n : Nat) (p1v0c : Nat) (p1v1a : Option Addr) (p1v1n : Nat) (p1v1c : Nat) (p1v2a : Option Addr) (p1v2n : Nat) (p1v2c : Nat) (p1v3a : Option Addr) (p1v3n : Nat) (p1v3c : Nat) (r : Bool) (w : World) (hr : M.laws_eqChain p0 p1 = some r) (p0v0R : RS w encSVector (Value.slice p0v0a p0v0n p0v0c) p0.places) (p0v1R : RS w encSVector (Value.slice p0v1a p0v1n p0v1c) p0.before) (p0v2R : RS w encF_f32 (Value.slice p0v2a p0v2n p0v2c) p0.weights) (p0v3R : RS w encSRod (Value.slice p0v3a p0v3n p0v3c) p0.rods) (p1v0R : RS w encSVector (Value.slice p1v0a p1v0n p1v0c) p1.places) (p1v1R : RS w encSVector (Value.slice p1v1a p1v1n p1v1c) p1.before) (p1v2R : RS w encF_f32 (Value.slice p1v2a p1v2n p1v2c) p1.weights) (p1v3R : RS w encSRod (Value.slice p1v3a p1v3n p1v3c) p1.rods) :
    Calls Tryd.prog 38 #[.agg #[(Value.slice p0v0a p0v0n p0v0c), (Value.slice p0v1a p0v1n p0v1c), (Value.slice p0v2a p0v2n p0v2c), (Value.slice p0v3a p0v3n p0v3c)], .agg #[(Value.slice p1v0a p1v0n p1v0c), (Value.slice p1v1a p1v1n p1v1c), (Value.slice p1v2a p1v2n p1v2c), (Value.slice p1v3a p1v3n p1v3c)]] w fun e w' => e = .returned (.bool r) ∧ Ext w w' := by
  refine calls_of_W Tryd.func38 rfl (Nat.le_of_ble_eq_true rfl) ?_
  refine W_seq ?_
  refine W_region rfl ?_
  refine da_op rfl (d_box (cs := #[(Value.slice p0v0a p0v0n p0v0c), (Value.slice p0v1a p0v1n p0v1c), (Value.slice p0v2a p0v2n p0v2c), (Value.slice p0v3a p0v3n p0v3c)]) rfl fun w1 B1 E1 => ?_)
  have own2 : w.heap.size ≤ w.heap.size := Nat.le_trans (Ext.refl w).size (Nat.le_refl _)
  have X3 : Ext w w1 := (Ext.refl w).trans E1
  refine da_op rfl (d_box (cs := #[(Value.slice p1v0a p1v0n p1v0c), (Value.slice p1v1a p1v1n p1v1c), (Value.slice p1v2a p1v2n p1v2c), (Value.slice p1v3a p1v3n p1v3c)]) rfl fun w4 B4 E4 => ?_)
  have own5 : w.heap.size ≤ w1.heap.size := Nat.le_trans X3.size (Nat.le_refl _)
  have sp6 : w.heap.size ≠ w1.heap.size := Nat.ne_of_lt (Nat.lt_of_lt_of_le (lt_heap B1) (Nat.le_refl _))
  have X7 : Ext w w4 := X3.trans E4
  refine da_op rfl (d_as (v := .bool false) rfl ?_)
  refine da_nil ?_
  refine W_seq ?_
  refine W_seq ?_
  refine W_region rfl ?_
  refine da_op rfl (d_fieldAddr rfl (fa69_0 _ _) ?_)
  have B8 : w4.heap[w.heap.size]? = some (.cells #[(Value.slice p0v0a p0v0n p0v0c), (Value.slice p0v1a p0v1n p0v1c), (Value.slice p0v2a p0v2n p0v2c), (Value.slice p0v3a p0v3n p0v3c)] 69 (0, 0)) := E4.heap B1
  refine da_op rfl (d_load (v := (Value.slice p0v0a p0v0n p0v0c)) rfl agg66 B8 rfl ?_)
  refine da_op rfl (d_fieldAddr rfl (fa69_0 _ _) ?_)
  refine da_op rfl (d_load (v := (Value.slice p1v0a p1v0n p1v0c)) rfl agg66 B4 rfl ?_)
  obtain ⟨m9, hm9, hr⟩ := bind_out hr
  have B10 : RS w4 encSVector (Value.slice p0v0a p0v0n p0v0c) p0.places := p0v0R.ext X7
  have B11 : RS w4 encSVector (Value.slice p1v0a p1v0n p1v0c) p1.places := p1v0R.ext X7
  refine da_op rfl (d_cl (vs := [(Value.slice p0v0a p0v0n p0v0c), (Value.slice p1v0a p1v0n p1v0c)]) en93 (ac rfl (ac rfl rfl)) rfl ?_)
  refine (c93 p0.places p1.places p0v0a p0v0n p0v0c p1v0a p1v0n p1v0c m9 w4 hm9 B10 B11).mono ?_
  rintro _ w12 ⟨rfl, E12⟩
  refine ⟨_, rfl, ?_⟩
  have X13 : Ext w w12 := X7.trans E12
  refine da_op rfl (d_not rfl ?_)
  refine da_nil ?_
  refine W_cond (b := (!m9)) rfl (fun hc14 => ?_) (fun hc14 => ?_)
  · skip
    replace hr := bif_t hr hc14
    refine W_seq ?_
    refine W_region rfl ?_
    refine da_op rfl (d_as (v := .bool false) rfl ?_)
    refine da_nil ?_
    refine W_ret ?_
    obtain rfl := Option.some.inj hr
    refine ⟨_, res1 (rv_tmp rfl), ?_⟩
    exact ⟨rfl, X13⟩
  · skip
    replace hr := bif_f hr hc14
    refine W_skip ?_
    refine W_seq ?_
    refine W_seq ?_
    refine W_region rfl ?_
    refine da_op rfl (d_fieldAddr rfl (fa69_1 _ _) ?_)
    have B15 : w12.heap[w.heap.size]? = some (.cells #[(Value.slice p0v0a p0v0n p0v0c), (Value.slice p0v1a p0v1n p0v1c), (Value.slice p0v2a p0v2n p0v2c), (Value.slice p0v3a p0v3n p0v3c)] 69 (0, 0)) := E12.heap B8
    refine da_op rfl (d_load (v := (Value.slice p0v1a p0v1n p0v1c)) rfl agg66 B15 rfl ?_)
    refine da_op rfl (d_fieldAddr rfl (fa69_1 _ _) ?_)
    have B16 : w12.heap[w1.heap.size]? = some (.cells #[(Value.slice p1v0a p1v0n p1v0c), (Value.slice p1v1a p1v1n p1v1c), (Value.slice p1v2a p1v2n p1v2c), (Value.slice p1v3a p1v3n p1v3c)] 69 (0, 0)) := E12.heap B4
    refine da_op rfl (d_load (v := (Value.slice p1v1a p1v1n p1v1c)) rfl agg66 B16 rfl ?_)
    obtain ⟨m17, hm17, hr⟩ := bind_out hr
    have B18 : RS w12 encSVector (Value.slice p0v1a p0v1n p0v1c) p0.before := p0v1R.ext X13
    have B19 : RS w12 encSVector (Value.slice p1v1a p1v1n p1v1c) p1.before := p1v1R.ext X13
    refine da_op rfl (d_cl (vs := [(Value.slice p0v1a p0v1n p0v1c), (Value.slice p1v1a p1v1n p1v1c)]) en93 (ac rfl (ac rfl rfl)) rfl ?_)
    refine (c93 p0.before p1.before p0v1a p0v1n p0v1c p1v1a p1v1n p1v1c m17 w12 hm17 B18 B19).mono ?_
    rintro _ w20 ⟨rfl, E20⟩
    refine ⟨_, rfl, ?_⟩
    have X21 : Ext w w20 := X13.trans E20
    refine da_op rfl (d_not rfl ?_)
    refine da_nil ?_
    refine W_cond (b := (!m17)) rfl (fun hc22 => ?_) (fun hc22 => ?_)
    · skip
      replace hr := bif_t hr hc22
      refine W_seq ?_
      refine W_region rfl ?_
      refine da_op rfl (d_as (v := .bool false) rfl ?_)
      refine da_nil ?_
      refine W_ret ?_
      obtain rfl := Option.some.inj hr
      refine ⟨_, res1 (rv_tmp rfl), ?_⟩
      exact ⟨rfl, X21⟩
    · skip
      replace hr := bif_f hr hc22
      refine W_skip ?_
      refine W_seq ?_
      refine W_seq ?_
      refine W_region rfl ?_
      refine da_op rfl (d_fieldAddr rfl (fa69_2 _ _) ?_)
      have B23 : w20.heap[w.heap.size]? = some (.cells #[(Value.slice p0v0a p0v0n p0v0c), (Value.slice p0v1a p0v1n p0v1c), (Value.slice p0v2a p0v2n p0v2c), (Value.slice p0v3a p0v3n p0v3c)] 69 (0, 0)) := E20.heap B15
      refine da_op rfl (d_load (v := (Value.slice p0v2a p0v2n p0v2c)) rfl agg53 B23 rfl ?_)
      refine da_op rfl (d_fieldAddr rfl (fa69_2 _ _) ?_)
      have B24 : w20.heap[w1.heap.size]? = some (.cells #[(Value.slice p1v0a p1v0n p1v0c), (Value.slice p1v1a p1v1n p1v1c), (Value.slice p1v2a p1v2n p1v2c), (Value.slice p1v3a p1v3n p1v3c)] 69 (0, 0)) := E20.heap B16
      refine da_op rfl (d_load (v := (Value.slice p1v2a p1v2n p1v2c)) rfl agg53 B24 rfl ?_)
      obtain ⟨m25, hm25, hr⟩ := bind_out hr
      have B26 : RS w20 encF_f32 (Value.slice p0v2a p0v2n p0v2c) p0.weights := p0v2R.ext X21
      have B27 : RS w20 encF_f32 (Value.slice p1v2a p1v2n p1v2c) p1.weights := p1v2R.ext X21
      refine da_op rfl (d_cl (vs := [(Value.slice p0v2a p0v2n p0v2c), (Value.slice p1v2a p1v2n p1v2c)]) en75 (ac rfl (ac rfl rfl)) rfl ?_)
      refine (c75 p0.weights p1.weights p0v2a p0v2n p0v2c p1v2a p1v2n p1v2c m25 w20 hm25 B26 B27).mono ?_
      rintro _ w28 ⟨rfl, E28⟩
      refine ⟨_, rfl, ?_⟩
      have X29 : Ext w w28 := X21.trans E28
      refine da_op rfl (d_not rfl ?_)
      refine da_nil ?_
      refine W_cond (b := (!m25)) rfl (fun hc30 => ?_) (fun hc30 => ?_)
      · skip
        replace hr := bif_t hr hc30
        refine W_seq ?_
        refine W_region rfl ?_
        refine da_op rfl (d_as (v := .bool false) rfl ?_)
        refine da_nil ?_
        refine W_ret ?_
        obtain rfl := Option.some.inj hr
        refine ⟨_, res1 (rv_tmp rfl), ?_⟩
        exact ⟨rfl, X29⟩
      · skip
        replace hr := bif_f hr hc30
        refine W_skip ?_
        refine W_seq ?_
        refine W_seq ?_
        refine W_region rfl ?_
        refine da_op rfl (d_fieldAddr rfl (fa69_3 _ _) ?_)
        have B31 : w28.heap[w.heap.size]? = some (.cells #[(Value.slice p0v0a p0v0n p0v0c), (Value.slice p0v1a p0v1n p0v1c), (Value.slice p0v2a p0v2n p0v2c), (Value.slice p0v3a p0v3n p0v3c)] 69 (0, 0)) := E28.heap B23
        refine da_op rfl (d_load (v := (Value.slice p0v3a p0v3n p0v3c)) rfl agg67 B31 rfl ?_)
        refine da_op rfl (d_fieldAddr rfl (fa69_3 _ _) ?_)
        have B32 : w28.heap[w1.heap.size]? = some (.cells #[(Value.slice p1v0a p1v0n p1v0c), (Value.slice p1v1a p1v1n p1v1c), (Value.slice p1v2a p1v2n p1v2c), (Value.slice p1v3a p1v3n p1v3c)] 69 (0, 0)) := E28.heap B24
        refine da_op rfl (d_load (v := (Value.slice p1v3a p1v3n p1v3c)) rfl agg67 B32 rfl ?_)
        obtain ⟨m33, hm33, hr⟩ := bind_out hr
        have B34 : RS w28 encSRod (Value.slice p0v3a p0v3n p0v3c) p0.rods := p0v3R.ext X29
        have B35 : RS w28 encSRod (Value.slice p1v3a p1v3n p1v3c) p1.rods := p1v3R.ext X29
        refine da_op rfl (d_cl (vs := [(Value.slice p0v3a p0v3n p0v3c), (Value.slice p1v3a p1v3n p1v3c)]) en94 (ac rfl (ac rfl rfl)) rfl ?_)
        refine (c94 p0.rods p1.rods p0v3a p0v3n p0v3c p1v3a p1v3n p1v3c m33 w28 hm33 B34 B35).mono ?_
        rintro _ w36 ⟨rfl, E36⟩
        refine ⟨_, rfl, ?_⟩
        have X37 : Ext w w36 := X29.trans E36
        refine da_op rfl (d_not rfl ?_)
        refine da_nil ?_
        refine W_cond (b := (!m33)) rfl (fun hc38 => ?_) (fun hc38 => ?_)
        · skip
          replace hr := bif_t hr hc38
          refine W_seq ?_
          refine W_region rfl ?_
          refine da_op rfl (d_as (v := .bool false) rfl ?_)
          refine da_nil ?_
          refine W_ret ?_
          obtain rfl := Option.some.inj hr
          refine ⟨_, res1 (rv_tmp rfl), ?_⟩
          exact ⟨rfl, X37⟩
        · skip
          replace hr := bif_f hr hc38
          refine W_skip ?_
          refine W_seq ?_
          refine W_region rfl ?_
          refine da_op rfl (d_as (v := .bool true) rfl ?_)
          refine da_nil ?_
          refine W_ret ?_
          obtain rfl := Option.some.inj hr
          refine ⟨_, res1 (rv_tmp rfl), ?_⟩
          exact ⟨rfl, X37⟩
set_option maxHeartbeats 4000000 in
theorem c9 (p0 : SChain) (p0v0a : Option Addr) (p0v0n : Nat) (p0v0c : Nat) (p0v1a : Option Addr) (p0v1n : Nat) (p0v1c : Nat) (p0v2a : Option Addr) (p0v2n : Nat) (p0v2c : Nat) (p0v3a : Option Addr) (p0v3n : Nat) (p0v3c : Nat) (r : Bool) (w : World) (hr : M.laws_FnExactChainText p0 = some r) (p0v0R : RS w encSVector (Value.slice p0v0a p0v0n p0v0c) p0.places) (p0v1R : RS w encSVector (Value.slice p0v1a p0v1n p0v1c) p0.before) (p0v2R : RS w encF_f32 (Value.slice p0v2a p0v2n p0v2c) p0.weights) (p0v3R : RS w encSRod (Value.slice p0v3a p0v3n p0v3c) p0.rods) (t_T10 : T10 Tryd.prog w) :
    Calls Tryd.prog 9 #[.agg #[(Value.slice p0v0a p0v0n p0v0c), (Value.slice p0v1a p0v1n p0v1c), (Value.slice p0v2a p0v2n p0v2c), (Value.slice p0v3a p0v3n p0v3c)]] w fun e w' => e = .returned (.bool r) ∧ Ext w w' := by
  refine calls_of_W Tryd.func9 rfl (Nat.le_of_ble_eq_true rfl) ?_
  refine W_seq ?_
  refine W_region rfl ?_
  refine da_op rfl (d_box (cs := #[(Value.slice p0v0a p0v0n p0v0c), (Value.slice p0v1a p0v1n p0v1c), (Value.slice p0v2a p0v2n p0v2c), (Value.slice p0v3a p0v3n p0v3c)]) rfl fun w1 B1 E1 => ?_)
  have own2 : w.heap.size ≤ w.heap.size := Nat.le_trans (Ext.refl w).size (Nat.le_refl _)
  have X3 : Ext w w1 := (Ext.refl w).trans E1
  refine da_op rfl (d_as (v := .bool false) rfl ?_)
  refine da_nil ?_
  refine W_seq ?_
  refine W_region rfl ?_
  refine da_op rfl (d_as (v := .int .i64 1048576) rfl ?_)
  refine da_nil ?_
  refine W_seq ?_
  refine W_region rfl ?_
  refine da_op rfl (d_loads (vs := #[(Value.slice p0v0a p0v0n p0v0c), (Value.slice p0v1a p0v1n p0v1c), (Value.slice p0v2a p0v2n p0v2c), (Value.slice p0v3a p0v3n p0v3c)]) rfl agg63 size63 B1 rfl ?_)
  refine da_op rfl (d_mv (v := .int .i64 1048576) rfl ?_)
  obtain ⟨m4, hm4, hr⟩ := letv_out hr
  have B5 : RS w1 encSVector (Value.slice p0v0a p0v0n p0v0c) p0.places := p0v0R.ext X3
  have B6 : RS w1 encSVector (Value.slice p0v1a p0v1n p0v1c) p0.before := p0v1R.ext X3
  have B7 : RS w1 encF_f32 (Value.slice p0v2a p0v2n p0v2c) p0.weights := p0v2R.ext X3
  have B8 : RS w1 encSRod (Value.slice p0v3a p0v3n p0v3c) p0.rods := p0v3R.ext X3
  refine da_op rfl (d_cl (vs := [.agg #[(Value.slice p0v0a p0v0n p0v0c), (Value.slice p0v1a p0v1n p0v1c), (Value.slice p0v2a p0v2n p0v2c), (Value.slice p0v3a p0v3n p0v3c)], .int .i64 1048576]) en34 (ac rfl (ac rfl rfl)) rfl ?_)
  refine (c34 p0 1048576 p0v0a p0v0n p0v0c p0v1a p0v1n p0v1c p0v2a p0v2n p0v2c p0v3a p0v3n p0v3c m4 w1 hm4 B5 B6 B7 B8).mono ?_
  rintro _ w9 ⟨rfl, E9⟩
  refine ⟨_, rfl, ?_⟩
  have X10 : Ext w w9 := X3.trans E9
  refine da_op rfl (d_as (v := .int .i64 m4) rfl ?_)
  refine da_nil ?_
  refine W_seq ?_
  refine W_seq ?_
  refine W_region rfl ?_
  refine da_op rfl (d_mv (v := .int .i64 m4) rfl ?_)
  refine da_op rfl (d_icmp cLss rfl rfl ?_)
  refine da_nil ?_
  refine W_cond (b := (icmp .lss m4 0)) rfl (fun hc11 => ?_) (fun hc11 => ?_)
  · skip
    replace hr := bif_t hr hc11
    refine W_seq ?_
    refine W_region rfl ?_
    refine da_op rfl (d_as (v := .bool true) rfl ?_)
    refine da_nil ?_
    refine W_ret ?_
    obtain rfl := Option.some.inj hr
    refine ⟨_, res1 (rv_tmp rfl), ?_⟩
    exact ⟨rfl, X10⟩
  · skip
    replace hr := bif_f hr hc11
    refine W_skip ?_
    refine W_seq ?_
    refine W_region rfl ?_
    have B12 : w9.heap[w.heap.size]? = some (.cells #[(Value.slice p0v0a p0v0n p0v0c), (Value.slice p0v1a p0v1n p0v1c), (Value.slice p0v2a p0v2n p0v2c), (Value.slice p0v3a p0v3n p0v3c)] 63 (0, 0)) := E9.heap B1
    refine da_op rfl (d_loads (vs := #[(Value.slice p0v0a p0v0n p0v0c), (Value.slice p0v1a p0v1n p0v1c), (Value.slice p0v2a p0v2n p0v2c), (Value.slice p0v3a p0v3n p0v3c)]) rfl agg63 size63 B12 rfl ?_)
    obtain ⟨m13, hm13, hr⟩ := bind_out hr
    have B14 : RS w9 encSVector (Value.slice p0v0a p0v0n p0v0c) p0.places := p0v0R.ext X10
    have B15 : RS w9 encSVector (Value.slice p0v1a p0v1n p0v1c) p0.before := p0v1R.ext X10
    have B16 : RS w9 encF_f32 (Value.slice p0v2a p0v2n p0v2c) p0.weights := p0v2R.ext X10
    have B17 : RS w9 encSRod (Value.slice p0v3a p0v3n p0v3c) p0.rods := p0v3R.ext X10
    refine da_op rfl (d_cl (vs := [.agg #[(Value.slice p0v0a p0v0n p0v0c), (Value.slice p0v1a p0v1n p0v1c), (Value.slice p0v2a p0v2n p0v2c), (Value.slice p0v3a p0v3n p0v3c)]]) en36 (ac rfl rfl) rfl ?_)
    refine (c36 p0 p0v0a p0v0n p0v0c p0v1a p0v1n p0v1c p0v2a p0v2n p0v2c p0v3a p0v3n p0v3c m13 w9 hm13 B14 B15 B16 B17).mono ?_
    rintro _ w18 ⟨q18_0v0a, q18_0v0n, q18_0v0c, q18_0v1a, q18_0v1n, q18_0v1c, q18_0v2a, q18_0v2n, q18_0v2c, q18_0v3a, q18_0v3n, q18_0v3c, rfl, q18_0v0R, q18_0v0F, q18_0v1R, q18_0v1F, q18_0v2R, q18_0v2F, q18_0v3R, q18_0v3F, q18_A1_0, q18_A2_0, q18_A2_1, q18_A3_0, q18_A3_1, q18_A3_2, E18⟩
    refine ⟨_, rfl, ?_⟩
    have own19 : ∀ k, (Value.slice q18_0v0a q18_0v0n q18_0v0c).ownBlock = some k → w.heap.size ≤ k := fun k hk => Nat.le_trans X10.size (q18_0v0F k hk)
    have sp20 : ¬ (Value.slice q18_0v0a q18_0v0n q18_0v0c).ownBlock = some w.heap.size := ne_fresh q18_0v0F (lt_heap B12)
    have own21 : ∀ k, (Value.slice q18_0v1a q18_0v1n q18_0v1c).ownBlock = some k → w.heap.size ≤ k := fun k hk => Nat.le_trans X10.size (q18_0v1F k hk)
    have sp22 : ¬ (Value.slice q18_0v1a q18_0v1n q18_0v1c).ownBlock = some w.heap.size := ne_fresh q18_0v1F (lt_heap B12)
    have own23 : ∀ k, (Value.slice q18_0v2a q18_0v2n q18_0v2c).ownBlock = some k → w.heap.size ≤ k := fun k hk => Nat.le_trans X10.size (q18_0v2F k hk)
    have sp24 : ¬ (Value.slice q18_0v2a q18_0v2n q18_0v2c).ownBlock = some w.heap.size := ne_fresh q18_0v2F (lt_heap B12)
    have own25 : ∀ k, (Value.slice q18_0v3a q18_0v3n q18_0v3c).ownBlock = some k → w.heap.size ≤ k := fun k hk => Nat.le_trans X10.size (q18_0v3F k hk)
    have sp26 : ¬ (Value.slice q18_0v3a q18_0v3n q18_0v3c).ownBlock = some w.heap.size := ne_fresh q18_0v3F (lt_heap B12)
    have X27 : Ext w w18 := X10.trans E18
    obtain ⟨m28, hm28, hr⟩ := bind_out hr
    have B29 : w18.heap[w.heap.size]? = some (.cells #[(Value.slice p0v0a p0v0n p0v0c), (Value.slice p0v1a p0v1n p0v1c), (Value.slice p0v2a p0v2n p0v2c), (Value.slice p0v3a p0v3n p0v3c)] 63 (0, 0)) := E18.heap B12
    refine da_op rfl (d_cl (vs := [.agg #[(Value.slice q18_0v0a q18_0v0n q18_0v0c), (Value.slice q18_0v1a q18_0v1n q18_0v1c), (Value.slice q18_0v2a q18_0v2n q18_0v2c), (Value.slice q18_0v3a q18_0v3n q18_0v3c)]]) en35 (ac rfl rfl) rfl ?_)
    refine (c35 m13 q18_0v0a q18_0v0n q18_0v0c q18_0v1a q18_0v1n q18_0v1c q18_0v2a q18_0v2n q18_0v2c q18_0v3a q18_0v3n q18_0v3c m28 w18 hm28 q18_0v0R.rs q18_0v1R.rs q18_0v2R.rs q18_0v3R.rs).mono ?_
    rintro _ w30 ⟨rfl, E30⟩
    refine ⟨_, rfl, ?_⟩
    have X31 : Ext w w30 := X27.trans E30
    refine da_op rfl (d_mv (v := .tuple #[.string (bs m28.1), .bool m28.2]) rfl ?_)
    refine da_op rfl (d_extract (v := .string (bs m28.1)) rfl rfl ?_)
    refine da_op rfl (d_extract (v := .bool m28.2) rfl rfl ?_)
    refine da_op rfl (d_as (v := .string (bs m28.1)) rfl ?_)
    refine da_op rfl (d_as (v := .bool m28.2) rfl ?_)
    refine da_nil ?_
    refine W_seq ?_
    refine W_region rfl ?_
    have B32 : w30.heap[w.heap.size]? = some (.cells #[(Value.slice p0v0a p0v0n p0v0c), (Value.slice p0v1a p0v1n p0v1c), (Value.slice p0v2a p0v2n p0v2c), (Value.slice p0v3a p0v3n p0v3c)] 63 (0, 0)) := E30.heap B29
    refine da_op rfl (d_loads (vs := #[(Value.slice p0v0a p0v0n p0v0c), (Value.slice p0v1a p0v1n p0v1c), (Value.slice p0v2a p0v2n p0v2c), (Value.slice p0v3a p0v3n p0v3c)]) rfl agg63 size63 B32 rfl ?_)
    obtain ⟨m33, hm33, hr⟩ := bind_out hr
    have B34 : RS w30 encSVector (Value.slice p0v0a p0v0n p0v0c) p0.places := p0v0R.ext X31
    have B35 : RS w30 encSVector (Value.slice p0v1a p0v1n p0v1c) p0.before := p0v1R.ext X31
    have B36 : RS w30 encF_f32 (Value.slice p0v2a p0v2n p0v2c) p0.weights := p0v2R.ext X31
    have B37 : RS w30 encSRod (Value.slice p0v3a p0v3n p0v3c) p0.rods := p0v3R.ext X31
    refine da_op rfl (d_cl (vs := [.agg #[(Value.slice p0v0a p0v0n p0v0c), (Value.slice p0v1a p0v1n p0v1c), (Value.slice p0v2a p0v2n p0v2c), (Value.slice p0v3a p0v3n p0v3c)]]) en36 (ac rfl rfl) rfl ?_)
    refine (c36 (⟨p0.places, p0.before, p0.weights, p0.rods⟩ : SChain) p0v0a p0v0n p0v0c p0v1a p0v1n p0v1c p0v2a p0v2n p0v2c p0v3a p0v3n p0v3c m33 w30 hm33 B34 B35 B36 B37).mono ?_
    rintro _ w38 ⟨q38_0v0a, q38_0v0n, q38_0v0c, q38_0v1a, q38_0v1n, q38_0v1c, q38_0v2a, q38_0v2n, q38_0v2c, q38_0v3a, q38_0v3n, q38_0v3c, rfl, q38_0v0R, q38_0v0F, q38_0v1R, q38_0v1F, q38_0v2R, q38_0v2F, q38_0v3R, q38_0v3F, q38_A1_0, q38_A2_0, q38_A2_1, q38_A3_0, q38_A3_1, q38_A3_2, E38⟩
    refine ⟨_, rfl, ?_⟩
    have own39 : ∀ k, (Value.slice q38_0v0a q38_0v0n q38_0v0c).ownBlock = some k → w.heap.size ≤ k := fun k hk => Nat.le_trans X31.size (q38_0v0F k hk)
    have sp40 : ¬ (Value.slice q38_0v0a q38_0v0n q38_0v0c).ownBlock = some w.heap.size := ne_fresh q38_0v0F (lt_heap B32)
    have own41 : ∀ k, (Value.slice q38_0v1a q38_0v1n q38_0v1c).ownBlock = some k → w.heap.size ≤ k := fun k hk => Nat.le_trans X31.size (q38_0v1F k hk)
    have sp42 : ¬ (Value.slice q38_0v1a q38_0v1n q38_0v1c).ownBlock = some w.heap.size := ne_fresh q38_0v1F (lt_heap B32)
    have own43 : ∀ k, (Value.slice q38_0v2a q38_0v2n q38_0v2c).ownBlock = some k → w.heap.size ≤ k := fun k hk => Nat.le_trans X31.size (q38_0v2F k hk)
    have sp44 : ¬ (Value.slice q38_0v2a q38_0v2n q38_0v2c).ownBlock = some w.heap.size := ne_fresh q38_0v2F (lt_heap B32)
    have own45 : ∀ k, (Value.slice q38_0v3a q38_0v3n q38_0v3c).ownBlock = some k → w.heap.size ≤ k := fun k hk => Nat.le_trans X31.size (q38_0v3F k hk)
    have sp46 : ¬ (Value.slice q38_0v3a q38_0v3n q38_0v3c).ownBlock = some w.heap.size := ne_fresh q38_0v3F (lt_heap B32)
    have X47 : Ext w w38 := X31.trans E38
    have B49 : w38.heap[w.heap.size]? = some (.cells #[(Value.slice p0v0a p0v0n p0v0c), (Value.slice p0v1a p0v1n p0v1c), (Value.slice p0v2a p0v2n p0v2c), (Value.slice p0v3a p0v3n p0v3c)] 63 (0, 0)) := E38.heap B32
    refine da_op rfl (d_alloc (cs := #[.slice none 0 0, .slice none 0 0, .slice none 0 0, .slice none 0 0]) zero69 rfl fun w48 B48 E48 => ?_)
    have own50 : w.heap.size ≤ w38.heap.size := Nat.le_trans X47.size (Nat.le_refl _)
    have sp51 : w.heap.size ≠ w38.heap.size := Nat.ne_of_lt (Nat.lt_of_lt_of_le (lt_heap B49) (Nat.le_refl _))
    have sp52 : ¬ (Value.slice q38_0v0a q38_0v0n q38_0v0c).ownBlock = some w38.heap.size := OS.ne_new q38_0v0R (Nat.le_refl _)
    have sp53 : ¬ (Value.slice q38_0v1a q38_0v1n q38_0v1c).ownBlock = some w38.heap.size := OS.ne_new q38_0v1R (Nat.le_refl _)
    have sp54 : ¬ (Value.slice q38_0v2a q38_0v2n q38_0v2c).ownBlock = some w38.heap.size := OS.ne_new q38_0v2R (Nat.le_refl _)
    have sp55 : ¬ (Value.slice q38_0v3a q38_0v3n q38_0v3c).ownBlock = some w38.heap.size := OS.ne_new q38_0v3R (Nat.le_refl _)
    have X56 : Ext w w48 := X47.trans E48
    refine da_op rfl (d_store (vs := #[(Value.slice q38_0v0a q38_0v0n q38_0v0c), (Value.slice q38_0v1a q38_0v1n q38_0v1c), (Value.slice q38_0v2a q38_0v2n q38_0v2c), (Value.slice q38_0v3a q38_0v3n q38_0v3c)]) rfl rfl B48 size69 (Nat.le_of_ble_eq_true rfl) rfl fun w57 S57 => ?_)
    have X58 : Ext w w57 := Ext.step X56 S57.frmb (fun k _ hk => hk ▸ own50)
    have B59 : w57.heap[w38.heap.size]? = some (.cells #[(Value.slice q38_0v0a q38_0v0n q38_0v0c), (Value.slice q38_0v1a q38_0v1n q38_0v1c), (Value.slice q38_0v2a q38_0v2n q38_0v2c), (Value.slice q38_0v3a q38_0v3n q38_0v3c)] 69 (0, 0)) := S57.here
    refine da_nil ?_
    refine W_seq ?_
    refine W_region rfl ?_
    refine da_op rfl (d_loads (vs := #[(Value.slice q38_0v0a q38_0v0n q38_0v0c), (Value.slice q38_0v1a q38_0v1n q38_0v1c), (Value.slice q38_0v2a q38_0v2n q38_0v2c), (Value.slice q38_0v3a q38_0v3n q38_0v3c)]) rfl agg69 size69 B59 rfl ?_)
    obtain ⟨m60, hm60, hr⟩ := bind_out hr
    have B61 : OS w57 44 encSVector (Value.slice q38_0v0a q38_0v0n q38_0v0c) m33.places := (q38_0v0R.ext E48).frm S57.frmb (rb sp52)
    have B62 : OS w57 44 encSVector (Value.slice q38_0v1a q38_0v1n q38_0v1c) m33.before := (q38_0v1R.ext E48).frm S57.frmb (rb sp53)
    have B63 : OS w57 22 encF_f32 (Value.slice q38_0v2a q38_0v2n q38_0v2c) m33.weights := (q38_0v2R.ext E48).frm S57.frmb (rb sp54)
    have B64 : OS w57 136 encSRod (Value.slice q38_0v3a q38_0v3n q38_0v3c) m33.rods := (q38_0v3R.ext E48).frm S57.frmb (rb sp55)
    have B65 : w57.heap[w.heap.size]? = some (.cells #[(Value.slice p0v0a p0v0n p0v0c), (Value.slice p0v1a p0v1n p0v1c), (Value.slice p0v2a p0v2n p0v2c), (Value.slice p0v3a p0v3n p0v3c)] 63 (0, 0)) := S57.frmb.heap sp51 (E48.heap B49)
    refine da_op rfl (d_cl (vs := [.agg #[(Value.slice q38_0v0a q38_0v0n q38_0v0c), (Value.slice q38_0v1a q38_0v1n q38_0v1c), (Value.slice q38_0v2a q38_0v2n q38_0v2c), (Value.slice q38_0v3a q38_0v3n q38_0v3c)]]) en37 (ac rfl rfl) rfl ?_)
    refine (c37 (⟨m33.places, m33.before, m33.weights, m33.rods⟩ : SChain) q38_0v0a q38_0v0n q38_0v0c q38_0v1a q38_0v1n q38_0v1c q38_0v2a q38_0v2n q38_0v2c q38_0v3a q38_0v3n q38_0v3c m60 w57 hm60 B61.rs B62.rs B63.rs B64.rs (t_T10.ext X58)).mono ?_
    rintro _ w66 ⟨rfl, E66⟩
    refine ⟨_, rfl, ?_⟩
    have X67 : Ext w w66 := X58.trans E66
    refine da_op rfl (d_mv (v := .tuple #[.string (bs m60.1), .bool m60.2]) rfl ?_)
    refine da_op rfl (d_extract (v := .string (bs m60.1)) rfl rfl ?_)
    refine da_op rfl (d_extract (v := .bool m60.2) rfl rfl ?_)
    refine da_op rfl (d_as (v := .string (bs m60.1)) rfl ?_)
    refine da_op rfl (d_as (v := .bool m60.2) rfl ?_)
    refine da_nil ?_
    refine W_seq ?_
    refine W_seq ?_
    have B69 : w66.heap[w.heap.size]? = some (.cells #[(Value.slice p0v0a p0v0n p0v0c), (Value.slice p0v1a p0v1n p0v1c), (Value.slice p0v2a p0v2n p0v2c), (Value.slice p0v3a p0v3n p0v3c)] 63 (0, 0)) := E66.heap B65
    have B70 : OS w66 44 encSVector (Value.slice q38_0v0a q38_0v0n q38_0v0c) m33.places := B61.ext E66
    have B71 : OS w66 44 encSVector (Value.slice q38_0v1a q38_0v1n q38_0v1c) m33.before := B62.ext E66
    have B72 : OS w66 22 encF_f32 (Value.slice q38_0v2a q38_0v2n q38_0v2c) m33.weights := B63.ext E66
    have B73 : OS w66 136 encSRod (Value.slice q38_0v3a q38_0v3n q38_0v3c) m33.rods := B64.ext E66
    have B74 : w66.heap[w38.heap.size]? = some (.cells #[(Value.slice q38_0v0a q38_0v0n q38_0v0c), (Value.slice q38_0v1a q38_0v1n q38_0v1c), (Value.slice q38_0v2a q38_0v2n q38_0v2c), (Value.slice q38_0v3a q38_0v3n q38_0v3c)] 69 (0, 0)) := E66.heap B59
    obtain ⟨m68, hm68, hr⟩ := letv_out hr
    refine W_cut (fun σ' w' => σ' 34 = .bool m68 ∧ Ext w66 w') rfl ?_ ?_
    · skip
      have hr := hm68
      refine da_op rfl (d_mv (v := .string (bs m60.1)) rfl ?_)
      refine da_op rfl (d_mv (v := .string (bs m28.1)) rfl ?_)
      refine da_op rfl (d_sne rfl rfl ?_)
      refine da_op rfl (d_mv (v := .bool (!(m60.1 == m28.1))) rfl ?_)
      rcases Bool.eq_false_or_eq_true (m60.1 == m28.1) with hc75 | hc75
      · skip
        replace hr := bif_t hr hc75
        refine da_on rfl (Eq.trans (show sl _ _ _ = .bool (!(m60.1 == m28.1)) from rfl) (congrArg Value.bool (congrArg not hc75))) (d_mv (v := .bool m60.2) rfl ?_)
        refine da_on rfl (Eq.trans (show sl _ _ _ = .bool (!(m60.1 == m28.1)) from rfl) (congrArg Value.bool (congrArg not hc75))) (d_mv (v := .bool m28.2) rfl ?_)
        refine da_on rfl (Eq.trans (show sl _ _ _ = .bool (!(m60.1 == m28.1)) from rfl) (congrArg Value.bool (congrArg not hc75))) (d_bne un4 rfl rfl ?_)
        refine da_op rfl (d_pick (b := false) (Eq.trans (show ev _ _ = .bool (!(m60.1 == m28.1)) from rfl) (congrArg Value.bool (congrArg not hc75))) ?_)
        refine da_nil ?_
        subst hr
        exact ⟨rfl, (Ext.refl w66)⟩
      · skip
        replace hr := bif_f hr hc75
        refine da_off rfl (Eq.trans (show sl _ _ _ = .bool (!(m60.1 == m28.1)) from rfl) (congrArg Value.bool (congrArg not hc75))) (by decide) ?_
        refine da_off rfl (Eq.trans (show sl _ _ _ = .bool (!(m60.1 == m28.1)) from rfl) (congrArg Value.bool (congrArg not hc75))) (by decide) ?_
        refine da_off rfl (Eq.trans (show sl _ _ _ = .bool (!(m60.1 == m28.1)) from rfl) (congrArg Value.bool (congrArg not hc75))) (by decide) ?_
        refine da_op rfl (d_pick (b := true) (Eq.trans (show ev _ _ = .bool (!(m60.1 == m28.1)) from rfl) (congrArg Value.bool (congrArg not hc75))) ?_)
        refine da_nil ?_
        subst hr
        exact ⟨rfl, (Ext.refl w66)⟩
    · skip
      rintro σ68 w68 o68 ⟨s34_68, E68⟩
      have s1_68 : σ68 1 = .pointer (some ⟨w.heap.size, 0, none⟩) := (o68 1 rfl).trans rfl
      have s6_68 : σ68 6 = .pointer (some ⟨w38.heap.size, 0, none⟩) := (o68 6 rfl).trans rfl
      have X76 : Ext w w68 := X67.trans E68
      refine W_cond (b := m68) s34_68 (fun hc77 => ?_) (fun hc77 => ?_)
      · skip
        replace hr := bif_t hr hc77
        refine W_seq ?_
        refine W_region rfl ?_
        refine da_op rfl (d_as (v := .bool false) rfl ?_)
        refine da_nil ?_
        refine W_ret ?_
        obtain rfl := Option.some.inj hr
        refine ⟨_, res1 (rv_tmp rfl), ?_⟩
        exact ⟨rfl, X76⟩
      · skip
        replace hr := bif_f hr hc77
        refine W_skip ?_
        refine W_seq ?_
        refine W_seq ?_
        have B79 : RS w68 encSVector (Value.slice p0v0a p0v0n p0v0c) p0.places := p0v0R.ext X76
        have B80 : RS w68 encSVector (Value.slice p0v1a p0v1n p0v1c) p0.before := p0v1R.ext X76
        have B81 : RS w68 encF_f32 (Value.slice p0v2a p0v2n p0v2c) p0.weights := p0v2R.ext X76
        have B82 : RS w68 encSRod (Value.slice p0v3a p0v3n p0v3c) p0.rods := p0v3R.ext X76
        have B83 : w68.heap[w.heap.size]? = some (.cells #[(Value.slice p0v0a p0v0n p0v0c), (Value.slice p0v1a p0v1n p0v1c), (Value.slice p0v2a p0v2n p0v2c), (Value.slice p0v3a p0v3n p0v3c)] 63 (0, 0)) := E68.heap B69
        have B84 : OS w68 44 encSVector (Value.slice q38_0v0a q38_0v0n q38_0v0c) m33.places := B70.ext E68
        have B85 : OS w68 44 encSVector (Value.slice q38_0v1a q38_0v1n q38_0v1c) m33.before := B71.ext E68
        have B86 : OS w68 22 encF_f32 (Value.slice q38_0v2a q38_0v2n q38_0v2c) m33.weights := B72.ext E68
        have B87 : OS w68 136 encSRod (Value.slice q38_0v3a q38_0v3n q38_0v3c) m33.rods := B73.ext E68
        have B88 : w68.heap[w38.heap.size]? = some (.cells #[(Value.slice q38_0v0a q38_0v0n q38_0v0c), (Value.slice q38_0v1a q38_0v1n q38_0v1c), (Value.slice q38_0v2a q38_0v2n q38_0v2c), (Value.slice q38_0v3a q38_0v3n q38_0v3c)] 69 (0, 0)) := E68.heap B74
        obtain ⟨m89, hm89, hr⟩ := bind_out hr
        obtain ⟨m90, hm90, hr⟩ := bind_out hr
        refine W_any [] [{ V := fun _ v _ => v = (.agg #[(Value.slice q38_0v0a q38_0v0n q38_0v0c), (Value.slice q38_0v1a q38_0v1n q38_0v1c), (Value.slice q38_0v2a q38_0v2n q38_0v2c), (Value.slice q38_0v3a q38_0v3n q38_0v3c)]) }, { V := fun _ v _ => v = (.agg #[(Value.slice p0v0a p0v0n p0v0c), (Value.slice p0v1a p0v1n p0v1c), (Value.slice p0v2a p0v2n p0v2c), (Value.slice p0v3a p0v3n p0v3c)]) }, { V := fun _ v w' => ∃ d78_2_0v0a : Option Addr, ∃ d78_2_0v0n : Nat, ∃ d78_2_0v0c : Nat, ∃ d78_2_0v1a : Option Addr, ∃ d78_2_0v1n : Nat, ∃ d78_2_0v1c : Nat, ∃ d78_2_0v2a : Option Addr, ∃ d78_2_0v2n : Nat, ∃ d78_2_0v2c : Nat, ∃ d78_2_0v3a : Option Addr, ∃ d78_2_0v3n : Nat, ∃ d78_2_0v3c : Nat, v = (.agg #[(Value.slice d78_2_0v0a d78_2_0v0n d78_2_0v0c), (Value.slice d78_2_0v1a d78_2_0v1n d78_2_0v1c), (Value.slice d78_2_0v2a d78_2_0v2n d78_2_0v2c), (Value.slice d78_2_0v3a d78_2_0v3n d78_2_0v3c)]) ∧ (∀ k, (Value.slice d78_2_0v0a d78_2_0v0n d78_2_0v0c).ownBlock = some k → w68.heap.size ≤ k) ∧ OS w' 44 encSVector (Value.slice d78_2_0v0a d78_2_0v0n d78_2_0v0c) m89.places ∧ (∀ k, (Value.slice d78_2_0v1a d78_2_0v1n d78_2_0v1c).ownBlock = some k → w68.heap.size ≤ k) ∧ OS w' 44 encSVector (Value.slice d78_2_0v1a d78_2_0v1n d78_2_0v1c) m89.before ∧ (∀ k, (Value.slice d78_2_0v2a d78_2_0v2n d78_2_0v2c).ownBlock = some k → w68.heap.size ≤ k) ∧ OS w' 22 encF_f32 (Value.slice d78_2_0v2a d78_2_0v2n d78_2_0v2c) m89.weights ∧ (∀ k, (Value.slice d78_2_0v3a d78_2_0v3n d78_2_0v3c).ownBlock = some k → w68.heap.size ≤ k) ∧ OS w' 136 encSRod (Value.slice d78_2_0v3a d78_2_0v3n d78_2_0v3c) m89.rods }, { V := fun _ v _ => v = (.bool m90) }, { V := fun _ v _ => v = (.bool (!m90)) }] mixed (by kernel_rfl) ⟨trivial, trivial, trivial, trivial, trivial, trivial⟩ ⟨?_, ?_, ?_, ?_, ?_, trivial⟩ ?_
        · skip
          refine ⟨fun _ _ _ _ _ _ h _ => h, fun _ _ h _ => h, fun σ' w' hA hE hD hP => ?_⟩
          have t6 : σ' 6 = .pointer (some ⟨w38.heap.size, 0, none⟩) := (hA 6 rfl).trans s6_68
          have B0_91 : w'.heap[w38.heap.size]? = some (.cells #[(Value.slice q38_0v0a q38_0v0n q38_0v0c), (Value.slice q38_0v1a q38_0v1n q38_0v1c), (Value.slice q38_0v2a q38_0v2n q38_0v2c), (Value.slice q38_0v3a q38_0v3n q38_0v3c)] 69 (0, 0)) := hE.heap not_oth0 B88
          refine dg_op rfl (d_loads (vs := #[(Value.slice q38_0v0a q38_0v0n q38_0v0c), (Value.slice q38_0v1a q38_0v1n q38_0v1c), (Value.slice q38_0v2a q38_0v2n q38_0v2c), (Value.slice q38_0v3a q38_0v3n q38_0v3c)]) t6 agg69 size69 B0_91 rfl ?_)
          exact ⟨rfl, own_none (Ext.refl w')⟩
        · skip
          refine ⟨fun _ _ _ _ _ _ h _ => h, fun _ _ h _ => h, fun σ' w' hA hE hD hP => ?_⟩
          have t1 : σ' 1 = .pointer (some ⟨w.heap.size, 0, none⟩) := (hA 1 rfl).trans s1_68
          have B0_92 : w'.heap[w.heap.size]? = some (.cells #[(Value.slice p0v0a p0v0n p0v0c), (Value.slice p0v1a p0v1n p0v1c), (Value.slice p0v2a p0v2n p0v2c), (Value.slice p0v3a p0v3n p0v3c)] 63 (0, 0)) := hE.heap not_oth0 B83
          refine dg_op rfl (d_loads (vs := #[(Value.slice p0v0a p0v0n p0v0c), (Value.slice p0v1a p0v1n p0v1c), (Value.slice p0v2a p0v2n p0v2c), (Value.slice p0v3a p0v3n p0v3c)]) t1 agg63 size63 B0_92 rfl ?_)
          exact ⟨rfl, own_none (Ext.refl w')⟩
        · skip
          refine ⟨fun _ _ _ w' w'' _ ⟨d78_2_0v0a, d78_2_0v0n, d78_2_0v0c, d78_2_0v1a, d78_2_0v1n, d78_2_0v1c, d78_2_0v2a, d78_2_0v2n, d78_2_0v2c, d78_2_0v3a, d78_2_0v3n, d78_2_0v3c, hv, d78_2_0v0L, d78_2_0v0R, d78_2_0v1L, d78_2_0v1R, d78_2_0v2L, d78_2_0v2R, d78_2_0v3L, d78_2_0v3R⟩ hF => ⟨d78_2_0v0a, d78_2_0v0n, d78_2_0v0c, d78_2_0v1a, d78_2_0v1n, d78_2_0v1c, d78_2_0v2a, d78_2_0v2n, d78_2_0v2c, d78_2_0v3a, d78_2_0v3n, d78_2_0v3c, hv, d78_2_0v0L, d78_2_0v0R.frm hF (fun k hk => not_oth0), d78_2_0v1L, d78_2_0v1R.frm hF (fun k hk => not_oth0), d78_2_0v2L, d78_2_0v2R.frm hF (fun k hk => not_oth0), d78_2_0v3L, d78_2_0v3R.frm hF (fun k hk => not_oth0)⟩, fun _ _ h _ => h, fun σ' w' hA hE hD hP => ?_⟩
          have t36 : σ' 36 = (.agg #[(Value.slice p0v0a p0v0n p0v0c), (Value.slice p0v1a p0v1n p0v1c), (Value.slice p0v2a p0v2n p0v2c), (Value.slice p0v3a p0v3n p0v3c)]) := hD 1 rfl
          have B0_93 : RS w' encSVector (Value.slice p0v0a p0v0n p0v0c) p0.places := B79.frm hE (fun k _ hk => not_oth0)
          have B0_94 : RS w' encSVector (Value.slice p0v1a p0v1n p0v1c) p0.before := B80.frm hE (fun k _ hk => not_oth0)
          have B0_95 : RS w' encF_f32 (Value.slice p0v2a p0v2n p0v2c) p0.weights := B81.frm hE (fun k _ hk => not_oth0)
          have B0_96 : RS w' encSRod (Value.slice p0v3a p0v3n p0v3c) p0.rods := B82.frm hE (fun k _ hk => not_oth0)
          refine dg_op rfl (d_cl (vs := [.agg #[(Value.slice p0v0a p0v0n p0v0c), (Value.slice p0v1a p0v1n p0v1c), (Value.slice p0v2a p0v2n p0v2c), (Value.slice p0v3a p0v3n p0v3c)]]) en36 (ac t36 rfl) rfl ?_)
          refine (c36 (⟨p0.places, p0.before, p0.weights, p0.rods⟩ : SChain) p0v0a p0v0n p0v0c p0v1a p0v1n p0v1c p0v2a p0v2n p0v2c p0v3a p0v3n p0v3c m89 w' hm89 B0_93 B0_94 B0_95 B0_96).mono ?_
          rintro _ w97 ⟨q97_0v0a, q97_0v0n, q97_0v0c, q97_0v1a, q97_0v1n, q97_0v1c, q97_0v2a, q97_0v2n, q97_0v2c, q97_0v3a, q97_0v3n, q97_0v3c, rfl, q97_0v0R, q97_0v0F, q97_0v1R, q97_0v1F, q97_0v2R, q97_0v2F, q97_0v3R, q97_0v3F, q97_A1_0, q97_A2_0, q97_A2_1, q97_A3_0, q97_A3_1, q97_A3_2, E97⟩
          refine ⟨_, rfl, ?_⟩
          have X102 : Ext w' w97 := (Ext.refl w').trans E97
          exact ⟨⟨q97_0v0a, q97_0v0n, q97_0v0c, q97_0v1a, q97_0v1n, q97_0v1c, q97_0v2a, q97_0v2n, q97_0v2c, q97_0v3a, q97_0v3n, q97_0v3c, rfl, (fun k hk => Nat.le_trans hE.size (q97_0v0F k hk)), q97_0v0R, (fun k hk => Nat.le_trans hE.size (q97_0v1F k hk)), q97_0v1R, (fun k hk => Nat.le_trans hE.size (q97_0v2F k hk)), q97_0v2R, (fun k hk => Nat.le_trans hE.size (q97_0v3F k hk)), q97_0v3R⟩, own_none X102⟩
        · skip
          refine ⟨fun _ _ _ _ _ _ h _ => h, fun _ _ h _ => h, fun σ' w' hA hE hD hP => ?_⟩
          have t35 : σ' 35 = (.agg #[(Value.slice q38_0v0a q38_0v0n q38_0v0c), (Value.slice q38_0v1a q38_0v1n q38_0v1c), (Value.slice q38_0v2a q38_0v2n q38_0v2c), (Value.slice q38_0v3a q38_0v3n q38_0v3c)]) := hD 0 rfl
          obtain ⟨d78_2_0v0a, d78_2_0v0n, d78_2_0v0c, d78_2_0v1a, d78_2_0v1n, d78_2_0v1c, d78_2_0v2a, d78_2_0v2n, d78_2_0v2c, d78_2_0v3a, d78_2_0v3n, d78_2_0v3c, t37, d78_2_0v0L, d78_2_0v0R, d78_2_0v1L, d78_2_0v1R, d78_2_0v2L, d78_2_0v2R, d78_2_0v3L, d78_2_0v3R⟩ : ∃ d78_2_0v0a : Option Addr, ∃ d78_2_0v0n : Nat, ∃ d78_2_0v0c : Nat, ∃ d78_2_0v1a : Option Addr, ∃ d78_2_0v1n : Nat, ∃ d78_2_0v1c : Nat, ∃ d78_2_0v2a : Option Addr, ∃ d78_2_0v2n : Nat, ∃ d78_2_0v2c : Nat, ∃ d78_2_0v3a : Option Addr, ∃ d78_2_0v3n : Nat, ∃ d78_2_0v3c : Nat, σ' 37 = (.agg #[(Value.slice d78_2_0v0a d78_2_0v0n d78_2_0v0c), (Value.slice d78_2_0v1a d78_2_0v1n d78_2_0v1c), (Value.slice d78_2_0v2a d78_2_0v2n d78_2_0v2c), (Value.slice d78_2_0v3a d78_2_0v3n d78_2_0v3c)]) ∧ (∀ k, (Value.slice d78_2_0v0a d78_2_0v0n d78_2_0v0c).ownBlock = some k → w68.heap.size ≤ k) ∧ OS w' 44 encSVector (Value.slice d78_2_0v0a d78_2_0v0n d78_2_0v0c) m89.places ∧ (∀ k, (Value.slice d78_2_0v1a d78_2_0v1n d78_2_0v1c).ownBlock = some k → w68.heap.size ≤ k) ∧ OS w' 44 encSVector (Value.slice d78_2_0v1a d78_2_0v1n d78_2_0v1c) m89.before ∧ (∀ k, (Value.slice d78_2_0v2a d78_2_0v2n d78_2_0v2c).ownBlock = some k → w68.heap.size ≤ k) ∧ OS w' 22 encF_f32 (Value.slice d78_2_0v2a d78_2_0v2n d78_2_0v2c) m89.weights ∧ (∀ k, (Value.slice d78_2_0v3a d78_2_0v3n d78_2_0v3c).ownBlock = some k → w68.heap.size ≤ k) ∧ OS w' 136 encSRod (Value.slice d78_2_0v3a d78_2_0v3n d78_2_0v3c) m89.rods := hD 2 rfl
          have B0_103 : OS w' 44 encSVector (Value.slice q38_0v0a q38_0v0n q38_0v0c) m33.places := B84.frm hE (fun k hk => not_oth0)
          have B0_104 : OS w' 44 encSVector (Value.slice q38_0v1a q38_0v1n q38_0v1c) m33.before := B85.frm hE (fun k hk => not_oth0)
          have B0_105 : OS w' 22 encF_f32 (Value.slice q38_0v2a q38_0v2n q38_0v2c) m33.weights := B86.frm hE (fun k hk => not_oth0)
          have B0_106 : OS w' 136 encSRod (Value.slice q38_0v3a q38_0v3n q38_0v3c) m33.rods := B87.frm hE (fun k hk => not_oth0)
          refine dg_op rfl (d_cl (vs := [.agg #[(Value.slice q38_0v0a q38_0v0n q38_0v0c), (Value.slice q38_0v1a q38_0v1n q38_0v1c), (Value.slice q38_0v2a q38_0v2n q38_0v2c), (Value.slice q38_0v3a q38_0v3n q38_0v3c)], .agg #[(Value.slice d78_2_0v0a d78_2_0v0n d78_2_0v0c), (Value.slice d78_2_0v1a d78_2_0v1n d78_2_0v1c), (Value.slice d78_2_0v2a d78_2_0v2n d78_2_0v2c), (Value.slice d78_2_0v3a d78_2_0v3n d78_2_0v3c)]]) en38 (ac t35 (ac t37 rfl)) rfl ?_)
          refine (c38 (⟨m33.places, m33.before, m33.weights, m33.rods⟩ : SChain) m89 q38_0v0a q38_0v0n q38_0v0c q38_0v1a q38_0v1n q38_0v1c q38_0v2a q38_0v2n q38_0v2c q38_0v3a q38_0v3n q38_0v3c d78_2_0v0a d78_2_0v0n d78_2_0v0c d78_2_0v1a d78_2_0v1n d78_2_0v1c d78_2_0v2a d78_2_0v2n d78_2_0v2c d78_2_0v3a d78_2_0v3n d78_2_0v3c m90 w' hm90 B0_103.rs B0_104.rs B0_105.rs B0_106.rs d78_2_0v0R.rs d78_2_0v1R.rs d78_2_0v2R.rs d78_2_0v3R.rs).mono ?_
          rintro _ w107 ⟨rfl, E107⟩
          refine ⟨_, rfl, ?_⟩
          have X108 : Ext w' w107 := (Ext.refl w').trans E107
          exact ⟨rfl, own_none X108⟩
        · skip
          refine ⟨fun _ _ _ _ _ _ h _ => h, fun _ _ h _ => h, fun σ' w' hA hE hD hP => ?_⟩
          have t38 : σ' 38 = (.bool m90) := hD 3 rfl
          refine dg_op rfl (d_not t38 ?_)
          exact ⟨rfl, own_none (Ext.refl w')⟩
        · skip
          intro σ78 w78 A78 E78 V78
          have E78x : Ext w68 w78 := ext_of_oth0 E78
          have s39_78 : σ78 39 = (.bool (!m90)) := V78 4 (Nat.le_of_ble_eq_true rfl)
          have X109 : Ext w w78 := X76.trans E78x
          refine W_cond (b := (!m90)) s39_78 (fun hc110 => ?_) (fun hc110 => ?_)
          · skip
            replace hr := bif_t hr hc110
            refine W_seq ?_
            refine W_region rfl ?_
            refine da_op rfl (d_as (v := .bool false) rfl ?_)
            refine da_nil ?_
            refine W_ret ?_
            obtain rfl := Option.some.inj hr
            refine ⟨_, res1 (rv_tmp rfl), ?_⟩
            exact ⟨rfl, X109⟩
          · skip
            replace hr := bif_f hr hc110
            refine W_skip ?_
            refine W_seq ?_
            refine W_region rfl ?_
            refine da_op rfl (d_as (v := .bool true) rfl ?_)
            refine da_nil ?_
            refine W_ret ?_
            obtain rfl := Option.some.inj hr
            refine ⟨_, res1 (rv_tmp rfl), ?_⟩
            exact ⟨rfl, X109⟩
end Go.Proofs
