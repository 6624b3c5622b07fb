import Derived.Test.YtdcienojgkioiaaNNCt3
namespace Go.Proofs
open Go Go.Fl Go.RowKit Go.Rg
set_option maxRecDepth 100000
set_option linter.unusedVariables false
attribute [local irreducible] Go.Calls doAll Does DoesG W Wr
set_option maxHeartbeats 4000000 in
theorem c75 (p0 : List Nat) (p1 : List Nat) (p0a : Option Addr) (p0n : Nat) (p0c : Nat) (p1a : Option Addr) (p1n : Nat) (p1c : Nat) (r : Bool) (w : World) (hr : M.laws_eqFloat32S p0 p1 = some r) (p0R : RS w encF_f32 (Value.slice p0a p0n p0c) p0) (p1R : RS w encF_f32 (Value.slice p1a p1n p1c) p1) :
    Calls Try.prog 75 #[(Value.slice p0a p0n p0c), (Value.slice p1a p1n p1c)] w fun e w' => e = .returned (.bool r) ∧ Ext w w' := by
  refine calls_of_W Try.func75 rfl (Nat.le_of_ble_eq_true rfl) ?_
  refine W_seq ?_
  refine W_region rfl ?_
  refine da_op rfl (d_as (v := .bool false) rfl ?_)
  refine da_nil ?_
  refine W_seq ?_
  refine W_seq ?_
  refine W_region rfl ?_
  refine da_op rfl (d_mv (v := (Value.slice p0a p0n p0c)) rfl ?_)
  refine da_op rfl (d_len (e := encF_f32) un48 rfl p0R ?_)
  refine da_op rfl (d_mv (v := (Value.slice p1a p1n p1c)) rfl ?_)
  refine da_op rfl (d_len (e := encF_f32) un48 rfl p1R ?_)
  refine da_op rfl (d_icmp cNeq rfl rfl ?_)
  refine da_nil ?_
  refine W_cond (b := (icmp .neq ((p0).length : Int) ((p1).length : Int))) rfl (fun hc1 => ?_) (fun hc1 => ?_)
  · skip
    replace hr := bif_t hr hc1
    refine W_seq ?_
    refine W_region rfl ?_
    refine da_op rfl (d_as (v := .bool false) rfl ?_)
    refine da_nil ?_
    refine W_ret ?_
    obtain rfl := Option.some.inj hr
    refine ⟨_, res1 (rv_tmp rfl), ?_⟩
    exact ⟨rfl, (Ext.refl w)⟩
  · skip
    replace hr := bif_f hr hc1
    refine W_skip ?_
    refine W_seq ?_
    refine W_seq ?_
    refine W_region rfl ?_
    refine da_op rfl (d_as (v := .int .i64 0) rfl ?_)
    refine da_nil ?_
    refine W_block ?_
    obtain ⟨m2, hm2, hr⟩ := bind_out hr
    refine W_loopM hm2 (fun (s2 : Int) σ w' => σ 5 = .int .i64 s2 ∧ σ 0 = (Value.slice p0a p0n p0c) ∧ σ 1 = (Value.slice p1a p1n p1c) ∧ Ext w w') (fun (e2 : (Unit ⊕ Bool)) ex σ w' => sel e2 (fun e2 => ex = .exit 0 ∧ Ext w w') (fun e2 => ex = .ret ∧ σ 4 = .bool e2 ∧ Ext w w')) ⟨rfl, rfl, rfl, (Ext.refl w)⟩ ?_ ?_
    · skip
      rintro s2 σl2 wl2 r2l ⟨i2_S5, i2_S0, i2_S1, i2_X⟩ hr
      refine W_seq ?_
      refine W_seq ?_
      refine W_region rfl ?_
      refine da_op rfl (d_mv (v := .int .i64 s2) i2_S5 ?_)
      refine da_op rfl (d_mv (v := (Value.slice p0a p0n p0c)) i2_S0 ?_)
      have B3 : RS wl2 encF_f32 (Value.slice p0a p0n p0c) p0 := p0R.ext i2_X
      refine da_op rfl (d_len (e := encF_f32) un48 rfl B3 ?_)
      refine da_op rfl (d_icmp cLss rfl rfl ?_)
      refine da_nil ?_
      refine W_cond (b := (icmp .lss s2 ((p0).length : Int))) rfl (fun hc4 => ?_) (fun hc4 => ?_)
      · skip
        replace hr := bif_t hr hc4
        refine W_skip ?_
        refine W_seq ?_
        refine W_block ?_
        refine W_seq ?_
        have B6 : RS wl2 encF_f32 (Value.slice p1a p1n p1c) p1 := p1R.ext i2_X
        obtain ⟨m7, hm7, hr⟩ := bind_out hr
        obtain ⟨m8, hm8, hr⟩ := bind_out hr
        obtain ⟨m9, hm9, hr⟩ := letv_out hr
        refine W_any [] [{ V := fun _ v _ => v = (Value.slice p0a p0n p0c) }, { V := fun _ v _ => v = (.int .i64 s2) }, { V := fun _ v _ => ∃ d5_2g : Nat, ∃ d5_2o : Nat, v = (.pointer (some ⟨d5_2g, d5_2o, none⟩)) ∧ EL encF_f32 (Value.slice p0a p0n p0c) (p0).length s2 d5_2g d5_2o }, { V := fun _ v _ => ∃ d5_2r0 : Nat, v = (.float .f32 d5_2r0) ∧ cn .f32 d5_2r0 = m7 }, { V := fun _ v _ => ∃ d5_4r : Nat, v = (.float .f64 d5_4r) ∧ cn .f64 d5_4r = (widen m7) }, { V := fun _ v _ => v = (Value.slice p1a p1n p1c) }, { V := fun _ v _ => v = (.int .i64 s2) }, { V := fun _ v _ => ∃ d5_7g : Nat, ∃ d5_7o : Nat, v = (.pointer (some ⟨d5_7g, d5_7o, none⟩)) ∧ EL encF_f32 (Value.slice p1a p1n p1c) (p1).length s2 d5_7g d5_7o }, { V := fun _ v _ => ∃ d5_7r0 : Nat, v = (.float .f32 d5_7r0) ∧ cn .f32 d5_7r0 = m8 }, { V := fun _ v _ => ∃ d5_9r : Nat, v = (.float .f64 d5_9r) ∧ cn .f64 d5_9r = (widen m8) }, { V := fun _ v _ => v = (.bool m9) }, { V := fun _ v _ => v = (.bool (!m9)) }] mixed (by kernel_rfl) ⟨trivial, trivial, trivial, trivial, trivial, trivial, trivial, trivial, trivial, trivial, trivial, trivial, trivial⟩ ⟨?_, ?_, ?_, ?_, ?_, ?_, ?_, ?_, ?_, ?_, ?_, ?_, trivial⟩ ?_
        · skip
          refine ⟨fun _ _ _ _ _ _ h _ => h, fun _ _ h _ => h, fun σ' w' hA hE hD hP => ?_⟩
          have t0 : σ' 0 = (Value.slice p0a p0n p0c) := (hA 0 rfl).trans i2_S0
          have B0_10 : RS w' encF_f32 (Value.slice p0a p0n p0c) p0 := B3.frm hE (fun k _ hk => not_oth0)
          refine dg_op rfl (d_mv (v := (Value.slice p0a p0n p0c)) t0 ?_)
          exact ⟨rfl, own_none (Ext.refl w')⟩
        · skip
          refine ⟨fun _ _ _ _ _ _ h _ => h, fun _ _ h _ => h, fun σ' w' hA hE hD hP => ?_⟩
          have t5 : σ' 5 = .int .i64 s2 := (hA 5 rfl).trans i2_S5
          refine dg_op rfl (d_mv (v := .int .i64 s2) t5 ?_)
          exact ⟨rfl, own_none (Ext.refl w')⟩
        · skip
          refine ⟨fun _ _ _ _ _ _ h _ => h, fun _ _ h _ => h, fun σ' w' hA hE hD hP => ?_⟩
          have t17 : σ' 17 = (Value.slice p0a p0n p0c) := hD 0 rfl
          have t18 : σ' 18 = (.int .i64 s2) := hD 1 rfl
          have B0_11 : RS w' encF_f32 (Value.slice p0a p0n p0c) p0 := B3.frm hE (fun k _ hk => not_oth0)
          refine dg_op rfl (d_indexE (e := encF_f32) (v := (Value.slice p0a p0n p0c)) un48 size22 t17 t18 B0_11 hm7 fun g12 o12 l12 => ?_)
          exact ⟨⟨g12, o12, rfl, l12⟩, own_none (Ext.refl _)⟩
        · skip
          refine ⟨fun _ _ _ _ _ _ h _ => h, fun _ _ h _ => h, fun σ' w' hA hE hD hP => ?_⟩
          obtain ⟨d5_2g, d5_2o, t19, d5_2gE⟩ : ∃ d5_2g : Nat, ∃ d5_2o : Nat, σ' 19 = (.pointer (some ⟨d5_2g, d5_2o, none⟩)) ∧ EL encF_f32 (Value.slice p0a p0n p0c) (p0).length s2 d5_2g d5_2o := hD 2 rfl
          have B0_13 : RS w' encF_f32 (Value.slice p0a p0n p0c) p0 := B3.frm hE (fun k _ hk => not_oth0)
          obtain ⟨d5_2c, d5_2T, d5_2f, d5_2vs, d5_2hg, d5_2P, d5_2hq⟩ := RS.el B0_13 d5_2gE hm7
          obtain ⟨d5_2r0, rfl, d5_2h0⟩ := dec_encF_f32 d5_2hq
          refine dg_op rfl (d_load (v := .float .f32 d5_2r0) t19 agg22 d5_2hg (sub_get (vs := #[.float .f32 d5_2r0]) d5_2P (i := 0) rfl) ?_)
          exact ⟨⟨d5_2r0, rfl, d5_2h0⟩, own_none (Ext.refl w')⟩
        · skip
          refine ⟨fun _ _ _ _ _ _ h _ => h, fun _ _ h _ => h, fun σ' w' hA hE hD hP => ?_⟩
          obtain ⟨d5_2r0, t20, d5_2h0⟩ : ∃ d5_2r0 : Nat, σ' 20 = (.float .f32 d5_2r0) ∧ cn .f32 d5_2r0 = m7 := hD 3 rfl
          refine dg_op rfl (d_widen un22 un95 t20 d5_2h0 fun r14 w14 h14 _ E14 => ?_)
          have X15 : Ext w' w14 := (Ext.refl w').trans E14
          exact ⟨⟨r14, rfl, h14⟩, own_none X15⟩
        · skip
          refine ⟨fun _ _ _ _ _ _ h _ => h, fun _ _ h _ => h, fun σ' w' hA hE hD hP => ?_⟩
          have t1 : σ' 1 = (Value.slice p1a p1n p1c) := (hA 1 rfl).trans i2_S1
          have B0_16 : RS w' encF_f32 (Value.slice p1a p1n p1c) p1 := B6.frm hE (fun k _ hk => not_oth0)
          refine dg_op rfl (d_mv (v := (Value.slice p1a p1n p1c)) t1 ?_)
          exact ⟨rfl, own_none (Ext.refl w')⟩
        · skip
          refine ⟨fun _ _ _ _ _ _ h _ => h, fun _ _ h _ => h, fun σ' w' hA hE hD hP => ?_⟩
          have t5 : σ' 5 = .int .i64 s2 := (hA 5 rfl).trans i2_S5
          refine dg_op rfl (d_mv (v := .int .i64 s2) t5 ?_)
          exact ⟨rfl, own_none (Ext.refl w')⟩
        · skip
          refine ⟨fun _ _ _ _ _ _ h _ => h, fun _ _ h _ => h, fun σ' w' hA hE hD hP => ?_⟩
          have t22 : σ' 22 = (Value.slice p1a p1n p1c) := hD 5 rfl
          have t23 : σ' 23 = (.int .i64 s2) := hD 6 rfl
          have B0_17 : RS w' encF_f32 (Value.slice p1a p1n p1c) p1 := B6.frm hE (fun k _ hk => not_oth0)
          refine dg_op rfl (d_indexE (e := encF_f32) (v := (Value.slice p1a p1n p1c)) un48 size22 t22 t23 B0_17 hm8 fun g18 o18 l18 => ?_)
          exact ⟨⟨g18, o18, rfl, l18⟩, own_none (Ext.refl _)⟩
        · skip
          refine ⟨fun _ _ _ _ _ _ h _ => h, fun _ _ h _ => h, fun σ' w' hA hE hD hP => ?_⟩
          obtain ⟨d5_7g, d5_7o, t24, d5_7gE⟩ : ∃ d5_7g : Nat, ∃ d5_7o : Nat, σ' 24 = (.pointer (some ⟨d5_7g, d5_7o, none⟩)) ∧ EL encF_f32 (Value.slice p1a p1n p1c) (p1).length s2 d5_7g d5_7o := hD 7 rfl
          have B0_19 : RS w' encF_f32 (Value.slice p1a p1n p1c) p1 := B6.frm hE (fun k _ hk => not_oth0)
          obtain ⟨d5_7c, d5_7T, d5_7f, d5_7vs, d5_7hg, d5_7P, d5_7hq⟩ := RS.el B0_19 d5_7gE hm8
          obtain ⟨d5_7r0, rfl, d5_7h0⟩ := dec_encF_f32 d5_7hq
          refine dg_op rfl (d_load (v := .float .f32 d5_7r0) t24 agg22 d5_7hg (sub_get (vs := #[.float .f32 d5_7r0]) d5_7P (i := 0) rfl) ?_)
          exact ⟨⟨d5_7r0, rfl, d5_7h0⟩, own_none (Ext.refl w')⟩
        · skip
          refine ⟨fun _ _ _ _ _ _ h _ => h, fun _ _ h _ => h, fun σ' w' hA hE hD hP => ?_⟩
          obtain ⟨d5_7r0, t25, d5_7h0⟩ : ∃ d5_7r0 : Nat, σ' 25 = (.float .f32 d5_7r0) ∧ cn .f32 d5_7r0 = m8 := hD 8 rfl
          refine dg_op rfl (d_widen un22 un95 t25 d5_7h0 fun r20 w20 h20 _ E20 => ?_)
          have X21 : Ext w' w20 := (Ext.refl w').trans E20
          exact ⟨⟨r20, rfl, h20⟩, own_none X21⟩
        · skip
          refine ⟨fun _ _ _ _ _ _ h _ => h, fun _ _ h _ => h, fun σ' w' hA hE hD hP => ?_⟩
          obtain ⟨d5_4r, t21, d5_4h⟩ : ∃ d5_4r : Nat, σ' 21 = (.float .f64 d5_4r) ∧ cn .f64 d5_4r = (widen m7) := hD 4 rfl
          obtain ⟨d5_9r, t26, d5_9h⟩ : ∃ d5_9r : Nat, σ' 26 = (.float .f64 d5_9r) ∧ cn .f64 d5_9r = (widen m8) := hD 9 rfl
          refine dg_op rfl (d_cl (vs := [.float .f64 d5_4r, .float .f64 d5_9r]) en57 (ac t21 (ac t26 rfl)) rfl ?_)
          refine (c57 (widen m7) (widen m8) d5_4r d5_9r m9 w' hm9 d5_4h d5_9h).mono ?_
          rintro _ w22 ⟨rfl, E22⟩
          refine ⟨_, rfl, ?_⟩
          have X23 : Ext w' w22 := (Ext.refl w').trans E22
          exact ⟨rfl, own_none X23⟩
        · skip
          refine ⟨fun _ _ _ _ _ _ h _ => h, fun _ _ h _ => h, fun σ' w' hA hE hD hP => ?_⟩
          have t27 : σ' 27 = (.bool m9) := hD 10 rfl
          refine dg_op rfl (d_not t27 ?_)
          exact ⟨rfl, own_none (Ext.refl w')⟩
        · skip
          intro σ5 w5 A5 E5 V5
          have E5x : Ext wl2 w5 := ext_of_oth0 E5
          have s28_5 : σ5 28 = (.bool (!m9)) := V5 11 (Nat.le_of_ble_eq_true rfl)
          have s5_5 : σ5 5 = .int .i64 s2 := (A5 5 rfl).trans i2_S5
          have s0_5 : σ5 0 = (Value.slice p0a p0n p0c) := (A5 0 rfl).trans i2_S0
          have s1_5 : σ5 1 = (Value.slice p1a p1n p1c) := (A5 1 rfl).trans i2_S1
          have X24 : Ext w w5 := i2_X.trans E5x
          refine W_cond (b := (!m9)) s28_5 (fun hc25 => ?_) (fun hc25 => ?_)
          · skip
            replace hr := bif_t hr hc25
            refine W_seq ?_
            refine W_region rfl ?_
            refine da_op rfl (d_as (v := .bool false) rfl ?_)
            refine da_nil ?_
            refine W_ret ?_
            obtain rfl := Option.some.inj hr
            exact ⟨_, rfl, rfl, rfl, X24⟩
          · skip
            replace hr := bif_f hr hc25
            refine W_skip ?_
            refine W_region rfl ?_
            refine da_op rfl (d_mv (v := .int .i64 s2) s5_5 ?_)
            refine da_op rfl (d_iarith rfl rfl (.inl ⟨rfl, rfl⟩) ?_)
            refine da_op rfl (d_as (v := .int .i64 (IntKind.i64.wrap (s2 + 1))) rfl ?_)
            refine da_nil ?_
            obtain rfl := Option.some.inj hr
            exact ⟨_, rfl, ⟨rfl, s0_5, s1_5, X24⟩⟩
      · skip
        replace hr := bif_f hr hc4
        refine W_exit ?_
        obtain rfl := Option.some.inj hr
        exact ⟨_, rfl, rfl, i2_X⟩
    · skip
      intro ex σx2 wx2 hq
      rcases m2 with m2 | m2
      · skip
        obtain ⟨rfl, q2_0_X⟩ := hq
        refine W_seq ?_
        refine W_region rfl ?_
        refine da_op rfl (d_as (v := .bool true) rfl ?_)
        refine da_nil ?_
        refine W_ret ?_
        obtain rfl := Option.some.inj hr
        refine ⟨_, res1 (rv_tmp rfl), ?_⟩
        exact ⟨rfl, q2_0_X⟩
      · skip
        obtain ⟨rfl, q2_1_S4, q2_1_X⟩ := hq
        obtain rfl := Option.some.inj hr
        refine ⟨_, res1 (rv_tmp q2_1_S4), ?_⟩
        exact ⟨rfl, q2_1_X⟩
set_option maxHeartbeats 4000000 in
theorem c108 (p0 : SRod) (p1 : SRod) (p0r2 : Nat) (p1r2 : Nat) (r : Bool) (w : World) (hr : M.laws_eqRod p0 p1 = r) (p0h2 : cn .f32 p0r2 = p0.long) (p1h2 : cn .f32 p1r2 = p1.long) :
    Calls Try.prog 108 #[.agg #[.int .i64 p0.a, .int .i64 p0.b, .float .f32 p0r2], .agg #[.int .i64 p1.a, .int .i64 p1.b, .float .f32 p1r2]] w fun e w' => e = .returned (.bool r) ∧ Ext w w' := by
  refine calls_of_W Try.func108 rfl (Nat.le_of_ble_eq_true rfl) ?_
  refine W_seq ?_
  refine W_region rfl ?_
  refine da_op rfl (d_box (cs := #[.int .i64 p0.a, .int .i64 p0.b, .float .f32 p0r2]) rfl fun w1 B1 E1 => ?_)
  have own2 : w.heap.size ≤ w.heap.size := Nat.le_trans (Ext.refl w).size (Nat.le_refl _)
  have X3 : Ext w w1 := (Ext.refl w).trans E1
  refine da_op rfl (d_box (cs := #[.int .i64 p1.a, .int .i64 p1.b, .float .f32 p1r2]) rfl fun w4 B4 E4 => ?_)
  have own5 : w.heap.size ≤ w1.heap.size := Nat.le_trans X3.size (Nat.le_refl _)
  have sp6 : w.heap.size ≠ w1.heap.size := Nat.ne_of_lt (Nat.lt_of_lt_of_le (lt_heap B1) (Nat.le_refl _))
  have X7 : Ext w w4 := X3.trans E4
  refine da_op rfl (d_as (v := .bool false) rfl ?_)
  refine da_nil ?_
  refine W_seq ?_
  refine W_seq ?_
  refine W_region rfl ?_
  refine da_op rfl (d_fieldAddr rfl (fa104_0 _ _) ?_)
  have B8 : w4.heap[w.heap.size]? = some (.cells #[.int .i64 p0.a, .int .i64 p0.b, .float .f32 p0r2] 104 (0, 0)) := E4.heap B1
  refine da_op rfl (d_load (v := .int .i64 p0.a) rfl agg2 B8 rfl ?_)
  refine da_op rfl (d_fieldAddr rfl (fa104_0 _ _) ?_)
  refine da_op rfl (d_load (v := .int .i64 p1.a) rfl agg2 B4 rfl ?_)
  refine da_op rfl (d_icmp cNeq rfl rfl ?_)
  refine da_nil ?_
  refine W_cond (b := (icmp .neq p0.a p1.a)) rfl (fun hc9 => ?_) (fun hc9 => ?_)
  · skip
    replace hr := bif_t hr hc9
    refine W_seq ?_
    refine W_region rfl ?_
    refine da_op rfl (d_as (v := .bool false) rfl ?_)
    refine da_nil ?_
    refine W_ret ?_
    subst hr
    refine ⟨_, res1 (rv_tmp rfl), ?_⟩
    exact ⟨rfl, X7⟩
  · skip
    replace hr := bif_f hr hc9
    refine W_skip ?_
    refine W_seq ?_
    refine W_seq ?_
    refine W_region rfl ?_
    refine da_op rfl (d_fieldAddr rfl (fa104_1 _ _) ?_)
    refine da_op rfl (d_load (v := .int .i64 p0.b) rfl agg2 B8 rfl ?_)
    refine da_op rfl (d_fieldAddr rfl (fa104_1 _ _) ?_)
    refine da_op rfl (d_load (v := .int .i64 p1.b) rfl agg2 B4 rfl ?_)
    refine da_op rfl (d_icmp cNeq rfl rfl ?_)
    refine da_nil ?_
    refine W_cond (b := (icmp .neq p0.b p1.b)) rfl (fun hc10 => ?_) (fun hc10 => ?_)
    · skip
      replace hr := bif_t hr hc10
      refine W_seq ?_
      refine W_region rfl ?_
      refine da_op rfl (d_as (v := .bool false) rfl ?_)
      refine da_nil ?_
      refine W_ret ?_
      subst hr
      refine ⟨_, res1 (rv_tmp rfl), ?_⟩
      exact ⟨rfl, X7⟩
    · skip
      replace hr := bif_f hr hc10
      refine W_skip ?_
      refine W_seq ?_
      refine W_seq ?_
      refine W_region rfl ?_
      refine da_op rfl (d_fieldAddr rfl (fa104_2 _ _) ?_)
      refine da_op rfl (d_load (v := .float .f32 p0r2) rfl agg22 B8 rfl ?_)
      refine da_op rfl (d_widen un22 un95 rfl p0h2 fun r11 w11 h11 _ E11 => ?_)
      have X12 : Ext w w11 := X7.trans E11
      refine da_op rfl (d_fieldAddr rfl (fa104_2 _ _) ?_)
      have B13 : w11.heap[w1.heap.size]? = some (.cells #[.int .i64 p1.a, .int .i64 p1.b, .float .f32 p1r2] 104 (0, 0)) := E11.heap B4
      refine da_op rfl (d_load (v := .float .f32 p1r2) rfl agg22 B13 rfl ?_)
      refine da_op rfl (d_widen un22 un95 rfl p1h2 fun r14 w14 h14 _ E14 => ?_)
      have X15 : Ext w w14 := X12.trans E14
      obtain ⟨m16, hm16, hr⟩ := letv_out hr
      have B17 : w14.heap[w.heap.size]? = some (.cells #[.int .i64 p0.a, .int .i64 p0.b, .float .f32 p0r2] 104 (0, 0)) := E14.heap (E11.heap B8)
      have B18 : w14.heap[w1.heap.size]? = some (.cells #[.int .i64 p1.a, .int .i64 p1.b, .float .f32 p1r2] 104 (0, 0)) := E14.heap B13
      refine da_op rfl (d_cl (vs := [.float .f64 r11, .float .f64 r14]) en57 (ac rfl (ac rfl rfl)) rfl ?_)
      refine (c57 (widen p0.long) (widen p1.long) r11 r14 m16 w14 hm16 h11 h14).mono ?_
      rintro _ w19 ⟨rfl, E19⟩
      refine ⟨_, rfl, ?_⟩
      have X20 : Ext w w19 := X15.trans E19
      refine da_op rfl (d_not rfl ?_)
      refine da_nil ?_
      refine W_cond (b := (!m16)) rfl (fun hc21 => ?_) (fun hc21 => ?_)
      · skip
        replace hr := bif_t hr hc21
        refine W_seq ?_
        refine W_region rfl ?_
        refine da_op rfl (d_as (v := .bool false) rfl ?_)
        refine da_nil ?_
        refine W_ret ?_
        subst hr
        refine ⟨_, res1 (rv_tmp rfl), ?_⟩
        exact ⟨rfl, X20⟩
      · skip
        replace hr := bif_f hr hc21
        refine W_skip ?_
        refine W_seq ?_
        refine W_region rfl ?_
        refine da_op rfl (d_as (v := .bool true) rfl ?_)
        refine da_nil ?_
        refine W_ret ?_
        subst hr
        refine ⟨_, res1 (rv_tmp rfl), ?_⟩
        exact ⟨rfl, X20⟩
set_option maxHeartbeats 4000000 in
theorem c76 (p0 : List SRod) (p1 : List SRod) (p0a : Option Addr) (p0n : Nat) (p0c : Nat) (p1a : Option Addr) (p1n : Nat) (p1c : Nat) (r : Bool) (w : World) (hr : M.laws_eqRodS p0 p1 = some r) (p0R : RS w encSRod (Value.slice p0a p0n p0c) p0) (p1R : RS w encSRod (Value.slice p1a p1n p1c) p1) :
    Calls Try.prog 76 #[(Value.slice p0a p0n p0c), (Value.slice p1a p1n p1c)] w fun e w' => e = .returned (.bool r) ∧ Ext w w' := by
  refine calls_of_W Try.func76 rfl (Nat.le_of_ble_eq_true rfl) ?_
  refine W_seq ?_
  refine W_region rfl ?_
  refine da_op rfl (d_as (v := .bool false) rfl ?_)
  refine da_nil ?_
  refine W_seq ?_
  refine W_seq ?_
  refine W_region rfl ?_
  refine da_op rfl (d_mv (v := (Value.slice p0a p0n p0c)) rfl ?_)
  refine da_op rfl (d_len (e := encSRod) un49 rfl p0R ?_)
  refine da_op rfl (d_mv (v := (Value.slice p1a p1n p1c)) rfl ?_)
  refine da_op rfl (d_len (e := encSRod) un49 rfl p1R ?_)
  refine da_op rfl (d_icmp cNeq rfl rfl ?_)
  refine da_nil ?_
  refine W_cond (b := (icmp .neq ((p0).length : Int) ((p1).length : Int))) rfl (fun hc1 => ?_) (fun hc1 => ?_)
  · skip
    replace hr := bif_t hr hc1
    refine W_seq ?_
    refine W_region rfl ?_
    refine da_op rfl (d_as (v := .bool false) rfl ?_)
    refine da_nil ?_
    refine W_ret ?_
    obtain rfl := Option.some.inj hr
    refine ⟨_, res1 (rv_tmp rfl), ?_⟩
    exact ⟨rfl, (Ext.refl w)⟩
  · skip
    replace hr := bif_f hr hc1
    refine W_skip ?_
    refine W_seq ?_
    refine W_seq ?_
    refine W_region rfl ?_
    refine da_op rfl (d_as (v := .int .i64 0) rfl ?_)
    refine da_nil ?_
    refine W_block ?_
    obtain ⟨m2, hm2, hr⟩ := bind_out hr
    refine W_loopM hm2 (fun (s2 : Int) σ w' => σ 5 = .int .i64 s2 ∧ σ 0 = (Value.slice p0a p0n p0c) ∧ σ 1 = (Value.slice p1a p1n p1c) ∧ Ext w w') (fun (e2 : (Unit ⊕ Bool)) ex σ w' => sel e2 (fun e2 => ex = .exit 0 ∧ Ext w w') (fun e2 => ex = .ret ∧ σ 4 = .bool e2 ∧ Ext w w')) ⟨rfl, rfl, rfl, (Ext.refl w)⟩ ?_ ?_
    · skip
      rintro s2 σl2 wl2 r2l ⟨i2_S5, i2_S0, i2_S1, i2_X⟩ hr
      refine W_seq ?_
      refine W_seq ?_
      refine W_region rfl ?_
      refine da_op rfl (d_mv (v := .int .i64 s2) i2_S5 ?_)
      refine da_op rfl (d_mv (v := (Value.slice p0a p0n p0c)) i2_S0 ?_)
      have B3 : RS wl2 encSRod (Value.slice p0a p0n p0c) p0 := p0R.ext i2_X
      refine da_op rfl (d_len (e := encSRod) un49 rfl B3 ?_)
      refine da_op rfl (d_icmp cLss rfl rfl ?_)
      refine da_nil ?_
      refine W_cond (b := (icmp .lss s2 ((p0).length : Int))) rfl (fun hc4 => ?_) (fun hc4 => ?_)
      · skip
        replace hr := bif_t hr hc4
        refine W_skip ?_
        refine W_seq ?_
        refine W_block ?_
        refine W_seq ?_
        have B6 : RS wl2 encSRod (Value.slice p1a p1n p1c) p1 := p1R.ext i2_X
        obtain ⟨m7, hm7, hr⟩ := bind_out hr
        obtain ⟨m8, hm8, hr⟩ := bind_out hr
        obtain ⟨m9, hm9, hr⟩ := letv_out hr
        refine W_any [] [{ V := fun _ v _ => v = (Value.slice p0a p0n p0c) }, { V := fun _ v _ => v = (.int .i64 s2) }, { V := fun _ v _ => ∃ d5_2g : Nat, ∃ d5_2o : Nat, v = (.pointer (some ⟨d5_2g, d5_2o, none⟩)) ∧ EL encSRod (Value.slice p0a p0n p0c) (p0).length s2 d5_2g d5_2o }, { V := fun _ v _ => ∃ d5_2r2 : Nat, v = (.agg #[.int .i64 m7.a, .int .i64 m7.b, .float .f32 d5_2r2]) ∧ cn .f32 d5_2r2 = m7.long }, { V := fun _ v _ => v = (Value.slice p1a p1n p1c) }, { V := fun _ v _ => v = (.int .i64 s2) }, { V := fun _ v _ => ∃ d5_6g : Nat, ∃ d5_6o : Nat, v = (.pointer (some ⟨d5_6g, d5_6o, none⟩)) ∧ EL encSRod (Value.slice p1a p1n p1c) (p1).length s2 d5_6g d5_6o }, { V := fun _ v _ => ∃ d5_6r2 : Nat, v = (.agg #[.int .i64 m8.a, .int .i64 m8.b, .float .f32 d5_6r2]) ∧ cn .f32 d5_6r2 = m8.long }, { V := fun _ v _ => v = (.bool m9) }, { V := fun _ v _ => v = (.bool (!m9)) }] mixed (by kernel_rfl) ⟨trivial, trivial, trivial, trivial, trivial, trivial, trivial, trivial, trivial, trivial, trivial⟩ ⟨?_, ?_, ?_, ?_, ?_, ?_, ?_, ?_, ?_, ?_, trivial⟩ ?_
        · skip
          refine ⟨fun _ _ _ _ _ _ h _ => h, fun _ _ h _ => h, fun σ' w' hA hE hD hP => ?_⟩
          have t0 : σ' 0 = (Value.slice p0a p0n p0c) := (hA 0 rfl).trans i2_S0
          have B0_10 : RS w' encSRod (Value.slice p0a p0n p0c) p0 := B3.frm hE (fun k _ hk => not_oth0)
          refine dg_op rfl (d_mv (v := (Value.slice p0a p0n p0c)) t0 ?_)
          exact ⟨rfl, own_none (Ext.refl w')⟩
        · skip
          refine ⟨fun _ _ _ _ _ _ h _ => h, fun _ _ h _ => h, fun σ' w' hA hE hD hP => ?_⟩
          have t5 : σ' 5 = .int .i64 s2 := (hA 5 rfl).trans i2_S5
          refine dg_op rfl (d_mv (v := .int .i64 s2) t5 ?_)
          exact ⟨rfl, own_none (Ext.refl w')⟩
        · skip
          refine ⟨fun _ _ _ _ _ _ h _ => h, fun _ _ h _ => h, fun σ' w' hA hE hD hP => ?_⟩
          have t17 : σ' 17 = (Value.slice p0a p0n p0c) := hD 0 rfl
          have t18 : σ' 18 = (.int .i64 s2) := hD 1 rfl
          have B0_11 : RS w' encSRod (Value.slice p0a p0n p0c) p0 := B3.frm hE (fun k _ hk => not_oth0)
          refine dg_op rfl (d_indexE (e := encSRod) (v := (Value.slice p0a p0n p0c)) un49 size104 t17 t18 B0_11 hm7 fun g12 o12 l12 => ?_)
          exact ⟨⟨g12, o12, rfl, l12⟩, own_none (Ext.refl _)⟩
        · skip
          refine ⟨fun _ _ _ _ _ _ h _ => h, fun _ _ h _ => h, fun σ' w' hA hE hD hP => ?_⟩
          obtain ⟨d5_2g, d5_2o, t19, d5_2gE⟩ : ∃ d5_2g : Nat, ∃ d5_2o : Nat, σ' 19 = (.pointer (some ⟨d5_2g, d5_2o, none⟩)) ∧ EL encSRod (Value.slice p0a p0n p0c) (p0).length s2 d5_2g d5_2o := hD 2 rfl
          have B0_13 : RS w' encSRod (Value.slice p0a p0n p0c) p0 := B3.frm hE (fun k _ hk => not_oth0)
          obtain ⟨d5_2c, d5_2T, d5_2f, d5_2vs, d5_2hg, d5_2P, d5_2hq⟩ := RS.el B0_13 d5_2gE hm7
          obtain ⟨d5_2r2, rfl, d5_2h2⟩ := dec_encSRod d5_2hq
          refine dg_op rfl (d_loads (vs := #[.int .i64 m7.a, .int .i64 m7.b, .float .f32 d5_2r2]) t19 agg104 size104 d5_2hg (sub_take (vs := #[.int .i64 m7.a, .int .i64 m7.b, .float .f32 d5_2r2]) (us := #[.int .i64 m7.a, .int .i64 m7.b, .float .f32 d5_2r2]) (i := 0) d5_2P rfl (Nat.le_of_ble_eq_true rfl)) ?_)
          exact ⟨⟨d5_2r2, rfl, d5_2h2⟩, own_none (Ext.refl w')⟩
        · skip
          refine ⟨fun _ _ _ _ _ _ h _ => h, fun _ _ h _ => h, fun σ' w' hA hE hD hP => ?_⟩
          have t1 : σ' 1 = (Value.slice p1a p1n p1c) := (hA 1 rfl).trans i2_S1
          have B0_14 : RS w' encSRod (Value.slice p1a p1n p1c) p1 := B6.frm hE (fun k _ hk => not_oth0)
          refine dg_op rfl (d_mv (v := (Value.slice p1a p1n p1c)) t1 ?_)
          exact ⟨rfl, own_none (Ext.refl w')⟩
        · skip
          refine ⟨fun _ _ _ _ _ _ h _ => h, fun _ _ h _ => h, fun σ' w' hA hE hD hP => ?_⟩
          have t5 : σ' 5 = .int .i64 s2 := (hA 5 rfl).trans i2_S5
          refine dg_op rfl (d_mv (v := .int .i64 s2) t5 ?_)
          exact ⟨rfl, own_none (Ext.refl w')⟩
        · skip
          refine ⟨fun _ _ _ _ _ _ h _ => h, fun _ _ h _ => h, fun σ' w' hA hE hD hP => ?_⟩
          have t21 : σ' 21 = (Value.slice p1a p1n p1c) := hD 4 rfl
          have t22 : σ' 22 = (.int .i64 s2) := hD 5 rfl
          have B0_15 : RS w' encSRod (Value.slice p1a p1n p1c) p1 := B6.frm hE (fun k _ hk => not_oth0)
          refine dg_op rfl (d_indexE (e := encSRod) (v := (Value.slice p1a p1n p1c)) un49 size104 t21 t22 B0_15 hm8 fun g16 o16 l16 => ?_)
          exact ⟨⟨g16, o16, rfl, l16⟩, own_none (Ext.refl _)⟩
        · skip
          refine ⟨fun _ _ _ _ _ _ h _ => h, fun _ _ h _ => h, fun σ' w' hA hE hD hP => ?_⟩
          obtain ⟨d5_6g, d5_6o, t23, d5_6gE⟩ : ∃ d5_6g : Nat, ∃ d5_6o : Nat, σ' 23 = (.pointer (some ⟨d5_6g, d5_6o, none⟩)) ∧ EL encSRod (Value.slice p1a p1n p1c) (p1).length s2 d5_6g d5_6o := hD 6 rfl
          have B0_17 : RS w' encSRod (Value.slice p1a p1n p1c) p1 := B6.frm hE (fun k _ hk => not_oth0)
          obtain ⟨d5_6c, d5_6T, d5_6f, d5_6vs, d5_6hg, d5_6P, d5_6hq⟩ := RS.el B0_17 d5_6gE hm8
          obtain ⟨d5_6r2, rfl, d5_6h2⟩ := dec_encSRod d5_6hq
          refine dg_op rfl (d_loads (vs := #[.int .i64 m8.a, .int .i64 m8.b, .float .f32 d5_6r2]) t23 agg104 size104 d5_6hg (sub_take (vs := #[.int .i64 m8.a, .int .i64 m8.b, .float .f32 d5_6r2]) (us := #[.int .i64 m8.a, .int .i64 m8.b, .float .f32 d5_6r2]) (i := 0) d5_6P rfl (Nat.le_of_ble_eq_true rfl)) ?_)
          exact ⟨⟨d5_6r2, rfl, d5_6h2⟩, own_none (Ext.refl w')⟩
        · skip
          refine ⟨fun _ _ _ _ _ _ h _ => h, fun _ _ h _ => h, fun σ' w' hA hE hD hP => ?_⟩
          obtain ⟨d5_2r2, t20, d5_2h2⟩ : ∃ d5_2r2 : Nat, σ' 20 = (.agg #[.int .i64 m7.a, .int .i64 m7.b, .float .f32 d5_2r2]) ∧ cn .f32 d5_2r2 = m7.long := hD 3 rfl
          obtain ⟨d5_6r2, t24, d5_6h2⟩ : ∃ d5_6r2 : Nat, σ' 24 = (.agg #[.int .i64 m8.a, .int .i64 m8.b, .float .f32 d5_6r2]) ∧ cn .f32 d5_6r2 = m8.long := hD 7 rfl
          refine dg_op rfl (d_cl (vs := [.agg #[.int .i64 m7.a, .int .i64 m7.b, .float .f32 d5_2r2], .agg #[.int .i64 m8.a, .int .i64 m8.b, .float .f32 d5_6r2]]) en108 (ac t20 (ac t24 rfl)) rfl ?_)
          refine (c108 m7 m8 d5_2r2 d5_6r2 m9 w' hm9 d5_2h2 d5_6h2).mono ?_
          rintro _ w18 ⟨rfl, E18⟩
          refine ⟨_, rfl, ?_⟩
          have X19 : Ext w' w18 := (Ext.refl w').trans E18
          exact ⟨rfl, own_none X19⟩
        · skip
          refine ⟨fun _ _ _ _ _ _ h _ => h, fun _ _ h _ => h, fun σ' w' hA hE hD hP => ?_⟩
          have t25 : σ' 25 = (.bool m9) := hD 8 rfl
          refine dg_op rfl (d_not t25 ?_)
          exact ⟨rfl, own_none (Ext.refl w')⟩
        · skip
          intro σ5 w5 A5 E5 V5
          have E5x : Ext wl2 w5 := ext_of_oth0 E5
          have s26_5 : σ5 26 = (.bool (!m9)) := V5 9 (Nat.le_of_ble_eq_true rfl)
          have s5_5 : σ5 5 = .int .i64 s2 := (A5 5 rfl).trans i2_S5
          have s0_5 : σ5 0 = (Value.slice p0a p0n p0c) := (A5 0 rfl).trans i2_S0
          have s1_5 : σ5 1 = (Value.slice p1a p1n p1c) := (A5 1 rfl).trans i2_S1
          have X20 : Ext w w5 := i2_X.trans E5x
          refine W_cond (b := (!m9)) s26_5 (fun hc21 => ?_) (fun hc21 => ?_)
          · skip
            replace hr := bif_t hr hc21
            refine W_seq ?_
            refine W_region rfl ?_
            refine da_op rfl (d_as (v := .bool false) rfl ?_)
            refine da_nil ?_
            refine W_ret ?_
            obtain rfl := Option.some.inj hr
            exact ⟨_, rfl, rfl, rfl, X20⟩
          · skip
            replace hr := bif_f hr hc21
            refine W_skip ?_
            refine W_region rfl ?_
            refine da_op rfl (d_mv (v := .int .i64 s2) s5_5 ?_)
            refine da_op rfl (d_iarith rfl rfl (.inl ⟨rfl, rfl⟩) ?_)
            refine da_op rfl (d_as (v := .int .i64 (IntKind.i64.wrap (s2 + 1))) rfl ?_)
            refine da_nil ?_
            obtain rfl := Option.some.inj hr
            exact ⟨_, rfl, ⟨rfl, s0_5, s1_5, X20⟩⟩
      · skip
        replace hr := bif_f hr hc4
        refine W_exit ?_
        obtain rfl := Option.some.inj hr
        exact ⟨_, rfl, rfl, i2_X⟩
    · skip
      intro ex σx2 wx2 hq
      rcases m2 with m2 | m2
      · skip
        obtain ⟨rfl, q2_0_X⟩ := hq
        refine W_seq ?_
        refine W_region rfl ?_
        refine da_op rfl (d_as (v := .bool true) rfl ?_)
        refine da_nil ?_
        refine W_ret ?_
        obtain rfl := Option.some.inj hr
        refine ⟨_, res1 (rv_tmp rfl), ?_⟩
        exact ⟨rfl, q2_0_X⟩
      · skip
        obtain ⟨rfl, q2_1_S4, q2_1_X⟩ := hq
        obtain rfl := Option.some.inj hr
        refine ⟨_, res1 (rv_tmp q2_1_S4), ?_⟩
        exact ⟨rfl, q2_1_X⟩
set_option maxHeartbeats 4000000 in
theorem c41 (p0 : SChain) (p1 : SChain) (p0v0a : Option Addr) (p0v0n : Nat) (p0v0c : Nat) (p0v1a : Option Addr) (p0v1n : Nat) (p0v1c : Nat) (p0v2a : Option Addr) (p0v2n : Nat) (p0v2c : Nat) (p0v3a : Option Addr) (p0v3n : Nat) (p0v3c : Nat) (p1v0a : Option Addr) (p1v0n : Nat) (p1v0c : Nat) (p1v1a : Option Addr) (p1v1n : Nat) (p1v1c : Nat) (p1v2a : Option Addr) (p1v2n : Nat) (p1v2c : Nat) (p1v3a : Option Addr) (p1v3n : Nat) (p1v3c : Nat) (r : Bool) (w : World) (hr : M.laws_eqChain p0 p1 = some r) (p0v0R : RS w encSVector (Value.slice p0v0a p0v0n p0v0c) p0.places) (p0v1R : RS w encSVector (Value.slice p0v1a p0v1n p0v1c) p0.before) (p0v2R : RS w encF_f32 (Value.slice p0v2a p0v2n p0v2c) p0.weights) (p0v3R : RS w encSRod (Value.slice p0v3a p0v3n p0v3c) p0.rods) (p1v0R : RS w encSVector (Value.slice p1v0a p1v0n p1v0c) p1.places) (p1v1R : RS w encSVector (Value.slice p1v1a p1v1n p1v1c) p1.before) (p1v2R : RS w encF_f32 (Value.slice p1v2a p1v2n p1v2c) p1.weights) (p1v3R : RS w encSRod (Value.slice p1v3a p1v3n p1v3c) p1.rods) :
    Calls Try.prog 41 #[.agg #[(Value.slice p0v0a p0v0n p0v0c), (Value.slice p0v1a p0v1n p0v1c), (Value.slice p0v2a p0v2n p0v2c), (Value.slice p0v3a p0v3n p0v3c)], .agg #[(Value.slice p1v0a p1v0n p1v0c), (Value.slice p1v1a p1v1n p1v1c), (Value.slice p1v2a p1v2n p1v2c), (Value.slice p1v3a p1v3n p1v3c)]] w fun e w' => e = .returned (.bool r) ∧ Ext w w' := by
  refine calls_of_W Try.func41 rfl (Nat.le_of_ble_eq_true rfl) ?_
  refine W_seq ?_
  refine W_region rfl ?_
  refine da_op rfl (d_box (cs := #[(Value.slice p0v0a p0v0n p0v0c), (Value.slice p0v1a p0v1n p0v1c), (Value.slice p0v2a p0v2n p0v2c), (Value.slice p0v3a p0v3n p0v3c)]) rfl fun w1 B1 E1 => ?_)
  have own2 : w.heap.size ≤ w.heap.size := Nat.le_trans (Ext.refl w).size (Nat.le_refl _)
  have X3 : Ext w w1 := (Ext.refl w).trans E1
  refine da_op rfl (d_box (cs := #[(Value.slice p1v0a p1v0n p1v0c), (Value.slice p1v1a p1v1n p1v1c), (Value.slice p1v2a p1v2n p1v2c), (Value.slice p1v3a p1v3n p1v3c)]) rfl fun w4 B4 E4 => ?_)
  have own5 : w.heap.size ≤ w1.heap.size := Nat.le_trans X3.size (Nat.le_refl _)
  have sp6 : w.heap.size ≠ w1.heap.size := Nat.ne_of_lt (Nat.lt_of_lt_of_le (lt_heap B1) (Nat.le_refl _))
  have X7 : Ext w w4 := X3.trans E4
  refine da_op rfl (d_as (v := .bool false) rfl ?_)
  refine da_nil ?_
  refine W_seq ?_
  refine W_seq ?_
  refine W_region rfl ?_
  refine da_op rfl (d_fieldAddr rfl (fa51_0 _ _) ?_)
  have B8 : w4.heap[w.heap.size]? = some (.cells #[(Value.slice p0v0a p0v0n p0v0c), (Value.slice p0v1a p0v1n p0v1c), (Value.slice p0v2a p0v2n p0v2c), (Value.slice p0v3a p0v3n p0v3c)] 51 (0, 0)) := E4.heap B1
  refine da_op rfl (d_load (v := (Value.slice p0v0a p0v0n p0v0c)) rfl agg33 B8 rfl ?_)
  refine da_op rfl (d_fieldAddr rfl (fa51_0 _ _) ?_)
  refine da_op rfl (d_load (v := (Value.slice p1v0a p1v0n p1v0c)) rfl agg33 B4 rfl ?_)
  obtain ⟨m9, hm9, hr⟩ := bind_out hr
  have B10 : RS w4 encSVector (Value.slice p0v0a p0v0n p0v0c) p0.places := p0v0R.ext X7
  have B11 : RS w4 encSVector (Value.slice p1v0a p1v0n p1v0c) p1.places := p1v0R.ext X7
  refine da_op rfl (d_cl (vs := [(Value.slice p0v0a p0v0n p0v0c), (Value.slice p1v0a p1v0n p1v0c)]) en11 (ac rfl (ac rfl rfl)) rfl ?_)
  refine (c11 p0.places p1.places p0v0a p0v0n p0v0c p1v0a p1v0n p1v0c m9 w4 hm9 B10 B11).mono ?_
  rintro _ w12 ⟨rfl, E12⟩
  refine ⟨_, rfl, ?_⟩
  have X13 : Ext w w12 := X7.trans E12
  refine da_op rfl (d_not rfl ?_)
  refine da_nil ?_
  refine W_cond (b := (!m9)) rfl (fun hc14 => ?_) (fun hc14 => ?_)
  · skip
    replace hr := bif_t hr hc14
    refine W_seq ?_
    refine W_region rfl ?_
    refine da_op rfl (d_as (v := .bool false) rfl ?_)
    refine da_nil ?_
    refine W_ret ?_
    obtain rfl := Option.some.inj hr
    refine ⟨_, res1 (rv_tmp rfl), ?_⟩
    exact ⟨rfl, X13⟩
  · skip
    replace hr := bif_f hr hc14
    refine W_skip ?_
    refine W_seq ?_
    refine W_seq ?_
    refine W_region rfl ?_
    refine da_op rfl (d_fieldAddr rfl (fa51_1 _ _) ?_)
    have B15 : w12.heap[w.heap.size]? = some (.cells #[(Value.slice p0v0a p0v0n p0v0c), (Value.slice p0v1a p0v1n p0v1c), (Value.slice p0v2a p0v2n p0v2c), (Value.slice p0v3a p0v3n p0v3c)] 51 (0, 0)) := E12.heap B8
    refine da_op rfl (d_load (v := (Value.slice p0v1a p0v1n p0v1c)) rfl agg33 B15 rfl ?_)
    refine da_op rfl (d_fieldAddr rfl (fa51_1 _ _) ?_)
    have B16 : w12.heap[w1.heap.size]? = some (.cells #[(Value.slice p1v0a p1v0n p1v0c), (Value.slice p1v1a p1v1n p1v1c), (Value.slice p1v2a p1v2n p1v2c), (Value.slice p1v3a p1v3n p1v3c)] 51 (0, 0)) := E12.heap B4
    refine da_op rfl (d_load (v := (Value.slice p1v1a p1v1n p1v1c)) rfl agg33 B16 rfl ?_)
    obtain ⟨m17, hm17, hr⟩ := bind_out hr
    have B18 : RS w12 encSVector (Value.slice p0v1a p0v1n p0v1c) p0.before := p0v1R.ext X13
    have B19 : RS w12 encSVector (Value.slice p1v1a p1v1n p1v1c) p1.before := p1v1R.ext X13
    refine da_op rfl (d_cl (vs := [(Value.slice p0v1a p0v1n p0v1c), (Value.slice p1v1a p1v1n p1v1c)]) en11 (ac rfl (ac rfl rfl)) rfl ?_)
    refine (c11 p0.before p1.before p0v1a p0v1n p0v1c p1v1a p1v1n p1v1c m17 w12 hm17 B18 B19).mono ?_
    rintro _ w20 ⟨rfl, E20⟩
    refine ⟨_, rfl, ?_⟩
    have X21 : Ext w w20 := X13.trans E20
    refine da_op rfl (d_not rfl ?_)
    refine da_nil ?_
    refine W_cond (b := (!m17)) rfl (fun hc22 => ?_) (fun hc22 => ?_)
    · skip
      replace hr := bif_t hr hc22
      refine W_seq ?_
      refine W_region rfl ?_
      refine da_op rfl (d_as (v := .bool false) rfl ?_)
      refine da_nil ?_
      refine W_ret ?_
      obtain rfl := Option.some.inj hr
      refine ⟨_, res1 (rv_tmp rfl), ?_⟩
      exact ⟨rfl, X21⟩
    · skip
      replace hr := bif_f hr hc22
      refine W_skip ?_
      refine W_seq ?_
      refine W_seq ?_
      refine W_region rfl ?_
      refine da_op rfl (d_fieldAddr rfl (fa51_2 _ _) ?_)
      have B23 : w20.heap[w.heap.size]? = some (.cells #[(Value.slice p0v0a p0v0n p0v0c), (Value.slice p0v1a p0v1n p0v1c), (Value.slice p0v2a p0v2n p0v2c), (Value.slice p0v3a p0v3n p0v3c)] 51 (0, 0)) := E20.heap B15
      refine da_op rfl (d_load (v := (Value.slice p0v2a p0v2n p0v2c)) rfl agg48 B23 rfl ?_)
      refine da_op rfl (d_fieldAddr rfl (fa51_2 _ _) ?_)
      have B24 : w20.heap[w1.heap.size]? = some (.cells #[(Value.slice p1v0a p1v0n p1v0c), (Value.slice p1v1a p1v1n p1v1c), (Value.slice p1v2a p1v2n p1v2c), (Value.slice p1v3a p1v3n p1v3c)] 51 (0, 0)) := E20.heap B16
      refine da_op rfl (d_load (v := (Value.slice p1v2a p1v2n p1v2c)) rfl agg48 B24 rfl ?_)
      obtain ⟨m25, hm25, hr⟩ := bind_out hr
      have B26 : RS w20 encF_f32 (Value.slice p0v2a p0v2n p0v2c) p0.weights := p0v2R.ext X21
      have B27 : RS w20 encF_f32 (Value.slice p1v2a p1v2n p1v2c) p1.weights := p1v2R.ext X21
      refine da_op rfl (d_cl (vs := [(Value.slice p0v2a p0v2n p0v2c), (Value.slice p1v2a p1v2n p1v2c)]) en75 (ac rfl (ac rfl rfl)) rfl ?_)
      refine (c75 p0.weights p1.weights p0v2a p0v2n p0v2c p1v2a p1v2n p1v2c m25 w20 hm25 B26 B27).mono ?_
      rintro _ w28 ⟨rfl, E28⟩
      refine ⟨_, rfl, ?_⟩
      have X29 : Ext w w28 := X21.trans E28
      refine da_op rfl (d_not rfl ?_)
      refine da_nil ?_
      refine W_cond (b := (!m25)) rfl (fun hc30 => ?_) (fun hc30 => ?_)
      · skip
        replace hr := bif_t hr hc30
        refine W_seq ?_
        refine W_region rfl ?_
        refine da_op rfl (d_as (v := .bool false) rfl ?_)
        refine da_nil ?_
        refine W_ret ?_
        obtain rfl := Option.some.inj hr
        refine ⟨_, res1 (rv_tmp rfl), ?_⟩
        exact ⟨rfl, X29⟩
      · skip
        replace hr := bif_f hr hc30
        refine W_skip ?_
        refine W_seq ?_
        refine W_seq ?_
        refine W_region rfl ?_
        refine da_op rfl (d_fieldAddr rfl (fa51_3 _ _) ?_)
        have B31 : w28.heap[w.heap.size]? = some (.cells #[(Value.slice p0v0a p0v0n p0v0c), (Value.slice p0v1a p0v1n p0v1c), (Value.slice p0v2a p0v2n p0v2c), (Value.slice p0v3a p0v3n p0v3c)] 51 (0, 0)) := E28.heap B23
        refine da_op rfl (d_load (v := (Value.slice p0v3a p0v3n p0v3c)) rfl agg49 B31 rfl ?_)
        refine da_op rfl (d_fieldAddr rfl (fa51_3 _ _) ?_)
        have B32 : w28.heap[w1.heap.size]? = some (.cells #[(Value.slice p1v0a p1v0n p1v0c), (Value.slice p1v1a p1v1n p1v1c), (Value.slice p1v2a p1v2n p1v2c), (Value.slice p1v3a p1v3n p1v3c)] 51 (0, 0)) := E28.heap B24
        refine da_op rfl (d_load (v := (Value.slice p1v3a p1v3n p1v3c)) rfl agg49 B32 rfl ?_)
        obtain ⟨m33, hm33, hr⟩ := bind_out hr
        have B34 : RS w28 encSRod (Value.slice p0v3a p0v3n p0v3c) p0.rods := p0v3R.ext X29
        have B35 : RS w28 encSRod (Value.slice p1v3a p1v3n p1v3c) p1.rods := p1v3R.ext X29
        refine da_op rfl (d_cl (vs := [(Value.slice p0v3a p0v3n p0v3c), (Value.slice p1v3a p1v3n p1v3c)]) en76 (ac rfl (ac rfl rfl)) rfl ?_)
        refine (c76 p0.rods p1.rods p0v3a p0v3n p0v3c p1v3a p1v3n p1v3c m33 w28 hm33 B34 B35).mono ?_
        rintro _ w36 ⟨rfl, E36⟩
        refine ⟨_, rfl, ?_⟩
        have X37 : Ext w w36 := X29.trans E36
        refine da_op rfl (d_not rfl ?_)
        refine da_nil ?_
        refine W_cond (b := (!m33)) rfl (fun hc38 => ?_) (fun hc38 => ?_)
        · skip
          replace hr := bif_t hr hc38
          refine W_seq ?_
          refine W_region rfl ?_
          refine da_op rfl (d_as (v := .bool false) rfl ?_)
          refine da_nil ?_
          refine W_ret ?_
          obtain rfl := Option.some.inj hr
          refine ⟨_, res1 (rv_tmp rfl), ?_⟩
          exact ⟨rfl, X37⟩
        · skip
          replace hr := bif_f hr hc38
          refine W_skip ?_
          refine W_seq ?_
          refine W_region rfl ?_
          refine da_op rfl (d_as (v := .bool true) rfl ?_)
          refine da_nil ?_
          refine W_ret ?_
          obtain rfl := Option.some.inj hr
          refine ⟨_, res1 (rv_tmp rfl), ?_⟩
          exact ⟨rfl, X37⟩
set_option maxHeartbeats 4000000 in
theorem c29 (p0 : SSpin) (p1 : SSpin) (p0r0 : Nat) (p0r1 : Nat) (p0r2 : Nat) (p0r3 : Nat) (p1r0 : Nat) (p1r1 : Nat) (p1r2 : Nat) (p1r3 : Nat) (r : Bool) (w : World) (hr : M.laws_eqSpin p0 p1 = r) (p0h0 : cn .f32 p0r0 = p0.w) (p0h1 : cn .f32 p0r1 = p0.x) (p0h2 : cn .f32 p0r2 = p0.y) (p0h3 : cn .f32 p0r3 = p0.z) (p1h0 : cn .f32 p1r0 = p1.w) (p1h1 : cn .f32 p1r1 = p1.x) (p1h2 : cn .f32 p1r2 = p1.y) (p1h3 : cn .f32 p1r3 = p1.z) :
    Calls Try.prog 29 #[.agg #[.float .f32 p0r0, .float .f32 p0r1, .float .f32 p0r2, .float .f32 p0r3], .agg #[.float .f32 p1r0, .float .f32 p1r1, .float .f32 p1r2, .float .f32 p1r3]] w fun e w' => e = .returned (.bool r) ∧ Ext w w' := by
  refine calls_of_W Try.func29 rfl (Nat.le_of_ble_eq_true rfl) ?_
  refine W_seq ?_
  refine W_region rfl ?_
  refine da_op rfl (d_box (cs := #[.float .f32 p0r0, .float .f32 p0r1, .float .f32 p0r2, .float .f32 p0r3]) rfl fun w1 B1 E1 => ?_)
  have own2 : w.heap.size ≤ w.heap.size := Nat.le_trans (Ext.refl w).size (Nat.le_refl _)
  have X3 : Ext w w1 := (Ext.refl w).trans E1
  refine da_op rfl (d_box (cs := #[.float .f32 p1r0, .float .f32 p1r1, .float .f32 p1r2, .float .f32 p1r3]) rfl fun w4 B4 E4 => ?_)
  have own5 : w.heap.size ≤ w1.heap.size := Nat.le_trans X3.size (Nat.le_refl _)
  have sp6 : w.heap.size ≠ w1.heap.size := Nat.ne_of_lt (Nat.lt_of_lt_of_le (lt_heap B1) (Nat.le_refl _))
  have X7 : Ext w w4 := X3.trans E4
  refine da_op rfl (d_as (v := .bool false) rfl ?_)
  refine da_nil ?_
  refine W_seq ?_
  refine W_seq ?_
  refine W_region rfl ?_
  refine da_op rfl (d_fieldAddr rfl (fa30_0 _ _) ?_)
  have B8 : w4.heap[w.heap.size]? = some (.cells #[.float .f32 p0r0, .float .f32 p0r1, .float .f32 p0r2, .float .f32 p0r3] 30 (0, 0)) := E4.heap B1
  refine da_op rfl (d_load (v := .float .f32 p0r0) rfl agg22 B8 rfl ?_)
  refine da_op rfl (d_widen un22 un95 rfl p0h0 fun r9 w9 h9 _ E9 => ?_)
  have X10 : Ext w w9 := X7.trans E9
  refine da_op rfl (d_fieldAddr rfl (fa30_0 _ _) ?_)
  have B11 : w9.heap[w1.heap.size]? = some (.cells #[.float .f32 p1r0, .float .f32 p1r1, .float .f32 p1r2, .float .f32 p1r3] 30 (0, 0)) := E9.heap B4
  refine da_op rfl (d_load (v := .float .f32 p1r0) rfl agg22 B11 rfl ?_)
  refine da_op rfl (d_widen un22 un95 rfl p1h0 fun r12 w12 h12 _ E12 => ?_)
  have X13 : Ext w w12 := X10.trans E12
  obtain ⟨m14, hm14, hr⟩ := letv_out hr
  have B15 : w12.heap[w.heap.size]? = some (.cells #[.float .f32 p0r0, .float .f32 p0r1, .float .f32 p0r2, .float .f32 p0r3] 30 (0, 0)) := E12.heap (E9.heap B8)
  have B16 : w12.heap[w1.heap.size]? = some (.cells #[.float .f32 p1r0, .float .f32 p1r1, .float .f32 p1r2, .float .f32 p1r3] 30 (0, 0)) := E12.heap B11
  refine da_op rfl (d_cl (vs := [.float .f64 r9, .float .f64 r12]) en57 (ac rfl (ac rfl rfl)) rfl ?_)
  refine (c57 (widen p0.w) (widen p1.w) r9 r12 m14 w12 hm14 h9 h12).mono ?_
  rintro _ w17 ⟨rfl, E17⟩
  refine ⟨_, rfl, ?_⟩
  have X18 : Ext w w17 := X13.trans E17
  refine da_op rfl (d_not rfl ?_)
  refine da_nil ?_
  refine W_cond (b := (!m14)) rfl (fun hc19 => ?_) (fun hc19 => ?_)
  · skip
    replace hr := bif_t hr hc19
    refine W_seq ?_
    refine W_region rfl ?_
    refine da_op rfl (d_as (v := .bool false) rfl ?_)
    refine da_nil ?_
    refine W_ret ?_
    subst hr
    refine ⟨_, res1 (rv_tmp rfl), ?_⟩
    exact ⟨rfl, X18⟩
  · skip
    replace hr := bif_f hr hc19
    refine W_skip ?_
    refine W_seq ?_
    refine W_seq ?_
    refine W_region rfl ?_
    refine da_op rfl (d_fieldAddr rfl (fa30_1 _ _) ?_)
    have B20 : w17.heap[w.heap.size]? = some (.cells #[.float .f32 p0r0, .float .f32 p0r1, .float .f32 p0r2, .float .f32 p0r3] 30 (0, 0)) := E17.heap B15
    refine da_op rfl (d_load (v := .float .f32 p0r1) rfl agg22 B20 rfl ?_)
    refine da_op rfl (d_widen un22 un95 rfl p0h1 fun r21 w21 h21 _ E21 => ?_)
    have X22 : Ext w w21 := X18.trans E21
    refine da_op rfl (d_fieldAddr rfl (fa30_1 _ _) ?_)
    have B23 : w21.heap[w1.heap.size]? = some (.cells #[.float .f32 p1r0, .float .f32 p1r1, .float .f32 p1r2, .float .f32 p1r3] 30 (0, 0)) := E21.heap (E17.heap B16)
    refine da_op rfl (d_load (v := .float .f32 p1r1) rfl agg22 B23 rfl ?_)
    refine da_op rfl (d_widen un22 un95 rfl p1h1 fun r24 w24 h24 _ E24 => ?_)
    have X25 : Ext w w24 := X22.trans E24
    obtain ⟨m26, hm26, hr⟩ := letv_out hr
    have B27 : w24.heap[w.heap.size]? = some (.cells #[.float .f32 p0r0, .float .f32 p0r1, .float .f32 p0r2, .float .f32 p0r3] 30 (0, 0)) := E24.heap (E21.heap B20)
    have B28 : w24.heap[w1.heap.size]? = some (.cells #[.float .f32 p1r0, .float .f32 p1r1, .float .f32 p1r2, .float .f32 p1r3] 30 (0, 0)) := E24.heap B23
    refine da_op rfl (d_cl (vs := [.float .f64 r21, .float .f64 r24]) en57 (ac rfl (ac rfl rfl)) rfl ?_)
    refine (c57 (widen p0.x) (widen p1.x) r21 r24 m26 w24 hm26 h21 h24).mono ?_
    rintro _ w29 ⟨rfl, E29⟩
    refine ⟨_, rfl, ?_⟩
    have X30 : Ext w w29 := X25.trans E29
    refine da_op rfl (d_not rfl ?_)
    refine da_nil ?_
    refine W_cond (b := (!m26)) rfl (fun hc31 => ?_) (fun hc31 => ?_)
    · skip
      replace hr := bif_t hr hc31
      refine W_seq ?_
      refine W_region rfl ?_
      refine da_op rfl (d_as (v := .bool false) rfl ?_)
      refine da_nil ?_
      refine W_ret ?_
      subst hr
      refine ⟨_, res1 (rv_tmp rfl), ?_⟩
      exact ⟨rfl, X30⟩
    · skip
      replace hr := bif_f hr hc31
      refine W_skip ?_
      refine W_seq ?_
      refine W_seq ?_
      refine W_region rfl ?_
      refine da_op rfl (d_fieldAddr rfl (fa30_2 _ _) ?_)
      have B32 : w29.heap[w.heap.size]? = some (.cells #[.float .f32 p0r0, .float .f32 p0r1, .float .f32 p0r2, .float .f32 p0r3] 30 (0, 0)) := E29.heap B27
      refine da_op rfl (d_load (v := .float .f32 p0r2) rfl agg22 B32 rfl ?_)
      refine da_op rfl (d_widen un22 un95 rfl p0h2 fun r33 w33 h33 _ E33 => ?_)
      have X34 : Ext w w33 := X30.trans E33
      refine da_op rfl (d_fieldAddr rfl (fa30_2 _ _) ?_)
      have B35 : w33.heap[w1.heap.size]? = some (.cells #[.float .f32 p1r0, .float .f32 p1r1, .float .f32 p1r2, .float .f32 p1r3] 30 (0, 0)) := E33.heap (E29.heap B28)
      refine da_op rfl (d_load (v := .float .f32 p1r2) rfl agg22 B35 rfl ?_)
      refine da_op rfl (d_widen un22 un95 rfl p1h2 fun r36 w36 h36 _ E36 => ?_)
      have X37 : Ext w w36 := X34.trans E36
      obtain ⟨m38, hm38, hr⟩ := letv_out hr
      have B39 : w36.heap[w.heap.size]? = some (.cells #[.float .f32 p0r0, .float .f32 p0r1, .float .f32 p0r2, .float .f32 p0r3] 30 (0, 0)) := E36.heap (E33.heap B32)
      have B40 : w36.heap[w1.heap.size]? = some (.cells #[.float .f32 p1r0, .float .f32 p1r1, .float .f32 p1r2, .float .f32 p1r3] 30 (0, 0)) := E36.heap B35
      refine da_op rfl (d_cl (vs := [.float .f64 r33, .float .f64 r36]) en57 (ac rfl (ac rfl rfl)) rfl ?_)
      refine (c57 (widen p0.y) (widen p1.y) r33 r36 m38 w36 hm38 h33 h36).mono ?_
      rintro _ w41 ⟨rfl, E41⟩
      refine ⟨_, rfl, ?_⟩
      have X42 : Ext w w41 := X37.trans E41
      refine da_op rfl (d_not rfl ?_)
      refine da_nil ?_
      refine W_cond (b := (!m38)) rfl (fun hc43 => ?_) (fun hc43 => ?_)
      · skip
        replace hr := bif_t hr hc43
        refine W_seq ?_
        refine W_region rfl ?_
        refine da_op rfl (d_as (v := .bool false) rfl ?_)
        refine da_nil ?_
        refine W_ret ?_
        subst hr
        refine ⟨_, res1 (rv_tmp rfl), ?_⟩
        exact ⟨rfl, X42⟩
      · skip
        replace hr := bif_f hr hc43
        refine W_skip ?_
        refine W_seq ?_
        refine W_seq ?_
        refine W_region rfl ?_
        refine da_op rfl (d_fieldAddr rfl (fa30_3 _ _) ?_)
        have B44 : w41.heap[w.heap.size]? = some (.cells #[.float .f32 p0r0, .float .f32 p0r1, .float .f32 p0r2, .float .f32 p0r3] 30 (0, 0)) := E41.heap B39
        refine da_op rfl (d_load (v := .float .f32 p0r3) rfl agg22 B44 rfl ?_)
        refine da_op rfl (d_widen un22 un95 rfl p0h3 fun r45 w45 h45 _ E45 => ?_)
        have X46 : Ext w w45 := X42.trans E45
        refine da_op rfl (d_fieldAddr rfl (fa30_3 _ _) ?_)
        have B47 : w45.heap[w1.heap.size]? = some (.cells #[.float .f32 p1r0, .float .f32 p1r1, .float .f32 p1r2, .float .f32 p1r3] 30 (0, 0)) := E45.heap (E41.heap B40)
        refine da_op rfl (d_load (v := .float .f32 p1r3) rfl agg22 B47 rfl ?_)
        refine da_op rfl (d_widen un22 un95 rfl p1h3 fun r48 w48 h48 _ E48 => ?_)
        have X49 : Ext w w48 := X46.trans E48
        obtain ⟨m50, hm50, hr⟩ := letv_out hr
        have B51 : w48.heap[w.heap.size]? = some (.cells #[.float .f32 p0r0, .float .f32 p0r1, .float .f32 p0r2, .float .f32 p0r3] 30 (0, 0)) := E48.heap (E45.heap B44)
        have B52 : w48.heap[w1.heap.size]? = some (.cells #[.float .f32 p1r0, .float .f32 p1r1, .float .f32 p1r2, .float .f32 p1r3] 30 (0, 0)) := E48.heap B47
        refine da_op rfl (d_cl (vs := [.float .f64 r45, .float .f64 r48]) en57 (ac rfl (ac rfl rfl)) rfl ?_)
        refine (c57 (widen p0.z) (widen p1.z) r45 r48 m50 w48 hm50 h45 h48).mono ?_
        rintro _ w53 ⟨rfl, E53⟩
        refine ⟨_, rfl, ?_⟩
        have X54 : Ext w w53 := X49.trans E53
        refine da_op rfl (d_not rfl ?_)
        refine da_nil ?_
        refine W_cond (b := (!m50)) rfl (fun hc55 => ?_) (fun hc55 => ?_)
        · skip
          replace hr := bif_t hr hc55
          refine W_seq ?_
          refine W_region rfl ?_
          refine da_op rfl (d_as (v := .bool false) rfl ?_)
          refine da_nil ?_
          refine W_ret ?_
          subst hr
          refine ⟨_, res1 (rv_tmp rfl), ?_⟩
          exact ⟨rfl, X54⟩
        · skip
          replace hr := bif_f hr hc55
          refine W_skip ?_
          refine W_seq ?_
          refine W_region rfl ?_
          refine da_op rfl (d_as (v := .bool true) rfl ?_)
          refine da_nil ?_
          refine W_ret ?_
          subst hr
          refine ⟨_, res1 (rv_tmp rfl), ?_⟩
          exact ⟨rfl, X54⟩
set_option maxHeartbeats 4000000 in
theorem c10 (p0 : STop) (p1 : STop) (p0r0 : Nat) (p0r1 : Nat) (p0r2 : Nat) (p0r3 : Nat) (p0r4 : Nat) (p0r5 : Nat) (p0r6 : Nat) (p0r7 : Nat) (p0r8 : Nat) (p0r9 : Nat) (p1r0 : Nat) (p1r1 : Nat) (p1r2 : Nat) (p1r3 : Nat) (p1r4 : Nat) (p1r5 : Nat) (p1r6 : Nat) (p1r7 : Nat) (p1r8 : Nat) (p1r9 : Nat) (r : Bool) (w : World) (hr : M.laws_eqTop p0 p1 = r) (p0h0 : cn .f32 p0r0 = p0.moments.x) (p0h1 : cn .f32 p0r1 = p0.moments.y) (p0h2 : cn .f32 p0r2 = p0.moments.z) (p0h3 : cn .f32 p0r3 = p0.turn.w) (p0h4 : cn .f32 p0r4 = p0.turn.x) (p0h5 : cn .f32 p0r5 = p0.turn.y) (p0h6 : cn .f32 p0r6 = p0.turn.z) (p0h7 : cn .f32 p0r7 = p0.speed.x) (p0h8 : cn .f32 p0r8 = p0.speed.y) (p0h9 : cn .f32 p0r9 = p0.speed.z) (p1h0 : cn .f32 p1r0 = p1.moments.x) (p1h1 : cn .f32 p1r1 = p1.moments.y) (p1h2 : cn .f32 p1r2 = p1.moments.z) (p1h3 : cn .f32 p1r3 = p1.turn.w) (p1h4 : cn .f32 p1r4 = p1.turn.x) (p1h5 : cn .f32 p1r5 = p1.turn.y) (p1h6 : cn .f32 p1r6 = p1.turn.z) (p1h7 : cn .f32 p1r7 = p1.speed.x) (p1h8 : cn .f32 p1r8 = p1.speed.y) (p1h9 : cn .f32 p1r9 = p1.speed.z) :
    Calls Try.prog 10 #[.agg #[.float .f32 p0r0, .float .f32 p0r1, .float .f32 p0r2, .float .f32 p0r3, .float .f32 p0r4, .float .f32 p0r5, .float .f32 p0r6, .float .f32 p0r7, .float .f32 p0r8, .float .f32 p0r9], .agg #[.float .f32 p1r0, .float .f32 p1r1, .float .f32 p1r2, .float .f32 p1r3, .float .f32 p1r4, .float .f32 p1r5, .float .f32 p1r6, .float .f32 p1r7, .float .f32 p1r8, .float .f32 p1r9]] w fun e w' => e = .returned (.bool r) ∧ Ext w w' := by
  refine calls_of_W Try.func10 rfl (Nat.le_of_ble_eq_true rfl) ?_
  refine W_seq ?_
  refine W_region rfl ?_
  refine da_op rfl (d_box (cs := #[.float .f32 p0r0, .float .f32 p0r1, .float .f32 p0r2, .float .f32 p0r3, .float .f32 p0r4, .float .f32 p0r5, .float .f32 p0r6, .float .f32 p0r7, .float .f32 p0r8, .float .f32 p0r9]) rfl fun w1 B1 E1 => ?_)
  have own2 : w.heap.size ≤ w.heap.size := Nat.le_trans (Ext.refl w).size (Nat.le_refl _)
  have X3 : Ext w w1 := (Ext.refl w).trans E1
  refine da_op rfl (d_box (cs := #[.float .f32 p1r0, .float .f32 p1r1, .float .f32 p1r2, .float .f32 p1r3, .float .f32 p1r4, .float .f32 p1r5, .float .f32 p1r6, .float .f32 p1r7, .float .f32 p1r8, .float .f32 p1r9]) rfl fun w4 B4 E4 => ?_)
  have own5 : w.heap.size ≤ w1.heap.size := Nat.le_trans X3.size (Nat.le_refl _)
  have sp6 : w.heap.size ≠ w1.heap.size := Nat.ne_of_lt (Nat.lt_of_lt_of_le (lt_heap B1) (Nat.le_refl _))
  have X7 : Ext w w4 := X3.trans E4
  refine da_op rfl (d_as (v := .bool false) rfl ?_)
  refine da_nil ?_
  refine W_seq ?_
  refine W_seq ?_
  refine W_region rfl ?_
  refine da_op rfl (d_fieldAddr rfl (fa32_0 _ _) ?_)
  have B8 : w4.heap[w.heap.size]? = some (.cells #[.float .f32 p0r0, .float .f32 p0r1, .float .f32 p0r2, .float .f32 p0r3, .float .f32 p0r4, .float .f32 p0r5, .float .f32 p0r6, .float .f32 p0r7, .float .f32 p0r8, .float .f32 p0r9] 32 (0, 0)) := E4.heap B1
  refine da_op rfl (d_loads (vs := #[.float .f32 p0r0, .float .f32 p0r1, .float .f32 p0r2]) rfl agg29 size29 B8 rfl ?_)
  refine da_op rfl (d_fieldAddr rfl (fa32_0 _ _) ?_)
  refine da_op rfl (d_loads (vs := #[.float .f32 p1r0, .float .f32 p1r1, .float .f32 p1r2]) rfl agg29 size29 B4 rfl ?_)
  obtain ⟨m9, hm9, hr⟩ := letv_out hr
  refine da_op rfl (d_cl (vs := [.agg #[.float .f32 p0r0, .float .f32 p0r1, .float .f32 p0r2], .agg #[.float .f32 p1r0, .float .f32 p1r1, .float .f32 p1r2]]) en28 (ac rfl (ac rfl rfl)) rfl ?_)
  refine (c28 p0.moments p1.moments p0r0 p0r1 p0r2 p1r0 p1r1 p1r2 m9 w4 hm9 p0h0 p0h1 p0h2 p1h0 p1h1 p1h2).mono ?_
  rintro _ w10 ⟨rfl, E10⟩
  refine ⟨_, rfl, ?_⟩
  have X11 : Ext w w10 := X7.trans E10
  refine da_op rfl (d_not rfl ?_)
  refine da_nil ?_
  refine W_cond (b := (!m9)) rfl (fun hc12 => ?_) (fun hc12 => ?_)
  · skip
    replace hr := bif_t hr hc12
    refine W_seq ?_
    refine W_region rfl ?_
    refine da_op rfl (d_as (v := .bool false) rfl ?_)
    refine da_nil ?_
    refine W_ret ?_
    subst hr
    refine ⟨_, res1 (rv_tmp rfl), ?_⟩
    exact ⟨rfl, X11⟩
  · skip
    replace hr := bif_f hr hc12
    refine W_skip ?_
    refine W_seq ?_
    refine W_seq ?_
    refine W_region rfl ?_
    refine da_op rfl (d_fieldAddr rfl (fa32_1 _ _) ?_)
    have B13 : w10.heap[w.heap.size]? = some (.cells #[.float .f32 p0r0, .float .f32 p0r1, .float .f32 p0r2, .float .f32 p0r3, .float .f32 p0r4, .float .f32 p0r5, .float .f32 p0r6, .float .f32 p0r7, .float .f32 p0r8, .float .f32 p0r9] 32 (0, 0)) := E10.heap B8
    refine da_op rfl (d_loads (vs := #[.float .f32 p0r3, .float .f32 p0r4, .float .f32 p0r5, .float .f32 p0r6]) rfl agg30 size30 B13 rfl ?_)
    refine da_op rfl (d_fieldAddr rfl (fa32_1 _ _) ?_)
    have B14 : w10.heap[w1.heap.size]? = some (.cells #[.float .f32 p1r0, .float .f32 p1r1, .float .f32 p1r2, .float .f32 p1r3, .float .f32 p1r4, .float .f32 p1r5, .float .f32 p1r6, .float .f32 p1r7, .float .f32 p1r8, .float .f32 p1r9] 32 (0, 0)) := E10.heap B4
    refine da_op rfl (d_loads (vs := #[.float .f32 p1r3, .float .f32 p1r4, .float .f32 p1r5, .float .f32 p1r6]) rfl agg30 size30 B14 rfl ?_)
    obtain ⟨m15, hm15, hr⟩ := letv_out hr
    refine da_op rfl (d_cl (vs := [.agg #[.float .f32 p0r3, .float .f32 p0r4, .float .f32 p0r5, .float .f32 p0r6], .agg #[.float .f32 p1r3, .float .f32 p1r4, .float .f32 p1r5, .float .f32 p1r6]]) en29 (ac rfl (ac rfl rfl)) rfl ?_)
    refine (c29 (⟨p0.turn.w, p0.turn.x, p0.turn.y, p0.turn.z⟩ : SSpin) (⟨p1.turn.w, p1.turn.x, p1.turn.y, p1.turn.z⟩ : SSpin) p0r3 p0r4 p0r5 p0r6 p1r3 p1r4 p1r5 p1r6 m15 w10 hm15 p0h3 p0h4 p0h5 p0h6 p1h3 p1h4 p1h5 p1h6).mono ?_
    rintro _ w16 ⟨rfl, E16⟩
    refine ⟨_, rfl, ?_⟩
    have X17 : Ext w w16 := X11.trans E16
    refine da_op rfl (d_not rfl ?_)
    refine da_nil ?_
    refine W_cond (b := (!m15)) rfl (fun hc18 => ?_) (fun hc18 => ?_)
    · skip
      replace hr := bif_t hr hc18
      refine W_seq ?_
      refine W_region rfl ?_
      refine da_op rfl (d_as (v := .bool false) rfl ?_)
      refine da_nil ?_
      refine W_ret ?_
      subst hr
      refine ⟨_, res1 (rv_tmp rfl), ?_⟩
      exact ⟨rfl, X17⟩
    · skip
      replace hr := bif_f hr hc18
      refine W_skip ?_
      refine W_seq ?_
      refine W_seq ?_
      refine W_region rfl ?_
      refine da_op rfl (d_fieldAddr rfl (fa32_2 _ _) ?_)
      have B19 : w16.heap[w.heap.size]? = some (.cells #[.float .f32 p0r0, .float .f32 p0r1, .float .f32 p0r2, .float .f32 p0r3, .float .f32 p0r4, .float .f32 p0r5, .float .f32 p0r6, .float .f32 p0r7, .float .f32 p0r8, .float .f32 p0r9] 32 (0, 0)) := E16.heap B13
      refine da_op rfl (d_loads (vs := #[.float .f32 p0r7, .float .f32 p0r8, .float .f32 p0r9]) rfl agg29 size29 B19 rfl ?_)
      refine da_op rfl (d_fieldAddr rfl (fa32_2 _ _) ?_)
      have B20 : w16.heap[w1.heap.size]? = some (.cells #[.float .f32 p1r0, .float .f32 p1r1, .float .f32 p1r2, .float .f32 p1r3, .float .f32 p1r4, .float .f32 p1r5, .float .f32 p1r6, .float .f32 p1r7, .float .f32 p1r8, .float .f32 p1r9] 32 (0, 0)) := E16.heap B14
      refine da_op rfl (d_loads (vs := #[.float .f32 p1r7, .float .f32 p1r8, .float .f32 p1r9]) rfl agg29 size29 B20 rfl ?_)
      obtain ⟨m21, hm21, hr⟩ := letv_out hr
      refine da_op rfl (d_cl (vs := [.agg #[.float .f32 p0r7, .float .f32 p0r8, .float .f32 p0r9], .agg #[.float .f32 p1r7, .float .f32 p1r8, .float .f32 p1r9]]) en28 (ac rfl (ac rfl rfl)) rfl ?_)
      refine (c28 (⟨p0.speed.x, p0.speed.y, p0.speed.z⟩ : SVector) (⟨p1.speed.x, p1.speed.y, p1.speed.z⟩ : SVector) p0r7 p0r8 p0r9 p1r7 p1r8 p1r9 m21 w16 hm21 p0h7 p0h8 p0h9 p1h7 p1h8 p1h9).mono ?_
      rintro _ w22 ⟨rfl, E22⟩
      refine ⟨_, rfl, ?_⟩
      have X23 : Ext w w22 := X17.trans E22
      refine da_op rfl (d_not rfl ?_)
      refine da_nil ?_
      refine W_cond (b := (!m21)) rfl (fun hc24 => ?_) (fun hc24 => ?_)
      · skip
        replace hr := bif_t hr hc24
        refine W_seq ?_
        refine W_region rfl ?_
        refine da_op rfl (d_as (v := .bool false) rfl ?_)
        refine da_nil ?_
        refine W_ret ?_
        subst hr
        refine ⟨_, res1 (rv_tmp rfl), ?_⟩
        exact ⟨rfl, X23⟩
      · skip
        replace hr := bif_f hr hc24
        refine W_skip ?_
        refine W_seq ?_
        refine W_region rfl ?_
        refine da_op rfl (d_as (v := .bool true) rfl ?_)
        refine da_nil ?_
        refine W_ret ?_
        subst hr
        refine ⟨_, res1 (rv_tmp rfl), ?_⟩
        exact ⟨rfl, X23⟩
set_option maxHeartbeats 4000000 in
theorem c109 (p0 : SClock) (p1 : SClock) (p0r0 : Nat) (p0r1 : Nat) (p1r0 : Nat) (p1r1 : Nat) (r : Bool) (w : World) (hr : M.laws_eqClock p0 p1 = r) (p0h0 : cn .f32 p0r0 = p0.turn) (p0h1 : cn .f32 p0r1 = p0.rate) (p1h0 : cn .f32 p1r0 = p1.turn) (p1h1 : cn .f32 p1r1 = p1.rate) :
    Calls Try.prog 109 #[.agg #[.float .f32 p0r0, .float .f32 p0r1], .agg #[.float .f32 p1r0, .float .f32 p1r1]] w fun e w' => e = .returned (.bool r) ∧ Ext w w' := by
  refine calls_of_W Try.func109 rfl (Nat.le_of_ble_eq_true rfl) ?_
  refine W_seq ?_
  refine W_region rfl ?_
  refine da_op rfl (d_box (cs := #[.float .f32 p0r0, .float .f32 p0r1]) rfl fun w1 B1 E1 => ?_)
  have own2 : w.heap.size ≤ w.heap.size := Nat.le_trans (Ext.refl w).size (Nat.le_refl _)
  have X3 : Ext w w1 := (Ext.refl w).trans E1
  refine da_op rfl (d_box (cs := #[.float .f32 p1r0, .float .f32 p1r1]) rfl fun w4 B4 E4 => ?_)
  have own5 : w.heap.size ≤ w1.heap.size := Nat.le_trans X3.size (Nat.le_refl _)
  have sp6 : w.heap.size ≠ w1.heap.size := Nat.ne_of_lt (Nat.lt_of_lt_of_le (lt_heap B1) (Nat.le_refl _))
  have X7 : Ext w w4 := X3.trans E4
  refine da_op rfl (d_as (v := .bool false) rfl ?_)
  refine da_nil ?_
  refine W_seq ?_
  refine W_seq ?_
  refine W_region rfl ?_
  refine da_op rfl (d_fieldAddr rfl (fa109_0 _ _) ?_)
  have B8 : w4.heap[w.heap.size]? = some (.cells #[.float .f32 p0r0, .float .f32 p0r1] 109 (0, 0)) := E4.heap B1
  refine da_op rfl (d_load (v := .float .f32 p0r0) rfl agg22 B8 rfl ?_)
  refine da_op rfl (d_widen un22 un95 rfl p0h0 fun r9 w9 h9 _ E9 => ?_)
  have X10 : Ext w w9 := X7.trans E9
  refine da_op rfl (d_fieldAddr rfl (fa109_0 _ _) ?_)
  have B11 : w9.heap[w1.heap.size]? = some (.cells #[.float .f32 p1r0, .float .f32 p1r1] 109 (0, 0)) := E9.heap B4
  refine da_op rfl (d_load (v := .float .f32 p1r0) rfl agg22 B11 rfl ?_)
  refine da_op rfl (d_widen un22 un95 rfl p1h0 fun r12 w12 h12 _ E12 => ?_)
  have X13 : Ext w w12 := X10.trans E12
  obtain ⟨m14, hm14, hr⟩ := letv_out hr
  have B15 : w12.heap[w.heap.size]? = some (.cells #[.float .f32 p0r0, .float .f32 p0r1] 109 (0, 0)) := E12.heap (E9.heap B8)
  have B16 : w12.heap[w1.heap.size]? = some (.cells #[.float .f32 p1r0, .float .f32 p1r1] 109 (0, 0)) := E12.heap B11
  refine da_op rfl (d_cl (vs := [.float .f64 r9, .float .f64 r12]) en57 (ac rfl (ac rfl rfl)) rfl ?_)
  refine (c57 (widen p0.turn) (widen p1.turn) r9 r12 m14 w12 hm14 h9 h12).mono ?_
  rintro _ w17 ⟨rfl, E17⟩
  refine ⟨_, rfl, ?_⟩
  have X18 : Ext w w17 := X13.trans E17
  refine da_op rfl (d_not rfl ?_)
  refine da_nil ?_
  refine W_cond (b := (!m14)) rfl (fun hc19 => ?_) (fun hc19 => ?_)
  · skip
    replace hr := bif_t hr hc19
    refine W_seq ?_
    refine W_region rfl ?_
    refine da_op rfl (d_as (v := .bool false) rfl ?_)
    refine da_nil ?_
    refine W_ret ?_
    subst hr
    refine ⟨_, res1 (rv_tmp rfl), ?_⟩
    exact ⟨rfl, X18⟩
  · skip
    replace hr := bif_f hr hc19
    refine W_skip ?_
    refine W_seq ?_
    refine W_seq ?_
    refine W_region rfl ?_
    refine da_op rfl (d_fieldAddr rfl (fa109_1 _ _) ?_)
    have B20 : w17.heap[w.heap.size]? = some (.cells #[.float .f32 p0r0, .float .f32 p0r1] 109 (0, 0)) := E17.heap B15
    refine da_op rfl (d_load (v := .float .f32 p0r1) rfl agg22 B20 rfl ?_)
    refine da_op rfl (d_widen un22 un95 rfl p0h1 fun r21 w21 h21 _ E21 => ?_)
    have X22 : Ext w w21 := X18.trans E21
    refine da_op rfl (d_fieldAddr rfl (fa109_1 _ _) ?_)
    have B23 : w21.heap[w1.heap.size]? = some (.cells #[.float .f32 p1r0, .float .f32 p1r1] 109 (0, 0)) := E21.heap (E17.heap B16)
    refine da_op rfl (d_load (v := .float .f32 p1r1) rfl agg22 B23 rfl ?_)
    refine da_op rfl (d_widen un22 un95 rfl p1h1 fun r24 w24 h24 _ E24 => ?_)
    have X25 : Ext w w24 := X22.trans E24
    obtain ⟨m26, hm26, hr⟩ := letv_out hr
    have B27 : w24.heap[w.heap.size]? = some (.cells #[.float .f32 p0r0, .float .f32 p0r1] 109 (0, 0)) := E24.heap (E21.heap B20)
    have B28 : w24.heap[w1.heap.size]? = some (.cells #[.float .f32 p1r0, .float .f32 p1r1] 109 (0, 0)) := E24.heap B23
    refine da_op rfl (d_cl (vs := [.float .f64 r21, .float .f64 r24]) en57 (ac rfl (ac rfl rfl)) rfl ?_)
    refine (c57 (widen p0.rate) (widen p1.rate) r21 r24 m26 w24 hm26 h21 h24).mono ?_
    rintro _ w29 ⟨rfl, E29⟩
    refine ⟨_, rfl, ?_⟩
    have X30 : Ext w w29 := X25.trans E29
    refine da_op rfl (d_not rfl ?_)
    refine da_nil ?_
    refine W_cond (b := (!m26)) rfl (fun hc31 => ?_) (fun hc31 => ?_)
    · skip
      replace hr := bif_t hr hc31
      refine W_seq ?_
      refine W_region rfl ?_
      refine da_op rfl (d_as (v := .bool false) rfl ?_)
      refine da_nil ?_
      refine W_ret ?_
      subst hr
      refine ⟨_, res1 (rv_tmp rfl), ?_⟩
      exact ⟨rfl, X30⟩
    · skip
      replace hr := bif_f hr hc31
      refine W_skip ?_
      refine W_seq ?_
      refine W_region rfl ?_
      refine da_op rfl (d_as (v := .bool true) rfl ?_)
      refine da_nil ?_
      refine W_ret ?_
      subst hr
      refine ⟨_, res1 (rv_tmp rfl), ?_⟩
      exact ⟨rfl, X30⟩
set_option maxHeartbeats 4000000 in
theorem c77 (p0 : List SClock) (p1 : List SClock) (p0a : Option Addr) (p0n : Nat) (p0c : Nat) (p1a : Option Addr) (p1n : Nat) (p1c : Nat) (r : Bool) (w : World) (hr : M.laws_eqClockS p0 p1 = some r) (p0R : RS w encSClock (Value.slice p0a p0n p0c) p0) (p1R : RS w encSClock (Value.slice p1a p1n p1c) p1) :
    Calls Try.prog 77 #[(Value.slice p0a p0n p0c), (Value.slice p1a p1n p1c)] w fun e w' => e = .returned (.bool r) ∧ Ext w w' := by
  refine calls_of_W Try.func77 rfl (Nat.le_of_ble_eq_true rfl) ?_
  refine W_seq ?_
  refine W_region rfl ?_
  refine da_op rfl (d_as (v := .bool false) rfl ?_)
  refine da_nil ?_
  refine W_seq ?_
  refine W_seq ?_
  refine W_region rfl ?_
  refine da_op rfl (d_mv (v := (Value.slice p0a p0n p0c)) rfl ?_)
  refine da_op rfl (d_len (e := encSClock) un52 rfl p0R ?_)
  refine da_op rfl (d_mv (v := (Value.slice p1a p1n p1c)) rfl ?_)
  refine da_op rfl (d_len (e := encSClock) un52 rfl p1R ?_)
  refine da_op rfl (d_icmp cNeq rfl rfl ?_)
  refine da_nil ?_
  refine W_cond (b := (icmp .neq ((p0).length : Int) ((p1).length : Int))) rfl (fun hc1 => ?_) (fun hc1 => ?_)
  · skip
    replace hr := bif_t hr hc1
    refine W_seq ?_
    refine W_region rfl ?_
    refine da_op rfl (d_as (v := .bool false) rfl ?_)
    refine da_nil ?_
    refine W_ret ?_
    obtain rfl := Option.some.inj hr
    refine ⟨_, res1 (rv_tmp rfl), ?_⟩
    exact ⟨rfl, (Ext.refl w)⟩
  · skip
    replace hr := bif_f hr hc1
    refine W_skip ?_
    refine W_seq ?_
    refine W_seq ?_
    refine W_region rfl ?_
    refine da_op rfl (d_as (v := .int .i64 0) rfl ?_)
    refine da_nil ?_
    refine W_block ?_
    obtain ⟨m2, hm2, hr⟩ := bind_out hr
    refine W_loopM hm2 (fun (s2 : Int) σ w' => σ 5 = .int .i64 s2 ∧ σ 0 = (Value.slice p0a p0n p0c) ∧ σ 1 = (Value.slice p1a p1n p1c) ∧ Ext w w') (fun (e2 : (Unit ⊕ Bool)) ex σ w' => sel e2 (fun e2 => ex = .exit 0 ∧ Ext w w') (fun e2 => ex = .ret ∧ σ 4 = .bool e2 ∧ Ext w w')) ⟨rfl, rfl, rfl, (Ext.refl w)⟩ ?_ ?_
    · skip
      rintro s2 σl2 wl2 r2l ⟨i2_S5, i2_S0, i2_S1, i2_X⟩ hr
      refine W_seq ?_
      refine W_seq ?_
      refine W_region rfl ?_
      refine da_op rfl (d_mv (v := .int .i64 s2) i2_S5 ?_)
      refine da_op rfl (d_mv (v := (Value.slice p0a p0n p0c)) i2_S0 ?_)
      have B3 : RS wl2 encSClock (Value.slice p0a p0n p0c) p0 := p0R.ext i2_X
      refine da_op rfl (d_len (e := encSClock) un52 rfl B3 ?_)
      refine da_op rfl (d_icmp cLss rfl rfl ?_)
      refine da_nil ?_
      refine W_cond (b := (icmp .lss s2 ((p0).length : Int))) rfl (fun hc4 => ?_) (fun hc4 => ?_)
      · skip
        replace hr := bif_t hr hc4
        refine W_skip ?_
        refine W_seq ?_
        refine W_block ?_
        refine W_seq ?_
        have B6 : RS wl2 encSClock (Value.slice p1a p1n p1c) p1 := p1R.ext i2_X
        obtain ⟨m7, hm7, hr⟩ := bind_out hr
        obtain ⟨m8, hm8, hr⟩ := bind_out hr
        obtain ⟨m9, hm9, hr⟩ := letv_out hr
        refine W_any [] [{ V := fun _ v _ => v = (Value.slice p0a p0n p0c) }, { V := fun _ v _ => v = (.int .i64 s2) }, { V := fun _ v _ => ∃ d5_2g : Nat, ∃ d5_2o : Nat, v = (.pointer (some ⟨d5_2g, d5_2o, none⟩)) ∧ EL encSClock (Value.slice p0a p0n p0c) (p0).length s2 d5_2g d5_2o }, { V := fun _ v _ => ∃ d5_2r0 : Nat, ∃ d5_2r1 : Nat, v = (.agg #[.float .f32 d5_2r0, .float .f32 d5_2r1]) ∧ cn .f32 d5_2r0 = m7.turn ∧ cn .f32 d5_2r1 = m7.rate }, { V := fun _ v _ => v = (Value.slice p1a p1n p1c) }, { V := fun _ v _ => v = (.int .i64 s2) }, { V := fun _ v _ => ∃ d5_6g : Nat, ∃ d5_6o : Nat, v = (.pointer (some ⟨d5_6g, d5_6o, none⟩)) ∧ EL encSClock (Value.slice p1a p1n p1c) (p1).length s2 d5_6g d5_6o }, { V := fun _ v _ => ∃ d5_6r0 : Nat, ∃ d5_6r1 : Nat, v = (.agg #[.float .f32 d5_6r0, .float .f32 d5_6r1]) ∧ cn .f32 d5_6r0 = m8.turn ∧ cn .f32 d5_6r1 = m8.rate }, { V := fun _ v _ => v = (.bool m9) }, { V := fun _ v _ => v = (.bool (!m9)) }] mixed (by kernel_rfl) ⟨trivial, trivial, trivial, trivial, trivial, trivial, trivial, trivial, trivial, trivial, trivial⟩ ⟨?_, ?_, ?_, ?_, ?_, ?_, ?_, ?_, ?_, ?_, trivial⟩ ?_
        · skip
          refine ⟨fun _ _ _ _ _ _ h _ => h, fun _ _ h _ => h, fun σ' w' hA hE hD hP => ?_⟩
          have t0 : σ' 0 = (Value.slice p0a p0n p0c) := (hA 0 rfl).trans i2_S0
          have B0_10 : RS w' encSClock (Value.slice p0a p0n p0c) p0 := B3.frm hE (fun k _ hk => not_oth0)
          refine dg_op rfl (d_mv (v := (Value.slice p0a p0n p0c)) t0 ?_)
          exact ⟨rfl, own_none (Ext.refl w')⟩
        · skip
          refine ⟨fun _ _ _ _ _ _ h _ => h, fun _ _ h _ => h, fun σ' w' hA hE hD hP => ?_⟩
          have t5 : σ' 5 = .int .i64 s2 := (hA 5 rfl).trans i2_S5
          refine dg_op rfl (d_mv (v := .int .i64 s2) t5 ?_)
          exact ⟨rfl, own_none (Ext.refl w')⟩
        · skip
          refine ⟨fun _ _ _ _ _ _ h _ => h, fun _ _ h _ => h, fun σ' w' hA hE hD hP => ?_⟩
          have t17 : σ' 17 = (Value.slice p0a p0n p0c) := hD 0 rfl
          have t18 : σ' 18 = (.int .i64 s2) := hD 1 rfl
          have B0_11 : RS w' encSClock (Value.slice p0a p0n p0c) p0 := B3.frm hE (fun k _ hk => not_oth0)
          refine dg_op rfl (d_indexE (e := encSClock) (v := (Value.slice p0a p0n p0c)) un52 size109 t17 t18 B0_11 hm7 fun g12 o12 l12 => ?_)
          exact ⟨⟨g12, o12, rfl, l12⟩, own_none (Ext.refl _)⟩
        · skip
          refine ⟨fun _ _ _ _ _ _ h _ => h, fun _ _ h _ => h, fun σ' w' hA hE hD hP => ?_⟩
          obtain ⟨d5_2g, d5_2o, t19, d5_2gE⟩ : ∃ d5_2g : Nat, ∃ d5_2o : Nat, σ' 19 = (.pointer (some ⟨d5_2g, d5_2o, none⟩)) ∧ EL encSClock (Value.slice p0a p0n p0c) (p0).length s2 d5_2g d5_2o := hD 2 rfl
          have B0_13 : RS w' encSClock (Value.slice p0a p0n p0c) p0 := B3.frm hE (fun k _ hk => not_oth0)
          obtain ⟨d5_2c, d5_2T, d5_2f, d5_2vs, d5_2hg, d5_2P, d5_2hq⟩ := RS.el B0_13 d5_2gE hm7
          obtain ⟨d5_2r0, d5_2r1, rfl, d5_2h0, d5_2h1⟩ := dec_encSClock d5_2hq
          refine dg_op rfl (d_loads (vs := #[.float .f32 d5_2r0, .float .f32 d5_2r1]) t19 agg109 size109 d5_2hg (sub_take (vs := #[.float .f32 d5_2r0, .float .f32 d5_2r1]) (us := #[.float .f32 d5_2r0, .float .f32 d5_2r1]) (i := 0) d5_2P rfl (Nat.le_of_ble_eq_true rfl)) ?_)
          exact ⟨⟨d5_2r0, d5_2r1, rfl, d5_2h0, d5_2h1⟩, own_none (Ext.refl w')⟩
        · skip
          refine ⟨fun _ _ _ _ _ _ h _ => h, fun _ _ h _ => h, fun σ' w' hA hE hD hP => ?_⟩
          have t1 : σ' 1 = (Value.slice p1a p1n p1c) := (hA 1 rfl).trans i2_S1
          have B0_14 : RS w' encSClock (Value.slice p1a p1n p1c) p1 := B6.frm hE (fun k _ hk => not_oth0)
          refine dg_op rfl (d_mv (v := (Value.slice p1a p1n p1c)) t1 ?_)
          exact ⟨rfl, own_none (Ext.refl w')⟩
        · skip
          refine ⟨fun _ _ _ _ _ _ h _ => h, fun _ _ h _ => h, fun σ' w' hA hE hD hP => ?_⟩
          have t5 : σ' 5 = .int .i64 s2 := (hA 5 rfl).trans i2_S5
          refine dg_op rfl (d_mv (v := .int .i64 s2) t5 ?_)
          exact ⟨rfl, own_none (Ext.refl w')⟩
        · skip
          refine ⟨fun _ _ _ _ _ _ h _ => h, fun _ _ h _ => h, fun σ' w' hA hE hD hP => ?_⟩
          have t21 : σ' 21 = (Value.slice p1a p1n p1c) := hD 4 rfl
          have t22 : σ' 22 = (.int .i64 s2) := hD 5 rfl
          have B0_15 : RS w' encSClock (Value.slice p1a p1n p1c) p1 := B6.frm hE (fun k _ hk => not_oth0)
          refine dg_op rfl (d_indexE (e := encSClock) (v := (Value.slice p1a p1n p1c)) un52 size109 t21 t22 B0_15 hm8 fun g16 o16 l16 => ?_)
          exact ⟨⟨g16, o16, rfl, l16⟩, own_none (Ext.refl _)⟩
        · skip
          refine ⟨fun _ _ _ _ _ _ h _ => h, fun _ _ h _ => h, fun σ' w' hA hE hD hP => ?_⟩
          obtain ⟨d5_6g, d5_6o, t23, d5_6gE⟩ : ∃ d5_6g : Nat, ∃ d5_6o : Nat, σ' 23 = (.pointer (some ⟨d5_6g, d5_6o, none⟩)) ∧ EL encSClock (Value.slice p1a p1n p1c) (p1).length s2 d5_6g d5_6o := hD 6 rfl
          have B0_17 : RS w' encSClock (Value.slice p1a p1n p1c) p1 := B6.frm hE (fun k _ hk => not_oth0)
          obtain ⟨d5_6c, d5_6T, d5_6f, d5_6vs, d5_6hg, d5_6P, d5_6hq⟩ := RS.el B0_17 d5_6gE hm8
          obtain ⟨d5_6r0, d5_6r1, rfl, d5_6h0, d5_6h1⟩ := dec_encSClock d5_6hq
          refine dg_op rfl (d_loads (vs := #[.float .f32 d5_6r0, .float .f32 d5_6r1]) t23 agg109 size109 d5_6hg (sub_take (vs := #[.float .f32 d5_6r0, .float .f32 d5_6r1]) (us := #[.float .f32 d5_6r0, .float .f32 d5_6r1]) (i := 0) d5_6P rfl (Nat.le_of_ble_eq_true rfl)) ?_)
          exact ⟨⟨d5_6r0, d5_6r1, rfl, d5_6h0, d5_6h1⟩, own_none (Ext.refl w')⟩
        · skip
          refine ⟨fun _ _ _ _ _ _ h _ => h, fun _ _ h _ => h, fun σ' w' hA hE hD hP => ?_⟩
          obtain ⟨d5_2r0, d5_2r1, t20, d5_2h0, d5_2h1⟩ : ∃ d5_2r0 : Nat, ∃ d5_2r1 : Nat, σ' 20 = (.agg #[.float .f32 d5_2r0, .float .f32 d5_2r1]) ∧ cn .f32 d5_2r0 = m7.turn ∧ cn .f32 d5_2r1 = m7.rate := hD 3 rfl
          obtain ⟨d5_6r0, d5_6r1, t24, d5_6h0, d5_6h1⟩ : ∃ d5_6r0 : Nat, ∃ d5_6r1 : Nat, σ' 24 = (.agg #[.float .f32 d5_6r0, .float .f32 d5_6r1]) ∧ cn .f32 d5_6r0 = m8.turn ∧ cn .f32 d5_6r1 = m8.rate := hD 7 rfl
          refine dg_op rfl (d_cl (vs := [.agg #[.float .f32 d5_2r0, .float .f32 d5_2r1], .agg #[.float .f32 d5_6r0, .float .f32 d5_6r1]]) en109 (ac t20 (ac t24 rfl)) rfl ?_)
          refine (c109 m7 m8 d5_2r0 d5_2r1 d5_6r0 d5_6r1 m9 w' hm9 d5_2h0 d5_2h1 d5_6h0 d5_6h1).mono ?_
          rintro _ w18 ⟨rfl, E18⟩
          refine ⟨_, rfl, ?_⟩
          have X19 : Ext w' w18 := (Ext.refl w').trans E18
          exact ⟨rfl, own_none X19⟩
        · skip
          refine ⟨fun _ _ _ _ _ _ h _ => h, fun _ _ h _ => h, fun σ' w' hA hE hD hP => ?_⟩
          have t25 : σ' 25 = (.bool m9) := hD 8 rfl
          refine dg_op rfl (d_not t25 ?_)
          exact ⟨rfl, own_none (Ext.refl w')⟩
        · skip
          intro σ5 w5 A5 E5 V5
          have E5x : Ext wl2 w5 := ext_of_oth0 E5
          have s26_5 : σ5 26 = (.bool (!m9)) := V5 9 (Nat.le_of_ble_eq_true rfl)
          have s5_5 : σ5 5 = .int .i64 s2 := (A5 5 rfl).trans i2_S5
          have s0_5 : σ5 0 = (Value.slice p0a p0n p0c) := (A5 0 rfl).trans i2_S0
          have s1_5 : σ5 1 = (Value.slice p1a p1n p1c) := (A5 1 rfl).trans i2_S1
          have X20 : Ext w w5 := i2_X.trans E5x
          refine W_cond (b := (!m9)) s26_5 (fun hc21 => ?_) (fun hc21 => ?_)
          · skip
            replace hr := bif_t hr hc21
            refine W_seq ?_
            refine W_region rfl ?_
            refine da_op rfl (d_as (v := .bool false) rfl ?_)
            refine da_nil ?_
            refine W_ret ?_
            obtain rfl := Option.some.inj hr
            exact ⟨_, rfl, rfl, rfl, X20⟩
          · skip
            replace hr := bif_f hr hc21
            refine W_skip ?_
            refine W_region rfl ?_
            refine da_op rfl (d_mv (v := .int .i64 s2) s5_5 ?_)
            refine da_op rfl (d_iarith rfl rfl (.inl ⟨rfl, rfl⟩) ?_)
            refine da_op rfl (d_as (v := .int .i64 (IntKind.i64.wrap (s2 + 1))) rfl ?_)
            refine da_nil ?_
            obtain rfl := Option.some.inj hr
            exact ⟨_, rfl, ⟨rfl, s0_5, s1_5, X20⟩⟩
      · skip
        replace hr := bif_f hr hc4
        refine W_exit ?_
        obtain rfl := Option.some.inj hr
        exact ⟨_, rfl, rfl, i2_X⟩
    · skip
      intro ex σx2 wx2 hq
      rcases m2 with m2 | m2
      · skip
        obtain ⟨rfl, q2_0_X⟩ := hq
        refine W_seq ?_
        refine W_region rfl ?_
        refine da_op rfl (d_as (v := .bool true) rfl ?_)
        refine da_nil ?_
        refine W_ret ?_
        obtain rfl := Option.some.inj hr
        refine ⟨_, res1 (rv_tmp rfl), ?_⟩
        exact ⟨rfl, q2_0_X⟩
      · skip
        obtain ⟨rfl, q2_1_S4, q2_1_X⟩ := hq
        obtain rfl := Option.some.inj hr
        refine ⟨_, res1 (rv_tmp q2_1_S4), ?_⟩
        exact ⟨rfl, q2_1_X⟩
set_option maxHeartbeats 4000000 in
theorem c42 (p0 : SClocks) (p1 : SClocks) (p0v0a : Option Addr) (p0v0n : Nat) (p0v0c : Nat) (p0v1a : Option Addr) (p0v1n : Nat) (p0v1c : Nat) (p1v0a : Option Addr) (p1v0n : Nat) (p1v0c : Nat) (p1v1a : Option Addr) (p1v1n : Nat) (p1v1c : Nat) (r : Bool) (w : World) (hr : M.laws_eqClocks p0 p1 = some r) (p0v0R : RS w encSClock (Value.slice p0v0a p0v0n p0v0c) p0.list) (p0v1R : RS w encF_f32 (Value.slice p0v1a p0v1n p0v1c) p0.links) (p1v0R : RS w encSClock (Value.slice p1v0a p1v0n p1v0c) p1.list) (p1v1R : RS w encF_f32 (Value.slice p1v1a p1v1n p1v1c) p1.links) :
    Calls Try.prog 42 #[.agg #[(Value.slice p0v0a p0v0n p0v0c), (Value.slice p0v1a p0v1n p0v1c)], .agg #[(Value.slice p1v0a p1v0n p1v0c), (Value.slice p1v1a p1v1n p1v1c)]] w fun e w' => e = .returned (.bool r) ∧ Ext w w' := by
  refine calls_of_W Try.func42 rfl (Nat.le_of_ble_eq_true rfl) ?_
  refine W_seq ?_
  refine W_region rfl ?_
  refine da_op rfl (d_box (cs := #[(Value.slice p0v0a p0v0n p0v0c), (Value.slice p0v1a p0v1n p0v1c)]) rfl fun w1 B1 E1 => ?_)
  have own2 : w.heap.size ≤ w.heap.size := Nat.le_trans (Ext.refl w).size (Nat.le_refl _)
  have X3 : Ext w w1 := (Ext.refl w).trans E1
  refine da_op rfl (d_box (cs := #[(Value.slice p1v0a p1v0n p1v0c), (Value.slice p1v1a p1v1n p1v1c)]) rfl fun w4 B4 E4 => ?_)
  have own5 : w.heap.size ≤ w1.heap.size := Nat.le_trans X3.size (Nat.le_refl _)
  have sp6 : w.heap.size ≠ w1.heap.size := Nat.ne_of_lt (Nat.lt_of_lt_of_le (lt_heap B1) (Nat.le_refl _))
  have X7 : Ext w w4 := X3.trans E4
  refine da_op rfl (d_as (v := .bool false) rfl ?_)
  refine da_nil ?_
  refine W_seq ?_
  refine W_seq ?_
  refine W_region rfl ?_
  refine da_op rfl (d_fieldAddr rfl (fa54_0 _ _) ?_)
  have B8 : w4.heap[w.heap.size]? = some (.cells #[(Value.slice p0v0a p0v0n p0v0c), (Value.slice p0v1a p0v1n p0v1c)] 54 (0, 0)) := E4.heap B1
  refine da_op rfl (d_load (v := (Value.slice p0v0a p0v0n p0v0c)) rfl agg52 B8 rfl ?_)
  refine da_op rfl (d_fieldAddr rfl (fa54_0 _ _) ?_)
  refine da_op rfl (d_load (v := (Value.slice p1v0a p1v0n p1v0c)) rfl agg52 B4 rfl ?_)
  obtain ⟨m9, hm9, hr⟩ := bind_out hr
  have B10 : RS w4 encSClock (Value.slice p0v0a p0v0n p0v0c) p0.list := p0v0R.ext X7
  have B11 : RS w4 encSClock (Value.slice p1v0a p1v0n p1v0c) p1.list := p1v0R.ext X7
  refine da_op rfl (d_cl (vs := [(Value.slice p0v0a p0v0n p0v0c), (Value.slice p1v0a p1v0n p1v0c)]) en77 (ac rfl (ac rfl rfl)) rfl ?_)
  refine (c77 p0.list p1.list p0v0a p0v0n p0v0c p1v0a p1v0n p1v0c m9 w4 hm9 B10 B11).mono ?_
  rintro _ w12 ⟨rfl, E12⟩
  refine ⟨_, rfl, ?_⟩
  have X13 : Ext w w12 := X7.trans E12
  refine da_op rfl (d_not rfl ?_)
  refine da_nil ?_
  refine W_cond (b := (!m9)) rfl (fun hc14 => ?_) (fun hc14 => ?_)
  · skip
    replace hr := bif_t hr hc14
    refine W_seq ?_
    refine W_region rfl ?_
    refine da_op rfl (d_as (v := .bool false) rfl ?_)
    refine da_nil ?_
    refine W_ret ?_
    obtain rfl := Option.some.inj hr
    refine ⟨_, res1 (rv_tmp rfl), ?_⟩
    exact ⟨rfl, X13⟩
  · skip
    replace hr := bif_f hr hc14
    refine W_skip ?_
    refine W_seq ?_
    refine W_seq ?_
    refine W_region rfl ?_
    refine da_op rfl (d_fieldAddr rfl (fa54_1 _ _) ?_)
    have B15 : w12.heap[w.heap.size]? = some (.cells #[(Value.slice p0v0a p0v0n p0v0c), (Value.slice p0v1a p0v1n p0v1c)] 54 (0, 0)) := E12.heap B8
    refine da_op rfl (d_load (v := (Value.slice p0v1a p0v1n p0v1c)) rfl agg48 B15 rfl ?_)
    refine da_op rfl (d_fieldAddr rfl (fa54_1 _ _) ?_)
    have B16 : w12.heap[w1.heap.size]? = some (.cells #[(Value.slice p1v0a p1v0n p1v0c), (Value.slice p1v1a p1v1n p1v1c)] 54 (0, 0)) := E12.heap B4
    refine da_op rfl (d_load (v := (Value.slice p1v1a p1v1n p1v1c)) rfl agg48 B16 rfl ?_)
    obtain ⟨m17, hm17, hr⟩ := bind_out hr
    have B18 : RS w12 encF_f32 (Value.slice p0v1a p0v1n p0v1c) p0.links := p0v1R.ext X13
    have B19 : RS w12 encF_f32 (Value.slice p1v1a p1v1n p1v1c) p1.links := p1v1R.ext X13
    refine da_op rfl (d_cl (vs := [(Value.slice p0v1a p0v1n p0v1c), (Value.slice p1v1a p1v1n p1v1c)]) en75 (ac rfl (ac rfl rfl)) rfl ?_)
    refine (c75 p0.links p1.links p0v1a p0v1n p0v1c p1v1a p1v1n p1v1c m17 w12 hm17 B18 B19).mono ?_
    rintro _ w20 ⟨rfl, E20⟩
    refine ⟨_, rfl, ?_⟩
    have X21 : Ext w w20 := X13.trans E20
    refine da_op rfl (d_not rfl ?_)
    refine da_nil ?_
    refine W_cond (b := (!m17)) rfl (fun hc22 => ?_) (fun hc22 => ?_)
    · skip
      replace hr := bif_t hr hc22
      refine W_seq ?_
      refine W_region rfl ?_
      refine da_op rfl (d_as (v := .bool false) rfl ?_)
      refine da_nil ?_
      refine W_ret ?_
      obtain rfl := Option.some.inj hr
      refine ⟨_, res1 (rv_tmp rfl), ?_⟩
      exact ⟨rfl, X21⟩
    · skip
      replace hr := bif_f hr hc22
      refine W_skip ?_
      refine W_seq ?_
      refine W_region rfl ?_
      refine da_op rfl (d_as (v := .bool true) rfl ?_)
      refine da_nil ?_
      refine W_ret ?_
      obtain rfl := Option.some.inj hr
      refine ⟨_, res1 (rv_tmp rfl), ?_⟩
      exact ⟨rfl, X21⟩
set_option maxHeartbeats 4000000 in
theorem c18 (p0 : SDesk) (p1 : SDesk) (p0r0 : Nat) (p0r1 : Nat) (p0r2 : Nat) (p0r3 : Nat) (p0r4 : Nat) (p0r5 : Nat) (p0r6 : Nat) (p0r7 : Nat) (p0v8a : Option Addr) (p0v8n : Nat) (p0v8c : Nat) (p0v9a : Option Addr) (p0v9n : Nat) (p0v9c : Nat) (p0v10a : Option Addr) (p0v10n : Nat) (p0v10c : Nat) (p0v11a : Option Addr) (p0v11n : Nat) (p0v11c : Nat) (p0r12 : Nat) (p0r13 : Nat) (p0r14 : Nat) (p0r15 : Nat) (p0r16 : Nat) (p0r17 : Nat) (p0r18 : Nat) (p0r19 : Nat) (p0r20 : Nat) (p0r21 : Nat) (p0v22a : Option Addr) (p0v22n : Nat) (p0v22c : Nat) (p0v23a : Option Addr) (p0v23n : Nat) (p0v23c : Nat) (p1r0 : Nat) (p1r1 : Nat) (p1r2 : Nat) (p1r3 : Nat) (p1r4 : Nat) (p1r5 : Nat) (p1r6 : Nat) (p1r7 : Nat) (p1v8a : Option Addr) (p1v8n : Nat) (p1v8c : Nat) (p1v9a : Option Addr) (p1v9n : Nat) (p1v9c : Nat) (p1v10a : Option Addr) (p1v10n : Nat) (p1v10c : Nat) (p1v11a : Option Addr) (p1v11n : Nat) (p1v11c : Nat) (p1r12 : Nat) (p1r13 : Nat) (p1r14 : Nat) (p1r15 : Nat) (p1r16 : Nat) (p1r17 : Nat) (p1r18 : Nat) (p1r19 : Nat) (p1r20 : Nat) (p1r21 : Nat) (p1v22a : Option Addr) (p1v22n : Nat) (p1v22c : Nat) (p1v23a : Option Addr) (p1v23n : Nat) (p1v23c : Nat) (r : Bool) (w : World) (hr : M.laws_eqDesk p0 p1 = some r) (p0h0 : cn .f32 p0r0 = p0.pendulum.long) (p0h1 : cn .f32 p0r1 = p0.pendulum.pull) (p0h2 : cn .f32 p0r2 = p0.pendulum.drag) (p0h3 : cn .f32 p0r3 = p0.pendulum.drive) (p0h4 : cn .f32 p0r4 = p0.pendulum.rate) (p0h5 : cn .f32 p0r5 = p0.swing.turn) (p0h6 : cn .f32 p0r6 = p0.swing.speed) (p0h7 : cn .f32 p0r7 = p0.swing.time) (p0v8R : RS w encSVector (Value.slice p0v8a p0v8n p0v8c) p0.chain.places) (p0v9R : RS w encSVector (Value.slice p0v9a p0v9n p0v9c) p0.chain.before) (p0v10R : RS w encF_f32 (Value.slice p0v10a p0v10n p0v10c) p0.chain.weights) (p0v11R : RS w encSRod (Value.slice p0v11a p0v11n p0v11c) p0.chain.rods) (p0h12 : cn .f32 p0r12 = p0.top.moments.x) (p0h13 : cn .f32 p0r13 = p0.top.moments.y) (p0h14 : cn .f32 p0r14 = p0.top.moments.z) (p0h15 : cn .f32 p0r15 = p0.top.turn.w) (p0h16 : cn .f32 p0r16 = p0.top.turn.x) (p0h17 : cn .f32 p0r17 = p0.top.turn.y) (p0h18 : cn .f32 p0r18 = p0.top.turn.z) (p0h19 : cn .f32 p0r19 = p0.top.speed.x) (p0h20 : cn .f32 p0r20 = p0.top.speed.y) (p0h21 : cn .f32 p0r21 = p0.top.speed.z) (p0v22R : RS w encSClock (Value.slice p0v22a p0v22n p0v22c) p0.clocks.list) (p0v23R : RS w encF_f32 (Value.slice p0v23a p0v23n p0v23c) p0.clocks.links) (p1h0 : cn .f32 p1r0 = p1.pendulum.long) (p1h1 : cn .f32 p1r1 = p1.pendulum.pull) (p1h2 : cn .f32 p1r2 = p1.pendulum.drag) (p1h3 : cn .f32 p1r3 = p1.pendulum.drive) (p1h4 : cn .f32 p1r4 = p1.pendulum.rate) (p1h5 : cn .f32 p1r5 = p1.swing.turn) (p1h6 : cn .f32 p1r6 = p1.swing.speed) (p1h7 : cn .f32 p1r7 = p1.swing.time) (p1v8R : RS w encSVector (Value.slice p1v8a p1v8n p1v8c) p1.chain.places) (p1v9R : RS w encSVector (Value.slice p1v9a p1v9n p1v9c) p1.chain.before) (p1v10R : RS w encF_f32 (Value.slice p1v10a p1v10n p1v10c) p1.chain.weights) (p1v11R : RS w encSRod (Value.slice p1v11a p1v11n p1v11c) p1.chain.rods) (p1h12 : cn .f32 p1r12 = p1.top.moments.x) (p1h13 : cn .f32 p1r13 = p1.top.moments.y) (p1h14 : cn .f32 p1r14 = p1.top.moments.z) (p1h15 : cn .f32 p1r15 = p1.top.turn.w) (p1h16 : cn .f32 p1r16 = p1.top.turn.x) (p1h17 : cn .f32 p1r17 = p1.top.turn.y) (p1h18 : cn .f32 p1r18 = p1.top.turn.z) (p1h19 : cn .f32 p1r19 = p1.top.speed.x) (p1h20 : cn .f32 p1r20 = p1.top.speed.y) (p1h21 : cn .f32 p1r21 = p1.top.speed.z) (p1v22R : RS w encSClock (Value.slice p1v22a p1v22n p1v22c) p1.clocks.list) (p1v23R : RS w encF_f32 (Value.slice p1v23a p1v23n p1v23c) p1.clocks.links) :
    Calls Try.prog 18 #[.agg #[.float .f32 p0r0, .float .f32 p0r1, .float .f32 p0r2, .float .f32 p0r3, .float .f32 p0r4, .float .f32 p0r5, .float .f32 p0r6, .float .f32 p0r7, (Value.slice p0v8a p0v8n p0v8c), (Value.slice p0v9a p0v9n p0v9c), (Value.slice p0v10a p0v10n p0v10c), (Value.slice p0v11a p0v11n p0v11c), .float .f32 p0r12, .float .f32 p0r13, .float .f32 p0r14, .float .f32 p0r15, .float .f32 p0r16, .float .f32 p0r17, .float .f32 p0r18, .float .f32 p0r19, .float .f32 p0r20, .float .f32 p0r21, (Value.slice p0v22a p0v22n p0v22c), (Value.slice p0v23a p0v23n p0v23c)], .agg #[.float .f32 p1r0, .float .f32 p1r1, .float .f32 p1r2, .float .f32 p1r3, .float .f32 p1r4, .float .f32 p1r5, .float .f32 p1r6, .float .f32 p1r7, (Value.slice p1v8a p1v8n p1v8c), (Value.slice p1v9a p1v9n p1v9c), (Value.slice p1v10a p1v10n p1v10c), (Value.slice p1v11a p1v11n p1v11c), .float .f32 p1r12, .float .f32 p1r13, .float .f32 p1r14, .float .f32 p1r15, .float .f32 p1r16, .float .f32 p1r17, .float .f32 p1r18, .float .f32 p1r19, .float .f32 p1r20, .float .f32 p1r21, (Value.slice p1v22a p1v22n p1v22c), (Value.slice p1v23a p1v23n p1v23c)]] w fun e w' => e = .returned (.bool r) ∧ Ext w w' := by
  refine calls_of_W Try.func18 rfl (Nat.le_of_ble_eq_true rfl) ?_
  refine W_seq ?_
  refine W_region rfl ?_
  refine da_op rfl (d_box (cs := #[.float .f32 p0r0, .float .f32 p0r1, .float .f32 p0r2, .float .f32 p0r3, .float .f32 p0r4, .float .f32 p0r5, .float .f32 p0r6, .float .f32 p0r7, (Value.slice p0v8a p0v8n p0v8c), (Value.slice p0v9a p0v9n p0v9c), (Value.slice p0v10a p0v10n p0v10c), (Value.slice p0v11a p0v11n p0v11c), .float .f32 p0r12, .float .f32 p0r13, .float .f32 p0r14, .float .f32 p0r15, .float .f32 p0r16, .float .f32 p0r17, .float .f32 p0r18, .float .f32 p0r19, .float .f32 p0r20, .float .f32 p0r21, (Value.slice p0v22a p0v22n p0v22c), (Value.slice p0v23a p0v23n p0v23c)]) rfl fun w1 B1 E1 => ?_)
  have own2 : w.heap.size ≤ w.heap.size := Nat.le_trans (Ext.refl w).size (Nat.le_refl _)
  have X3 : Ext w w1 := (Ext.refl w).trans E1
  refine da_op rfl (d_box (cs := #[.float .f32 p1r0, .float .f32 p1r1, .float .f32 p1r2, .float .f32 p1r3, .float .f32 p1r4, .float .f32 p1r5, .float .f32 p1r6, .float .f32 p1r7, (Value.slice p1v8a p1v8n p1v8c), (Value.slice p1v9a p1v9n p1v9c), (Value.slice p1v10a p1v10n p1v10c), (Value.slice p1v11a p1v11n p1v11c), .float .f32 p1r12, .float .f32 p1r13, .float .f32 p1r14, .float .f32 p1r15, .float .f32 p1r16, .float .f32 p1r17, .float .f32 p1r18, .float .f32 p1r19, .float .f32 p1r20, .float .f32 p1r21, (Value.slice p1v22a p1v22n p1v22c), (Value.slice p1v23a p1v23n p1v23c)]) rfl fun w4 B4 E4 => ?_)
  have own5 : w.heap.size ≤ w1.heap.size := Nat.le_trans X3.size (Nat.le_refl _)
  have sp6 : w.heap.size ≠ w1.heap.size := Nat.ne_of_lt (Nat.lt_of_lt_of_le (lt_heap B1) (Nat.le_refl _))
  have X7 : Ext w w4 := X3.trans E4
  refine da_op rfl (d_as (v := .bool false) rfl ?_)
  refine da_nil ?_
  refine W_seq ?_
  refine W_seq ?_
  refine W_region rfl ?_
  refine da_op rfl (d_fieldAddr rfl (fa56_0 _ _) ?_)
  have B8 : w4.heap[w.heap.size]? = some (.cells #[.float .f32 p0r0, .float .f32 p0r1, .float .f32 p0r2, .float .f32 p0r3, .float .f32 p0r4, .float .f32 p0r5, .float .f32 p0r6, .float .f32 p0r7, (Value.slice p0v8a p0v8n p0v8c), (Value.slice p0v9a p0v9n p0v9c), (Value.slice p0v10a p0v10n p0v10c), (Value.slice p0v11a p0v11n p0v11c), .float .f32 p0r12, .float .f32 p0r13, .float .f32 p0r14, .float .f32 p0r15, .float .f32 p0r16, .float .f32 p0r17, .float .f32 p0r18, .float .f32 p0r19, .float .f32 p0r20, .float .f32 p0r21, (Value.slice p0v22a p0v22n p0v22c), (Value.slice p0v23a p0v23n p0v23c)] 56 (0, 0)) := E4.heap B1
  refine da_op rfl (d_loads (vs := #[.float .f32 p0r0, .float .f32 p0r1, .float .f32 p0r2, .float .f32 p0r3, .float .f32 p0r4]) rfl agg45 size45 B8 rfl ?_)
  refine da_op rfl (d_fieldAddr rfl (fa56_0 _ _) ?_)
  refine da_op rfl (d_loads (vs := #[.float .f32 p1r0, .float .f32 p1r1, .float .f32 p1r2, .float .f32 p1r3, .float .f32 p1r4]) rfl agg45 size45 B4 rfl ?_)
  obtain ⟨m9, hm9, hr⟩ := letv_out hr
  refine da_op rfl (d_cl (vs := [.agg #[.float .f32 p0r0, .float .f32 p0r1, .float .f32 p0r2, .float .f32 p0r3, .float .f32 p0r4], .agg #[.float .f32 p1r0, .float .f32 p1r1, .float .f32 p1r2, .float .f32 p1r3, .float .f32 p1r4]]) en39 (ac rfl (ac rfl rfl)) rfl ?_)
  refine (c39 p0.pendulum p1.pendulum p0r0 p0r1 p0r2 p0r3 p0r4 p1r0 p1r1 p1r2 p1r3 p1r4 m9 w4 hm9 p0h0 p0h1 p0h2 p0h3 p0h4 p1h0 p1h1 p1h2 p1h3 p1h4).mono ?_
  rintro _ w10 ⟨rfl, E10⟩
  refine ⟨_, rfl, ?_⟩
  have X11 : Ext w w10 := X7.trans E10
  refine da_op rfl (d_not rfl ?_)
  refine da_nil ?_
  refine W_cond (b := (!m9)) rfl (fun hc12 => ?_) (fun hc12 => ?_)
  · skip
    replace hr := bif_t hr hc12
    refine W_seq ?_
    refine W_region rfl ?_
    refine da_op rfl (d_as (v := .bool false) rfl ?_)
    refine da_nil ?_
    refine W_ret ?_
    obtain rfl := Option.some.inj hr
    refine ⟨_, res1 (rv_tmp rfl), ?_⟩
    exact ⟨rfl, X11⟩
  · skip
    replace hr := bif_f hr hc12
    refine W_skip ?_
    refine W_seq ?_
    refine W_seq ?_
    refine W_region rfl ?_
    refine da_op rfl (d_fieldAddr rfl (fa56_1 _ _) ?_)
    have B13 : w10.heap[w.heap.size]? = some (.cells #[.float .f32 p0r0, .float .f32 p0r1, .float .f32 p0r2, .float .f32 p0r3, .float .f32 p0r4, .float .f32 p0r5, .float .f32 p0r6, .float .f32 p0r7, (Value.slice p0v8a p0v8n p0v8c), (Value.slice p0v9a p0v9n p0v9c), (Value.slice p0v10a p0v10n p0v10c), (Value.slice p0v11a p0v11n p0v11c), .float .f32 p0r12, .float .f32 p0r13, .float .f32 p0r14, .float .f32 p0r15, .float .f32 p0r16, .float .f32 p0r17, .float .f32 p0r18, .float .f32 p0r19, .float .f32 p0r20, .float .f32 p0r21, (Value.slice p0v22a p0v22n p0v22c), (Value.slice p0v23a p0v23n p0v23c)] 56 (0, 0)) := E10.heap B8
    refine da_op rfl (d_loads (vs := #[.float .f32 p0r5, .float .f32 p0r6, .float .f32 p0r7]) rfl agg47 size47 B13 rfl ?_)
    refine da_op rfl (d_fieldAddr rfl (fa56_1 _ _) ?_)
    have B14 : w10.heap[w1.heap.size]? = some (.cells #[.float .f32 p1r0, .float .f32 p1r1, .float .f32 p1r2, .float .f32 p1r3, .float .f32 p1r4, .float .f32 p1r5, .float .f32 p1r6, .float .f32 p1r7, (Value.slice p1v8a p1v8n p1v8c), (Value.slice p1v9a p1v9n p1v9c), (Value.slice p1v10a p1v10n p1v10c), (Value.slice p1v11a p1v11n p1v11c), .float .f32 p1r12, .float .f32 p1r13, .float .f32 p1r14, .float .f32 p1r15, .float .f32 p1r16, .float .f32 p1r17, .float .f32 p1r18, .float .f32 p1r19, .float .f32 p1r20, .float .f32 p1r21, (Value.slice p1v22a p1v22n p1v22c), (Value.slice p1v23a p1v23n p1v23c)] 56 (0, 0)) := E10.heap B4
    refine da_op rfl (d_loads (vs := #[.float .f32 p1r5, .float .f32 p1r6, .float .f32 p1r7]) rfl agg47 size47 B14 rfl ?_)
    obtain ⟨m15, hm15, hr⟩ := letv_out hr
    refine da_op rfl (d_cl (vs := [.agg #[.float .f32 p0r5, .float .f32 p0r6, .float .f32 p0r7], .agg #[.float .f32 p1r5, .float .f32 p1r6, .float .f32 p1r7]]) en40 (ac rfl (ac rfl rfl)) rfl ?_)
    refine (c40 p0.swing p1.swing p0r5 p0r6 p0r7 p1r5 p1r6 p1r7 m15 w10 hm15 p0h5 p0h6 p0h7 p1h5 p1h6 p1h7).mono ?_
    rintro _ w16 ⟨rfl, E16⟩
    refine ⟨_, rfl, ?_⟩
    have X17 : Ext w w16 := X11.trans E16
    refine da_op rfl (d_not rfl ?_)
    refine da_nil ?_
    refine W_cond (b := (!m15)) rfl (fun hc18 => ?_) (fun hc18 => ?_)
    · skip
      replace hr := bif_t hr hc18
      refine W_seq ?_
      refine W_region rfl ?_
      refine da_op rfl (d_as (v := .bool false) rfl ?_)
      refine da_nil ?_
      refine W_ret ?_
      obtain rfl := Option.some.inj hr
      refine ⟨_, res1 (rv_tmp rfl), ?_⟩
      exact ⟨rfl, X17⟩
    · skip
      replace hr := bif_f hr hc18
      refine W_skip ?_
      refine W_seq ?_
      refine W_seq ?_
      refine W_region rfl ?_
      refine da_op rfl (d_fieldAddr rfl (fa56_2 _ _) ?_)
      have B19 : w16.heap[w.heap.size]? = some (.cells #[.float .f32 p0r0, .float .f32 p0r1, .float .f32 p0r2, .float .f32 p0r3, .float .f32 p0r4, .float .f32 p0r5, .float .f32 p0r6, .float .f32 p0r7, (Value.slice p0v8a p0v8n p0v8c), (Value.slice p0v9a p0v9n p0v9c), (Value.slice p0v10a p0v10n p0v10c), (Value.slice p0v11a p0v11n p0v11c), .float .f32 p0r12, .float .f32 p0r13, .float .f32 p0r14, .float .f32 p0r15, .float .f32 p0r16, .float .f32 p0r17, .float .f32 p0r18, .float .f32 p0r19, .float .f32 p0r20, .float .f32 p0r21, (Value.slice p0v22a p0v22n p0v22c), (Value.slice p0v23a p0v23n p0v23c)] 56 (0, 0)) := E16.heap B13
      refine da_op rfl (d_loads (vs := #[(Value.slice p0v8a p0v8n p0v8c), (Value.slice p0v9a p0v9n p0v9c), (Value.slice p0v10a p0v10n p0v10c), (Value.slice p0v11a p0v11n p0v11c)]) rfl agg51 size51 B19 rfl ?_)
      refine da_op rfl (d_fieldAddr rfl (fa56_2 _ _) ?_)
      have B20 : w16.heap[w1.heap.size]? = some (.cells #[.float .f32 p1r0, .float .f32 p1r1, .float .f32 p1r2, .float .f32 p1r3, .float .f32 p1r4, .float .f32 p1r5, .float .f32 p1r6, .float .f32 p1r7, (Value.slice p1v8a p1v8n p1v8c), (Value.slice p1v9a p1v9n p1v9c), (Value.slice p1v10a p1v10n p1v10c), (Value.slice p1v11a p1v11n p1v11c), .float .f32 p1r12, .float .f32 p1r13, .float .f32 p1r14, .float .f32 p1r15, .float .f32 p1r16, .float .f32 p1r17, .float .f32 p1r18, .float .f32 p1r19, .float .f32 p1r20, .float .f32 p1r21, (Value.slice p1v22a p1v22n p1v22c), (Value.slice p1v23a p1v23n p1v23c)] 56 (0, 0)) := E16.heap B14
      refine da_op rfl (d_loads (vs := #[(Value.slice p1v8a p1v8n p1v8c), (Value.slice p1v9a p1v9n p1v9c), (Value.slice p1v10a p1v10n p1v10c), (Value.slice p1v11a p1v11n p1v11c)]) rfl agg51 size51 B20 rfl ?_)
      obtain ⟨m21, hm21, hr⟩ := bind_out hr
      have B22 : RS w16 encSVector (Value.slice p0v8a p0v8n p0v8c) p0.chain.places := p0v8R.ext X17
      have B23 : RS w16 encSVector (Value.slice p0v9a p0v9n p0v9c) p0.chain.before := p0v9R.ext X17
      have B24 : RS w16 encF_f32 (Value.slice p0v10a p0v10n p0v10c) p0.chain.weights := p0v10R.ext X17
      have B25 : RS w16 encSRod (Value.slice p0v11a p0v11n p0v11c) p0.chain.rods := p0v11R.ext X17
      have B26 : RS w16 encSVector (Value.slice p1v8a p1v8n p1v8c) p1.chain.places := p1v8R.ext X17
      have B27 : RS w16 encSVector (Value.slice p1v9a p1v9n p1v9c) p1.chain.before := p1v9R.ext X17
      have B28 : RS w16 encF_f32 (Value.slice p1v10a p1v10n p1v10c) p1.chain.weights := p1v10R.ext X17
      have B29 : RS w16 encSRod (Value.slice p1v11a p1v11n p1v11c) p1.chain.rods := p1v11R.ext X17
      refine da_op rfl (d_cl (vs := [.agg #[(Value.slice p0v8a p0v8n p0v8c), (Value.slice p0v9a p0v9n p0v9c), (Value.slice p0v10a p0v10n p0v10c), (Value.slice p0v11a p0v11n p0v11c)], .agg #[(Value.slice p1v8a p1v8n p1v8c), (Value.slice p1v9a p1v9n p1v9c), (Value.slice p1v10a p1v10n p1v10c), (Value.slice p1v11a p1v11n p1v11c)]]) en41 (ac rfl (ac rfl rfl)) rfl ?_)
      refine (c41 p0.chain p1.chain p0v8a p0v8n p0v8c p0v9a p0v9n p0v9c p0v10a p0v10n p0v10c p0v11a p0v11n p0v11c p1v8a p1v8n p1v8c p1v9a p1v9n p1v9c p1v10a p1v10n p1v10c p1v11a p1v11n p1v11c m21 w16 hm21 B22 B23 B24 B25 B26 B27 B28 B29).mono ?_
      rintro _ w30 ⟨rfl, E30⟩
      refine ⟨_, rfl, ?_⟩
      have X31 : Ext w w30 := X17.trans E30
      refine da_op rfl (d_not rfl ?_)
      refine da_nil ?_
      refine W_cond (b := (!m21)) rfl (fun hc32 => ?_) (fun hc32 => ?_)
      · skip
        replace hr := bif_t hr hc32
        refine W_seq ?_
        refine W_region rfl ?_
        refine da_op rfl (d_as (v := .bool false) rfl ?_)
        refine da_nil ?_
        refine W_ret ?_
        obtain rfl := Option.some.inj hr
        refine ⟨_, res1 (rv_tmp rfl), ?_⟩
        exact ⟨rfl, X31⟩
      · skip
        replace hr := bif_f hr hc32
        refine W_skip ?_
        refine W_seq ?_
        refine W_seq ?_
        refine W_region rfl ?_
        refine da_op rfl (d_fieldAddr rfl (fa56_3 _ _) ?_)
        have B33 : w30.heap[w.heap.size]? = some (.cells #[.float .f32 p0r0, .float .f32 p0r1, .float .f32 p0r2, .float .f32 p0r3, .float .f32 p0r4, .float .f32 p0r5, .float .f32 p0r6, .float .f32 p0r7, (Value.slice p0v8a p0v8n p0v8c), (Value.slice p0v9a p0v9n p0v9c), (Value.slice p0v10a p0v10n p0v10c), (Value.slice p0v11a p0v11n p0v11c), .float .f32 p0r12, .float .f32 p0r13, .float .f32 p0r14, .float .f32 p0r15, .float .f32 p0r16, .float .f32 p0r17, .float .f32 p0r18, .float .f32 p0r19, .float .f32 p0r20, .float .f32 p0r21, (Value.slice p0v22a p0v22n p0v22c), (Value.slice p0v23a p0v23n p0v23c)] 56 (0, 0)) := E30.heap B19
        refine da_op rfl (d_loads (vs := #[.float .f32 p0r12, .float .f32 p0r13, .float .f32 p0r14, .float .f32 p0r15, .float .f32 p0r16, .float .f32 p0r17, .float .f32 p0r18, .float .f32 p0r19, .float .f32 p0r20, .float .f32 p0r21]) rfl agg32 size32 B33 rfl ?_)
        refine da_op rfl (d_fieldAddr rfl (fa56_3 _ _) ?_)
        have B34 : w30.heap[w1.heap.size]? = some (.cells #[.float .f32 p1r0, .float .f32 p1r1, .float .f32 p1r2, .float .f32 p1r3, .float .f32 p1r4, .float .f32 p1r5, .float .f32 p1r6, .float .f32 p1r7, (Value.slice p1v8a p1v8n p1v8c), (Value.slice p1v9a p1v9n p1v9c), (Value.slice p1v10a p1v10n p1v10c), (Value.slice p1v11a p1v11n p1v11c), .float .f32 p1r12, .float .f32 p1r13, .float .f32 p1r14, .float .f32 p1r15, .float .f32 p1r16, .float .f32 p1r17, .float .f32 p1r18, .float .f32 p1r19, .float .f32 p1r20, .float .f32 p1r21, (Value.slice p1v22a p1v22n p1v22c), (Value.slice p1v23a p1v23n p1v23c)] 56 (0, 0)) := E30.heap B20
        refine da_op rfl (d_loads (vs := #[.float .f32 p1r12, .float .f32 p1r13, .float .f32 p1r14, .float .f32 p1r15, .float .f32 p1r16, .float .f32 p1r17, .float .f32 p1r18, .float .f32 p1r19, .float .f32 p1r20, .float .f32 p1r21]) rfl agg32 size32 B34 rfl ?_)
        obtain ⟨m35, hm35, hr⟩ := letv_out hr
        refine da_op rfl (d_cl (vs := [.agg #[.float .f32 p0r12, .float .f32 p0r13, .float .f32 p0r14, .float .f32 p0r15, .float .f32 p0r16, .float .f32 p0r17, .float .f32 p0r18, .float .f32 p0r19, .float .f32 p0r20, .float .f32 p0r21], .agg #[.float .f32 p1r12, .float .f32 p1r13, .float .f32 p1r14, .float .f32 p1r15, .float .f32 p1r16, .float .f32 p1r17, .float .f32 p1r18, .float .f32 p1r19, .float .f32 p1r20, .float .f32 p1r21]]) en10 (ac rfl (ac rfl rfl)) rfl ?_)
        refine (c10 (⟨(⟨p0.top.moments.x, p0.top.moments.y, p0.top.moments.z⟩ : SVector), (⟨p0.top.turn.w, p0.top.turn.x, p0.top.turn.y, p0.top.turn.z⟩ : SSpin), (⟨p0.top.speed.x, p0.top.speed.y, p0.top.speed.z⟩ : SVector)⟩ : STop) (⟨(⟨p1.top.moments.x, p1.top.moments.y, p1.top.moments.z⟩ : SVector), (⟨p1.top.turn.w, p1.top.turn.x, p1.top.turn.y, p1.top.turn.z⟩ : SSpin), (⟨p1.top.speed.x, p1.top.speed.y, p1.top.speed.z⟩ : SVector)⟩ : STop) p0r12 p0r13 p0r14 p0r15 p0r16 p0r17 p0r18 p0r19 p0r20 p0r21 p1r12 p1r13 p1r14 p1r15 p1r16 p1r17 p1r18 p1r19 p1r20 p1r21 m35 w30 hm35 p0h12 p0h13 p0h14 p0h15 p0h16 p0h17 p0h18 p0h19 p0h20 p0h21 p1h12 p1h13 p1h14 p1h15 p1h16 p1h17 p1h18 p1h19 p1h20 p1h21).mono ?_
        rintro _ w36 ⟨rfl, E36⟩
        refine ⟨_, rfl, ?_⟩
        have X37 : Ext w w36 := X31.trans E36
        refine da_op rfl (d_not rfl ?_)
        refine da_nil ?_
        refine W_cond (b := (!m35)) rfl (fun hc38 => ?_) (fun hc38 => ?_)
        · skip
          replace hr := bif_t hr hc38
          refine W_seq ?_
          refine W_region rfl ?_
          refine da_op rfl (d_as (v := .bool false) rfl ?_)
          refine da_nil ?_
          refine W_ret ?_
          obtain rfl := Option.some.inj hr
          refine ⟨_, res1 (rv_tmp rfl), ?_⟩
          exact ⟨rfl, X37⟩
        · skip
          replace hr := bif_f hr hc38
          refine W_skip ?_
          refine W_seq ?_
          refine W_seq ?_
          refine W_region rfl ?_
          refine da_op rfl (d_fieldAddr rfl (fa56_4 _ _) ?_)
          have B39 : w36.heap[w.heap.size]? = some (.cells #[.float .f32 p0r0, .float .f32 p0r1, .float .f32 p0r2, .float .f32 p0r3, .float .f32 p0r4, .float .f32 p0r5, .float .f32 p0r6, .float .f32 p0r7, (Value.slice p0v8a p0v8n p0v8c), (Value.slice p0v9a p0v9n p0v9c), (Value.slice p0v10a p0v10n p0v10c), (Value.slice p0v11a p0v11n p0v11c), .float .f32 p0r12, .float .f32 p0r13, .float .f32 p0r14, .float .f32 p0r15, .float .f32 p0r16, .float .f32 p0r17, .float .f32 p0r18, .float .f32 p0r19, .float .f32 p0r20, .float .f32 p0r21, (Value.slice p0v22a p0v22n p0v22c), (Value.slice p0v23a p0v23n p0v23c)] 56 (0, 0)) := E36.heap B33
          refine da_op rfl (d_loads (vs := #[(Value.slice p0v22a p0v22n p0v22c), (Value.slice p0v23a p0v23n p0v23c)]) rfl agg54 size54 B39 rfl ?_)
          refine da_op rfl (d_fieldAddr rfl (fa56_4 _ _) ?_)
          have B40 : w36.heap[w1.heap.size]? = some (.cells #[.float .f32 p1r0, .float .f32 p1r1, .float .f32 p1r2, .float .f32 p1r3, .float .f32 p1r4, .float .f32 p1r5, .float .f32 p1r6, .float .f32 p1r7, (Value.slice p1v8a p1v8n p1v8c), (Value.slice p1v9a p1v9n p1v9c), (Value.slice p1v10a p1v10n p1v10c), (Value.slice p1v11a p1v11n p1v11c), .float .f32 p1r12, .float .f32 p1r13, .float .f32 p1r14, .float .f32 p1r15, .float .f32 p1r16, .float .f32 p1r17, .float .f32 p1r18, .float .f32 p1r19, .float .f32 p1r20, .float .f32 p1r21, (Value.slice p1v22a p1v22n p1v22c), (Value.slice p1v23a p1v23n p1v23c)] 56 (0, 0)) := E36.heap B34
          refine da_op rfl (d_loads (vs := #[(Value.slice p1v22a p1v22n p1v22c), (Value.slice p1v23a p1v23n p1v23c)]) rfl agg54 size54 B40 rfl ?_)
          obtain ⟨m41, hm41, hr⟩ := bind_out hr
          have B42 : RS w36 encSClock (Value.slice p0v22a p0v22n p0v22c) p0.clocks.list := p0v22R.ext X37
          have B43 : RS w36 encF_f32 (Value.slice p0v23a p0v23n p0v23c) p0.clocks.links := p0v23R.ext X37
          have B44 : RS w36 encSClock (Value.slice p1v22a p1v22n p1v22c) p1.clocks.list := p1v22R.ext X37
          have B45 : RS w36 encF_f32 (Value.slice p1v23a p1v23n p1v23c) p1.clocks.links := p1v23R.ext X37
          refine da_op rfl (d_cl (vs := [.agg #[(Value.slice p0v22a p0v22n p0v22c), (Value.slice p0v23a p0v23n p0v23c)], .agg #[(Value.slice p1v22a p1v22n p1v22c), (Value.slice p1v23a p1v23n p1v23c)]]) en42 (ac rfl (ac rfl rfl)) rfl ?_)
          refine (c42 (⟨p0.clocks.list, p0.clocks.links⟩ : SClocks) (⟨p1.clocks.list, p1.clocks.links⟩ : SClocks) p0v22a p0v22n p0v22c p0v23a p0v23n p0v23c p1v22a p1v22n p1v22c p1v23a p1v23n p1v23c m41 w36 hm41 B42 B43 B44 B45).mono ?_
          rintro _ w46 ⟨rfl, E46⟩
          refine ⟨_, rfl, ?_⟩
          have X47 : Ext w w46 := X37.trans E46
          refine da_op rfl (d_not rfl ?_)
          refine da_nil ?_
          refine W_cond (b := (!m41)) rfl (fun hc48 => ?_) (fun hc48 => ?_)
          · skip
            replace hr := bif_t hr hc48
            refine W_seq ?_
            refine W_region rfl ?_
            refine da_op rfl (d_as (v := .bool false) rfl ?_)
            refine da_nil ?_
            refine W_ret ?_
            obtain rfl := Option.some.inj hr
            refine ⟨_, res1 (rv_tmp rfl), ?_⟩
            exact ⟨rfl, X47⟩
          · skip
            replace hr := bif_f hr hc48
            refine W_skip ?_
            refine W_seq ?_
            refine W_region rfl ?_
            refine da_op rfl (d_as (v := .bool true) rfl ?_)
            refine da_nil ?_
            refine W_ret ?_
            obtain rfl := Option.some.inj hr
            refine ⟨_, res1 (rv_tmp rfl), ?_⟩
            exact ⟨rfl, X47⟩
set_option maxHeartbeats 4000000 in
theorem c12 (p0 : List SVector) (p1 : Int) (p0a : Option Addr) (p0n : Nat) (p0c : Nat) (r : Int × List SVector) (w : World) (hr : M.laws_markVectorS p0 p1 = some r) (p0R : OS w 29 encSVector (Value.slice p0a p0n p0c) p0) :
    Calls Try.prog 12 #[(Value.slice p0a p0n p0c), .int .i64 p1] w fun e w' => e = .returned (.int .i64 r.1) ∧ OS w' 29 encSVector (Value.slice p0a p0n p0c) r.2 ∧ Frm (fun k _ => (Value.slice p0a p0n p0c).ownBlock = some k) w w' := by
  have X0 : Frm (fun k _ => (Value.slice p0a p0n p0c).ownBlock = some k) w w := Frm.refl _ w
  refine calls_of_W Try.func12 rfl (Nat.le_of_ble_eq_true rfl) ?_
  refine W_seq ?_
  refine W_region rfl ?_
  refine da_op rfl (d_as (v := .int .i64 0) rfl ?_)
  refine da_nil ?_
  refine W_seq ?_
  refine W_seq ?_
  refine W_region rfl ?_
  refine da_op rfl (d_as (v := .int .i64 0) rfl ?_)
  refine da_nil ?_
  refine W_block ?_
  obtain ⟨m1, hm1, hr⟩ := bind_out hr
  refine W_loopM hm1 (fun (s1 : Int × Int × List SVector) σ w' => σ 1 = .int .i64 s1.1 ∧ σ 5 = .int .i64 s1.2.1 ∧ σ 0 = (Value.slice p0a p0n p0c) ∧ OS w' 29 encSVector (Value.slice p0a p0n p0c) s1.2.2 ∧ Frm (fun k _ => (Value.slice p0a p0n p0c).ownBlock = some k) w w') (fun (e1 : (Int × List SVector)) ex σ w' => ex = .exit 0 ∧ σ 1 = .int .i64 e1.1 ∧ OS w' 29 encSVector (Value.slice p0a p0n p0c) e1.2 ∧ Frm (fun k _ => (Value.slice p0a p0n p0c).ownBlock = some k) w w') ⟨rfl, rfl, rfl, p0R, X0⟩ ?_ ?_
  · skip
    rintro s1 σl1 wl1 r1l ⟨i1_S1, i1_S5, i1_S0, i1_2R, i1_X⟩ hr
    refine W_seq ?_
    refine W_seq ?_
    refine W_region rfl ?_
    refine da_op rfl (d_mv (v := .int .i64 s1.2.1) i1_S5 ?_)
    refine da_op rfl (d_mv (v := (Value.slice p0a p0n p0c)) i1_S0 ?_)
    refine da_op rfl (d_len (e := encSVector) un33 rfl i1_2R.rs ?_)
    refine da_op rfl (d_icmp cLss rfl rfl ?_)
    refine da_nil ?_
    refine W_cond (b := (icmp .lss s1.2.1 ((s1.2.2).length : Int))) rfl (fun hc2 => ?_) (fun hc2 => ?_)
    · skip
      replace hr := bif_t hr hc2
      refine W_skip ?_
      refine W_seq ?_
      refine W_block ?_
      refine W_seq ?_
      refine W_region rfl ?_
      refine da_op rfl (d_mv (v := (Value.slice p0a p0n p0c)) i1_S0 ?_)
      refine da_op rfl (d_mv (v := .int .i64 s1.2.1) i1_S5 ?_)
      refine da_op rfl (d_mv (v := .int .i64 s1.1) i1_S1 ?_)
      refine da_op rfl (d_ofInt un3 un22 rfl ?_)
      obtain ⟨m3, hm3, hr⟩ := bind_out hr
      refine da_op rfl (d_indexO (e := encSVector) (v := (Value.slice p0a p0n p0c)) un33 size29 rfl rfl i1_2R hm3 fun g4 fr4 cu4 vs4 hv4 hg4 hp4 hq4 => ?_)
      obtain ⟨e4_r0, e4_r1, e4_r2, rfl, e4_h0, e4_h1, e4_h2⟩ := dec_encSVector hq4
      refine da_op rfl (d_fieldAddr rfl (fa29_0 _ _) ?_)
      refine da_op rfl (d_store_elem (e := encSVector) (i := s1.2.1) (k := 0) (old := [.float .f32 e4_r0, .float .f32 e4_r1, .float .f32 e4_r2]) (vs := #[.float .f32 (fint .f32 s1.1)]) (new := [.float .f32 (fint .f32 s1.1), .float .f32 e4_r1, .float .f32 e4_r2]) (x2 := (⟨(fint .f32 s1.1), m3.y, m3.z⟩ : SVector)) rfl rfl hv4 i1_2R hg4 hp4 hm3 size22 (by kernel_rfl) (Nat.le_of_ble_eq_true rfl) rfl rfl (lc_f (cn_fint _ _) (lc_f e4_h1 (lc_f e4_h2 rfl))) rfl fun w5 S5 O6 => ?_)
      have X7 : Frm (fun k _ => (Value.slice p0a p0n p0c).ownBlock = some k) w w5 := Frm.step i1_X S5.frmb (fun k _ hk => .inl (by rw [hv4, hk]; rfl))
      refine da_nil ?_
      refine W_seq ?_
      refine W_region rfl ?_
      refine da_op rfl (d_mv (v := .int .i64 s1.1) i1_S1 ?_)
      refine da_op rfl (d_iarith rfl rfl (.inl ⟨rfl, rfl⟩) ?_)
      refine da_op rfl (d_as (v := .int .i64 (IntKind.i64.wrap (s1.1 + 1))) rfl ?_)
      refine da_nil ?_
      refine W_seq ?_
      refine W_region rfl ?_
      refine da_op rfl (d_mv (v := (Value.slice p0a p0n p0c)) i1_S0 ?_)
      refine da_op rfl (d_mv (v := .int .i64 s1.2.1) i1_S5 ?_)
      refine da_op rfl (d_mv (v := .int .i64 (IntKind.i64.wrap (s1.1 + 1))) rfl ?_)
      refine da_op rfl (d_ofInt un3 un22 rfl ?_)
      obtain ⟨m8, hm8, hr⟩ := bind_out hr
      refine da_op rfl (d_indexO (e := encSVector) (v := (Value.slice p0a p0n p0c)) un33 size29 rfl rfl O6 hm8 fun g9 fr9 cu9 vs9 hv9 hg9 hp9 hq9 => ?_)
      obtain ⟨e9_r0, e9_r1, e9_r2, rfl, e9_h0, e9_h1, e9_h2⟩ := dec_encSVector hq9
      refine da_op rfl (d_fieldAddr rfl (fa29_1 _ _) ?_)
      refine da_op rfl (d_store_elem (e := encSVector) (i := s1.2.1) (k := 1) (old := [.float .f32 e9_r0, .float .f32 e9_r1, .float .f32 e9_r2]) (vs := #[.float .f32 (fint .f32 (IntKind.i64.wrap (s1.1 + 1)))]) (new := [.float .f32 e9_r0, .float .f32 (fint .f32 (IntKind.i64.wrap (s1.1 + 1))), .float .f32 e9_r2]) (x2 := (⟨m8.x, (fint .f32 (IntKind.i64.wrap (s1.1 + 1))), m8.z⟩ : SVector)) rfl rfl hv9 O6 hg9 hp9 hm8 size22 (by kernel_rfl) (Nat.le_of_ble_eq_true rfl) rfl rfl (lc_f e9_h0 (lc_f (cn_fint _ _) (lc_f e9_h2 rfl))) rfl fun w10 S10 O11 => ?_)
      have X12 : Frm (fun k _ => (Value.slice p0a p0n p0c).ownBlock = some k) w w10 := Frm.step X7 S10.frmb (fun k _ hk => .inl (by rw [hv9, hk]; rfl))
      refine da_nil ?_
      refine W_seq ?_
      refine W_region rfl ?_
      refine da_op rfl (d_mv (v := .int .i64 (IntKind.i64.wrap (s1.1 + 1))) rfl ?_)
      refine da_op rfl (d_iarith rfl rfl (.inl ⟨rfl, rfl⟩) ?_)
      refine da_op rfl (d_as (v := .int .i64 (IntKind.i64.wrap ((IntKind.i64.wrap (s1.1 + 1)) + 1))) rfl ?_)
      refine da_nil ?_
      refine W_seq ?_
      refine W_region rfl ?_
      refine da_op rfl (d_mv (v := (Value.slice p0a p0n p0c)) i1_S0 ?_)
      refine da_op rfl (d_mv (v := .int .i64 s1.2.1) i1_S5 ?_)
      refine da_op rfl (d_mv (v := .int .i64 (IntKind.i64.wrap ((IntKind.i64.wrap (s1.1 + 1)) + 1))) rfl ?_)
      refine da_op rfl (d_ofInt un3 un22 rfl ?_)
      obtain ⟨m13, hm13, hr⟩ := bind_out hr
      refine da_op rfl (d_indexO (e := encSVector) (v := (Value.slice p0a p0n p0c)) un33 size29 rfl rfl O11 hm13 fun g14 fr14 cu14 vs14 hv14 hg14 hp14 hq14 => ?_)
      obtain ⟨e14_r0, e14_r1, e14_r2, rfl, e14_h0, e14_h1, e14_h2⟩ := dec_encSVector hq14
      refine da_op rfl (d_fieldAddr rfl (fa29_2 _ _) ?_)
      refine da_op rfl (d_store_elem (e := encSVector) (i := s1.2.1) (k := 2) (old := [.float .f32 e14_r0, .float .f32 e14_r1, .float .f32 e14_r2]) (vs := #[.float .f32 (fint .f32 (IntKind.i64.wrap ((IntKind.i64.wrap (s1.1 + 1)) + 1)))]) (new := [.float .f32 e14_r0, .float .f32 e14_r1, .float .f32 (fint .f32 (IntKind.i64.wrap ((IntKind.i64.wrap (s1.1 + 1)) + 1)))]) (x2 := (⟨m13.x, m13.y, (fint .f32 (IntKind.i64.wrap ((IntKind.i64.wrap (s1.1 + 1)) + 1)))⟩ : SVector)) rfl rfl hv14 O11 hg14 hp14 hm13 size22 (by kernel_rfl) (Nat.le_of_ble_eq_true rfl) rfl rfl (lc_f e14_h0 (lc_f e14_h1 (lc_f (cn_fint _ _) rfl))) rfl fun w15 S15 O16 => ?_)
      have X17 : Frm (fun k _ => (Value.slice p0a p0n p0c).ownBlock = some k) w w15 := Frm.step X12 S15.frmb (fun k _ hk => .inl (by rw [hv14, hk]; rfl))
      refine da_nil ?_
      refine W_region rfl ?_
      refine da_op rfl (d_mv (v := .int .i64 (IntKind.i64.wrap ((IntKind.i64.wrap (s1.1 + 1)) + 1))) rfl ?_)
      refine da_op rfl (d_iarith rfl rfl (.inl ⟨rfl, rfl⟩) ?_)
      refine da_op rfl (d_as (v := .int .i64 (IntKind.i64.wrap ((IntKind.i64.wrap ((IntKind.i64.wrap (s1.1 + 1)) + 1)) + 1))) rfl ?_)
      refine da_nil ?_
      refine W_region rfl ?_
      refine da_op rfl (d_mv (v := .int .i64 s1.2.1) i1_S5 ?_)
      refine da_op rfl (d_iarith rfl rfl (.inl ⟨rfl, rfl⟩) ?_)
      refine da_op rfl (d_as (v := .int .i64 (IntKind.i64.wrap (s1.2.1 + 1))) rfl ?_)
      refine da_nil ?_
      obtain rfl := Option.some.inj hr
      exact ⟨_, rfl, ⟨rfl, rfl, i1_S0, O16, X17⟩⟩
    · skip
      replace hr := bif_f hr hc2
      refine W_exit ?_
      obtain rfl := Option.some.inj hr
      exact ⟨_, rfl, rfl, i1_S1, i1_2R, i1_X⟩
  · skip
    intro ex σx1 wx1 hq
    obtain ⟨rfl, q1_0_S1, q1_0_1R, q1_0_X⟩ := hq
    refine W_seq ?_
    refine W_region rfl ?_
    refine da_op rfl (d_mv (v := .int .i64 m1.1) q1_0_S1 ?_)
    refine da_op rfl (d_as (v := .int .i64 m1.1) rfl ?_)
    refine da_nil ?_
    refine W_ret ?_
    obtain rfl := Option.some.inj hr
    refine ⟨_, res1 (rv_tmp rfl), ?_⟩
    exact ⟨rfl, q1_0_1R, q1_0_X⟩
set_option maxHeartbeats 4000000 in
theorem c78 (p0 : List Nat) (p1 : Int) (p0a : Option Addr) (p0n : Nat) (p0c : Nat) (r : Int × List Nat) (w : World) (hr : M.laws_markFloat32S p0 p1 = some r) (p0R : OS w 22 encF_f32 (Value.slice p0a p0n p0c) p0) :
    Calls Try.prog 78 #[(Value.slice p0a p0n p0c), .int .i64 p1] w fun e w' => e = .returned (.int .i64 r.1) ∧ OS w' 22 encF_f32 (Value.slice p0a p0n p0c) r.2 ∧ Frm (fun k _ => (Value.slice p0a p0n p0c).ownBlock = some k) w w' := by
  have X0 : Frm (fun k _ => (Value.slice p0a p0n p0c).ownBlock = some k) w w := Frm.refl _ w
  refine calls_of_W Try.func78 rfl (Nat.le_of_ble_eq_true rfl) ?_
  refine W_seq ?_
  refine W_region rfl ?_
  refine da_op rfl (d_as (v := .int .i64 0) rfl ?_)
  refine da_nil ?_
  refine W_seq ?_
  refine W_seq ?_
  refine W_region rfl ?_
  refine da_op rfl (d_as (v := .int .i64 0) rfl ?_)
  refine da_nil ?_
  refine W_block ?_
  obtain ⟨m1, hm1, hr⟩ := bind_out hr
  refine W_loopM hm1 (fun (s1 : Int × Int × List Nat) σ w' => σ 1 = .int .i64 s1.1 ∧ σ 5 = .int .i64 s1.2.1 ∧ σ 0 = (Value.slice p0a p0n p0c) ∧ OS w' 22 encF_f32 (Value.slice p0a p0n p0c) s1.2.2 ∧ Frm (fun k _ => (Value.slice p0a p0n p0c).ownBlock = some k) w w') (fun (e1 : (Int × List Nat)) ex σ w' => ex = .exit 0 ∧ σ 1 = .int .i64 e1.1 ∧ OS w' 22 encF_f32 (Value.slice p0a p0n p0c) e1.2 ∧ Frm (fun k _ => (Value.slice p0a p0n p0c).ownBlock = some k) w w') ⟨rfl, rfl, rfl, p0R, X0⟩ ?_ ?_
  · skip
    rintro s1 σl1 wl1 r1l ⟨i1_S1, i1_S5, i1_S0, i1_2R, i1_X⟩ hr
    refine W_seq ?_
    refine W_seq ?_
    refine W_region rfl ?_
    refine da_op rfl (d_mv (v := .int .i64 s1.2.1) i1_S5 ?_)
    refine da_op rfl (d_mv (v := (Value.slice p0a p0n p0c)) i1_S0 ?_)
    refine da_op rfl (d_len (e := encF_f32) un48 rfl i1_2R.rs ?_)
    refine da_op rfl (d_icmp cLss rfl rfl ?_)
    refine da_nil ?_
    refine W_cond (b := (icmp .lss s1.2.1 ((s1.2.2).length : Int))) rfl (fun hc2 => ?_) (fun hc2 => ?_)
    · skip
      replace hr := bif_t hr hc2
      refine W_skip ?_
      refine W_seq ?_
      refine W_block ?_
      refine W_seq ?_
      refine W_region rfl ?_
      refine da_op rfl (d_mv (v := (Value.slice p0a p0n p0c)) i1_S0 ?_)
      refine da_op rfl (d_mv (v := .int .i64 s1.2.1) i1_S5 ?_)
      refine da_op rfl (d_mv (v := .int .i64 s1.1) i1_S1 ?_)
      refine da_op rfl (d_ofInt un3 un22 rfl ?_)
      obtain ⟨m3, hm3, hr⟩ := bind_out hr
      refine da_op rfl (d_indexO (e := encF_f32) (v := (Value.slice p0a p0n p0c)) un48 size22 rfl rfl i1_2R hm3 fun g4 fr4 cu4 vs4 hv4 hg4 hp4 hq4 => ?_)
      obtain ⟨e4_r0, rfl, e4_h0⟩ := dec_encF_f32 hq4
      refine da_op rfl (d_store_elem (e := encF_f32) (i := s1.2.1) (k := 0) (old := [.float .f32 e4_r0]) (vs := #[.float .f32 (fint .f32 s1.1)]) (new := [.float .f32 (fint .f32 s1.1)]) (x2 := (fint .f32 s1.1)) rfl rfl hv4 i1_2R hg4 hp4 hm3 size22 (by kernel_rfl) (Nat.le_of_ble_eq_true rfl) rfl rfl (lc_f (cn_fint _ _) rfl) rfl fun w5 S5 O6 => ?_)
      have X7 : Frm (fun k _ => (Value.slice p0a p0n p0c).ownBlock = some k) w w5 := Frm.step i1_X S5.frmb (fun k _ hk => .inl (by rw [hv4, hk]; rfl))
      refine da_nil ?_
      refine W_region rfl ?_
      refine da_op rfl (d_mv (v := .int .i64 s1.1) i1_S1 ?_)
      refine da_op rfl (d_iarith rfl rfl (.inl ⟨rfl, rfl⟩) ?_)
      refine da_op rfl (d_as (v := .int .i64 (IntKind.i64.wrap (s1.1 + 1))) rfl ?_)
      refine da_nil ?_
      refine W_region rfl ?_
      refine da_op rfl (d_mv (v := .int .i64 s1.2.1) i1_S5 ?_)
      refine da_op rfl (d_iarith rfl rfl (.inl ⟨rfl, rfl⟩) ?_)
      refine da_op rfl (d_as (v := .int .i64 (IntKind.i64.wrap (s1.2.1 + 1))) rfl ?_)
      refine da_nil ?_
      obtain rfl := Option.some.inj hr
      exact ⟨_, rfl, ⟨rfl, rfl, i1_S0, O6, X7⟩⟩
    · skip
      replace hr := bif_f hr hc2
      refine W_exit ?_
      obtain rfl := Option.some.inj hr
      exact ⟨_, rfl, rfl, i1_S1, i1_2R, i1_X⟩
  · skip
    intro ex σx1 wx1 hq
    obtain ⟨rfl, q1_0_S1, q1_0_1R, q1_0_X⟩ := hq
    refine W_seq ?_
    refine W_region rfl ?_
    refine da_op rfl (d_mv (v := .int .i64 m1.1) q1_0_S1 ?_)
    refine da_op rfl (d_as (v := .int .i64 m1.1) rfl ?_)
    refine da_nil ?_
    refine W_ret ?_
    obtain rfl := Option.some.inj hr
    refine ⟨_, res1 (rv_tmp rfl), ?_⟩
    exact ⟨rfl, q1_0_1R, q1_0_X⟩
set_option maxHeartbeats 4000000 in
theorem c79 (p0 : List SRod) (p1 : Int) (p0a : Option Addr) (p0n : Nat) (p0c : Nat) (r : Int × List SRod) (w : World) (hr : M.laws_markRodS p0 p1 = some r) (p0R : OS w 104 encSRod (Value.slice p0a p0n p0c) p0) :
    Calls Try.prog 79 #[(Value.slice p0a p0n p0c), .int .i64 p1] w fun e w' => e = .returned (.int .i64 r.1) ∧ OS w' 104 encSRod (Value.slice p0a p0n p0c) r.2 ∧ Frm (fun k _ => (Value.slice p0a p0n p0c).ownBlock = some k) w w' := by
  have X0 : Frm (fun k _ => (Value.slice p0a p0n p0c).ownBlock = some k) w w := Frm.refl _ w
  refine calls_of_W Try.func79 rfl (Nat.le_of_ble_eq_true rfl) ?_
  refine W_seq ?_
  refine W_region rfl ?_
  refine da_op rfl (d_as (v := .int .i64 0) rfl ?_)
  refine da_nil ?_
  refine W_seq ?_
  refine W_seq ?_
  refine W_region rfl ?_
  refine da_op rfl (d_as (v := .int .i64 0) rfl ?_)
  refine da_nil ?_
  refine W_block ?_
  obtain ⟨m1, hm1, hr⟩ := bind_out hr
  refine W_loopM hm1 (fun (s1 : Int × Int × List SRod) σ w' => σ 1 = .int .i64 s1.1 ∧ σ 5 = .int .i64 s1.2.1 ∧ σ 0 = (Value.slice p0a p0n p0c) ∧ OS w' 104 encSRod (Value.slice p0a p0n p0c) s1.2.2 ∧ Frm (fun k _ => (Value.slice p0a p0n p0c).ownBlock = some k) w w') (fun (e1 : (Int × List SRod)) ex σ w' => ex = .exit 0 ∧ σ 1 = .int .i64 e1.1 ∧ OS w' 104 encSRod (Value.slice p0a p0n p0c) e1.2 ∧ Frm (fun k _ => (Value.slice p0a p0n p0c).ownBlock = some k) w w') ⟨rfl, rfl, rfl, p0R, X0⟩ ?_ ?_
  · skip
    rintro s1 σl1 wl1 r1l ⟨i1_S1, i1_S5, i1_S0, i1_2R, i1_X⟩ hr
    refine W_seq ?_
    refine W_seq ?_
    refine W_region rfl ?_
    refine da_op rfl (d_mv (v := .int .i64 s1.2.1) i1_S5 ?_)
    refine da_op rfl (d_mv (v := (Value.slice p0a p0n p0c)) i1_S0 ?_)
    refine da_op rfl (d_len (e := encSRod) un49 rfl i1_2R.rs ?_)
    refine da_op rfl (d_icmp cLss rfl rfl ?_)
    refine da_nil ?_
    refine W_cond (b := (icmp .lss s1.2.1 ((s1.2.2).length : Int))) rfl (fun hc2 => ?_) (fun hc2 => ?_)
    · skip
      replace hr := bif_t hr hc2
      refine W_skip ?_
      refine W_seq ?_
      refine W_block ?_
      refine W_seq ?_
      refine W_region rfl ?_
      refine da_op rfl (d_mv (v := (Value.slice p0a p0n p0c)) i1_S0 ?_)
      refine da_op rfl (d_mv (v := .int .i64 s1.2.1) i1_S5 ?_)
      refine da_op rfl (d_mv (v := .int .i64 s1.1) i1_S1 ?_)
      obtain ⟨m3, hm3, hr⟩ := bind_out hr
      refine da_op rfl (d_indexO (e := encSRod) (v := (Value.slice p0a p0n p0c)) un49 size104 rfl rfl i1_2R hm3 fun g4 fr4 cu4 vs4 hv4 hg4 hp4 hq4 => ?_)
      obtain ⟨e4_r2, rfl, e4_h2⟩ := dec_encSRod hq4
      refine da_op rfl (d_fieldAddr rfl (fa104_0 _ _) ?_)
      refine da_op rfl (d_store_elem (e := encSRod) (i := s1.2.1) (k := 0) (old := [.int .i64 m3.a, .int .i64 m3.b, .float .f32 e4_r2]) (vs := #[.int .i64 s1.1]) (new := [.int .i64 s1.1, .int .i64 m3.b, .float .f32 e4_r2]) (x2 := (⟨s1.1, m3.b, m3.long⟩ : SRod)) rfl rfl hv4 i1_2R hg4 hp4 hm3 size2 (by kernel_rfl) (Nat.le_of_ble_eq_true rfl) rfl rfl (lc_v rfl (lc_v rfl (lc_f e4_h2 rfl))) rfl fun w5 S5 O6 => ?_)
      have X7 : Frm (fun k _ => (Value.slice p0a p0n p0c).ownBlock = some k) w w5 := Frm.step i1_X S5.frmb (fun k _ hk => .inl (by rw [hv4, hk]; rfl))
      refine da_nil ?_
      refine W_seq ?_
      refine W_region rfl ?_
      refine da_op rfl (d_mv (v := .int .i64 s1.1) i1_S1 ?_)
      refine da_op rfl (d_iarith rfl rfl (.inl ⟨rfl, rfl⟩) ?_)
      refine da_op rfl (d_as (v := .int .i64 (IntKind.i64.wrap (s1.1 + 1))) rfl ?_)
      refine da_nil ?_
      refine W_seq ?_
      refine W_region rfl ?_
      refine da_op rfl (d_mv (v := (Value.slice p0a p0n p0c)) i1_S0 ?_)
      refine da_op rfl (d_mv (v := .int .i64 s1.2.1) i1_S5 ?_)
      refine da_op rfl (d_mv (v := .int .i64 (IntKind.i64.wrap (s1.1 + 1))) rfl ?_)
      obtain ⟨m8, hm8, hr⟩ := bind_out hr
      refine da_op rfl (d_indexO (e := encSRod) (v := (Value.slice p0a p0n p0c)) un49 size104 rfl rfl O6 hm8 fun g9 fr9 cu9 vs9 hv9 hg9 hp9 hq9 => ?_)
      obtain ⟨e9_r2, rfl, e9_h2⟩ := dec_encSRod hq9
      refine da_op rfl (d_fieldAddr rfl (fa104_1 _ _) ?_)
      refine da_op rfl (d_store_elem (e := encSRod) (i := s1.2.1) (k := 1) (old := [.int .i64 m8.a, .int .i64 m8.b, .float .f32 e9_r2]) (vs := #[.int .i64 (IntKind.i64.wrap (s1.1 + 1))]) (new := [.int .i64 m8.a, .int .i64 (IntKind.i64.wrap (s1.1 + 1)), .float .f32 e9_r2]) (x2 := (⟨m8.a, (IntKind.i64.wrap (s1.1 + 1)), m8.long⟩ : SRod)) rfl rfl hv9 O6 hg9 hp9 hm8 size2 (by kernel_rfl) (Nat.le_of_ble_eq_true rfl) rfl rfl (lc_v rfl (lc_v rfl (lc_f e9_h2 rfl))) rfl fun w10 S10 O11 => ?_)
      have X12 : Frm (fun k _ => (Value.slice p0a p0n p0c).ownBlock = some k) w w10 := Frm.step X7 S10.frmb (fun k _ hk => .inl (by rw [hv9, hk]; rfl))
      refine da_nil ?_
      refine W_seq ?_
      refine W_region rfl ?_
      refine da_op rfl (d_mv (v := .int .i64 (IntKind.i64.wrap (s1.1 + 1))) rfl ?_)
      refine da_op rfl (d_iarith rfl rfl (.inl ⟨rfl, rfl⟩) ?_)
      refine da_op rfl (d_as (v := .int .i64 (IntKind.i64.wrap ((IntKind.i64.wrap (s1.1 + 1)) + 1))) rfl ?_)
      refine da_nil ?_
      refine W_seq ?_
      refine W_region rfl ?_
      refine da_op rfl (d_mv (v := (Value.slice p0a p0n p0c)) i1_S0 ?_)
      refine da_op rfl (d_mv (v := .int .i64 s1.2.1) i1_S5 ?_)
      refine da_op rfl (d_mv (v := .int .i64 (IntKind.i64.wrap ((IntKind.i64.wrap (s1.1 + 1)) + 1))) rfl ?_)
      refine da_op rfl (d_ofInt un3 un22 rfl ?_)
      obtain ⟨m13, hm13, hr⟩ := bind_out hr
      refine da_op rfl (d_indexO (e := encSRod) (v := (Value.slice p0a p0n p0c)) un49 size104 rfl rfl O11 hm13 fun g14 fr14 cu14 vs14 hv14 hg14 hp14 hq14 => ?_)
      obtain ⟨e14_r2, rfl, e14_h2⟩ := dec_encSRod hq14
      refine da_op rfl (d_fieldAddr rfl (fa104_2 _ _) ?_)
      refine da_op rfl (d_store_elem (e := encSRod) (i := s1.2.1) (k := 2) (old := [.int .i64 m13.a, .int .i64 m13.b, .float .f32 e14_r2]) (vs := #[.float .f32 (fint .f32 (IntKind.i64.wrap ((IntKind.i64.wrap (s1.1 + 1)) + 1)))]) (new := [.int .i64 m13.a, .int .i64 m13.b, .float .f32 (fint .f32 (IntKind.i64.wrap ((IntKind.i64.wrap (s1.1 + 1)) + 1)))]) (x2 := (⟨m13.a, m13.b, (fint .f32 (IntKind.i64.wrap ((IntKind.i64.wrap (s1.1 + 1)) + 1)))⟩ : SRod)) rfl rfl hv14 O11 hg14 hp14 hm13 size22 (by kernel_rfl) (Nat.le_of_ble_eq_true rfl) rfl rfl (lc_v rfl (lc_v rfl (lc_f (cn_fint _ _) rfl))) rfl fun w15 S15 O16 => ?_)
      have X17 : Frm (fun k _ => (Value.slice p0a p0n p0c).ownBlock = some k) w w15 := Frm.step X12 S15.frmb (fun k _ hk => .inl (by rw [hv14, hk]; rfl))
      refine da_nil ?_
      refine W_region rfl ?_
      refine da_op rfl (d_mv (v := .int .i64 (IntKind.i64.wrap ((IntKind.i64.wrap (s1.1 + 1)) + 1))) rfl ?_)
      refine da_op rfl (d_iarith rfl rfl (.inl ⟨rfl, rfl⟩) ?_)
      refine da_op rfl (d_as (v := .int .i64 (IntKind.i64.wrap ((IntKind.i64.wrap ((IntKind.i64.wrap (s1.1 + 1)) + 1)) + 1))) rfl ?_)
      refine da_nil ?_
      refine W_region rfl ?_
      refine da_op rfl (d_mv (v := .int .i64 s1.2.1) i1_S5 ?_)
      refine da_op rfl (d_iarith rfl rfl (.inl ⟨rfl, rfl⟩) ?_)
      refine da_op rfl (d_as (v := .int .i64 (IntKind.i64.wrap (s1.2.1 + 1))) rfl ?_)
      refine da_nil ?_
      obtain rfl := Option.some.inj hr
      exact ⟨_, rfl, ⟨rfl, rfl, i1_S0, O16, X17⟩⟩
    · skip
      replace hr := bif_f hr hc2
      refine W_exit ?_
      obtain rfl := Option.some.inj hr
      exact ⟨_, rfl, rfl, i1_S1, i1_2R, i1_X⟩
  · skip
    intro ex σx1 wx1 hq
    obtain ⟨rfl, q1_0_S1, q1_0_1R, q1_0_X⟩ := hq
    refine W_seq ?_
    refine W_region rfl ?_
    refine da_op rfl (d_mv (v := .int .i64 m1.1) q1_0_S1 ?_)
    refine da_op rfl (d_as (v := .int .i64 m1.1) rfl ?_)
    refine da_nil ?_
    refine W_ret ?_
    obtain rfl := Option.some.inj hr
    refine ⟨_, res1 (rv_tmp rfl), ?_⟩
    exact ⟨rfl, q1_0_1R, q1_0_X⟩
set_option maxHeartbeats 4000000 in
theorem c43 (p0 : SChain) (p1 : Int) (p0v0a : Option Addr) (p0v0n : Nat) (p0v0c : Nat) (p0v1a : Option Addr) (p0v1n : Nat) (p0v1c : Nat) (p0v2a : Option Addr) (p0v2n : Nat) (p0v2c : Nat) (p0v3a : Option Addr) (p0v3n : Nat) (p0v3c : Nat) (r : Int × List SVector × List SVector × List Nat × List SRod) (w : World) (hr : M.laws_markChain p0 p1 = some r) (p0v0R : OS w 29 encSVector (Value.slice p0v0a p0v0n p0v0c) p0.places) (p0v1R : OS w 29 encSVector (Value.slice p0v1a p0v1n p0v1c) p0.before) (p0v2R : OS w 22 encF_f32 (Value.slice p0v2a p0v2n p0v2c) p0.weights) (p0v3R : OS w 104 encSRod (Value.slice p0v3a p0v3n p0v3c) p0.rods) (sp0_1 : ∀ k, (Value.slice p0v0a p0v0n p0v0c).ownBlock = some k → ¬ (Value.slice p0v1a p0v1n p0v1c).ownBlock = some k) (sp0_2 : ∀ k, (Value.slice p0v0a p0v0n p0v0c).ownBlock = some k → ¬ (Value.slice p0v2a p0v2n p0v2c).ownBlock = some k) (sp1_2 : ∀ k, (Value.slice p0v1a p0v1n p0v1c).ownBlock = some k → ¬ (Value.slice p0v2a p0v2n p0v2c).ownBlock = some k) (sp0_3 : ∀ k, (Value.slice p0v0a p0v0n p0v0c).ownBlock = some k → ¬ (Value.slice p0v3a p0v3n p0v3c).ownBlock = some k) (sp1_3 : ∀ k, (Value.slice p0v1a p0v1n p0v1c).ownBlock = some k → ¬ (Value.slice p0v3a p0v3n p0v3c).ownBlock = some k) (sp2_3 : ∀ k, (Value.slice p0v2a p0v2n p0v2c).ownBlock = some k → ¬ (Value.slice p0v3a p0v3n p0v3c).ownBlock = some k) :
    Calls Try.prog 43 #[.agg #[(Value.slice p0v0a p0v0n p0v0c), (Value.slice p0v1a p0v1n p0v1c), (Value.slice p0v2a p0v2n p0v2c), (Value.slice p0v3a p0v3n p0v3c)], .int .i64 p1] w fun e w' => e = .returned (.int .i64 r.1) ∧ OS w' 29 encSVector (Value.slice p0v0a p0v0n p0v0c) r.2.1 ∧ OS w' 29 encSVector (Value.slice p0v1a p0v1n p0v1c) r.2.2.1 ∧ OS w' 22 encF_f32 (Value.slice p0v2a p0v2n p0v2c) r.2.2.2.1 ∧ OS w' 104 encSRod (Value.slice p0v3a p0v3n p0v3c) r.2.2.2.2 ∧ Frm (fun k _ => (Value.slice p0v0a p0v0n p0v0c).ownBlock = some k ∨ (Value.slice p0v1a p0v1n p0v1c).ownBlock = some k ∨ (Value.slice p0v2a p0v2n p0v2c).ownBlock = some k ∨ (Value.slice p0v3a p0v3n p0v3c).ownBlock = some k) w w' := by
  have X0 : Frm (fun k _ => (Value.slice p0v0a p0v0n p0v0c).ownBlock = some k ∨ (Value.slice p0v1a p0v1n p0v1c).ownBlock = some k ∨ (Value.slice p0v2a p0v2n p0v2c).ownBlock = some k ∨ (Value.slice p0v3a p0v3n p0v3c).ownBlock = some k) w w := Frm.refl _ w
  refine calls_of_W Try.func43 rfl (Nat.le_of_ble_eq_true rfl) ?_
  refine W_seq ?_
  refine W_region rfl ?_
  refine da_op rfl (d_box (cs := #[(Value.slice p0v0a p0v0n p0v0c), (Value.slice p0v1a p0v1n p0v1c), (Value.slice p0v2a p0v2n p0v2c), (Value.slice p0v3a p0v3n p0v3c)]) rfl fun w1 B1 E1 => ?_)
  have own2 : w.heap.size ≤ w.heap.size := Nat.le_trans X0.size (Nat.le_refl _)
  have sp3 : ¬ (Value.slice p0v0a p0v0n p0v0c).ownBlock = some w.heap.size := OS.ne_new p0v0R (Nat.le_refl _)
  have sp4 : ¬ (Value.slice p0v1a p0v1n p0v1c).ownBlock = some w.heap.size := OS.ne_new p0v1R (Nat.le_refl _)
  have sp5 : ¬ (Value.slice p0v2a p0v2n p0v2c).ownBlock = some w.heap.size := OS.ne_new p0v2R (Nat.le_refl _)
  have sp6 : ¬ (Value.slice p0v3a p0v3n p0v3c).ownBlock = some w.heap.size := OS.ne_new p0v3R (Nat.le_refl _)
  have X7 : Frm (fun k _ => (Value.slice p0v0a p0v0n p0v0c).ownBlock = some k ∨ (Value.slice p0v1a p0v1n p0v1c).ownBlock = some k ∨ (Value.slice p0v2a p0v2n p0v2c).ownBlock = some k ∨ (Value.slice p0v3a p0v3n p0v3c).ownBlock = some k) w w1 := X0.trans E1.frm
  refine da_op rfl (d_as (v := .int .i64 0) rfl ?_)
  refine da_nil ?_
  refine W_seq ?_
  refine W_region rfl ?_
  refine da_op rfl (d_fieldAddr rfl (fa51_0 _ _) ?_)
  refine da_op rfl (d_load (v := (Value.slice p0v0a p0v0n p0v0c)) rfl agg33 B1 rfl ?_)
  refine da_op rfl (d_mv (v := .int .i64 p1) rfl ?_)
  obtain ⟨m8, hm8, hr⟩ := bind_out hr
  have B9 : OS w1 29 encSVector (Value.slice p0v0a p0v0n p0v0c) p0.places := p0v0R.ext E1
  have B10 : OS w1 29 encSVector (Value.slice p0v1a p0v1n p0v1c) p0.before := p0v1R.ext E1
  have B11 : OS w1 22 encF_f32 (Value.slice p0v2a p0v2n p0v2c) p0.weights := p0v2R.ext E1
  have B12 : OS w1 104 encSRod (Value.slice p0v3a p0v3n p0v3c) p0.rods := p0v3R.ext E1
  refine da_op rfl (d_cl (vs := [(Value.slice p0v0a p0v0n p0v0c), .int .i64 p1]) en12 (ac rfl (ac rfl rfl)) rfl ?_)
  refine (c12 p0.places p1 p0v0a p0v0n p0v0c m8 w1 hm8 B9).mono ?_
  rintro _ w13 ⟨rfl, q13_m0R, E13⟩
  refine ⟨_, rfl, ?_⟩
  have X14 : Frm (fun k _ => (Value.slice p0v0a p0v0n p0v0c).ownBlock = some k ∨ (Value.slice p0v1a p0v1n p0v1c).ownBlock = some k ∨ (Value.slice p0v2a p0v2n p0v2c).ownBlock = some k ∨ (Value.slice p0v3a p0v3n p0v3c).ownBlock = some k) w w13 := Frm.step X7 E13 (fun k _ hk => .inl (.inl hk))
  refine da_op rfl (d_as (v := .int .i64 m8.1) rfl ?_)
  refine da_nil ?_
  refine W_seq ?_
  refine W_region rfl ?_
  refine da_op rfl (d_fieldAddr rfl (fa51_1 _ _) ?_)
  have B15 : w13.heap[w.heap.size]? = some (.cells #[(Value.slice p0v0a p0v0n p0v0c), (Value.slice p0v1a p0v1n p0v1c), (Value.slice p0v2a p0v2n p0v2c), (Value.slice p0v3a p0v3n p0v3c)] 51 (0, 0)) := E13.heap sp3 B1
  refine da_op rfl (d_load (v := (Value.slice p0v1a p0v1n p0v1c)) rfl agg33 B15 rfl ?_)
  refine da_op rfl (d_mv (v := .int .i64 m8.1) rfl ?_)
  obtain ⟨m16, hm16, hr⟩ := bind_out hr
  have B17 : OS w13 29 encSVector (Value.slice p0v1a p0v1n p0v1c) p0.before := B10.frm E13 (fun k hk => ((apart_symm sp0_1) k hk))
  have B18 : OS w13 22 encF_f32 (Value.slice p0v2a p0v2n p0v2c) p0.weights := B11.frm E13 (fun k hk => ((apart_symm sp0_2) k hk))
  have B19 : OS w13 104 encSRod (Value.slice p0v3a p0v3n p0v3c) p0.rods := B12.frm E13 (fun k hk => ((apart_symm sp0_3) k hk))
  refine da_op rfl (d_cl (vs := [(Value.slice p0v1a p0v1n p0v1c), .int .i64 m8.1]) en12 (ac rfl (ac rfl rfl)) rfl ?_)
  refine (c12 p0.before m8.1 p0v1a p0v1n p0v1c m16 w13 hm16 B17).mono ?_
  rintro _ w20 ⟨rfl, q20_m0R, E20⟩
  refine ⟨_, rfl, ?_⟩
  have X21 : Frm (fun k _ => (Value.slice p0v0a p0v0n p0v0c).ownBlock = some k ∨ (Value.slice p0v1a p0v1n p0v1c).ownBlock = some k ∨ (Value.slice p0v2a p0v2n p0v2c).ownBlock = some k ∨ (Value.slice p0v3a p0v3n p0v3c).ownBlock = some k) w w20 := Frm.step X14 E20 (fun k _ hk => .inl (.inr (.inl hk)))
  refine da_op rfl (d_as (v := .int .i64 m16.1) rfl ?_)
  refine da_nil ?_
  refine W_seq ?_
  refine W_region rfl ?_
  refine da_op rfl (d_fieldAddr rfl (fa51_2 _ _) ?_)
  have B22 : w20.heap[w.heap.size]? = some (.cells #[(Value.slice p0v0a p0v0n p0v0c), (Value.slice p0v1a p0v1n p0v1c), (Value.slice p0v2a p0v2n p0v2c), (Value.slice p0v3a p0v3n p0v3c)] 51 (0, 0)) := E20.heap sp4 B15
  refine da_op rfl (d_load (v := (Value.slice p0v2a p0v2n p0v2c)) rfl agg48 B22 rfl ?_)
  refine da_op rfl (d_mv (v := .int .i64 m16.1) rfl ?_)
  obtain ⟨m23, hm23, hr⟩ := bind_out hr
  have B24 : OS w20 22 encF_f32 (Value.slice p0v2a p0v2n p0v2c) p0.weights := B18.frm E20 (fun k hk => ((apart_symm sp1_2) k hk))
  have B25 : OS w20 29 encSVector (Value.slice p0v0a p0v0n p0v0c) m8.2 := q13_m0R.frm E20 (fun k hk => (sp0_1 k hk))
  have B26 : OS w20 104 encSRod (Value.slice p0v3a p0v3n p0v3c) p0.rods := B19.frm E20 (fun k hk => ((apart_symm sp1_3) k hk))
  refine da_op rfl (d_cl (vs := [(Value.slice p0v2a p0v2n p0v2c), .int .i64 m16.1]) en78 (ac rfl (ac rfl rfl)) rfl ?_)
  refine (c78 p0.weights m16.1 p0v2a p0v2n p0v2c m23 w20 hm23 B24).mono ?_
  rintro _ w27 ⟨rfl, q27_m0R, E27⟩
  refine ⟨_, rfl, ?_⟩
  have X28 : Frm (fun k _ => (Value.slice p0v0a p0v0n p0v0c).ownBlock = some k ∨ (Value.slice p0v1a p0v1n p0v1c).ownBlock = some k ∨ (Value.slice p0v2a p0v2n p0v2c).ownBlock = some k ∨ (Value.slice p0v3a p0v3n p0v3c).ownBlock = some k) w w27 := Frm.step X21 E27 (fun k _ hk => .inl (.inr (.inr (.inl hk))))
  refine da_op rfl (d_as (v := .int .i64 m23.1) rfl ?_)
  refine da_nil ?_
  refine W_seq ?_
  refine W_region rfl ?_
  refine da_op rfl (d_fieldAddr rfl (fa51_3 _ _) ?_)
  have B29 : w27.heap[w.heap.size]? = some (.cells #[(Value.slice p0v0a p0v0n p0v0c), (Value.slice p0v1a p0v1n p0v1c), (Value.slice p0v2a p0v2n p0v2c), (Value.slice p0v3a p0v3n p0v3c)] 51 (0, 0)) := E27.heap sp5 B22
  refine da_op rfl (d_load (v := (Value.slice p0v3a p0v3n p0v3c)) rfl agg49 B29 rfl ?_)
  refine da_op rfl (d_mv (v := .int .i64 m23.1) rfl ?_)
  obtain ⟨m30, hm30, hr⟩ := bind_out hr
  have B31 : OS w27 104 encSRod (Value.slice p0v3a p0v3n p0v3c) p0.rods := B26.frm E27 (fun k hk => ((apart_symm sp2_3) k hk))
  have B32 : OS w27 29 encSVector (Value.slice p0v0a p0v0n p0v0c) m8.2 := B25.frm E27 (fun k hk => (sp0_2 k hk))
  have B33 : OS w27 29 encSVector (Value.slice p0v1a p0v1n p0v1c) m16.2 := q20_m0R.frm E27 (fun k hk => (sp1_2 k hk))
  refine da_op rfl (d_cl (vs := [(Value.slice p0v3a p0v3n p0v3c), .int .i64 m23.1]) en79 (ac rfl (ac rfl rfl)) rfl ?_)
  refine (c79 p0.rods m23.1 p0v3a p0v3n p0v3c m30 w27 hm30 B31).mono ?_
  rintro _ w34 ⟨rfl, q34_m0R, E34⟩
  refine ⟨_, rfl, ?_⟩
  have X35 : Frm (fun k _ => (Value.slice p0v0a p0v0n p0v0c).ownBlock = some k ∨ (Value.slice p0v1a p0v1n p0v1c).ownBlock = some k ∨ (Value.slice p0v2a p0v2n p0v2c).ownBlock = some k ∨ (Value.slice p0v3a p0v3n p0v3c).ownBlock = some k) w w34 := Frm.step X28 E34 (fun k _ hk => .inl (.inr (.inr (.inr hk))))
  refine da_op rfl (d_as (v := .int .i64 m30.1) rfl ?_)
  refine da_nil ?_
  refine W_seq ?_
  refine W_region rfl ?_
  refine da_op rfl (d_mv (v := .int .i64 m30.1) rfl ?_)
  refine da_op rfl (d_as (v := .int .i64 m30.1) rfl ?_)
  refine da_nil ?_
  refine W_ret ?_
  have B36 : OS w34 29 encSVector (Value.slice p0v0a p0v0n p0v0c) m8.2 := B32.frm E34 (fun k hk => (sp0_3 k hk))
  have B37 : OS w34 29 encSVector (Value.slice p0v1a p0v1n p0v1c) m16.2 := B33.frm E34 (fun k hk => (sp1_3 k hk))
  have B38 : OS w34 22 encF_f32 (Value.slice p0v2a p0v2n p0v2c) m23.2 := q27_m0R.frm E34 (fun k hk => (sp2_3 k hk))
  obtain rfl := Option.some.inj hr
  refine ⟨_, res1 (rv_tmp rfl), ?_⟩
  exact ⟨rfl, B36, B37, B38, q34_m0R, X35⟩
set_option maxHeartbeats 4000000 in
theorem c80 (p0 : List SClock) (p1 : Int) (p0a : Option Addr) (p0n : Nat) (p0c : Nat) (r : Int × List SClock) (w : World) (hr : M.laws_markClockS p0 p1 = some r) (p0R : OS w 109 encSClock (Value.slice p0a p0n p0c) p0) :
    Calls Try.prog 80 #[(Value.slice p0a p0n p0c), .int .i64 p1] w fun e w' => e = .returned (.int .i64 r.1) ∧ OS w' 109 encSClock (Value.slice p0a p0n p0c) r.2 ∧ Frm (fun k _ => (Value.slice p0a p0n p0c).ownBlock = some k) w w' := by
  have X0 : Frm (fun k _ => (Value.slice p0a p0n p0c).ownBlock = some k) w w := Frm.refl _ w
  refine calls_of_W Try.func80 rfl (Nat.le_of_ble_eq_true rfl) ?_
  refine W_seq ?_
  refine W_region rfl ?_
  refine da_op rfl (d_as (v := .int .i64 0) rfl ?_)
  refine da_nil ?_
  refine W_seq ?_
  refine W_seq ?_
  refine W_region rfl ?_
  refine da_op rfl (d_as (v := .int .i64 0) rfl ?_)
  refine da_nil ?_
  refine W_block ?_
  obtain ⟨m1, hm1, hr⟩ := bind_out hr
  refine W_loopM hm1 (fun (s1 : Int × Int × List SClock) σ w' => σ 1 = .int .i64 s1.1 ∧ σ 5 = .int .i64 s1.2.1 ∧ σ 0 = (Value.slice p0a p0n p0c) ∧ OS w' 109 encSClock (Value.slice p0a p0n p0c) s1.2.2 ∧ Frm (fun k _ => (Value.slice p0a p0n p0c).ownBlock = some k) w w') (fun (e1 : (Int × List SClock)) ex σ w' => ex = .exit 0 ∧ σ 1 = .int .i64 e1.1 ∧ OS w' 109 encSClock (Value.slice p0a p0n p0c) e1.2 ∧ Frm (fun k _ => (Value.slice p0a p0n p0c).ownBlock = some k) w w') ⟨rfl, rfl, rfl, p0R, X0⟩ ?_ ?_
  · skip
    rintro s1 σl1 wl1 r1l ⟨i1_S1, i1_S5, i1_S0, i1_2R, i1_X⟩ hr
    refine W_seq ?_
    refine W_seq ?_
    refine W_region rfl ?_
    refine da_op rfl (d_mv (v := .int .i64 s1.2.1) i1_S5 ?_)
    refine da_op rfl (d_mv (v := (Value.slice p0a p0n p0c)) i1_S0 ?_)
    refine da_op rfl (d_len (e := encSClock) un52 rfl i1_2R.rs ?_)
    refine da_op rfl (d_icmp cLss rfl rfl ?_)
    refine da_nil ?_
    refine W_cond (b := (icmp .lss s1.2.1 ((s1.2.2).length : Int))) rfl (fun hc2 => ?_) (fun hc2 => ?_)
    · skip
      replace hr := bif_t hr hc2
      refine W_skip ?_
      refine W_seq ?_
      refine W_block ?_
      refine W_seq ?_
      refine W_region rfl ?_
      refine da_op rfl (d_mv (v := (Value.slice p0a p0n p0c)) i1_S0 ?_)
      refine da_op rfl (d_mv (v := .int .i64 s1.2.1) i1_S5 ?_)
      refine da_op rfl (d_mv (v := .int .i64 s1.1) i1_S1 ?_)
      refine da_op rfl (d_ofInt un3 un22 rfl ?_)
      obtain ⟨m3, hm3, hr⟩ := bind_out hr
      refine da_op rfl (d_indexO (e := encSClock) (v := (Value.slice p0a p0n p0c)) un52 size109 rfl rfl i1_2R hm3 fun g4 fr4 cu4 vs4 hv4 hg4 hp4 hq4 => ?_)
      obtain ⟨e4_r0, e4_r1, rfl, e4_h0, e4_h1⟩ := dec_encSClock hq4
      refine da_op rfl (d_fieldAddr rfl (fa109_0 _ _) ?_)
      refine da_op rfl (d_store_elem (e := encSClock) (i := s1.2.1) (k := 0) (old := [.float .f32 e4_r0, .float .f32 e4_r1]) (vs := #[.float .f32 (fint .f32 s1.1)]) (new := [.float .f32 (fint .f32 s1.1), .float .f32 e4_r1]) (x2 := (⟨(fint .f32 s1.1), m3.rate⟩ : SClock)) rfl rfl hv4 i1_2R hg4 hp4 hm3 size22 (by kernel_rfl) (Nat.le_of_ble_eq_true rfl) rfl rfl (lc_f (cn_fint _ _) (lc_f e4_h1 rfl)) rfl fun w5 S5 O6 => ?_)
      have X7 : Frm (fun k _ => (Value.slice p0a p0n p0c).ownBlock = some k) w w5 := Frm.step i1_X S5.frmb (fun k _ hk => .inl (by rw [hv4, hk]; rfl))
      refine da_nil ?_
      refine W_seq ?_
      refine W_region rfl ?_
      refine da_op rfl (d_mv (v := .int .i64 s1.1) i1_S1 ?_)
      refine da_op rfl (d_iarith rfl rfl (.inl ⟨rfl, rfl⟩) ?_)
      refine da_op rfl (d_as (v := .int .i64 (IntKind.i64.wrap (s1.1 + 1))) rfl ?_)
      refine da_nil ?_
      refine W_seq ?_
      refine W_region rfl ?_
      refine da_op rfl (d_mv (v := (Value.slice p0a p0n p0c)) i1_S0 ?_)
      refine da_op rfl (d_mv (v := .int .i64 s1.2.1) i1_S5 ?_)
      refine da_op rfl (d_mv (v := .int .i64 (IntKind.i64.wrap (s1.1 + 1))) rfl ?_)
      refine da_op rfl (d_ofInt un3 un22 rfl ?_)
      obtain ⟨m8, hm8, hr⟩ := bind_out hr
      refine da_op rfl (d_indexO (e := encSClock) (v := (Value.slice p0a p0n p0c)) un52 size109 rfl rfl O6 hm8 fun g9 fr9 cu9 vs9 hv9 hg9 hp9 hq9 => ?_)
      obtain ⟨e9_r0, e9_r1, rfl, e9_h0, e9_h1⟩ := dec_encSClock hq9
      refine da_op rfl (d_fieldAddr rfl (fa109_1 _ _) ?_)
      refine da_op rfl (d_store_elem (e := encSClock) (i := s1.2.1) (k := 1) (old := [.float .f32 e9_r0, .float .f32 e9_r1]) (vs := #[.float .f32 (fint .f32 (IntKind.i64.wrap (s1.1 + 1)))]) (new := [.float .f32 e9_r0, .float .f32 (fint .f32 (IntKind.i64.wrap (s1.1 + 1)))]) (x2 := (⟨m8.turn, (fint .f32 (IntKind.i64.wrap (s1.1 + 1)))⟩ : SClock)) rfl rfl hv9 O6 hg9 hp9 hm8 size22 (by kernel_rfl) (Nat.le_of_ble_eq_true rfl) rfl rfl (lc_f e9_h0 (lc_f (cn_fint _ _) rfl)) rfl fun w10 S10 O11 => ?_)
      have X12 : Frm (fun k _ => (Value.slice p0a p0n p0c).ownBlock = some k) w w10 := Frm.step X7 S10.frmb (fun k _ hk => .inl (by rw [hv9, hk]; rfl))
      refine da_nil ?_
      refine W_region rfl ?_
      refine da_op rfl (d_mv (v := .int .i64 (IntKind.i64.wrap (s1.1 + 1))) rfl ?_)
      refine da_op rfl (d_iarith rfl rfl (.inl ⟨rfl, rfl⟩) ?_)
      refine da_op rfl (d_as (v := .int .i64 (IntKind.i64.wrap ((IntKind.i64.wrap (s1.1 + 1)) + 1))) rfl ?_)
      refine da_nil ?_
      refine W_region rfl ?_
      refine da_op rfl (d_mv (v := .int .i64 s1.2.1) i1_S5 ?_)
      refine da_op rfl (d_iarith rfl rfl (.inl ⟨rfl, rfl⟩) ?_)
      refine da_op rfl (d_as (v := .int .i64 (IntKind.i64.wrap (s1.2.1 + 1))) rfl ?_)
      refine da_nil ?_
      obtain rfl := Option.some.inj hr
      exact ⟨_, rfl, ⟨rfl, rfl, i1_S0, O11, X12⟩⟩
    · skip
      replace hr := bif_f hr hc2
      refine W_exit ?_
      obtain rfl := Option.some.inj hr
      exact ⟨_, rfl, rfl, i1_S1, i1_2R, i1_X⟩
  · skip
    intro ex σx1 wx1 hq
    obtain ⟨rfl, q1_0_S1, q1_0_1R, q1_0_X⟩ := hq
    refine W_seq ?_
    refine W_region rfl ?_
    refine da_op rfl (d_mv (v := .int .i64 m1.1) q1_0_S1 ?_)
    refine da_op rfl (d_as (v := .int .i64 m1.1) rfl ?_)
    refine da_nil ?_
    refine W_ret ?_
    obtain rfl := Option.some.inj hr
    refine ⟨_, res1 (rv_tmp rfl), ?_⟩
    exact ⟨rfl, q1_0_1R, q1_0_X⟩
set_option maxHeartbeats 4000000 in
theorem c44 (p0 : SClocks) (p1 : Int) (p0v0a : Option Addr) (p0v0n : Nat) (p0v0c : Nat) (p0v1a : Option Addr) (p0v1n : Nat) (p0v1c : Nat) (r : Int × List SClock × List Nat) (w : World) (hr : M.laws_markClocks p0 p1 = some r) (p0v0R : OS w 109 encSClock (Value.slice p0v0a p0v0n p0v0c) p0.list) (p0v1R : OS w 22 encF_f32 (Value.slice p0v1a p0v1n p0v1c) p0.links) (sp0_1 : ∀ k, (Value.slice p0v0a p0v0n p0v0c).ownBlock = some k → ¬ (Value.slice p0v1a p0v1n p0v1c).ownBlock = some k) :
    Calls Try.prog 44 #[.agg #[(Value.slice p0v0a p0v0n p0v0c), (Value.slice p0v1a p0v1n p0v1c)], .int .i64 p1] w fun e w' => e = .returned (.int .i64 r.1) ∧ OS w' 109 encSClock (Value.slice p0v0a p0v0n p0v0c) r.2.1 ∧ OS w' 22 encF_f32 (Value.slice p0v1a p0v1n p0v1c) r.2.2 ∧ Frm (fun k _ => (Value.slice p0v0a p0v0n p0v0c).ownBlock = some k ∨ (Value.slice p0v1a p0v1n p0v1c).ownBlock = some k) w w' := by
  have X0 : Frm (fun k _ => (Value.slice p0v0a p0v0n p0v0c).ownBlock = some k ∨ (Value.slice p0v1a p0v1n p0v1c).ownBlock = some k) w w := Frm.refl _ w
  refine calls_of_W Try.func44 rfl (Nat.le_of_ble_eq_true rfl) ?_
  refine W_seq ?_
  refine W_region rfl ?_
  refine da_op rfl (d_box (cs := #[(Value.slice p0v0a p0v0n p0v0c), (Value.slice p0v1a p0v1n p0v1c)]) rfl fun w1 B1 E1 => ?_)
  have own2 : w.heap.size ≤ w.heap.size := Nat.le_trans X0.size (Nat.le_refl _)
  have sp3 : ¬ (Value.slice p0v0a p0v0n p0v0c).ownBlock = some w.heap.size := OS.ne_new p0v0R (Nat.le_refl _)
  have sp4 : ¬ (Value.slice p0v1a p0v1n p0v1c).ownBlock = some w.heap.size := OS.ne_new p0v1R (Nat.le_refl _)
  have X5 : Frm (fun k _ => (Value.slice p0v0a p0v0n p0v0c).ownBlock = some k ∨ (Value.slice p0v1a p0v1n p0v1c).ownBlock = some k) w w1 := X0.trans E1.frm
  refine da_op rfl (d_as (v := .int .i64 0) rfl ?_)
  refine da_nil ?_
  refine W_seq ?_
  refine W_region rfl ?_
  refine da_op rfl (d_fieldAddr rfl (fa54_0 _ _) ?_)
  refine da_op rfl (d_load (v := (Value.slice p0v0a p0v0n p0v0c)) rfl agg52 B1 rfl ?_)
  refine da_op rfl (d_mv (v := .int .i64 p1) rfl ?_)
  obtain ⟨m6, hm6, hr⟩ := bind_out hr
  have B7 : OS w1 109 encSClock (Value.slice p0v0a p0v0n p0v0c) p0.list := p0v0R.ext E1
  have B8 : OS w1 22 encF_f32 (Value.slice p0v1a p0v1n p0v1c) p0.links := p0v1R.ext E1
  refine da_op rfl (d_cl (vs := [(Value.slice p0v0a p0v0n p0v0c), .int .i64 p1]) en80 (ac rfl (ac rfl rfl)) rfl ?_)
  refine (c80 p0.list p1 p0v0a p0v0n p0v0c m6 w1 hm6 B7).mono ?_
  rintro _ w9 ⟨rfl, q9_m0R, E9⟩
  refine ⟨_, rfl, ?_⟩
  have X10 : Frm (fun k _ => (Value.slice p0v0a p0v0n p0v0c).ownBlock = some k ∨ (Value.slice p0v1a p0v1n p0v1c).ownBlock = some k) w w9 := Frm.step X5 E9 (fun k _ hk => .inl (.inl hk))
  refine da_op rfl (d_as (v := .int .i64 m6.1) rfl ?_)
  refine da_nil ?_
  refine W_seq ?_
  refine W_region rfl ?_
  refine da_op rfl (d_fieldAddr rfl (fa54_1 _ _) ?_)
  have B11 : w9.heap[w.heap.size]? = some (.cells #[(Value.slice p0v0a p0v0n p0v0c), (Value.slice p0v1a p0v1n p0v1c)] 54 (0, 0)) := E9.heap sp3 B1
  refine da_op rfl (d_load (v := (Value.slice p0v1a p0v1n p0v1c)) rfl agg48 B11 rfl ?_)
  refine da_op rfl (d_mv (v := .int .i64 m6.1) rfl ?_)
  obtain ⟨m12, hm12, hr⟩ := bind_out hr
  have B13 : OS w9 22 encF_f32 (Value.slice p0v1a p0v1n p0v1c) p0.links := B8.frm E9 (fun k hk => ((apart_symm sp0_1) k hk))
  refine da_op rfl (d_cl (vs := [(Value.slice p0v1a p0v1n p0v1c), .int .i64 m6.1]) en78 (ac rfl (ac rfl rfl)) rfl ?_)
  refine (c78 p0.links m6.1 p0v1a p0v1n p0v1c m12 w9 hm12 B13).mono ?_
  rintro _ w14 ⟨rfl, q14_m0R, E14⟩
  refine ⟨_, rfl, ?_⟩
  have X15 : Frm (fun k _ => (Value.slice p0v0a p0v0n p0v0c).ownBlock = some k ∨ (Value.slice p0v1a p0v1n p0v1c).ownBlock = some k) w w14 := Frm.step X10 E14 (fun k _ hk => .inl (.inr hk))
  refine da_op rfl (d_as (v := .int .i64 m12.1) rfl ?_)
  refine da_nil ?_
  refine W_seq ?_
  refine W_region rfl ?_
  refine da_op rfl (d_mv (v := .int .i64 m12.1) rfl ?_)
  refine da_op rfl (d_as (v := .int .i64 m12.1) rfl ?_)
  refine da_nil ?_
  refine W_ret ?_
  have B16 : OS w14 109 encSClock (Value.slice p0v0a p0v0n p0v0c) m6.2 := q9_m0R.frm E14 (fun k hk => (sp0_1 k hk))
  obtain rfl := Option.some.inj hr
  refine ⟨_, res1 (rv_tmp rfl), ?_⟩
  exact ⟨rfl, B16, q14_m0R, X15⟩
set_option maxHeartbeats 4000000 in
theorem c19 (p0 : SDesk) (p1 : Int) (p0r0 : Nat) (p0r1 : Nat) (p0r2 : Nat) (p0r3 : Nat) (p0r4 : Nat) (p0r5 : Nat) (p0r6 : Nat) (p0r7 : Nat) (p0v8a : Option Addr) (p0v8n : Nat) (p0v8c : Nat) (p0v9a : Option Addr) (p0v9n : Nat) (p0v9c : Nat) (p0v10a : Option Addr) (p0v10n : Nat) (p0v10c : Nat) (p0v11a : Option Addr) (p0v11n : Nat) (p0v11c : Nat) (p0r12 : Nat) (p0r13 : Nat) (p0r14 : Nat) (p0r15 : Nat) (p0r16 : Nat) (p0r17 : Nat) (p0r18 : Nat) (p0r19 : Nat) (p0r20 : Nat) (p0r21 : Nat) (p0v22a : Option Addr) (p0v22n : Nat) (p0v22c : Nat) (p0v23a : Option Addr) (p0v23n : Nat) (p0v23c : Nat) (r : Int × List SVector × List SVector × List Nat × List SRod × List SClock × List Nat) (w : World) (hr : M.laws_markDesk p0 p1 = some r) (p0h0 : cn .f32 p0r0 = p0.pendulum.long) (p0h1 : cn .f32 p0r1 = p0.pendulum.pull) (p0h2 : cn .f32 p0r2 = p0.pendulum.drag) (p0h3 : cn .f32 p0r3 = p0.pendulum.drive) (p0h4 : cn .f32 p0r4 = p0.pendulum.rate) (p0h5 : cn .f32 p0r5 = p0.swing.turn) (p0h6 : cn .f32 p0r6 = p0.swing.speed) (p0h7 : cn .f32 p0r7 = p0.swing.time) (p0v8R : OS w 29 encSVector (Value.slice p0v8a p0v8n p0v8c) p0.chain.places) (p0v9R : OS w 29 encSVector (Value.slice p0v9a p0v9n p0v9c) p0.chain.before) (p0v10R : OS w 22 encF_f32 (Value.slice p0v10a p0v10n p0v10c) p0.chain.weights) (p0v11R : OS w 104 encSRod (Value.slice p0v11a p0v11n p0v11c) p0.chain.rods) (p0h12 : cn .f32 p0r12 = p0.top.moments.x) (p0h13 : cn .f32 p0r13 = p0.top.moments.y) (p0h14 : cn .f32 p0r14 = p0.top.moments.z) (p0h15 : cn .f32 p0r15 = p0.top.turn.w) (p0h16 : cn .f32 p0r16 = p0.top.turn.x) (p0h17 : cn .f32 p0r17 = p0.top.turn.y) (p0h18 : cn .f32 p0r18 = p0.top.turn.z) (p0h19 : cn .f32 p0r19 = p0.top.speed.x) (p0h20 : cn .f32 p0r20 = p0.top.speed.y) (p0h21 : cn .f32 p0r21 = p0.top.speed.z) (p0v22R : OS w 109 encSClock (Value.slice p0v22a p0v22n p0v22c) p0.clocks.list) (p0v23R : OS w 22 encF_f32 (Value.slice p0v23a p0v23n p0v23c) p0.clocks.links) (sp0_1 : ∀ k, (Value.slice p0v8a p0v8n p0v8c).ownBlock = some k → ¬ (Value.slice p0v9a p0v9n p0v9c).ownBlock = some k) (sp0_2 : ∀ k, (Value.slice p0v8a p0v8n p0v8c).ownBlock = some k → ¬ (Value.slice p0v10a p0v10n p0v10c).ownBlock = some k) (sp1_2 : ∀ k, (Value.slice p0v9a p0v9n p0v9c).ownBlock = some k → ¬ (Value.slice p0v10a p0v10n p0v10c).ownBlock = some k) (sp0_3 : ∀ k, (Value.slice p0v8a p0v8n p0v8c).ownBlock = some k → ¬ (Value.slice p0v11a p0v11n p0v11c).ownBlock = some k) (sp1_3 : ∀ k, (Value.slice p0v9a p0v9n p0v9c).ownBlock = some k → ¬ (Value.slice p0v11a p0v11n p0v11c).ownBlock = some k) (sp2_3 : ∀ k, (Value.slice p0v10a p0v10n p0v10c).ownBlock = some k → ¬ (Value.slice p0v11a p0v11n p0v11c).ownBlock = some k) (sp0_4 : ∀ k, (Value.slice p0v8a p0v8n p0v8c).ownBlock = some k → ¬ (Value.slice p0v22a p0v22n p0v22c).ownBlock = some k) (sp1_4 : ∀ k, (Value.slice p0v9a p0v9n p0v9c).ownBlock = some k → ¬ (Value.slice p0v22a p0v22n p0v22c).ownBlock = some k) (sp2_4 : ∀ k, (Value.slice p0v10a p0v10n p0v10c).ownBlock = some k → ¬ (Value.slice p0v22a p0v22n p0v22c).ownBlock = some k) (sp3_4 : ∀ k, (Value.slice p0v11a p0v11n p0v11c).ownBlock = some k → ¬ (Value.slice p0v22a p0v22n p0v22c).ownBlock = some k) (sp0_5 : ∀ k, (Value.slice p0v8a p0v8n p0v8c).ownBlock = some k → ¬ (Value.slice p0v23a p0v23n p0v23c).ownBlock = some k) (sp1_5 : ∀ k, (Value.slice p0v9a p0v9n p0v9c).ownBlock = some k → ¬ (Value.slice p0v23a p0v23n p0v23c).ownBlock = some k) (sp2_5 : ∀ k, (Value.slice p0v10a p0v10n p0v10c).ownBlock = some k → ¬ (Value.slice p0v23a p0v23n p0v23c).ownBlock = some k) (sp3_5 : ∀ k, (Value.slice p0v11a p0v11n p0v11c).ownBlock = some k → ¬ (Value.slice p0v23a p0v23n p0v23c).ownBlock = some k) (sp4_5 : ∀ k, (Value.slice p0v22a p0v22n p0v22c).ownBlock = some k → ¬ (Value.slice p0v23a p0v23n p0v23c).ownBlock = some k) :
    Calls Try.prog 19 #[.agg #[.float .f32 p0r0, .float .f32 p0r1, .float .f32 p0r2, .float .f32 p0r3, .float .f32 p0r4, .float .f32 p0r5, .float .f32 p0r6, .float .f32 p0r7, (Value.slice p0v8a p0v8n p0v8c), (Value.slice p0v9a p0v9n p0v9c), (Value.slice p0v10a p0v10n p0v10c), (Value.slice p0v11a p0v11n p0v11c), .float .f32 p0r12, .float .f32 p0r13, .float .f32 p0r14, .float .f32 p0r15, .float .f32 p0r16, .float .f32 p0r17, .float .f32 p0r18, .float .f32 p0r19, .float .f32 p0r20, .float .f32 p0r21, (Value.slice p0v22a p0v22n p0v22c), (Value.slice p0v23a p0v23n p0v23c)], .int .i64 p1] w fun e w' => e = .returned (.int .i64 r.1) ∧ OS w' 29 encSVector (Value.slice p0v8a p0v8n p0v8c) r.2.1 ∧ OS w' 29 encSVector (Value.slice p0v9a p0v9n p0v9c) r.2.2.1 ∧ OS w' 22 encF_f32 (Value.slice p0v10a p0v10n p0v10c) r.2.2.2.1 ∧ OS w' 104 encSRod (Value.slice p0v11a p0v11n p0v11c) r.2.2.2.2.1 ∧ OS w' 109 encSClock (Value.slice p0v22a p0v22n p0v22c) r.2.2.2.2.2.1 ∧ OS w' 22 encF_f32 (Value.slice p0v23a p0v23n p0v23c) r.2.2.2.2.2.2 ∧ Frm (fun k _ => (Value.slice p0v8a p0v8n p0v8c).ownBlock = some k ∨ (Value.slice p0v9a p0v9n p0v9c).ownBlock = some k ∨ (Value.slice p0v10a p0v10n p0v10c).ownBlock = some k ∨ (Value.slice p0v11a p0v11n p0v11c).ownBlock = some k ∨ (Value.slice p0v22a p0v22n p0v22c).ownBlock = some k ∨ (Value.slice p0v23a p0v23n p0v23c).ownBlock = some k) w w' := by
  have X0 : Frm (fun k _ => (Value.slice p0v8a p0v8n p0v8c).ownBlock = some k ∨ (Value.slice p0v9a p0v9n p0v9c).ownBlock = some k ∨ (Value.slice p0v10a p0v10n p0v10c).ownBlock = some k ∨ (Value.slice p0v11a p0v11n p0v11c).ownBlock = some k ∨ (Value.slice p0v22a p0v22n p0v22c).ownBlock = some k ∨ (Value.slice p0v23a p0v23n p0v23c).ownBlock = some k) w w := Frm.refl _ w
  refine calls_of_W Try.func19 rfl (Nat.le_of_ble_eq_true rfl) ?_
  refine W_seq ?_
  refine W_region rfl ?_
  refine da_op rfl (d_box (cs := #[.float .f32 p0r0, .float .f32 p0r1, .float .f32 p0r2, .float .f32 p0r3, .float .f32 p0r4, .float .f32 p0r5, .float .f32 p0r6, .float .f32 p0r7, (Value.slice p0v8a p0v8n p0v8c), (Value.slice p0v9a p0v9n p0v9c), (Value.slice p0v10a p0v10n p0v10c), (Value.slice p0v11a p0v11n p0v11c), .float .f32 p0r12, .float .f32 p0r13, .float .f32 p0r14, .float .f32 p0r15, .float .f32 p0r16, .float .f32 p0r17, .float .f32 p0r18, .float .f32 p0r19, .float .f32 p0r20, .float .f32 p0r21, (Value.slice p0v22a p0v22n p0v22c), (Value.slice p0v23a p0v23n p0v23c)]) rfl fun w1 B1 E1 => ?_)
  have own2 : w.heap.size ≤ w.heap.size := Nat.le_trans X0.size (Nat.le_refl _)
  have sp3 : ¬ (Value.slice p0v8a p0v8n p0v8c).ownBlock = some w.heap.size := OS.ne_new p0v8R (Nat.le_refl _)
  have sp4 : ¬ (Value.slice p0v9a p0v9n p0v9c).ownBlock = some w.heap.size := OS.ne_new p0v9R (Nat.le_refl _)
  have sp5 : ¬ (Value.slice p0v10a p0v10n p0v10c).ownBlock = some w.heap.size := OS.ne_new p0v10R (Nat.le_refl _)
  have sp6 : ¬ (Value.slice p0v11a p0v11n p0v11c).ownBlock = some w.heap.size := OS.ne_new p0v11R (Nat.le_refl _)
  have sp7 : ¬ (Value.slice p0v22a p0v22n p0v22c).ownBlock = some w.heap.size := OS.ne_new p0v22R (Nat.le_refl _)
  have sp8 : ¬ (Value.slice p0v23a p0v23n p0v23c).ownBlock = some w.heap.size := OS.ne_new p0v23R (Nat.le_refl _)
  have X9 : Frm (fun k _ => (Value.slice p0v8a p0v8n p0v8c).ownBlock = some k ∨ (Value.slice p0v9a p0v9n p0v9c).ownBlock = some k ∨ (Value.slice p0v10a p0v10n p0v10c).ownBlock = some k ∨ (Value.slice p0v11a p0v11n p0v11c).ownBlock = some k ∨ (Value.slice p0v22a p0v22n p0v22c).ownBlock = some k ∨ (Value.slice p0v23a p0v23n p0v23c).ownBlock = some k) w w1 := X0.trans E1.frm
  refine da_op rfl (d_as (v := .int .i64 0) rfl ?_)
  refine da_nil ?_
  refine W_seq ?_
  refine W_region rfl ?_
  refine da_op rfl (d_fieldAddr rfl (fa56_2 _ _) ?_)
  refine da_op rfl (d_loads (vs := #[(Value.slice p0v8a p0v8n p0v8c), (Value.slice p0v9a p0v9n p0v9c), (Value.slice p0v10a p0v10n p0v10c), (Value.slice p0v11a p0v11n p0v11c)]) rfl agg51 size51 B1 rfl ?_)
  refine da_op rfl (d_mv (v := .int .i64 p1) rfl ?_)
  obtain ⟨m10, hm10, hr⟩ := bind_out hr
  have B11 : OS w1 29 encSVector (Value.slice p0v8a p0v8n p0v8c) p0.chain.places := p0v8R.ext E1
  have B12 : OS w1 29 encSVector (Value.slice p0v9a p0v9n p0v9c) p0.chain.before := p0v9R.ext E1
  have B13 : OS w1 22 encF_f32 (Value.slice p0v10a p0v10n p0v10c) p0.chain.weights := p0v10R.ext E1
  have B14 : OS w1 104 encSRod (Value.slice p0v11a p0v11n p0v11c) p0.chain.rods := p0v11R.ext E1
  have B15 : OS w1 109 encSClock (Value.slice p0v22a p0v22n p0v22c) p0.clocks.list := p0v22R.ext E1
  have B16 : OS w1 22 encF_f32 (Value.slice p0v23a p0v23n p0v23c) p0.clocks.links := p0v23R.ext E1
  refine da_op rfl (d_cl (vs := [.agg #[(Value.slice p0v8a p0v8n p0v8c), (Value.slice p0v9a p0v9n p0v9c), (Value.slice p0v10a p0v10n p0v10c), (Value.slice p0v11a p0v11n p0v11c)], .int .i64 p1]) en43 (ac rfl (ac rfl rfl)) rfl ?_)
  refine (c43 p0.chain p1 p0v8a p0v8n p0v8c p0v9a p0v9n p0v9c p0v10a p0v10n p0v10c p0v11a p0v11n p0v11c m10 w1 hm10 B11 B12 B13 B14 sp0_1 sp0_2 sp1_2 sp0_3 sp1_3 sp2_3).mono ?_
  rintro _ w17 ⟨rfl, q17_m0R, q17_m1R, q17_m2R, q17_m3R, E17⟩
  refine ⟨_, rfl, ?_⟩
  have X18 : Frm (fun k _ => (Value.slice p0v8a p0v8n p0v8c).ownBlock = some k ∨ (Value.slice p0v9a p0v9n p0v9c).ownBlock = some k ∨ (Value.slice p0v10a p0v10n p0v10c).ownBlock = some k ∨ (Value.slice p0v11a p0v11n p0v11c).ownBlock = some k ∨ (Value.slice p0v22a p0v22n p0v22c).ownBlock = some k ∨ (Value.slice p0v23a p0v23n p0v23c).ownBlock = some k) w w17 := Frm.step X9 E17 (fun k t hk => hk.elim ((fun k _ hk => .inl (.inl hk)) k t) (fun hk => hk.elim ((fun k _ hk => .inl (.inr (.inl hk))) k t) (fun hk => hk.elim ((fun k _ hk => .inl (.inr (.inr (.inl hk)))) k t) ((fun k _ hk => .inl (.inr (.inr (.inr (.inl hk))))) k t))))
  refine da_op rfl (d_as (v := .int .i64 m10.1) rfl ?_)
  refine da_nil ?_
  refine W_seq ?_
  refine W_region rfl ?_
  refine da_op rfl (d_fieldAddr rfl (fa56_4 _ _) ?_)
  have B19 : w17.heap[w.heap.size]? = some (.cells #[.float .f32 p0r0, .float .f32 p0r1, .float .f32 p0r2, .float .f32 p0r3, .float .f32 p0r4, .float .f32 p0r5, .float .f32 p0r6, .float .f32 p0r7, (Value.slice p0v8a p0v8n p0v8c), (Value.slice p0v9a p0v9n p0v9c), (Value.slice p0v10a p0v10n p0v10c), (Value.slice p0v11a p0v11n p0v11c), .float .f32 p0r12, .float .f32 p0r13, .float .f32 p0r14, .float .f32 p0r15, .float .f32 p0r16, .float .f32 p0r17, .float .f32 p0r18, .float .f32 p0r19, .float .f32 p0r20, .float .f32 p0r21, (Value.slice p0v22a p0v22n p0v22c), (Value.slice p0v23a p0v23n p0v23c)] 56 (0, 0)) := E17.heap (not_or2 sp3 (not_or2 sp4 (not_or2 sp5 sp6))) B1
  refine da_op rfl (d_loads (vs := #[(Value.slice p0v22a p0v22n p0v22c), (Value.slice p0v23a p0v23n p0v23c)]) rfl agg54 size54 B19 rfl ?_)
  refine da_op rfl (d_mv (v := .int .i64 m10.1) rfl ?_)
  obtain ⟨m20, hm20, hr⟩ := bind_out hr
  have B21 : OS w17 109 encSClock (Value.slice p0v22a p0v22n p0v22c) p0.clocks.list := B15.frm E17 (fun k hk => (not_or2 ((apart_symm sp0_4) k hk) (not_or2 ((apart_symm sp1_4) k hk) (not_or2 ((apart_symm sp2_4) k hk) ((apart_symm sp3_4) k hk)))))
  have B22 : OS w17 22 encF_f32 (Value.slice p0v23a p0v23n p0v23c) p0.clocks.links := B16.frm E17 (fun k hk => (not_or2 ((apart_symm sp0_5) k hk) (not_or2 ((apart_symm sp1_5) k hk) (not_or2 ((apart_symm sp2_5) k hk) ((apart_symm sp3_5) k hk)))))
  refine da_op rfl (d_cl (vs := [.agg #[(Value.slice p0v22a p0v22n p0v22c), (Value.slice p0v23a p0v23n p0v23c)], .int .i64 m10.1]) en44 (ac rfl (ac rfl rfl)) rfl ?_)
  refine (c44 (⟨p0.clocks.list, p0.clocks.links⟩ : SClocks) m10.1 p0v22a p0v22n p0v22c p0v23a p0v23n p0v23c m20 w17 hm20 B21 B22 sp4_5).mono ?_
  rintro _ w23 ⟨rfl, q23_m0R, q23_m1R, E23⟩
  refine ⟨_, rfl, ?_⟩
  have X24 : Frm (fun k _ => (Value.slice p0v8a p0v8n p0v8c).ownBlock = some k ∨ (Value.slice p0v9a p0v9n p0v9c).ownBlock = some k ∨ (Value.slice p0v10a p0v10n p0v10c).ownBlock = some k ∨ (Value.slice p0v11a p0v11n p0v11c).ownBlock = some k ∨ (Value.slice p0v22a p0v22n p0v22c).ownBlock = some k ∨ (Value.slice p0v23a p0v23n p0v23c).ownBlock = some k) w w23 := Frm.step X18 E23 (fun k t hk => hk.elim ((fun k _ hk => .inl (.inr (.inr (.inr (.inr (.inl hk)))))) k t) ((fun k _ hk => .inl (.inr (.inr (.inr (.inr (.inr hk)))))) k t))
  refine da_op rfl (d_as (v := .int .i64 m20.1) rfl ?_)
  refine da_nil ?_
  refine W_seq ?_
  refine W_region rfl ?_
  refine da_op rfl (d_mv (v := .int .i64 m20.1) rfl ?_)
  refine da_op rfl (d_as (v := .int .i64 m20.1) rfl ?_)
  refine da_nil ?_
  refine W_ret ?_
  have B25 : OS w23 29 encSVector (Value.slice p0v8a p0v8n p0v8c) m10.2.1 := q17_m0R.frm E23 (fun k hk => (not_or2 (sp0_4 k hk) (sp0_5 k hk)))
  have B26 : OS w23 29 encSVector (Value.slice p0v9a p0v9n p0v9c) m10.2.2.1 := q17_m1R.frm E23 (fun k hk => (not_or2 (sp1_4 k hk) (sp1_5 k hk)))
  have B27 : OS w23 22 encF_f32 (Value.slice p0v10a p0v10n p0v10c) m10.2.2.2.1 := q17_m2R.frm E23 (fun k hk => (not_or2 (sp2_4 k hk) (sp2_5 k hk)))
  have B28 : OS w23 104 encSRod (Value.slice p0v11a p0v11n p0v11c) m10.2.2.2.2 := q17_m3R.frm E23 (fun k hk => (not_or2 (sp3_4 k hk) (sp3_5 k hk)))
  obtain rfl := Option.some.inj hr
  refine ⟨_, res1 (rv_tmp rfl), ?_⟩
  exact ⟨rfl, B25, B26, B27, B28, q23_m0R, q23_m1R, X24⟩
set_option maxHeartbeats 4000000 in
theorem c13 (p0 : List SVector) (p1 : Int) (p0a : Option Addr) (p0n : Nat) (p0c : Nat) (r : Int) (w : World) (hr : M.laws_heldVectorS p0 p1 = some r) (p0R : RS w encSVector (Value.slice p0a p0n p0c) p0) :
    Calls Try.prog 13 #[(Value.slice p0a p0n p0c), .int .i64 p1] w fun e w' => e = .returned (.int .i64 r) ∧ Ext w w' := by
  refine calls_of_W Try.func13 rfl (Nat.le_of_ble_eq_true rfl) ?_
  refine W_seq ?_
  refine W_region rfl ?_
  refine da_op rfl (d_as (v := .int .i64 0) rfl ?_)
  refine da_nil ?_
  refine W_seq ?_
  refine W_seq ?_
  refine W_region rfl ?_
  refine da_op rfl (d_as (v := .int .i64 0) rfl ?_)
  refine da_nil ?_
  refine W_block ?_
  obtain ⟨m1, hm1, hr⟩ := bind_out hr
  refine W_loopM hm1 (fun (s1 : Int × Int) σ w' => σ 1 = .int .i64 s1.1 ∧ σ 5 = .int .i64 s1.2 ∧ σ 0 = (Value.slice p0a p0n p0c) ∧ Ext w w') (fun (e1 : (Int ⊕ Int)) ex σ w' => sel e1 (fun e1 => ex = .exit 0 ∧ σ 1 = .int .i64 e1 ∧ Ext w w') (fun e1 => ex = .ret ∧ σ 4 = .int .i64 e1 ∧ Ext w w')) ⟨rfl, rfl, rfl, (Ext.refl w)⟩ ?_ ?_
  · skip
    rintro s1 σl1 wl1 r1l ⟨i1_S1, i1_S5, i1_S0, i1_X⟩ hr
    refine W_seq ?_
    refine W_seq ?_
    refine W_region rfl ?_
    refine da_op rfl (d_mv (v := .int .i64 s1.2) i1_S5 ?_)
    refine da_op rfl (d_mv (v := (Value.slice p0a p0n p0c)) i1_S0 ?_)
    have B2 : RS wl1 encSVector (Value.slice p0a p0n p0c) p0 := p0R.ext i1_X
    refine da_op rfl (d_len (e := encSVector) un33 rfl B2 ?_)
    refine da_op rfl (d_icmp cLss rfl rfl ?_)
    refine da_nil ?_
    refine W_cond (b := (icmp .lss s1.2 ((p0).length : Int))) rfl (fun hc3 => ?_) (fun hc3 => ?_)
    · skip
      replace hr := bif_t hr hc3
      refine W_skip ?_
      refine W_seq ?_
      refine W_block ?_
      refine W_seq ?_
      refine W_seq ?_
      refine W_region rfl ?_
      refine da_op rfl (d_mv (v := (Value.slice p0a p0n p0c)) i1_S0 ?_)
      refine da_op rfl (d_mv (v := .int .i64 s1.2) i1_S5 ?_)
      obtain ⟨m4, hm4, hr⟩ := bind_out hr
      refine da_op rfl (d_index (e := encSVector) (v := (Value.slice p0a p0n p0c)) un33 size29 rfl rfl B2 hm4 fun g5 o5 cu5 T5 fr5 vs5 hv5 hg5 hp5 hq5 => ?_)
      obtain ⟨e5_r0, e5_r1, e5_r2, rfl, e5_h0, e5_h1, e5_h2⟩ := dec_encSVector hq5
      refine da_op rfl (d_fieldAddr rfl (fa29_0 _ _) ?_)
      refine da_op rfl (d_load (v := .float .f32 e5_r0) rfl agg22 hg5 (sub_get (vs := #[.float .f32 e5_r0, .float .f32 e5_r1, .float .f32 e5_r2]) hp5 (i := 0) rfl) ?_)
      refine da_op rfl (d_mv (v := .int .i64 s1.1) i1_S1 ?_)
      refine da_op rfl (d_ofInt un3 un22 rfl ?_)
      refine da_op rfl (d_fcmp (k := .f32) cNeq rfl rfl e5_h0 (cn_fint _ _) ?_)
      refine da_nil ?_
      refine W_cond (b := (fcmp .neq .f32 m4.x (fint .f32 s1.1))) rfl (fun hc6 => ?_) (fun hc6 => ?_)
      · skip
        replace hr := bif_t hr hc6
        refine W_seq ?_
        refine W_region rfl ?_
        refine da_op rfl (d_as (v := .int .i64 (-1)) rfl ?_)
        refine da_nil ?_
        refine W_ret ?_
        obtain rfl := Option.some.inj hr
        exact ⟨_, rfl, rfl, rfl, i1_X⟩
      · skip
        replace hr := bif_f hr hc6
        refine W_skip ?_
        refine W_seq ?_
        refine W_region rfl ?_
        refine da_op rfl (d_mv (v := .int .i64 s1.1) i1_S1 ?_)
        refine da_op rfl (d_iarith rfl rfl (.inl ⟨rfl, rfl⟩) ?_)
        refine da_op rfl (d_as (v := .int .i64 (IntKind.i64.wrap (s1.1 + 1))) rfl ?_)
        refine da_nil ?_
        refine W_seq ?_
        refine W_seq ?_
        refine W_region rfl ?_
        refine da_op rfl (d_mv (v := (Value.slice p0a p0n p0c)) i1_S0 ?_)
        refine da_op rfl (d_mv (v := .int .i64 s1.2) i1_S5 ?_)
        obtain ⟨m7, hm7, hr⟩ := bind_out hr
        refine da_op rfl (d_index (e := encSVector) (v := (Value.slice p0a p0n p0c)) un33 size29 rfl rfl B2 hm7 fun g8 o8 cu8 T8 fr8 vs8 hv8 hg8 hp8 hq8 => ?_)
        obtain ⟨e8_r0, e8_r1, e8_r2, rfl, e8_h0, e8_h1, e8_h2⟩ := dec_encSVector hq8
        refine da_op rfl (d_fieldAddr rfl (fa29_1 _ _) ?_)
        refine da_op rfl (d_load (v := .float .f32 e8_r1) rfl agg22 hg8 (sub_get (vs := #[.float .f32 e8_r0, .float .f32 e8_r1, .float .f32 e8_r2]) hp8 (i := 1) rfl) ?_)
        refine da_op rfl (d_mv (v := .int .i64 (IntKind.i64.wrap (s1.1 + 1))) rfl ?_)
        refine da_op rfl (d_ofInt un3 un22 rfl ?_)
        refine da_op rfl (d_fcmp (k := .f32) cNeq rfl rfl e8_h1 (cn_fint _ _) ?_)
        refine da_nil ?_
        refine W_cond (b := (fcmp .neq .f32 m7.y (fint .f32 (IntKind.i64.wrap (s1.1 + 1))))) rfl (fun hc9 => ?_) (fun hc9 => ?_)
        · skip
          replace hr := bif_t hr hc9
          refine W_seq ?_
          refine W_region rfl ?_
          refine da_op rfl (d_as (v := .int .i64 (-1)) rfl ?_)
          refine da_nil ?_
          refine W_ret ?_
          obtain rfl := Option.some.inj hr
          exact ⟨_, rfl, rfl, rfl, i1_X⟩
        · skip
          replace hr := bif_f hr hc9
          refine W_skip ?_
          refine W_seq ?_
          refine W_region rfl ?_
          refine da_op rfl (d_mv (v := .int .i64 (IntKind.i64.wrap (s1.1 + 1))) rfl ?_)
          refine da_op rfl (d_iarith rfl rfl (.inl ⟨rfl, rfl⟩) ?_)
          refine da_op rfl (d_as (v := .int .i64 (IntKind.i64.wrap ((IntKind.i64.wrap (s1.1 + 1)) + 1))) rfl ?_)
          refine da_nil ?_
          refine W_seq ?_
          refine W_seq ?_
          refine W_region rfl ?_
          refine da_op rfl (d_mv (v := (Value.slice p0a p0n p0c)) i1_S0 ?_)
          refine da_op rfl (d_mv (v := .int .i64 s1.2) i1_S5 ?_)
          obtain ⟨m10, hm10, hr⟩ := bind_out hr
          refine da_op rfl (d_index (e := encSVector) (v := (Value.slice p0a p0n p0c)) un33 size29 rfl rfl B2 hm10 fun g11 o11 cu11 T11 fr11 vs11 hv11 hg11 hp11 hq11 => ?_)
          obtain ⟨e11_r0, e11_r1, e11_r2, rfl, e11_h0, e11_h1, e11_h2⟩ := dec_encSVector hq11
          refine da_op rfl (d_fieldAddr rfl (fa29_2 _ _) ?_)
          refine da_op rfl (d_load (v := .float .f32 e11_r2) rfl agg22 hg11 (sub_get (vs := #[.float .f32 e11_r0, .float .f32 e11_r1, .float .f32 e11_r2]) hp11 (i := 2) rfl) ?_)
          refine da_op rfl (d_mv (v := .int .i64 (IntKind.i64.wrap ((IntKind.i64.wrap (s1.1 + 1)) + 1))) rfl ?_)
          refine da_op rfl (d_ofInt un3 un22 rfl ?_)
          refine da_op rfl (d_fcmp (k := .f32) cNeq rfl rfl e11_h2 (cn_fint _ _) ?_)
          refine da_nil ?_
          refine W_cond (b := (fcmp .neq .f32 m10.z (fint .f32 (IntKind.i64.wrap ((IntKind.i64.wrap (s1.1 + 1)) + 1))))) rfl (fun hc12 => ?_) (fun hc12 => ?_)
          · skip
            replace hr := bif_t hr hc12
            refine W_seq ?_
            refine W_region rfl ?_
            refine da_op rfl (d_as (v := .int .i64 (-1)) rfl ?_)
            refine da_nil ?_
            refine W_ret ?_
            obtain rfl := Option.some.inj hr
            exact ⟨_, rfl, rfl, rfl, i1_X⟩
          · skip
            replace hr := bif_f hr hc12
            refine W_skip ?_
            refine W_region rfl ?_
            refine da_op rfl (d_mv (v := .int .i64 (IntKind.i64.wrap ((IntKind.i64.wrap (s1.1 + 1)) + 1))) rfl ?_)
            refine da_op rfl (d_iarith rfl rfl (.inl ⟨rfl, rfl⟩) ?_)
            refine da_op rfl (d_as (v := .int .i64 (IntKind.i64.wrap ((IntKind.i64.wrap ((IntKind.i64.wrap (s1.1 + 1)) + 1)) + 1))) rfl ?_)
            refine da_nil ?_
            refine W_region rfl ?_
            refine da_op rfl (d_mv (v := .int .i64 s1.2) i1_S5 ?_)
            refine da_op rfl (d_iarith rfl rfl (.inl ⟨rfl, rfl⟩) ?_)
            refine da_op rfl (d_as (v := .int .i64 (IntKind.i64.wrap (s1.2 + 1))) rfl ?_)
            refine da_nil ?_
            obtain rfl := Option.some.inj hr
            exact ⟨_, rfl, ⟨rfl, rfl, i1_S0, i1_X⟩⟩
    · skip
      replace hr := bif_f hr hc3
      refine W_exit ?_
      obtain rfl := Option.some.inj hr
      exact ⟨_, rfl, rfl, i1_S1, i1_X⟩
  · skip
    intro ex σx1 wx1 hq
    rcases m1 with m1 | m1
    · skip
      obtain ⟨rfl, q1_0_S1, q1_0_X⟩ := hq
      refine W_seq ?_
      refine W_region rfl ?_
      refine da_op rfl (d_mv (v := .int .i64 m1) q1_0_S1 ?_)
      refine da_op rfl (d_as (v := .int .i64 m1) rfl ?_)
      refine da_nil ?_
      refine W_ret ?_
      obtain rfl := Option.some.inj hr
      refine ⟨_, res1 (rv_tmp rfl), ?_⟩
      exact ⟨rfl, q1_0_X⟩
    · skip
      obtain ⟨rfl, q1_1_S4, q1_1_X⟩ := hq
      obtain rfl := Option.some.inj hr
      refine ⟨_, res1 (rv_tmp q1_1_S4), ?_⟩
      exact ⟨rfl, q1_1_X⟩
set_option maxHeartbeats 4000000 in
theorem c81 (p0 : List Nat) (p1 : Int) (p0a : Option Addr) (p0n : Nat) (p0c : Nat) (r : Int) (w : World) (hr : M.laws_heldFloat32S p0 p1 = some r) (p0R : RS w encF_f32 (Value.slice p0a p0n p0c) p0) :
    Calls Try.prog 81 #[(Value.slice p0a p0n p0c), .int .i64 p1] w fun e w' => e = .returned (.int .i64 r) ∧ Ext w w' := by
  refine calls_of_W Try.func81 rfl (Nat.le_of_ble_eq_true rfl) ?_
  refine W_seq ?_
  refine W_region rfl ?_
  refine da_op rfl (d_as (v := .int .i64 0) rfl ?_)
  refine da_nil ?_
  refine W_seq ?_
  refine W_seq ?_
  refine W_region rfl ?_
  refine da_op rfl (d_as (v := .int .i64 0) rfl ?_)
  refine da_nil ?_
  refine W_block ?_
  obtain ⟨m1, hm1, hr⟩ := bind_out hr
  refine W_loopM hm1 (fun (s1 : Int × Int) σ w' => σ 1 = .int .i64 s1.1 ∧ σ 5 = .int .i64 s1.2 ∧ σ 0 = (Value.slice p0a p0n p0c) ∧ Ext w w') (fun (e1 : (Int ⊕ Int)) ex σ w' => sel e1 (fun e1 => ex = .exit 0 ∧ σ 1 = .int .i64 e1 ∧ Ext w w') (fun e1 => ex = .ret ∧ σ 4 = .int .i64 e1 ∧ Ext w w')) ⟨rfl, rfl, rfl, (Ext.refl w)⟩ ?_ ?_
  · skip
    rintro s1 σl1 wl1 r1l ⟨i1_S1, i1_S5, i1_S0, i1_X⟩ hr
    refine W_seq ?_
    refine W_seq ?_
    refine W_region rfl ?_
    refine da_op rfl (d_mv (v := .int .i64 s1.2) i1_S5 ?_)
    refine da_op rfl (d_mv (v := (Value.slice p0a p0n p0c)) i1_S0 ?_)
    have B2 : RS wl1 encF_f32 (Value.slice p0a p0n p0c) p0 := p0R.ext i1_X
    refine da_op rfl (d_len (e := encF_f32) un48 rfl B2 ?_)
    refine da_op rfl (d_icmp cLss rfl rfl ?_)
    refine da_nil ?_
    refine W_cond (b := (icmp .lss s1.2 ((p0).length : Int))) rfl (fun hc3 => ?_) (fun hc3 => ?_)
    · skip
      replace hr := bif_t hr hc3
      refine W_skip ?_
      refine W_seq ?_
      refine W_block ?_
      refine W_seq ?_
      refine W_seq ?_
      refine W_region rfl ?_
      refine da_op rfl (d_mv (v := (Value.slice p0a p0n p0c)) i1_S0 ?_)
      refine da_op rfl (d_mv (v := .int .i64 s1.2) i1_S5 ?_)
      obtain ⟨m4, hm4, hr⟩ := bind_out hr
      refine da_op rfl (d_index (e := encF_f32) (v := (Value.slice p0a p0n p0c)) un48 size22 rfl rfl B2 hm4 fun g5 o5 cu5 T5 fr5 vs5 hv5 hg5 hp5 hq5 => ?_)
      obtain ⟨e5_r0, rfl, e5_h0⟩ := dec_encF_f32 hq5
      refine da_op rfl (d_load (v := .float .f32 e5_r0) rfl agg22 hg5 (sub_get (vs := #[.float .f32 e5_r0]) hp5 (i := 0) rfl) ?_)
      refine da_op rfl (d_mv (v := .int .i64 s1.1) i1_S1 ?_)
      refine da_op rfl (d_ofInt un3 un22 rfl ?_)
      refine da_op rfl (d_fcmp (k := .f32) cNeq rfl rfl e5_h0 (cn_fint _ _) ?_)
      refine da_nil ?_
      refine W_cond (b := (fcmp .neq .f32 m4 (fint .f32 s1.1))) rfl (fun hc6 => ?_) (fun hc6 => ?_)
      · skip
        replace hr := bif_t hr hc6
        refine W_seq ?_
        refine W_region rfl ?_
        refine da_op rfl (d_as (v := .int .i64 (-1)) rfl ?_)
        refine da_nil ?_
        refine W_ret ?_
        obtain rfl := Option.some.inj hr
        exact ⟨_, rfl, rfl, rfl, i1_X⟩
      · skip
        replace hr := bif_f hr hc6
        refine W_skip ?_
        refine W_region rfl ?_
        refine da_op rfl (d_mv (v := .int .i64 s1.1) i1_S1 ?_)
        refine da_op rfl (d_iarith rfl rfl (.inl ⟨rfl, rfl⟩) ?_)
        refine da_op rfl (d_as (v := .int .i64 (IntKind.i64.wrap (s1.1 + 1))) rfl ?_)
        refine da_nil ?_
        refine W_region rfl ?_
        refine da_op rfl (d_mv (v := .int .i64 s1.2) i1_S5 ?_)
        refine da_op rfl (d_iarith rfl rfl (.inl ⟨rfl, rfl⟩) ?_)
        refine da_op rfl (d_as (v := .int .i64 (IntKind.i64.wrap (s1.2 + 1))) rfl ?_)
        refine da_nil ?_
        obtain rfl := Option.some.inj hr
        exact ⟨_, rfl, ⟨rfl, rfl, i1_S0, i1_X⟩⟩
    · skip
      replace hr := bif_f hr hc3
      refine W_exit ?_
      obtain rfl := Option.some.inj hr
      exact ⟨_, rfl, rfl, i1_S1, i1_X⟩
  · skip
    intro ex σx1 wx1 hq
    rcases m1 with m1 | m1
    · skip
      obtain ⟨rfl, q1_0_S1, q1_0_X⟩ := hq
      refine W_seq ?_
      refine W_region rfl ?_
      refine da_op rfl (d_mv (v := .int .i64 m1) q1_0_S1 ?_)
      refine da_op rfl (d_as (v := .int .i64 m1) rfl ?_)
      refine da_nil ?_
      refine W_ret ?_
      obtain rfl := Option.some.inj hr
      refine ⟨_, res1 (rv_tmp rfl), ?_⟩
      exact ⟨rfl, q1_0_X⟩
    · skip
      obtain ⟨rfl, q1_1_S4, q1_1_X⟩ := hq
      obtain rfl := Option.some.inj hr
      refine ⟨_, res1 (rv_tmp q1_1_S4), ?_⟩
      exact ⟨rfl, q1_1_X⟩
set_option maxHeartbeats 4000000 in
theorem c82 (p0 : List SRod) (p1 : Int) (p0a : Option Addr) (p0n : Nat) (p0c : Nat) (r : Int) (w : World) (hr : M.laws_heldRodS p0 p1 = some r) (p0R : RS w encSRod (Value.slice p0a p0n p0c) p0) :
    Calls Try.prog 82 #[(Value.slice p0a p0n p0c), .int .i64 p1] w fun e w' => e = .returned (.int .i64 r) ∧ Ext w w' := by
  refine calls_of_W Try.func82 rfl (Nat.le_of_ble_eq_true rfl) ?_
  refine W_seq ?_
  refine W_region rfl ?_
  refine da_op rfl (d_as (v := .int .i64 0) rfl ?_)
  refine da_nil ?_
  refine W_seq ?_
  refine W_seq ?_
  refine W_region rfl ?_
  refine da_op rfl (d_as (v := .int .i64 0) rfl ?_)
  refine da_nil ?_
  refine W_block ?_
  obtain ⟨m1, hm1, hr⟩ := bind_out hr
  refine W_loopM hm1 (fun (s1 : Int × Int) σ w' => σ 1 = .int .i64 s1.1 ∧ σ 5 = .int .i64 s1.2 ∧ σ 0 = (Value.slice p0a p0n p0c) ∧ Ext w w') (fun (e1 : (Int ⊕ Int)) ex σ w' => sel e1 (fun e1 => ex = .exit 0 ∧ σ 1 = .int .i64 e1 ∧ Ext w w') (fun e1 => ex = .ret ∧ σ 4 = .int .i64 e1 ∧ Ext w w')) ⟨rfl, rfl, rfl, (Ext.refl w)⟩ ?_ ?_
  · skip
    rintro s1 σl1 wl1 r1l ⟨i1_S1, i1_S5, i1_S0, i1_X⟩ hr
    refine W_seq ?_
    refine W_seq ?_
    refine W_region rfl ?_
    refine da_op rfl (d_mv (v := .int .i64 s1.2) i1_S5 ?_)
    refine da_op rfl (d_mv (v := (Value.slice p0a p0n p0c)) i1_S0 ?_)
    have B2 : RS wl1 encSRod (Value.slice p0a p0n p0c) p0 := p0R.ext i1_X
    refine da_op rfl (d_len (e := encSRod) un49 rfl B2 ?_)
    refine da_op rfl (d_icmp cLss rfl rfl ?_)
    refine da_nil ?_
    refine W_cond (b := (icmp .lss s1.2 ((p0).length : Int))) rfl (fun hc3 => ?_) (fun hc3 => ?_)
    · skip
      replace hr := bif_t hr hc3
      refine W_skip ?_
      refine W_seq ?_
      refine W_block ?_
      refine W_seq ?_
      refine W_seq ?_
      refine W_region rfl ?_
      refine da_op rfl (d_mv (v := (Value.slice p0a p0n p0c)) i1_S0 ?_)
      refine da_op rfl (d_mv (v := .int .i64 s1.2) i1_S5 ?_)
      obtain ⟨m4, hm4, hr⟩ := bind_out hr
      refine da_op rfl (d_index (e := encSRod) (v := (Value.slice p0a p0n p0c)) un49 size104 rfl rfl B2 hm4 fun g5 o5 cu5 T5 fr5 vs5 hv5 hg5 hp5 hq5 => ?_)
      obtain ⟨e5_r2, rfl, e5_h2⟩ := dec_encSRod hq5
      refine da_op rfl (d_fieldAddr rfl (fa104_0 _ _) ?_)
      refine da_op rfl (d_load (v := .int .i64 m4.a) rfl agg2 hg5 (sub_get (vs := #[.int .i64 m4.a, .int .i64 m4.b, .float .f32 e5_r2]) hp5 (i := 0) rfl) ?_)
      refine da_op rfl (d_mv (v := .int .i64 s1.1) i1_S1 ?_)
      refine da_op rfl (d_icmp cNeq rfl rfl ?_)
      refine da_nil ?_
      refine W_cond (b := (icmp .neq m4.a s1.1)) rfl (fun hc6 => ?_) (fun hc6 => ?_)
      · skip
        replace hr := bif_t hr hc6
        refine W_seq ?_
        refine W_region rfl ?_
        refine da_op rfl (d_as (v := .int .i64 (-1)) rfl ?_)
        refine da_nil ?_
        refine W_ret ?_
        obtain rfl := Option.some.inj hr
        exact ⟨_, rfl, rfl, rfl, i1_X⟩
      · skip
        replace hr := bif_f hr hc6
        refine W_skip ?_
        refine W_seq ?_
        refine W_region rfl ?_
        refine da_op rfl (d_mv (v := .int .i64 s1.1) i1_S1 ?_)
        refine da_op rfl (d_iarith rfl rfl (.inl ⟨rfl, rfl⟩) ?_)
        refine da_op rfl (d_as (v := .int .i64 (IntKind.i64.wrap (s1.1 + 1))) rfl ?_)
        refine da_nil ?_
        refine W_seq ?_
        refine W_seq ?_
        refine W_region rfl ?_
        refine da_op rfl (d_mv (v := (Value.slice p0a p0n p0c)) i1_S0 ?_)
        refine da_op rfl (d_mv (v := .int .i64 s1.2) i1_S5 ?_)
        obtain ⟨m7, hm7, hr⟩ := bind_out hr
        refine da_op rfl (d_index (e := encSRod) (v := (Value.slice p0a p0n p0c)) un49 size104 rfl rfl B2 hm7 fun g8 o8 cu8 T8 fr8 vs8 hv8 hg8 hp8 hq8 => ?_)
        obtain ⟨e8_r2, rfl, e8_h2⟩ := dec_encSRod hq8
        refine da_op rfl (d_fieldAddr rfl (fa104_1 _ _) ?_)
        refine da_op rfl (d_load (v := .int .i64 m7.b) rfl agg2 hg8 (sub_get (vs := #[.int .i64 m7.a, .int .i64 m7.b, .float .f32 e8_r2]) hp8 (i := 1) rfl) ?_)
        refine da_op rfl (d_mv (v := .int .i64 (IntKind.i64.wrap (s1.1 + 1))) rfl ?_)
        refine da_op rfl (d_icmp cNeq rfl rfl ?_)
        refine da_nil ?_
        refine W_cond (b := (icmp .neq m7.b (IntKind.i64.wrap (s1.1 + 1)))) rfl (fun hc9 => ?_) (fun hc9 => ?_)
        · skip
          replace hr := bif_t hr hc9
          refine W_seq ?_
          refine W_region rfl ?_
          refine da_op rfl (d_as (v := .int .i64 (-1)) rfl ?_)
          refine da_nil ?_
          refine W_ret ?_
          obtain rfl := Option.some.inj hr
          exact ⟨_, rfl, rfl, rfl, i1_X⟩
        · skip
          replace hr := bif_f hr hc9
          refine W_skip ?_
          refine W_seq ?_
          refine W_region rfl ?_
          refine da_op rfl (d_mv (v := .int .i64 (IntKind.i64.wrap (s1.1 + 1))) rfl ?_)
          refine da_op rfl (d_iarith rfl rfl (.inl ⟨rfl, rfl⟩) ?_)
          refine da_op rfl (d_as (v := .int .i64 (IntKind.i64.wrap ((IntKind.i64.wrap (s1.1 + 1)) + 1))) rfl ?_)
          refine da_nil ?_
          refine W_seq ?_
          refine W_seq ?_
          refine W_region rfl ?_
          refine da_op rfl (d_mv (v := (Value.slice p0a p0n p0c)) i1_S0 ?_)
          refine da_op rfl (d_mv (v := .int .i64 s1.2) i1_S5 ?_)
          obtain ⟨m10, hm10, hr⟩ := bind_out hr
          refine da_op rfl (d_index (e := encSRod) (v := (Value.slice p0a p0n p0c)) un49 size104 rfl rfl B2 hm10 fun g11 o11 cu11 T11 fr11 vs11 hv11 hg11 hp11 hq11 => ?_)
          obtain ⟨e11_r2, rfl, e11_h2⟩ := dec_encSRod hq11
          refine da_op rfl (d_fieldAddr rfl (fa104_2 _ _) ?_)
          refine da_op rfl (d_load (v := .float .f32 e11_r2) rfl agg22 hg11 (sub_get (vs := #[.int .i64 m10.a, .int .i64 m10.b, .float .f32 e11_r2]) hp11 (i := 2) rfl) ?_)
          refine da_op rfl (d_mv (v := .int .i64 (IntKind.i64.wrap ((IntKind.i64.wrap (s1.1 + 1)) + 1))) rfl ?_)
          refine da_op rfl (d_ofInt un3 un22 rfl ?_)
          refine da_op rfl (d_fcmp (k := .f32) cNeq rfl rfl e11_h2 (cn_fint _ _) ?_)
          refine da_nil ?_
          refine W_cond (b := (fcmp .neq .f32 m10.long (fint .f32 (IntKind.i64.wrap ((IntKind.i64.wrap (s1.1 + 1)) + 1))))) rfl (fun hc12 => ?_) (fun hc12 => ?_)
          · skip
            replace hr := bif_t hr hc12
            refine W_seq ?_
            refine W_region rfl ?_
            refine da_op rfl (d_as (v := .int .i64 (-1)) rfl ?_)
            refine da_nil ?_
            refine W_ret ?_
            obtain rfl := Option.some.inj hr
            exact ⟨_, rfl, rfl, rfl, i1_X⟩
          · skip
            replace hr := bif_f hr hc12
            refine W_skip ?_
            refine W_region rfl ?_
            refine da_op rfl (d_mv (v := .int .i64 (IntKind.i64.wrap ((IntKind.i64.wrap (s1.1 + 1)) + 1))) rfl ?_)
            refine da_op rfl (d_iarith rfl rfl (.inl ⟨rfl, rfl⟩) ?_)
            refine da_op rfl (d_as (v := .int .i64 (IntKind.i64.wrap ((IntKind.i64.wrap ((IntKind.i64.wrap (s1.1 + 1)) + 1)) + 1))) rfl ?_)
            refine da_nil ?_
            refine W_region rfl ?_
            refine da_op rfl (d_mv (v := .int .i64 s1.2) i1_S5 ?_)
            refine da_op rfl (d_iarith rfl rfl (.inl ⟨rfl, rfl⟩) ?_)
            refine da_op rfl (d_as (v := .int .i64 (IntKind.i64.wrap (s1.2 + 1))) rfl ?_)
            refine da_nil ?_
            obtain rfl := Option.some.inj hr
            exact ⟨_, rfl, ⟨rfl, rfl, i1_S0, i1_X⟩⟩
    · skip
      replace hr := bif_f hr hc3
      refine W_exit ?_
      obtain rfl := Option.some.inj hr
      exact ⟨_, rfl, rfl, i1_S1, i1_X⟩
  · skip
    intro ex σx1 wx1 hq
    rcases m1 with m1 | m1
    · skip
      obtain ⟨rfl, q1_0_S1, q1_0_X⟩ := hq
      refine W_seq ?_
      refine W_region rfl ?_
      refine da_op rfl (d_mv (v := .int .i64 m1) q1_0_S1 ?_)
      refine da_op rfl (d_as (v := .int .i64 m1) rfl ?_)
      refine da_nil ?_
      refine W_ret ?_
      obtain rfl := Option.some.inj hr
      refine ⟨_, res1 (rv_tmp rfl), ?_⟩
      exact ⟨rfl, q1_0_X⟩
    · skip
      obtain ⟨rfl, q1_1_S4, q1_1_X⟩ := hq
      obtain rfl := Option.some.inj hr
      refine ⟨_, res1 (rv_tmp q1_1_S4), ?_⟩
      exact ⟨rfl, q1_1_X⟩
set_option maxHeartbeats 4000000 in
theorem c45 (p0 : SChain) (p1 : Int) (p0v0a : Option Addr) (p0v0n : Nat) (p0v0c : Nat) (p0v1a : Option Addr) (p0v1n : Nat) (p0v1c : Nat) (p0v2a : Option Addr) (p0v2n : Nat) (p0v2c : Nat) (p0v3a : Option Addr) (p0v3n : Nat) (p0v3c : Nat) (r : Int) (w : World) (hr : M.laws_heldChain p0 p1 = some r) (p0v0R : RS w encSVector (Value.slice p0v0a p0v0n p0v0c) p0.places) (p0v1R : RS w encSVector (Value.slice p0v1a p0v1n p0v1c) p0.before) (p0v2R : RS w encF_f32 (Value.slice p0v2a p0v2n p0v2c) p0.weights) (p0v3R : RS w encSRod (Value.slice p0v3a p0v3n p0v3c) p0.rods) :
    Calls Try.prog 45 #[.agg #[(Value.slice p0v0a p0v0n p0v0c), (Value.slice p0v1a p0v1n p0v1c), (Value.slice p0v2a p0v2n p0v2c), (Value.slice p0v3a p0v3n p0v3c)], .int .i64 p1] w fun e w' => e = .returned (.int .i64 r) ∧ Ext w w' := by
  refine calls_of_W Try.func45 rfl (Nat.le_of_ble_eq_true rfl) ?_
  refine W_seq ?_
  refine W_region rfl ?_
  refine da_op rfl (d_box (cs := #[(Value.slice p0v0a p0v0n p0v0c), (Value.slice p0v1a p0v1n p0v1c), (Value.slice p0v2a p0v2n p0v2c), (Value.slice p0v3a p0v3n p0v3c)]) rfl fun w1 B1 E1 => ?_)
  have own2 : w.heap.size ≤ w.heap.size := Nat.le_trans (Ext.refl w).size (Nat.le_refl _)
  have X3 : Ext w w1 := (Ext.refl w).trans E1
  refine da_op rfl (d_as (v := .int .i64 0) rfl ?_)
  refine da_nil ?_
  refine W_seq ?_
  refine W_region rfl ?_
  refine da_op rfl (d_fieldAddr rfl (fa51_0 _ _) ?_)
  refine da_op rfl (d_load (v := (Value.slice p0v0a p0v0n p0v0c)) rfl agg33 B1 rfl ?_)
  refine da_op rfl (d_mv (v := .int .i64 p1) rfl ?_)
  obtain ⟨m4, hm4, hr⟩ := bind_out hr
  have B5 : RS w1 encSVector (Value.slice p0v0a p0v0n p0v0c) p0.places := p0v0R.ext X3
  refine da_op rfl (d_cl (vs := [(Value.slice p0v0a p0v0n p0v0c), .int .i64 p1]) en13 (ac rfl (ac rfl rfl)) rfl ?_)
  refine (c13 p0.places p1 p0v0a p0v0n p0v0c m4 w1 hm4 B5).mono ?_
  rintro _ w6 ⟨rfl, E6⟩
  refine ⟨_, rfl, ?_⟩
  have X7 : Ext w w6 := X3.trans E6
  refine da_op rfl (d_as (v := .int .i64 m4) rfl ?_)
  refine da_nil ?_
  refine W_seq ?_
  refine W_seq ?_
  refine W_region rfl ?_
  refine da_op rfl (d_mv (v := .int .i64 m4) rfl ?_)
  refine da_op rfl (d_icmp cLss rfl rfl ?_)
  refine da_nil ?_
  refine W_cond (b := (icmp .lss m4 0)) rfl (fun hc8 => ?_) (fun hc8 => ?_)
  · skip
    replace hr := bif_t hr hc8
    refine W_seq ?_
    refine W_region rfl ?_
    refine da_op rfl (d_as (v := .int .i64 (-1)) rfl ?_)
    refine da_nil ?_
    refine W_ret ?_
    obtain rfl := Option.some.inj hr
    refine ⟨_, res1 (rv_tmp rfl), ?_⟩
    exact ⟨rfl, X7⟩
  · skip
    replace hr := bif_f hr hc8
    refine W_skip ?_
    refine W_seq ?_
    refine W_region rfl ?_
    refine da_op rfl (d_fieldAddr rfl (fa51_1 _ _) ?_)
    have B9 : w6.heap[w.heap.size]? = some (.cells #[(Value.slice p0v0a p0v0n p0v0c), (Value.slice p0v1a p0v1n p0v1c), (Value.slice p0v2a p0v2n p0v2c), (Value.slice p0v3a p0v3n p0v3c)] 51 (0, 0)) := E6.heap B1
    refine da_op rfl (d_load (v := (Value.slice p0v1a p0v1n p0v1c)) rfl agg33 B9 rfl ?_)
    refine da_op rfl (d_mv (v := .int .i64 m4) rfl ?_)
    obtain ⟨m10, hm10, hr⟩ := bind_out hr
    have B11 : RS w6 encSVector (Value.slice p0v1a p0v1n p0v1c) p0.before := p0v1R.ext X7
    refine da_op rfl (d_cl (vs := [(Value.slice p0v1a p0v1n p0v1c), .int .i64 m4]) en13 (ac rfl (ac rfl rfl)) rfl ?_)
    refine (c13 p0.before m4 p0v1a p0v1n p0v1c m10 w6 hm10 B11).mono ?_
    rintro _ w12 ⟨rfl, E12⟩
    refine ⟨_, rfl, ?_⟩
    have X13 : Ext w w12 := X7.trans E12
    refine da_op rfl (d_as (v := .int .i64 m10) rfl ?_)
    refine da_nil ?_
    refine W_seq ?_
    refine W_seq ?_
    refine W_region rfl ?_
    refine da_op rfl (d_mv (v := .int .i64 m10) rfl ?_)
    refine da_op rfl (d_icmp cLss rfl rfl ?_)
    refine da_nil ?_
    refine W_cond (b := (icmp .lss m10 0)) rfl (fun hc14 => ?_) (fun hc14 => ?_)
    · skip
      replace hr := bif_t hr hc14
      refine W_seq ?_
      refine W_region rfl ?_
      refine da_op rfl (d_as (v := .int .i64 (-1)) rfl ?_)
      refine da_nil ?_
      refine W_ret ?_
      obtain rfl := Option.some.inj hr
      refine ⟨_, res1 (rv_tmp rfl), ?_⟩
      exact ⟨rfl, X13⟩
    · skip
      replace hr := bif_f hr hc14
      refine W_skip ?_
      refine W_seq ?_
      refine W_region rfl ?_
      refine da_op rfl (d_fieldAddr rfl (fa51_2 _ _) ?_)
      have B15 : w12.heap[w.heap.size]? = some (.cells #[(Value.slice p0v0a p0v0n p0v0c), (Value.slice p0v1a p0v1n p0v1c), (Value.slice p0v2a p0v2n p0v2c), (Value.slice p0v3a p0v3n p0v3c)] 51 (0, 0)) := E12.heap B9
      refine da_op rfl (d_load (v := (Value.slice p0v2a p0v2n p0v2c)) rfl agg48 B15 rfl ?_)
      refine da_op rfl (d_mv (v := .int .i64 m10) rfl ?_)
      obtain ⟨m16, hm16, hr⟩ := bind_out hr
      have B17 : RS w12 encF_f32 (Value.slice p0v2a p0v2n p0v2c) p0.weights := p0v2R.ext X13
      refine da_op rfl (d_cl (vs := [(Value.slice p0v2a p0v2n p0v2c), .int .i64 m10]) en81 (ac rfl (ac rfl rfl)) rfl ?_)
      refine (c81 p0.weights m10 p0v2a p0v2n p0v2c m16 w12 hm16 B17).mono ?_
      rintro _ w18 ⟨rfl, E18⟩
      refine ⟨_, rfl, ?_⟩
      have X19 : Ext w w18 := X13.trans E18
      refine da_op rfl (d_as (v := .int .i64 m16) rfl ?_)
      refine da_nil ?_
      refine W_seq ?_
      refine W_seq ?_
      refine W_region rfl ?_
      refine da_op rfl (d_mv (v := .int .i64 m16) rfl ?_)
      refine da_op rfl (d_icmp cLss rfl rfl ?_)
      refine da_nil ?_
      refine W_cond (b := (icmp .lss m16 0)) rfl (fun hc20 => ?_) (fun hc20 => ?_)
      · skip
        replace hr := bif_t hr hc20
        refine W_seq ?_
        refine W_region rfl ?_
        refine da_op rfl (d_as (v := .int .i64 (-1)) rfl ?_)
        refine da_nil ?_
        refine W_ret ?_
        obtain rfl := Option.some.inj hr
        refine ⟨_, res1 (rv_tmp rfl), ?_⟩
        exact ⟨rfl, X19⟩
      · skip
        replace hr := bif_f hr hc20
        refine W_skip ?_
        refine W_seq ?_
        refine W_region rfl ?_
        refine da_op rfl (d_fieldAddr rfl (fa51_3 _ _) ?_)
        have B21 : w18.heap[w.heap.size]? = some (.cells #[(Value.slice p0v0a p0v0n p0v0c), (Value.slice p0v1a p0v1n p0v1c), (Value.slice p0v2a p0v2n p0v2c), (Value.slice p0v3a p0v3n p0v3c)] 51 (0, 0)) := E18.heap B15
        refine da_op rfl (d_load (v := (Value.slice p0v3a p0v3n p0v3c)) rfl agg49 B21 rfl ?_)
        refine da_op rfl (d_mv (v := .int .i64 m16) rfl ?_)
        obtain ⟨m22, hm22, hr⟩ := bind_out hr
        have B23 : RS w18 encSRod (Value.slice p0v3a p0v3n p0v3c) p0.rods := p0v3R.ext X19
        refine da_op rfl (d_cl (vs := [(Value.slice p0v3a p0v3n p0v3c), .int .i64 m16]) en82 (ac rfl (ac rfl rfl)) rfl ?_)
        refine (c82 p0.rods m16 p0v3a p0v3n p0v3c m22 w18 hm22 B23).mono ?_
        rintro _ w24 ⟨rfl, E24⟩
        refine ⟨_, rfl, ?_⟩
        have X25 : Ext w w24 := X19.trans E24
        refine da_op rfl (d_as (v := .int .i64 m22) rfl ?_)
        refine da_nil ?_
        refine W_seq ?_
        refine W_seq ?_
        refine W_region rfl ?_
        refine da_op rfl (d_mv (v := .int .i64 m22) rfl ?_)
        refine da_op rfl (d_icmp cLss rfl rfl ?_)
        refine da_nil ?_
        refine W_cond (b := (icmp .lss m22 0)) rfl (fun hc26 => ?_) (fun hc26 => ?_)
        · skip
          replace hr := bif_t hr hc26
          refine W_seq ?_
          refine W_region rfl ?_
          refine da_op rfl (d_as (v := .int .i64 (-1)) rfl ?_)
          refine da_nil ?_
          refine W_ret ?_
          obtain rfl := Option.some.inj hr
          refine ⟨_, res1 (rv_tmp rfl), ?_⟩
          exact ⟨rfl, X25⟩
        · skip
          replace hr := bif_f hr hc26
          refine W_skip ?_
          refine W_seq ?_
          refine W_region rfl ?_
          refine da_op rfl (d_mv (v := .int .i64 m22) rfl ?_)
          refine da_op rfl (d_as (v := .int .i64 m22) rfl ?_)
          refine da_nil ?_
          refine W_ret ?_
          obtain rfl := Option.some.inj hr
          refine ⟨_, res1 (rv_tmp rfl), ?_⟩
          exact ⟨rfl, X25⟩
set_option maxHeartbeats 4000000 in
theorem c83 (p0 : List SClock) (p1 : Int) (p0a : Option Addr) (p0n : Nat) (p0c : Nat) (r : Int) (w : World) (hr : M.laws_heldClockS p0 p1 = some r) (p0R : RS w encSClock (Value.slice p0a p0n p0c) p0) :
    Calls Try.prog 83 #[(Value.slice p0a p0n p0c), .int .i64 p1] w fun e w' => e = .returned (.int .i64 r) ∧ Ext w w' := by
  refine calls_of_W Try.func83 rfl (Nat.le_of_ble_eq_true rfl) ?_
  refine W_seq ?_
  refine W_region rfl ?_
  refine da_op rfl (d_as (v := .int .i64 0) rfl ?_)
  refine da_nil ?_
  refine W_seq ?_
  refine W_seq ?_
  refine W_region rfl ?_
  refine da_op rfl (d_as (v := .int .i64 0) rfl ?_)
  refine da_nil ?_
  refine W_block ?_
  obtain ⟨m1, hm1, hr⟩ := bind_out hr
  refine W_loopM hm1 (fun (s1 : Int × Int) σ w' => σ 1 = .int .i64 s1.1 ∧ σ 5 = .int .i64 s1.2 ∧ σ 0 = (Value.slice p0a p0n p0c) ∧ Ext w w') (fun (e1 : (Int ⊕ Int)) ex σ w' => sel e1 (fun e1 => ex = .exit 0 ∧ σ 1 = .int .i64 e1 ∧ Ext w w') (fun e1 => ex = .ret ∧ σ 4 = .int .i64 e1 ∧ Ext w w')) ⟨rfl, rfl, rfl, (Ext.refl w)⟩ ?_ ?_
  · skip
    rintro s1 σl1 wl1 r1l ⟨i1_S1, i1_S5, i1_S0, i1_X⟩ hr
    refine W_seq ?_
    refine W_seq ?_
    refine W_region rfl ?_
    refine da_op rfl (d_mv (v := .int .i64 s1.2) i1_S5 ?_)
    refine da_op rfl (d_mv (v := (Value.slice p0a p0n p0c)) i1_S0 ?_)
    have B2 : RS wl1 encSClock (Value.slice p0a p0n p0c) p0 := p0R.ext i1_X
    refine da_op rfl (d_len (e := encSClock) un52 rfl B2 ?_)
    refine da_op rfl (d_icmp cLss rfl rfl ?_)
    refine da_nil ?_
    refine W_cond (b := (icmp .lss s1.2 ((p0).length : Int))) rfl (fun hc3 => ?_) (fun hc3 => ?_)
    · skip
      replace hr := bif_t hr hc3
      refine W_skip ?_
      refine W_seq ?_
      refine W_block ?_
      refine W_seq ?_
      refine W_seq ?_
      refine W_region rfl ?_
      refine da_op rfl (d_mv (v := (Value.slice p0a p0n p0c)) i1_S0 ?_)
      refine da_op rfl (d_mv (v := .int .i64 s1.2) i1_S5 ?_)
      obtain ⟨m4, hm4, hr⟩ := bind_out hr
      refine da_op rfl (d_index (e := encSClock) (v := (Value.slice p0a p0n p0c)) un52 size109 rfl rfl B2 hm4 fun g5 o5 cu5 T5 fr5 vs5 hv5 hg5 hp5 hq5 => ?_)
      obtain ⟨e5_r0, e5_r1, rfl, e5_h0, e5_h1⟩ := dec_encSClock hq5
      refine da_op rfl (d_fieldAddr rfl (fa109_0 _ _) ?_)
      refine da_op rfl (d_load (v := .float .f32 e5_r0) rfl agg22 hg5 (sub_get (vs := #[.float .f32 e5_r0, .float .f32 e5_r1]) hp5 (i := 0) rfl) ?_)
      refine da_op rfl (d_mv (v := .int .i64 s1.1) i1_S1 ?_)
      refine da_op rfl (d_ofInt un3 un22 rfl ?_)
      refine da_op rfl (d_fcmp (k := .f32) cNeq rfl rfl e5_h0 (cn_fint _ _) ?_)
      refine da_nil ?_
      refine W_cond (b := (fcmp .neq .f32 m4.turn (fint .f32 s1.1))) rfl (fun hc6 => ?_) (fun hc6 => ?_)
      · skip
        replace hr := bif_t hr hc6
        refine W_seq ?_
        refine W_region rfl ?_
        refine da_op rfl (d_as (v := .int .i64 (-1)) rfl ?_)
        refine da_nil ?_
        refine W_ret ?_
        obtain rfl := Option.some.inj hr
        exact ⟨_, rfl, rfl, rfl, i1_X⟩
      · skip
        replace hr := bif_f hr hc6
        refine W_skip ?_
        refine W_seq ?_
        refine W_region rfl ?_
        refine da_op rfl (d_mv (v := .int .i64 s1.1) i1_S1 ?_)
        refine da_op rfl (d_iarith rfl rfl (.inl ⟨rfl, rfl⟩) ?_)
        refine da_op rfl (d_as (v := .int .i64 (IntKind.i64.wrap (s1.1 + 1))) rfl ?_)
        refine da_nil ?_
        refine W_seq ?_
        refine W_seq ?_
        refine W_region rfl ?_
        refine da_op rfl (d_mv (v := (Value.slice p0a p0n p0c)) i1_S0 ?_)
        refine da_op rfl (d_mv (v := .int .i64 s1.2) i1_S5 ?_)
        obtain ⟨m7, hm7, hr⟩ := bind_out hr
        refine da_op rfl (d_index (e := encSClock) (v := (Value.slice p0a p0n p0c)) un52 size109 rfl rfl B2 hm7 fun g8 o8 cu8 T8 fr8 vs8 hv8 hg8 hp8 hq8 => ?_)
        obtain ⟨e8_r0, e8_r1, rfl, e8_h0, e8_h1⟩ := dec_encSClock hq8
        refine da_op rfl (d_fieldAddr rfl (fa109_1 _ _) ?_)
        refine da_op rfl (d_load (v := .float .f32 e8_r1) rfl agg22 hg8 (sub_get (vs := #[.float .f32 e8_r0, .float .f32 e8_r1]) hp8 (i := 1) rfl) ?_)
        refine da_op rfl (d_mv (v := .int .i64 (IntKind.i64.wrap (s1.1 + 1))) rfl ?_)
        refine da_op rfl (d_ofInt un3 un22 rfl ?_)
        refine da_op rfl (d_fcmp (k := .f32) cNeq rfl rfl e8_h1 (cn_fint _ _) ?_)
        refine da_nil ?_
        refine W_cond (b := (fcmp .neq .f32 m7.rate (fint .f32 (IntKind.i64.wrap (s1.1 + 1))))) rfl (fun hc9 => ?_) (fun hc9 => ?_)
        · skip
          replace hr := bif_t hr hc9
          refine W_seq ?_
          refine W_region rfl ?_
          refine da_op rfl (d_as (v := .int .i64 (-1)) rfl ?_)
          refine da_nil ?_
          refine W_ret ?_
          obtain rfl := Option.some.inj hr
          exact ⟨_, rfl, rfl, rfl, i1_X⟩
        · skip
          replace hr := bif_f hr hc9
          refine W_skip ?_
          refine W_region rfl ?_
          refine da_op rfl (d_mv (v := .int .i64 (IntKind.i64.wrap (s1.1 + 1))) rfl ?_)
          refine da_op rfl (d_iarith rfl rfl (.inl ⟨rfl, rfl⟩) ?_)
          refine da_op rfl (d_as (v := .int .i64 (IntKind.i64.wrap ((IntKind.i64.wrap (s1.1 + 1)) + 1))) rfl ?_)
          refine da_nil ?_
          refine W_region rfl ?_
          refine da_op rfl (d_mv (v := .int .i64 s1.2) i1_S5 ?_)
          refine da_op rfl (d_iarith rfl rfl (.inl ⟨rfl, rfl⟩) ?_)
          refine da_op rfl (d_as (v := .int .i64 (IntKind.i64.wrap (s1.2 + 1))) rfl ?_)
          refine da_nil ?_
          obtain rfl := Option.some.inj hr
          exact ⟨_, rfl, ⟨rfl, rfl, i1_S0, i1_X⟩⟩
    · skip
      replace hr := bif_f hr hc3
      refine W_exit ?_
      obtain rfl := Option.some.inj hr
      exact ⟨_, rfl, rfl, i1_S1, i1_X⟩
  · skip
    intro ex σx1 wx1 hq
    rcases m1 with m1 | m1
    · skip
      obtain ⟨rfl, q1_0_S1, q1_0_X⟩ := hq
      refine W_seq ?_
      refine W_region rfl ?_
      refine da_op rfl (d_mv (v := .int .i64 m1) q1_0_S1 ?_)
      refine da_op rfl (d_as (v := .int .i64 m1) rfl ?_)
      refine da_nil ?_
      refine W_ret ?_
      obtain rfl := Option.some.inj hr
      refine ⟨_, res1 (rv_tmp rfl), ?_⟩
      exact ⟨rfl, q1_0_X⟩
    · skip
      obtain ⟨rfl, q1_1_S4, q1_1_X⟩ := hq
      obtain rfl := Option.some.inj hr
      refine ⟨_, res1 (rv_tmp q1_1_S4), ?_⟩
      exact ⟨rfl, q1_1_X⟩
set_option maxHeartbeats 4000000 in
theorem c46 (p0 : SClocks) (p1 : Int) (p0v0a : Option Addr) (p0v0n : Nat) (p0v0c : Nat) (p0v1a : Option Addr) (p0v1n : Nat) (p0v1c : Nat) (r : Int) (w : World) (hr : M.laws_heldClocks p0 p1 = some r) (p0v0R : RS w encSClock (Value.slice p0v0a p0v0n p0v0c) p0.list) (p0v1R : RS w encF_f32 (Value.slice p0v1a p0v1n p0v1c) p0.links) :
    Calls Try.prog 46 #[.agg #[(Value.slice p0v0a p0v0n p0v0c), (Value.slice p0v1a p0v1n p0v1c)], .int .i64 p1] w fun e w' => e = .returned (.int .i64 r) ∧ Ext w w' := by
  refine calls_of_W Try.func46 rfl (Nat.le_of_ble_eq_true rfl) ?_
  refine W_seq ?_
  refine W_region rfl ?_
  refine da_op rfl (d_box (cs := #[(Value.slice p0v0a p0v0n p0v0c), (Value.slice p0v1a p0v1n p0v1c)]) rfl fun w1 B1 E1 => ?_)
  have own2 : w.heap.size ≤ w.heap.size := Nat.le_trans (Ext.refl w).size (Nat.le_refl _)
  have X3 : Ext w w1 := (Ext.refl w).trans E1
  refine da_op rfl (d_as (v := .int .i64 0) rfl ?_)
  refine da_nil ?_
  refine W_seq ?_
  refine W_region rfl ?_
  refine da_op rfl (d_fieldAddr rfl (fa54_0 _ _) ?_)
  refine da_op rfl (d_load (v := (Value.slice p0v0a p0v0n p0v0c)) rfl agg52 B1 rfl ?_)
  refine da_op rfl (d_mv (v := .int .i64 p1) rfl ?_)
  obtain ⟨m4, hm4, hr⟩ := bind_out hr
  have B5 : RS w1 encSClock (Value.slice p0v0a p0v0n p0v0c) p0.list := p0v0R.ext X3
  refine da_op rfl (d_cl (vs := [(Value.slice p0v0a p0v0n p0v0c), .int .i64 p1]) en83 (ac rfl (ac rfl rfl)) rfl ?_)
  refine (c83 p0.list p1 p0v0a p0v0n p0v0c m4 w1 hm4 B5).mono ?_
  rintro _ w6 ⟨rfl, E6⟩
  refine ⟨_, rfl, ?_⟩
  have X7 : Ext w w6 := X3.trans E6
  refine da_op rfl (d_as (v := .int .i64 m4) rfl ?_)
  refine da_nil ?_
  refine W_seq ?_
  refine W_seq ?_
  refine W_region rfl ?_
  refine da_op rfl (d_mv (v := .int .i64 m4) rfl ?_)
  refine da_op rfl (d_icmp cLss rfl rfl ?_)
  refine da_nil ?_
  refine W_cond (b := (icmp .lss m4 0)) rfl (fun hc8 => ?_) (fun hc8 => ?_)
  · skip
    replace hr := bif_t hr hc8
    refine W_seq ?_
    refine W_region rfl ?_
    refine da_op rfl (d_as (v := .int .i64 (-1)) rfl ?_)
    refine da_nil ?_
    refine W_ret ?_
    obtain rfl := Option.some.inj hr
    refine ⟨_, res1 (rv_tmp rfl), ?_⟩
    exact ⟨rfl, X7⟩
  · skip
    replace hr := bif_f hr hc8
    refine W_skip ?_
    refine W_seq ?_
    refine W_region rfl ?_
    refine da_op rfl (d_fieldAddr rfl (fa54_1 _ _) ?_)
    have B9 : w6.heap[w.heap.size]? = some (.cells #[(Value.slice p0v0a p0v0n p0v0c), (Value.slice p0v1a p0v1n p0v1c)] 54 (0, 0)) := E6.heap B1
    refine da_op rfl (d_load (v := (Value.slice p0v1a p0v1n p0v1c)) rfl agg48 B9 rfl ?_)
    refine da_op rfl (d_mv (v := .int .i64 m4) rfl ?_)
    obtain ⟨m10, hm10, hr⟩ := bind_out hr
    have B11 : RS w6 encF_f32 (Value.slice p0v1a p0v1n p0v1c) p0.links := p0v1R.ext X7
    refine da_op rfl (d_cl (vs := [(Value.slice p0v1a p0v1n p0v1c), .int .i64 m4]) en81 (ac rfl (ac rfl rfl)) rfl ?_)
    refine (c81 p0.links m4 p0v1a p0v1n p0v1c m10 w6 hm10 B11).mono ?_
    rintro _ w12 ⟨rfl, E12⟩
    refine ⟨_, rfl, ?_⟩
    have X13 : Ext w w12 := X7.trans E12
    refine da_op rfl (d_as (v := .int .i64 m10) rfl ?_)
    refine da_nil ?_
    refine W_seq ?_
    refine W_seq ?_
    refine W_region rfl ?_
    refine da_op rfl (d_mv (v := .int .i64 m10) rfl ?_)
    refine da_op rfl (d_icmp cLss rfl rfl ?_)
    refine da_nil ?_
    refine W_cond (b := (icmp .lss m10 0)) rfl (fun hc14 => ?_) (fun hc14 => ?_)
    · skip
      replace hr := bif_t hr hc14
      refine W_seq ?_
      refine W_region rfl ?_
      refine da_op rfl (d_as (v := .int .i64 (-1)) rfl ?_)
      refine da_nil ?_
      refine W_ret ?_
      obtain rfl := Option.some.inj hr
      refine ⟨_, res1 (rv_tmp rfl), ?_⟩
      exact ⟨rfl, X13⟩
    · skip
      replace hr := bif_f hr hc14
      refine W_skip ?_
      refine W_seq ?_
      refine W_region rfl ?_
      refine da_op rfl (d_mv (v := .int .i64 m10) rfl ?_)
      refine da_op rfl (d_as (v := .int .i64 m10) rfl ?_)
      refine da_nil ?_
      refine W_ret ?_
      obtain rfl := Option.some.inj hr
      refine ⟨_, res1 (rv_tmp rfl), ?_⟩
      exact ⟨rfl, X13⟩
set_option maxHeartbeats 4000000 in
theorem c20 (p0 : SDesk) (p1 : Int) (p0r0 : Nat) (p0r1 : Nat) (p0r2 : Nat) (p0r3 : Nat) (p0r4 : Nat) (p0r5 : Nat) (p0r6 : Nat) (p0r7 : Nat) (p0v8a : Option Addr) (p0v8n : Nat) (p0v8c : Nat) (p0v9a : Option Addr) (p0v9n : Nat) (p0v9c : Nat) (p0v10a : Option Addr) (p0v10n : Nat) (p0v10c : Nat) (p0v11a : Option Addr) (p0v11n : Nat) (p0v11c : Nat) (p0r12 : Nat) (p0r13 : Nat) (p0r14 : Nat) (p0r15 : Nat) (p0r16 : Nat) (p0r17 : Nat) (p0r18 : Nat) (p0r19 : Nat) (p0r20 : Nat) (p0r21 : Nat) (p0v22a : Option Addr) (p0v22n : Nat) (p0v22c : Nat) (p0v23a : Option Addr) (p0v23n : Nat) (p0v23c : Nat) (r : Int) (w : World) (hr : M.laws_heldDesk p0 p1 = some r) (p0h0 : cn .f32 p0r0 = p0.pendulum.long) (p0h1 : cn .f32 p0r1 = p0.pendulum.pull) (p0h2 : cn .f32 p0r2 = p0.pendulum.drag) (p0h3 : cn .f32 p0r3 = p0.pendulum.drive) (p0h4 : cn .f32 p0r4 = p0.pendulum.rate) (p0h5 : cn .f32 p0r5 = p0.swing.turn) (p0h6 : cn .f32 p0r6 = p0.swing.speed) (p0h7 : cn .f32 p0r7 = p0.swing.time) (p0v8R : RS w encSVector (Value.slice p0v8a p0v8n p0v8c) p0.chain.places) (p0v9R : RS w encSVector (Value.slice p0v9a p0v9n p0v9c) p0.chain.before) (p0v10R : RS w encF_f32 (Value.slice p0v10a p0v10n p0v10c) p0.chain.weights) (p0v11R : RS w encSRod (Value.slice p0v11a p0v11n p0v11c) p0.chain.rods) (p0h12 : cn .f32 p0r12 = p0.top.moments.x) (p0h13 : cn .f32 p0r13 = p0.top.moments.y) (p0h14 : cn .f32 p0r14 = p0.top.moments.z) (p0h15 : cn .f32 p0r15 = p0.top.turn.w) (p0h16 : cn .f32 p0r16 = p0.top.turn.x) (p0h17 : cn .f32 p0r17 = p0.top.turn.y) (p0h18 : cn .f32 p0r18 = p0.top.turn.z) (p0h19 : cn .f32 p0r19 = p0.top.speed.x) (p0h20 : cn .f32 p0r20 = p0.top.speed.y) (p0h21 : cn .f32 p0r21 = p0.top.speed.z) (p0v22R : RS w encSClock (Value.slice p0v22a p0v22n p0v22c) p0.clocks.list) (p0v23R : RS w encF_f32 (Value.slice p0v23a p0v23n p0v23c) p0.clocks.links) :
    Calls Try.prog 20 #[.agg #[.float .f32 p0r0, .float .f32 p0r1, .float .f32 p0r2, .float .f32 p0r3, .float .f32 p0r4, .float .f32 p0r5, .float .f32 p0r6, .float .f32 p0r7, (Value.slice p0v8a p0v8n p0v8c), (Value.slice p0v9a p0v9n p0v9c), (Value.slice p0v10a p0v10n p0v10c), (Value.slice p0v11a p0v11n p0v11c), .float .f32 p0r12, .float .f32 p0r13, .float .f32 p0r14, .float .f32 p0r15, .float .f32 p0r16, .float .f32 p0r17, .float .f32 p0r18, .float .f32 p0r19, .float .f32 p0r20, .float .f32 p0r21, (Value.slice p0v22a p0v22n p0v22c), (Value.slice p0v23a p0v23n p0v23c)], .int .i64 p1] w fun e w' => e = .returned (.int .i64 r) ∧ Ext w w' := by
  refine calls_of_W Try.func20 rfl (Nat.le_of_ble_eq_true rfl) ?_
  refine W_seq ?_
  refine W_region rfl ?_
  refine da_op rfl (d_box (cs := #[.float .f32 p0r0, .float .f32 p0r1, .float .f32 p0r2, .float .f32 p0r3, .float .f32 p0r4, .float .f32 p0r5, .float .f32 p0r6, .float .f32 p0r7, (Value.slice p0v8a p0v8n p0v8c), (Value.slice p0v9a p0v9n p0v9c), (Value.slice p0v10a p0v10n p0v10c), (Value.slice p0v11a p0v11n p0v11c), .float .f32 p0r12, .float .f32 p0r13, .float .f32 p0r14, .float .f32 p0r15, .float .f32 p0r16, .float .f32 p0r17, .float .f32 p0r18, .float .f32 p0r19, .float .f32 p0r20, .float .f32 p0r21, (Value.slice p0v22a p0v22n p0v22c), (Value.slice p0v23a p0v23n p0v23c)]) rfl fun w1 B1 E1 => ?_)
  have own2 : w.heap.size ≤ w.heap.size := Nat.le_trans (Ext.refl w).size (Nat.le_refl _)
  have X3 : Ext w w1 := (Ext.refl w).trans E1
  refine da_op rfl (d_as (v := .int .i64 0) rfl ?_)
  refine da_nil ?_
  refine W_seq ?_
  refine W_region rfl ?_
  refine da_op rfl (d_fieldAddr rfl (fa56_2 _ _) ?_)
  refine da_op rfl (d_loads (vs := #[(Value.slice p0v8a p0v8n p0v8c), (Value.slice p0v9a p0v9n p0v9c), (Value.slice p0v10a p0v10n p0v10c), (Value.slice p0v11a p0v11n p0v11c)]) rfl agg51 size51 B1 rfl ?_)
  refine da_op rfl (d_mv (v := .int .i64 p1) rfl ?_)
  obtain ⟨m4, hm4, hr⟩ := bind_out hr
  have B5 : RS w1 encSVector (Value.slice p0v8a p0v8n p0v8c) p0.chain.places := p0v8R.ext X3
  have B6 : RS w1 encSVector (Value.slice p0v9a p0v9n p0v9c) p0.chain.before := p0v9R.ext X3
  have B7 : RS w1 encF_f32 (Value.slice p0v10a p0v10n p0v10c) p0.chain.weights := p0v10R.ext X3
  have B8 : RS w1 encSRod (Value.slice p0v11a p0v11n p0v11c) p0.chain.rods := p0v11R.ext X3
  refine da_op rfl (d_cl (vs := [.agg #[(Value.slice p0v8a p0v8n p0v8c), (Value.slice p0v9a p0v9n p0v9c), (Value.slice p0v10a p0v10n p0v10c), (Value.slice p0v11a p0v11n p0v11c)], .int .i64 p1]) en45 (ac rfl (ac rfl rfl)) rfl ?_)
  refine (c45 p0.chain p1 p0v8a p0v8n p0v8c p0v9a p0v9n p0v9c p0v10a p0v10n p0v10c p0v11a p0v11n p0v11c m4 w1 hm4 B5 B6 B7 B8).mono ?_
  rintro _ w9 ⟨rfl, E9⟩
  refine ⟨_, rfl, ?_⟩
  have X10 : Ext w w9 := X3.trans E9
  refine da_op rfl (d_as (v := .int .i64 m4) rfl ?_)
  refine da_nil ?_
  refine W_seq ?_
  refine W_seq ?_
  refine W_region rfl ?_
  refine da_op rfl (d_mv (v := .int .i64 m4) rfl ?_)
  refine da_op rfl (d_icmp cLss rfl rfl ?_)
  refine da_nil ?_
  refine W_cond (b := (icmp .lss m4 0)) rfl (fun hc11 => ?_) (fun hc11 => ?_)
  · skip
    replace hr := bif_t hr hc11
    refine W_seq ?_
    refine W_region rfl ?_
    refine da_op rfl (d_as (v := .int .i64 (-1)) rfl ?_)
    refine da_nil ?_
    refine W_ret ?_
    obtain rfl := Option.some.inj hr
    refine ⟨_, res1 (rv_tmp rfl), ?_⟩
    exact ⟨rfl, X10⟩
  · skip
    replace hr := bif_f hr hc11
    refine W_skip ?_
    refine W_seq ?_
    refine W_region rfl ?_
    refine da_op rfl (d_fieldAddr rfl (fa56_4 _ _) ?_)
    have B12 : w9.heap[w.heap.size]? = some (.cells #[.float .f32 p0r0, .float .f32 p0r1, .float .f32 p0r2, .float .f32 p0r3, .float .f32 p0r4, .float .f32 p0r5, .float .f32 p0r6, .float .f32 p0r7, (Value.slice p0v8a p0v8n p0v8c), (Value.slice p0v9a p0v9n p0v9c), (Value.slice p0v10a p0v10n p0v10c), (Value.slice p0v11a p0v11n p0v11c), .float .f32 p0r12, .float .f32 p0r13, .float .f32 p0r14, .float .f32 p0r15, .float .f32 p0r16, .float .f32 p0r17, .float .f32 p0r18, .float .f32 p0r19, .float .f32 p0r20, .float .f32 p0r21, (Value.slice p0v22a p0v22n p0v22c), (Value.slice p0v23a p0v23n p0v23c)] 56 (0, 0)) := E9.heap B1
    refine da_op rfl (d_loads (vs := #[(Value.slice p0v22a p0v22n p0v22c), (Value.slice p0v23a p0v23n p0v23c)]) rfl agg54 size54 B12 rfl ?_)
    refine da_op rfl (d_mv (v := .int .i64 m4) rfl ?_)
    obtain ⟨m13, hm13, hr⟩ := bind_out hr
    have B14 : RS w9 encSClock (Value.slice p0v22a p0v22n p0v22c) p0.clocks.list := p0v22R.ext X10
    have B15 : RS w9 encF_f32 (Value.slice p0v23a p0v23n p0v23c) p0.clocks.links := p0v23R.ext X10
    refine da_op rfl (d_cl (vs := [.agg #[(Value.slice p0v22a p0v22n p0v22c), (Value.slice p0v23a p0v23n p0v23c)], .int .i64 m4]) en46 (ac rfl (ac rfl rfl)) rfl ?_)
    refine (c46 (⟨p0.clocks.list, p0.clocks.links⟩ : SClocks) m4 p0v22a p0v22n p0v22c p0v23a p0v23n p0v23c m13 w9 hm13 B14 B15).mono ?_
    rintro _ w16 ⟨rfl, E16⟩
    refine ⟨_, rfl, ?_⟩
    have X17 : Ext w w16 := X10.trans E16
    refine da_op rfl (d_as (v := .int .i64 m13) rfl ?_)
    refine da_nil ?_
    refine W_seq ?_
    refine W_seq ?_
    refine W_region rfl ?_
    refine da_op rfl (d_mv (v := .int .i64 m13) rfl ?_)
    refine da_op rfl (d_icmp cLss rfl rfl ?_)
    refine da_nil ?_
    refine W_cond (b := (icmp .lss m13 0)) rfl (fun hc18 => ?_) (fun hc18 => ?_)
    · skip
      replace hr := bif_t hr hc18
      refine W_seq ?_
      refine W_region rfl ?_
      refine da_op rfl (d_as (v := .int .i64 (-1)) rfl ?_)
      refine da_nil ?_
      refine W_ret ?_
      obtain rfl := Option.some.inj hr
      refine ⟨_, res1 (rv_tmp rfl), ?_⟩
      exact ⟨rfl, X17⟩
    · skip
      replace hr := bif_f hr hc18
      refine W_skip ?_
      refine W_seq ?_
      refine W_region rfl ?_
      refine da_op rfl (d_mv (v := .int .i64 m13) rfl ?_)
      refine da_op rfl (d_as (v := .int .i64 m13) rfl ?_)
      refine da_nil ?_
      refine W_ret ?_
      obtain rfl := Option.some.inj hr
      refine ⟨_, res1 (rv_tmp rfl), ?_⟩
      exact ⟨rfl, X17⟩
end Go.Proofs
