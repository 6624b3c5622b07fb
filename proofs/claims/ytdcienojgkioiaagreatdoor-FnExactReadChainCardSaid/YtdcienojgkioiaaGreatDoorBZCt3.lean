import Derived.Test.YtdcienojgkioiaaGreatDoorBZCt2
namespace Go.Proofs
open Go Go.Fl Go.RowKit Go.Rg
set_option maxRecDepth 100000
set_option linter.unusedVariables false
attribute [local irreducible] Go.Calls doAll Does DoesG W Wr
set_option maxHeartbeats 4000000 in
theorem c78_f100 (p0 : List Nat) (p0a : Option Addr) (p0n : Nat) (p0c : Nat) (r : Int) (w : World) (hr : M.slices_IndexFunc___float32_float32__f100 p0 = some r) (p0R : RS w encF_f32 (Value.slice p0a p0n p0c) p0) :
    Calls Tryz.prog 78 #[(Value.slice p0a p0n p0c), .func (.func 100) #[] #[]] w fun e w' => e = .returned (.int .i64 r) ∧ Ext w w' := by
  refine calls_of_W Tryz.func78 rfl (Nat.le_of_ble_eq_true rfl) ?_
  refine W_seq ?_
  refine W_region rfl ?_
  refine da_op rfl (d_as (v := .int .i64 0) rfl ?_)
  refine da_nil ?_
  refine W_seq ?_
  refine W_seq ?_
  refine W_region rfl ?_
  refine da_op rfl (d_mv (v := (Value.slice p0a p0n p0c)) rfl ?_)
  refine da_op rfl (d_len (e := encF_f32) un23 rfl p0R ?_)
  refine da_op rfl (d_mv (v := .int .i64 0) rfl ?_)
  refine da_nil ?_
  refine W_block ?_
  obtain ⟨m1, hm1, hr⟩ := bind_out hr
  refine W_loopM hm1 (fun (s1 : Int) σ w' => σ 8 = .int .i64 s1 ∧ σ 0 = (Value.slice p0a p0n p0c) ∧ σ 1 = .func (.func 100) #[] #[] ∧ σ 7 = .int .i64 ((p0).length : Int) ∧ Ext w w') (fun (e1 : (Unit ⊕ Int)) ex σ w' => sel e1 (fun e1 => ex = .exit 0 ∧ Ext w w') (fun e1 => ex = .ret ∧ σ 4 = .int .i64 e1 ∧ Ext w w')) ⟨rfl, rfl, rfl, rfl, (Ext.refl w)⟩ ?_ ?_
  · skip
    rintro s1 σl1 wl1 r1l ⟨i1_S8, i1_S0, i1_S1, i1_S7, i1_X⟩ hr
    refine W_seq ?_
    refine W_region rfl ?_
    refine da_op rfl (d_icmp cLss i1_S8 i1_S7 ?_)
    refine da_nil ?_
    refine W_seq ?_
    refine W_cond (b := (icmp .lss s1 ((p0).length : Int))) rfl (fun hc2 => ?_) (fun hc2 => ?_)
    · skip
      replace hr := bif_t hr hc2
      refine W_skip ?_
      refine W_seq ?_
      refine W_block ?_
      refine W_seq ?_
      refine W_region rfl ?_
      refine da_op rfl (d_mv (v := .int .i64 s1) i1_S8 ?_)
      refine da_op rfl (d_as (v := .int .i64 s1) rfl ?_)
      refine da_nil ?_
      refine W_seq ?_
      refine W_region rfl ?_
      refine da_op rfl (d_mv (v := .func (.func 100) #[] #[]) i1_S1 ?_)
      refine da_op rfl (d_mv (v := (Value.slice p0a p0n p0c)) i1_S0 ?_)
      refine da_op rfl (d_mv (v := .int .i64 s1) rfl ?_)
      obtain ⟨m3, hm3, hr⟩ := bind_out hr
      have B5 : RS wl1 encF_f32 (Value.slice p0a p0n p0c) p0 := p0R.ext i1_X
      refine da_op rfl (d_index (e := encF_f32) (v := (Value.slice p0a p0n p0c)) un23 size40 rfl rfl B5 hm3 fun g4 o4 cu4 T4 fr4 vs4 hv4 hg4 hp4 hq4 => ?_)
      obtain ⟨e4_r0, rfl, e4_h0⟩ := dec_encF_f32 hq4
      refine da_op rfl (d_load (v := .float .f32 e4_r0) rfl agg40 hg4 (sub_get (vs := #[.float .f32 e4_r0]) hp4 (i := 0) rfl) ?_)
      obtain ⟨m6, hm6, hr⟩ := letv_out hr
      refine da_op rfl (d_clv (vs := [.float .f32 e4_r0]) (cap := []) en100 rfl (ac rfl rfl) ?_)
      refine (c100 m3 e4_r0 m6 wl1 hm6 e4_h0).mono ?_
      rintro _ w7 ⟨rfl, E7⟩
      refine ⟨_, rfl, ?_⟩
      have X8 : Ext w w7 := i1_X.trans E7
      refine da_nil ?_
      refine W_cond (b := m6) rfl (fun hc9 => ?_) (fun hc9 => ?_)
      · skip
        replace hr := bif_t hr hc9
        refine W_seq ?_
        refine W_region rfl ?_
        refine da_op rfl (d_mv (v := .int .i64 s1) rfl ?_)
        refine da_op rfl (d_as (v := .int .i64 s1) rfl ?_)
        refine da_nil ?_
        refine W_ret ?_
        obtain rfl := Option.some.inj hr
        exact ⟨_, rfl, rfl, rfl, X8⟩
      · skip
        replace hr := bif_f hr hc9
        refine W_skip ?_
        refine W_region rfl ?_
        refine da_op rfl (d_iarith i1_S8 rfl (.inl ⟨rfl, rfl⟩) ?_)
        refine da_op rfl (d_mv (v := .int .i64 (IntKind.i64.wrap (s1 + 1))) rfl ?_)
        refine da_nil ?_
        obtain rfl := Option.some.inj hr
        exact ⟨_, rfl, ⟨rfl, i1_S0, i1_S1, i1_S7, X8⟩⟩
    · skip
      replace hr := bif_f hr hc2
      refine W_exit ?_
      obtain rfl := Option.some.inj hr
      exact ⟨_, rfl, rfl, i1_X⟩
  · skip
    intro ex σx1 wx1 hq
    rcases m1 with m1 | m1
    · skip
      obtain ⟨rfl, q1_0_X⟩ := hq
      refine W_seq ?_
      refine W_region rfl ?_
      refine da_op rfl (d_as (v := .int .i64 (-1)) rfl ?_)
      refine da_nil ?_
      refine W_ret ?_
      obtain rfl := Option.some.inj hr
      refine ⟨_, res1 (rv_tmp rfl), ?_⟩
      exact ⟨rfl, q1_0_X⟩
    · skip
      obtain ⟨rfl, q1_1_S4, q1_1_X⟩ := hq
      obtain rfl := Option.some.inj hr
      refine ⟨_, res1 (rv_tmp q1_1_S4), ?_⟩
      exact ⟨rfl, q1_1_X⟩
set_option maxHeartbeats 4000000 in
theorem c56_f100 (p0 : List Nat) (p0a : Option Addr) (p0n : Nat) (p0c : Nat) (r : Bool) (w : World) (hr : M.slices_ContainsFunc___float32_float32__f100 p0 = some r) (p0R : RS w encF_f32 (Value.slice p0a p0n p0c) p0) :
    Calls Tryz.prog 56 #[(Value.slice p0a p0n p0c), .func (.func 100) #[] #[]] w fun e w' => e = .returned (.bool r) ∧ Ext w w' := by
  refine calls_of_W Tryz.func56 rfl (Nat.le_of_ble_eq_true rfl) ?_
  refine W_seq ?_
  refine W_region rfl ?_
  refine da_op rfl (d_as (v := .bool false) rfl ?_)
  refine da_nil ?_
  refine W_seq ?_
  refine W_region rfl ?_
  refine da_op rfl (d_mv (v := (Value.slice p0a p0n p0c)) rfl ?_)
  refine da_op rfl (d_mv (v := .func (.func 100) #[] #[]) rfl ?_)
  obtain ⟨m1, hm1, hr⟩ := bind_out hr
  refine da_op rfl (d_cl (vs := [(Value.slice p0a p0n p0c), .func (.func 100) #[] #[]]) en78 (ac rfl (ac rfl rfl)) rfl ?_)
  refine (c78_f100 p0 p0a p0n p0c m1 w hm1 p0R).mono ?_
  rintro _ w2 ⟨rfl, E2⟩
  refine ⟨_, rfl, ?_⟩
  have X3 : Ext w w2 := (Ext.refl w).trans E2
  refine da_op rfl (d_icmp cGeq rfl rfl ?_)
  refine da_op rfl (d_as (v := .bool (icmp .geq m1 0)) rfl ?_)
  refine da_nil ?_
  refine W_ret ?_
  obtain rfl := Option.some.inj hr
  refine ⟨_, res1 (rv_tmp rfl), ?_⟩
  exact ⟨rfl, X3⟩
set_option maxHeartbeats 4000000 in
theorem c91 (p0 : List Nat) (p0a : Option Addr) (p0n : Nat) (p0c : Nat) (r : Bool) (w : World) (hr : M.impl_finite p0 = some r) (p0R : RS w encF_f32 (Value.slice p0a p0n p0c) p0) :
    Calls Tryz.prog 91 #[(Value.slice p0a p0n p0c)] w fun e w' => e = .returned (.bool r) ∧ Ext w w' := by
  refine calls_of_W Tryz.func91 rfl (Nat.le_of_ble_eq_true rfl) ?_
  refine W_seq ?_
  refine W_region rfl ?_
  refine da_op rfl (d_as (v := .bool false) rfl ?_)
  refine da_nil ?_
  refine W_seq ?_
  refine W_region rfl ?_
  refine da_op rfl (d_mv (v := (Value.slice p0a p0n p0c)) rfl ?_)
  obtain ⟨m1, hm1, hr⟩ := bind_out hr
  refine da_op rfl (d_cl (vs := [(Value.slice p0a p0n p0c), .func (.func 100) #[] #[]]) en56 (ac rfl (ac rfl rfl)) rfl ?_)
  refine (c56_f100 p0 p0a p0n p0c m1 w hm1 p0R).mono ?_
  rintro _ w2 ⟨rfl, E2⟩
  refine ⟨_, rfl, ?_⟩
  have X3 : Ext w w2 := (Ext.refl w).trans E2
  refine da_op rfl (d_not rfl ?_)
  refine da_op rfl (d_as (v := .bool (!m1)) rfl ?_)
  refine da_nil ?_
  refine W_ret ?_
  obtain rfl := Option.some.inj hr
  refine ⟨_, res1 (rv_tmp rfl), ?_⟩
  exact ⟨rfl, X3⟩
set_option maxHeartbeats 4000000 in
theorem c77 (p0 : SVector) (p0r0 : Nat) (p0r1 : Nat) (p0r2 : Nat) (r : Bool) (w : World) (hr : M.impl_finiteVector p0 = some r) (p0h0 : cn .f32 p0r0 = p0.x) (p0h1 : cn .f32 p0r1 = p0.y) (p0h2 : cn .f32 p0r2 = p0.z) :
    Calls Tryz.prog 77 #[.agg #[.float .f32 p0r0, .float .f32 p0r1, .float .f32 p0r2]] w fun e w' => e = .returned (.bool r) ∧ Ext w w' := by
  refine calls_of_W Tryz.func77 rfl (Nat.le_of_ble_eq_true rfl) ?_
  refine W_seq ?_
  refine W_region rfl ?_
  refine da_op rfl (d_box (cs := #[.float .f32 p0r0, .float .f32 p0r1, .float .f32 p0r2]) rfl fun w1 B1 E1 => ?_)
  have own2 : w.heap.size ≤ w.heap.size := Nat.le_trans (Ext.refl w).size (Nat.le_refl _)
  have X3 : Ext w w1 := (Ext.refl w).trans E1
  refine da_op rfl (d_as (v := .bool false) rfl ?_)
  refine da_nil ?_
  refine W_seq ?_
  refine W_region rfl ?_
  refine da_op rfl (d_fieldAddr rfl (fa57_0 _ _) ?_)
  refine da_op rfl (d_load (v := .float .f32 p0r0) rfl agg40 B1 rfl ?_)
  refine da_op rfl (d_fieldAddr rfl (fa57_1 _ _) ?_)
  refine da_op rfl (d_load (v := .float .f32 p0r1) rfl agg40 B1 rfl ?_)
  refine da_op rfl (d_fieldAddr rfl (fa57_2 _ _) ?_)
  refine da_op rfl (d_load (v := .float .f32 p0r2) rfl agg40 B1 rfl ?_)
  refine da_op rfl (d_bslice (vs := [(0, .float .f32 p0r0), (1, .float .f32 p0r1), (2, .float .f32 p0r2)]) (cs := #[.float .f32 p0r0, .float .f32 p0r1, .float .f32 p0r2]) un23 (pc rfl (pc rfl (pc rfl rfl))) (by kernel_rfl) fun w4 B4 E4 => ?_)
  have fr4 : ∀ k, (Value.slice (some ⟨w1.heap.size, 0, none⟩) 3 3).ownBlock = some k → w1.heap.size ≤ k := fun k hk => by cases hk; exact Nat.le_refl _
  have own4 : ∀ k, (Value.slice (some ⟨w1.heap.size, 0, none⟩) 3 3).ownBlock = some k → w.heap.size ≤ k := fun k hk => Nat.le_trans X3.size (fr4 k hk)
  have sp5 : ¬ (Value.slice (some ⟨w1.heap.size, 0, none⟩) 3 3).ownBlock = some w.heap.size := ne_fresh fr4 (lt_heap B1)
  have X6 : Ext w w4 := X3.trans E4
  have O4 : OS w4 40 encF_f32 (Value.slice (some ⟨w1.heap.size, 0, none⟩) 3 3) [p0.x, p0.y, p0.z] := OS.box (xs := [p0.x, p0.y, p0.z]) B4 (lc_f p0h0 (lc_f p0h1 (lc_f p0h2 rfl))) (Nat.le_of_ble_eq_true rfl)
  obtain ⟨m7, hm7, hr⟩ := bind_out hr
  have B8 : w4.heap[w.heap.size]? = some (.cells #[.float .f32 p0r0, .float .f32 p0r1, .float .f32 p0r2] 57 (0, 0)) := E4.heap B1
  refine da_op rfl (d_cl (vs := [(Value.slice (some ⟨w1.heap.size, 0, none⟩) 3 3)]) en91 (ac rfl rfl) rfl ?_)
  refine (c91 ([p0.x, p0.y, p0.z]) (some ⟨w1.heap.size, 0, none⟩) 3 3 m7 w4 hm7 O4.rs).mono ?_
  rintro _ w9 ⟨rfl, E9⟩
  refine ⟨_, rfl, ?_⟩
  have X10 : Ext w w9 := X6.trans E9
  refine da_op rfl (d_as (v := .bool m7) rfl ?_)
  refine da_nil ?_
  refine W_ret ?_
  obtain rfl := Option.some.inj hr
  refine ⟨_, res1 (rv_tmp rfl), ?_⟩
  exact ⟨rfl, X10⟩
set_option maxHeartbeats 4000000 in
theorem c55 (p0 : SVector) (p0r0 : Nat) (p0r1 : Nat) (p0r2 : Nat) (r : Bool) (w : World) (hr : M.impl_badVector p0 = some r) (p0h0 : cn .f32 p0r0 = p0.x) (p0h1 : cn .f32 p0r1 = p0.y) (p0h2 : cn .f32 p0r2 = p0.z) :
    Calls Tryz.prog 55 #[.agg #[.float .f32 p0r0, .float .f32 p0r1, .float .f32 p0r2]] w fun e w' => e = .returned (.bool r) ∧ Ext w w' := by
  refine calls_of_W Tryz.func55 rfl (Nat.le_of_ble_eq_true rfl) ?_
  refine W_seq ?_
  refine W_region rfl ?_
  refine da_op rfl (d_box (cs := #[.float .f32 p0r0, .float .f32 p0r1, .float .f32 p0r2]) rfl fun w1 B1 E1 => ?_)
  have own2 : w.heap.size ≤ w.heap.size := Nat.le_trans (Ext.refl w).size (Nat.le_refl _)
  have X3 : Ext w w1 := (Ext.refl w).trans E1
  refine da_op rfl (d_as (v := .bool false) rfl ?_)
  refine da_nil ?_
  refine W_seq ?_
  refine W_region rfl ?_
  refine da_op rfl (d_loads (vs := #[.float .f32 p0r0, .float .f32 p0r1, .float .f32 p0r2]) rfl agg57 size57 B1 rfl ?_)
  obtain ⟨m4, hm4, hr⟩ := bind_out hr
  refine da_op rfl (d_cl (vs := [.agg #[.float .f32 p0r0, .float .f32 p0r1, .float .f32 p0r2]]) en77 (ac rfl rfl) rfl ?_)
  refine (c77 p0 p0r0 p0r1 p0r2 m4 w1 hm4 p0h0 p0h1 p0h2).mono ?_
  rintro _ w5 ⟨rfl, E5⟩
  refine ⟨_, rfl, ?_⟩
  have X6 : Ext w w5 := X3.trans E5
  refine da_op rfl (d_not rfl ?_)
  refine da_op rfl (d_as (v := .bool (!m4)) rfl ?_)
  refine da_nil ?_
  refine W_ret ?_
  obtain rfl := Option.some.inj hr
  refine ⟨_, res1 (rv_tmp rfl), ?_⟩
  exact ⟨rfl, X6⟩
set_option maxHeartbeats 4000000 in
theorem c76_f55 (p0 : List SVector) (p0a : Option Addr) (p0n : Nat) (p0c : Nat) (r : Int) (w : World) (hr : M.slices_IndexFunc___impl_Vector_impl_Vector__f55 p0 = some r) (p0R : RS w encSVector (Value.slice p0a p0n p0c) p0) :
    Calls Tryz.prog 76 #[(Value.slice p0a p0n p0c), .func (.func 55) #[] #[]] w fun e w' => e = .returned (.int .i64 r) ∧ Ext w w' := by
  refine calls_of_W Tryz.func76 rfl (Nat.le_of_ble_eq_true rfl) ?_
  refine W_seq ?_
  refine W_region rfl ?_
  refine da_op rfl (d_as (v := .int .i64 0) rfl ?_)
  refine da_nil ?_
  refine W_seq ?_
  refine W_seq ?_
  refine W_region rfl ?_
  refine da_op rfl (d_mv (v := (Value.slice p0a p0n p0c)) rfl ?_)
  refine da_op rfl (d_len (e := encSVector) un22 rfl p0R ?_)
  refine da_op rfl (d_mv (v := .int .i64 0) rfl ?_)
  refine da_nil ?_
  refine W_block ?_
  obtain ⟨m1, hm1, hr⟩ := bind_out hr
  refine W_loopM hm1 (fun (s1 : Int) σ w' => σ 8 = .int .i64 s1 ∧ σ 0 = (Value.slice p0a p0n p0c) ∧ σ 1 = .func (.func 55) #[] #[] ∧ σ 7 = .int .i64 ((p0).length : Int) ∧ Ext w w') (fun (e1 : (Unit ⊕ Int)) ex σ w' => sel e1 (fun e1 => ex = .exit 0 ∧ Ext w w') (fun e1 => ex = .ret ∧ σ 4 = .int .i64 e1 ∧ Ext w w')) ⟨rfl, rfl, rfl, rfl, (Ext.refl w)⟩ ?_ ?_
  · skip
    rintro s1 σl1 wl1 r1l ⟨i1_S8, i1_S0, i1_S1, i1_S7, i1_X⟩ hr
    refine W_seq ?_
    refine W_region rfl ?_
    refine da_op rfl (d_icmp cLss i1_S8 i1_S7 ?_)
    refine da_nil ?_
    refine W_seq ?_
    refine W_cond (b := (icmp .lss s1 ((p0).length : Int))) rfl (fun hc2 => ?_) (fun hc2 => ?_)
    · skip
      replace hr := bif_t hr hc2
      refine W_skip ?_
      refine W_seq ?_
      refine W_block ?_
      refine W_seq ?_
      refine W_region rfl ?_
      refine da_op rfl (d_mv (v := .int .i64 s1) i1_S8 ?_)
      refine da_op rfl (d_as (v := .int .i64 s1) rfl ?_)
      refine da_nil ?_
      refine W_seq ?_
      refine W_region rfl ?_
      refine da_op rfl (d_mv (v := .func (.func 55) #[] #[]) i1_S1 ?_)
      refine da_op rfl (d_mv (v := (Value.slice p0a p0n p0c)) i1_S0 ?_)
      refine da_op rfl (d_mv (v := .int .i64 s1) rfl ?_)
      obtain ⟨m3, hm3, hr⟩ := bind_out hr
      have B5 : RS wl1 encSVector (Value.slice p0a p0n p0c) p0 := p0R.ext i1_X
      refine da_op rfl (d_index (e := encSVector) (v := (Value.slice p0a p0n p0c)) un22 size57 rfl rfl B5 hm3 fun g4 o4 cu4 T4 fr4 vs4 hv4 hg4 hp4 hq4 => ?_)
      obtain ⟨e4_r0, e4_r1, e4_r2, rfl, e4_h0, e4_h1, e4_h2⟩ := dec_encSVector hq4
      refine da_op rfl (d_loads (vs := #[.float .f32 e4_r0, .float .f32 e4_r1, .float .f32 e4_r2]) rfl agg57 size57 hg4 (sub_take (vs := #[.float .f32 e4_r0, .float .f32 e4_r1, .float .f32 e4_r2]) (us := #[.float .f32 e4_r0, .float .f32 e4_r1, .float .f32 e4_r2]) (i := 0) hp4 rfl (Nat.le_of_ble_eq_true rfl)) ?_)
      obtain ⟨m6, hm6, hr⟩ := bind_out hr
      refine da_op rfl (d_clv (vs := [.agg #[.float .f32 e4_r0, .float .f32 e4_r1, .float .f32 e4_r2]]) (cap := []) en55 rfl (ac rfl rfl) ?_)
      refine (c55 m3 e4_r0 e4_r1 e4_r2 m6 wl1 hm6 e4_h0 e4_h1 e4_h2).mono ?_
      rintro _ w7 ⟨rfl, E7⟩
      refine ⟨_, rfl, ?_⟩
      have X8 : Ext w w7 := i1_X.trans E7
      refine da_nil ?_
      refine W_cond (b := m6) rfl (fun hc9 => ?_) (fun hc9 => ?_)
      · skip
        replace hr := bif_t hr hc9
        refine W_seq ?_
        refine W_region rfl ?_
        refine da_op rfl (d_mv (v := .int .i64 s1) rfl ?_)
        refine da_op rfl (d_as (v := .int .i64 s1) rfl ?_)
        refine da_nil ?_
        refine W_ret ?_
        obtain rfl := Option.some.inj hr
        exact ⟨_, rfl, rfl, rfl, X8⟩
      · skip
        replace hr := bif_f hr hc9
        refine W_skip ?_
        refine W_region rfl ?_
        refine da_op rfl (d_iarith i1_S8 rfl (.inl ⟨rfl, rfl⟩) ?_)
        refine da_op rfl (d_mv (v := .int .i64 (IntKind.i64.wrap (s1 + 1))) rfl ?_)
        refine da_nil ?_
        obtain rfl := Option.some.inj hr
        exact ⟨_, rfl, ⟨rfl, i1_S0, i1_S1, i1_S7, X8⟩⟩
    · skip
      replace hr := bif_f hr hc2
      refine W_exit ?_
      obtain rfl := Option.some.inj hr
      exact ⟨_, rfl, rfl, i1_X⟩
  · skip
    intro ex σx1 wx1 hq
    rcases m1 with m1 | m1
    · skip
      obtain ⟨rfl, q1_0_X⟩ := hq
      refine W_seq ?_
      refine W_region rfl ?_
      refine da_op rfl (d_as (v := .int .i64 (-1)) rfl ?_)
      refine da_nil ?_
      refine W_ret ?_
      obtain rfl := Option.some.inj hr
      refine ⟨_, res1 (rv_tmp rfl), ?_⟩
      exact ⟨rfl, q1_0_X⟩
    · skip
      obtain ⟨rfl, q1_1_S4, q1_1_X⟩ := hq
      obtain rfl := Option.some.inj hr
      refine ⟨_, res1 (rv_tmp q1_1_S4), ?_⟩
      exact ⟨rfl, q1_1_X⟩
set_option maxHeartbeats 4000000 in
theorem c54_f55 (p0 : List SVector) (p0a : Option Addr) (p0n : Nat) (p0c : Nat) (r : Bool) (w : World) (hr : M.slices_ContainsFunc___impl_Vector_impl_Vector__f55 p0 = some r) (p0R : RS w encSVector (Value.slice p0a p0n p0c) p0) :
    Calls Tryz.prog 54 #[(Value.slice p0a p0n p0c), .func (.func 55) #[] #[]] w fun e w' => e = .returned (.bool r) ∧ Ext w w' := by
  refine calls_of_W Tryz.func54 rfl (Nat.le_of_ble_eq_true rfl) ?_
  refine W_seq ?_
  refine W_region rfl ?_
  refine da_op rfl (d_as (v := .bool false) rfl ?_)
  refine da_nil ?_
  refine W_seq ?_
  refine W_region rfl ?_
  refine da_op rfl (d_mv (v := (Value.slice p0a p0n p0c)) rfl ?_)
  refine da_op rfl (d_mv (v := .func (.func 55) #[] #[]) rfl ?_)
  obtain ⟨m1, hm1, hr⟩ := bind_out hr
  refine da_op rfl (d_cl (vs := [(Value.slice p0a p0n p0c), .func (.func 55) #[] #[]]) en76 (ac rfl (ac rfl rfl)) rfl ?_)
  refine (c76_f55 p0 p0a p0n p0c m1 w hm1 p0R).mono ?_
  rintro _ w2 ⟨rfl, E2⟩
  refine ⟨_, rfl, ?_⟩
  have X3 : Ext w w2 := (Ext.refl w).trans E2
  refine da_op rfl (d_icmp cGeq rfl rfl ?_)
  refine da_op rfl (d_as (v := .bool (icmp .geq m1 0)) rfl ?_)
  refine da_nil ?_
  refine W_ret ?_
  obtain rfl := Option.some.inj hr
  refine ⟨_, res1 (rv_tmp rfl), ?_⟩
  exact ⟨rfl, X3⟩
set_option maxHeartbeats 4000000 in
theorem c79 (p0 : Nat) (p0r : Nat) (r : Bool) (w : World) (hr : M.impl_levelOk p0 = r) (p0h : cn .f32 p0r = p0) :
    Calls Tryz.prog 79 #[.float .f32 p0r] w fun e w' => e = .returned (.bool r) ∧ Ext w w' := by
  refine calls_of_W Tryz.func79 rfl (Nat.le_of_ble_eq_true rfl) ?_
  refine W_seq ?_
  refine W_region rfl ?_
  refine da_op rfl (d_as (v := .bool false) rfl ?_)
  refine da_nil ?_
  refine W_seq ?_
  obtain ⟨m1, hm1, hr⟩ := letv_out hr
  refine W_cut (fun σ' w' => σ' 2 = .bool m1 ∧ Ext w w') rfl ?_ ?_
  · skip
    have hr := hm1
    refine da_op rfl (d_mv (v := .float .f32 p0r) rfl ?_)
    obtain ⟨m2, hm2, hr⟩ := letv_out hr
    refine da_op rfl (d_cl (vs := [.float .f32 p0r]) en92 (ac rfl rfl) rfl ?_)
    refine (c92 p0 p0r m2 w hm2 p0h).mono ?_
    rintro _ w3 ⟨rfl, E3⟩
    refine ⟨_, rfl, ?_⟩
    have X4 : Ext w w3 := (Ext.refl w).trans E3
    refine da_op rfl (d_mv (v := .bool m2) rfl ?_)
    rcases Bool.eq_false_or_eq_true m2 with hc5 | hc5
    · skip
      replace hr := bif_t hr hc5
      refine da_on rfl (Eq.trans (show sl _ _ _ = .bool m2 from rfl) (congrArg Value.bool hc5)) (d_mv (v := .float .f32 p0r) rfl ?_)
      refine da_on rfl (Eq.trans (show sl _ _ _ = .bool m2 from rfl) (congrArg Value.bool hc5)) (d_fcmp (k := .f32) cGeq rfl rfl p0h cn_f32_0 ?_)
      refine da_op rfl (d_pick (b := true) (Eq.trans (show ev _ _ = .bool m2 from rfl) (congrArg Value.bool hc5)) ?_)
      refine da_op rfl (d_as (v := .bool (fcmp .geq .f32 p0 0)) rfl ?_)
      refine da_nil ?_
      subst hr
      exact ⟨rfl, (Ext.trans (Ext.refl w) E3)⟩
    · skip
      replace hr := bif_f hr hc5
      refine da_off rfl (Eq.trans (show sl _ _ _ = .bool m2 from rfl) (congrArg Value.bool hc5)) (by decide) ?_
      refine da_off rfl (Eq.trans (show sl _ _ _ = .bool m2 from rfl) (congrArg Value.bool hc5)) (by decide) ?_
      refine da_op rfl (d_pick (b := false) (Eq.trans (show ev _ _ = .bool m2 from rfl) (congrArg Value.bool hc5)) ?_)
      refine da_op rfl (d_as (v := .bool false) rfl ?_)
      refine da_nil ?_
      subst hr
      exact ⟨rfl, (Ext.trans (Ext.refl w) E3)⟩
  · skip
    rintro σ1 w1 o1 ⟨s2_1, E1⟩
    have X6 : Ext w w1 := (Ext.refl w).trans E1
    refine W_ret ?_
    subst hr
    refine ⟨_, res1 (rv_tmp s2_1), ?_⟩
    exact ⟨rfl, X6⟩
set_option maxHeartbeats 4000000 in
theorem c57 (p0 : Nat) (p0r : Nat) (r : Bool) (w : World) (hr : M.impl_badLevel p0 = r) (p0h : cn .f32 p0r = p0) :
    Calls Tryz.prog 57 #[.float .f32 p0r] w fun e w' => e = .returned (.bool r) ∧ Ext w w' := by
  refine calls_of_W Tryz.func57 rfl (Nat.le_of_ble_eq_true rfl) ?_
  refine W_seq ?_
  refine W_region rfl ?_
  refine da_op rfl (d_as (v := .bool false) rfl ?_)
  refine da_nil ?_
  refine W_seq ?_
  refine W_region rfl ?_
  refine da_op rfl (d_mv (v := .float .f32 p0r) rfl ?_)
  obtain ⟨m1, hm1, hr⟩ := letv_out hr
  refine da_op rfl (d_cl (vs := [.float .f32 p0r]) en79 (ac rfl rfl) rfl ?_)
  refine (c79 p0 p0r m1 w hm1 p0h).mono ?_
  rintro _ w2 ⟨rfl, E2⟩
  refine ⟨_, rfl, ?_⟩
  have X3 : Ext w w2 := (Ext.refl w).trans E2
  refine da_op rfl (d_not rfl ?_)
  refine da_op rfl (d_as (v := .bool (!m1)) rfl ?_)
  refine da_nil ?_
  refine W_ret ?_
  subst hr
  refine ⟨_, res1 (rv_tmp rfl), ?_⟩
  exact ⟨rfl, X3⟩
set_option maxHeartbeats 4000000 in
theorem c78_f57 (p0 : List Nat) (p0a : Option Addr) (p0n : Nat) (p0c : Nat) (r : Int) (w : World) (hr : M.slices_IndexFunc___float32_float32__f57 p0 = some r) (p0R : RS w encF_f32 (Value.slice p0a p0n p0c) p0) :
    Calls Tryz.prog 78 #[(Value.slice p0a p0n p0c), .func (.func 57) #[] #[]] w fun e w' => e = .returned (.int .i64 r) ∧ Ext w w' := by
  refine calls_of_W Tryz.func78 rfl (Nat.le_of_ble_eq_true rfl) ?_
  refine W_seq ?_
  refine W_region rfl ?_
  refine da_op rfl (d_as (v := .int .i64 0) rfl ?_)
  refine da_nil ?_
  refine W_seq ?_
  refine W_seq ?_
  refine W_region rfl ?_
  refine da_op rfl (d_mv (v := (Value.slice p0a p0n p0c)) rfl ?_)
  refine da_op rfl (d_len (e := encF_f32) un23 rfl p0R ?_)
  refine da_op rfl (d_mv (v := .int .i64 0) rfl ?_)
  refine da_nil ?_
  refine W_block ?_
  obtain ⟨m1, hm1, hr⟩ := bind_out hr
  refine W_loopM hm1 (fun (s1 : Int) σ w' => σ 8 = .int .i64 s1 ∧ σ 0 = (Value.slice p0a p0n p0c) ∧ σ 1 = .func (.func 57) #[] #[] ∧ σ 7 = .int .i64 ((p0).length : Int) ∧ Ext w w') (fun (e1 : (Unit ⊕ Int)) ex σ w' => sel e1 (fun e1 => ex = .exit 0 ∧ Ext w w') (fun e1 => ex = .ret ∧ σ 4 = .int .i64 e1 ∧ Ext w w')) ⟨rfl, rfl, rfl, rfl, (Ext.refl w)⟩ ?_ ?_
  · skip
    rintro s1 σl1 wl1 r1l ⟨i1_S8, i1_S0, i1_S1, i1_S7, i1_X⟩ hr
    refine W_seq ?_
    refine W_region rfl ?_
    refine da_op rfl (d_icmp cLss i1_S8 i1_S7 ?_)
    refine da_nil ?_
    refine W_seq ?_
    refine W_cond (b := (icmp .lss s1 ((p0).length : Int))) rfl (fun hc2 => ?_) (fun hc2 => ?_)
    · skip
      replace hr := bif_t hr hc2
      refine W_skip ?_
      refine W_seq ?_
      refine W_block ?_
      refine W_seq ?_
      refine W_region rfl ?_
      refine da_op rfl (d_mv (v := .int .i64 s1) i1_S8 ?_)
      refine da_op rfl (d_as (v := .int .i64 s1) rfl ?_)
      refine da_nil ?_
      refine W_seq ?_
      refine W_region rfl ?_
      refine da_op rfl (d_mv (v := .func (.func 57) #[] #[]) i1_S1 ?_)
      refine da_op rfl (d_mv (v := (Value.slice p0a p0n p0c)) i1_S0 ?_)
      refine da_op rfl (d_mv (v := .int .i64 s1) rfl ?_)
      obtain ⟨m3, hm3, hr⟩ := bind_out hr
      have B5 : RS wl1 encF_f32 (Value.slice p0a p0n p0c) p0 := p0R.ext i1_X
      refine da_op rfl (d_index (e := encF_f32) (v := (Value.slice p0a p0n p0c)) un23 size40 rfl rfl B5 hm3 fun g4 o4 cu4 T4 fr4 vs4 hv4 hg4 hp4 hq4 => ?_)
      obtain ⟨e4_r0, rfl, e4_h0⟩ := dec_encF_f32 hq4
      refine da_op rfl (d_load (v := .float .f32 e4_r0) rfl agg40 hg4 (sub_get (vs := #[.float .f32 e4_r0]) hp4 (i := 0) rfl) ?_)
      obtain ⟨m6, hm6, hr⟩ := letv_out hr
      refine da_op rfl (d_clv (vs := [.float .f32 e4_r0]) (cap := []) en57 rfl (ac rfl rfl) ?_)
      refine (c57 m3 e4_r0 m6 wl1 hm6 e4_h0).mono ?_
      rintro _ w7 ⟨rfl, E7⟩
      refine ⟨_, rfl, ?_⟩
      have X8 : Ext w w7 := i1_X.trans E7
      refine da_nil ?_
      refine W_cond (b := m6) rfl (fun hc9 => ?_) (fun hc9 => ?_)
      · skip
        replace hr := bif_t hr hc9
        refine W_seq ?_
        refine W_region rfl ?_
        refine da_op rfl (d_mv (v := .int .i64 s1) rfl ?_)
        refine da_op rfl (d_as (v := .int .i64 s1) rfl ?_)
        refine da_nil ?_
        refine W_ret ?_
        obtain rfl := Option.some.inj hr
        exact ⟨_, rfl, rfl, rfl, X8⟩
      · skip
        replace hr := bif_f hr hc9
        refine W_skip ?_
        refine W_region rfl ?_
        refine da_op rfl (d_iarith i1_S8 rfl (.inl ⟨rfl, rfl⟩) ?_)
        refine da_op rfl (d_mv (v := .int .i64 (IntKind.i64.wrap (s1 + 1))) rfl ?_)
        refine da_nil ?_
        obtain rfl := Option.some.inj hr
        exact ⟨_, rfl, ⟨rfl, i1_S0, i1_S1, i1_S7, X8⟩⟩
    · skip
      replace hr := bif_f hr hc2
      refine W_exit ?_
      obtain rfl := Option.some.inj hr
      exact ⟨_, rfl, rfl, i1_X⟩
  · skip
    intro ex σx1 wx1 hq
    rcases m1 with m1 | m1
    · skip
      obtain ⟨rfl, q1_0_X⟩ := hq
      refine W_seq ?_
      refine W_region rfl ?_
      refine da_op rfl (d_as (v := .int .i64 (-1)) rfl ?_)
      refine da_nil ?_
      refine W_ret ?_
      obtain rfl := Option.some.inj hr
      refine ⟨_, res1 (rv_tmp rfl), ?_⟩
      exact ⟨rfl, q1_0_X⟩
    · skip
      obtain ⟨rfl, q1_1_S4, q1_1_X⟩ := hq
      obtain rfl := Option.some.inj hr
      refine ⟨_, res1 (rv_tmp q1_1_S4), ?_⟩
      exact ⟨rfl, q1_1_X⟩
set_option maxHeartbeats 4000000 in
theorem c56_f57 (p0 : List Nat) (p0a : Option Addr) (p0n : Nat) (p0c : Nat) (r : Bool) (w : World) (hr : M.slices_ContainsFunc___float32_float32__f57 p0 = some r) (p0R : RS w encF_f32 (Value.slice p0a p0n p0c) p0) :
    Calls Tryz.prog 56 #[(Value.slice p0a p0n p0c), .func (.func 57) #[] #[]] w fun e w' => e = .returned (.bool r) ∧ Ext w w' := by
  refine calls_of_W Tryz.func56 rfl (Nat.le_of_ble_eq_true rfl) ?_
  refine W_seq ?_
  refine W_region rfl ?_
  refine da_op rfl (d_as (v := .bool false) rfl ?_)
  refine da_nil ?_
  refine W_seq ?_
  refine W_region rfl ?_
  refine da_op rfl (d_mv (v := (Value.slice p0a p0n p0c)) rfl ?_)
  refine da_op rfl (d_mv (v := .func (.func 57) #[] #[]) rfl ?_)
  obtain ⟨m1, hm1, hr⟩ := bind_out hr
  refine da_op rfl (d_cl (vs := [(Value.slice p0a p0n p0c), .func (.func 57) #[] #[]]) en78 (ac rfl (ac rfl rfl)) rfl ?_)
  refine (c78_f57 p0 p0a p0n p0c m1 w hm1 p0R).mono ?_
  rintro _ w2 ⟨rfl, E2⟩
  refine ⟨_, rfl, ?_⟩
  have X3 : Ext w w2 := (Ext.refl w).trans E2
  refine da_op rfl (d_icmp cGeq rfl rfl ?_)
  refine da_op rfl (d_as (v := .bool (icmp .geq m1 0)) rfl ?_)
  refine da_nil ?_
  refine W_ret ?_
  obtain rfl := Option.some.inj hr
  refine ⟨_, res1 (rv_tmp rfl), ?_⟩
  exact ⟨rfl, X3⟩
set_option maxHeartbeats 4000000 in
theorem c60 (p0 : SChain) (p1 : SRod) (p0b p0o : Nat) (p0c : Array Value) (p0T : TypeId) (p0f : Nat × Nat) (p0v0a : Option Addr) (p0v0n : Nat) (p0v0c : Nat) (p0v1a : Option Addr) (p0v1n : Nat) (p0v1c : Nat) (p0v2a : Option Addr) (p0v2n : Nat) (p0v2c : Nat) (p0v3a : Option Addr) (p0v3n : Nat) (p0v3c : Nat) (p1r2 : Nat) (r : Bool) (w : World) (hr : M.impl_Chain_rodOk p0 p1 = r) (p0v0R : RS w encSVector (Value.slice p0v0a p0v0n p0v0c) p0.places) (p0v1R : RS w encSVector (Value.slice p0v1a p0v1n p0v1c) p0.before) (p0v2R : RS w encF_f32 (Value.slice p0v2a p0v2n p0v2c) p0.weights) (p0v3R : RS w encSRod (Value.slice p0v3a p0v3n p0v3c) p0.rods) (p0B : w.heap[p0b]? = some (.cells p0c p0T p0f)) (p0P : (p0c.toList.drop p0o).take 4 = [(Value.slice p0v0a p0v0n p0v0c), (Value.slice p0v1a p0v1n p0v1c), (Value.slice p0v2a p0v2n p0v2c), (Value.slice p0v3a p0v3n p0v3c)]) (p1h2 : cn .f32 p1r2 = p1.long) :
    Calls Tryz.prog 60 #[.pointer (some ⟨p0b, p0o, none⟩), .agg #[.int .i64 p1.a, .int .i64 p1.b, .float .f32 p1r2]] w fun e w' => e = .returned (.bool r) ∧ Ext w w' := by
  refine calls_of_W Tryz.func60 rfl (Nat.le_of_ble_eq_true rfl) ?_
  refine W_seq ?_
  refine W_region rfl ?_
  refine da_op rfl (d_box (cs := #[.int .i64 p1.a, .int .i64 p1.b, .float .f32 p1r2]) rfl fun w1 B1 E1 => ?_)
  have own2 : w.heap.size ≤ w.heap.size := Nat.le_trans (Ext.refl w).size (Nat.le_refl _)
  have X3 : Ext w w1 := (Ext.refl w).trans E1
  refine da_op rfl (d_as (v := .bool false) rfl ?_)
  refine da_nil ?_
  refine W_seq ?_
  refine W_region rfl ?_
  refine da_op rfl (d_mv (v := .pointer (some ⟨p0b, p0o, none⟩)) rfl ?_)
  refine da_op rfl (d_nil rfl ?_)
  refine da_op rfl (d_fieldAddr rfl (fa26_0 _ _) ?_)
  have B4 : w1.heap[p0b]? = some (.cells p0c p0T p0f) := X3.heap p0B
  refine da_op rfl (d_load (v := (Value.slice p0v0a p0v0n p0v0c)) rfl agg22 B4 (sub_get (vs := #[(Value.slice p0v0a p0v0n p0v0c), (Value.slice p0v1a p0v1n p0v1c), (Value.slice p0v2a p0v2n p0v2c), (Value.slice p0v3a p0v3n p0v3c)]) p0P (i := 0) rfl) ?_)
  have B5 : RS w1 encSVector (Value.slice p0v0a p0v0n p0v0c) p0.places := p0v0R.ext X3
  refine da_op rfl (d_len (e := encSVector) un22 rfl B5 ?_)
  refine da_op rfl (d_iarith rfl rfl (.inr (.inl ⟨rfl, rfl⟩)) ?_)
  refine da_op rfl (d_as (v := .int .i64 (IntKind.i64.wrap (((p0.places).length : Int) - 1))) rfl ?_)
  refine da_nil ?_
  refine W_seq ?_
  obtain ⟨m6, hm6, hr⟩ := letv_out hr
  refine W_cut (fun σ' w' => σ' 4 = .bool m6 ∧ Ext w1 w') rfl ?_ ?_
  · skip
    have hr := hm6
    refine da_op rfl (d_fieldAddr rfl (fa42_0 _ _) ?_)
    refine da_op rfl (d_load (v := .int .i64 p1.a) rfl agg2 B1 rfl ?_)
    refine da_op rfl (d_mv (v := .int .i64 (IntKind.i64.wrap (((p0.places).length : Int) - 1))) rfl ?_)
    obtain ⟨m7, hm7, hr⟩ := letv_out hr
    refine da_op rfl (d_cl (vs := [.int .i64 p1.a, .int .i64 0, .int .i64 (IntKind.i64.wrap (((p0.places).length : Int) - 1))]) en72 (ac rfl (ac rfl (ac rfl rfl))) rfl ?_)
    refine (c72 p1.a 0 (IntKind.i64.wrap (((p0.places).length : Int) - 1)) m7 w1 hm7 ).mono ?_
    rintro _ w8 ⟨rfl, E8⟩
    refine ⟨_, rfl, ?_⟩
    have X9 : Ext w w8 := X3.trans E8
    refine da_op rfl (d_mv (v := .bool m7) rfl ?_)
    rcases Bool.eq_false_or_eq_true m7 with hc10 | hc10
    · skip
      replace hr := bif_t hr hc10
      refine da_on rfl (Eq.trans (show sl _ _ _ = .bool m7 from rfl) (congrArg Value.bool hc10)) (d_fieldAddr rfl (fa42_1 _ _) ?_)
      have B11 : w8.heap[w.heap.size]? = some (.cells #[.int .i64 p1.a, .int .i64 p1.b, .float .f32 p1r2] 42 (0, 0)) := E8.heap B1
      refine da_on rfl (Eq.trans (show sl _ _ _ = .bool m7 from rfl) (congrArg Value.bool hc10)) (d_load (v := .int .i64 p1.b) rfl agg2 B11 rfl ?_)
      refine da_on rfl (Eq.trans (show sl _ _ _ = .bool m7 from rfl) (congrArg Value.bool hc10)) (d_mv (v := .int .i64 (IntKind.i64.wrap (((p0.places).length : Int) - 1))) rfl ?_)
      obtain ⟨m12, hm12, hr⟩ := letv_out hr
      refine da_on rfl (Eq.trans (show sl _ _ _ = .bool m7 from rfl) (congrArg Value.bool hc10)) (d_cl (vs := [.int .i64 p1.b, .int .i64 0, .int .i64 (IntKind.i64.wrap (((p0.places).length : Int) - 1))]) en72 (ac rfl (ac rfl (ac rfl rfl))) rfl ?_)
      refine (c72 p1.b 0 (IntKind.i64.wrap (((p0.places).length : Int) - 1)) m12 w8 hm12 ).mono ?_
      rintro _ w13 ⟨rfl, E13⟩
      refine ⟨_, rfl, ?_⟩
      have X14 : Ext w w13 := X9.trans E13
      refine da_op rfl (d_pick (b := true) (Eq.trans (show ev _ _ = .bool m7 from rfl) (congrArg Value.bool hc10)) ?_)
      refine da_op rfl (d_mv (v := .bool m12) rfl ?_)
      rcases Bool.eq_false_or_eq_true m12 with hc15 | hc15
      · skip
        replace hr := bif_t hr hc15
        refine da_on rfl (Eq.trans (show sl _ _ _ = .bool m12 from rfl) (congrArg Value.bool hc15)) (d_fieldAddr rfl (fa42_0 _ _) ?_)
        have B16 : w13.heap[w.heap.size]? = some (.cells #[.int .i64 p1.a, .int .i64 p1.b, .float .f32 p1r2] 42 (0, 0)) := E13.heap B11
        refine da_on rfl (Eq.trans (show sl _ _ _ = .bool m12 from rfl) (congrArg Value.bool hc15)) (d_load (v := .int .i64 p1.a) rfl agg2 B16 rfl ?_)
        refine da_on rfl (Eq.trans (show sl _ _ _ = .bool m12 from rfl) (congrArg Value.bool hc15)) (d_fieldAddr rfl (fa42_1 _ _) ?_)
        refine da_on rfl (Eq.trans (show sl _ _ _ = .bool m12 from rfl) (congrArg Value.bool hc15)) (d_load (v := .int .i64 p1.b) rfl agg2 B16 rfl ?_)
        refine da_on rfl (Eq.trans (show sl _ _ _ = .bool m12 from rfl) (congrArg Value.bool hc15)) (d_icmp cNeq rfl rfl ?_)
        refine da_op rfl (d_pick (b := true) (Eq.trans (show ev _ _ = .bool m12 from rfl) (congrArg Value.bool hc15)) ?_)
        refine da_op rfl (d_mv (v := .bool (icmp .neq p1.a p1.b)) rfl ?_)
        rcases Bool.eq_false_or_eq_true (icmp .neq p1.a p1.b) with hc17 | hc17
        · skip
          replace hr := bif_t hr hc17
          refine da_on rfl (Eq.trans (show sl _ _ _ = .bool (icmp .neq p1.a p1.b) from rfl) (congrArg Value.bool hc17)) (d_fieldAddr rfl (fa42_2 _ _) ?_)
          refine da_on rfl (Eq.trans (show sl _ _ _ = .bool (icmp .neq p1.a p1.b) from rfl) (congrArg Value.bool hc17)) (d_load (v := .float .f32 p1r2) rfl agg40 B16 rfl ?_)
          obtain ⟨m18, hm18, hr⟩ := letv_out hr
          refine da_on rfl (Eq.trans (show sl _ _ _ = .bool (icmp .neq p1.a p1.b) from rfl) (congrArg Value.bool hc17)) (d_cl (vs := [.float .f32 p1r2]) en79 (ac rfl rfl) rfl ?_)
          refine (c79 p1.long p1r2 m18 w13 hm18 p1h2).mono ?_
          rintro _ w19 ⟨rfl, E19⟩
          refine ⟨_, rfl, ?_⟩
          have X20 : Ext w w19 := X14.trans E19
          refine da_op rfl (d_pick (b := true) (Eq.trans (show ev _ _ = .bool (icmp .neq p1.a p1.b) from rfl) (congrArg Value.bool hc17)) ?_)
          refine da_op rfl (d_as (v := .bool m18) rfl ?_)
          refine da_nil ?_
          subst hr
          exact ⟨rfl, (Ext.trans (Ext.trans (Ext.trans (Ext.refl w1) E8) E13) E19)⟩
        · skip
          replace hr := bif_f hr hc17
          refine da_off rfl (Eq.trans (show sl _ _ _ = .bool (icmp .neq p1.a p1.b) from rfl) (congrArg Value.bool hc17)) (by decide) ?_
          refine da_off rfl (Eq.trans (show sl _ _ _ = .bool (icmp .neq p1.a p1.b) from rfl) (congrArg Value.bool hc17)) (by decide) ?_
          refine da_off rfl (Eq.trans (show sl _ _ _ = .bool (icmp .neq p1.a p1.b) from rfl) (congrArg Value.bool hc17)) (by decide) ?_
          refine da_op rfl (d_pick (b := false) (Eq.trans (show ev _ _ = .bool (icmp .neq p1.a p1.b) from rfl) (congrArg Value.bool hc17)) ?_)
          refine da_op rfl (d_as (v := .bool false) rfl ?_)
          refine da_nil ?_
          subst hr
          exact ⟨rfl, (Ext.trans (Ext.trans (Ext.refl w1) E8) E13)⟩
      · skip
        replace hr := bif_f hr hc15
        refine da_off rfl (Eq.trans (show sl _ _ _ = .bool m12 from rfl) (congrArg Value.bool hc15)) (by decide) ?_
        refine da_off rfl (Eq.trans (show sl _ _ _ = .bool m12 from rfl) (congrArg Value.bool hc15)) (by decide) ?_
        refine da_off rfl (Eq.trans (show sl _ _ _ = .bool m12 from rfl) (congrArg Value.bool hc15)) (by decide) ?_
        refine da_off rfl (Eq.trans (show sl _ _ _ = .bool m12 from rfl) (congrArg Value.bool hc15)) (by decide) ?_
        refine da_off rfl (Eq.trans (show sl _ _ _ = .bool m12 from rfl) (congrArg Value.bool hc15)) (by decide) ?_
        refine da_op rfl (d_pick (b := false) (Eq.trans (show ev _ _ = .bool m12 from rfl) (congrArg Value.bool hc15)) ?_)
        refine da_op rfl (d_mv (v := .bool false) rfl ?_)
        refine da_off rfl rfl (by decide) ?_
        refine da_off rfl rfl (by decide) ?_
        refine da_off rfl rfl (by decide) ?_
        refine da_op rfl (d_pick (b := false) rfl ?_)
        refine da_op rfl (d_as (v := .bool false) rfl ?_)
        refine da_nil ?_
        subst hr
        exact ⟨rfl, (Ext.trans (Ext.trans (Ext.refl w1) E8) E13)⟩
    · skip
      replace hr := bif_f hr hc10
      refine da_off rfl (Eq.trans (show sl _ _ _ = .bool m7 from rfl) (congrArg Value.bool hc10)) (by decide) ?_
      refine da_off rfl (Eq.trans (show sl _ _ _ = .bool m7 from rfl) (congrArg Value.bool hc10)) (by decide) ?_
      refine da_off rfl (Eq.trans (show sl _ _ _ = .bool m7 from rfl) (congrArg Value.bool hc10)) (by decide) ?_
      refine da_off rfl (Eq.trans (show sl _ _ _ = .bool m7 from rfl) (congrArg Value.bool hc10)) (by decide) ?_
      refine da_op rfl (d_pick (b := false) (Eq.trans (show ev _ _ = .bool m7 from rfl) (congrArg Value.bool hc10)) ?_)
      refine da_op rfl (d_mv (v := .bool false) rfl ?_)
      refine da_off rfl rfl (by decide) ?_
      refine da_off rfl rfl (by decide) ?_
      refine da_off rfl rfl (by decide) ?_
      refine da_off rfl rfl (by decide) ?_
      refine da_off rfl rfl (by decide) ?_
      refine da_op rfl (d_pick (b := false) rfl ?_)
      refine da_op rfl (d_mv (v := .bool false) rfl ?_)
      refine da_off rfl rfl (by decide) ?_
      refine da_off rfl rfl (by decide) ?_
      refine da_off rfl rfl (by decide) ?_
      refine da_op rfl (d_pick (b := false) rfl ?_)
      refine da_op rfl (d_as (v := .bool false) rfl ?_)
      refine da_nil ?_
      subst hr
      exact ⟨rfl, (Ext.trans (Ext.refl w1) E8)⟩
  · skip
    rintro σ6 w6 o6 ⟨s4_6, E6⟩
    have X21 : Ext w w6 := X3.trans E6
    refine W_ret ?_
    subst hr
    refine ⟨_, res1 (rv_tmp s4_6), ?_⟩
    exact ⟨rfl, X21⟩
set_option maxHeartbeats 4000000 in
theorem c59 (p0 : SRod) (p1 : SChain) (p0r2 : Nat) (p1b p1o : Nat) (p1c : Array Value) (p1T : TypeId) (p1f : Nat × Nat) (p1v0a : Option Addr) (p1v0n : Nat) (p1v0c : Nat) (p1v1a : Option Addr) (p1v1n : Nat) (p1v1c : Nat) (p1v2a : Option Addr) (p1v2n : Nat) (p1v2c : Nat) (p1v3a : Option Addr) (p1v3n : Nat) (p1v3c : Nat) (r : Bool) (w : World) (hr : M.impl_ValidChain_1 p0 p1 = r) (p0h2 : cn .f32 p0r2 = p0.long) (p1v0R : RS w encSVector (Value.slice p1v0a p1v0n p1v0c) p1.places) (p1v1R : RS w encSVector (Value.slice p1v1a p1v1n p1v1c) p1.before) (p1v2R : RS w encF_f32 (Value.slice p1v2a p1v2n p1v2c) p1.weights) (p1v3R : RS w encSRod (Value.slice p1v3a p1v3n p1v3c) p1.rods) (p1B : w.heap[p1b]? = some (.cells p1c p1T p1f)) (p1P : (p1c.toList.drop p1o).take 4 = [(Value.slice p1v0a p1v0n p1v0c), (Value.slice p1v1a p1v1n p1v1c), (Value.slice p1v2a p1v2n p1v2c), (Value.slice p1v3a p1v3n p1v3c)]) :
    Calls Tryz.prog 59 #[.agg #[.int .i64 p0.a, .int .i64 p0.b, .float .f32 p0r2], .pointer (some ⟨p1b, p1o, none⟩)] w fun e w' => e = .returned (.bool r) ∧ Ext w w' := by
  refine calls_of_W Tryz.func59 rfl (Nat.le_of_ble_eq_true rfl) ?_
  refine W_seq ?_
  refine W_region rfl ?_
  refine da_op rfl (d_box (cs := #[.int .i64 p0.a, .int .i64 p0.b, .float .f32 p0r2]) rfl fun w1 B1 E1 => ?_)
  have own2 : w.heap.size ≤ w.heap.size := Nat.le_trans (Ext.refl w).size (Nat.le_refl _)
  have X3 : Ext w w1 := (Ext.refl w).trans E1
  refine da_op rfl (d_as (v := .bool false) rfl ?_)
  refine da_nil ?_
  refine W_seq ?_
  refine W_region rfl ?_
  refine da_op rfl (d_loads (vs := #[.int .i64 p0.a, .int .i64 p0.b, .float .f32 p0r2]) rfl agg42 size42 B1 rfl ?_)
  obtain ⟨m4, hm4, hr⟩ := letv_out hr
  have B5 : w1.heap[p1b]? = some (.cells p1c p1T p1f) := X3.heap p1B
  have B6 : RS w1 encSVector (Value.slice p1v0a p1v0n p1v0c) p1.places := p1v0R.ext X3
  have B7 : RS w1 encSVector (Value.slice p1v1a p1v1n p1v1c) p1.before := p1v1R.ext X3
  have B8 : RS w1 encF_f32 (Value.slice p1v2a p1v2n p1v2c) p1.weights := p1v2R.ext X3
  have B9 : RS w1 encSRod (Value.slice p1v3a p1v3n p1v3c) p1.rods := p1v3R.ext X3
  refine da_op rfl (d_cl (vs := [.pointer (some ⟨p1b, p1o, none⟩), .agg #[.int .i64 p0.a, .int .i64 p0.b, .float .f32 p0r2]]) en60 (ac rfl (ac rfl rfl)) rfl ?_)
  refine (c60 (⟨p1.places, p1.before, p1.weights, p1.rods⟩ : SChain) (⟨p0.a, p0.b, p0.long⟩ : SRod) p1b p1o p1c p1T p1f p1v0a p1v0n p1v0c p1v1a p1v1n p1v1c p1v2a p1v2n p1v2c p1v3a p1v3n p1v3c p0r2 m4 w1 hm4 B6 B7 B8 B9 B5 (sub_take (vs := #[(Value.slice p1v0a p1v0n p1v0c), (Value.slice p1v1a p1v1n p1v1c), (Value.slice p1v2a p1v2n p1v2c), (Value.slice p1v3a p1v3n p1v3c)]) (us := #[(Value.slice p1v0a p1v0n p1v0c), (Value.slice p1v1a p1v1n p1v1c), (Value.slice p1v2a p1v2n p1v2c), (Value.slice p1v3a p1v3n p1v3c)]) (i := 0) p1P rfl (Nat.le_of_ble_eq_true rfl)) p0h2).mono ?_
  rintro _ w10 ⟨rfl, E10⟩
  refine ⟨_, rfl, ?_⟩
  have X11 : Ext w w10 := X3.trans E10
  refine da_op rfl (d_not rfl ?_)
  refine da_op rfl (d_as (v := .bool (!m4)) rfl ?_)
  refine da_nil ?_
  refine W_ret ?_
  subst hr
  refine ⟨_, res1 (rv_tmp rfl), ?_⟩
  exact ⟨rfl, X11⟩
set_option maxHeartbeats 4000000 in
theorem c80_f59 (p0 : List SRod) (p1c0 : SChain) (p0a : Option Addr) (p0n : Nat) (p0c : Nat) (p1c0b p1c0o : Nat) (p1c0c : Array Value) (p1c0T : TypeId) (p1c0f : Nat × Nat) (p1c0v0a : Option Addr) (p1c0v0n : Nat) (p1c0v0c : Nat) (p1c0v1a : Option Addr) (p1c0v1n : Nat) (p1c0v1c : Nat) (p1c0v2a : Option Addr) (p1c0v2n : Nat) (p1c0v2c : Nat) (p1c0v3a : Option Addr) (p1c0v3n : Nat) (p1c0v3c : Nat) (r : Int) (w : World) (hr : M.slices_IndexFunc___impl_Rod_impl_Rod__f59 p0 p1c0 = some r) (p0R : RS w encSRod (Value.slice p0a p0n p0c) p0) (p1c0v0R : RS w encSVector (Value.slice p1c0v0a p1c0v0n p1c0v0c) p1c0.places) (p1c0v1R : RS w encSVector (Value.slice p1c0v1a p1c0v1n p1c0v1c) p1c0.before) (p1c0v2R : RS w encF_f32 (Value.slice p1c0v2a p1c0v2n p1c0v2c) p1c0.weights) (p1c0v3R : RS w encSRod (Value.slice p1c0v3a p1c0v3n p1c0v3c) p1c0.rods) (p1c0B : w.heap[p1c0b]? = some (.cells p1c0c p1c0T p1c0f)) (p1c0P : (p1c0c.toList.drop p1c0o).take 4 = [(Value.slice p1c0v0a p1c0v0n p1c0v0c), (Value.slice p1c0v1a p1c0v1n p1c0v1c), (Value.slice p1c0v2a p1c0v2n p1c0v2c), (Value.slice p1c0v3a p1c0v3n p1c0v3c)]) :
    Calls Tryz.prog 80 #[(Value.slice p0a p0n p0c), .func (.func 59) #[] #[.pointer (some ⟨p1c0b, p1c0o, none⟩)]] w fun e w' => e = .returned (.int .i64 r) ∧ Ext w w' := by
  refine calls_of_W Tryz.func80 rfl (Nat.le_of_ble_eq_true rfl) ?_
  refine W_seq ?_
  refine W_region rfl ?_
  refine da_op rfl (d_as (v := .int .i64 0) rfl ?_)
  refine da_nil ?_
  refine W_seq ?_
  refine W_seq ?_
  refine W_region rfl ?_
  refine da_op rfl (d_mv (v := (Value.slice p0a p0n p0c)) rfl ?_)
  refine da_op rfl (d_len (e := encSRod) un24 rfl p0R ?_)
  refine da_op rfl (d_mv (v := .int .i64 0) rfl ?_)
  refine da_nil ?_
  refine W_block ?_
  obtain ⟨m1, hm1, hr⟩ := bind_out hr
  refine W_loopM hm1 (fun (s1 : Int) σ w' => σ 8 = .int .i64 s1 ∧ σ 0 = (Value.slice p0a p0n p0c) ∧ σ 1 = .func (.func 59) #[] #[.pointer (some ⟨p1c0b, p1c0o, none⟩)] ∧ σ 7 = .int .i64 ((p0).length : Int) ∧ Ext w w') (fun (e1 : (Unit ⊕ Int)) ex σ w' => sel e1 (fun e1 => ex = .exit 0 ∧ Ext w w') (fun e1 => ex = .ret ∧ σ 4 = .int .i64 e1 ∧ Ext w w')) ⟨rfl, rfl, rfl, rfl, (Ext.refl w)⟩ ?_ ?_
  · skip
    rintro s1 σl1 wl1 r1l ⟨i1_S8, i1_S0, i1_S1, i1_S7, i1_X⟩ hr
    refine W_seq ?_
    refine W_region rfl ?_
    refine da_op rfl (d_icmp cLss i1_S8 i1_S7 ?_)
    refine da_nil ?_
    refine W_seq ?_
    refine W_cond (b := (icmp .lss s1 ((p0).length : Int))) rfl (fun hc2 => ?_) (fun hc2 => ?_)
    · skip
      replace hr := bif_t hr hc2
      refine W_skip ?_
      refine W_seq ?_
      refine W_block ?_
      refine W_seq ?_
      refine W_region rfl ?_
      refine da_op rfl (d_mv (v := .int .i64 s1) i1_S8 ?_)
      refine da_op rfl (d_as (v := .int .i64 s1) rfl ?_)
      refine da_nil ?_
      refine W_seq ?_
      refine W_region rfl ?_
      refine da_op rfl (d_mv (v := .func (.func 59) #[] #[.pointer (some ⟨p1c0b, p1c0o, none⟩)]) i1_S1 ?_)
      refine da_op rfl (d_mv (v := (Value.slice p0a p0n p0c)) i1_S0 ?_)
      refine da_op rfl (d_mv (v := .int .i64 s1) rfl ?_)
      obtain ⟨m3, hm3, hr⟩ := bind_out hr
      have B5 : RS wl1 encSRod (Value.slice p0a p0n p0c) p0 := p0R.ext i1_X
      refine da_op rfl (d_index (e := encSRod) (v := (Value.slice p0a p0n p0c)) un24 size42 rfl rfl B5 hm3 fun g4 o4 cu4 T4 fr4 vs4 hv4 hg4 hp4 hq4 => ?_)
      obtain ⟨e4_r2, rfl, e4_h2⟩ := dec_encSRod hq4
      refine da_op rfl (d_loads (vs := #[.int .i64 m3.a, .int .i64 m3.b, .float .f32 e4_r2]) rfl agg42 size42 hg4 (sub_take (vs := #[.int .i64 m3.a, .int .i64 m3.b, .float .f32 e4_r2]) (us := #[.int .i64 m3.a, .int .i64 m3.b, .float .f32 e4_r2]) (i := 0) hp4 rfl (Nat.le_of_ble_eq_true rfl)) ?_)
      obtain ⟨m6, hm6, hr⟩ := letv_out hr
      have B7 : wl1.heap[p1c0b]? = some (.cells p1c0c p1c0T p1c0f) := i1_X.heap p1c0B
      have B8 : RS wl1 encSVector (Value.slice p1c0v0a p1c0v0n p1c0v0c) p1c0.places := p1c0v0R.ext i1_X
      have B9 : RS wl1 encSVector (Value.slice p1c0v1a p1c0v1n p1c0v1c) p1c0.before := p1c0v1R.ext i1_X
      have B10 : RS wl1 encF_f32 (Value.slice p1c0v2a p1c0v2n p1c0v2c) p1c0.weights := p1c0v2R.ext i1_X
      have B11 : RS wl1 encSRod (Value.slice p1c0v3a p1c0v3n p1c0v3c) p1c0.rods := p1c0v3R.ext i1_X
      refine da_op rfl (d_clv (vs := [.agg #[.int .i64 m3.a, .int .i64 m3.b, .float .f32 e4_r2]]) (cap := [.pointer (some ⟨p1c0b, p1c0o, none⟩)]) en59 rfl (ac rfl rfl) ?_)
      refine (c59 m3 p1c0 e4_r2 p1c0b p1c0o p1c0c p1c0T p1c0f p1c0v0a p1c0v0n p1c0v0c p1c0v1a p1c0v1n p1c0v1c p1c0v2a p1c0v2n p1c0v2c p1c0v3a p1c0v3n p1c0v3c m6 wl1 hm6 e4_h2 B8 B9 B10 B11 B7 (sub_take (vs := #[(Value.slice p1c0v0a p1c0v0n p1c0v0c), (Value.slice p1c0v1a p1c0v1n p1c0v1c), (Value.slice p1c0v2a p1c0v2n p1c0v2c), (Value.slice p1c0v3a p1c0v3n p1c0v3c)]) (us := #[(Value.slice p1c0v0a p1c0v0n p1c0v0c), (Value.slice p1c0v1a p1c0v1n p1c0v1c), (Value.slice p1c0v2a p1c0v2n p1c0v2c), (Value.slice p1c0v3a p1c0v3n p1c0v3c)]) (i := 0) p1c0P rfl (Nat.le_of_ble_eq_true rfl))).mono ?_
      rintro _ w12 ⟨rfl, E12⟩
      refine ⟨_, rfl, ?_⟩
      have X13 : Ext w w12 := i1_X.trans E12
      refine da_nil ?_
      refine W_cond (b := m6) rfl (fun hc14 => ?_) (fun hc14 => ?_)
      · skip
        replace hr := bif_t hr hc14
        refine W_seq ?_
        refine W_region rfl ?_
        refine da_op rfl (d_mv (v := .int .i64 s1) rfl ?_)
        refine da_op rfl (d_as (v := .int .i64 s1) rfl ?_)
        refine da_nil ?_
        refine W_ret ?_
        obtain rfl := Option.some.inj hr
        exact ⟨_, rfl, rfl, rfl, X13⟩
      · skip
        replace hr := bif_f hr hc14
        refine W_skip ?_
        refine W_region rfl ?_
        refine da_op rfl (d_iarith i1_S8 rfl (.inl ⟨rfl, rfl⟩) ?_)
        refine da_op rfl (d_mv (v := .int .i64 (IntKind.i64.wrap (s1 + 1))) rfl ?_)
        refine da_nil ?_
        obtain rfl := Option.some.inj hr
        exact ⟨_, rfl, ⟨rfl, i1_S0, i1_S1, i1_S7, X13⟩⟩
    · skip
      replace hr := bif_f hr hc2
      refine W_exit ?_
      obtain rfl := Option.some.inj hr
      exact ⟨_, rfl, rfl, i1_X⟩
  · skip
    intro ex σx1 wx1 hq
    rcases m1 with m1 | m1
    · skip
      obtain ⟨rfl, q1_0_X⟩ := hq
      refine W_seq ?_
      refine W_region rfl ?_
      refine da_op rfl (d_as (v := .int .i64 (-1)) rfl ?_)
      refine da_nil ?_
      refine W_ret ?_
      obtain rfl := Option.some.inj hr
      refine ⟨_, res1 (rv_tmp rfl), ?_⟩
      exact ⟨rfl, q1_0_X⟩
    · skip
      obtain ⟨rfl, q1_1_S4, q1_1_X⟩ := hq
      obtain rfl := Option.some.inj hr
      refine ⟨_, res1 (rv_tmp q1_1_S4), ?_⟩
      exact ⟨rfl, q1_1_X⟩
set_option maxHeartbeats 4000000 in
theorem c58_f59 (p0 : List SRod) (p1c0 : SChain) (p0a : Option Addr) (p0n : Nat) (p0c : Nat) (p1c0b p1c0o : Nat) (p1c0c : Array Value) (p1c0T : TypeId) (p1c0f : Nat × Nat) (p1c0v0a : Option Addr) (p1c0v0n : Nat) (p1c0v0c : Nat) (p1c0v1a : Option Addr) (p1c0v1n : Nat) (p1c0v1c : Nat) (p1c0v2a : Option Addr) (p1c0v2n : Nat) (p1c0v2c : Nat) (p1c0v3a : Option Addr) (p1c0v3n : Nat) (p1c0v3c : Nat) (r : Bool) (w : World) (hr : M.slices_ContainsFunc___impl_Rod_impl_Rod__f59 p0 p1c0 = some r) (p0R : RS w encSRod (Value.slice p0a p0n p0c) p0) (p1c0v0R : RS w encSVector (Value.slice p1c0v0a p1c0v0n p1c0v0c) p1c0.places) (p1c0v1R : RS w encSVector (Value.slice p1c0v1a p1c0v1n p1c0v1c) p1c0.before) (p1c0v2R : RS w encF_f32 (Value.slice p1c0v2a p1c0v2n p1c0v2c) p1c0.weights) (p1c0v3R : RS w encSRod (Value.slice p1c0v3a p1c0v3n p1c0v3c) p1c0.rods) (p1c0B : w.heap[p1c0b]? = some (.cells p1c0c p1c0T p1c0f)) (p1c0P : (p1c0c.toList.drop p1c0o).take 4 = [(Value.slice p1c0v0a p1c0v0n p1c0v0c), (Value.slice p1c0v1a p1c0v1n p1c0v1c), (Value.slice p1c0v2a p1c0v2n p1c0v2c), (Value.slice p1c0v3a p1c0v3n p1c0v3c)]) :
    Calls Tryz.prog 58 #[(Value.slice p0a p0n p0c), .func (.func 59) #[] #[.pointer (some ⟨p1c0b, p1c0o, none⟩)]] w fun e w' => e = .returned (.bool r) ∧ Ext w w' := by
  refine calls_of_W Tryz.func58 rfl (Nat.le_of_ble_eq_true rfl) ?_
  refine W_seq ?_
  refine W_region rfl ?_
  refine da_op rfl (d_as (v := .bool false) rfl ?_)
  refine da_nil ?_
  refine W_seq ?_
  refine W_region rfl ?_
  refine da_op rfl (d_mv (v := (Value.slice p0a p0n p0c)) rfl ?_)
  refine da_op rfl (d_mv (v := .func (.func 59) #[] #[.pointer (some ⟨p1c0b, p1c0o, none⟩)]) rfl ?_)
  obtain ⟨m1, hm1, hr⟩ := bind_out hr
  refine da_op rfl (d_cl (vs := [(Value.slice p0a p0n p0c), .func (.func 59) #[] #[.pointer (some ⟨p1c0b, p1c0o, none⟩)]]) en80 (ac rfl (ac rfl rfl)) rfl ?_)
  refine (c80_f59 p0 p1c0 p0a p0n p0c p1c0b p1c0o p1c0c p1c0T p1c0f p1c0v0a p1c0v0n p1c0v0c p1c0v1a p1c0v1n p1c0v1c p1c0v2a p1c0v2n p1c0v2c p1c0v3a p1c0v3n p1c0v3c m1 w hm1 p0R p1c0v0R p1c0v1R p1c0v2R p1c0v3R p1c0B (sub_take (vs := #[(Value.slice p1c0v0a p1c0v0n p1c0v0c), (Value.slice p1c0v1a p1c0v1n p1c0v1c), (Value.slice p1c0v2a p1c0v2n p1c0v2c), (Value.slice p1c0v3a p1c0v3n p1c0v3c)]) (us := #[(Value.slice p1c0v0a p1c0v0n p1c0v0c), (Value.slice p1c0v1a p1c0v1n p1c0v1c), (Value.slice p1c0v2a p1c0v2n p1c0v2c), (Value.slice p1c0v3a p1c0v3n p1c0v3c)]) (i := 0) p1c0P rfl (Nat.le_of_ble_eq_true rfl))).mono ?_
  rintro _ w2 ⟨rfl, E2⟩
  refine ⟨_, rfl, ?_⟩
  have X3 : Ext w w2 := (Ext.refl w).trans E2
  refine da_op rfl (d_icmp cGeq rfl rfl ?_)
  refine da_op rfl (d_as (v := .bool (icmp .geq m1 0)) rfl ?_)
  refine da_nil ?_
  refine W_ret ?_
  obtain rfl := Option.some.inj hr
  refine ⟨_, res1 (rv_tmp rfl), ?_⟩
  exact ⟨rfl, X3⟩
set_option maxHeartbeats 4000000 in
theorem c37 (p0 : SChain) (p0v0a : Option Addr) (p0v0n : Nat) (p0v0c : Nat) (p0v1a : Option Addr) (p0v1n : Nat) (p0v1c : Nat) (p0v2a : Option Addr) (p0v2n : Nat) (p0v2c : Nat) (p0v3a : Option Addr) (p0v3n : Nat) (p0v3c : Nat) (r : Bool) (w : World) (hr : M.impl_ValidChain p0 = some r) (p0v0R : RS w encSVector (Value.slice p0v0a p0v0n p0v0c) p0.places) (p0v1R : RS w encSVector (Value.slice p0v1a p0v1n p0v1c) p0.before) (p0v2R : RS w encF_f32 (Value.slice p0v2a p0v2n p0v2c) p0.weights) (p0v3R : RS w encSRod (Value.slice p0v3a p0v3n p0v3c) p0.rods) :
    Calls Tryz.prog 37 #[.agg #[(Value.slice p0v0a p0v0n p0v0c), (Value.slice p0v1a p0v1n p0v1c), (Value.slice p0v2a p0v2n p0v2c), (Value.slice p0v3a p0v3n p0v3c)]] w fun e w' => e = .returned (.bool r) ∧ Ext w w' := by
  refine calls_of_W Tryz.func37 rfl (Nat.le_of_ble_eq_true rfl) ?_
  refine W_seq ?_
  refine W_region rfl ?_
  refine da_op rfl (d_box (cs := #[(Value.slice p0v0a p0v0n p0v0c), (Value.slice p0v1a p0v1n p0v1c), (Value.slice p0v2a p0v2n p0v2c), (Value.slice p0v3a p0v3n p0v3c)]) rfl fun w1 B1 E1 => ?_)
  have own2 : w.heap.size ≤ w.heap.size := Nat.le_trans (Ext.refl w).size (Nat.le_refl _)
  have X3 : Ext w w1 := (Ext.refl w).trans E1
  refine da_op rfl (d_as (v := .bool false) rfl ?_)
  refine da_nil ?_
  refine W_seq ?_
  refine W_region rfl ?_
  refine da_op rfl (d_fieldAddr rfl (fa26_0 _ _) ?_)
  refine da_op rfl (d_load (v := (Value.slice p0v0a p0v0n p0v0c)) rfl agg22 B1 rfl ?_)
  have B4 : RS w1 encSVector (Value.slice p0v0a p0v0n p0v0c) p0.places := p0v0R.ext X3
  refine da_op rfl (d_len (e := encSVector) un22 rfl B4 ?_)
  refine da_op rfl (d_as (v := .int .i64 ((p0.places).length : Int)) rfl ?_)
  refine da_nil ?_
  refine W_seq ?_
  refine W_seq ?_
  obtain ⟨m5, hm5, hr⟩ := letv_out hr
  refine W_cut (fun σ' w' => σ' 28 = .bool m5 ∧ Ext w1 w') rfl ?_ ?_
  · skip
    have hr := hm5
    refine da_op rfl (d_mv (v := .int .i64 ((p0.places).length : Int)) rfl ?_)
    refine da_op rfl (d_icmp cGtr rfl rfl ?_)
    refine da_op rfl (d_mv (v := .bool (icmp .gtr ((p0.places).length : Int) 24)) rfl ?_)
    rcases Bool.eq_false_or_eq_true (icmp .gtr ((p0.places).length : Int) 24) with hc6 | hc6
    · skip
      replace hr := bif_t hr hc6
      refine da_off rfl (Eq.trans (show sl _ _ _ = .bool (icmp .gtr ((p0.places).length : Int) 24) from rfl) (congrArg Value.bool hc6)) (by decide) ?_
      refine da_off rfl (Eq.trans (show sl _ _ _ = .bool (icmp .gtr ((p0.places).length : Int) 24) from rfl) (congrArg Value.bool hc6)) (by decide) ?_
      refine da_off rfl (Eq.trans (show sl _ _ _ = .bool (icmp .gtr ((p0.places).length : Int) 24) from rfl) (congrArg Value.bool hc6)) (by decide) ?_
      refine da_off rfl (Eq.trans (show sl _ _ _ = .bool (icmp .gtr ((p0.places).length : Int) 24) from rfl) (congrArg Value.bool hc6)) (by decide) ?_
      refine da_off rfl (Eq.trans (show sl _ _ _ = .bool (icmp .gtr ((p0.places).length : Int) 24) from rfl) (congrArg Value.bool hc6)) (by decide) ?_
      refine da_op rfl (d_pick (b := true) (Eq.trans (show ev _ _ = .bool (icmp .gtr ((p0.places).length : Int) 24) from rfl) (congrArg Value.bool hc6)) ?_)
      refine da_op rfl (d_mv (v := .bool true) rfl ?_)
      refine da_off rfl rfl (by decide) ?_
      refine da_off rfl rfl (by decide) ?_
      refine da_off rfl rfl (by decide) ?_
      refine da_off rfl rfl (by decide) ?_
      refine da_off rfl rfl (by decide) ?_
      refine da_op rfl (d_pick (b := true) rfl ?_)
      refine da_op rfl (d_mv (v := .bool true) rfl ?_)
      refine da_off rfl rfl (by decide) ?_
      refine da_off rfl rfl (by decide) ?_
      refine da_off rfl rfl (by decide) ?_
      refine da_off rfl rfl (by decide) ?_
      refine da_op rfl (d_pick (b := true) rfl ?_)
      refine da_nil ?_
      subst hr
      exact ⟨rfl, (Ext.refl w1)⟩
    · skip
      replace hr := bif_f hr hc6
      refine da_on rfl (Eq.trans (show sl _ _ _ = .bool (icmp .gtr ((p0.places).length : Int) 24) from rfl) (congrArg Value.bool hc6)) (d_fieldAddr rfl (fa26_1 _ _) ?_)
      refine da_on rfl (Eq.trans (show sl _ _ _ = .bool (icmp .gtr ((p0.places).length : Int) 24) from rfl) (congrArg Value.bool hc6)) (d_load (v := (Value.slice p0v1a p0v1n p0v1c)) rfl agg22 B1 rfl ?_)
      have B7 : RS w1 encSVector (Value.slice p0v1a p0v1n p0v1c) p0.before := p0v1R.ext X3
      refine da_on rfl (Eq.trans (show sl _ _ _ = .bool (icmp .gtr ((p0.places).length : Int) 24) from rfl) (congrArg Value.bool hc6)) (d_len (e := encSVector) un22 rfl B7 ?_)
      refine da_on rfl (Eq.trans (show sl _ _ _ = .bool (icmp .gtr ((p0.places).length : Int) 24) from rfl) (congrArg Value.bool hc6)) (d_mv (v := .int .i64 ((p0.places).length : Int)) rfl ?_)
      refine da_on rfl (Eq.trans (show sl _ _ _ = .bool (icmp .gtr ((p0.places).length : Int) 24) from rfl) (congrArg Value.bool hc6)) (d_icmp cNeq rfl rfl ?_)
      refine da_op rfl (d_pick (b := false) (Eq.trans (show ev _ _ = .bool (icmp .gtr ((p0.places).length : Int) 24) from rfl) (congrArg Value.bool hc6)) ?_)
      refine da_op rfl (d_mv (v := .bool (icmp .neq ((p0.before).length : Int) ((p0.places).length : Int))) rfl ?_)
      rcases Bool.eq_false_or_eq_true (icmp .neq ((p0.before).length : Int) ((p0.places).length : Int)) with hc8 | hc8
      · skip
        replace hr := bif_t hr hc8
        refine da_off rfl (Eq.trans (show sl _ _ _ = .bool (icmp .neq ((p0.before).length : Int) ((p0.places).length : Int)) from rfl) (congrArg Value.bool hc8)) (by decide) ?_
        refine da_off rfl (Eq.trans (show sl _ _ _ = .bool (icmp .neq ((p0.before).length : Int) ((p0.places).length : Int)) from rfl) (congrArg Value.bool hc8)) (by decide) ?_
        refine da_off rfl (Eq.trans (show sl _ _ _ = .bool (icmp .neq ((p0.before).length : Int) ((p0.places).length : Int)) from rfl) (congrArg Value.bool hc8)) (by decide) ?_
        refine da_off rfl (Eq.trans (show sl _ _ _ = .bool (icmp .neq ((p0.before).length : Int) ((p0.places).length : Int)) from rfl) (congrArg Value.bool hc8)) (by decide) ?_
        refine da_off rfl (Eq.trans (show sl _ _ _ = .bool (icmp .neq ((p0.before).length : Int) ((p0.places).length : Int)) from rfl) (congrArg Value.bool hc8)) (by decide) ?_
        refine da_op rfl (d_pick (b := true) (Eq.trans (show ev _ _ = .bool (icmp .neq ((p0.before).length : Int) ((p0.places).length : Int)) from rfl) (congrArg Value.bool hc8)) ?_)
        refine da_op rfl (d_mv (v := .bool true) rfl ?_)
        refine da_off rfl rfl (by decide) ?_
        refine da_off rfl rfl (by decide) ?_
        refine da_off rfl rfl (by decide) ?_
        refine da_off rfl rfl (by decide) ?_
        refine da_op rfl (d_pick (b := true) rfl ?_)
        refine da_nil ?_
        subst hr
        exact ⟨rfl, (Ext.refl w1)⟩
      · skip
        replace hr := bif_f hr hc8
        refine da_on rfl (Eq.trans (show sl _ _ _ = .bool (icmp .neq ((p0.before).length : Int) ((p0.places).length : Int)) from rfl) (congrArg Value.bool hc8)) (d_fieldAddr rfl (fa26_2 _ _) ?_)
        refine da_on rfl (Eq.trans (show sl _ _ _ = .bool (icmp .neq ((p0.before).length : Int) ((p0.places).length : Int)) from rfl) (congrArg Value.bool hc8)) (d_load (v := (Value.slice p0v2a p0v2n p0v2c)) rfl agg23 B1 rfl ?_)
        have B9 : RS w1 encF_f32 (Value.slice p0v2a p0v2n p0v2c) p0.weights := p0v2R.ext X3
        refine da_on rfl (Eq.trans (show sl _ _ _ = .bool (icmp .neq ((p0.before).length : Int) ((p0.places).length : Int)) from rfl) (congrArg Value.bool hc8)) (d_len (e := encF_f32) un23 rfl B9 ?_)
        refine da_on rfl (Eq.trans (show sl _ _ _ = .bool (icmp .neq ((p0.before).length : Int) ((p0.places).length : Int)) from rfl) (congrArg Value.bool hc8)) (d_mv (v := .int .i64 ((p0.places).length : Int)) rfl ?_)
        refine da_on rfl (Eq.trans (show sl _ _ _ = .bool (icmp .neq ((p0.before).length : Int) ((p0.places).length : Int)) from rfl) (congrArg Value.bool hc8)) (d_icmp cNeq rfl rfl ?_)
        refine da_op rfl (d_pick (b := false) (Eq.trans (show ev _ _ = .bool (icmp .neq ((p0.before).length : Int) ((p0.places).length : Int)) from rfl) (congrArg Value.bool hc8)) ?_)
        refine da_op rfl (d_mv (v := .bool (icmp .neq ((p0.weights).length : Int) ((p0.places).length : Int))) rfl ?_)
        rcases Bool.eq_false_or_eq_true (icmp .neq ((p0.weights).length : Int) ((p0.places).length : Int)) with hc10 | hc10
        · skip
          replace hr := bif_t hr hc10
          refine da_off rfl (Eq.trans (show sl _ _ _ = .bool (icmp .neq ((p0.weights).length : Int) ((p0.places).length : Int)) from rfl) (congrArg Value.bool hc10)) (by decide) ?_
          refine da_off rfl (Eq.trans (show sl _ _ _ = .bool (icmp .neq ((p0.weights).length : Int) ((p0.places).length : Int)) from rfl) (congrArg Value.bool hc10)) (by decide) ?_
          refine da_off rfl (Eq.trans (show sl _ _ _ = .bool (icmp .neq ((p0.weights).length : Int) ((p0.places).length : Int)) from rfl) (congrArg Value.bool hc10)) (by decide) ?_
          refine da_off rfl (Eq.trans (show sl _ _ _ = .bool (icmp .neq ((p0.weights).length : Int) ((p0.places).length : Int)) from rfl) (congrArg Value.bool hc10)) (by decide) ?_
          refine da_op rfl (d_pick (b := true) (Eq.trans (show ev _ _ = .bool (icmp .neq ((p0.weights).length : Int) ((p0.places).length : Int)) from rfl) (congrArg Value.bool hc10)) ?_)
          refine da_nil ?_
          subst hr
          exact ⟨rfl, (Ext.refl w1)⟩
        · skip
          replace hr := bif_f hr hc10
          refine da_on rfl (Eq.trans (show sl _ _ _ = .bool (icmp .neq ((p0.weights).length : Int) ((p0.places).length : Int)) from rfl) (congrArg Value.bool hc10)) (d_fieldAddr rfl (fa26_3 _ _) ?_)
          refine da_on rfl (Eq.trans (show sl _ _ _ = .bool (icmp .neq ((p0.weights).length : Int) ((p0.places).length : Int)) from rfl) (congrArg Value.bool hc10)) (d_load (v := (Value.slice p0v3a p0v3n p0v3c)) rfl agg24 B1 rfl ?_)
          have B11 : RS w1 encSRod (Value.slice p0v3a p0v3n p0v3c) p0.rods := p0v3R.ext X3
          refine da_on rfl (Eq.trans (show sl _ _ _ = .bool (icmp .neq ((p0.weights).length : Int) ((p0.places).length : Int)) from rfl) (congrArg Value.bool hc10)) (d_len (e := encSRod) un24 rfl B11 ?_)
          refine da_on rfl (Eq.trans (show sl _ _ _ = .bool (icmp .neq ((p0.weights).length : Int) ((p0.places).length : Int)) from rfl) (congrArg Value.bool hc10)) (d_icmp cGtr rfl rfl ?_)
          refine da_op rfl (d_pick (b := false) (Eq.trans (show ev _ _ = .bool (icmp .neq ((p0.weights).length : Int) ((p0.places).length : Int)) from rfl) (congrArg Value.bool hc10)) ?_)
          refine da_nil ?_
          subst hr
          exact ⟨rfl, (Ext.refl w1)⟩
  · skip
    rintro σ5 w5 o5 ⟨s28_5, E5⟩
    have s1_5 : σ5 1 = .pointer (some ⟨w.heap.size, 0, none⟩) := (o5 1 rfl).trans rfl
    have X12 : Ext w w5 := X3.trans E5
    refine W_cond (b := m5) s28_5 (fun hc13 => ?_) (fun hc13 => ?_)
    · skip
      replace hr := bif_t hr hc13
      refine W_seq ?_
      refine W_region rfl ?_
      refine da_op rfl (d_as (v := .bool false) rfl ?_)
      refine da_nil ?_
      refine W_ret ?_
      obtain rfl := Option.some.inj hr
      refine ⟨_, res1 (rv_tmp rfl), ?_⟩
      exact ⟨rfl, X12⟩
    · skip
      replace hr := bif_f hr hc13
      refine W_skip ?_
      refine W_seq ?_
      refine W_seq ?_
      have B15 : w5.heap[w.heap.size]? = some (.cells #[(Value.slice p0v0a p0v0n p0v0c), (Value.slice p0v1a p0v1n p0v1c), (Value.slice p0v2a p0v2n p0v2c), (Value.slice p0v3a p0v3n p0v3c)] 26 (0, 0)) := E5.heap B1
      obtain ⟨m14, hm14, hr⟩ := bind_out hr
      refine W_cut (fun σ' w' => σ' 41 = .bool m14 ∧ Ext w5 w') rfl ?_ ?_
      · skip
        have hr := hm14
        refine da_op rfl (d_fieldAddr s1_5 (fa26_0 _ _) ?_)
        refine da_op rfl (d_load (v := (Value.slice p0v0a p0v0n p0v0c)) rfl agg22 B15 rfl ?_)
        obtain ⟨m16, hm16, hr⟩ := bind_out hr
        have B17 : RS w5 encSVector (Value.slice p0v0a p0v0n p0v0c) p0.places := p0v0R.ext X12
        refine da_op rfl (d_cl (vs := [(Value.slice p0v0a p0v0n p0v0c), .func (.func 55) #[] #[]]) en54 (ac rfl (ac rfl rfl)) rfl ?_)
        refine (c54_f55 p0.places p0v0a p0v0n p0v0c m16 w5 hm16 B17).mono ?_
        rintro _ w18 ⟨rfl, E18⟩
        refine ⟨_, rfl, ?_⟩
        have X19 : Ext w w18 := X12.trans E18
        refine da_op rfl (d_mv (v := .bool m16) rfl ?_)
        rcases Bool.eq_false_or_eq_true m16 with hc20 | hc20
        · skip
          replace hr := bif_t hr hc20
          refine da_off rfl (Eq.trans (show sl _ _ _ = .bool m16 from rfl) (congrArg Value.bool hc20)) (by decide) ?_
          refine da_off rfl (Eq.trans (show sl _ _ _ = .bool m16 from rfl) (congrArg Value.bool hc20)) (by decide) ?_
          refine da_off rfl (Eq.trans (show sl _ _ _ = .bool m16 from rfl) (congrArg Value.bool hc20)) (by decide) ?_
          refine da_op rfl (d_pick (b := true) (Eq.trans (show ev _ _ = .bool m16 from rfl) (congrArg Value.bool hc20)) ?_)
          refine da_op rfl (d_mv (v := .bool true) rfl ?_)
          refine da_off rfl rfl (by decide) ?_
          refine da_off rfl rfl (by decide) ?_
          refine da_off rfl rfl (by decide) ?_
          refine da_op rfl (d_pick (b := true) rfl ?_)
          refine da_nil ?_
          obtain rfl := Option.some.inj hr
          exact ⟨rfl, (Ext.trans (Ext.refl w5) E18)⟩
        · skip
          replace hr := bif_f hr hc20
          refine da_on rfl (Eq.trans (show sl _ _ _ = .bool m16 from rfl) (congrArg Value.bool hc20)) (d_fieldAddr s1_5 (fa26_1 _ _) ?_)
          have B21 : w18.heap[w.heap.size]? = some (.cells #[(Value.slice p0v0a p0v0n p0v0c), (Value.slice p0v1a p0v1n p0v1c), (Value.slice p0v2a p0v2n p0v2c), (Value.slice p0v3a p0v3n p0v3c)] 26 (0, 0)) := E18.heap B15
          refine da_on rfl (Eq.trans (show sl _ _ _ = .bool m16 from rfl) (congrArg Value.bool hc20)) (d_load (v := (Value.slice p0v1a p0v1n p0v1c)) rfl agg22 B21 rfl ?_)
          obtain ⟨m22, hm22, hr⟩ := bind_out hr
          have B23 : RS w18 encSVector (Value.slice p0v1a p0v1n p0v1c) p0.before := p0v1R.ext X19
          refine da_on rfl (Eq.trans (show sl _ _ _ = .bool m16 from rfl) (congrArg Value.bool hc20)) (d_cl (vs := [(Value.slice p0v1a p0v1n p0v1c), .func (.func 55) #[] #[]]) en54 (ac rfl (ac rfl rfl)) rfl ?_)
          refine (c54_f55 p0.before p0v1a p0v1n p0v1c m22 w18 hm22 B23).mono ?_
          rintro _ w24 ⟨rfl, E24⟩
          refine ⟨_, rfl, ?_⟩
          have X25 : Ext w w24 := X19.trans E24
          refine da_op rfl (d_pick (b := false) (Eq.trans (show ev _ _ = .bool m16 from rfl) (congrArg Value.bool hc20)) ?_)
          refine da_op rfl (d_mv (v := .bool m22) rfl ?_)
          rcases Bool.eq_false_or_eq_true m22 with hc26 | hc26
          · skip
            replace hr := bif_t hr hc26
            refine da_off rfl (Eq.trans (show sl _ _ _ = .bool m22 from rfl) (congrArg Value.bool hc26)) (by decide) ?_
            refine da_off rfl (Eq.trans (show sl _ _ _ = .bool m22 from rfl) (congrArg Value.bool hc26)) (by decide) ?_
            refine da_off rfl (Eq.trans (show sl _ _ _ = .bool m22 from rfl) (congrArg Value.bool hc26)) (by decide) ?_
            refine da_op rfl (d_pick (b := true) (Eq.trans (show ev _ _ = .bool m22 from rfl) (congrArg Value.bool hc26)) ?_)
            refine da_nil ?_
            obtain rfl := Option.some.inj hr
            exact ⟨rfl, (Ext.trans (Ext.trans (Ext.refl w5) E18) E24)⟩
          · skip
            replace hr := bif_f hr hc26
            refine da_on rfl (Eq.trans (show sl _ _ _ = .bool m22 from rfl) (congrArg Value.bool hc26)) (d_fieldAddr s1_5 (fa26_2 _ _) ?_)
            have B27 : w24.heap[w.heap.size]? = some (.cells #[(Value.slice p0v0a p0v0n p0v0c), (Value.slice p0v1a p0v1n p0v1c), (Value.slice p0v2a p0v2n p0v2c), (Value.slice p0v3a p0v3n p0v3c)] 26 (0, 0)) := E24.heap B21
            refine da_on rfl (Eq.trans (show sl _ _ _ = .bool m22 from rfl) (congrArg Value.bool hc26)) (d_load (v := (Value.slice p0v2a p0v2n p0v2c)) rfl agg23 B27 rfl ?_)
            obtain ⟨m28, hm28, hr⟩ := bind_out hr
            have B29 : RS w24 encF_f32 (Value.slice p0v2a p0v2n p0v2c) p0.weights := p0v2R.ext X25
            refine da_on rfl (Eq.trans (show sl _ _ _ = .bool m22 from rfl) (congrArg Value.bool hc26)) (d_cl (vs := [(Value.slice p0v2a p0v2n p0v2c), .func (.func 57) #[] #[]]) en56 (ac rfl (ac rfl rfl)) rfl ?_)
            refine (c56_f57 p0.weights p0v2a p0v2n p0v2c m28 w24 hm28 B29).mono ?_
            rintro _ w30 ⟨rfl, E30⟩
            refine ⟨_, rfl, ?_⟩
            have X31 : Ext w w30 := X25.trans E30
            refine da_op rfl (d_pick (b := false) (Eq.trans (show ev _ _ = .bool m22 from rfl) (congrArg Value.bool hc26)) ?_)
            refine da_nil ?_
            obtain rfl := Option.some.inj hr
            exact ⟨rfl, (Ext.trans (Ext.trans (Ext.trans (Ext.refl w5) E18) E24) E30)⟩
      · skip
        rintro σ14 w14 o14 ⟨s41_14, E14⟩
        have s1_14 : σ14 1 = .pointer (some ⟨w.heap.size, 0, none⟩) := (o14 1 rfl).trans s1_5
        have X32 : Ext w w14 := X12.trans E14
        refine W_cond (b := m14) s41_14 (fun hc33 => ?_) (fun hc33 => ?_)
        · skip
          replace hr := bif_t hr hc33
          refine W_seq ?_
          refine W_region rfl ?_
          refine da_op rfl (d_as (v := .bool false) rfl ?_)
          refine da_nil ?_
          refine W_ret ?_
          obtain rfl := Option.some.inj hr
          refine ⟨_, res1 (rv_tmp rfl), ?_⟩
          exact ⟨rfl, X32⟩
        · skip
          replace hr := bif_f hr hc33
          refine W_skip ?_
          refine W_seq ?_
          refine W_region rfl ?_
          refine da_op rfl (d_fieldAddr s1_14 (fa26_3 _ _) ?_)
          have B34 : w14.heap[w.heap.size]? = some (.cells #[(Value.slice p0v0a p0v0n p0v0c), (Value.slice p0v1a p0v1n p0v1c), (Value.slice p0v2a p0v2n p0v2c), (Value.slice p0v3a p0v3n p0v3c)] 26 (0, 0)) := E14.heap B15
          refine da_op rfl (d_load (v := (Value.slice p0v3a p0v3n p0v3c)) rfl agg24 B34 rfl ?_)
          refine da_op rfl (d_fn (vs := [.pointer (some ⟨w.heap.size, 0, none⟩)]) (ac s1_14 rfl) ?_)
          obtain ⟨m35, hm35, hr⟩ := bind_out hr
          have B36 : RS w14 encSRod (Value.slice p0v3a p0v3n p0v3c) p0.rods := p0v3R.ext X32
          have B37 : RS w14 encSVector (Value.slice p0v0a p0v0n p0v0c) p0.places := p0v0R.ext X32
          have B38 : RS w14 encSVector (Value.slice p0v1a p0v1n p0v1c) p0.before := p0v1R.ext X32
          have B39 : RS w14 encF_f32 (Value.slice p0v2a p0v2n p0v2c) p0.weights := p0v2R.ext X32
          refine da_op rfl (d_cl (vs := [(Value.slice p0v3a p0v3n p0v3c), .func (.func 59) #[] #[.pointer (some ⟨w.heap.size, 0, none⟩)]]) en58 (ac rfl (ac rfl rfl)) rfl ?_)
          refine (c58_f59 p0.rods (⟨p0.places, p0.before, p0.weights, p0.rods⟩ : SChain) p0v3a p0v3n p0v3c w.heap.size 0 #[(Value.slice p0v0a p0v0n p0v0c), (Value.slice p0v1a p0v1n p0v1c), (Value.slice p0v2a p0v2n p0v2c), (Value.slice p0v3a p0v3n p0v3c)] 26 (0, 0) p0v0a p0v0n p0v0c p0v1a p0v1n p0v1c p0v2a p0v2n p0v2c p0v3a p0v3n p0v3c m35 w14 hm35 B36 B37 B38 B39 B36 B34 rfl).mono ?_
          rintro _ w40 ⟨rfl, E40⟩
          refine ⟨_, rfl, ?_⟩
          have X41 : Ext w w40 := X32.trans E40
          refine da_op rfl (d_not rfl ?_)
          refine da_op rfl (d_as (v := .bool (!m35)) rfl ?_)
          refine da_nil ?_
          refine W_ret ?_
          obtain rfl := Option.some.inj hr
          refine ⟨_, res1 (rv_tmp rfl), ?_⟩
          exact ⟨rfl, X41⟩
set_option maxHeartbeats 4000000 in
theorem c15 (p0 : SChain) (p0v0a : Option Addr) (p0v0n : Nat) (p0v0c : Nat) (p0v1a : Option Addr) (p0v1n : Nat) (p0v1c : Nat) (p0v2a : Option Addr) (p0v2n : Nat) (p0v2c : Nat) (p0v3a : Option Addr) (p0v3n : Nat) (p0v3c : Nat) (r : SChain × Bool) (w : World) (hr : M.impl_toldChain p0 = some r) (p0v0R : RS w encSVector (Value.slice p0v0a p0v0n p0v0c) p0.places) (p0v1R : RS w encSVector (Value.slice p0v1a p0v1n p0v1c) p0.before) (p0v2R : RS w encF_f32 (Value.slice p0v2a p0v2n p0v2c) p0.weights) (p0v3R : RS w encSRod (Value.slice p0v3a p0v3n p0v3c) p0.rods) :
    Calls Tryz.prog 15 #[.agg #[(Value.slice p0v0a p0v0n p0v0c), (Value.slice p0v1a p0v1n p0v1c), (Value.slice p0v2a p0v2n p0v2c), (Value.slice p0v3a p0v3n p0v3c)]] w fun e w' => ∃ q0v0a : Option Addr, ∃ q0v0n : Nat, ∃ q0v0c : Nat, ∃ q0v1a : Option Addr, ∃ q0v1n : Nat, ∃ q0v1c : Nat, ∃ q0v2a : Option Addr, ∃ q0v2n : Nat, ∃ q0v2c : Nat, ∃ q0v3a : Option Addr, ∃ q0v3n : Nat, ∃ q0v3c : Nat, e = .returned (.tuple #[.agg #[(Value.slice q0v0a q0v0n q0v0c), (Value.slice q0v1a q0v1n q0v1c), (Value.slice q0v2a q0v2n q0v2c), (Value.slice q0v3a q0v3n q0v3c)], .bool r.2]) ∧ Hand (Value.slice p0v0a p0v0n p0v0c) p0.places (Value.slice q0v0a q0v0n q0v0c) r.1.places ∧ Hand (Value.slice p0v1a p0v1n p0v1c) p0.before (Value.slice q0v1a q0v1n q0v1c) r.1.before ∧ Hand (Value.slice p0v2a p0v2n p0v2c) p0.weights (Value.slice q0v2a q0v2n q0v2c) r.1.weights ∧ Hand (Value.slice p0v3a p0v3n p0v3c) p0.rods (Value.slice q0v3a q0v3n q0v3c) r.1.rods ∧ Ext w w' := by
  refine calls_of_W Tryz.func15 rfl (Nat.le_of_ble_eq_true rfl) ?_
  refine W_seq ?_
  refine W_region rfl ?_
  refine da_op rfl (d_box (cs := #[(Value.slice p0v0a p0v0n p0v0c), (Value.slice p0v1a p0v1n p0v1c), (Value.slice p0v2a p0v2n p0v2c), (Value.slice p0v3a p0v3n p0v3c)]) rfl fun w1 B1 E1 => ?_)
  have own2 : w.heap.size ≤ w.heap.size := Nat.le_trans (Ext.refl w).size (Nat.le_refl _)
  have X3 : Ext w w1 := (Ext.refl w).trans E1
  refine da_op rfl (d_alloc (cs := #[.slice none 0 0, .slice none 0 0, .slice none 0 0, .slice none 0 0]) zero26 rfl fun w4 B4 E4 => ?_)
  have own5 : w.heap.size ≤ w1.heap.size := Nat.le_trans X3.size (Nat.le_refl _)
  have sp6 : w.heap.size ≠ w1.heap.size := Nat.ne_of_lt (Nat.lt_of_lt_of_le (lt_heap B1) (Nat.le_refl _))
  have X7 : Ext w w4 := X3.trans E4
  refine da_op rfl (d_as (v := .bool false) rfl ?_)
  refine da_nil ?_
  refine W_seq ?_
  refine W_seq ?_
  refine W_region rfl ?_
  have B8 : w4.heap[w.heap.size]? = some (.cells #[(Value.slice p0v0a p0v0n p0v0c), (Value.slice p0v1a p0v1n p0v1c), (Value.slice p0v2a p0v2n p0v2c), (Value.slice p0v3a p0v3n p0v3c)] 26 (0, 0)) := E4.heap B1
  refine da_op rfl (d_loads (vs := #[(Value.slice p0v0a p0v0n p0v0c), (Value.slice p0v1a p0v1n p0v1c), (Value.slice p0v2a p0v2n p0v2c), (Value.slice p0v3a p0v3n p0v3c)]) rfl agg26 size26 B8 rfl ?_)
  obtain ⟨m9, hm9, hr⟩ := bind_out hr
  have B10 : RS w4 encSVector (Value.slice p0v0a p0v0n p0v0c) p0.places := p0v0R.ext X7
  have B11 : RS w4 encSVector (Value.slice p0v1a p0v1n p0v1c) p0.before := p0v1R.ext X7
  have B12 : RS w4 encF_f32 (Value.slice p0v2a p0v2n p0v2c) p0.weights := p0v2R.ext X7
  have B13 : RS w4 encSRod (Value.slice p0v3a p0v3n p0v3c) p0.rods := p0v3R.ext X7
  refine da_op rfl (d_cl (vs := [.agg #[(Value.slice p0v0a p0v0n p0v0c), (Value.slice p0v1a p0v1n p0v1c), (Value.slice p0v2a p0v2n p0v2c), (Value.slice p0v3a p0v3n p0v3c)]]) en37 (ac rfl rfl) rfl ?_)
  refine (c37 p0 p0v0a p0v0n p0v0c p0v1a p0v1n p0v1c p0v2a p0v2n p0v2c p0v3a p0v3n p0v3c m9 w4 hm9 B10 B11 B12 B13).mono ?_
  rintro _ w14 ⟨rfl, E14⟩
  refine ⟨_, rfl, ?_⟩
  have X15 : Ext w w14 := X7.trans E14
  refine da_op rfl (d_not rfl ?_)
  refine da_nil ?_
  refine W_cond (b := (!m9)) rfl (fun hc16 => ?_) (fun hc16 => ?_)
  · skip
    replace hr := bif_t hr hc16
    refine W_seq ?_
    refine W_region rfl ?_
    refine da_op rfl (d_bd (vs := []) (cs := #[.slice none 0 0, .slice none 0 0, .slice none 0 0, .slice none 0 0]) rfl (by kernel_rfl) ?_)
    have B17 : w14.heap[w1.heap.size]? = some (.cells #[.slice none 0 0, .slice none 0 0, .slice none 0 0, .slice none 0 0] 26 (0, 0)) := E14.heap B4
    refine da_op rfl (d_store (vs := #[.slice none 0 0, .slice none 0 0, .slice none 0 0, .slice none 0 0]) rfl rfl B17 size26 (Nat.le_of_ble_eq_true rfl) rfl fun w18 S18 => ?_)
    have X19 : Ext w w18 := Ext.step X15 S18.frmb (fun k _ hk => hk ▸ own5)
    have B20 : w18.heap[w1.heap.size]? = some (.cells #[.slice none 0 0, .slice none 0 0, .slice none 0 0, .slice none 0 0] 26 (0, 0)) := S18.here
    refine da_op rfl (d_as (v := .bool false) rfl ?_)
    refine da_nil ?_
    refine W_ret ?_
    obtain rfl := Option.some.inj hr
    refine ⟨_, res2 (rv_cells (vs := #[.slice none 0 0, .slice none 0 0, .slice none 0 0, .slice none 0 0]) rfl agg26 size26 B20 rfl) (rv_tmp rfl), ?_⟩
    exact ⟨none, 0, 0, none, 0, 0, none, 0, 0, none, 0, 0, rfl, (.inr ⟨rfl, rfl⟩), (.inr ⟨rfl, rfl⟩), (.inr ⟨rfl, rfl⟩), (.inr ⟨rfl, rfl⟩), X19⟩
  · skip
    replace hr := bif_f hr hc16
    refine W_skip ?_
    refine W_seq ?_
    refine W_region rfl ?_
    have B21 : w14.heap[w.heap.size]? = some (.cells #[(Value.slice p0v0a p0v0n p0v0c), (Value.slice p0v1a p0v1n p0v1c), (Value.slice p0v2a p0v2n p0v2c), (Value.slice p0v3a p0v3n p0v3c)] 26 (0, 0)) := E14.heap B8
    refine da_op rfl (d_loads (vs := #[(Value.slice p0v0a p0v0n p0v0c), (Value.slice p0v1a p0v1n p0v1c), (Value.slice p0v2a p0v2n p0v2c), (Value.slice p0v3a p0v3n p0v3c)]) rfl agg26 size26 B21 rfl ?_)
    have B22 : w14.heap[w1.heap.size]? = some (.cells #[.slice none 0 0, .slice none 0 0, .slice none 0 0, .slice none 0 0] 26 (0, 0)) := E14.heap B4
    refine da_op rfl (d_store (vs := #[(Value.slice p0v0a p0v0n p0v0c), (Value.slice p0v1a p0v1n p0v1c), (Value.slice p0v2a p0v2n p0v2c), (Value.slice p0v3a p0v3n p0v3c)]) rfl rfl B22 size26 (Nat.le_of_ble_eq_true rfl) rfl fun w23 S23 => ?_)
    have X24 : Ext w w23 := Ext.step X15 S23.frmb (fun k _ hk => hk ▸ own5)
    have B25 : w23.heap[w1.heap.size]? = some (.cells #[(Value.slice p0v0a p0v0n p0v0c), (Value.slice p0v1a p0v1n p0v1c), (Value.slice p0v2a p0v2n p0v2c), (Value.slice p0v3a p0v3n p0v3c)] 26 (0, 0)) := S23.here
    refine da_op rfl (d_as (v := .bool true) rfl ?_)
    refine da_nil ?_
    refine W_ret ?_
    obtain rfl := Option.some.inj hr
    refine ⟨_, res2 (rv_cells (vs := #[(Value.slice p0v0a p0v0n p0v0c), (Value.slice p0v1a p0v1n p0v1c), (Value.slice p0v2a p0v2n p0v2c), (Value.slice p0v3a p0v3n p0v3c)]) rfl agg26 size26 B25 rfl) (rv_tmp rfl), ?_⟩
    exact ⟨p0v0a, p0v0n, p0v0c, p0v1a, p0v1n, p0v1c, p0v2a, p0v2n, p0v2c, p0v3a, p0v3n, p0v3c, rfl, (.inl ⟨rfl, rfl⟩), (.inl ⟨rfl, rfl⟩), (.inl ⟨rfl, rfl⟩), (.inl ⟨rfl, rfl⟩), X24⟩
set_option maxHeartbeats 4000000 in
theorem c5 (p0 : List UInt8) (r : SChain × Bool) (w : World) (hr : M.impl_ReadChain p0 = some r) (t_TSyn : TSyn Tryz.prog w) (t_TRan : TRan Tryz.prog w) (t_T10 : T10 Tryz.prog w) :
    Calls Tryz.prog 5 #[.string (bs p0)] w fun e w' => ∃ q0v0a : Option Addr, ∃ q0v0n : Nat, ∃ q0v0c : Nat, ∃ q0v1a : Option Addr, ∃ q0v1n : Nat, ∃ q0v1c : Nat, ∃ q0v2a : Option Addr, ∃ q0v2n : Nat, ∃ q0v2c : Nat, ∃ q0v3a : Option Addr, ∃ q0v3n : Nat, ∃ q0v3c : Nat, e = .returned (.tuple #[.agg #[(Value.slice q0v0a q0v0n q0v0c), (Value.slice q0v1a q0v1n q0v1c), (Value.slice q0v2a q0v2n q0v2c), (Value.slice q0v3a q0v3n q0v3c)], .bool r.2]) ∧ OS w' 57 encSVector (Value.slice q0v0a q0v0n q0v0c) r.1.places ∧ (∀ k, (Value.slice q0v0a q0v0n q0v0c).ownBlock = some k → w.heap.size ≤ k) ∧ OS w' 57 encSVector (Value.slice q0v1a q0v1n q0v1c) r.1.before ∧ (∀ k, (Value.slice q0v1a q0v1n q0v1c).ownBlock = some k → w.heap.size ≤ k) ∧ OS w' 40 encF_f32 (Value.slice q0v2a q0v2n q0v2c) r.1.weights ∧ (∀ k, (Value.slice q0v2a q0v2n q0v2c).ownBlock = some k → w.heap.size ≤ k) ∧ OS w' 42 encSRod (Value.slice q0v3a q0v3n q0v3c) r.1.rods ∧ (∀ k, (Value.slice q0v3a q0v3n q0v3c).ownBlock = some k → w.heap.size ≤ k) ∧ (∀ k, (Value.slice q0v0a q0v0n q0v0c).ownBlock = some k → ¬ (Value.slice q0v1a q0v1n q0v1c).ownBlock = some k) ∧ (∀ k, (Value.slice q0v0a q0v0n q0v0c).ownBlock = some k → ¬ (Value.slice q0v2a q0v2n q0v2c).ownBlock = some k) ∧ (∀ k, (Value.slice q0v1a q0v1n q0v1c).ownBlock = some k → ¬ (Value.slice q0v2a q0v2n q0v2c).ownBlock = some k) ∧ (∀ k, (Value.slice q0v0a q0v0n q0v0c).ownBlock = some k → ¬ (Value.slice q0v3a q0v3n q0v3c).ownBlock = some k) ∧ (∀ k, (Value.slice q0v1a q0v1n q0v1c).ownBlock = some k → ¬ (Value.slice q0v3a q0v3n q0v3c).ownBlock = some k) ∧ (∀ k, (Value.slice q0v2a q0v2n q0v2c).ownBlock = some k → ¬ (Value.slice q0v3a q0v3n q0v3c).ownBlock = some k) ∧ Ext w w' := by
  refine calls_of_W Tryz.func5 rfl (Nat.le_of_ble_eq_true rfl) ?_
  refine W_seq ?_
  refine W_region rfl ?_
  refine da_op rfl (d_alloc (cs := #[.slice none 0 0, .slice none 0 0, .slice none 0 0, .slice none 0 0]) zero26 rfl fun w1 B1 E1 => ?_)
  have own2 : w.heap.size ≤ w.heap.size := Nat.le_trans (Ext.refl w).size (Nat.le_refl _)
  have X3 : Ext w w1 := (Ext.refl w).trans E1
  refine da_op rfl (d_as (v := .bool false) rfl ?_)
  refine da_nil ?_
  refine W_seq ?_
  refine W_region rfl ?_
  refine da_op rfl (d_mv (v := .string (bs p0)) rfl ?_)
  obtain ⟨m4, hm4, hr⟩ := bind_out hr
  refine da_op rfl (d_cl (vs := [.string (bs p0), .string (bs ([59] : List UInt8))]) en10 (ac rfl (ac rfl rfl)) rfl ?_)
  refine (c10_s3b p0 m4 w1 hm4 ).mono ?_
  rintro _ w5 ⟨q5_0a, q5_0n, q5_0c, rfl, q5_0R, q5_0F, E5⟩
  refine ⟨_, rfl, ?_⟩
  have own6 : ∀ k, (Value.slice q5_0a q5_0n q5_0c).ownBlock = some k → w.heap.size ≤ k := fun k hk => Nat.le_trans X3.size (q5_0F k hk)
  have sp7 : ¬ (Value.slice q5_0a q5_0n q5_0c).ownBlock = some w.heap.size := ne_fresh q5_0F (lt_heap B1)
  have X8 : Ext w w5 := X3.trans E5
  refine da_op rfl (d_as (v := (Value.slice q5_0a q5_0n q5_0c)) rfl ?_)
  refine da_nil ?_
  refine W_seq ?_
  refine W_seq ?_
  refine W_region rfl ?_
  refine da_op rfl (d_mv (v := (Value.slice q5_0a q5_0n q5_0c)) rfl ?_)
  refine da_op rfl (d_len (e := encS) un32 rfl q5_0R ?_)
  refine da_op rfl (d_icmp cNeq rfl rfl ?_)
  refine da_nil ?_
  refine W_cond (b := (icmp .neq ((m4).length : Int) 4)) rfl (fun hc9 => ?_) (fun hc9 => ?_)
  · skip
    replace hr := bif_t hr hc9
    refine W_seq ?_
    refine W_region rfl ?_
    refine da_op rfl (d_bd (vs := []) (cs := #[.slice none 0 0, .slice none 0 0, .slice none 0 0, .slice none 0 0]) rfl (by kernel_rfl) ?_)
    have B10 : w5.heap[w.heap.size]? = some (.cells #[.slice none 0 0, .slice none 0 0, .slice none 0 0, .slice none 0 0] 26 (0, 0)) := E5.heap B1
    refine da_op rfl (d_store (vs := #[.slice none 0 0, .slice none 0 0, .slice none 0 0, .slice none 0 0]) rfl rfl B10 size26 (Nat.le_of_ble_eq_true rfl) rfl fun w11 S11 => ?_)
    have X12 : Ext w w11 := Ext.step X8 S11.frmb (fun k _ hk => hk ▸ own2)
    have B13 : w11.heap[w.heap.size]? = some (.cells #[.slice none 0 0, .slice none 0 0, .slice none 0 0, .slice none 0 0] 26 (0, 0)) := S11.here
    refine da_op rfl (d_as (v := .bool false) rfl ?_)
    refine da_nil ?_
    refine W_ret ?_
    obtain rfl := Option.some.inj hr
    refine ⟨_, res2 (rv_cells (vs := #[.slice none 0 0, .slice none 0 0, .slice none 0 0, .slice none 0 0]) rfl agg26 size26 B13 rfl) (rv_tmp rfl), ?_⟩
    exact ⟨none, 0, 0, none, 0, 0, none, 0, 0, none, 0, 0, rfl, (OS.nil _ 57 encSVector), (fun k hk => by cases hk), (OS.nil _ 57 encSVector), (fun k hk => by cases hk), (OS.nil _ 40 encF_f32), (fun k hk => by cases hk), (OS.nil _ 42 encSRod), (fun k hk => by cases hk), (by intro k hk; cases hk), (by intro k hk; cases hk), (by intro k hk; cases hk), (by intro k hk; cases hk), (by intro k hk; cases hk), (by intro k hk; cases hk), X12⟩
  · skip
    replace hr := bif_f hr hc9
    refine W_skip ?_
    refine W_seq ?_
    refine W_region rfl ?_
    refine da_op rfl (d_mv (v := (Value.slice q5_0a q5_0n q5_0c)) rfl ?_)
    obtain ⟨m14, hm14, hr⟩ := bind_out hr
    refine da_op rfl (d_index (e := encS) (v := (Value.slice q5_0a q5_0n q5_0c)) un32 size9 rfl rfl q5_0R hm14 fun g15 o15 cu15 T15 fr15 vs15 hv15 hg15 hp15 hq15 => ?_)
    obtain rfl := dec_encS hq15
    refine da_op rfl (d_load (v := .string (bs m14)) rfl agg9 hg15 (sub_get (vs := #[.string (bs m14)]) hp15 (i := 0) rfl) ?_)
    obtain ⟨m16, hm16, hr⟩ := bind_out hr
    have B17 : w5.heap[w.heap.size]? = some (.cells #[.slice none 0 0, .slice none 0 0, .slice none 0 0, .slice none 0 0] 26 (0, 0)) := E5.heap B1
    refine da_op rfl (d_cl (vs := [.string (bs m14)]) en11 (ac rfl rfl) rfl ?_)
    refine (c11 m14 m16 w5 hm16 ).mono ?_
    rintro _ w18 ⟨q18_0a, q18_0n, q18_0c, rfl, q18_0R, q18_0F, E18⟩
    refine ⟨_, rfl, ?_⟩
    have own19 : ∀ k, (Value.slice q18_0a q18_0n q18_0c).ownBlock = some k → w.heap.size ≤ k := fun k hk => Nat.le_trans X8.size (q18_0F k hk)
    have sp20 : ¬ (Value.slice q18_0a q18_0n q18_0c).ownBlock = some w.heap.size := ne_fresh q18_0F (lt_heap B17)
    have sp21 : ∀ k, (Value.slice q5_0a q5_0n q5_0c).ownBlock = some k → ¬ (Value.slice q18_0a q18_0n q18_0c).ownBlock = some k := apart_freshR q5_0R q18_0F
    have sp22 : ¬ (Value.slice q18_0a q18_0n q18_0c).ownBlock = some g15 := ne_fresh q18_0F (lt_heap hg15)
    have X23 : Ext w w18 := X8.trans E18
    refine da_op rfl (d_mv (v := .tuple #[(Value.slice q18_0a q18_0n q18_0c), .bool m16.2]) rfl ?_)
    refine da_op rfl (d_extract (v := (Value.slice q18_0a q18_0n q18_0c)) rfl rfl ?_)
    refine da_op rfl (d_extract (v := .bool m16.2) rfl rfl ?_)
    refine da_op rfl (d_as (v := (Value.slice q18_0a q18_0n q18_0c)) rfl ?_)
    refine da_op rfl (d_as (v := .bool m16.2) rfl ?_)
    refine da_nil ?_
    refine W_seq ?_
    refine W_region rfl ?_
    refine da_op rfl (d_mv (v := (Value.slice q5_0a q5_0n q5_0c)) rfl ?_)
    obtain ⟨m24, hm24, hr⟩ := bind_out hr
    have B26 : RS w18 encS (Value.slice q5_0a q5_0n q5_0c) m4 := q5_0R.ext E18
    refine da_op rfl (d_index (e := encS) (v := (Value.slice q5_0a q5_0n q5_0c)) un32 size9 rfl rfl B26 hm24 fun g25 o25 cu25 T25 fr25 vs25 hv25 hg25 hp25 hq25 => ?_)
    obtain rfl := dec_encS hq25
    refine da_op rfl (d_load (v := .string (bs m24)) rfl agg9 hg25 (sub_get (vs := #[.string (bs m24)]) hp25 (i := 0) rfl) ?_)
    obtain ⟨m27, hm27, hr⟩ := bind_out hr
    have B28 : w18.heap[w.heap.size]? = some (.cells #[.slice none 0 0, .slice none 0 0, .slice none 0 0, .slice none 0 0] 26 (0, 0)) := E18.heap B17
    refine da_op rfl (d_cl (vs := [.string (bs m24)]) en11 (ac rfl rfl) rfl ?_)
    refine (c11 m24 m27 w18 hm27 ).mono ?_
    rintro _ w29 ⟨q29_0a, q29_0n, q29_0c, rfl, q29_0R, q29_0F, E29⟩
    refine ⟨_, rfl, ?_⟩
    have own30 : ∀ k, (Value.slice q29_0a q29_0n q29_0c).ownBlock = some k → w.heap.size ≤ k := fun k hk => Nat.le_trans X23.size (q29_0F k hk)
    have sp31 : ¬ (Value.slice q29_0a q29_0n q29_0c).ownBlock = some w.heap.size := ne_fresh q29_0F (lt_heap B28)
    have sp32 : ∀ k, (Value.slice q5_0a q5_0n q5_0c).ownBlock = some k → ¬ (Value.slice q29_0a q29_0n q29_0c).ownBlock = some k := apart_freshR B26 q29_0F
    have sp33 : ∀ k, (Value.slice q18_0a q18_0n q18_0c).ownBlock = some k → ¬ (Value.slice q29_0a q29_0n q29_0c).ownBlock = some k := apart_fresh q18_0R q29_0F
    have sp34 : ¬ (Value.slice q29_0a q29_0n q29_0c).ownBlock = some g25 := ne_fresh q29_0F (lt_heap hg25)
    have X35 : Ext w w29 := X23.trans E29
    refine da_op rfl (d_mv (v := .tuple #[(Value.slice q29_0a q29_0n q29_0c), .bool m27.2]) rfl ?_)
    refine da_op rfl (d_extract (v := (Value.slice q29_0a q29_0n q29_0c)) rfl rfl ?_)
    refine da_op rfl (d_extract (v := .bool m27.2) rfl rfl ?_)
    refine da_op rfl (d_as (v := (Value.slice q29_0a q29_0n q29_0c)) rfl ?_)
    refine da_op rfl (d_as (v := .bool m27.2) rfl ?_)
    refine da_nil ?_
    refine W_seq ?_
    refine W_region rfl ?_
    refine da_op rfl (d_mv (v := (Value.slice q5_0a q5_0n q5_0c)) rfl ?_)
    obtain ⟨m36, hm36, hr⟩ := bind_out hr
    have B38 : RS w29 encS (Value.slice q5_0a q5_0n q5_0c) m4 := B26.ext E29
    refine da_op rfl (d_index (e := encS) (v := (Value.slice q5_0a q5_0n q5_0c)) un32 size9 rfl rfl B38 hm36 fun g37 o37 cu37 T37 fr37 vs37 hv37 hg37 hp37 hq37 => ?_)
    obtain rfl := dec_encS hq37
    refine da_op rfl (d_load (v := .string (bs m36)) rfl agg9 hg37 (sub_get (vs := #[.string (bs m36)]) hp37 (i := 0) rfl) ?_)
    obtain ⟨m39, hm39, hr⟩ := bind_out hr
    have B40 : w29.heap[w.heap.size]? = some (.cells #[.slice none 0 0, .slice none 0 0, .slice none 0 0, .slice none 0 0] 26 (0, 0)) := E29.heap B28
    have B41 : OS w29 57 encSVector (Value.slice q18_0a q18_0n q18_0c) m16.1 := q18_0R.ext E29
    refine da_op rfl (d_cl (vs := [.string (bs m36)]) en12 (ac rfl rfl) rfl ?_)
    refine (c12 m36 m39 w29 hm39 ).mono ?_
    rintro _ w42 ⟨q42_0a, q42_0n, q42_0c, rfl, q42_0R, q42_0F, E42⟩
    refine ⟨_, rfl, ?_⟩
    have own43 : ∀ k, (Value.slice q42_0a q42_0n q42_0c).ownBlock = some k → w.heap.size ≤ k := fun k hk => Nat.le_trans X35.size (q42_0F k hk)
    have sp44 : ¬ (Value.slice q42_0a q42_0n q42_0c).ownBlock = some w.heap.size := ne_fresh q42_0F (lt_heap B40)
    have sp45 : ∀ k, (Value.slice q5_0a q5_0n q5_0c).ownBlock = some k → ¬ (Value.slice q42_0a q42_0n q42_0c).ownBlock = some k := apart_freshR B38 q42_0F
    have sp46 : ∀ k, (Value.slice q18_0a q18_0n q18_0c).ownBlock = some k → ¬ (Value.slice q42_0a q42_0n q42_0c).ownBlock = some k := apart_fresh B41 q42_0F
    have sp47 : ∀ k, (Value.slice q29_0a q29_0n q29_0c).ownBlock = some k → ¬ (Value.slice q42_0a q42_0n q42_0c).ownBlock = some k := apart_fresh q29_0R q42_0F
    have sp48 : ¬ (Value.slice q42_0a q42_0n q42_0c).ownBlock = some g37 := ne_fresh q42_0F (lt_heap hg37)
    have X49 : Ext w w42 := X35.trans E42
    refine da_op rfl (d_mv (v := .tuple #[(Value.slice q42_0a q42_0n q42_0c), .bool m39.2]) rfl ?_)
    refine da_op rfl (d_extract (v := (Value.slice q42_0a q42_0n q42_0c)) rfl rfl ?_)
    refine da_op rfl (d_extract (v := .bool m39.2) rfl rfl ?_)
    refine da_op rfl (d_as (v := (Value.slice q42_0a q42_0n q42_0c)) rfl ?_)
    refine da_op rfl (d_as (v := .bool m39.2) rfl ?_)
    refine da_nil ?_
    refine W_seq ?_
    refine W_region rfl ?_
    refine da_op rfl (d_mv (v := (Value.slice q5_0a q5_0n q5_0c)) rfl ?_)
    obtain ⟨m50, hm50, hr⟩ := bind_out hr
    have B52 : RS w42 encS (Value.slice q5_0a q5_0n q5_0c) m4 := B38.ext E42
    refine da_op rfl (d_index (e := encS) (v := (Value.slice q5_0a q5_0n q5_0c)) un32 size9 rfl rfl B52 hm50 fun g51 o51 cu51 T51 fr51 vs51 hv51 hg51 hp51 hq51 => ?_)
    obtain rfl := dec_encS hq51
    refine da_op rfl (d_load (v := .string (bs m50)) rfl agg9 hg51 (sub_get (vs := #[.string (bs m50)]) hp51 (i := 0) rfl) ?_)
    obtain ⟨m53, hm53, hr⟩ := bind_out hr
    have B54 : w42.heap[w.heap.size]? = some (.cells #[.slice none 0 0, .slice none 0 0, .slice none 0 0, .slice none 0 0] 26 (0, 0)) := E42.heap B40
    have B55 : OS w42 57 encSVector (Value.slice q18_0a q18_0n q18_0c) m16.1 := B41.ext E42
    have B56 : OS w42 57 encSVector (Value.slice q29_0a q29_0n q29_0c) m27.1 := q29_0R.ext E42
    refine da_op rfl (d_cl (vs := [.string (bs m50), .int .i64 40]) en13 (ac rfl (ac rfl rfl)) rfl ?_)
    refine (c13 m50 40 m53 w42 hm53 ).mono ?_
    rintro _ w57 ⟨q57_0a, q57_0n, q57_0c, rfl, q57_0R, q57_0F, E57⟩
    refine ⟨_, rfl, ?_⟩
    have own58 : ∀ k, (Value.slice q57_0a q57_0n q57_0c).ownBlock = some k → w.heap.size ≤ k := fun k hk => Nat.le_trans X49.size (q57_0F k hk)
    have sp59 : ¬ (Value.slice q57_0a q57_0n q57_0c).ownBlock = some w.heap.size := ne_fresh q57_0F (lt_heap B54)
    have sp60 : ∀ k, (Value.slice q5_0a q5_0n q5_0c).ownBlock = some k → ¬ (Value.slice q57_0a q57_0n q57_0c).ownBlock = some k := apart_freshR B52 q57_0F
    have sp61 : ∀ k, (Value.slice q18_0a q18_0n q18_0c).ownBlock = some k → ¬ (Value.slice q57_0a q57_0n q57_0c).ownBlock = some k := apart_fresh B55 q57_0F
    have sp62 : ∀ k, (Value.slice q29_0a q29_0n q29_0c).ownBlock = some k → ¬ (Value.slice q57_0a q57_0n q57_0c).ownBlock = some k := apart_fresh B56 q57_0F
    have sp63 : ∀ k, (Value.slice q42_0a q42_0n q42_0c).ownBlock = some k → ¬ (Value.slice q57_0a q57_0n q57_0c).ownBlock = some k := apart_fresh q42_0R q57_0F
    have sp64 : ¬ (Value.slice q57_0a q57_0n q57_0c).ownBlock = some g51 := ne_fresh q57_0F (lt_heap hg51)
    have X65 : Ext w w57 := X49.trans E57
    refine da_op rfl (d_mv (v := .tuple #[(Value.slice q57_0a q57_0n q57_0c), .bool m53.2]) rfl ?_)
    refine da_op rfl (d_extract (v := (Value.slice q57_0a q57_0n q57_0c)) rfl rfl ?_)
    refine da_op rfl (d_extract (v := .bool m53.2) rfl rfl ?_)
    refine da_op rfl (d_as (v := (Value.slice q57_0a q57_0n q57_0c)) rfl ?_)
    refine da_op rfl (d_as (v := .bool m53.2) rfl ?_)
    refine da_nil ?_
    refine W_seq ?_
    refine W_region rfl ?_
    refine da_op rfl (d_mv (v := (Value.slice q18_0a q18_0n q18_0c)) rfl ?_)
    refine da_op rfl (d_mv (v := (Value.slice q29_0a q29_0n q29_0c)) rfl ?_)
    refine da_op rfl (d_mv (v := (Value.slice q42_0a q42_0n q42_0c)) rfl ?_)
    refine da_op rfl (d_bd (vs := [(0, (Value.slice q18_0a q18_0n q18_0c)), (1, (Value.slice q29_0a q29_0n q29_0c)), (2, (Value.slice q42_0a q42_0n q42_0c))]) (cs := #[(Value.slice q18_0a q18_0n q18_0c), (Value.slice q29_0a q29_0n q29_0c), (Value.slice q42_0a q42_0n q42_0c), .slice none 0 0]) (pc rfl (pc rfl (pc rfl rfl))) (by kernel_rfl) ?_)
    have B67 : w57.heap[w.heap.size]? = some (.cells #[.slice none 0 0, .slice none 0 0, .slice none 0 0, .slice none 0 0] 26 (0, 0)) := E57.heap B54
    have B68 : OS w57 57 encSVector (Value.slice q18_0a q18_0n q18_0c) m16.1 := B55.ext E57
    have B69 : OS w57 57 encSVector (Value.slice q29_0a q29_0n q29_0c) m27.1 := B56.ext E57
    have B70 : OS w57 40 encF_f32 (Value.slice q42_0a q42_0n q42_0c) m39.1 := q42_0R.ext E57
    refine da_op rfl (d_alloc (cs := #[.slice none 0 0, .slice none 0 0, .slice none 0 0, .slice none 0 0]) zero26 rfl fun w66 B66 E66 => ?_)
    have own71 : w.heap.size ≤ w57.heap.size := Nat.le_trans X65.size (Nat.le_refl _)
    have sp72 : w.heap.size ≠ w57.heap.size := Nat.ne_of_lt (Nat.lt_of_lt_of_le (lt_heap B67) (Nat.le_refl _))
    have sp73 : ¬ (Value.slice q18_0a q18_0n q18_0c).ownBlock = some w57.heap.size := OS.ne_new B68 (Nat.le_refl _)
    have sp74 : ¬ (Value.slice q29_0a q29_0n q29_0c).ownBlock = some w57.heap.size := OS.ne_new B69 (Nat.le_refl _)
    have sp75 : ¬ (Value.slice q42_0a q42_0n q42_0c).ownBlock = some w57.heap.size := OS.ne_new B70 (Nat.le_refl _)
    have sp76 : ¬ (Value.slice q57_0a q57_0n q57_0c).ownBlock = some w57.heap.size := RS.ne_new q57_0R (Nat.le_refl _)
    have X77 : Ext w w66 := X65.trans E66
    refine da_op rfl (d_store (vs := #[(Value.slice q18_0a q18_0n q18_0c), (Value.slice q29_0a q29_0n q29_0c), (Value.slice q42_0a q42_0n q42_0c), .slice none 0 0]) rfl rfl B66 size26 (Nat.le_of_ble_eq_true rfl) rfl fun w78 S78 => ?_)
    have X79 : Ext w w78 := Ext.step X77 S78.frmb (fun k _ hk => hk ▸ own71)
    have B80 : w78.heap[w57.heap.size]? = some (.cells #[(Value.slice q18_0a q18_0n q18_0c), (Value.slice q29_0a q29_0n q29_0c), (Value.slice q42_0a q42_0n q42_0c), .slice none 0 0] 26 (0, 0)) := S78.here
    refine da_nil ?_
    refine W_seq ?_
    refine W_seq ?_
    refine W_region rfl ?_
    refine da_op rfl (d_mv (v := (Value.slice q57_0a q57_0n q57_0c)) rfl ?_)
    have B81 : RS w78 encS (Value.slice q57_0a q57_0n q57_0c) m53.1 := (q57_0R.ext E66).frm S78.frmb (fun k _ => (rb sp76) k)
    refine da_op rfl (d_len (e := encS) un32 rfl B81 ?_)
    refine da_op rfl (d_mv (v := .int .i64 0) rfl ?_)
    refine da_nil ?_
    refine W_block ?_
    have B83 : w78.heap[w.heap.size]? = some (.cells #[.slice none 0 0, .slice none 0 0, .slice none 0 0, .slice none 0 0] 26 (0, 0)) := S78.frmb.heap sp72 (E66.heap B67)
    have B84 : OS w78 57 encSVector (Value.slice q18_0a q18_0n q18_0c) m16.1 := (B68.ext E66).frm S78.frmb (rb sp73)
    have B85 : OS w78 57 encSVector (Value.slice q29_0a q29_0n q29_0c) m27.1 := (B69.ext E66).frm S78.frmb (rb sp74)
    have B86 : OS w78 40 encF_f32 (Value.slice q42_0a q42_0n q42_0c) m39.1 := (B70.ext E66).frm S78.frmb (rb sp75)
    obtain ⟨m82, hm82, hr⟩ := bind_out hr
    refine W_loopM hm82 (fun (s82 : Bool × Int × SChain) σ w' => ∃ i82_2v3a : Option Addr, ∃ i82_2v3n : Nat, ∃ i82_2v3c : Nat, σ 12 = .bool s82.1 ∧ σ 58 = .int .i64 s82.2.1 ∧ σ 2 = .pointer (some ⟨w.heap.size, 0, none⟩) ∧ σ 6 = .bool m16.2 ∧ σ 8 = .bool m27.2 ∧ σ 10 = .bool m39.2 ∧ σ 13 = .pointer (some ⟨w57.heap.size, 0, none⟩) ∧ σ 56 = (Value.slice q57_0a q57_0n q57_0c) ∧ σ 57 = .int .i64 ((m53.1).length : Int) ∧ OS w' 42 encSRod (Value.slice i82_2v3a i82_2v3n i82_2v3c) s82.2.2.rods ∧ (∀ k, (Value.slice i82_2v3a i82_2v3n i82_2v3c).ownBlock = some k → w.heap.size ≤ k) ∧ w'.heap[w57.heap.size]? = some (.cells #[(Value.slice q18_0a q18_0n q18_0c), (Value.slice q29_0a q29_0n q29_0c), (Value.slice q42_0a q42_0n q42_0c), (Value.slice i82_2v3a i82_2v3n i82_2v3c)] 26 (0, 0)) ∧ w'.heap[w.heap.size]? = some (.cells #[.slice none 0 0, .slice none 0 0, .slice none 0 0, .slice none 0 0] 26 (0, 0)) ∧ OS w' 57 encSVector (Value.slice q18_0a q18_0n q18_0c) m16.1 ∧ OS w' 57 encSVector (Value.slice q29_0a q29_0n q29_0c) m27.1 ∧ OS w' 40 encF_f32 (Value.slice q42_0a q42_0n q42_0c) m39.1 ∧ RS w' encS (Value.slice q57_0a q57_0n q57_0c) m53.1 ∧ ¬ (Value.slice i82_2v3a i82_2v3n i82_2v3c).ownBlock = some w.heap.size ∧ (∀ k, (Value.slice q18_0a q18_0n q18_0c).ownBlock = some k → ¬ (Value.slice i82_2v3a i82_2v3n i82_2v3c).ownBlock = some k) ∧ (∀ k, (Value.slice q29_0a q29_0n q29_0c).ownBlock = some k → ¬ (Value.slice i82_2v3a i82_2v3n i82_2v3c).ownBlock = some k) ∧ (∀ k, (Value.slice q42_0a q42_0n q42_0c).ownBlock = some k → ¬ (Value.slice i82_2v3a i82_2v3n i82_2v3c).ownBlock = some k) ∧ (∀ k, (Value.slice q57_0a q57_0n q57_0c).ownBlock = some k → ¬ (Value.slice i82_2v3a i82_2v3n i82_2v3c).ownBlock = some k) ∧ ¬ (Value.slice i82_2v3a i82_2v3n i82_2v3c).ownBlock = some w57.heap.size ∧ Ext w w') (fun (e82 : (Bool × SChain)) ex σ w' => ex = .exit 0 ∧ ∃ q82_0_1v3a : Option Addr, ∃ q82_0_1v3n : Nat, ∃ q82_0_1v3c : Nat, σ 12 = .bool e82.1 ∧ σ 2 = .pointer (some ⟨w.heap.size, 0, none⟩) ∧ σ 6 = .bool m16.2 ∧ σ 8 = .bool m27.2 ∧ σ 10 = .bool m39.2 ∧ σ 13 = .pointer (some ⟨w57.heap.size, 0, none⟩) ∧ OS w' 42 encSRod (Value.slice q82_0_1v3a q82_0_1v3n q82_0_1v3c) e82.2.rods ∧ (∀ k, (Value.slice q82_0_1v3a q82_0_1v3n q82_0_1v3c).ownBlock = some k → w.heap.size ≤ k) ∧ w'.heap[w57.heap.size]? = some (.cells #[(Value.slice q18_0a q18_0n q18_0c), (Value.slice q29_0a q29_0n q29_0c), (Value.slice q42_0a q42_0n q42_0c), (Value.slice q82_0_1v3a q82_0_1v3n q82_0_1v3c)] 26 (0, 0)) ∧ w'.heap[w.heap.size]? = some (.cells #[.slice none 0 0, .slice none 0 0, .slice none 0 0, .slice none 0 0] 26 (0, 0)) ∧ OS w' 57 encSVector (Value.slice q18_0a q18_0n q18_0c) m16.1 ∧ OS w' 57 encSVector (Value.slice q29_0a q29_0n q29_0c) m27.1 ∧ OS w' 40 encF_f32 (Value.slice q42_0a q42_0n q42_0c) m39.1 ∧ ¬ (Value.slice q82_0_1v3a q82_0_1v3n q82_0_1v3c).ownBlock = some w.heap.size ∧ (∀ k, (Value.slice q18_0a q18_0n q18_0c).ownBlock = some k → ¬ (Value.slice q82_0_1v3a q82_0_1v3n q82_0_1v3c).ownBlock = some k) ∧ (∀ k, (Value.slice q29_0a q29_0n q29_0c).ownBlock = some k → ¬ (Value.slice q82_0_1v3a q82_0_1v3n q82_0_1v3c).ownBlock = some k) ∧ (∀ k, (Value.slice q42_0a q42_0n q42_0c).ownBlock = some k → ¬ (Value.slice q82_0_1v3a q82_0_1v3n q82_0_1v3c).ownBlock = some k) ∧ ¬ (Value.slice q82_0_1v3a q82_0_1v3n q82_0_1v3c).ownBlock = some w57.heap.size ∧ Ext w w') ⟨none, 0, 0, rfl, rfl, rfl, rfl, rfl, rfl, rfl, rfl, rfl, (OS.nil _ 42 encSRod), (fun k hk => by cases hk), B80, B83, B84, B85, B86, B81, (by intro e; cases e), (by intro k _ hk; cases hk), (by intro k _ hk; cases hk), (by intro k _ hk; cases hk), (by intro k _ hk; cases hk), (by intro e; cases e), X79⟩ ?_ ?_
    · skip
      rintro s82 σl82 wl82 r82l ⟨i82_2v3a, i82_2v3n, i82_2v3c, i82_S12, i82_S58, i82_S2, i82_S6, i82_S8, i82_S10, i82_S13, i82_S56, i82_S57, i82_2v3R, i82_2v3O, i82_2B, i82_K0, i82_K1, i82_K2, i82_K3, i82_K4, i82_A0, i82_A1, i82_A2, i82_A3, i82_A4, i82_A5, i82_X⟩ hr
      refine W_seq ?_
      refine W_region rfl ?_
      refine da_op rfl (d_icmp cLss i82_S58 i82_S57 ?_)
      refine da_nil ?_
      refine W_seq ?_
      refine W_cond (b := (icmp .lss s82.2.1 ((m53.1).length : Int))) rfl (fun hc87 => ?_) (fun hc87 => ?_)
      · skip
        replace hr := bif_t hr hc87
        refine W_skip ?_
        refine W_seq ?_
        refine W_block ?_
        refine W_seq ?_
        refine W_region rfl ?_
        obtain ⟨m88, hm88, hr⟩ := bind_out hr
        refine da_op rfl (d_index (e := encS) (v := (Value.slice q57_0a q57_0n q57_0c)) un32 size9 i82_S56 i82_S58 i82_K4 hm88 fun g89 o89 cu89 T89 fr89 vs89 hv89 hg89 hp89 hq89 => ?_)
        obtain rfl := dec_encS hq89
        refine da_op rfl (d_load (v := .string (bs m88)) rfl agg9 hg89 (sub_get (vs := #[.string (bs m88)]) hp89 (i := 0) rfl) ?_)
        refine da_op rfl (d_as (v := .string (bs m88)) rfl ?_)
        refine da_nil ?_
        refine W_seq ?_
        refine W_region rfl ?_
        refine da_op rfl (d_mv (v := .string (bs m88)) rfl ?_)
        obtain ⟨m90, hm90, hr⟩ := bind_out hr
        refine da_op rfl (d_cl (vs := [.string (bs m88)]) en14 (ac rfl rfl) rfl ?_)
        refine (c14 m88 m90 wl82 hm90 (t_TSyn.ext i82_X) (t_TRan.ext i82_X) (t_T10.ext i82_X)).mono ?_
        rintro _ w91 ⟨q91_0r2, rfl, q91_0h2, E91⟩
        refine ⟨_, rfl, ?_⟩
        have X92 : Ext w w91 := i82_X.trans E91
        refine da_op rfl (d_mv (v := .tuple #[.agg #[.int .i64 m90.1.a, .int .i64 m90.1.b, .float .f32 q91_0r2], .bool m90.2]) rfl ?_)
        refine da_op rfl (d_extract (v := .agg #[.int .i64 m90.1.a, .int .i64 m90.1.b, .float .f32 q91_0r2]) rfl rfl ?_)
        refine da_op rfl (d_extract (v := .bool m90.2) rfl rfl ?_)
        have B94 : w91.heap[w.heap.size]? = some (.cells #[.slice none 0 0, .slice none 0 0, .slice none 0 0, .slice none 0 0] 26 (0, 0)) := E91.heap i82_K0
        have B95 : OS w91 57 encSVector (Value.slice q18_0a q18_0n q18_0c) m16.1 := i82_K1.ext E91
        have B96 : OS w91 57 encSVector (Value.slice q29_0a q29_0n q29_0c) m27.1 := i82_K2.ext E91
        have B97 : OS w91 40 encF_f32 (Value.slice q42_0a q42_0n q42_0c) m39.1 := i82_K3.ext E91
        have B98 : RS w91 encS (Value.slice q57_0a q57_0n q57_0c) m53.1 := i82_K4.ext E91
        have B99 : OS w91 42 encSRod (Value.slice i82_2v3a i82_2v3n i82_2v3c) s82.2.2.rods := i82_2v3R.ext E91
        have B100 : w91.heap[w57.heap.size]? = some (.cells #[(Value.slice q18_0a q18_0n q18_0c), (Value.slice q29_0a q29_0n q29_0c), (Value.slice q42_0a q42_0n q42_0c), (Value.slice i82_2v3a i82_2v3n i82_2v3c)] 26 (0, 0)) := E91.heap i82_2B
        refine da_op rfl (d_alloc (cs := #[.int .i64 0, .int .i64 0, .float .f32 0]) zero42 rfl fun w93 B93 E93 => ?_)
        have own101 : w.heap.size ≤ w91.heap.size := Nat.le_trans X92.size (Nat.le_refl _)
        have sp102 : w.heap.size ≠ w91.heap.size := Nat.ne_of_lt (Nat.lt_of_lt_of_le (lt_heap B94) (Nat.le_refl _))
        have sp103 : ¬ (Value.slice q18_0a q18_0n q18_0c).ownBlock = some w91.heap.size := OS.ne_new B95 (Nat.le_refl _)
        have sp104 : ¬ (Value.slice q29_0a q29_0n q29_0c).ownBlock = some w91.heap.size := OS.ne_new B96 (Nat.le_refl _)
        have sp105 : ¬ (Value.slice q42_0a q42_0n q42_0c).ownBlock = some w91.heap.size := OS.ne_new B97 (Nat.le_refl _)
        have sp106 : ¬ (Value.slice q57_0a q57_0n q57_0c).ownBlock = some w91.heap.size := RS.ne_new B98 (Nat.le_refl _)
        have sp107 : ¬ (Value.slice i82_2v3a i82_2v3n i82_2v3c).ownBlock = some w91.heap.size := OS.ne_new B99 (Nat.le_refl _)
        have sp108 : w57.heap.size ≠ w91.heap.size := Nat.ne_of_lt (Nat.lt_of_lt_of_le (lt_heap B100) (Nat.le_refl _))
        have X109 : Ext w w93 := X92.trans E93
        refine da_op rfl (d_store (vs := #[.int .i64 m90.1.a, .int .i64 m90.1.b, .float .f32 q91_0r2]) rfl rfl B93 size42 (Nat.le_of_ble_eq_true rfl) rfl fun w110 S110 => ?_)
        have X111 : Ext w w110 := Ext.step X109 S110.frmb (fun k _ hk => hk ▸ own101)
        have B112 : w110.heap[w91.heap.size]? = some (.cells #[.int .i64 m90.1.a, .int .i64 m90.1.b, .float .f32 q91_0r2] 42 (0, 0)) := S110.here
        refine da_op rfl (d_as (v := .bool m90.2) rfl ?_)
        refine da_nil ?_
        refine W_seq ?_
        have B114 : w110.heap[w.heap.size]? = some (.cells #[.slice none 0 0, .slice none 0 0, .slice none 0 0, .slice none 0 0] 26 (0, 0)) := S110.frmb.heap sp102 (E93.heap B94)
        have B115 : OS w110 57 encSVector (Value.slice q18_0a q18_0n q18_0c) m16.1 := (B95.ext E93).frm S110.frmb (rb sp103)
        have B116 : OS w110 57 encSVector (Value.slice q29_0a q29_0n q29_0c) m27.1 := (B96.ext E93).frm S110.frmb (rb sp104)
        have B117 : OS w110 40 encF_f32 (Value.slice q42_0a q42_0n q42_0c) m39.1 := (B97.ext E93).frm S110.frmb (rb sp105)
        have B118 : RS w110 encS (Value.slice q57_0a q57_0n q57_0c) m53.1 := (B98.ext E93).frm S110.frmb (fun k _ => (rb sp106) k)
        have B119 : OS w110 42 encSRod (Value.slice i82_2v3a i82_2v3n i82_2v3c) s82.2.2.rods := (B99.ext E93).frm S110.frmb (rb sp107)
        have B120 : w110.heap[w57.heap.size]? = some (.cells #[(Value.slice q18_0a q18_0n q18_0c), (Value.slice q29_0a q29_0n q29_0c), (Value.slice q42_0a q42_0n q42_0c), (Value.slice i82_2v3a i82_2v3n i82_2v3c)] 26 (0, 0)) := S110.frmb.heap sp108 (E93.heap B100)
        obtain ⟨m113, hm113, hr⟩ := letv_out hr
        refine W_cut (fun σ' w' => σ' 12 = .bool m113 ∧ Ext w110 w') rfl ?_ ?_
        · skip
          have hr := hm113
          refine da_op rfl (d_mv (v := .bool s82.1) i82_S12 ?_)
          refine da_op rfl (d_mv (v := .bool s82.1) rfl ?_)
          rcases Bool.eq_false_or_eq_true s82.1 with hc121 | hc121
          · skip
            replace hr := bif_t hr hc121
            refine da_on rfl (Eq.trans (show sl _ _ _ = .bool s82.1 from rfl) (congrArg Value.bool hc121)) (d_mv (v := .bool m90.2) rfl ?_)
            refine da_op rfl (d_pick (b := true) (Eq.trans (show ev _ _ = .bool s82.1 from rfl) (congrArg Value.bool hc121)) ?_)
            refine da_op rfl (d_as (v := .bool m90.2) rfl ?_)
            refine da_nil ?_
            subst hr
            exact ⟨rfl, (Ext.refl w110)⟩
          · skip
            replace hr := bif_f hr hc121
            refine da_off rfl (Eq.trans (show sl _ _ _ = .bool s82.1 from rfl) (congrArg Value.bool hc121)) (by decide) ?_
            refine da_op rfl (d_pick (b := false) (Eq.trans (show ev _ _ = .bool s82.1 from rfl) (congrArg Value.bool hc121)) ?_)
            refine da_op rfl (d_as (v := .bool false) rfl ?_)
            refine da_nil ?_
            subst hr
            exact ⟨rfl, (Ext.refl w110)⟩
        · skip
          rintro σ113 w113 o113 ⟨s12_113, E113⟩
          have s58_113 : σ113 58 = .int .i64 s82.2.1 := (o113 58 rfl).trans i82_S58
          have s2_113 : σ113 2 = .pointer (some ⟨w.heap.size, 0, none⟩) := (o113 2 rfl).trans i82_S2
          have s6_113 : σ113 6 = .bool m16.2 := (o113 6 rfl).trans i82_S6
          have s8_113 : σ113 8 = .bool m27.2 := (o113 8 rfl).trans i82_S8
          have s10_113 : σ113 10 = .bool m39.2 := (o113 10 rfl).trans i82_S10
          have s13_113 : σ113 13 = .pointer (some ⟨w57.heap.size, 0, none⟩) := (o113 13 rfl).trans i82_S13
          have s56_113 : σ113 56 = (Value.slice q57_0a q57_0n q57_0c) := (o113 56 rfl).trans i82_S56
          have s57_113 : σ113 57 = .int .i64 ((m53.1).length : Int) := (o113 57 rfl).trans i82_S57
          have s16_113 : σ113 16 = .pointer (some ⟨w91.heap.size, 0, none⟩) := (o113 16 rfl).trans rfl
          have X122 : Ext w w113 := X111.trans E113
          refine W_region rfl ?_
          refine da_op rfl (d_fieldAddr s13_113 (fa26_3 _ _) ?_)
          have B123 : w113.heap[w57.heap.size]? = some (.cells #[(Value.slice q18_0a q18_0n q18_0c), (Value.slice q29_0a q29_0n q29_0c), (Value.slice q42_0a q42_0n q42_0c), (Value.slice i82_2v3a i82_2v3n i82_2v3c)] 26 (0, 0)) := E113.heap B120
          refine da_op rfl (d_load (v := (Value.slice i82_2v3a i82_2v3n i82_2v3c)) rfl agg24 B123 rfl ?_)
          have B124 : w113.heap[w91.heap.size]? = some (.cells #[.int .i64 m90.1.a, .int .i64 m90.1.b, .float .f32 q91_0r2] 42 (0, 0)) := E113.heap B112
          refine da_op rfl (d_loads (vs := #[.int .i64 m90.1.a, .int .i64 m90.1.b, .float .f32 q91_0r2]) s16_113 agg42 size42 B124 rfl ?_)
          have B126 : w113.heap[w.heap.size]? = some (.cells #[.slice none 0 0, .slice none 0 0, .slice none 0 0, .slice none 0 0] 26 (0, 0)) := E113.heap B114
          have B127 : OS w113 57 encSVector (Value.slice q18_0a q18_0n q18_0c) m16.1 := B115.ext E113
          have B128 : OS w113 57 encSVector (Value.slice q29_0a q29_0n q29_0c) m27.1 := B116.ext E113
          have B129 : OS w113 40 encF_f32 (Value.slice q42_0a q42_0n q42_0c) m39.1 := B117.ext E113
          have B130 : RS w113 encS (Value.slice q57_0a q57_0n q57_0c) m53.1 := B118.ext E113
          have B131 : OS w113 42 encSRod (Value.slice i82_2v3a i82_2v3n i82_2v3c) s82.2.2.rods := B119.ext E113
          refine da_op rfl (d_bslice (vs := [(0, .agg #[.int .i64 m90.1.a, .int .i64 m90.1.b, .float .f32 q91_0r2])]) (cs := #[.int .i64 m90.1.a, .int .i64 m90.1.b, .float .f32 q91_0r2]) un24 (pc rfl rfl) (by kernel_rfl) fun w125 B125 E125 => ?_)
          have fr125 : ∀ k, (Value.slice (some ⟨w113.heap.size, 0, none⟩) 1 1).ownBlock = some k → w113.heap.size ≤ k := fun k hk => by cases hk; exact Nat.le_refl _
          have own125 : ∀ k, (Value.slice (some ⟨w113.heap.size, 0, none⟩) 1 1).ownBlock = some k → w.heap.size ≤ k := fun k hk => Nat.le_trans X122.size (fr125 k hk)
          have sp132 : ¬ (Value.slice (some ⟨w113.heap.size, 0, none⟩) 1 1).ownBlock = some w.heap.size := ne_fresh fr125 (lt_heap B126)
          have sp133 : ∀ k, (Value.slice q18_0a q18_0n q18_0c).ownBlock = some k → ¬ (Value.slice (some ⟨w113.heap.size, 0, none⟩) 1 1).ownBlock = some k := apart_fresh B127 fr125
          have sp134 : ∀ k, (Value.slice q29_0a q29_0n q29_0c).ownBlock = some k → ¬ (Value.slice (some ⟨w113.heap.size, 0, none⟩) 1 1).ownBlock = some k := apart_fresh B128 fr125
          have sp135 : ∀ k, (Value.slice q42_0a q42_0n q42_0c).ownBlock = some k → ¬ (Value.slice (some ⟨w113.heap.size, 0, none⟩) 1 1).ownBlock = some k := apart_fresh B129 fr125
          have sp136 : ∀ k, (Value.slice q57_0a q57_0n q57_0c).ownBlock = some k → ¬ (Value.slice (some ⟨w113.heap.size, 0, none⟩) 1 1).ownBlock = some k := apart_freshR B130 fr125
          have sp137 : ∀ k, (Value.slice i82_2v3a i82_2v3n i82_2v3c).ownBlock = some k → ¬ (Value.slice (some ⟨w113.heap.size, 0, none⟩) 1 1).ownBlock = some k := apart_fresh B131 fr125
          have sp138 : ¬ (Value.slice (some ⟨w113.heap.size, 0, none⟩) 1 1).ownBlock = some w57.heap.size := ne_fresh fr125 (lt_heap B123)
          have sp139 : ¬ (Value.slice (some ⟨w113.heap.size, 0, none⟩) 1 1).ownBlock = some w91.heap.size := ne_fresh fr125 (lt_heap B124)
          have X140 : Ext w w125 := X122.trans E125
          have O125 : OS w125 42 encSRod (Value.slice (some ⟨w113.heap.size, 0, none⟩) 1 1) [m90.1] := OS.box (xs := [m90.1]) B125 (lc_v rfl (lc_v rfl (lc_f q91_0h2 rfl))) (Nat.le_of_ble_eq_true rfl)
          obtain ⟨m141, hm141, hr⟩ := bind_out hr
          have B142 : OS w125 42 encSRod (Value.slice i82_2v3a i82_2v3n i82_2v3c) s82.2.2.rods := B131.ext E125
          have B143 : w125.heap[w.heap.size]? = some (.cells #[.slice none 0 0, .slice none 0 0, .slice none 0 0, .slice none 0 0] 26 (0, 0)) := E125.heap B126
          have B144 : OS w125 57 encSVector (Value.slice q18_0a q18_0n q18_0c) m16.1 := B127.ext E125
          have B145 : OS w125 57 encSVector (Value.slice q29_0a q29_0n q29_0c) m27.1 := B128.ext E125
          have B146 : OS w125 40 encF_f32 (Value.slice q42_0a q42_0n q42_0c) m39.1 := B129.ext E125
          have B147 : RS w125 encS (Value.slice q57_0a q57_0n q57_0c) m53.1 := B130.ext E125
          have B148 : w125.heap[w57.heap.size]? = some (.cells #[(Value.slice q18_0a q18_0n q18_0c), (Value.slice q29_0a q29_0n q29_0c), (Value.slice q42_0a q42_0n q42_0c), (Value.slice i82_2v3a i82_2v3n i82_2v3c)] 26 (0, 0)) := E125.heap B123
          have B149 : w125.heap[w91.heap.size]? = some (.cells #[.int .i64 m90.1.a, .int .i64 m90.1.b, .float .f32 q91_0r2] 42 (0, 0)) := E125.heap B124
          refine da_op rfl (d_append (e := encSRod) (v := (Value.slice i82_2v3a i82_2v3n i82_2v3c)) (y := (Value.slice (some ⟨w113.heap.size, 0, none⟩) 1 1)) un24 info42 rfl (by kernel_rfl) (by kernel_rfl) (by decide) (by decide) rfl rfl B142 O125.rs hm141 fun v150 w150 O150 Fm150 at_150 nl150 => ?_)
          obtain ⟨v150pa, v150pn, v150pc, rfl⟩ := O150.vals
          have own150 : ∀ k, (Value.slice v150pa v150pn v150pc).ownBlock = some k → w.heap.size ≤ k := app_own (w := w125) at_150 i82_2v3O X140.size
          have sp151 : ¬ (Value.slice v150pa v150pn v150pc).ownBlock = some w.heap.size := app_nb at_150 i82_A0 (lt_heap B143)
          have sp152 : ∀ k, (Value.slice q18_0a q18_0n q18_0c).ownBlock = some k → ¬ (Value.slice v150pa v150pn v150pc).ownBlock = some k := app_nr at_150 i82_A1 B144
          have sp153 : ∀ k, (Value.slice q29_0a q29_0n q29_0c).ownBlock = some k → ¬ (Value.slice v150pa v150pn v150pc).ownBlock = some k := app_nr at_150 i82_A2 B145
          have sp154 : ∀ k, (Value.slice q42_0a q42_0n q42_0c).ownBlock = some k → ¬ (Value.slice v150pa v150pn v150pc).ownBlock = some k := app_nr at_150 i82_A3 B146
          have sp155 : ∀ k, (Value.slice q57_0a q57_0n q57_0c).ownBlock = some k → ¬ (Value.slice v150pa v150pn v150pc).ownBlock = some k := app_nrR at_150 i82_A4 B147
          have sp156 : ¬ (Value.slice v150pa v150pn v150pc).ownBlock = some w57.heap.size := app_nb at_150 i82_A5 (lt_heap B148)
          have sp157 : ¬ (Value.slice v150pa v150pn v150pc).ownBlock = some w91.heap.size := app_nb at_150 sp107 (lt_heap B149)
          have sp158 : ∀ k, (Value.slice (some ⟨w113.heap.size, 0, none⟩) 1 1).ownBlock = some k → ¬ (Value.slice v150pa v150pn v150pc).ownBlock = some k := app_nr at_150 (apart_symm sp137) O125
          have X159 : Ext w w150 := Ext.step X140 Fm150 (fun k _ hk => i82_2v3O k hk)
          refine da_op rfl (d_fieldAddr s13_113 (fa26_3 _ _) ?_)
          have B160 : w150.heap[w57.heap.size]? = some (.cells #[(Value.slice q18_0a q18_0n q18_0c), (Value.slice q29_0a q29_0n q29_0c), (Value.slice q42_0a q42_0n q42_0c), (Value.slice i82_2v3a i82_2v3n i82_2v3c)] 26 (0, 0)) := Fm150.heap i82_A5 B148
          refine da_op rfl (d_store (vs := #[(Value.slice v150pa v150pn v150pc)]) rfl rfl B160 size24 (Nat.le_of_ble_eq_true rfl) rfl fun w161 S161 => ?_)
          have X162 : Ext w w161 := Ext.step X159 S161.frmb (fun k _ hk => hk ▸ own71)
          have B163 : w161.heap[w57.heap.size]? = some (.cells #[(Value.slice q18_0a q18_0n q18_0c), (Value.slice q29_0a q29_0n q29_0c), (Value.slice q42_0a q42_0n q42_0c), (Value.slice v150pa v150pn v150pc)] 26 (0, 0)) := S161.here
          refine da_nil ?_
          refine W_region rfl ?_
          refine da_op rfl (d_iarith s58_113 rfl (.inl ⟨rfl, rfl⟩) ?_)
          refine da_op rfl (d_mv (v := .int .i64 (IntKind.i64.wrap (s82.2.1 + 1))) rfl ?_)
          refine da_nil ?_
          have B164 : OS w161 42 encSRod (Value.slice v150pa v150pn v150pc) m141 := O150.frm S161.frmb (rb sp156)
          have B165 : w161.heap[w.heap.size]? = some (.cells #[.slice none 0 0, .slice none 0 0, .slice none 0 0, .slice none 0 0] 26 (0, 0)) := S161.frmb.heap sp72 (Fm150.heap i82_A0 B143)
          have B166 : OS w161 57 encSVector (Value.slice q18_0a q18_0n q18_0c) m16.1 := (B144.frm Fm150 i82_A1).frm S161.frmb (rb sp73)
          have B167 : OS w161 57 encSVector (Value.slice q29_0a q29_0n q29_0c) m27.1 := (B145.frm Fm150 i82_A2).frm S161.frmb (rb sp74)
          have B168 : OS w161 40 encF_f32 (Value.slice q42_0a q42_0n q42_0c) m39.1 := (B146.frm Fm150 i82_A3).frm S161.frmb (rb sp75)
          have B169 : RS w161 encS (Value.slice q57_0a q57_0n q57_0c) m53.1 := (B147.frm Fm150 (fun k _ => i82_A4 k)).frm S161.frmb (fun k _ => (rb sp76) k)
          obtain rfl := Option.some.inj hr
          exact ⟨_, rfl, ⟨v150pa, v150pn, v150pc, s12_113, rfl, s2_113, s6_113, s8_113, s10_113, s13_113, s56_113, s57_113, B164, own150, B163, B165, B166, B167, B168, B169, sp151, sp152, sp153, sp154, sp155, sp156, X162⟩⟩
      · skip
        replace hr := bif_f hr hc87
        refine W_exit ?_
        obtain rfl := Option.some.inj hr
        exact ⟨_, rfl, rfl, i82_2v3a, i82_2v3n, i82_2v3c, i82_S12, i82_S2, i82_S6, i82_S8, i82_S10, i82_S13, i82_2v3R, i82_2v3O, i82_2B, i82_K0, i82_K1, i82_K2, i82_K3, i82_A0, i82_A1, i82_A2, i82_A3, i82_A5, i82_X⟩
    · skip
      intro ex σx82 wx82 hq
      obtain ⟨rfl, q82_0_1v3a, q82_0_1v3n, q82_0_1v3c, q82_0_S12, q82_0_S2, q82_0_S6, q82_0_S8, q82_0_S10, q82_0_S13, q82_0_1v3R, q82_0_1v3O, q82_0_1B, q82_0_K0, q82_0_K1, q82_0_K2, q82_0_K3, q82_0_A0, q82_0_A1, q82_0_A2, q82_0_A3, q82_0_A4, q82_0_X⟩ := hq
      refine W_seq ?_
      refine W_seq ?_
      obtain ⟨m170, hm170, hr⟩ := letv_out hr
      refine W_cut (fun σ' w' => σ' 91 = .bool m170 ∧ Ext wx82 w') rfl ?_ ?_
      · skip
        have hr := hm170
        refine da_op rfl (d_mv (v := .bool m16.2) q82_0_S6 ?_)
        refine da_op rfl (d_not rfl ?_)
        refine da_op rfl (d_mv (v := .bool (!m16.2)) rfl ?_)
        rcases Bool.eq_false_or_eq_true m16.2 with hc171 | hc171
        · skip
          replace hr := bif_t hr hc171
          refine da_on rfl (Eq.trans (show sl _ _ _ = .bool (!m16.2) from rfl) (congrArg Value.bool (congrArg not hc171))) (d_mv (v := .bool m27.2) q82_0_S8 ?_)
          refine da_on rfl (Eq.trans (show sl _ _ _ = .bool (!m16.2) from rfl) (congrArg Value.bool (congrArg not hc171))) (d_not rfl ?_)
          refine da_op rfl (d_pick (b := false) (Eq.trans (show ev _ _ = .bool (!m16.2) from rfl) (congrArg Value.bool (congrArg not hc171))) ?_)
          refine da_op rfl (d_mv (v := .bool (!m27.2)) rfl ?_)
          rcases Bool.eq_false_or_eq_true m27.2 with hc172 | hc172
          · skip
            replace hr := bif_t hr hc172
            refine da_on rfl (Eq.trans (show sl _ _ _ = .bool (!m27.2) from rfl) (congrArg Value.bool (congrArg not hc172))) (d_mv (v := .bool m39.2) q82_0_S10 ?_)
            refine da_on rfl (Eq.trans (show sl _ _ _ = .bool (!m27.2) from rfl) (congrArg Value.bool (congrArg not hc172))) (d_not rfl ?_)
            refine da_op rfl (d_pick (b := false) (Eq.trans (show ev _ _ = .bool (!m27.2) from rfl) (congrArg Value.bool (congrArg not hc172))) ?_)
            refine da_op rfl (d_mv (v := .bool (!m39.2)) rfl ?_)
            rcases Bool.eq_false_or_eq_true m39.2 with hc173 | hc173
            · skip
              replace hr := bif_t hr hc173
              refine da_on rfl (Eq.trans (show sl _ _ _ = .bool (!m39.2) from rfl) (congrArg Value.bool (congrArg not hc173))) (d_mv (v := .bool m82.1) q82_0_S12 ?_)
              refine da_on rfl (Eq.trans (show sl _ _ _ = .bool (!m39.2) from rfl) (congrArg Value.bool (congrArg not hc173))) (d_not rfl ?_)
              refine da_op rfl (d_pick (b := false) (Eq.trans (show ev _ _ = .bool (!m39.2) from rfl) (congrArg Value.bool (congrArg not hc173))) ?_)
              refine da_nil ?_
              subst hr
              exact ⟨rfl, (Ext.refl wx82)⟩
            · skip
              replace hr := bif_f hr hc173
              refine da_off rfl (Eq.trans (show sl _ _ _ = .bool (!m39.2) from rfl) (congrArg Value.bool (congrArg not hc173))) (by decide) ?_
              refine da_off rfl (Eq.trans (show sl _ _ _ = .bool (!m39.2) from rfl) (congrArg Value.bool (congrArg not hc173))) (by decide) ?_
              refine da_op rfl (d_pick (b := true) (Eq.trans (show ev _ _ = .bool (!m39.2) from rfl) (congrArg Value.bool (congrArg not hc173))) ?_)
              refine da_nil ?_
              subst hr
              exact ⟨rfl, (Ext.refl wx82)⟩
          · skip
            replace hr := bif_f hr hc172
            refine da_off rfl (Eq.trans (show sl _ _ _ = .bool (!m27.2) from rfl) (congrArg Value.bool (congrArg not hc172))) (by decide) ?_
            refine da_off rfl (Eq.trans (show sl _ _ _ = .bool (!m27.2) from rfl) (congrArg Value.bool (congrArg not hc172))) (by decide) ?_
            refine da_op rfl (d_pick (b := true) (Eq.trans (show ev _ _ = .bool (!m27.2) from rfl) (congrArg Value.bool (congrArg not hc172))) ?_)
            refine da_op rfl (d_mv (v := .bool true) rfl ?_)
            refine da_off rfl rfl (by decide) ?_
            refine da_off rfl rfl (by decide) ?_
            refine da_op rfl (d_pick (b := true) rfl ?_)
            refine da_nil ?_
            subst hr
            exact ⟨rfl, (Ext.refl wx82)⟩
        · skip
          replace hr := bif_f hr hc171
          refine da_off rfl (Eq.trans (show sl _ _ _ = .bool (!m16.2) from rfl) (congrArg Value.bool (congrArg not hc171))) (by decide) ?_
          refine da_off rfl (Eq.trans (show sl _ _ _ = .bool (!m16.2) from rfl) (congrArg Value.bool (congrArg not hc171))) (by decide) ?_
          refine da_op rfl (d_pick (b := true) (Eq.trans (show ev _ _ = .bool (!m16.2) from rfl) (congrArg Value.bool (congrArg not hc171))) ?_)
          refine da_op rfl (d_mv (v := .bool true) rfl ?_)
          refine da_off rfl rfl (by decide) ?_
          refine da_off rfl rfl (by decide) ?_
          refine da_op rfl (d_pick (b := true) rfl ?_)
          refine da_op rfl (d_mv (v := .bool true) rfl ?_)
          refine da_off rfl rfl (by decide) ?_
          refine da_off rfl rfl (by decide) ?_
          refine da_op rfl (d_pick (b := true) rfl ?_)
          refine da_nil ?_
          subst hr
          exact ⟨rfl, (Ext.refl wx82)⟩
      · skip
        rintro σ170 w170 o170 ⟨s91_170, E170⟩
        have s2_170 : σ170 2 = .pointer (some ⟨w.heap.size, 0, none⟩) := (o170 2 rfl).trans q82_0_S2
        have s13_170 : σ170 13 = .pointer (some ⟨w57.heap.size, 0, none⟩) := (o170 13 rfl).trans q82_0_S13
        have X174 : Ext w w170 := q82_0_X.trans E170
        refine W_cond (b := m170) s91_170 (fun hc175 => ?_) (fun hc175 => ?_)
        · skip
          replace hr := bif_t hr hc175
          refine W_seq ?_
          refine W_region rfl ?_
          refine da_op rfl (d_bd (vs := []) (cs := #[.slice none 0 0, .slice none 0 0, .slice none 0 0, .slice none 0 0]) rfl (by kernel_rfl) ?_)
          have B176 : w170.heap[w.heap.size]? = some (.cells #[.slice none 0 0, .slice none 0 0, .slice none 0 0, .slice none 0 0] 26 (0, 0)) := E170.heap q82_0_K0
          refine da_op rfl (d_store (vs := #[.slice none 0 0, .slice none 0 0, .slice none 0 0, .slice none 0 0]) s2_170 rfl B176 size26 (Nat.le_of_ble_eq_true rfl) rfl fun w177 S177 => ?_)
          have X178 : Ext w w177 := Ext.step X174 S177.frmb (fun k _ hk => hk ▸ own2)
          have B179 : w177.heap[w.heap.size]? = some (.cells #[.slice none 0 0, .slice none 0 0, .slice none 0 0, .slice none 0 0] 26 (0, 0)) := S177.here
          refine da_op rfl (d_as (v := .bool false) rfl ?_)
          refine da_nil ?_
          refine W_ret ?_
          obtain rfl := Option.some.inj hr
          refine ⟨_, res2 (rv_cells (vs := #[.slice none 0 0, .slice none 0 0, .slice none 0 0, .slice none 0 0]) s2_170 agg26 size26 B179 rfl) (rv_tmp rfl), ?_⟩
          exact ⟨none, 0, 0, none, 0, 0, none, 0, 0, none, 0, 0, rfl, (OS.nil _ 57 encSVector), (fun k hk => by cases hk), (OS.nil _ 57 encSVector), (fun k hk => by cases hk), (OS.nil _ 40 encF_f32), (fun k hk => by cases hk), (OS.nil _ 42 encSRod), (fun k hk => by cases hk), (by intro k hk; cases hk), (by intro k hk; cases hk), (by intro k hk; cases hk), (by intro k hk; cases hk), (by intro k hk; cases hk), (by intro k hk; cases hk), X178⟩
        · skip
          replace hr := bif_f hr hc175
          refine W_skip ?_
          refine W_seq ?_
          refine W_region rfl ?_
          have B180 : w170.heap[w57.heap.size]? = some (.cells #[(Value.slice q18_0a q18_0n q18_0c), (Value.slice q29_0a q29_0n q29_0c), (Value.slice q42_0a q42_0n q42_0c), (Value.slice q82_0_1v3a q82_0_1v3n q82_0_1v3c)] 26 (0, 0)) := E170.heap q82_0_1B
          refine da_op rfl (d_loads (vs := #[(Value.slice q18_0a q18_0n q18_0c), (Value.slice q29_0a q29_0n q29_0c), (Value.slice q42_0a q42_0n q42_0c), (Value.slice q82_0_1v3a q82_0_1v3n q82_0_1v3c)]) s13_170 agg26 size26 B180 rfl ?_)
          obtain ⟨m181, hm181, hr⟩ := bind_out hr
          have B182 : OS w170 57 encSVector (Value.slice q18_0a q18_0n q18_0c) m16.1 := q82_0_K1.ext E170
          have B183 : OS w170 57 encSVector (Value.slice q29_0a q29_0n q29_0c) m27.1 := q82_0_K2.ext E170
          have B184 : OS w170 40 encF_f32 (Value.slice q42_0a q42_0n q42_0c) m39.1 := q82_0_K3.ext E170
          have B185 : OS w170 42 encSRod (Value.slice q82_0_1v3a q82_0_1v3n q82_0_1v3c) m82.2.rods := q82_0_1v3R.ext E170
          have B186 : w170.heap[w.heap.size]? = some (.cells #[.slice none 0 0, .slice none 0 0, .slice none 0 0, .slice none 0 0] 26 (0, 0)) := E170.heap q82_0_K0
          refine da_op rfl (d_cl (vs := [.agg #[(Value.slice q18_0a q18_0n q18_0c), (Value.slice q29_0a q29_0n q29_0c), (Value.slice q42_0a q42_0n q42_0c), (Value.slice q82_0_1v3a q82_0_1v3n q82_0_1v3c)]]) en15 (ac rfl rfl) rfl ?_)
          refine (c15 (⟨m16.1, m27.1, m39.1, m82.2.rods⟩ : SChain) q18_0a q18_0n q18_0c q29_0a q29_0n q29_0c q42_0a q42_0n q42_0c q82_0_1v3a q82_0_1v3n q82_0_1v3c m181 w170 hm181 B182.rs B183.rs B184.rs B185.rs).mono ?_
          rintro _ w187 ⟨q187_0v0a, q187_0v0n, q187_0v0c, q187_0v1a, q187_0v1n, q187_0v1c, q187_0v2a, q187_0v2n, q187_0v2c, q187_0v3a, q187_0v3n, q187_0v3c, rfl, q187_0v0H, q187_0v1H, q187_0v2H, q187_0v3H, E187⟩
          refine ⟨_, rfl, ?_⟩
          have X188 : Ext w w187 := X174.trans E187
          have B190 : OS w187 57 encSVector (Value.slice q18_0a q18_0n q18_0c) m16.1 := B182.ext E187
          have O189 : OS w187 57 encSVector (Value.slice q187_0v0a q187_0v0n q187_0v0c) m181.1.places := Hand.os q187_0v0H B190
          have B192 : OS w187 57 encSVector (Value.slice q29_0a q29_0n q29_0c) m27.1 := B183.ext E187
          have O191 : OS w187 57 encSVector (Value.slice q187_0v1a q187_0v1n q187_0v1c) m181.1.before := Hand.os q187_0v1H B192
          have B194 : OS w187 40 encF_f32 (Value.slice q42_0a q42_0n q42_0c) m39.1 := B184.ext E187
          have O193 : OS w187 40 encF_f32 (Value.slice q187_0v2a q187_0v2n q187_0v2c) m181.1.weights := Hand.os q187_0v2H B194
          have B196 : OS w187 42 encSRod (Value.slice q82_0_1v3a q82_0_1v3n q82_0_1v3c) m82.2.rods := B185.ext E187
          have O195 : OS w187 42 encSRod (Value.slice q187_0v3a q187_0v3n q187_0v3c) m181.1.rods := Hand.os q187_0v3H B196
          refine da_op rfl (d_extract (v := .agg #[(Value.slice q187_0v0a q187_0v0n q187_0v0c), (Value.slice q187_0v1a q187_0v1n q187_0v1c), (Value.slice q187_0v2a q187_0v2n q187_0v2c), (Value.slice q187_0v3a q187_0v3n q187_0v3c)]) rfl rfl ?_)
          refine da_op rfl (d_extract (v := .bool m181.2) rfl rfl ?_)
          have B197 : w187.heap[w.heap.size]? = some (.cells #[.slice none 0 0, .slice none 0 0, .slice none 0 0, .slice none 0 0] 26 (0, 0)) := E187.heap B186
          refine da_op rfl (d_store (vs := #[(Value.slice q187_0v0a q187_0v0n q187_0v0c), (Value.slice q187_0v1a q187_0v1n q187_0v1c), (Value.slice q187_0v2a q187_0v2n q187_0v2c), (Value.slice q187_0v3a q187_0v3n q187_0v3c)]) s2_170 rfl B197 size26 (Nat.le_of_ble_eq_true rfl) rfl fun w198 S198 => ?_)
          have X199 : Ext w w198 := Ext.step X188 S198.frmb (fun k _ hk => hk ▸ own2)
          have B200 : w198.heap[w.heap.size]? = some (.cells #[(Value.slice q187_0v0a q187_0v0n q187_0v0c), (Value.slice q187_0v1a q187_0v1n q187_0v1c), (Value.slice q187_0v2a q187_0v2n q187_0v2c), (Value.slice q187_0v3a q187_0v3n q187_0v3c)] 26 (0, 0)) := S198.here
          refine da_op rfl (d_as (v := .bool m181.2) rfl ?_)
          refine da_nil ?_
          refine W_ret ?_
          have B201 : OS w198 57 encSVector (Value.slice q187_0v0a q187_0v0n q187_0v0c) m181.1.places := O189.frm S198.frmb (rb (Hand.nb q187_0v0H sp20))
          have B202 : OS w198 57 encSVector (Value.slice q187_0v1a q187_0v1n q187_0v1c) m181.1.before := O191.frm S198.frmb (rb (Hand.nb q187_0v1H sp31))
          have B203 : OS w198 40 encF_f32 (Value.slice q187_0v2a q187_0v2n q187_0v2c) m181.1.weights := O193.frm S198.frmb (rb (Hand.nb q187_0v2H sp44))
          have B204 : OS w198 42 encSRod (Value.slice q187_0v3a q187_0v3n q187_0v3c) m181.1.rods := O195.frm S198.frmb (rb (Hand.nb q187_0v3H q82_0_A0))
          obtain rfl := Option.some.inj hr
          refine ⟨_, res2 (rv_cells (vs := #[(Value.slice q187_0v0a q187_0v0n q187_0v0c), (Value.slice q187_0v1a q187_0v1n q187_0v1c), (Value.slice q187_0v2a q187_0v2n q187_0v2c), (Value.slice q187_0v3a q187_0v3n q187_0v3c)]) s2_170 agg26 size26 B200 rfl) (rv_tmp rfl), ?_⟩
          exact ⟨q187_0v0a, q187_0v0n, q187_0v0c, q187_0v1a, q187_0v1n, q187_0v1c, q187_0v2a, q187_0v2n, q187_0v2c, q187_0v3a, q187_0v3n, q187_0v3c, rfl, B201, (Hand.own q187_0v0H own19), B202, (Hand.own q187_0v1H own30), B203, (Hand.own q187_0v2H own43), B204, (Hand.own q187_0v3H q82_0_1v3O), (Hand.nr q187_0v0H (Hand.nr2 q187_0v1H sp33)), (Hand.nr q187_0v0H (Hand.nr2 q187_0v2H sp46)), (Hand.nr q187_0v1H (Hand.nr2 q187_0v2H sp47)), (Hand.nr q187_0v0H (Hand.nr2 q187_0v3H q82_0_A1)), (Hand.nr q187_0v1H (Hand.nr2 q187_0v3H q82_0_A2)), (Hand.nr q187_0v2H (Hand.nr2 q187_0v3H q82_0_A3)), X199⟩
set_option maxHeartbeats 4000000 in
theorem c39 (p0 : Nat) (p1 : Nat) (p0r : Nat) (p1r : Nat) (r : Bool) (w : World) (hr : M.laws_sameFloat p0 p1 = r) (p0h : cn .f64 p0r = p0) (p1h : cn .f64 p1r = p1) :
    Calls Tryz.prog 39 #[.float .f64 p0r, .float .f64 p1r] w fun e w' => e = .returned (.bool r) ∧ Ext w w' := by
  refine calls_of_W Tryz.func39 rfl (Nat.le_of_ble_eq_true rfl) ?_
  refine W_seq ?_
  refine W_region rfl ?_
  refine da_op rfl (d_as (v := .bool false) rfl ?_)
  refine da_nil ?_
  refine W_seq ?_
  refine W_seq ?_
  obtain ⟨m1, hm1, hr⟩ := letv_out hr
  refine W_cut (fun σ' w' => σ' 12 = .bool m1 ∧ Ext w w') rfl ?_ ?_
  · skip
    have hr := hm1
    refine da_op rfl (d_mv (v := .float .f64 p0r) rfl ?_)
    refine da_op rfl (d_mv (v := .float .f64 p0r) rfl ?_)
    refine da_op rfl (d_fcmp (k := .f64) cNeq rfl rfl p0h p0h ?_)
    refine da_op rfl (d_mv (v := .bool (fcmp .neq .f64 p0 p0)) rfl ?_)
    rcases Bool.eq_false_or_eq_true (fcmp .neq .f64 p0 p0) with hc2 | hc2
    · skip
      replace hr := bif_t hr hc2
      refine da_off rfl (Eq.trans (show sl _ _ _ = .bool (fcmp .neq .f64 p0 p0) from rfl) (congrArg Value.bool hc2)) (by decide) ?_
      refine da_off rfl (Eq.trans (show sl _ _ _ = .bool (fcmp .neq .f64 p0 p0) from rfl) (congrArg Value.bool hc2)) (by decide) ?_
      refine da_off rfl (Eq.trans (show sl _ _ _ = .bool (fcmp .neq .f64 p0 p0) from rfl) (congrArg Value.bool hc2)) (by decide) ?_
      refine da_op rfl (d_pick (b := true) (Eq.trans (show ev _ _ = .bool (fcmp .neq .f64 p0 p0) from rfl) (congrArg Value.bool hc2)) ?_)
      refine da_nil ?_
      subst hr
      exact ⟨rfl, (Ext.refl w)⟩
    · skip
      replace hr := bif_f hr hc2
      refine da_on rfl (Eq.trans (show sl _ _ _ = .bool (fcmp .neq .f64 p0 p0) from rfl) (congrArg Value.bool hc2)) (d_mv (v := .float .f64 p1r) rfl ?_)
      refine da_on rfl (Eq.trans (show sl _ _ _ = .bool (fcmp .neq .f64 p0 p0) from rfl) (congrArg Value.bool hc2)) (d_mv (v := .float .f64 p1r) rfl ?_)
      refine da_on rfl (Eq.trans (show sl _ _ _ = .bool (fcmp .neq .f64 p0 p0) from rfl) (congrArg Value.bool hc2)) (d_fcmp (k := .f64) cNeq rfl rfl p1h p1h ?_)
      refine da_op rfl (d_pick (b := false) (Eq.trans (show ev _ _ = .bool (fcmp .neq .f64 p0 p0) from rfl) (congrArg Value.bool hc2)) ?_)
      refine da_nil ?_
      subst hr
      exact ⟨rfl, (Ext.refl w)⟩
  · skip
    rintro σ1 w1 o1 ⟨s12_1, E1⟩
    have s0_1 : σ1 0 = .float .f64 p0r := (o1 0 rfl).trans rfl
    have s1_1 : σ1 1 = .float .f64 p1r := (o1 1 rfl).trans rfl
    have X3 : Ext w w1 := (Ext.refl w).trans E1
    refine W_cond (b := m1) s12_1 (fun hc4 => ?_) (fun hc4 => ?_)
    · skip
      replace hr := bif_t hr hc4
      refine W_seq ?_
      obtain ⟨m5, hm5, hr⟩ := letv_out hr
      refine W_cut (fun σ' w' => σ' 4 = .bool m5 ∧ Ext w1 w') rfl ?_ ?_
      · skip
        have hr := hm5
        refine da_op rfl (d_mv (v := .float .f64 p0r) s0_1 ?_)
        refine da_op rfl (d_mv (v := .float .f64 p0r) s0_1 ?_)
        refine da_op rfl (d_fcmp (k := .f64) cNeq rfl rfl p0h p0h ?_)
        refine da_op rfl (d_mv (v := .bool (fcmp .neq .f64 p0 p0)) rfl ?_)
        rcases Bool.eq_false_or_eq_true (fcmp .neq .f64 p0 p0) with hc6 | hc6
        · skip
          replace hr := bif_t hr hc6
          refine da_on rfl (Eq.trans (show sl _ _ _ = .bool (fcmp .neq .f64 p0 p0) from rfl) (congrArg Value.bool hc6)) (d_mv (v := .float .f64 p1r) s1_1 ?_)
          refine da_on rfl (Eq.trans (show sl _ _ _ = .bool (fcmp .neq .f64 p0 p0) from rfl) (congrArg Value.bool hc6)) (d_mv (v := .float .f64 p1r) s1_1 ?_)
          refine da_on rfl (Eq.trans (show sl _ _ _ = .bool (fcmp .neq .f64 p0 p0) from rfl) (congrArg Value.bool hc6)) (d_fcmp (k := .f64) cNeq rfl rfl p1h p1h ?_)
          refine da_op rfl (d_pick (b := true) (Eq.trans (show ev _ _ = .bool (fcmp .neq .f64 p0 p0) from rfl) (congrArg Value.bool hc6)) ?_)
          refine da_op rfl (d_as (v := .bool (fcmp .neq .f64 p1 p1)) rfl ?_)
          refine da_nil ?_
          subst hr
          exact ⟨rfl, (Ext.refl w1)⟩
        · skip
          replace hr := bif_f hr hc6
          refine da_off rfl (Eq.trans (show sl _ _ _ = .bool (fcmp .neq .f64 p0 p0) from rfl) (congrArg Value.bool hc6)) (by decide) ?_
          refine da_off rfl (Eq.trans (show sl _ _ _ = .bool (fcmp .neq .f64 p0 p0) from rfl) (congrArg Value.bool hc6)) (by decide) ?_
          refine da_off rfl (Eq.trans (show sl _ _ _ = .bool (fcmp .neq .f64 p0 p0) from rfl) (congrArg Value.bool hc6)) (by decide) ?_
          refine da_op rfl (d_pick (b := false) (Eq.trans (show ev _ _ = .bool (fcmp .neq .f64 p0 p0) from rfl) (congrArg Value.bool hc6)) ?_)
          refine da_op rfl (d_as (v := .bool false) rfl ?_)
          refine da_nil ?_
          subst hr
          exact ⟨rfl, (Ext.refl w1)⟩
      · skip
        rintro σ5 w5 o5 ⟨s4_5, E5⟩
        have X7 : Ext w w5 := X3.trans E5
        refine W_ret ?_
        subst hr
        refine ⟨_, res1 (rv_tmp s4_5), ?_⟩
        exact ⟨rfl, X7⟩
    · skip
      replace hr := bif_f hr hc4
      refine W_skip ?_
      refine W_seq ?_
      refine W_seq ?_
      obtain ⟨m8, hm8, hr⟩ := letv_out hr
      refine W_cut (fun σ' w' => σ' 26 = .bool m8 ∧ Ext w1 w') rfl ?_ ?_
      · skip
        have hr := hm8
        refine da_op rfl (d_mv (v := .float .f64 p0r) s0_1 ?_)
        refine da_op rfl (d_fcmp (k := .f64) cEql rfl rfl p0h cn_f64_0 ?_)
        refine da_op rfl (d_mv (v := .bool (fcmp .eql .f64 p0 0)) rfl ?_)
        rcases Bool.eq_false_or_eq_true (fcmp .eql .f64 p0 0) with hc9 | hc9
        · skip
          replace hr := bif_t hr hc9
          refine da_on rfl (Eq.trans (show sl _ _ _ = .bool (fcmp .eql .f64 p0 0) from rfl) (congrArg Value.bool hc9)) (d_mv (v := .float .f64 p1r) s1_1 ?_)
          refine da_on rfl (Eq.trans (show sl _ _ _ = .bool (fcmp .eql .f64 p0 0) from rfl) (congrArg Value.bool hc9)) (d_fcmp (k := .f64) cEql rfl rfl p1h cn_f64_0 ?_)
          refine da_op rfl (d_pick (b := true) (Eq.trans (show ev _ _ = .bool (fcmp .eql .f64 p0 0) from rfl) (congrArg Value.bool hc9)) ?_)
          refine da_nil ?_
          subst hr
          exact ⟨rfl, (Ext.refl w1)⟩
        · skip
          replace hr := bif_f hr hc9
          refine da_off rfl (Eq.trans (show sl _ _ _ = .bool (fcmp .eql .f64 p0 0) from rfl) (congrArg Value.bool hc9)) (by decide) ?_
          refine da_off rfl (Eq.trans (show sl _ _ _ = .bool (fcmp .eql .f64 p0 0) from rfl) (congrArg Value.bool hc9)) (by decide) ?_
          refine da_op rfl (d_pick (b := false) (Eq.trans (show ev _ _ = .bool (fcmp .eql .f64 p0 0) from rfl) (congrArg Value.bool hc9)) ?_)
          refine da_nil ?_
          subst hr
          exact ⟨rfl, (Ext.refl w1)⟩
      · skip
        rintro σ8 w8 o8 ⟨s26_8, E8⟩
        have s0_8 : σ8 0 = .float .f64 p0r := (o8 0 rfl).trans s0_1
        have s1_8 : σ8 1 = .float .f64 p1r := (o8 1 rfl).trans s1_1
        have X10 : Ext w w8 := X3.trans E8
        refine W_cond (b := m8) s26_8 (fun hc11 => ?_) (fun hc11 => ?_)
        · skip
          replace hr := bif_t hr hc11
          refine W_seq ?_
          refine W_region rfl ?_
          refine da_op rfl (d_mv (v := .float .f64 p0r) s0_8 ?_)
          refine da_op rfl (d_fop (k := .f64) fQuo rfl rfl cn_f64_4607182418800017408 p0h fun r12 w12 h12 _ E12 => ?_)
          have X13 : Ext w w12 := X10.trans E12
          refine da_op rfl (d_fcmp (k := .f64) cGtr rfl rfl h12 cn_f64_0 ?_)
          refine da_op rfl (d_mv (v := .float .f64 p1r) s1_8 ?_)
          refine da_op rfl (d_fop (k := .f64) fQuo rfl rfl cn_f64_4607182418800017408 p1h fun r14 w14 h14 _ E14 => ?_)
          have X15 : Ext w w14 := X13.trans E14
          refine da_op rfl (d_fcmp (k := .f64) cGtr rfl rfl h14 cn_f64_0 ?_)
          refine da_op rfl (d_beq un4 rfl rfl ?_)
          refine da_op rfl (d_as (v := .bool ((fcmp .gtr .f64 (fop .quo .f64 4607182418800017408 p0) 0) == (fcmp .gtr .f64 (fop .quo .f64 4607182418800017408 p1) 0))) rfl ?_)
          refine da_nil ?_
          refine W_ret ?_
          subst hr
          refine ⟨_, res1 (rv_tmp rfl), ?_⟩
          exact ⟨rfl, X15⟩
        · skip
          replace hr := bif_f hr hc11
          refine W_skip ?_
          refine W_seq ?_
          refine W_region rfl ?_
          refine da_op rfl (d_mv (v := .float .f64 p0r) s0_8 ?_)
          refine da_op rfl (d_mv (v := .float .f64 p1r) s1_8 ?_)
          refine da_op rfl (d_fcmp (k := .f64) cEql rfl rfl p0h p1h ?_)
          refine da_op rfl (d_as (v := .bool (fcmp .eql .f64 p0 p1)) rfl ?_)
          refine da_nil ?_
          refine W_ret ?_
          subst hr
          refine ⟨_, res1 (rv_tmp rfl), ?_⟩
          exact ⟨rfl, X10⟩
set_option maxHeartbeats 4000000 in
theorem c38 (p0 : SVector) (p1 : SVector) (p0r0 : Nat) (p0r1 : Nat) (p0r2 : Nat) (p1r0 : Nat) (p1r1 : Nat) (p1r2 : Nat) (r : Bool) (w : World) (hr : M.laws_eqVector p0 p1 = r) (p0h0 : cn .f32 p0r0 = p0.x) (p0h1 : cn .f32 p0r1 = p0.y) (p0h2 : cn .f32 p0r2 = p0.z) (p1h0 : cn .f32 p1r0 = p1.x) (p1h1 : cn .f32 p1r1 = p1.y) (p1h2 : cn .f32 p1r2 = p1.z) :
    Calls Tryz.prog 38 #[.agg #[.float .f32 p0r0, .float .f32 p0r1, .float .f32 p0r2], .agg #[.float .f32 p1r0, .float .f32 p1r1, .float .f32 p1r2]] w fun e w' => e = .returned (.bool r) ∧ Ext w w' := by
  refine calls_of_W Tryz.func38 rfl (Nat.le_of_ble_eq_true rfl) ?_
  refine W_seq ?_
  refine W_region rfl ?_
  refine da_op rfl (d_box (cs := #[.float .f32 p0r0, .float .f32 p0r1, .float .f32 p0r2]) rfl fun w1 B1 E1 => ?_)
  have own2 : w.heap.size ≤ w.heap.size := Nat.le_trans (Ext.refl w).size (Nat.le_refl _)
  have X3 : Ext w w1 := (Ext.refl w).trans E1
  refine da_op rfl (d_box (cs := #[.float .f32 p1r0, .float .f32 p1r1, .float .f32 p1r2]) rfl fun w4 B4 E4 => ?_)
  have own5 : w.heap.size ≤ w1.heap.size := Nat.le_trans X3.size (Nat.le_refl _)
  have sp6 : w.heap.size ≠ w1.heap.size := Nat.ne_of_lt (Nat.lt_of_lt_of_le (lt_heap B1) (Nat.le_refl _))
  have X7 : Ext w w4 := X3.trans E4
  refine da_op rfl (d_as (v := .bool false) rfl ?_)
  refine da_nil ?_
  refine W_seq ?_
  refine W_seq ?_
  refine W_region rfl ?_
  refine da_op rfl (d_fieldAddr rfl (fa57_0 _ _) ?_)
  have B8 : w4.heap[w.heap.size]? = some (.cells #[.float .f32 p0r0, .float .f32 p0r1, .float .f32 p0r2] 57 (0, 0)) := E4.heap B1
  refine da_op rfl (d_load (v := .float .f32 p0r0) rfl agg40 B8 rfl ?_)
  refine da_op rfl (d_widen un40 un72 rfl p0h0 fun r9 w9 h9 _ E9 => ?_)
  have X10 : Ext w w9 := X7.trans E9
  refine da_op rfl (d_fieldAddr rfl (fa57_0 _ _) ?_)
  have B11 : w9.heap[w1.heap.size]? = some (.cells #[.float .f32 p1r0, .float .f32 p1r1, .float .f32 p1r2] 57 (0, 0)) := E9.heap B4
  refine da_op rfl (d_load (v := .float .f32 p1r0) rfl agg40 B11 rfl ?_)
  refine da_op rfl (d_widen un40 un72 rfl p1h0 fun r12 w12 h12 _ E12 => ?_)
  have X13 : Ext w w12 := X10.trans E12
  obtain ⟨m14, hm14, hr⟩ := letv_out hr
  have B15 : w12.heap[w.heap.size]? = some (.cells #[.float .f32 p0r0, .float .f32 p0r1, .float .f32 p0r2] 57 (0, 0)) := E12.heap (E9.heap B8)
  have B16 : w12.heap[w1.heap.size]? = some (.cells #[.float .f32 p1r0, .float .f32 p1r1, .float .f32 p1r2] 57 (0, 0)) := E12.heap B11
  refine da_op rfl (d_cl (vs := [.float .f64 r9, .float .f64 r12]) en39 (ac rfl (ac rfl rfl)) rfl ?_)
  refine (c39 (widen p0.x) (widen p1.x) r9 r12 m14 w12 hm14 h9 h12).mono ?_
  rintro _ w17 ⟨rfl, E17⟩
  refine ⟨_, rfl, ?_⟩
  have X18 : Ext w w17 := X13.trans E17
  refine da_op rfl (d_not rfl ?_)
  refine da_nil ?_
  refine W_cond (b := (!m14)) rfl (fun hc19 => ?_) (fun hc19 => ?_)
  · skip
    replace hr := bif_t hr hc19
    refine W_seq ?_
    refine W_region rfl ?_
    refine da_op rfl (d_as (v := .bool false) rfl ?_)
    refine da_nil ?_
    refine W_ret ?_
    subst hr
    refine ⟨_, res1 (rv_tmp rfl), ?_⟩
    exact ⟨rfl, X18⟩
  · skip
    replace hr := bif_f hr hc19
    refine W_skip ?_
    refine W_seq ?_
    refine W_seq ?_
    refine W_region rfl ?_
    refine da_op rfl (d_fieldAddr rfl (fa57_1 _ _) ?_)
    have B20 : w17.heap[w.heap.size]? = some (.cells #[.float .f32 p0r0, .float .f32 p0r1, .float .f32 p0r2] 57 (0, 0)) := E17.heap B15
    refine da_op rfl (d_load (v := .float .f32 p0r1) rfl agg40 B20 rfl ?_)
    refine da_op rfl (d_widen un40 un72 rfl p0h1 fun r21 w21 h21 _ E21 => ?_)
    have X22 : Ext w w21 := X18.trans E21
    refine da_op rfl (d_fieldAddr rfl (fa57_1 _ _) ?_)
    have B23 : w21.heap[w1.heap.size]? = some (.cells #[.float .f32 p1r0, .float .f32 p1r1, .float .f32 p1r2] 57 (0, 0)) := E21.heap (E17.heap B16)
    refine da_op rfl (d_load (v := .float .f32 p1r1) rfl agg40 B23 rfl ?_)
    refine da_op rfl (d_widen un40 un72 rfl p1h1 fun r24 w24 h24 _ E24 => ?_)
    have X25 : Ext w w24 := X22.trans E24
    obtain ⟨m26, hm26, hr⟩ := letv_out hr
    have B27 : w24.heap[w.heap.size]? = some (.cells #[.float .f32 p0r0, .float .f32 p0r1, .float .f32 p0r2] 57 (0, 0)) := E24.heap (E21.heap B20)
    have B28 : w24.heap[w1.heap.size]? = some (.cells #[.float .f32 p1r0, .float .f32 p1r1, .float .f32 p1r2] 57 (0, 0)) := E24.heap B23
    refine da_op rfl (d_cl (vs := [.float .f64 r21, .float .f64 r24]) en39 (ac rfl (ac rfl rfl)) rfl ?_)
    refine (c39 (widen p0.y) (widen p1.y) r21 r24 m26 w24 hm26 h21 h24).mono ?_
    rintro _ w29 ⟨rfl, E29⟩
    refine ⟨_, rfl, ?_⟩
    have X30 : Ext w w29 := X25.trans E29
    refine da_op rfl (d_not rfl ?_)
    refine da_nil ?_
    refine W_cond (b := (!m26)) rfl (fun hc31 => ?_) (fun hc31 => ?_)
    · skip
      replace hr := bif_t hr hc31
      refine W_seq ?_
      refine W_region rfl ?_
      refine da_op rfl (d_as (v := .bool false) rfl ?_)
      refine da_nil ?_
      refine W_ret ?_
      subst hr
      refine ⟨_, res1 (rv_tmp rfl), ?_⟩
      exact ⟨rfl, X30⟩
    · skip
      replace hr := bif_f hr hc31
      refine W_skip ?_
      refine W_seq ?_
      refine W_seq ?_
      refine W_region rfl ?_
      refine da_op rfl (d_fieldAddr rfl (fa57_2 _ _) ?_)
      have B32 : w29.heap[w.heap.size]? = some (.cells #[.float .f32 p0r0, .float .f32 p0r1, .float .f32 p0r2] 57 (0, 0)) := E29.heap B27
      refine da_op rfl (d_load (v := .float .f32 p0r2) rfl agg40 B32 rfl ?_)
      refine da_op rfl (d_widen un40 un72 rfl p0h2 fun r33 w33 h33 _ E33 => ?_)
      have X34 : Ext w w33 := X30.trans E33
      refine da_op rfl (d_fieldAddr rfl (fa57_2 _ _) ?_)
      have B35 : w33.heap[w1.heap.size]? = some (.cells #[.float .f32 p1r0, .float .f32 p1r1, .float .f32 p1r2] 57 (0, 0)) := E33.heap (E29.heap B28)
      refine da_op rfl (d_load (v := .float .f32 p1r2) rfl agg40 B35 rfl ?_)
      refine da_op rfl (d_widen un40 un72 rfl p1h2 fun r36 w36 h36 _ E36 => ?_)
      have X37 : Ext w w36 := X34.trans E36
      obtain ⟨m38, hm38, hr⟩ := letv_out hr
      have B39 : w36.heap[w.heap.size]? = some (.cells #[.float .f32 p0r0, .float .f32 p0r1, .float .f32 p0r2] 57 (0, 0)) := E36.heap (E33.heap B32)
      have B40 : w36.heap[w1.heap.size]? = some (.cells #[.float .f32 p1r0, .float .f32 p1r1, .float .f32 p1r2] 57 (0, 0)) := E36.heap B35
      refine da_op rfl (d_cl (vs := [.float .f64 r33, .float .f64 r36]) en39 (ac rfl (ac rfl rfl)) rfl ?_)
      refine (c39 (widen p0.z) (widen p1.z) r33 r36 m38 w36 hm38 h33 h36).mono ?_
      rintro _ w41 ⟨rfl, E41⟩
      refine ⟨_, rfl, ?_⟩
      have X42 : Ext w w41 := X37.trans E41
      refine da_op rfl (d_not rfl ?_)
      refine da_nil ?_
      refine W_cond (b := (!m38)) rfl (fun hc43 => ?_) (fun hc43 => ?_)
      · skip
        replace hr := bif_t hr hc43
        refine W_seq ?_
        refine W_region rfl ?_
        refine da_op rfl (d_as (v := .bool false) rfl ?_)
        refine da_nil ?_
        refine W_ret ?_
        subst hr
        refine ⟨_, res1 (rv_tmp rfl), ?_⟩
        exact ⟨rfl, X42⟩
      · skip
        replace hr := bif_f hr hc43
        refine W_skip ?_
        refine W_seq ?_
        refine W_region rfl ?_
        refine da_op rfl (d_as (v := .bool true) rfl ?_)
        refine da_nil ?_
        refine W_ret ?_
        subst hr
        refine ⟨_, res1 (rv_tmp rfl), ?_⟩
        exact ⟨rfl, X42⟩
set_option maxHeartbeats 4000000 in
theorem c16 (p0 : List SVector) (p1 : List SVector) (p0a : Option Addr) (p0n : Nat) (p0c : Nat) (p1a : Option Addr) (p1n : Nat) (p1c : Nat) (r : Bool) (w : World) (hr : M.laws_eqVectorS p0 p1 = some r) (p0R : RS w encSVector (Value.slice p0a p0n p0c) p0) (p1R : RS w encSVector (Value.slice p1a p1n p1c) p1) :
    Calls Tryz.prog 16 #[(Value.slice p0a p0n p0c), (Value.slice p1a p1n p1c)] w fun e w' => e = .returned (.bool r) ∧ Ext w w' := by
  refine calls_of_W Tryz.func16 rfl (Nat.le_of_ble_eq_true rfl) ?_
  refine W_seq ?_
  refine W_region rfl ?_
  refine da_op rfl (d_as (v := .bool false) rfl ?_)
  refine da_nil ?_
  refine W_seq ?_
  refine W_seq ?_
  refine W_region rfl ?_
  refine da_op rfl (d_mv (v := (Value.slice p0a p0n p0c)) rfl ?_)
  refine da_op rfl (d_len (e := encSVector) un22 rfl p0R ?_)
  refine da_op rfl (d_mv (v := (Value.slice p1a p1n p1c)) rfl ?_)
  refine da_op rfl (d_len (e := encSVector) un22 rfl p1R ?_)
  refine da_op rfl (d_icmp cNeq rfl rfl ?_)
  refine da_nil ?_
  refine W_cond (b := (icmp .neq ((p0).length : Int) ((p1).length : Int))) rfl (fun hc1 => ?_) (fun hc1 => ?_)
  · skip
    replace hr := bif_t hr hc1
    refine W_seq ?_
    refine W_region rfl ?_
    refine da_op rfl (d_as (v := .bool false) rfl ?_)
    refine da_nil ?_
    refine W_ret ?_
    obtain rfl := Option.some.inj hr
    refine ⟨_, res1 (rv_tmp rfl), ?_⟩
    exact ⟨rfl, (Ext.refl w)⟩
  · skip
    replace hr := bif_f hr hc1
    refine W_skip ?_
    refine W_seq ?_
    refine W_seq ?_
    refine W_region rfl ?_
    refine da_op rfl (d_as (v := .int .i64 0) rfl ?_)
    refine da_nil ?_
    refine W_block ?_
    obtain ⟨m2, hm2, hr⟩ := bind_out hr
    refine W_loopM hm2 (fun (s2 : Int) σ w' => σ 5 = .int .i64 s2 ∧ σ 0 = (Value.slice p0a p0n p0c) ∧ σ 1 = (Value.slice p1a p1n p1c) ∧ Ext w w') (fun (e2 : (Unit ⊕ Bool)) ex σ w' => sel e2 (fun e2 => ex = .exit 0 ∧ Ext w w') (fun e2 => ex = .ret ∧ σ 4 = .bool e2 ∧ Ext w w')) ⟨rfl, rfl, rfl, (Ext.refl w)⟩ ?_ ?_
    · skip
      rintro s2 σl2 wl2 r2l ⟨i2_S5, i2_S0, i2_S1, i2_X⟩ hr
      refine W_seq ?_
      refine W_seq ?_
      refine W_region rfl ?_
      refine da_op rfl (d_mv (v := .int .i64 s2) i2_S5 ?_)
      refine da_op rfl (d_mv (v := (Value.slice p0a p0n p0c)) i2_S0 ?_)
      have B3 : RS wl2 encSVector (Value.slice p0a p0n p0c) p0 := p0R.ext i2_X
      refine da_op rfl (d_len (e := encSVector) un22 rfl B3 ?_)
      refine da_op rfl (d_icmp cLss rfl rfl ?_)
      refine da_nil ?_
      refine W_cond (b := (icmp .lss s2 ((p0).length : Int))) rfl (fun hc4 => ?_) (fun hc4 => ?_)
      · skip
        replace hr := bif_t hr hc4
        refine W_skip ?_
        refine W_seq ?_
        refine W_block ?_
        refine W_seq ?_
        have B6 : RS wl2 encSVector (Value.slice p1a p1n p1c) p1 := p1R.ext i2_X
        obtain ⟨m7, hm7, hr⟩ := bind_out hr
        obtain ⟨m8, hm8, hr⟩ := bind_out hr
        obtain ⟨m9, hm9, hr⟩ := letv_out hr
        refine W_any [] [{ V := fun _ v _ => v = (Value.slice p0a p0n p0c) }, { V := fun _ v _ => v = (.int .i64 s2) }, { V := fun _ v _ => ∃ d5_2g : Nat, ∃ d5_2o : Nat, v = (.pointer (some ⟨d5_2g, d5_2o, none⟩)) ∧ EL encSVector (Value.slice p0a p0n p0c) (p0).length s2 d5_2g d5_2o }, { V := fun _ v _ => ∃ d5_2r0 : Nat, ∃ d5_2r1 : Nat, ∃ d5_2r2 : Nat, v = (.agg #[.float .f32 d5_2r0, .float .f32 d5_2r1, .float .f32 d5_2r2]) ∧ cn .f32 d5_2r0 = m7.x ∧ cn .f32 d5_2r1 = m7.y ∧ cn .f32 d5_2r2 = m7.z }, { V := fun _ v _ => v = (Value.slice p1a p1n p1c) }, { V := fun _ v _ => v = (.int .i64 s2) }, { V := fun _ v _ => ∃ d5_6g : Nat, ∃ d5_6o : Nat, v = (.pointer (some ⟨d5_6g, d5_6o, none⟩)) ∧ EL encSVector (Value.slice p1a p1n p1c) (p1).length s2 d5_6g d5_6o }, { V := fun _ v _ => ∃ d5_6r0 : Nat, ∃ d5_6r1 : Nat, ∃ d5_6r2 : Nat, v = (.agg #[.float .f32 d5_6r0, .float .f32 d5_6r1, .float .f32 d5_6r2]) ∧ cn .f32 d5_6r0 = m8.x ∧ cn .f32 d5_6r1 = m8.y ∧ cn .f32 d5_6r2 = m8.z }, { V := fun _ v _ => v = (.bool m9) }, { V := fun _ v _ => v = (.bool (!m9)) }] mixed (by kernel_rfl) ⟨trivial, trivial, trivial, trivial, trivial, trivial, trivial, trivial, trivial, trivial, trivial⟩ ⟨?_, ?_, ?_, ?_, ?_, ?_, ?_, ?_, ?_, ?_, trivial⟩ ?_
        · skip
          refine ⟨fun _ _ _ _ _ _ h _ => h, fun _ _ h _ => h, fun σ' w' hA hE hD hP => ?_⟩
          have t0 : σ' 0 = (Value.slice p0a p0n p0c) := (hA 0 rfl).trans i2_S0
          have B0_10 : RS w' encSVector (Value.slice p0a p0n p0c) p0 := B3.frm hE (fun k _ hk => not_oth0)
          refine dg_op rfl (d_mv (v := (Value.slice p0a p0n p0c)) t0 ?_)
          exact ⟨rfl, own_none (Ext.refl w')⟩
        · skip
          refine ⟨fun _ _ _ _ _ _ h _ => h, fun _ _ h _ => h, fun σ' w' hA hE hD hP => ?_⟩
          have t5 : σ' 5 = .int .i64 s2 := (hA 5 rfl).trans i2_S5
          refine dg_op rfl (d_mv (v := .int .i64 s2) t5 ?_)
          exact ⟨rfl, own_none (Ext.refl w')⟩
        · skip
          refine ⟨fun _ _ _ _ _ _ h _ => h, fun _ _ h _ => h, fun σ' w' hA hE hD hP => ?_⟩
          have t17 : σ' 17 = (Value.slice p0a p0n p0c) := hD 0 rfl
          have t18 : σ' 18 = (.int .i64 s2) := hD 1 rfl
          have B0_11 : RS w' encSVector (Value.slice p0a p0n p0c) p0 := B3.frm hE (fun k _ hk => not_oth0)
          refine dg_op rfl (d_indexE (e := encSVector) (v := (Value.slice p0a p0n p0c)) un22 size57 t17 t18 B0_11 hm7 fun g12 o12 l12 => ?_)
          exact ⟨⟨g12, o12, rfl, l12⟩, own_none (Ext.refl _)⟩
        · skip
          refine ⟨fun _ _ _ _ _ _ h _ => h, fun _ _ h _ => h, fun σ' w' hA hE hD hP => ?_⟩
          obtain ⟨d5_2g, d5_2o, t19, d5_2gE⟩ : ∃ d5_2g : Nat, ∃ d5_2o : Nat, σ' 19 = (.pointer (some ⟨d5_2g, d5_2o, none⟩)) ∧ EL encSVector (Value.slice p0a p0n p0c) (p0).length s2 d5_2g d5_2o := hD 2 rfl
          have B0_13 : RS w' encSVector (Value.slice p0a p0n p0c) p0 := B3.frm hE (fun k _ hk => not_oth0)
          obtain ⟨d5_2c, d5_2T, d5_2f, d5_2vs, d5_2hg, d5_2P, d5_2hq⟩ := RS.el B0_13 d5_2gE hm7
          obtain ⟨d5_2r0, d5_2r1, d5_2r2, rfl, d5_2h0, d5_2h1, d5_2h2⟩ := dec_encSVector d5_2hq
          refine dg_op rfl (d_loads (vs := #[.float .f32 d5_2r0, .float .f32 d5_2r1, .float .f32 d5_2r2]) t19 agg57 size57 d5_2hg (sub_take (vs := #[.float .f32 d5_2r0, .float .f32 d5_2r1, .float .f32 d5_2r2]) (us := #[.float .f32 d5_2r0, .float .f32 d5_2r1, .float .f32 d5_2r2]) (i := 0) d5_2P rfl (Nat.le_of_ble_eq_true rfl)) ?_)
          exact ⟨⟨d5_2r0, d5_2r1, d5_2r2, rfl, d5_2h0, d5_2h1, d5_2h2⟩, own_none (Ext.refl w')⟩
        · skip
          refine ⟨fun _ _ _ _ _ _ h _ => h, fun _ _ h _ => h, fun σ' w' hA hE hD hP => ?_⟩
          have t1 : σ' 1 = (Value.slice p1a p1n p1c) := (hA 1 rfl).trans i2_S1
          have B0_14 : RS w' encSVector (Value.slice p1a p1n p1c) p1 := B6.frm hE (fun k _ hk => not_oth0)
          refine dg_op rfl (d_mv (v := (Value.slice p1a p1n p1c)) t1 ?_)
          exact ⟨rfl, own_none (Ext.refl w')⟩
        · skip
          refine ⟨fun _ _ _ _ _ _ h _ => h, fun _ _ h _ => h, fun σ' w' hA hE hD hP => ?_⟩
          have t5 : σ' 5 = .int .i64 s2 := (hA 5 rfl).trans i2_S5
          refine dg_op rfl (d_mv (v := .int .i64 s2) t5 ?_)
          exact ⟨rfl, own_none (Ext.refl w')⟩
        · skip
          refine ⟨fun _ _ _ _ _ _ h _ => h, fun _ _ h _ => h, fun σ' w' hA hE hD hP => ?_⟩
          have t21 : σ' 21 = (Value.slice p1a p1n p1c) := hD 4 rfl
          have t22 : σ' 22 = (.int .i64 s2) := hD 5 rfl
          have B0_15 : RS w' encSVector (Value.slice p1a p1n p1c) p1 := B6.frm hE (fun k _ hk => not_oth0)
          refine dg_op rfl (d_indexE (e := encSVector) (v := (Value.slice p1a p1n p1c)) un22 size57 t21 t22 B0_15 hm8 fun g16 o16 l16 => ?_)
          exact ⟨⟨g16, o16, rfl, l16⟩, own_none (Ext.refl _)⟩
        · skip
          refine ⟨fun _ _ _ _ _ _ h _ => h, fun _ _ h _ => h, fun σ' w' hA hE hD hP => ?_⟩
          obtain ⟨d5_6g, d5_6o, t23, d5_6gE⟩ : ∃ d5_6g : Nat, ∃ d5_6o : Nat, σ' 23 = (.pointer (some ⟨d5_6g, d5_6o, none⟩)) ∧ EL encSVector (Value.slice p1a p1n p1c) (p1).length s2 d5_6g d5_6o := hD 6 rfl
          have B0_17 : RS w' encSVector (Value.slice p1a p1n p1c) p1 := B6.frm hE (fun k _ hk => not_oth0)
          obtain ⟨d5_6c, d5_6T, d5_6f, d5_6vs, d5_6hg, d5_6P, d5_6hq⟩ := RS.el B0_17 d5_6gE hm8
          obtain ⟨d5_6r0, d5_6r1, d5_6r2, rfl, d5_6h0, d5_6h1, d5_6h2⟩ := dec_encSVector d5_6hq
          refine dg_op rfl (d_loads (vs := #[.float .f32 d5_6r0, .float .f32 d5_6r1, .float .f32 d5_6r2]) t23 agg57 size57 d5_6hg (sub_take (vs := #[.float .f32 d5_6r0, .float .f32 d5_6r1, .float .f32 d5_6r2]) (us := #[.float .f32 d5_6r0, .float .f32 d5_6r1, .float .f32 d5_6r2]) (i := 0) d5_6P rfl (Nat.le_of_ble_eq_true rfl)) ?_)
          exact ⟨⟨d5_6r0, d5_6r1, d5_6r2, rfl, d5_6h0, d5_6h1, d5_6h2⟩, own_none (Ext.refl w')⟩
        · skip
          refine ⟨fun _ _ _ _ _ _ h _ => h, fun _ _ h _ => h, fun σ' w' hA hE hD hP => ?_⟩
          obtain ⟨d5_2r0, d5_2r1, d5_2r2, t20, d5_2h0, d5_2h1, d5_2h2⟩ : ∃ d5_2r0 : Nat, ∃ d5_2r1 : Nat, ∃ d5_2r2 : Nat, σ' 20 = (.agg #[.float .f32 d5_2r0, .float .f32 d5_2r1, .float .f32 d5_2r2]) ∧ cn .f32 d5_2r0 = m7.x ∧ cn .f32 d5_2r1 = m7.y ∧ cn .f32 d5_2r2 = m7.z := hD 3 rfl
          obtain ⟨d5_6r0, d5_6r1, d5_6r2, t24, d5_6h0, d5_6h1, d5_6h2⟩ : ∃ d5_6r0 : Nat, ∃ d5_6r1 : Nat, ∃ d5_6r2 : Nat, σ' 24 = (.agg #[.float .f32 d5_6r0, .float .f32 d5_6r1, .float .f32 d5_6r2]) ∧ cn .f32 d5_6r0 = m8.x ∧ cn .f32 d5_6r1 = m8.y ∧ cn .f32 d5_6r2 = m8.z := hD 7 rfl
          refine dg_op rfl (d_cl (vs := [.agg #[.float .f32 d5_2r0, .float .f32 d5_2r1, .float .f32 d5_2r2], .agg #[.float .f32 d5_6r0, .float .f32 d5_6r1, .float .f32 d5_6r2]]) en38 (ac t20 (ac t24 rfl)) rfl ?_)
          refine (c38 m7 m8 d5_2r0 d5_2r1 d5_2r2 d5_6r0 d5_6r1 d5_6r2 m9 w' hm9 d5_2h0 d5_2h1 d5_2h2 d5_6h0 d5_6h1 d5_6h2).mono ?_
          rintro _ w18 ⟨rfl, E18⟩
          refine ⟨_, rfl, ?_⟩
          have X19 : Ext w' w18 := (Ext.refl w').trans E18
          exact ⟨rfl, own_none X19⟩
        · skip
          refine ⟨fun _ _ _ _ _ _ h _ => h, fun _ _ h _ => h, fun σ' w' hA hE hD hP => ?_⟩
          have t25 : σ' 25 = (.bool m9) := hD 8 rfl
          refine dg_op rfl (d_not t25 ?_)
          exact ⟨rfl, own_none (Ext.refl w')⟩
        · skip
          intro σ5 w5 A5 E5 V5
          have E5x : Ext wl2 w5 := ext_of_oth0 E5
          have s26_5 : σ5 26 = (.bool (!m9)) := V5 9 (Nat.le_of_ble_eq_true rfl)
          have s5_5 : σ5 5 = .int .i64 s2 := (A5 5 rfl).trans i2_S5
          have s0_5 : σ5 0 = (Value.slice p0a p0n p0c) := (A5 0 rfl).trans i2_S0
          have s1_5 : σ5 1 = (Value.slice p1a p1n p1c) := (A5 1 rfl).trans i2_S1
          have X20 : Ext w w5 := i2_X.trans E5x
          refine W_cond (b := (!m9)) s26_5 (fun hc21 => ?_) (fun hc21 => ?_)
          · skip
            replace hr := bif_t hr hc21
            refine W_seq ?_
            refine W_region rfl ?_
            refine da_op rfl (d_as (v := .bool false) rfl ?_)
            refine da_nil ?_
            refine W_ret ?_
            obtain rfl := Option.some.inj hr
            exact ⟨_, rfl, rfl, rfl, X20⟩
          · skip
            replace hr := bif_f hr hc21
            refine W_skip ?_
            refine W_region rfl ?_
            refine da_op rfl (d_mv (v := .int .i64 s2) s5_5 ?_)
            refine da_op rfl (d_iarith rfl rfl (.inl ⟨rfl, rfl⟩) ?_)
            refine da_op rfl (d_as (v := .int .i64 (IntKind.i64.wrap (s2 + 1))) rfl ?_)
            refine da_nil ?_
            obtain rfl := Option.some.inj hr
            exact ⟨_, rfl, ⟨rfl, s0_5, s1_5, X20⟩⟩
      · skip
        replace hr := bif_f hr hc4
        refine W_exit ?_
        obtain rfl := Option.some.inj hr
        exact ⟨_, rfl, rfl, i2_X⟩
    · skip
      intro ex σx2 wx2 hq
      rcases m2 with m2 | m2
      · skip
        obtain ⟨rfl, q2_0_X⟩ := hq
        refine W_seq ?_
        refine W_region rfl ?_
        refine da_op rfl (d_as (v := .bool true) rfl ?_)
        refine da_nil ?_
        refine W_ret ?_
        obtain rfl := Option.some.inj hr
        refine ⟨_, res1 (rv_tmp rfl), ?_⟩
        exact ⟨rfl, q2_0_X⟩
      · skip
        obtain ⟨rfl, q2_1_S4, q2_1_X⟩ := hq
        obtain rfl := Option.some.inj hr
        refine ⟨_, res1 (rv_tmp q2_1_S4), ?_⟩
        exact ⟨rfl, q2_1_X⟩
set_option maxHeartbeats 4000000 in
theorem c17 (p0 : List Nat) (p1 : List Nat) (p0a : Option Addr) (p0n : Nat) (p0c : Nat) (p1a : Option Addr) (p1n : Nat) (p1c : Nat) (r : Bool) (w : World) (hr : M.laws_eqFloat32S p0 p1 = some r) (p0R : RS w encF_f32 (Value.slice p0a p0n p0c) p0) (p1R : RS w encF_f32 (Value.slice p1a p1n p1c) p1) :
    Calls Tryz.prog 17 #[(Value.slice p0a p0n p0c), (Value.slice p1a p1n p1c)] w fun e w' => e = .returned (.bool r) ∧ Ext w w' := by
  refine calls_of_W Tryz.func17 rfl (Nat.le_of_ble_eq_true rfl) ?_
  refine W_seq ?_
  refine W_region rfl ?_
  refine da_op rfl (d_as (v := .bool false) rfl ?_)
  refine da_nil ?_
  refine W_seq ?_
  refine W_seq ?_
  refine W_region rfl ?_
  refine da_op rfl (d_mv (v := (Value.slice p0a p0n p0c)) rfl ?_)
  refine da_op rfl (d_len (e := encF_f32) un23 rfl p0R ?_)
  refine da_op rfl (d_mv (v := (Value.slice p1a p1n p1c)) rfl ?_)
  refine da_op rfl (d_len (e := encF_f32) un23 rfl p1R ?_)
  refine da_op rfl (d_icmp cNeq rfl rfl ?_)
  refine da_nil ?_
  refine W_cond (b := (icmp .neq ((p0).length : Int) ((p1).length : Int))) rfl (fun hc1 => ?_) (fun hc1 => ?_)
  · skip
    replace hr := bif_t hr hc1
    refine W_seq ?_
    refine W_region rfl ?_
    refine da_op rfl (d_as (v := .bool false) rfl ?_)
    refine da_nil ?_
    refine W_ret ?_
    obtain rfl := Option.some.inj hr
    refine ⟨_, res1 (rv_tmp rfl), ?_⟩
    exact ⟨rfl, (Ext.refl w)⟩
  · skip
    replace hr := bif_f hr hc1
    refine W_skip ?_
    refine W_seq ?_
    refine W_seq ?_
    refine W_region rfl ?_
    refine da_op rfl (d_as (v := .int .i64 0) rfl ?_)
    refine da_nil ?_
    refine W_block ?_
    obtain ⟨m2, hm2, hr⟩ := bind_out hr
    refine W_loopM hm2 (fun (s2 : Int) σ w' => σ 5 = .int .i64 s2 ∧ σ 0 = (Value.slice p0a p0n p0c) ∧ σ 1 = (Value.slice p1a p1n p1c) ∧ Ext w w') (fun (e2 : (Unit ⊕ Bool)) ex σ w' => sel e2 (fun e2 => ex = .exit 0 ∧ Ext w w') (fun e2 => ex = .ret ∧ σ 4 = .bool e2 ∧ Ext w w')) ⟨rfl, rfl, rfl, (Ext.refl w)⟩ ?_ ?_
    · skip
      rintro s2 σl2 wl2 r2l ⟨i2_S5, i2_S0, i2_S1, i2_X⟩ hr
      refine W_seq ?_
      refine W_seq ?_
      refine W_region rfl ?_
      refine da_op rfl (d_mv (v := .int .i64 s2) i2_S5 ?_)
      refine da_op rfl (d_mv (v := (Value.slice p0a p0n p0c)) i2_S0 ?_)
      have B3 : RS wl2 encF_f32 (Value.slice p0a p0n p0c) p0 := p0R.ext i2_X
      refine da_op rfl (d_len (e := encF_f32) un23 rfl B3 ?_)
      refine da_op rfl (d_icmp cLss rfl rfl ?_)
      refine da_nil ?_
      refine W_cond (b := (icmp .lss s2 ((p0).length : Int))) rfl (fun hc4 => ?_) (fun hc4 => ?_)
      · skip
        replace hr := bif_t hr hc4
        refine W_skip ?_
        refine W_seq ?_
        refine W_block ?_
        refine W_seq ?_
        have B6 : RS wl2 encF_f32 (Value.slice p1a p1n p1c) p1 := p1R.ext i2_X
        obtain ⟨m7, hm7, hr⟩ := bind_out hr
        obtain ⟨m8, hm8, hr⟩ := bind_out hr
        obtain ⟨m9, hm9, hr⟩ := letv_out hr
        refine W_any [] [{ V := fun _ v _ => v = (Value.slice p0a p0n p0c) }, { V := fun _ v _ => v = (.int .i64 s2) }, { V := fun _ v _ => ∃ d5_2g : Nat, ∃ d5_2o : Nat, v = (.pointer (some ⟨d5_2g, d5_2o, none⟩)) ∧ EL encF_f32 (Value.slice p0a p0n p0c) (p0).length s2 d5_2g d5_2o }, { V := fun _ v _ => ∃ d5_2r0 : Nat, v = (.float .f32 d5_2r0) ∧ cn .f32 d5_2r0 = m7 }, { V := fun _ v _ => ∃ d5_4r : Nat, v = (.float .f64 d5_4r) ∧ cn .f64 d5_4r = (widen m7) }, { V := fun _ v _ => v = (Value.slice p1a p1n p1c) }, { V := fun _ v _ => v = (.int .i64 s2) }, { V := fun _ v _ => ∃ d5_7g : Nat, ∃ d5_7o : Nat, v = (.pointer (some ⟨d5_7g, d5_7o, none⟩)) ∧ EL encF_f32 (Value.slice p1a p1n p1c) (p1).length s2 d5_7g d5_7o }, { V := fun _ v _ => ∃ d5_7r0 : Nat, v = (.float .f32 d5_7r0) ∧ cn .f32 d5_7r0 = m8 }, { V := fun _ v _ => ∃ d5_9r : Nat, v = (.float .f64 d5_9r) ∧ cn .f64 d5_9r = (widen m8) }, { V := fun _ v _ => v = (.bool m9) }, { V := fun _ v _ => v = (.bool (!m9)) }] mixed (by kernel_rfl) ⟨trivial, trivial, trivial, trivial, trivial, trivial, trivial, trivial, trivial, trivial, trivial, trivial, trivial⟩ ⟨?_, ?_, ?_, ?_, ?_, ?_, ?_, ?_, ?_, ?_, ?_, ?_, trivial⟩ ?_
        · skip
          refine ⟨fun _ _ _ _ _ _ h _ => h, fun _ _ h _ => h, fun σ' w' hA hE hD hP => ?_⟩
          have t0 : σ' 0 = (Value.slice p0a p0n p0c) := (hA 0 rfl).trans i2_S0
          have B0_10 : RS w' encF_f32 (Value.slice p0a p0n p0c) p0 := B3.frm hE (fun k _ hk => not_oth0)
          refine dg_op rfl (d_mv (v := (Value.slice p0a p0n p0c)) t0 ?_)
          exact ⟨rfl, own_none (Ext.refl w')⟩
        · skip
          refine ⟨fun _ _ _ _ _ _ h _ => h, fun _ _ h _ => h, fun σ' w' hA hE hD hP => ?_⟩
          have t5 : σ' 5 = .int .i64 s2 := (hA 5 rfl).trans i2_S5
          refine dg_op rfl (d_mv (v := .int .i64 s2) t5 ?_)
          exact ⟨rfl, own_none (Ext.refl w')⟩
        · skip
          refine ⟨fun _ _ _ _ _ _ h _ => h, fun _ _ h _ => h, fun σ' w' hA hE hD hP => ?_⟩
          have t17 : σ' 17 = (Value.slice p0a p0n p0c) := hD 0 rfl
          have t18 : σ' 18 = (.int .i64 s2) := hD 1 rfl
          have B0_11 : RS w' encF_f32 (Value.slice p0a p0n p0c) p0 := B3.frm hE (fun k _ hk => not_oth0)
          refine dg_op rfl (d_indexE (e := encF_f32) (v := (Value.slice p0a p0n p0c)) un23 size40 t17 t18 B0_11 hm7 fun g12 o12 l12 => ?_)
          exact ⟨⟨g12, o12, rfl, l12⟩, own_none (Ext.refl _)⟩
        · skip
          refine ⟨fun _ _ _ _ _ _ h _ => h, fun _ _ h _ => h, fun σ' w' hA hE hD hP => ?_⟩
          obtain ⟨d5_2g, d5_2o, t19, d5_2gE⟩ : ∃ d5_2g : Nat, ∃ d5_2o : Nat, σ' 19 = (.pointer (some ⟨d5_2g, d5_2o, none⟩)) ∧ EL encF_f32 (Value.slice p0a p0n p0c) (p0).length s2 d5_2g d5_2o := hD 2 rfl
          have B0_13 : RS w' encF_f32 (Value.slice p0a p0n p0c) p0 := B3.frm hE (fun k _ hk => not_oth0)
          obtain ⟨d5_2c, d5_2T, d5_2f, d5_2vs, d5_2hg, d5_2P, d5_2hq⟩ := RS.el B0_13 d5_2gE hm7
          obtain ⟨d5_2r0, rfl, d5_2h0⟩ := dec_encF_f32 d5_2hq
          refine dg_op rfl (d_load (v := .float .f32 d5_2r0) t19 agg40 d5_2hg (sub_get (vs := #[.float .f32 d5_2r0]) d5_2P (i := 0) rfl) ?_)
          exact ⟨⟨d5_2r0, rfl, d5_2h0⟩, own_none (Ext.refl w')⟩
        · skip
          refine ⟨fun _ _ _ _ _ _ h _ => h, fun _ _ h _ => h, fun σ' w' hA hE hD hP => ?_⟩
          obtain ⟨d5_2r0, t20, d5_2h0⟩ : ∃ d5_2r0 : Nat, σ' 20 = (.float .f32 d5_2r0) ∧ cn .f32 d5_2r0 = m7 := hD 3 rfl
          refine dg_op rfl (d_widen un40 un72 t20 d5_2h0 fun r14 w14 h14 _ E14 => ?_)
          have X15 : Ext w' w14 := (Ext.refl w').trans E14
          exact ⟨⟨r14, rfl, h14⟩, own_none X15⟩
        · skip
          refine ⟨fun _ _ _ _ _ _ h _ => h, fun _ _ h _ => h, fun σ' w' hA hE hD hP => ?_⟩
          have t1 : σ' 1 = (Value.slice p1a p1n p1c) := (hA 1 rfl).trans i2_S1
          have B0_16 : RS w' encF_f32 (Value.slice p1a p1n p1c) p1 := B6.frm hE (fun k _ hk => not_oth0)
          refine dg_op rfl (d_mv (v := (Value.slice p1a p1n p1c)) t1 ?_)
          exact ⟨rfl, own_none (Ext.refl w')⟩
        · skip
          refine ⟨fun _ _ _ _ _ _ h _ => h, fun _ _ h _ => h, fun σ' w' hA hE hD hP => ?_⟩
          have t5 : σ' 5 = .int .i64 s2 := (hA 5 rfl).trans i2_S5
          refine dg_op rfl (d_mv (v := .int .i64 s2) t5 ?_)
          exact ⟨rfl, own_none (Ext.refl w')⟩
        · skip
          refine ⟨fun _ _ _ _ _ _ h _ => h, fun _ _ h _ => h, fun σ' w' hA hE hD hP => ?_⟩
          have t22 : σ' 22 = (Value.slice p1a p1n p1c) := hD 5 rfl
          have t23 : σ' 23 = (.int .i64 s2) := hD 6 rfl
          have B0_17 : RS w' encF_f32 (Value.slice p1a p1n p1c) p1 := B6.frm hE (fun k _ hk => not_oth0)
          refine dg_op rfl (d_indexE (e := encF_f32) (v := (Value.slice p1a p1n p1c)) un23 size40 t22 t23 B0_17 hm8 fun g18 o18 l18 => ?_)
          exact ⟨⟨g18, o18, rfl, l18⟩, own_none (Ext.refl _)⟩
        · skip
          refine ⟨fun _ _ _ _ _ _ h _ => h, fun _ _ h _ => h, fun σ' w' hA hE hD hP => ?_⟩
          obtain ⟨d5_7g, d5_7o, t24, d5_7gE⟩ : ∃ d5_7g : Nat, ∃ d5_7o : Nat, σ' 24 = (.pointer (some ⟨d5_7g, d5_7o, none⟩)) ∧ EL encF_f32 (Value.slice p1a p1n p1c) (p1).length s2 d5_7g d5_7o := hD 7 rfl
          have B0_19 : RS w' encF_f32 (Value.slice p1a p1n p1c) p1 := B6.frm hE (fun k _ hk => not_oth0)
          obtain ⟨d5_7c, d5_7T, d5_7f, d5_7vs, d5_7hg, d5_7P, d5_7hq⟩ := RS.el B0_19 d5_7gE hm8
          obtain ⟨d5_7r0, rfl, d5_7h0⟩ := dec_encF_f32 d5_7hq
          refine dg_op rfl (d_load (v := .float .f32 d5_7r0) t24 agg40 d5_7hg (sub_get (vs := #[.float .f32 d5_7r0]) d5_7P (i := 0) rfl) ?_)
          exact ⟨⟨d5_7r0, rfl, d5_7h0⟩, own_none (Ext.refl w')⟩
        · skip
          refine ⟨fun _ _ _ _ _ _ h _ => h, fun _ _ h _ => h, fun σ' w' hA hE hD hP => ?_⟩
          obtain ⟨d5_7r0, t25, d5_7h0⟩ : ∃ d5_7r0 : Nat, σ' 25 = (.float .f32 d5_7r0) ∧ cn .f32 d5_7r0 = m8 := hD 8 rfl
          refine dg_op rfl (d_widen un40 un72 t25 d5_7h0 fun r20 w20 h20 _ E20 => ?_)
          have X21 : Ext w' w20 := (Ext.refl w').trans E20
          exact ⟨⟨r20, rfl, h20⟩, own_none X21⟩
        · skip
          refine ⟨fun _ _ _ _ _ _ h _ => h, fun _ _ h _ => h, fun σ' w' hA hE hD hP => ?_⟩
          obtain ⟨d5_4r, t21, d5_4h⟩ : ∃ d5_4r : Nat, σ' 21 = (.float .f64 d5_4r) ∧ cn .f64 d5_4r = (widen m7) := hD 4 rfl
          obtain ⟨d5_9r, t26, d5_9h⟩ : ∃ d5_9r : Nat, σ' 26 = (.float .f64 d5_9r) ∧ cn .f64 d5_9r = (widen m8) := hD 9 rfl
          refine dg_op rfl (d_cl (vs := [.float .f64 d5_4r, .float .f64 d5_9r]) en39 (ac t21 (ac t26 rfl)) rfl ?_)
          refine (c39 (widen m7) (widen m8) d5_4r d5_9r m9 w' hm9 d5_4h d5_9h).mono ?_
          rintro _ w22 ⟨rfl, E22⟩
          refine ⟨_, rfl, ?_⟩
          have X23 : Ext w' w22 := (Ext.refl w').trans E22
          exact ⟨rfl, own_none X23⟩
        · skip
          refine ⟨fun _ _ _ _ _ _ h _ => h, fun _ _ h _ => h, fun σ' w' hA hE hD hP => ?_⟩
          have t27 : σ' 27 = (.bool m9) := hD 10 rfl
          refine dg_op rfl (d_not t27 ?_)
          exact ⟨rfl, own_none (Ext.refl w')⟩
        · skip
          intro σ5 w5 A5 E5 V5
          have E5x : Ext wl2 w5 := ext_of_oth0 E5
          have s28_5 : σ5 28 = (.bool (!m9)) := V5 11 (Nat.le_of_ble_eq_true rfl)
          have s5_5 : σ5 5 = .int .i64 s2 := (A5 5 rfl).trans i2_S5
          have s0_5 : σ5 0 = (Value.slice p0a p0n p0c) := (A5 0 rfl).trans i2_S0
          have s1_5 : σ5 1 = (Value.slice p1a p1n p1c) := (A5 1 rfl).trans i2_S1
          have X24 : Ext w w5 := i2_X.trans E5x
          refine W_cond (b := (!m9)) s28_5 (fun hc25 => ?_) (fun hc25 => ?_)
          · skip
            replace hr := bif_t hr hc25
            refine W_seq ?_
            refine W_region rfl ?_
            refine da_op rfl (d_as (v := .bool false) rfl ?_)
            refine da_nil ?_
            refine W_ret ?_
            obtain rfl := Option.some.inj hr
            exact ⟨_, rfl, rfl, rfl, X24⟩
          · skip
            replace hr := bif_f hr hc25
            refine W_skip ?_
            refine W_region rfl ?_
            refine da_op rfl (d_mv (v := .int .i64 s2) s5_5 ?_)
            refine da_op rfl (d_iarith rfl rfl (.inl ⟨rfl, rfl⟩) ?_)
            refine da_op rfl (d_as (v := .int .i64 (IntKind.i64.wrap (s2 + 1))) rfl ?_)
            refine da_nil ?_
            obtain rfl := Option.some.inj hr
            exact ⟨_, rfl, ⟨rfl, s0_5, s1_5, X24⟩⟩
      · skip
        replace hr := bif_f hr hc4
        refine W_exit ?_
        obtain rfl := Option.some.inj hr
        exact ⟨_, rfl, rfl, i2_X⟩
    · skip
      intro ex σx2 wx2 hq
      rcases m2 with m2 | m2
      · skip
        obtain ⟨rfl, q2_0_X⟩ := hq
        refine W_seq ?_
        refine W_region rfl ?_
        refine da_op rfl (d_as (v := .bool true) rfl ?_)
        refine da_nil ?_
        refine W_ret ?_
        obtain rfl := Option.some.inj hr
        refine ⟨_, res1 (rv_tmp rfl), ?_⟩
        exact ⟨rfl, q2_0_X⟩
      · skip
        obtain ⟨rfl, q2_1_S4, q2_1_X⟩ := hq
        obtain rfl := Option.some.inj hr
        refine ⟨_, res1 (rv_tmp q2_1_S4), ?_⟩
        exact ⟨rfl, q2_1_X⟩
set_option maxHeartbeats 4000000 in
theorem c40 (p0 : SRod) (p1 : SRod) (p0r2 : Nat) (p1r2 : Nat) (r : Bool) (w : World) (hr : M.laws_eqRod p0 p1 = r) (p0h2 : cn .f32 p0r2 = p0.long) (p1h2 : cn .f32 p1r2 = p1.long) :
    Calls Tryz.prog 40 #[.agg #[.int .i64 p0.a, .int .i64 p0.b, .float .f32 p0r2], .agg #[.int .i64 p1.a, .int .i64 p1.b, .float .f32 p1r2]] w fun e w' => e = .returned (.bool r) ∧ Ext w w' := by
  refine calls_of_W Tryz.func40 rfl (Nat.le_of_ble_eq_true rfl) ?_
  refine W_seq ?_
  refine W_region rfl ?_
  refine da_op rfl (d_box (cs := #[.int .i64 p0.a, .int .i64 p0.b, .float .f32 p0r2]) rfl fun w1 B1 E1 => ?_)
  have own2 : w.heap.size ≤ w.heap.size := Nat.le_trans (Ext.refl w).size (Nat.le_refl _)
  have X3 : Ext w w1 := (Ext.refl w).trans E1
  refine da_op rfl (d_box (cs := #[.int .i64 p1.a, .int .i64 p1.b, .float .f32 p1r2]) rfl fun w4 B4 E4 => ?_)
  have own5 : w.heap.size ≤ w1.heap.size := Nat.le_trans X3.size (Nat.le_refl _)
  have sp6 : w.heap.size ≠ w1.heap.size := Nat.ne_of_lt (Nat.lt_of_lt_of_le (lt_heap B1) (Nat.le_refl _))
  have X7 : Ext w w4 := X3.trans E4
  refine da_op rfl (d_as (v := .bool false) rfl ?_)
  refine da_nil ?_
  refine W_seq ?_
  refine W_seq ?_
  refine W_region rfl ?_
  refine da_op rfl (d_fieldAddr rfl (fa42_0 _ _) ?_)
  have B8 : w4.heap[w.heap.size]? = some (.cells #[.int .i64 p0.a, .int .i64 p0.b, .float .f32 p0r2] 42 (0, 0)) := E4.heap B1
  refine da_op rfl (d_load (v := .int .i64 p0.a) rfl agg2 B8 rfl ?_)
  refine da_op rfl (d_fieldAddr rfl (fa42_0 _ _) ?_)
  refine da_op rfl (d_load (v := .int .i64 p1.a) rfl agg2 B4 rfl ?_)
  refine da_op rfl (d_icmp cNeq rfl rfl ?_)
  refine da_nil ?_
  refine W_cond (b := (icmp .neq p0.a p1.a)) rfl (fun hc9 => ?_) (fun hc9 => ?_)
  · skip
    replace hr := bif_t hr hc9
    refine W_seq ?_
    refine W_region rfl ?_
    refine da_op rfl (d_as (v := .bool false) rfl ?_)
    refine da_nil ?_
    refine W_ret ?_
    subst hr
    refine ⟨_, res1 (rv_tmp rfl), ?_⟩
    exact ⟨rfl, X7⟩
  · skip
    replace hr := bif_f hr hc9
    refine W_skip ?_
    refine W_seq ?_
    refine W_seq ?_
    refine W_region rfl ?_
    refine da_op rfl (d_fieldAddr rfl (fa42_1 _ _) ?_)
    refine da_op rfl (d_load (v := .int .i64 p0.b) rfl agg2 B8 rfl ?_)
    refine da_op rfl (d_fieldAddr rfl (fa42_1 _ _) ?_)
    refine da_op rfl (d_load (v := .int .i64 p1.b) rfl agg2 B4 rfl ?_)
    refine da_op rfl (d_icmp cNeq rfl rfl ?_)
    refine da_nil ?_
    refine W_cond (b := (icmp .neq p0.b p1.b)) rfl (fun hc10 => ?_) (fun hc10 => ?_)
    · skip
      replace hr := bif_t hr hc10
      refine W_seq ?_
      refine W_region rfl ?_
      refine da_op rfl (d_as (v := .bool false) rfl ?_)
      refine da_nil ?_
      refine W_ret ?_
      subst hr
      refine ⟨_, res1 (rv_tmp rfl), ?_⟩
      exact ⟨rfl, X7⟩
    · skip
      replace hr := bif_f hr hc10
      refine W_skip ?_
      refine W_seq ?_
      refine W_seq ?_
      refine W_region rfl ?_
      refine da_op rfl (d_fieldAddr rfl (fa42_2 _ _) ?_)
      refine da_op rfl (d_load (v := .float .f32 p0r2) rfl agg40 B8 rfl ?_)
      refine da_op rfl (d_widen un40 un72 rfl p0h2 fun r11 w11 h11 _ E11 => ?_)
      have X12 : Ext w w11 := X7.trans E11
      refine da_op rfl (d_fieldAddr rfl (fa42_2 _ _) ?_)
      have B13 : w11.heap[w1.heap.size]? = some (.cells #[.int .i64 p1.a, .int .i64 p1.b, .float .f32 p1r2] 42 (0, 0)) := E11.heap B4
      refine da_op rfl (d_load (v := .float .f32 p1r2) rfl agg40 B13 rfl ?_)
      refine da_op rfl (d_widen un40 un72 rfl p1h2 fun r14 w14 h14 _ E14 => ?_)
      have X15 : Ext w w14 := X12.trans E14
      obtain ⟨m16, hm16, hr⟩ := letv_out hr
      have B17 : w14.heap[w.heap.size]? = some (.cells #[.int .i64 p0.a, .int .i64 p0.b, .float .f32 p0r2] 42 (0, 0)) := E14.heap (E11.heap B8)
      have B18 : w14.heap[w1.heap.size]? = some (.cells #[.int .i64 p1.a, .int .i64 p1.b, .float .f32 p1r2] 42 (0, 0)) := E14.heap B13
      refine da_op rfl (d_cl (vs := [.float .f64 r11, .float .f64 r14]) en39 (ac rfl (ac rfl rfl)) rfl ?_)
      refine (c39 (widen p0.long) (widen p1.long) r11 r14 m16 w14 hm16 h11 h14).mono ?_
      rintro _ w19 ⟨rfl, E19⟩
      refine ⟨_, rfl, ?_⟩
      have X20 : Ext w w19 := X15.trans E19
      refine da_op rfl (d_not rfl ?_)
      refine da_nil ?_
      refine W_cond (b := (!m16)) rfl (fun hc21 => ?_) (fun hc21 => ?_)
      · skip
        replace hr := bif_t hr hc21
        refine W_seq ?_
        refine W_region rfl ?_
        refine da_op rfl (d_as (v := .bool false) rfl ?_)
        refine da_nil ?_
        refine W_ret ?_
        subst hr
        refine ⟨_, res1 (rv_tmp rfl), ?_⟩
        exact ⟨rfl, X20⟩
      · skip
        replace hr := bif_f hr hc21
        refine W_skip ?_
        refine W_seq ?_
        refine W_region rfl ?_
        refine da_op rfl (d_as (v := .bool true) rfl ?_)
        refine da_nil ?_
        refine W_ret ?_
        subst hr
        refine ⟨_, res1 (rv_tmp rfl), ?_⟩
        exact ⟨rfl, X20⟩
set_option maxHeartbeats 4000000 in
theorem c18 (p0 : List SRod) (p1 : List SRod) (p0a : Option Addr) (p0n : Nat) (p0c : Nat) (p1a : Option Addr) (p1n : Nat) (p1c : Nat) (r : Bool) (w : World) (hr : M.laws_eqRodS p0 p1 = some r) (p0R : RS w encSRod (Value.slice p0a p0n p0c) p0) (p1R : RS w encSRod (Value.slice p1a p1n p1c) p1) :
    Calls Tryz.prog 18 #[(Value.slice p0a p0n p0c), (Value.slice p1a p1n p1c)] w fun e w' => e = .returned (.bool r) ∧ Ext w w' := by
  refine calls_of_W Tryz.func18 rfl (Nat.le_of_ble_eq_true rfl) ?_
  refine W_seq ?_
  refine W_region rfl ?_
  refine da_op rfl (d_as (v := .bool false) rfl ?_)
  refine da_nil ?_
  refine W_seq ?_
  refine W_seq ?_
  refine W_region rfl ?_
  refine da_op rfl (d_mv (v := (Value.slice p0a p0n p0c)) rfl ?_)
  refine da_op rfl (d_len (e := encSRod) un24 rfl p0R ?_)
  refine da_op rfl (d_mv (v := (Value.slice p1a p1n p1c)) rfl ?_)
  refine da_op rfl (d_len (e := encSRod) un24 rfl p1R ?_)
  refine da_op rfl (d_icmp cNeq rfl rfl ?_)
  refine da_nil ?_
  refine W_cond (b := (icmp .neq ((p0).length : Int) ((p1).length : Int))) rfl (fun hc1 => ?_) (fun hc1 => ?_)
  · skip
    replace hr := bif_t hr hc1
    refine W_seq ?_
    refine W_region rfl ?_
    refine da_op rfl (d_as (v := .bool false) rfl ?_)
    refine da_nil ?_
    refine W_ret ?_
    obtain rfl := Option.some.inj hr
    refine ⟨_, res1 (rv_tmp rfl), ?_⟩
    exact ⟨rfl, (Ext.refl w)⟩
  · skip
    replace hr := bif_f hr hc1
    refine W_skip ?_
    refine W_seq ?_
    refine W_seq ?_
    refine W_region rfl ?_
    refine da_op rfl (d_as (v := .int .i64 0) rfl ?_)
    refine da_nil ?_
    refine W_block ?_
    obtain ⟨m2, hm2, hr⟩ := bind_out hr
    refine W_loopM hm2 (fun (s2 : Int) σ w' => σ 5 = .int .i64 s2 ∧ σ 0 = (Value.slice p0a p0n p0c) ∧ σ 1 = (Value.slice p1a p1n p1c) ∧ Ext w w') (fun (e2 : (Unit ⊕ Bool)) ex σ w' => sel e2 (fun e2 => ex = .exit 0 ∧ Ext w w') (fun e2 => ex = .ret ∧ σ 4 = .bool e2 ∧ Ext w w')) ⟨rfl, rfl, rfl, (Ext.refl w)⟩ ?_ ?_
    · skip
      rintro s2 σl2 wl2 r2l ⟨i2_S5, i2_S0, i2_S1, i2_X⟩ hr
      refine W_seq ?_
      refine W_seq ?_
      refine W_region rfl ?_
      refine da_op rfl (d_mv (v := .int .i64 s2) i2_S5 ?_)
      refine da_op rfl (d_mv (v := (Value.slice p0a p0n p0c)) i2_S0 ?_)
      have B3 : RS wl2 encSRod (Value.slice p0a p0n p0c) p0 := p0R.ext i2_X
      refine da_op rfl (d_len (e := encSRod) un24 rfl B3 ?_)
      refine da_op rfl (d_icmp cLss rfl rfl ?_)
      refine da_nil ?_
      refine W_cond (b := (icmp .lss s2 ((p0).length : Int))) rfl (fun hc4 => ?_) (fun hc4 => ?_)
      · skip
        replace hr := bif_t hr hc4
        refine W_skip ?_
        refine W_seq ?_
        refine W_block ?_
        refine W_seq ?_
        have B6 : RS wl2 encSRod (Value.slice p1a p1n p1c) p1 := p1R.ext i2_X
        obtain ⟨m7, hm7, hr⟩ := bind_out hr
        obtain ⟨m8, hm8, hr⟩ := bind_out hr
        obtain ⟨m9, hm9, hr⟩ := letv_out hr
        refine W_any [] [{ V := fun _ v _ => v = (Value.slice p0a p0n p0c) }, { V := fun _ v _ => v = (.int .i64 s2) }, { V := fun _ v _ => ∃ d5_2g : Nat, ∃ d5_2o : Nat, v = (.pointer (some ⟨d5_2g, d5_2o, none⟩)) ∧ EL encSRod (Value.slice p0a p0n p0c) (p0).length s2 d5_2g d5_2o }, { V := fun _ v _ => ∃ d5_2r2 : Nat, v = (.agg #[.int .i64 m7.a, .int .i64 m7.b, .float .f32 d5_2r2]) ∧ cn .f32 d5_2r2 = m7.long }, { V := fun _ v _ => v = (Value.slice p1a p1n p1c) }, { V := fun _ v _ => v = (.int .i64 s2) }, { V := fun _ v _ => ∃ d5_6g : Nat, ∃ d5_6o : Nat, v = (.pointer (some ⟨d5_6g, d5_6o, none⟩)) ∧ EL encSRod (Value.slice p1a p1n p1c) (p1).length s2 d5_6g d5_6o }, { V := fun _ v _ => ∃ d5_6r2 : Nat, v = (.agg #[.int .i64 m8.a, .int .i64 m8.b, .float .f32 d5_6r2]) ∧ cn .f32 d5_6r2 = m8.long }, { V := fun _ v _ => v = (.bool m9) }, { V := fun _ v _ => v = (.bool (!m9)) }] mixed (by kernel_rfl) ⟨trivial, trivial, trivial, trivial, trivial, trivial, trivial, trivial, trivial, trivial, trivial⟩ ⟨?_, ?_, ?_, ?_, ?_, ?_, ?_, ?_, ?_, ?_, trivial⟩ ?_
        · skip
          refine ⟨fun _ _ _ _ _ _ h _ => h, fun _ _ h _ => h, fun σ' w' hA hE hD hP => ?_⟩
          have t0 : σ' 0 = (Value.slice p0a p0n p0c) := (hA 0 rfl).trans i2_S0
          have B0_10 : RS w' encSRod (Value.slice p0a p0n p0c) p0 := B3.frm hE (fun k _ hk => not_oth0)
          refine dg_op rfl (d_mv (v := (Value.slice p0a p0n p0c)) t0 ?_)
          exact ⟨rfl, own_none (Ext.refl w')⟩
        · skip
          refine ⟨fun _ _ _ _ _ _ h _ => h, fun _ _ h _ => h, fun σ' w' hA hE hD hP => ?_⟩
          have t5 : σ' 5 = .int .i64 s2 := (hA 5 rfl).trans i2_S5
          refine dg_op rfl (d_mv (v := .int .i64 s2) t5 ?_)
          exact ⟨rfl, own_none (Ext.refl w')⟩
        · skip
          refine ⟨fun _ _ _ _ _ _ h _ => h, fun _ _ h _ => h, fun σ' w' hA hE hD hP => ?_⟩
          have t17 : σ' 17 = (Value.slice p0a p0n p0c) := hD 0 rfl
          have t18 : σ' 18 = (.int .i64 s2) := hD 1 rfl
          have B0_11 : RS w' encSRod (Value.slice p0a p0n p0c) p0 := B3.frm hE (fun k _ hk => not_oth0)
          refine dg_op rfl (d_indexE (e := encSRod) (v := (Value.slice p0a p0n p0c)) un24 size42 t17 t18 B0_11 hm7 fun g12 o12 l12 => ?_)
          exact ⟨⟨g12, o12, rfl, l12⟩, own_none (Ext.refl _)⟩
        · skip
          refine ⟨fun _ _ _ _ _ _ h _ => h, fun _ _ h _ => h, fun σ' w' hA hE hD hP => ?_⟩
          obtain ⟨d5_2g, d5_2o, t19, d5_2gE⟩ : ∃ d5_2g : Nat, ∃ d5_2o : Nat, σ' 19 = (.pointer (some ⟨d5_2g, d5_2o, none⟩)) ∧ EL encSRod (Value.slice p0a p0n p0c) (p0).length s2 d5_2g d5_2o := hD 2 rfl
          have B0_13 : RS w' encSRod (Value.slice p0a p0n p0c) p0 := B3.frm hE (fun k _ hk => not_oth0)
          obtain ⟨d5_2c, d5_2T, d5_2f, d5_2vs, d5_2hg, d5_2P, d5_2hq⟩ := RS.el B0_13 d5_2gE hm7
          obtain ⟨d5_2r2, rfl, d5_2h2⟩ := dec_encSRod d5_2hq
          refine dg_op rfl (d_loads (vs := #[.int .i64 m7.a, .int .i64 m7.b, .float .f32 d5_2r2]) t19 agg42 size42 d5_2hg (sub_take (vs := #[.int .i64 m7.a, .int .i64 m7.b, .float .f32 d5_2r2]) (us := #[.int .i64 m7.a, .int .i64 m7.b, .float .f32 d5_2r2]) (i := 0) d5_2P rfl (Nat.le_of_ble_eq_true rfl)) ?_)
          exact ⟨⟨d5_2r2, rfl, d5_2h2⟩, own_none (Ext.refl w')⟩
        · skip
          refine ⟨fun _ _ _ _ _ _ h _ => h, fun _ _ h _ => h, fun σ' w' hA hE hD hP => ?_⟩
          have t1 : σ' 1 = (Value.slice p1a p1n p1c) := (hA 1 rfl).trans i2_S1
          have B0_14 : RS w' encSRod (Value.slice p1a p1n p1c) p1 := B6.frm hE (fun k _ hk => not_oth0)
          refine dg_op rfl (d_mv (v := (Value.slice p1a p1n p1c)) t1 ?_)
          exact ⟨rfl, own_none (Ext.refl w')⟩
        · skip
          refine ⟨fun _ _ _ _ _ _ h _ => h, fun _ _ h _ => h, fun σ' w' hA hE hD hP => ?_⟩
          have t5 : σ' 5 = .int .i64 s2 := (hA 5 rfl).trans i2_S5
          refine dg_op rfl (d_mv (v := .int .i64 s2) t5 ?_)
          exact ⟨rfl, own_none (Ext.refl w')⟩
        · skip
          refine ⟨fun _ _ _ _ _ _ h _ => h, fun _ _ h _ => h, fun σ' w' hA hE hD hP => ?_⟩
          have t21 : σ' 21 = (Value.slice p1a p1n p1c) := hD 4 rfl
          have t22 : σ' 22 = (.int .i64 s2) := hD 5 rfl
          have B0_15 : RS w' encSRod (Value.slice p1a p1n p1c) p1 := B6.frm hE (fun k _ hk => not_oth0)
          refine dg_op rfl (d_indexE (e := encSRod) (v := (Value.slice p1a p1n p1c)) un24 size42 t21 t22 B0_15 hm8 fun g16 o16 l16 => ?_)
          exact ⟨⟨g16, o16, rfl, l16⟩, own_none (Ext.refl _)⟩
        · skip
          refine ⟨fun _ _ _ _ _ _ h _ => h, fun _ _ h _ => h, fun σ' w' hA hE hD hP => ?_⟩
          obtain ⟨d5_6g, d5_6o, t23, d5_6gE⟩ : ∃ d5_6g : Nat, ∃ d5_6o : Nat, σ' 23 = (.pointer (some ⟨d5_6g, d5_6o, none⟩)) ∧ EL encSRod (Value.slice p1a p1n p1c) (p1).length s2 d5_6g d5_6o := hD 6 rfl
          have B0_17 : RS w' encSRod (Value.slice p1a p1n p1c) p1 := B6.frm hE (fun k _ hk => not_oth0)
          obtain ⟨d5_6c, d5_6T, d5_6f, d5_6vs, d5_6hg, d5_6P, d5_6hq⟩ := RS.el B0_17 d5_6gE hm8
          obtain ⟨d5_6r2, rfl, d5_6h2⟩ := dec_encSRod d5_6hq
          refine dg_op rfl (d_loads (vs := #[.int .i64 m8.a, .int .i64 m8.b, .float .f32 d5_6r2]) t23 agg42 size42 d5_6hg (sub_take (vs := #[.int .i64 m8.a, .int .i64 m8.b, .float .f32 d5_6r2]) (us := #[.int .i64 m8.a, .int .i64 m8.b, .float .f32 d5_6r2]) (i := 0) d5_6P rfl (Nat.le_of_ble_eq_true rfl)) ?_)
          exact ⟨⟨d5_6r2, rfl, d5_6h2⟩, own_none (Ext.refl w')⟩
        · skip
          refine ⟨fun _ _ _ _ _ _ h _ => h, fun _ _ h _ => h, fun σ' w' hA hE hD hP => ?_⟩
          obtain ⟨d5_2r2, t20, d5_2h2⟩ : ∃ d5_2r2 : Nat, σ' 20 = (.agg #[.int .i64 m7.a, .int .i64 m7.b, .float .f32 d5_2r2]) ∧ cn .f32 d5_2r2 = m7.long := hD 3 rfl
          obtain ⟨d5_6r2, t24, d5_6h2⟩ : ∃ d5_6r2 : Nat, σ' 24 = (.agg #[.int .i64 m8.a, .int .i64 m8.b, .float .f32 d5_6r2]) ∧ cn .f32 d5_6r2 = m8.long := hD 7 rfl
          refine dg_op rfl (d_cl (vs := [.agg #[.int .i64 m7.a, .int .i64 m7.b, .float .f32 d5_2r2], .agg #[.int .i64 m8.a, .int .i64 m8.b, .float .f32 d5_6r2]]) en40 (ac t20 (ac t24 rfl)) rfl ?_)
          refine (c40 m7 m8 d5_2r2 d5_6r2 m9 w' hm9 d5_2h2 d5_6h2).mono ?_
          rintro _ w18 ⟨rfl, E18⟩
          refine ⟨_, rfl, ?_⟩
          have X19 : Ext w' w18 := (Ext.refl w').trans E18
          exact ⟨rfl, own_none X19⟩
        · skip
          refine ⟨fun _ _ _ _ _ _ h _ => h, fun _ _ h _ => h, fun σ' w' hA hE hD hP => ?_⟩
          have t25 : σ' 25 = (.bool m9) := hD 8 rfl
          refine dg_op rfl (d_not t25 ?_)
          exact ⟨rfl, own_none (Ext.refl w')⟩
        · skip
          intro σ5 w5 A5 E5 V5
          have E5x : Ext wl2 w5 := ext_of_oth0 E5
          have s26_5 : σ5 26 = (.bool (!m9)) := V5 9 (Nat.le_of_ble_eq_true rfl)
          have s5_5 : σ5 5 = .int .i64 s2 := (A5 5 rfl).trans i2_S5
          have s0_5 : σ5 0 = (Value.slice p0a p0n p0c) := (A5 0 rfl).trans i2_S0
          have s1_5 : σ5 1 = (Value.slice p1a p1n p1c) := (A5 1 rfl).trans i2_S1
          have X20 : Ext w w5 := i2_X.trans E5x
          refine W_cond (b := (!m9)) s26_5 (fun hc21 => ?_) (fun hc21 => ?_)
          · skip
            replace hr := bif_t hr hc21
            refine W_seq ?_
            refine W_region rfl ?_
            refine da_op rfl (d_as (v := .bool false) rfl ?_)
            refine da_nil ?_
            refine W_ret ?_
            obtain rfl := Option.some.inj hr
            exact ⟨_, rfl, rfl, rfl, X20⟩
          · skip
            replace hr := bif_f hr hc21
            refine W_skip ?_
            refine W_region rfl ?_
            refine da_op rfl (d_mv (v := .int .i64 s2) s5_5 ?_)
            refine da_op rfl (d_iarith rfl rfl (.inl ⟨rfl, rfl⟩) ?_)
            refine da_op rfl (d_as (v := .int .i64 (IntKind.i64.wrap (s2 + 1))) rfl ?_)
            refine da_nil ?_
            obtain rfl := Option.some.inj hr
            exact ⟨_, rfl, ⟨rfl, s0_5, s1_5, X20⟩⟩
      · skip
        replace hr := bif_f hr hc4
        refine W_exit ?_
        obtain rfl := Option.some.inj hr
        exact ⟨_, rfl, rfl, i2_X⟩
    · skip
      intro ex σx2 wx2 hq
      rcases m2 with m2 | m2
      · skip
        obtain ⟨rfl, q2_0_X⟩ := hq
        refine W_seq ?_
        refine W_region rfl ?_
        refine da_op rfl (d_as (v := .bool true) rfl ?_)
        refine da_nil ?_
        refine W_ret ?_
        obtain rfl := Option.some.inj hr
        refine ⟨_, res1 (rv_tmp rfl), ?_⟩
        exact ⟨rfl, q2_0_X⟩
      · skip
        obtain ⟨rfl, q2_1_S4, q2_1_X⟩ := hq
        obtain rfl := Option.some.inj hr
        refine ⟨_, res1 (rv_tmp q2_1_S4), ?_⟩
        exact ⟨rfl, q2_1_X⟩
set_option maxHeartbeats 4000000 in
theorem c6 (p0 : SChain) (p1 : SChain) (p0v0a : Option Addr) (p0v0n : Nat) (p0v0c : Nat) (p0v1a : Option Addr) (p0v1n : Nat) (p0v1c : Nat) (p0v2a : Option Addr) (p0v2n : Nat) (p0v2c : Nat) (p0v3a : Option Addr) (p0v3n : Nat) (p0v3c : Nat) (p1v0a : Option Addr) (p1v0n : Nat) (p1v0c : Nat) (p1v1a : Option Addr) (p1v1n : Nat) (p1v1c : Nat) (p1v2a : Option Addr) (p1v2n : Nat) (p1v2c : Nat) (p1v3a : Option Addr) (p1v3n : Nat) (p1v3c : Nat) (r : Bool) (w : World) (hr : M.laws_eqChain p0 p1 = some r) (p0v0R : RS w encSVector (Value.slice p0v0a p0v0n p0v0c) p0.places) (p0v1R : RS w encSVector (Value.slice p0v1a p0v1n p0v1c) p0.before) (p0v2R : RS w encF_f32 (Value.slice p0v2a p0v2n p0v2c) p0.weights) (p0v3R : RS w encSRod (Value.slice p0v3a p0v3n p0v3c) p0.rods) (p1v0R : RS w encSVector (Value.slice p1v0a p1v0n p1v0c) p1.places) (p1v1R : RS w encSVector (Value.slice p1v1a p1v1n p1v1c) p1.before) (p1v2R : RS w encF_f32 (Value.slice p1v2a p1v2n p1v2c) p1.weights) (p1v3R : RS w encSRod (Value.slice p1v3a p1v3n p1v3c) p1.rods) :
    Calls Tryz.prog 6 #[.agg #[(Value.slice p0v0a p0v0n p0v0c), (Value.slice p0v1a p0v1n p0v1c), (Value.slice p0v2a p0v2n p0v2c), (Value.slice p0v3a p0v3n p0v3c)], .agg #[(Value.slice p1v0a p1v0n p1v0c), (Value.slice p1v1a p1v1n p1v1c), (Value.slice p1v2a p1v2n p1v2c), (Value.slice p1v3a p1v3n p1v3c)]] w fun e w' => e = .returned (.bool r) ∧ Ext w w' := by
  refine calls_of_W Tryz.func6 rfl (Nat.le_of_ble_eq_true rfl) ?_
  refine W_seq ?_
  refine W_region rfl ?_
  refine da_op rfl (d_box (cs := #[(Value.slice p0v0a p0v0n p0v0c), (Value.slice p0v1a p0v1n p0v1c), (Value.slice p0v2a p0v2n p0v2c), (Value.slice p0v3a p0v3n p0v3c)]) rfl fun w1 B1 E1 => ?_)
  have own2 : w.heap.size ≤ w.heap.size := Nat.le_trans (Ext.refl w).size (Nat.le_refl _)
  have X3 : Ext w w1 := (Ext.refl w).trans E1
  refine da_op rfl (d_box (cs := #[(Value.slice p1v0a p1v0n p1v0c), (Value.slice p1v1a p1v1n p1v1c), (Value.slice p1v2a p1v2n p1v2c), (Value.slice p1v3a p1v3n p1v3c)]) rfl fun w4 B4 E4 => ?_)
  have own5 : w.heap.size ≤ w1.heap.size := Nat.le_trans X3.size (Nat.le_refl _)
  have sp6 : w.heap.size ≠ w1.heap.size := Nat.ne_of_lt (Nat.lt_of_lt_of_le (lt_heap B1) (Nat.le_refl _))
  have X7 : Ext w w4 := X3.trans E4
  refine da_op rfl (d_as (v := .bool false) rfl ?_)
  refine da_nil ?_
  refine W_seq ?_
  refine W_seq ?_
  refine W_region rfl ?_
  refine da_op rfl (d_fieldAddr rfl (fa26_0 _ _) ?_)
  have B8 : w4.heap[w.heap.size]? = some (.cells #[(Value.slice p0v0a p0v0n p0v0c), (Value.slice p0v1a p0v1n p0v1c), (Value.slice p0v2a p0v2n p0v2c), (Value.slice p0v3a p0v3n p0v3c)] 26 (0, 0)) := E4.heap B1
  refine da_op rfl (d_load (v := (Value.slice p0v0a p0v0n p0v0c)) rfl agg22 B8 rfl ?_)
  refine da_op rfl (d_fieldAddr rfl (fa26_0 _ _) ?_)
  refine da_op rfl (d_load (v := (Value.slice p1v0a p1v0n p1v0c)) rfl agg22 B4 rfl ?_)
  obtain ⟨m9, hm9, hr⟩ := bind_out hr
  have B10 : RS w4 encSVector (Value.slice p0v0a p0v0n p0v0c) p0.places := p0v0R.ext X7
  have B11 : RS w4 encSVector (Value.slice p1v0a p1v0n p1v0c) p1.places := p1v0R.ext X7
  refine da_op rfl (d_cl (vs := [(Value.slice p0v0a p0v0n p0v0c), (Value.slice p1v0a p1v0n p1v0c)]) en16 (ac rfl (ac rfl rfl)) rfl ?_)
  refine (c16 p0.places p1.places p0v0a p0v0n p0v0c p1v0a p1v0n p1v0c m9 w4 hm9 B10 B11).mono ?_
  rintro _ w12 ⟨rfl, E12⟩
  refine ⟨_, rfl, ?_⟩
  have X13 : Ext w w12 := X7.trans E12
  refine da_op rfl (d_not rfl ?_)
  refine da_nil ?_
  refine W_cond (b := (!m9)) rfl (fun hc14 => ?_) (fun hc14 => ?_)
  · skip
    replace hr := bif_t hr hc14
    refine W_seq ?_
    refine W_region rfl ?_
    refine da_op rfl (d_as (v := .bool false) rfl ?_)
    refine da_nil ?_
    refine W_ret ?_
    obtain rfl := Option.some.inj hr
    refine ⟨_, res1 (rv_tmp rfl), ?_⟩
    exact ⟨rfl, X13⟩
  · skip
    replace hr := bif_f hr hc14
    refine W_skip ?_
    refine W_seq ?_
    refine W_seq ?_
    refine W_region rfl ?_
    refine da_op rfl (d_fieldAddr rfl (fa26_1 _ _) ?_)
    have B15 : w12.heap[w.heap.size]? = some (.cells #[(Value.slice p0v0a p0v0n p0v0c), (Value.slice p0v1a p0v1n p0v1c), (Value.slice p0v2a p0v2n p0v2c), (Value.slice p0v3a p0v3n p0v3c)] 26 (0, 0)) := E12.heap B8
    refine da_op rfl (d_load (v := (Value.slice p0v1a p0v1n p0v1c)) rfl agg22 B15 rfl ?_)
    refine da_op rfl (d_fieldAddr rfl (fa26_1 _ _) ?_)
    have B16 : w12.heap[w1.heap.size]? = some (.cells #[(Value.slice p1v0a p1v0n p1v0c), (Value.slice p1v1a p1v1n p1v1c), (Value.slice p1v2a p1v2n p1v2c), (Value.slice p1v3a p1v3n p1v3c)] 26 (0, 0)) := E12.heap B4
    refine da_op rfl (d_load (v := (Value.slice p1v1a p1v1n p1v1c)) rfl agg22 B16 rfl ?_)
    obtain ⟨m17, hm17, hr⟩ := bind_out hr
    have B18 : RS w12 encSVector (Value.slice p0v1a p0v1n p0v1c) p0.before := p0v1R.ext X13
    have B19 : RS w12 encSVector (Value.slice p1v1a p1v1n p1v1c) p1.before := p1v1R.ext X13
    refine da_op rfl (d_cl (vs := [(Value.slice p0v1a p0v1n p0v1c), (Value.slice p1v1a p1v1n p1v1c)]) en16 (ac rfl (ac rfl rfl)) rfl ?_)
    refine (c16 p0.before p1.before p0v1a p0v1n p0v1c p1v1a p1v1n p1v1c m17 w12 hm17 B18 B19).mono ?_
    rintro _ w20 ⟨rfl, E20⟩
    refine ⟨_, rfl, ?_⟩
    have X21 : Ext w w20 := X13.trans E20
    refine da_op rfl (d_not rfl ?_)
    refine da_nil ?_
    refine W_cond (b := (!m17)) rfl (fun hc22 => ?_) (fun hc22 => ?_)
    · skip
      replace hr := bif_t hr hc22
      refine W_seq ?_
      refine W_region rfl ?_
      refine da_op rfl (d_as (v := .bool false) rfl ?_)
      refine da_nil ?_
      refine W_ret ?_
      obtain rfl := Option.some.inj hr
      refine ⟨_, res1 (rv_tmp rfl), ?_⟩
      exact ⟨rfl, X21⟩
    · skip
      replace hr := bif_f hr hc22
      refine W_skip ?_
      refine W_seq ?_
      refine W_seq ?_
      refine W_region rfl ?_
      refine da_op rfl (d_fieldAddr rfl (fa26_2 _ _) ?_)
      have B23 : w20.heap[w.heap.size]? = some (.cells #[(Value.slice p0v0a p0v0n p0v0c), (Value.slice p0v1a p0v1n p0v1c), (Value.slice p0v2a p0v2n p0v2c), (Value.slice p0v3a p0v3n p0v3c)] 26 (0, 0)) := E20.heap B15
      refine da_op rfl (d_load (v := (Value.slice p0v2a p0v2n p0v2c)) rfl agg23 B23 rfl ?_)
      refine da_op rfl (d_fieldAddr rfl (fa26_2 _ _) ?_)
      have B24 : w20.heap[w1.heap.size]? = some (.cells #[(Value.slice p1v0a p1v0n p1v0c), (Value.slice p1v1a p1v1n p1v1c), (Value.slice p1v2a p1v2n p1v2c), (Value.slice p1v3a p1v3n p1v3c)] 26 (0, 0)) := E20.heap B16
      refine da_op rfl (d_load (v := (Value.slice p1v2a p1v2n p1v2c)) rfl agg23 B24 rfl ?_)
      obtain ⟨m25, hm25, hr⟩ := bind_out hr
      have B26 : RS w20 encF_f32 (Value.slice p0v2a p0v2n p0v2c) p0.weights := p0v2R.ext X21
      have B27 : RS w20 encF_f32 (Value.slice p1v2a p1v2n p1v2c) p1.weights := p1v2R.ext X21
      refine da_op rfl (d_cl (vs := [(Value.slice p0v2a p0v2n p0v2c), (Value.slice p1v2a p1v2n p1v2c)]) en17 (ac rfl (ac rfl rfl)) rfl ?_)
      refine (c17 p0.weights p1.weights p0v2a p0v2n p0v2c p1v2a p1v2n p1v2c m25 w20 hm25 B26 B27).mono ?_
      rintro _ w28 ⟨rfl, E28⟩
      refine ⟨_, rfl, ?_⟩
      have X29 : Ext w w28 := X21.trans E28
      refine da_op rfl (d_not rfl ?_)
      refine da_nil ?_
      refine W_cond (b := (!m25)) rfl (fun hc30 => ?_) (fun hc30 => ?_)
      · skip
        replace hr := bif_t hr hc30
        refine W_seq ?_
        refine W_region rfl ?_
        refine da_op rfl (d_as (v := .bool false) rfl ?_)
        refine da_nil ?_
        refine W_ret ?_
        obtain rfl := Option.some.inj hr
        refine ⟨_, res1 (rv_tmp rfl), ?_⟩
        exact ⟨rfl, X29⟩
      · skip
        replace hr := bif_f hr hc30
        refine W_skip ?_
        refine W_seq ?_
        refine W_seq ?_
        refine W_region rfl ?_
        refine da_op rfl (d_fieldAddr rfl (fa26_3 _ _) ?_)
        have B31 : w28.heap[w.heap.size]? = some (.cells #[(Value.slice p0v0a p0v0n p0v0c), (Value.slice p0v1a p0v1n p0v1c), (Value.slice p0v2a p0v2n p0v2c), (Value.slice p0v3a p0v3n p0v3c)] 26 (0, 0)) := E28.heap B23
        refine da_op rfl (d_load (v := (Value.slice p0v3a p0v3n p0v3c)) rfl agg24 B31 rfl ?_)
        refine da_op rfl (d_fieldAddr rfl (fa26_3 _ _) ?_)
        have B32 : w28.heap[w1.heap.size]? = some (.cells #[(Value.slice p1v0a p1v0n p1v0c), (Value.slice p1v1a p1v1n p1v1c), (Value.slice p1v2a p1v2n p1v2c), (Value.slice p1v3a p1v3n p1v3c)] 26 (0, 0)) := E28.heap B24
        refine da_op rfl (d_load (v := (Value.slice p1v3a p1v3n p1v3c)) rfl agg24 B32 rfl ?_)
        obtain ⟨m33, hm33, hr⟩ := bind_out hr
        have B34 : RS w28 encSRod (Value.slice p0v3a p0v3n p0v3c) p0.rods := p0v3R.ext X29
        have B35 : RS w28 encSRod (Value.slice p1v3a p1v3n p1v3c) p1.rods := p1v3R.ext X29
        refine da_op rfl (d_cl (vs := [(Value.slice p0v3a p0v3n p0v3c), (Value.slice p1v3a p1v3n p1v3c)]) en18 (ac rfl (ac rfl rfl)) rfl ?_)
        refine (c18 p0.rods p1.rods p0v3a p0v3n p0v3c p1v3a p1v3n p1v3c m33 w28 hm33 B34 B35).mono ?_
        rintro _ w36 ⟨rfl, E36⟩
        refine ⟨_, rfl, ?_⟩
        have X37 : Ext w w36 := X29.trans E36
        refine da_op rfl (d_not rfl ?_)
        refine da_nil ?_
        refine W_cond (b := (!m33)) rfl (fun hc38 => ?_) (fun hc38 => ?_)
        · skip
          replace hr := bif_t hr hc38
          refine W_seq ?_
          refine W_region rfl ?_
          refine da_op rfl (d_as (v := .bool false) rfl ?_)
          refine da_nil ?_
          refine W_ret ?_
          obtain rfl := Option.some.inj hr
          refine ⟨_, res1 (rv_tmp rfl), ?_⟩
          exact ⟨rfl, X37⟩
        · skip
          replace hr := bif_f hr hc38
          refine W_skip ?_
          refine W_seq ?_
          refine W_region rfl ?_
          refine da_op rfl (d_as (v := .bool true) rfl ?_)
          refine da_nil ?_
          refine W_ret ?_
          obtain rfl := Option.some.inj hr
          refine ⟨_, res1 (rv_tmp rfl), ?_⟩
          exact ⟨rfl, X37⟩
set_option maxHeartbeats 4000000 in
theorem c19 (p0 : List SVector) (p1 : Int) (p0a : Option Addr) (p0n : Nat) (p0c : Nat) (r : Int × List SVector) (w : World) (hr : M.laws_markVectorS p0 p1 = some r) (p0R : OS w 57 encSVector (Value.slice p0a p0n p0c) p0) :
    Calls Tryz.prog 19 #[(Value.slice p0a p0n p0c), .int .i64 p1] w fun e w' => e = .returned (.int .i64 r.1) ∧ OS w' 57 encSVector (Value.slice p0a p0n p0c) r.2 ∧ Frm (fun k _ => (Value.slice p0a p0n p0c).ownBlock = some k) w w' := by
  have X0 : Frm (fun k _ => (Value.slice p0a p0n p0c).ownBlock = some k) w w := Frm.refl _ w
  refine calls_of_W Tryz.func19 rfl (Nat.le_of_ble_eq_true rfl) ?_
  refine W_seq ?_
  refine W_region rfl ?_
  refine da_op rfl (d_as (v := .int .i64 0) rfl ?_)
  refine da_nil ?_
  refine W_seq ?_
  refine W_seq ?_
  refine W_region rfl ?_
  refine da_op rfl (d_as (v := .int .i64 0) rfl ?_)
  refine da_nil ?_
  refine W_block ?_
  obtain ⟨m1, hm1, hr⟩ := bind_out hr
  refine W_loopM hm1 (fun (s1 : Int × Int × List SVector) σ w' => σ 1 = .int .i64 s1.1 ∧ σ 5 = .int .i64 s1.2.1 ∧ σ 0 = (Value.slice p0a p0n p0c) ∧ OS w' 57 encSVector (Value.slice p0a p0n p0c) s1.2.2 ∧ Frm (fun k _ => (Value.slice p0a p0n p0c).ownBlock = some k) w w') (fun (e1 : (Int × List SVector)) ex σ w' => ex = .exit 0 ∧ σ 1 = .int .i64 e1.1 ∧ OS w' 57 encSVector (Value.slice p0a p0n p0c) e1.2 ∧ Frm (fun k _ => (Value.slice p0a p0n p0c).ownBlock = some k) w w') ⟨rfl, rfl, rfl, p0R, X0⟩ ?_ ?_
  · skip
    rintro s1 σl1 wl1 r1l ⟨i1_S1, i1_S5, i1_S0, i1_2R, i1_X⟩ hr
    refine W_seq ?_
    refine W_seq ?_
    refine W_region rfl ?_
    refine da_op rfl (d_mv (v := .int .i64 s1.2.1) i1_S5 ?_)
    refine da_op rfl (d_mv (v := (Value.slice p0a p0n p0c)) i1_S0 ?_)
    refine da_op rfl (d_len (e := encSVector) un22 rfl i1_2R.rs ?_)
    refine da_op rfl (d_icmp cLss rfl rfl ?_)
    refine da_nil ?_
    refine W_cond (b := (icmp .lss s1.2.1 ((s1.2.2).length : Int))) rfl (fun hc2 => ?_) (fun hc2 => ?_)
    · skip
      replace hr := bif_t hr hc2
      refine W_skip ?_
      refine W_seq ?_
      refine W_block ?_
      refine W_seq ?_
      refine W_region rfl ?_
      refine da_op rfl (d_mv (v := (Value.slice p0a p0n p0c)) i1_S0 ?_)
      refine da_op rfl (d_mv (v := .int .i64 s1.2.1) i1_S5 ?_)
      refine da_op rfl (d_mv (v := .int .i64 s1.1) i1_S1 ?_)
      refine da_op rfl (d_ofInt un3 un40 rfl ?_)
      obtain ⟨m3, hm3, hr⟩ := bind_out hr
      refine da_op rfl (d_indexO (e := encSVector) (v := (Value.slice p0a p0n p0c)) un22 size57 rfl rfl i1_2R hm3 fun g4 fr4 cu4 vs4 hv4 hg4 hp4 hq4 => ?_)
      obtain ⟨e4_r0, e4_r1, e4_r2, rfl, e4_h0, e4_h1, e4_h2⟩ := dec_encSVector hq4
      refine da_op rfl (d_fieldAddr rfl (fa57_0 _ _) ?_)
      refine da_op rfl (d_store_elem (e := encSVector) (i := s1.2.1) (k := 0) (old := [.float .f32 e4_r0, .float .f32 e4_r1, .float .f32 e4_r2]) (vs := #[.float .f32 (fint .f32 s1.1)]) (new := [.float .f32 (fint .f32 s1.1), .float .f32 e4_r1, .float .f32 e4_r2]) (x2 := (⟨(fint .f32 s1.1), m3.y, m3.z⟩ : SVector)) rfl rfl hv4 i1_2R hg4 hp4 hm3 size40 (by kernel_rfl) (Nat.le_of_ble_eq_true rfl) rfl rfl (lc_f (cn_fint _ _) (lc_f e4_h1 (lc_f e4_h2 rfl))) rfl fun w5 S5 O6 => ?_)
      have X7 : Frm (fun k _ => (Value.slice p0a p0n p0c).ownBlock = some k) w w5 := Frm.step i1_X S5.frmb (fun k _ hk => .inl (by rw [hv4, hk]; rfl))
      refine da_nil ?_
      refine W_seq ?_
      refine W_region rfl ?_
      refine da_op rfl (d_mv (v := .int .i64 s1.1) i1_S1 ?_)
      refine da_op rfl (d_iarith rfl rfl (.inl ⟨rfl, rfl⟩) ?_)
      refine da_op rfl (d_as (v := .int .i64 (IntKind.i64.wrap (s1.1 + 1))) rfl ?_)
      refine da_nil ?_
      refine W_seq ?_
      refine W_region rfl ?_
      refine da_op rfl (d_mv (v := (Value.slice p0a p0n p0c)) i1_S0 ?_)
      refine da_op rfl (d_mv (v := .int .i64 s1.2.1) i1_S5 ?_)
      refine da_op rfl (d_mv (v := .int .i64 (IntKind.i64.wrap (s1.1 + 1))) rfl ?_)
      refine da_op rfl (d_ofInt un3 un40 rfl ?_)
      obtain ⟨m8, hm8, hr⟩ := bind_out hr
      refine da_op rfl (d_indexO (e := encSVector) (v := (Value.slice p0a p0n p0c)) un22 size57 rfl rfl O6 hm8 fun g9 fr9 cu9 vs9 hv9 hg9 hp9 hq9 => ?_)
      obtain ⟨e9_r0, e9_r1, e9_r2, rfl, e9_h0, e9_h1, e9_h2⟩ := dec_encSVector hq9
      refine da_op rfl (d_fieldAddr rfl (fa57_1 _ _) ?_)
      refine da_op rfl (d_store_elem (e := encSVector) (i := s1.2.1) (k := 1) (old := [.float .f32 e9_r0, .float .f32 e9_r1, .float .f32 e9_r2]) (vs := #[.float .f32 (fint .f32 (IntKind.i64.wrap (s1.1 + 1)))]) (new := [.float .f32 e9_r0, .float .f32 (fint .f32 (IntKind.i64.wrap (s1.1 + 1))), .float .f32 e9_r2]) (x2 := (⟨m8.x, (fint .f32 (IntKind.i64.wrap (s1.1 + 1))), m8.z⟩ : SVector)) rfl rfl hv9 O6 hg9 hp9 hm8 size40 (by kernel_rfl) (Nat.le_of_ble_eq_true rfl) rfl rfl (lc_f e9_h0 (lc_f (cn_fint _ _) (lc_f e9_h2 rfl))) rfl fun w10 S10 O11 => ?_)
      have X12 : Frm (fun k _ => (Value.slice p0a p0n p0c).ownBlock = some k) w w10 := Frm.step X7 S10.frmb (fun k _ hk => .inl (by rw [hv9, hk]; rfl))
      refine da_nil ?_
      refine W_seq ?_
      refine W_region rfl ?_
      refine da_op rfl (d_mv (v := .int .i64 (IntKind.i64.wrap (s1.1 + 1))) rfl ?_)
      refine da_op rfl (d_iarith rfl rfl (.inl ⟨rfl, rfl⟩) ?_)
      refine da_op rfl (d_as (v := .int .i64 (IntKind.i64.wrap ((IntKind.i64.wrap (s1.1 + 1)) + 1))) rfl ?_)
      refine da_nil ?_
      refine W_seq ?_
      refine W_region rfl ?_
      refine da_op rfl (d_mv (v := (Value.slice p0a p0n p0c)) i1_S0 ?_)
      refine da_op rfl (d_mv (v := .int .i64 s1.2.1) i1_S5 ?_)
      refine da_op rfl (d_mv (v := .int .i64 (IntKind.i64.wrap ((IntKind.i64.wrap (s1.1 + 1)) + 1))) rfl ?_)
      refine da_op rfl (d_ofInt un3 un40 rfl ?_)
      obtain ⟨m13, hm13, hr⟩ := bind_out hr
      refine da_op rfl (d_indexO (e := encSVector) (v := (Value.slice p0a p0n p0c)) un22 size57 rfl rfl O11 hm13 fun g14 fr14 cu14 vs14 hv14 hg14 hp14 hq14 => ?_)
      obtain ⟨e14_r0, e14_r1, e14_r2, rfl, e14_h0, e14_h1, e14_h2⟩ := dec_encSVector hq14
      refine da_op rfl (d_fieldAddr rfl (fa57_2 _ _) ?_)
      refine da_op rfl (d_store_elem (e := encSVector) (i := s1.2.1) (k := 2) (old := [.float .f32 e14_r0, .float .f32 e14_r1, .float .f32 e14_r2]) (vs := #[.float .f32 (fint .f32 (IntKind.i64.wrap ((IntKind.i64.wrap (s1.1 + 1)) + 1)))]) (new := [.float .f32 e14_r0, .float .f32 e14_r1, .float .f32 (fint .f32 (IntKind.i64.wrap ((IntKind.i64.wrap (s1.1 + 1)) + 1)))]) (x2 := (⟨m13.x, m13.y, (fint .f32 (IntKind.i64.wrap ((IntKind.i64.wrap (s1.1 + 1)) + 1)))⟩ : SVector)) rfl rfl hv14 O11 hg14 hp14 hm13 size40 (by kernel_rfl) (Nat.le_of_ble_eq_true rfl) rfl rfl (lc_f e14_h0 (lc_f e14_h1 (lc_f (cn_fint _ _) rfl))) rfl fun w15 S15 O16 => ?_)
      have X17 : Frm (fun k _ => (Value.slice p0a p0n p0c).ownBlock = some k) w w15 := Frm.step X12 S15.frmb (fun k _ hk => .inl (by rw [hv14, hk]; rfl))
      refine da_nil ?_
      refine W_region rfl ?_
      refine da_op rfl (d_mv (v := .int .i64 (IntKind.i64.wrap ((IntKind.i64.wrap (s1.1 + 1)) + 1))) rfl ?_)
      refine da_op rfl (d_iarith rfl rfl (.inl ⟨rfl, rfl⟩) ?_)
      refine da_op rfl (d_as (v := .int .i64 (IntKind.i64.wrap ((IntKind.i64.wrap ((IntKind.i64.wrap (s1.1 + 1)) + 1)) + 1))) rfl ?_)
      refine da_nil ?_
      refine W_region rfl ?_
      refine da_op rfl (d_mv (v := .int .i64 s1.2.1) i1_S5 ?_)
      refine da_op rfl (d_iarith rfl rfl (.inl ⟨rfl, rfl⟩) ?_)
      refine da_op rfl (d_as (v := .int .i64 (IntKind.i64.wrap (s1.2.1 + 1))) rfl ?_)
      refine da_nil ?_
      obtain rfl := Option.some.inj hr
      exact ⟨_, rfl, ⟨rfl, rfl, i1_S0, O16, X17⟩⟩
    · skip
      replace hr := bif_f hr hc2
      refine W_exit ?_
      obtain rfl := Option.some.inj hr
      exact ⟨_, rfl, rfl, i1_S1, i1_2R, i1_X⟩
  · skip
    intro ex σx1 wx1 hq
    obtain ⟨rfl, q1_0_S1, q1_0_1R, q1_0_X⟩ := hq
    refine W_seq ?_
    refine W_region rfl ?_
    refine da_op rfl (d_mv (v := .int .i64 m1.1) q1_0_S1 ?_)
    refine da_op rfl (d_as (v := .int .i64 m1.1) rfl ?_)
    refine da_nil ?_
    refine W_ret ?_
    obtain rfl := Option.some.inj hr
    refine ⟨_, res1 (rv_tmp rfl), ?_⟩
    exact ⟨rfl, q1_0_1R, q1_0_X⟩
set_option maxHeartbeats 4000000 in
theorem c20 (p0 : List Nat) (p1 : Int) (p0a : Option Addr) (p0n : Nat) (p0c : Nat) (r : Int × List Nat) (w : World) (hr : M.laws_markFloat32S p0 p1 = some r) (p0R : OS w 40 encF_f32 (Value.slice p0a p0n p0c) p0) :
    Calls Tryz.prog 20 #[(Value.slice p0a p0n p0c), .int .i64 p1] w fun e w' => e = .returned (.int .i64 r.1) ∧ OS w' 40 encF_f32 (Value.slice p0a p0n p0c) r.2 ∧ Frm (fun k _ => (Value.slice p0a p0n p0c).ownBlock = some k) w w' := by
  have X0 : Frm (fun k _ => (Value.slice p0a p0n p0c).ownBlock = some k) w w := Frm.refl _ w
  refine calls_of_W Tryz.func20 rfl (Nat.le_of_ble_eq_true rfl) ?_
  refine W_seq ?_
  refine W_region rfl ?_
  refine da_op rfl (d_as (v := .int .i64 0) rfl ?_)
  refine da_nil ?_
  refine W_seq ?_
  refine W_seq ?_
  refine W_region rfl ?_
  refine da_op rfl (d_as (v := .int .i64 0) rfl ?_)
  refine da_nil ?_
  refine W_block ?_
  obtain ⟨m1, hm1, hr⟩ := bind_out hr
  refine W_loopM hm1 (fun (s1 : Int × Int × List Nat) σ w' => σ 1 = .int .i64 s1.1 ∧ σ 5 = .int .i64 s1.2.1 ∧ σ 0 = (Value.slice p0a p0n p0c) ∧ OS w' 40 encF_f32 (Value.slice p0a p0n p0c) s1.2.2 ∧ Frm (fun k _ => (Value.slice p0a p0n p0c).ownBlock = some k) w w') (fun (e1 : (Int × List Nat)) ex σ w' => ex = .exit 0 ∧ σ 1 = .int .i64 e1.1 ∧ OS w' 40 encF_f32 (Value.slice p0a p0n p0c) e1.2 ∧ Frm (fun k _ => (Value.slice p0a p0n p0c).ownBlock = some k) w w') ⟨rfl, rfl, rfl, p0R, X0⟩ ?_ ?_
  · skip
    rintro s1 σl1 wl1 r1l ⟨i1_S1, i1_S5, i1_S0, i1_2R, i1_X⟩ hr
    refine W_seq ?_
    refine W_seq ?_
    refine W_region rfl ?_
    refine da_op rfl (d_mv (v := .int .i64 s1.2.1) i1_S5 ?_)
    refine da_op rfl (d_mv (v := (Value.slice p0a p0n p0c)) i1_S0 ?_)
    refine da_op rfl (d_len (e := encF_f32) un23 rfl i1_2R.rs ?_)
    refine da_op rfl (d_icmp cLss rfl rfl ?_)
    refine da_nil ?_
    refine W_cond (b := (icmp .lss s1.2.1 ((s1.2.2).length : Int))) rfl (fun hc2 => ?_) (fun hc2 => ?_)
    · skip
      replace hr := bif_t hr hc2
      refine W_skip ?_
      refine W_seq ?_
      refine W_block ?_
      refine W_seq ?_
      refine W_region rfl ?_
      refine da_op rfl (d_mv (v := (Value.slice p0a p0n p0c)) i1_S0 ?_)
      refine da_op rfl (d_mv (v := .int .i64 s1.2.1) i1_S5 ?_)
      refine da_op rfl (d_mv (v := .int .i64 s1.1) i1_S1 ?_)
      refine da_op rfl (d_ofInt un3 un40 rfl ?_)
      obtain ⟨m3, hm3, hr⟩ := bind_out hr
      refine da_op rfl (d_indexO (e := encF_f32) (v := (Value.slice p0a p0n p0c)) un23 size40 rfl rfl i1_2R hm3 fun g4 fr4 cu4 vs4 hv4 hg4 hp4 hq4 => ?_)
      obtain ⟨e4_r0, rfl, e4_h0⟩ := dec_encF_f32 hq4
      refine da_op rfl (d_store_elem (e := encF_f32) (i := s1.2.1) (k := 0) (old := [.float .f32 e4_r0]) (vs := #[.float .f32 (fint .f32 s1.1)]) (new := [.float .f32 (fint .f32 s1.1)]) (x2 := (fint .f32 s1.1)) rfl rfl hv4 i1_2R hg4 hp4 hm3 size40 (by kernel_rfl) (Nat.le_of_ble_eq_true rfl) rfl rfl (lc_f (cn_fint _ _) rfl) rfl fun w5 S5 O6 => ?_)
      have X7 : Frm (fun k _ => (Value.slice p0a p0n p0c).ownBlock = some k) w w5 := Frm.step i1_X S5.frmb (fun k _ hk => .inl (by rw [hv4, hk]; rfl))
      refine da_nil ?_
      refine W_region rfl ?_
      refine da_op rfl (d_mv (v := .int .i64 s1.1) i1_S1 ?_)
      refine da_op rfl (d_iarith rfl rfl (.inl ⟨rfl, rfl⟩) ?_)
      refine da_op rfl (d_as (v := .int .i64 (IntKind.i64.wrap (s1.1 + 1))) rfl ?_)
      refine da_nil ?_
      refine W_region rfl ?_
      refine da_op rfl (d_mv (v := .int .i64 s1.2.1) i1_S5 ?_)
      refine da_op rfl (d_iarith rfl rfl (.inl ⟨rfl, rfl⟩) ?_)
      refine da_op rfl (d_as (v := .int .i64 (IntKind.i64.wrap (s1.2.1 + 1))) rfl ?_)
      refine da_nil ?_
      obtain rfl := Option.some.inj hr
      exact ⟨_, rfl, ⟨rfl, rfl, i1_S0, O6, X7⟩⟩
    · skip
      replace hr := bif_f hr hc2
      refine W_exit ?_
      obtain rfl := Option.some.inj hr
      exact ⟨_, rfl, rfl, i1_S1, i1_2R, i1_X⟩
  · skip
    intro ex σx1 wx1 hq
    obtain ⟨rfl, q1_0_S1, q1_0_1R, q1_0_X⟩ := hq
    refine W_seq ?_
    refine W_region rfl ?_
    refine da_op rfl (d_mv (v := .int .i64 m1.1) q1_0_S1 ?_)
    refine da_op rfl (d_as (v := .int .i64 m1.1) rfl ?_)
    refine da_nil ?_
    refine W_ret ?_
    obtain rfl := Option.some.inj hr
    refine ⟨_, res1 (rv_tmp rfl), ?_⟩
    exact ⟨rfl, q1_0_1R, q1_0_X⟩
set_option maxHeartbeats 4000000 in
theorem c21 (p0 : List SRod) (p1 : Int) (p0a : Option Addr) (p0n : Nat) (p0c : Nat) (r : Int × List SRod) (w : World) (hr : M.laws_markRodS p0 p1 = some r) (p0R : OS w 42 encSRod (Value.slice p0a p0n p0c) p0) :
    Calls Tryz.prog 21 #[(Value.slice p0a p0n p0c), .int .i64 p1] w fun e w' => e = .returned (.int .i64 r.1) ∧ OS w' 42 encSRod (Value.slice p0a p0n p0c) r.2 ∧ Frm (fun k _ => (Value.slice p0a p0n p0c).ownBlock = some k) w w' := by
  have X0 : Frm (fun k _ => (Value.slice p0a p0n p0c).ownBlock = some k) w w := Frm.refl _ w
  refine calls_of_W Tryz.func21 rfl (Nat.le_of_ble_eq_true rfl) ?_
  refine W_seq ?_
  refine W_region rfl ?_
  refine da_op rfl (d_as (v := .int .i64 0) rfl ?_)
  refine da_nil ?_
  refine W_seq ?_
  refine W_seq ?_
  refine W_region rfl ?_
  refine da_op rfl (d_as (v := .int .i64 0) rfl ?_)
  refine da_nil ?_
  refine W_block ?_
  obtain ⟨m1, hm1, hr⟩ := bind_out hr
  refine W_loopM hm1 (fun (s1 : Int × Int × List SRod) σ w' => σ 1 = .int .i64 s1.1 ∧ σ 5 = .int .i64 s1.2.1 ∧ σ 0 = (Value.slice p0a p0n p0c) ∧ OS w' 42 encSRod (Value.slice p0a p0n p0c) s1.2.2 ∧ Frm (fun k _ => (Value.slice p0a p0n p0c).ownBlock = some k) w w') (fun (e1 : (Int × List SRod)) ex σ w' => ex = .exit 0 ∧ σ 1 = .int .i64 e1.1 ∧ OS w' 42 encSRod (Value.slice p0a p0n p0c) e1.2 ∧ Frm (fun k _ => (Value.slice p0a p0n p0c).ownBlock = some k) w w') ⟨rfl, rfl, rfl, p0R, X0⟩ ?_ ?_
  · skip
    rintro s1 σl1 wl1 r1l ⟨i1_S1, i1_S5, i1_S0, i1_2R, i1_X⟩ hr
    refine W_seq ?_
    refine W_seq ?_
    refine W_region rfl ?_
    refine da_op rfl (d_mv (v := .int .i64 s1.2.1) i1_S5 ?_)
    refine da_op rfl (d_mv (v := (Value.slice p0a p0n p0c)) i1_S0 ?_)
    refine da_op rfl (d_len (e := encSRod) un24 rfl i1_2R.rs ?_)
    refine da_op rfl (d_icmp cLss rfl rfl ?_)
    refine da_nil ?_
    refine W_cond (b := (icmp .lss s1.2.1 ((s1.2.2).length : Int))) rfl (fun hc2 => ?_) (fun hc2 => ?_)
    · skip
      replace hr := bif_t hr hc2
      refine W_skip ?_
      refine W_seq ?_
      refine W_block ?_
      refine W_seq ?_
      refine W_region rfl ?_
      refine da_op rfl (d_mv (v := (Value.slice p0a p0n p0c)) i1_S0 ?_)
      refine da_op rfl (d_mv (v := .int .i64 s1.2.1) i1_S5 ?_)
      refine da_op rfl (d_mv (v := .int .i64 s1.1) i1_S1 ?_)
      obtain ⟨m3, hm3, hr⟩ := bind_out hr
      refine da_op rfl (d_indexO (e := encSRod) (v := (Value.slice p0a p0n p0c)) un24 size42 rfl rfl i1_2R hm3 fun g4 fr4 cu4 vs4 hv4 hg4 hp4 hq4 => ?_)
      obtain ⟨e4_r2, rfl, e4_h2⟩ := dec_encSRod hq4
      refine da_op rfl (d_fieldAddr rfl (fa42_0 _ _) ?_)
      refine da_op rfl (d_store_elem (e := encSRod) (i := s1.2.1) (k := 0) (old := [.int .i64 m3.a, .int .i64 m3.b, .float .f32 e4_r2]) (vs := #[.int .i64 s1.1]) (new := [.int .i64 s1.1, .int .i64 m3.b, .float .f32 e4_r2]) (x2 := (⟨s1.1, m3.b, m3.long⟩ : SRod)) rfl rfl hv4 i1_2R hg4 hp4 hm3 size2 (by kernel_rfl) (Nat.le_of_ble_eq_true rfl) rfl rfl (lc_v rfl (lc_v rfl (lc_f e4_h2 rfl))) rfl fun w5 S5 O6 => ?_)
      have X7 : Frm (fun k _ => (Value.slice p0a p0n p0c).ownBlock = some k) w w5 := Frm.step i1_X S5.frmb (fun k _ hk => .inl (by rw [hv4, hk]; rfl))
      refine da_nil ?_
      refine W_seq ?_
      refine W_region rfl ?_
      refine da_op rfl (d_mv (v := .int .i64 s1.1) i1_S1 ?_)
      refine da_op rfl (d_iarith rfl rfl (.inl ⟨rfl, rfl⟩) ?_)
      refine da_op rfl (d_as (v := .int .i64 (IntKind.i64.wrap (s1.1 + 1))) rfl ?_)
      refine da_nil ?_
      refine W_seq ?_
      refine W_region rfl ?_
      refine da_op rfl (d_mv (v := (Value.slice p0a p0n p0c)) i1_S0 ?_)
      refine da_op rfl (d_mv (v := .int .i64 s1.2.1) i1_S5 ?_)
      refine da_op rfl (d_mv (v := .int .i64 (IntKind.i64.wrap (s1.1 + 1))) rfl ?_)
      obtain ⟨m8, hm8, hr⟩ := bind_out hr
      refine da_op rfl (d_indexO (e := encSRod) (v := (Value.slice p0a p0n p0c)) un24 size42 rfl rfl O6 hm8 fun g9 fr9 cu9 vs9 hv9 hg9 hp9 hq9 => ?_)
      obtain ⟨e9_r2, rfl, e9_h2⟩ := dec_encSRod hq9
      refine da_op rfl (d_fieldAddr rfl (fa42_1 _ _) ?_)
      refine da_op rfl (d_store_elem (e := encSRod) (i := s1.2.1) (k := 1) (old := [.int .i64 m8.a, .int .i64 m8.b, .float .f32 e9_r2]) (vs := #[.int .i64 (IntKind.i64.wrap (s1.1 + 1))]) (new := [.int .i64 m8.a, .int .i64 (IntKind.i64.wrap (s1.1 + 1)), .float .f32 e9_r2]) (x2 := (⟨m8.a, (IntKind.i64.wrap (s1.1 + 1)), m8.long⟩ : SRod)) rfl rfl hv9 O6 hg9 hp9 hm8 size2 (by kernel_rfl) (Nat.le_of_ble_eq_true rfl) rfl rfl (lc_v rfl (lc_v rfl (lc_f e9_h2 rfl))) rfl fun w10 S10 O11 => ?_)
      have X12 : Frm (fun k _ => (Value.slice p0a p0n p0c).ownBlock = some k) w w10 := Frm.step X7 S10.frmb (fun k _ hk => .inl (by rw [hv9, hk]; rfl))
      refine da_nil ?_
      refine W_seq ?_
      refine W_region rfl ?_
      refine da_op rfl (d_mv (v := .int .i64 (IntKind.i64.wrap (s1.1 + 1))) rfl ?_)
      refine da_op rfl (d_iarith rfl rfl (.inl ⟨rfl, rfl⟩) ?_)
      refine da_op rfl (d_as (v := .int .i64 (IntKind.i64.wrap ((IntKind.i64.wrap (s1.1 + 1)) + 1))) rfl ?_)
      refine da_nil ?_
      refine W_seq ?_
      refine W_region rfl ?_
      refine da_op rfl (d_mv (v := (Value.slice p0a p0n p0c)) i1_S0 ?_)
      refine da_op rfl (d_mv (v := .int .i64 s1.2.1) i1_S5 ?_)
      refine da_op rfl (d_mv (v := .int .i64 (IntKind.i64.wrap ((IntKind.i64.wrap (s1.1 + 1)) + 1))) rfl ?_)
      refine da_op rfl (d_ofInt un3 un40 rfl ?_)
      obtain ⟨m13, hm13, hr⟩ := bind_out hr
      refine da_op rfl (d_indexO (e := encSRod) (v := (Value.slice p0a p0n p0c)) un24 size42 rfl rfl O11 hm13 fun g14 fr14 cu14 vs14 hv14 hg14 hp14 hq14 => ?_)
      obtain ⟨e14_r2, rfl, e14_h2⟩ := dec_encSRod hq14
      refine da_op rfl (d_fieldAddr rfl (fa42_2 _ _) ?_)
      refine da_op rfl (d_store_elem (e := encSRod) (i := s1.2.1) (k := 2) (old := [.int .i64 m13.a, .int .i64 m13.b, .float .f32 e14_r2]) (vs := #[.float .f32 (fint .f32 (IntKind.i64.wrap ((IntKind.i64.wrap (s1.1 + 1)) + 1)))]) (new := [.int .i64 m13.a, .int .i64 m13.b, .float .f32 (fint .f32 (IntKind.i64.wrap ((IntKind.i64.wrap (s1.1 + 1)) + 1)))]) (x2 := (⟨m13.a, m13.b, (fint .f32 (IntKind.i64.wrap ((IntKind.i64.wrap (s1.1 + 1)) + 1)))⟩ : SRod)) rfl rfl hv14 O11 hg14 hp14 hm13 size40 (by kernel_rfl) (Nat.le_of_ble_eq_true rfl) rfl rfl (lc_v rfl (lc_v rfl (lc_f (cn_fint _ _) rfl))) rfl fun w15 S15 O16 => ?_)
      have X17 : Frm (fun k _ => (Value.slice p0a p0n p0c).ownBlock = some k) w w15 := Frm.step X12 S15.frmb (fun k _ hk => .inl (by rw [hv14, hk]; rfl))
      refine da_nil ?_
      refine W_region rfl ?_
      refine da_op rfl (d_mv (v := .int .i64 (IntKind.i64.wrap ((IntKind.i64.wrap (s1.1 + 1)) + 1))) rfl ?_)
      refine da_op rfl (d_iarith rfl rfl (.inl ⟨rfl, rfl⟩) ?_)
      refine da_op rfl (d_as (v := .int .i64 (IntKind.i64.wrap ((IntKind.i64.wrap ((IntKind.i64.wrap (s1.1 + 1)) + 1)) + 1))) rfl ?_)
      refine da_nil ?_
      refine W_region rfl ?_
      refine da_op rfl (d_mv (v := .int .i64 s1.2.1) i1_S5 ?_)
      refine da_op rfl (d_iarith rfl rfl (.inl ⟨rfl, rfl⟩) ?_)
      refine da_op rfl (d_as (v := .int .i64 (IntKind.i64.wrap (s1.2.1 + 1))) rfl ?_)
      refine da_nil ?_
      obtain rfl := Option.some.inj hr
      exact ⟨_, rfl, ⟨rfl, rfl, i1_S0, O16, X17⟩⟩
    · skip
      replace hr := bif_f hr hc2
      refine W_exit ?_
      obtain rfl := Option.some.inj hr
      exact ⟨_, rfl, rfl, i1_S1, i1_2R, i1_X⟩
  · skip
    intro ex σx1 wx1 hq
    obtain ⟨rfl, q1_0_S1, q1_0_1R, q1_0_X⟩ := hq
    refine W_seq ?_
    refine W_region rfl ?_
    refine da_op rfl (d_mv (v := .int .i64 m1.1) q1_0_S1 ?_)
    refine da_op rfl (d_as (v := .int .i64 m1.1) rfl ?_)
    refine da_nil ?_
    refine W_ret ?_
    obtain rfl := Option.some.inj hr
    refine ⟨_, res1 (rv_tmp rfl), ?_⟩
    exact ⟨rfl, q1_0_1R, q1_0_X⟩
set_option maxHeartbeats 4000000 in
theorem c7 (p0 : SChain) (p1 : Int) (p0v0a : Option Addr) (p0v0n : Nat) (p0v0c : Nat) (p0v1a : Option Addr) (p0v1n : Nat) (p0v1c : Nat) (p0v2a : Option Addr) (p0v2n : Nat) (p0v2c : Nat) (p0v3a : Option Addr) (p0v3n : Nat) (p0v3c : Nat) (r : Int × List SVector × List SVector × List Nat × List SRod) (w : World) (hr : M.laws_markChain p0 p1 = some r) (p0v0R : OS w 57 encSVector (Value.slice p0v0a p0v0n p0v0c) p0.places) (p0v1R : OS w 57 encSVector (Value.slice p0v1a p0v1n p0v1c) p0.before) (p0v2R : OS w 40 encF_f32 (Value.slice p0v2a p0v2n p0v2c) p0.weights) (p0v3R : OS w 42 encSRod (Value.slice p0v3a p0v3n p0v3c) p0.rods) (sp0_1 : ∀ k, (Value.slice p0v0a p0v0n p0v0c).ownBlock = some k → ¬ (Value.slice p0v1a p0v1n p0v1c).ownBlock = some k) (sp0_2 : ∀ k, (Value.slice p0v0a p0v0n p0v0c).ownBlock = some k → ¬ (Value.slice p0v2a p0v2n p0v2c).ownBlock = some k) (sp1_2 : ∀ k, (Value.slice p0v1a p0v1n p0v1c).ownBlock = some k → ¬ (Value.slice p0v2a p0v2n p0v2c).ownBlock = some k) (sp0_3 : ∀ k, (Value.slice p0v0a p0v0n p0v0c).ownBlock = some k → ¬ (Value.slice p0v3a p0v3n p0v3c).ownBlock = some k) (sp1_3 : ∀ k, (Value.slice p0v1a p0v1n p0v1c).ownBlock = some k → ¬ (Value.slice p0v3a p0v3n p0v3c).ownBlock = some k) (sp2_3 : ∀ k, (Value.slice p0v2a p0v2n p0v2c).ownBlock = some k → ¬ (Value.slice p0v3a p0v3n p0v3c).ownBlock = some k) :
    Calls Tryz.prog 7 #[.agg #[(Value.slice p0v0a p0v0n p0v0c), (Value.slice p0v1a p0v1n p0v1c), (Value.slice p0v2a p0v2n p0v2c), (Value.slice p0v3a p0v3n p0v3c)], .int .i64 p1] w fun e w' => e = .returned (.int .i64 r.1) ∧ OS w' 57 encSVector (Value.slice p0v0a p0v0n p0v0c) r.2.1 ∧ OS w' 57 encSVector (Value.slice p0v1a p0v1n p0v1c) r.2.2.1 ∧ OS w' 40 encF_f32 (Value.slice p0v2a p0v2n p0v2c) r.2.2.2.1 ∧ OS w' 42 encSRod (Value.slice p0v3a p0v3n p0v3c) r.2.2.2.2 ∧ Frm (fun k _ => (Value.slice p0v0a p0v0n p0v0c).ownBlock = some k ∨ (Value.slice p0v1a p0v1n p0v1c).ownBlock = some k ∨ (Value.slice p0v2a p0v2n p0v2c).ownBlock = some k ∨ (Value.slice p0v3a p0v3n p0v3c).ownBlock = some k) w w' := by
  have X0 : Frm (fun k _ => (Value.slice p0v0a p0v0n p0v0c).ownBlock = some k ∨ (Value.slice p0v1a p0v1n p0v1c).ownBlock = some k ∨ (Value.slice p0v2a p0v2n p0v2c).ownBlock = some k ∨ (Value.slice p0v3a p0v3n p0v3c).ownBlock = some k) w w := Frm.refl _ w
  refine calls_of_W Tryz.func7 rfl (Nat.le_of_ble_eq_true rfl) ?_
  refine W_seq ?_
  refine W_region rfl ?_
  refine da_op rfl (d_box (cs := #[(Value.slice p0v0a p0v0n p0v0c), (Value.slice p0v1a p0v1n p0v1c), (Value.slice p0v2a p0v2n p0v2c), (Value.slice p0v3a p0v3n p0v3c)]) rfl fun w1 B1 E1 => ?_)
  have own2 : w.heap.size ≤ w.heap.size := Nat.le_trans X0.size (Nat.le_refl _)
  have sp3 : ¬ (Value.slice p0v0a p0v0n p0v0c).ownBlock = some w.heap.size := OS.ne_new p0v0R (Nat.le_refl _)
  have sp4 : ¬ (Value.slice p0v1a p0v1n p0v1c).ownBlock = some w.heap.size := OS.ne_new p0v1R (Nat.le_refl _)
  have sp5 : ¬ (Value.slice p0v2a p0v2n p0v2c).ownBlock = some w.heap.size := OS.ne_new p0v2R (Nat.le_refl _)
  have sp6 : ¬ (Value.slice p0v3a p0v3n p0v3c).ownBlock = some w.heap.size := OS.ne_new p0v3R (Nat.le_refl _)
  have X7 : Frm (fun k _ => (Value.slice p0v0a p0v0n p0v0c).ownBlock = some k ∨ (Value.slice p0v1a p0v1n p0v1c).ownBlock = some k ∨ (Value.slice p0v2a p0v2n p0v2c).ownBlock = some k ∨ (Value.slice p0v3a p0v3n p0v3c).ownBlock = some k) w w1 := X0.trans E1.frm
  refine da_op rfl (d_as (v := .int .i64 0) rfl ?_)
  refine da_nil ?_
  refine W_seq ?_
  refine W_region rfl ?_
  refine da_op rfl (d_fieldAddr rfl (fa26_0 _ _) ?_)
  refine da_op rfl (d_load (v := (Value.slice p0v0a p0v0n p0v0c)) rfl agg22 B1 rfl ?_)
  refine da_op rfl (d_mv (v := .int .i64 p1) rfl ?_)
  obtain ⟨m8, hm8, hr⟩ := bind_out hr
  have B9 : OS w1 57 encSVector (Value.slice p0v0a p0v0n p0v0c) p0.places := p0v0R.ext E1
  have B10 : OS w1 57 encSVector (Value.slice p0v1a p0v1n p0v1c) p0.before := p0v1R.ext E1
  have B11 : OS w1 40 encF_f32 (Value.slice p0v2a p0v2n p0v2c) p0.weights := p0v2R.ext E1
  have B12 : OS w1 42 encSRod (Value.slice p0v3a p0v3n p0v3c) p0.rods := p0v3R.ext E1
  refine da_op rfl (d_cl (vs := [(Value.slice p0v0a p0v0n p0v0c), .int .i64 p1]) en19 (ac rfl (ac rfl rfl)) rfl ?_)
  refine (c19 p0.places p1 p0v0a p0v0n p0v0c m8 w1 hm8 B9).mono ?_
  rintro _ w13 ⟨rfl, q13_m0R, E13⟩
  refine ⟨_, rfl, ?_⟩
  have X14 : Frm (fun k _ => (Value.slice p0v0a p0v0n p0v0c).ownBlock = some k ∨ (Value.slice p0v1a p0v1n p0v1c).ownBlock = some k ∨ (Value.slice p0v2a p0v2n p0v2c).ownBlock = some k ∨ (Value.slice p0v3a p0v3n p0v3c).ownBlock = some k) w w13 := Frm.step X7 E13 (fun k _ hk => .inl (.inl hk))
  refine da_op rfl (d_as (v := .int .i64 m8.1) rfl ?_)
  refine da_nil ?_
  refine W_seq ?_
  refine W_region rfl ?_
  refine da_op rfl (d_fieldAddr rfl (fa26_1 _ _) ?_)
  have B15 : w13.heap[w.heap.size]? = some (.cells #[(Value.slice p0v0a p0v0n p0v0c), (Value.slice p0v1a p0v1n p0v1c), (Value.slice p0v2a p0v2n p0v2c), (Value.slice p0v3a p0v3n p0v3c)] 26 (0, 0)) := E13.heap sp3 B1
  refine da_op rfl (d_load (v := (Value.slice p0v1a p0v1n p0v1c)) rfl agg22 B15 rfl ?_)
  refine da_op rfl (d_mv (v := .int .i64 m8.1) rfl ?_)
  obtain ⟨m16, hm16, hr⟩ := bind_out hr
  have B17 : OS w13 57 encSVector (Value.slice p0v1a p0v1n p0v1c) p0.before := B10.frm E13 (fun k hk => ((apart_symm sp0_1) k hk))
  have B18 : OS w13 40 encF_f32 (Value.slice p0v2a p0v2n p0v2c) p0.weights := B11.frm E13 (fun k hk => ((apart_symm sp0_2) k hk))
  have B19 : OS w13 42 encSRod (Value.slice p0v3a p0v3n p0v3c) p0.rods := B12.frm E13 (fun k hk => ((apart_symm sp0_3) k hk))
  refine da_op rfl (d_cl (vs := [(Value.slice p0v1a p0v1n p0v1c), .int .i64 m8.1]) en19 (ac rfl (ac rfl rfl)) rfl ?_)
  refine (c19 p0.before m8.1 p0v1a p0v1n p0v1c m16 w13 hm16 B17).mono ?_
  rintro _ w20 ⟨rfl, q20_m0R, E20⟩
  refine ⟨_, rfl, ?_⟩
  have X21 : Frm (fun k _ => (Value.slice p0v0a p0v0n p0v0c).ownBlock = some k ∨ (Value.slice p0v1a p0v1n p0v1c).ownBlock = some k ∨ (Value.slice p0v2a p0v2n p0v2c).ownBlock = some k ∨ (Value.slice p0v3a p0v3n p0v3c).ownBlock = some k) w w20 := Frm.step X14 E20 (fun k _ hk => .inl (.inr (.inl hk)))
  refine da_op rfl (d_as (v := .int .i64 m16.1) rfl ?_)
  refine da_nil ?_
  refine W_seq ?_
  refine W_region rfl ?_
  refine da_op rfl (d_fieldAddr rfl (fa26_2 _ _) ?_)
  have B22 : w20.heap[w.heap.size]? = some (.cells #[(Value.slice p0v0a p0v0n p0v0c), (Value.slice p0v1a p0v1n p0v1c), (Value.slice p0v2a p0v2n p0v2c), (Value.slice p0v3a p0v3n p0v3c)] 26 (0, 0)) := E20.heap sp4 B15
  refine da_op rfl (d_load (v := (Value.slice p0v2a p0v2n p0v2c)) rfl agg23 B22 rfl ?_)
  refine da_op rfl (d_mv (v := .int .i64 m16.1) rfl ?_)
  obtain ⟨m23, hm23, hr⟩ := bind_out hr
  have B24 : OS w20 40 encF_f32 (Value.slice p0v2a p0v2n p0v2c) p0.weights := B18.frm E20 (fun k hk => ((apart_symm sp1_2) k hk))
  have B25 : OS w20 57 encSVector (Value.slice p0v0a p0v0n p0v0c) m8.2 := q13_m0R.frm E20 (fun k hk => (sp0_1 k hk))
  have B26 : OS w20 42 encSRod (Value.slice p0v3a p0v3n p0v3c) p0.rods := B19.frm E20 (fun k hk => ((apart_symm sp1_3) k hk))
  refine da_op rfl (d_cl (vs := [(Value.slice p0v2a p0v2n p0v2c), .int .i64 m16.1]) en20 (ac rfl (ac rfl rfl)) rfl ?_)
  refine (c20 p0.weights m16.1 p0v2a p0v2n p0v2c m23 w20 hm23 B24).mono ?_
  rintro _ w27 ⟨rfl, q27_m0R, E27⟩
  refine ⟨_, rfl, ?_⟩
  have X28 : Frm (fun k _ => (Value.slice p0v0a p0v0n p0v0c).ownBlock = some k ∨ (Value.slice p0v1a p0v1n p0v1c).ownBlock = some k ∨ (Value.slice p0v2a p0v2n p0v2c).ownBlock = some k ∨ (Value.slice p0v3a p0v3n p0v3c).ownBlock = some k) w w27 := Frm.step X21 E27 (fun k _ hk => .inl (.inr (.inr (.inl hk))))
  refine da_op rfl (d_as (v := .int .i64 m23.1) rfl ?_)
  refine da_nil ?_
  refine W_seq ?_
  refine W_region rfl ?_
  refine da_op rfl (d_fieldAddr rfl (fa26_3 _ _) ?_)
  have B29 : w27.heap[w.heap.size]? = some (.cells #[(Value.slice p0v0a p0v0n p0v0c), (Value.slice p0v1a p0v1n p0v1c), (Value.slice p0v2a p0v2n p0v2c), (Value.slice p0v3a p0v3n p0v3c)] 26 (0, 0)) := E27.heap sp5 B22
  refine da_op rfl (d_load (v := (Value.slice p0v3a p0v3n p0v3c)) rfl agg24 B29 rfl ?_)
  refine da_op rfl (d_mv (v := .int .i64 m23.1) rfl ?_)
  obtain ⟨m30, hm30, hr⟩ := bind_out hr
  have B31 : OS w27 42 encSRod (Value.slice p0v3a p0v3n p0v3c) p0.rods := B26.frm E27 (fun k hk => ((apart_symm sp2_3) k hk))
  have B32 : OS w27 57 encSVector (Value.slice p0v0a p0v0n p0v0c) m8.2 := B25.frm E27 (fun k hk => (sp0_2 k hk))
  have B33 : OS w27 57 encSVector (Value.slice p0v1a p0v1n p0v1c) m16.2 := q20_m0R.frm E27 (fun k hk => (sp1_2 k hk))
  refine da_op rfl (d_cl (vs := [(Value.slice p0v3a p0v3n p0v3c), .int .i64 m23.1]) en21 (ac rfl (ac rfl rfl)) rfl ?_)
  refine (c21 p0.rods m23.1 p0v3a p0v3n p0v3c m30 w27 hm30 B31).mono ?_
  rintro _ w34 ⟨rfl, q34_m0R, E34⟩
  refine ⟨_, rfl, ?_⟩
  have X35 : Frm (fun k _ => (Value.slice p0v0a p0v0n p0v0c).ownBlock = some k ∨ (Value.slice p0v1a p0v1n p0v1c).ownBlock = some k ∨ (Value.slice p0v2a p0v2n p0v2c).ownBlock = some k ∨ (Value.slice p0v3a p0v3n p0v3c).ownBlock = some k) w w34 := Frm.step X28 E34 (fun k _ hk => .inl (.inr (.inr (.inr hk))))
  refine da_op rfl (d_as (v := .int .i64 m30.1) rfl ?_)
  refine da_nil ?_
  refine W_seq ?_
  refine W_region rfl ?_
  refine da_op rfl (d_mv (v := .int .i64 m30.1) rfl ?_)
  refine da_op rfl (d_as (v := .int .i64 m30.1) rfl ?_)
  refine da_nil ?_
  refine W_ret ?_
  have B36 : OS w34 57 encSVector (Value.slice p0v0a p0v0n p0v0c) m8.2 := B32.frm E34 (fun k hk => (sp0_3 k hk))
  have B37 : OS w34 57 encSVector (Value.slice p0v1a p0v1n p0v1c) m16.2 := B33.frm E34 (fun k hk => (sp1_3 k hk))
  have B38 : OS w34 40 encF_f32 (Value.slice p0v2a p0v2n p0v2c) m23.2 := q27_m0R.frm E34 (fun k hk => (sp2_3 k hk))
  obtain rfl := Option.some.inj hr
  refine ⟨_, res1 (rv_tmp rfl), ?_⟩
  exact ⟨rfl, B36, B37, B38, q34_m0R, X35⟩
end Go.Proofs
