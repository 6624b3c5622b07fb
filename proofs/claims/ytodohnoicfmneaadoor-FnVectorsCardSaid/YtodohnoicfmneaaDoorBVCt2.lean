import Derived.Test.YtodohnoicfmneaaDoorBVCt1
namespace Go.Proofs
open Go Go.Fl Go.RowKit Go.Rg
set_option maxRecDepth 100000
set_option linter.unusedVariables false
attribute [local irreducible] Go.Calls doAll Does DoesG W Wr
set_option maxHeartbeats 4000000 in
theorem c74_s2c (p0 : List UInt8) (r : Int) (w : World) (hr : M.internal_stringslite_Index_s2c p0 = some r)  :
    Calls Tryd.prog 74 #[.string (bs p0), .string (bs ([44] : List UInt8))] w fun e w' => e = .returned (.int .i64 r) ∧ Ext w w' := by
  refine calls_of_W Tryd.func74 rfl (Nat.le_of_ble_eq_true rfl) ?_
  refine W_seq ?_
  refine W_region rfl ?_
  refine da_op rfl (d_as (v := .int .i64 0) rfl ?_)
  refine da_nil ?_
  refine W_seq ?_
  refine W_region rfl ?_
  refine da_op rfl (d_mv (v := .string (bs ([44] : List UInt8))) rfl ?_)
  refine da_op rfl (d_slenL (n := 1) un9 rfl rfl ?_)
  refine da_op rfl (d_as (v := .int .i64 1) rfl ?_)
  refine da_nil ?_
  refine W_seq ?_
  refine W_block ?_
  refine W_seq ?_
  refine W_cut (fun σ' w' => σ' 16 = .bool (([44] : List UInt8) == p0) ∧ Ext w w') rfl ?_ ?_
  · skip
    clear hr
    refine da_op rfl (d_mv (v := .int .i64 1) rfl ?_)
    refine da_op rfl (d_icmpL (b := false) cEql rfl rfl (by decide) ?_)
    refine da_op rfl (d_mv (v := .bool false) rfl ?_)
    refine da_on rfl rfl (d_mv (v := .string (bs ([44] : List UInt8))) rfl ?_)
    refine da_on rfl rfl (d_mv (v := .string (bs p0)) rfl ?_)
    refine da_on rfl rfl (d_seq rfl rfl ?_)
    refine da_op rfl (d_pick (b := false) rfl ?_)
    refine da_op rfl (d_as (v := .bool (([44] : List UInt8) == p0)) rfl ?_)
    refine da_nil ?_
    exact ⟨rfl, (Ext.refl w)⟩
  · skip
    rintro σ1 w1 o1 ⟨s16_1, E1⟩
    have s0_1 : σ1 0 = .string (bs p0) := (o1 0 rfl).trans rfl
    have s1_1 : σ1 1 = .string (bs ([44] : List UInt8)) := (o1 1 rfl).trans rfl
    have s5_1 : σ1 5 = .int .i64 1 := (o1 5 rfl).trans rfl
    have X2 : Ext w w1 := (Ext.refl w).trans E1
    refine W_cond (b := (([44] : List UInt8) == p0)) s16_1 (fun hc3 => ?_) (fun hc3 => ?_)
    · skip
      replace hr := bif_t hr hc3
      refine W_seq ?_
      refine W_region rfl ?_
      refine da_op rfl (d_as (v := .int .i64 0) rfl ?_)
      refine da_nil ?_
      refine W_ret ?_
      obtain rfl := Option.some.inj hr
      refine ⟨_, res1 (rv_tmp rfl), ?_⟩
      exact ⟨rfl, X2⟩
    · skip
      replace hr := bif_f hr hc3
      refine W_seq ?_
      refine W_region rfl ?_
      refine da_op rfl (d_mv (v := .int .i64 1) s5_1 ?_)
      refine da_op rfl (d_icmpL (b := true) cEql rfl rfl (by decide) ?_)
      refine da_op rfl (d_as (v := .bool true) rfl ?_)
      refine da_nil ?_
      refine W_true rfl ?_
      refine W_seq ?_
      refine W_region rfl ?_
      refine da_op rfl (d_mv (v := .string (bs p0)) s0_1 ?_)
      refine da_op rfl (d_mv (v := .string (bs ([44] : List UInt8))) s1_1 ?_)
      obtain ⟨m4, hm4, hr⟩ := bind_out hr
      refine da_op rfl (d_sidx un9 rfl rfl hm4 ?_)
      obtain ⟨m5, hm5, hr⟩ := letv_out hr
      refine da_op rfl (d_cl (vs := [.string (bs p0), .int .u8 m4]) en61 (ac rfl (ac rfl rfl)) rfl ?_)
      refine (c61 p0 m4 m5 w1 hm5 ).mono ?_
      rintro _ w6 ⟨rfl, E6⟩
      refine ⟨_, rfl, ?_⟩
      have X7 : Ext w w6 := X2.trans E6
      refine da_op rfl (d_as (v := .int .i64 m5) rfl ?_)
      refine da_nil ?_
      refine W_ret ?_
      obtain rfl := Option.some.inj hr
      refine ⟨_, res1 (rv_tmp rfl), ?_⟩
      exact ⟨rfl, X7⟩
set_option maxHeartbeats 4000000 in
theorem c67_s2c (p0 : List UInt8) (r : Int) (w : World) (hr : M.strings_Index_s2c p0 = some r)  :
    Calls Tryd.prog 67 #[.string (bs p0), .string (bs ([44] : List UInt8))] w fun e w' => e = .returned (.int .i64 r) ∧ Ext w w' := by
  refine calls_of_W Tryd.func67 rfl (Nat.le_of_ble_eq_true rfl) ?_
  refine W_seq ?_
  refine W_region rfl ?_
  refine da_op rfl (d_as (v := .int .i64 0) rfl ?_)
  refine da_nil ?_
  refine W_seq ?_
  refine W_region rfl ?_
  refine da_op rfl (d_mv (v := .string (bs p0)) rfl ?_)
  refine da_op rfl (d_mv (v := .string (bs ([44] : List UInt8))) rfl ?_)
  obtain ⟨m1, hm1, hr⟩ := bind_out hr
  refine da_op rfl (d_cl (vs := [.string (bs p0), .string (bs ([44] : List UInt8))]) en74 (ac rfl (ac rfl rfl)) rfl ?_)
  refine (c74_s2c p0 m1 w hm1 ).mono ?_
  rintro _ w2 ⟨rfl, E2⟩
  refine ⟨_, rfl, ?_⟩
  have X3 : Ext w w2 := (Ext.refl w).trans E2
  refine da_op rfl (d_as (v := .int .i64 m1) rfl ?_)
  refine da_nil ?_
  refine W_ret ?_
  obtain rfl := Option.some.inj hr
  refine ⟨_, res1 (rv_tmp rfl), ?_⟩
  exact ⟨rfl, X3⟩
set_option maxHeartbeats 4000000 in
theorem c60_s2c_i64n0_i64m1 (p0 : List UInt8) (r : List (List UInt8)) (w : World) (hr : M.strings_genSplit_s2c_i64n0_i64m1 p0 = some r)  :
    Calls Tryd.prog 60 #[.string (bs p0), .string (bs ([44] : List UInt8)), .int .i64 0, .int .i64 (-1)] w fun e w' => ∃ q0a : Option Addr, ∃ q0n : Nat, ∃ q0c : Nat, e = .returned ((Value.slice q0a q0n q0c)) ∧ RS w' encS (Value.slice q0a q0n q0c) r ∧ (∀ k, (Value.slice q0a q0n q0c).ownBlock = some k → w.heap.size ≤ k) ∧ Ext w w' := by
  refine calls_of_W Tryd.func60 rfl (Nat.le_of_ble_eq_true rfl) ?_
  refine W_seq ?_
  refine W_region rfl ?_
  refine da_op rfl (d_as (v := .slice none 0 0) rfl ?_)
  refine da_nil ?_
  refine W_seq ?_
  refine W_seq ?_
  refine W_region rfl ?_
  refine da_op rfl (d_mv (v := .int .i64 (-1)) rfl ?_)
  refine da_op rfl (d_icmpL (b := false) cEql rfl rfl (by decide) ?_)
  refine da_nil ?_
  refine W_false rfl ?_
  refine W_skip ?_
  refine W_seq ?_
  refine W_seq ?_
  refine W_region rfl ?_
  refine da_op rfl (d_mv (v := .string (bs ([44] : List UInt8))) rfl ?_)
  refine da_op rfl (d_seqL (b := false) rfl rfl (by decide) ?_)
  refine da_nil ?_
  refine W_false rfl ?_
  refine W_skip ?_
  refine W_seq ?_
  refine W_seq ?_
  refine W_region rfl ?_
  refine da_op rfl (d_mv (v := .int .i64 (-1)) rfl ?_)
  refine da_op rfl (d_icmpL (b := true) cLss rfl rfl (by decide) ?_)
  refine da_nil ?_
  refine W_true rfl ?_
  refine W_region rfl ?_
  refine da_op rfl (d_mv (v := .string (bs p0)) rfl ?_)
  refine da_op rfl (d_mv (v := .string (bs ([44] : List UInt8))) rfl ?_)
  obtain ⟨m1, hm1, hr⟩ := bind_out hr
  refine da_op rfl (d_cl (vs := [.string (bs p0), .string (bs ([44] : List UInt8))]) en66 (ac rfl (ac rfl rfl)) rfl ?_)
  refine (c66_s2c p0 m1 w hm1 ).mono ?_
  rintro _ w2 ⟨rfl, E2⟩
  refine ⟨_, rfl, ?_⟩
  have X3 : Ext w w2 := (Ext.refl w).trans E2
  refine da_op rfl (d_iarith rfl rfl (.inl ⟨rfl, rfl⟩) ?_)
  refine da_op rfl (d_as (v := .int .i64 (IntKind.i64.wrap (m1 + 1))) rfl ?_)
  refine da_nil ?_
  refine W_seq ?_
  refine W_region rfl ?_
  refine da_op rfl (d_mv (v := .int .i64 (IntKind.i64.wrap (m1 + 1))) rfl ?_)
  refine da_op rfl (d_mv (v := .string (bs p0)) rfl ?_)
  refine da_op rfl (d_slen un9 rfl ?_)
  refine da_op rfl (d_iarith rfl rfl (.inl ⟨rfl, rfl⟩) ?_)
  refine da_op rfl (d_min rfl rfl ?_)
  refine da_op rfl (d_as (v := .int .i64 (imin (IntKind.i64.wrap (m1 + 1)) (IntKind.i64.wrap (((p0).length : Int) + 1)))) rfl ?_)
  refine da_nil ?_
  refine W_seq ?_
  refine W_region rfl ?_
  refine da_op rfl (d_mv (v := .int .i64 (imin (IntKind.i64.wrap (m1 + 1)) (IntKind.i64.wrap (((p0).length : Int) + 1)))) rfl ?_)
  obtain ⟨m4, hm4, hr⟩ := bind_out hr
  refine da_op rfl (d_make (e := encS) un63 info9 rfl (by kernel_rfl) (by kernel_rfl) (by decide) (by decide) rfl rfl hm4 fun v5 w5 O5 E5 fr5 => ?_)
  obtain ⟨v5pa, v5pn, v5pc, rfl⟩ := O5.vals
  have own5 : ∀ k, (Value.slice v5pa v5pn v5pc).ownBlock = some k → w.heap.size ≤ k := fun k hk => Nat.le_trans X3.size (fr5 k hk)
  have X6 : Ext w w5 := X3.trans E5
  refine da_op rfl (d_as (v := (Value.slice v5pa v5pn v5pc)) rfl ?_)
  refine da_nil ?_
  refine W_seq ?_
  refine W_region rfl ?_
  refine da_op rfl (d_mv (v := .int .i64 (imin (IntKind.i64.wrap (m1 + 1)) (IntKind.i64.wrap (((p0).length : Int) + 1)))) rfl ?_)
  refine da_op rfl (d_iarith rfl rfl (.inr (.inl ⟨rfl, rfl⟩)) ?_)
  refine da_op rfl (d_as (v := .int .i64 (IntKind.i64.wrap ((imin (IntKind.i64.wrap (m1 + 1)) (IntKind.i64.wrap (((p0).length : Int) + 1))) - 1))) rfl ?_)
  refine da_nil ?_
  refine W_seq ?_
  refine W_region rfl ?_
  refine da_op rfl (d_as (v := .int .i64 0) rfl ?_)
  refine da_nil ?_
  refine W_seq ?_
  refine W_block ?_
  obtain ⟨m7, hm7, hr⟩ := bind_out hr
  refine W_loopM hm7 (fun (s7 : List UInt8 × Int × List (List UInt8)) σ w' => σ 0 = .string (bs s7.1) ∧ σ 10 = .int .i64 s7.2.1 ∧ σ 1 = .string (bs ([44] : List UInt8)) ∧ σ 2 = .int .i64 0 ∧ σ 3 = .int .i64 (IntKind.i64.wrap ((imin (IntKind.i64.wrap (m1 + 1)) (IntKind.i64.wrap (((p0).length : Int) + 1))) - 1)) ∧ σ 9 = (Value.slice v5pa v5pn v5pc) ∧ OS w' 9 encS (Value.slice v5pa v5pn v5pc) s7.2.2 ∧ Ext w w') (fun (e7 : (List UInt8 × Int × List (List UInt8))) ex σ w' => ex = .exit 0 ∧ σ 0 = .string (bs e7.1) ∧ σ 10 = .int .i64 e7.2.1 ∧ σ 9 = (Value.slice v5pa v5pn v5pc) ∧ OS w' 9 encS (Value.slice v5pa v5pn v5pc) e7.2.2 ∧ Ext w w') ⟨rfl, rfl, rfl, rfl, rfl, rfl, O5, X6⟩ ?_ ?_
  · skip
    rintro s7 σl7 wl7 r7l ⟨i7_S0, i7_S10, i7_S1, i7_S2, i7_S3, i7_S9, i7_2R, i7_X⟩ hr
    refine W_seq ?_
    refine W_seq ?_
    refine W_region rfl ?_
    refine da_op rfl (d_mv (v := .int .i64 s7.2.1) i7_S10 ?_)
    refine da_op rfl (d_mv (v := .int .i64 (IntKind.i64.wrap ((imin (IntKind.i64.wrap (m1 + 1)) (IntKind.i64.wrap (((p0).length : Int) + 1))) - 1))) i7_S3 ?_)
    refine da_op rfl (d_icmp cLss rfl rfl ?_)
    refine da_nil ?_
    refine W_cond (b := (icmp .lss s7.2.1 (IntKind.i64.wrap ((imin (IntKind.i64.wrap (m1 + 1)) (IntKind.i64.wrap (((p0).length : Int) + 1))) - 1)))) rfl (fun hc8 => ?_) (fun hc8 => ?_)
    · skip
      replace hr := bif_t hr hc8
      refine W_skip ?_
      refine W_block ?_
      refine W_seq ?_
      refine W_region rfl ?_
      refine da_op rfl (d_mv (v := .string (bs s7.1)) i7_S0 ?_)
      refine da_op rfl (d_mv (v := .string (bs ([44] : List UInt8))) i7_S1 ?_)
      obtain ⟨m9, hm9, hr⟩ := bind_out hr
      refine da_op rfl (d_cl (vs := [.string (bs s7.1), .string (bs ([44] : List UInt8))]) en67 (ac rfl (ac rfl rfl)) rfl ?_)
      refine (c67_s2c s7.1 m9 wl7 hm9 ).mono ?_
      rintro _ w10 ⟨rfl, E10⟩
      refine ⟨_, rfl, ?_⟩
      have X11 : Ext w w10 := i7_X.trans E10
      refine da_op rfl (d_as (v := .int .i64 m9) rfl ?_)
      refine da_nil ?_
      refine W_seq ?_
      refine W_seq ?_
      refine W_region rfl ?_
      refine da_op rfl (d_mv (v := .int .i64 m9) rfl ?_)
      refine da_op rfl (d_icmp cLss rfl rfl ?_)
      refine da_nil ?_
      refine W_cond (b := (icmp .lss m9 0)) rfl (fun hc12 => ?_) (fun hc12 => ?_)
      · skip
        replace hr := bif_t hr hc12
        refine W_exit ?_
        have B13 : OS w10 9 encS (Value.slice v5pa v5pn v5pc) s7.2.2 := i7_2R.ext E10
        obtain rfl := Option.some.inj hr
        exact ⟨_, rfl, rfl, i7_S0, i7_S10, i7_S9, B13, X11⟩
      · skip
        replace hr := bif_f hr hc12
        refine W_skip ?_
        refine W_seq ?_
        refine W_region rfl ?_
        refine da_op rfl (d_mv (v := (Value.slice v5pa v5pn v5pc)) i7_S9 ?_)
        refine da_op rfl (d_mv (v := .int .i64 s7.2.1) i7_S10 ?_)
        refine da_op rfl (d_mv (v := .string (bs s7.1)) i7_S0 ?_)
        refine da_op rfl (d_mv (v := .int .i64 m9) rfl ?_)
        refine da_op rfl (d_mv (v := .int .i64 0) i7_S2 ?_)
        refine da_op rfl (d_iarith rfl rfl (.inl ⟨rfl, rfl⟩) ?_)
        obtain ⟨m14, hm14, hr⟩ := bind_out hr
        refine da_op rfl (d_ssub (a := 0) (b := (IntKind.i64.wrap (m9 + 0))) un9 rfl (.inl ⟨rfl, rfl⟩) (.inr ⟨_, _, rfl, rfl⟩) hm14 ?_)
        obtain ⟨m15, hm15, hr⟩ := bind_out hr
        have B17 : OS w10 9 encS (Value.slice v5pa v5pn v5pc) s7.2.2 := i7_2R.ext E10
        refine da_op rfl (d_indexO (e := encS) (v := (Value.slice v5pa v5pn v5pc)) un63 size9 rfl rfl B17 hm15 fun g16 fr16 cu16 vs16 hv16 hg16 hp16 hq16 => ?_)
        obtain rfl := dec_encS hq16
        refine da_op rfl (d_store_elem (e := encS) (i := s7.2.1) (k := 0) (old := [.string (bs m15)]) (vs := #[.string (bs m14)]) (new := [.string (bs m14)]) (x2 := m14) rfl rfl hv16 B17 hg16 hp16 hm15 size9 (by kernel_rfl) (Nat.le_of_ble_eq_true rfl) rfl rfl (lc_v rfl rfl) rfl fun w18 S18 O19 => ?_)
        have X20 : Ext w w18 := Ext.step X11 S18.frmb (fun k _ hk => own5 k (by rw [hv16, hk]; rfl))
        refine da_nil ?_
        refine W_seq ?_
        refine W_region rfl ?_
        refine da_op rfl (d_mv (v := .string (bs s7.1)) i7_S0 ?_)
        refine da_op rfl (d_mv (v := .int .i64 m9) rfl ?_)
        refine da_op rfl (d_mv (v := .string (bs ([44] : List UInt8))) i7_S1 ?_)
        refine da_op rfl (d_slenL (n := 1) un9 rfl rfl ?_)
        refine da_op rfl (d_iarith rfl rfl (.inl ⟨rfl, rfl⟩) ?_)
        obtain ⟨m21, hm21, hr⟩ := bind_out hr
        refine da_op rfl (d_ssub (a := (IntKind.i64.wrap (m9 + 1))) (b := ((s7.1).length : Int)) un9 rfl (.inr ⟨_, _, rfl, rfl⟩) (.inl ⟨rfl, rfl⟩) hm21 ?_)
        refine da_op rfl (d_as (v := .string (bs m21)) rfl ?_)
        refine da_nil ?_
        refine W_region rfl ?_
        refine da_op rfl (d_mv (v := .int .i64 s7.2.1) i7_S10 ?_)
        refine da_op rfl (d_iarith rfl rfl (.inl ⟨rfl, rfl⟩) ?_)
        refine da_op rfl (d_as (v := .int .i64 (IntKind.i64.wrap (s7.2.1 + 1))) rfl ?_)
        refine da_nil ?_
        obtain rfl := Option.some.inj hr
        exact ⟨_, rfl, ⟨rfl, rfl, i7_S1, i7_S2, i7_S3, i7_S9, O19, X20⟩⟩
    · skip
      replace hr := bif_f hr hc8
      refine W_exit ?_
      obtain rfl := Option.some.inj hr
      exact ⟨_, rfl, rfl, i7_S0, i7_S10, i7_S9, i7_2R, i7_X⟩
  · skip
    intro ex σx7 wx7 hq
    obtain ⟨rfl, q7_0_S0, q7_0_S10, q7_0_S9, q7_0_2R, q7_0_X⟩ := hq
    refine W_seq ?_
    refine W_region rfl ?_
    refine da_op rfl (d_mv (v := (Value.slice v5pa v5pn v5pc)) q7_0_S9 ?_)
    refine da_op rfl (d_mv (v := .int .i64 m7.2.1) q7_0_S10 ?_)
    refine da_op rfl (d_mv (v := .string (bs m7.1)) q7_0_S0 ?_)
    obtain ⟨m22, hm22, hr⟩ := bind_out hr
    refine da_op rfl (d_indexO (e := encS) (v := (Value.slice v5pa v5pn v5pc)) un63 size9 rfl rfl q7_0_2R hm22 fun g23 fr23 cu23 vs23 hv23 hg23 hp23 hq23 => ?_)
    obtain rfl := dec_encS hq23
    refine da_op rfl (d_store_elem (e := encS) (i := m7.2.1) (k := 0) (old := [.string (bs m22)]) (vs := #[.string (bs m7.1)]) (new := [.string (bs m7.1)]) (x2 := m7.1) rfl rfl hv23 q7_0_2R hg23 hp23 hm22 size9 (by kernel_rfl) (Nat.le_of_ble_eq_true rfl) rfl rfl (lc_v rfl rfl) rfl fun w24 S24 O25 => ?_)
    have X26 : Ext w w24 := Ext.step q7_0_X S24.frmb (fun k _ hk => own5 k (by rw [hv23, hk]; rfl))
    refine da_nil ?_
    refine W_seq ?_
    refine W_region rfl ?_
    refine da_op rfl (d_mv (v := (Value.slice v5pa v5pn v5pc)) q7_0_S9 ?_)
    refine da_op rfl (d_mv (v := .int .i64 m7.2.1) q7_0_S10 ?_)
    refine da_op rfl (d_iarith rfl rfl (.inl ⟨rfl, rfl⟩) ?_)
    obtain ⟨m27, hm27, hr⟩ := bind_out hr
    refine da_op rfl (d_lsub (e := encS) (v := (Value.slice v5pa v5pn v5pc)) (a := 0) (b := (IntKind.i64.wrap (m7.2.1 + 1))) un63 size9 rfl O25.rs (.inl ⟨rfl, rfl⟩) (.inr ⟨_, _, rfl, rfl⟩) hm27 fun v28 R28 L28 => ?_)
    obtain ⟨v28pa, v28pn, v28pc, rfl⟩ := R28.vals
    refine da_op rfl (d_as (v := (Value.slice v28pa v28pn v28pc)) rfl ?_)
    refine da_nil ?_
    refine W_ret ?_
    obtain rfl := Option.some.inj hr
    refine ⟨_, res1 (rv_tmp rfl), ?_⟩
    exact ⟨v28pa, v28pn, v28pc, rfl, R28, (fun k hk => own5 k (L28 k hk)), X26⟩
set_option maxHeartbeats 4000000 in
theorem c53_s2c (p0 : List UInt8) (r : List (List UInt8)) (w : World) (hr : M.strings_Split_s2c p0 = some r)  :
    Calls Tryd.prog 53 #[.string (bs p0), .string (bs ([44] : List UInt8))] w fun e w' => ∃ q0a : Option Addr, ∃ q0n : Nat, ∃ q0c : Nat, e = .returned ((Value.slice q0a q0n q0c)) ∧ RS w' encS (Value.slice q0a q0n q0c) r ∧ (∀ k, (Value.slice q0a q0n q0c).ownBlock = some k → w.heap.size ≤ k) ∧ Ext w w' := by
  refine calls_of_W Tryd.func53 rfl (Nat.le_of_ble_eq_true rfl) ?_
  refine W_seq ?_
  refine W_region rfl ?_
  refine da_op rfl (d_as (v := .slice none 0 0) rfl ?_)
  refine da_nil ?_
  refine W_seq ?_
  refine W_region rfl ?_
  refine da_op rfl (d_mv (v := .string (bs p0)) rfl ?_)
  refine da_op rfl (d_mv (v := .string (bs ([44] : List UInt8))) rfl ?_)
  obtain ⟨m1, hm1, hr⟩ := bind_out hr
  refine da_op rfl (d_cl (vs := [.string (bs p0), .string (bs ([44] : List UInt8)), .int .i64 0, .int .i64 (-1)]) en60 (ac rfl (ac rfl (ac rfl (ac rfl rfl)))) rfl ?_)
  refine (c60_s2c_i64n0_i64m1 p0 m1 w hm1 ).mono ?_
  rintro _ w2 ⟨q2_0a, q2_0n, q2_0c, rfl, q2_0R, q2_0F, E2⟩
  refine ⟨_, rfl, ?_⟩
  have own3 : ∀ k, (Value.slice q2_0a q2_0n q2_0c).ownBlock = some k → w.heap.size ≤ k := fun k hk => Nat.le_trans (Ext.refl w).size (q2_0F k hk)
  have X4 : Ext w w2 := (Ext.refl w).trans E2
  refine da_op rfl (d_as (v := (Value.slice q2_0a q2_0n q2_0c)) rfl ?_)
  refine da_nil ?_
  refine W_ret ?_
  obtain rfl := Option.some.inj hr
  refine ⟨_, res1 (rv_tmp rfl), ?_⟩
  exact ⟨q2_0a, q2_0n, q2_0c, rfl, q2_0R, own3, X4⟩
set_option maxHeartbeats 4000000 in
theorem c42 (p0 : List UInt8) (r : List (List UInt8)) (w : World) (hr : M.impl_parted p0 = some r)  :
    Calls Tryd.prog 42 #[.string (bs p0)] w fun e w' => ∃ q0a : Option Addr, ∃ q0n : Nat, ∃ q0c : Nat, e = .returned ((Value.slice q0a q0n q0c)) ∧ RS w' encS (Value.slice q0a q0n q0c) r ∧ (∀ k, (Value.slice q0a q0n q0c).ownBlock = some k → w.heap.size ≤ k) ∧ Ext w w' := by
  refine calls_of_W Tryd.func42 rfl (Nat.le_of_ble_eq_true rfl) ?_
  refine W_seq ?_
  refine W_region rfl ?_
  refine da_op rfl (d_as (v := .slice none 0 0) rfl ?_)
  refine da_nil ?_
  refine W_seq ?_
  refine W_seq ?_
  refine W_region rfl ?_
  refine da_op rfl (d_mv (v := .string (bs p0)) rfl ?_)
  refine da_op rfl (d_seq rfl rfl ?_)
  refine da_nil ?_
  refine W_cond (b := (p0 == ([110, 111, 110, 101] : List UInt8))) rfl (fun hc1 => ?_) (fun hc1 => ?_)
  · skip
    replace hr := bif_t hr hc1
    refine W_seq ?_
    refine W_region rfl ?_
    refine da_op rfl (d_as (v := .slice none 0 0) rfl ?_)
    refine da_nil ?_
    refine W_ret ?_
    obtain rfl := Option.some.inj hr
    refine ⟨_, res1 (rv_tmp rfl), ?_⟩
    exact ⟨none, 0, 0, rfl, (RS.nil _ encS), (fun k hk => by cases hk), (Ext.refl w)⟩
  · skip
    replace hr := bif_f hr hc1
    refine W_skip ?_
    refine W_seq ?_
    refine W_region rfl ?_
    refine da_op rfl (d_mv (v := .string (bs p0)) rfl ?_)
    obtain ⟨m2, hm2, hr⟩ := bind_out hr
    refine da_op rfl (d_cl (vs := [.string (bs p0), .string (bs ([44] : List UInt8))]) en53 (ac rfl (ac rfl rfl)) rfl ?_)
    refine (c53_s2c p0 m2 w hm2 ).mono ?_
    rintro _ w3 ⟨q3_0a, q3_0n, q3_0c, rfl, q3_0R, q3_0F, E3⟩
    refine ⟨_, rfl, ?_⟩
    have own4 : ∀ k, (Value.slice q3_0a q3_0n q3_0c).ownBlock = some k → w.heap.size ≤ k := fun k hk => Nat.le_trans (Ext.refl w).size (q3_0F k hk)
    have X5 : Ext w w3 := (Ext.refl w).trans E3
    refine da_op rfl (d_as (v := (Value.slice q3_0a q3_0n q3_0c)) rfl ?_)
    refine da_nil ?_
    refine W_ret ?_
    obtain rfl := Option.some.inj hr
    refine ⟨_, res1 (rv_tmp rfl), ?_⟩
    exact ⟨q3_0a, q3_0n, q3_0c, rfl, q3_0R, own4, X5⟩
set_option maxHeartbeats 4000000 in
theorem c61_s30313233343536373839616263646566 (p1 : Int) (r : Int) (w : World) (hr : M.internal_stringslite_IndexByte_s30313233343536373839616263646566 p1 = r)  :
    Calls Tryd.prog 61 #[.string (bs ([48, 49, 50, 51, 52, 53, 54, 55, 56, 57, 97, 98, 99, 100, 101, 102] : List UInt8)), .int .u8 p1] w fun e w' => e = .returned (.int .i64 r) ∧ Ext w w' := by
  refine calls_of_W Tryd.func61 rfl (Nat.le_of_ble_eq_true rfl) ?_
  refine W_seq ?_
  refine W_region rfl ?_
  refine da_op rfl (d_as (v := .int .i64 0) rfl ?_)
  refine da_nil ?_
  refine W_seq ?_
  refine W_region rfl ?_
  refine da_op rfl (d_mv (v := .string (bs ([48, 49, 50, 51, 52, 53, 54, 55, 56, 57, 97, 98, 99, 100, 101, 102] : List UInt8))) rfl ?_)
  refine da_op rfl (d_mv (v := .int .u8 p1) rfl ?_)
  refine da_op rfl (d_sfind ext68_0 ext68_1 ext68_2 (Option.isNone_iff_eq_none.1 ext68_3) ext68_4 rfl rfl rfl ?_)
  refine da_op rfl (d_as (v := .int .i64 (sfind ([48, 49, 50, 51, 52, 53, 54, 55, 56, 57, 97, 98, 99, 100, 101, 102] : List UInt8) p1)) rfl ?_)
  refine da_nil ?_
  refine W_ret ?_
  subst hr
  refine ⟨_, res1 (rv_tmp rfl), ?_⟩
  exact ⟨rfl, (Ext.refl w)⟩
set_option maxHeartbeats 4000000 in
theorem c54_s30313233343536373839616263646566 (p1 : Int) (r : Int) (w : World) (hr : M.strings_IndexByte_s30313233343536373839616263646566 p1 = r)  :
    Calls Tryd.prog 54 #[.string (bs ([48, 49, 50, 51, 52, 53, 54, 55, 56, 57, 97, 98, 99, 100, 101, 102] : List UInt8)), .int .u8 p1] w fun e w' => e = .returned (.int .i64 r) ∧ Ext w w' := by
  refine calls_of_W Tryd.func54 rfl (Nat.le_of_ble_eq_true rfl) ?_
  refine W_seq ?_
  refine W_region rfl ?_
  refine da_op rfl (d_as (v := .int .i64 0) rfl ?_)
  refine da_nil ?_
  refine W_seq ?_
  refine W_region rfl ?_
  refine da_op rfl (d_mv (v := .string (bs ([48, 49, 50, 51, 52, 53, 54, 55, 56, 57, 97, 98, 99, 100, 101, 102] : List UInt8))) rfl ?_)
  refine da_op rfl (d_mv (v := .int .u8 p1) rfl ?_)
  obtain ⟨m1, hm1, hr⟩ := letv_out hr
  refine da_op rfl (d_cl (vs := [.string (bs ([48, 49, 50, 51, 52, 53, 54, 55, 56, 57, 97, 98, 99, 100, 101, 102] : List UInt8)), .int .u8 p1]) en61 (ac rfl (ac rfl rfl)) rfl ?_)
  refine (c61_s30313233343536373839616263646566 p1 m1 w hm1 ).mono ?_
  rintro _ w2 ⟨rfl, E2⟩
  refine ⟨_, rfl, ?_⟩
  have X3 : Ext w w2 := (Ext.refl w).trans E2
  refine da_op rfl (d_as (v := .int .i64 m1) rfl ?_)
  refine da_nil ?_
  refine W_ret ?_
  subst hr
  refine ⟨_, res1 (rv_tmp rfl), ?_⟩
  exact ⟨rfl, X3⟩
set_option maxHeartbeats 4000000 in
theorem c62 (p0 : Int) (p1 : Int) (p2 : Int) (r : Bool) (w : World) (hr : M.impl_in p0 p1 p2 = r)  :
    Calls Tryd.prog 62 #[.int .i64 p0, .int .i64 p1, .int .i64 p2] w fun e w' => e = .returned (.bool r) ∧ Ext w w' := by
  refine calls_of_W Tryd.func62 rfl (Nat.le_of_ble_eq_true rfl) ?_
  refine W_seq ?_
  refine W_region rfl ?_
  refine da_op rfl (d_as (v := .bool false) rfl ?_)
  refine da_nil ?_
  refine W_seq ?_
  obtain ⟨m1, hm1, hr⟩ := letv_out hr
  refine W_cut (fun σ' w' => σ' 6 = .bool m1 ∧ Ext w w') rfl ?_ ?_
  · skip
    have hr := hm1
    refine da_op rfl (d_mv (v := .int .i64 p0) rfl ?_)
    refine da_op rfl (d_mv (v := .int .i64 p1) rfl ?_)
    refine da_op rfl (d_icmp cGeq rfl rfl ?_)
    refine da_op rfl (d_mv (v := .bool (icmp .geq p0 p1)) rfl ?_)
    rcases Bool.eq_false_or_eq_true (icmp .geq p0 p1) with hc2 | hc2
    · skip
      replace hr := bif_t hr hc2
      refine da_on rfl (Eq.trans (show sl _ _ _ = .bool (icmp .geq p0 p1) from rfl) (congrArg Value.bool hc2)) (d_mv (v := .int .i64 p0) rfl ?_)
      refine da_on rfl (Eq.trans (show sl _ _ _ = .bool (icmp .geq p0 p1) from rfl) (congrArg Value.bool hc2)) (d_mv (v := .int .i64 p2) rfl ?_)
      refine da_on rfl (Eq.trans (show sl _ _ _ = .bool (icmp .geq p0 p1) from rfl) (congrArg Value.bool hc2)) (d_icmp cLeq rfl rfl ?_)
      refine da_op rfl (d_pick (b := true) (Eq.trans (show ev _ _ = .bool (icmp .geq p0 p1) from rfl) (congrArg Value.bool hc2)) ?_)
      refine da_op rfl (d_as (v := .bool (icmp .leq p0 p2)) rfl ?_)
      refine da_nil ?_
      subst hr
      exact ⟨rfl, (Ext.refl w)⟩
    · skip
      replace hr := bif_f hr hc2
      refine da_off rfl (Eq.trans (show sl _ _ _ = .bool (icmp .geq p0 p1) from rfl) (congrArg Value.bool hc2)) (by decide) ?_
      refine da_off rfl (Eq.trans (show sl _ _ _ = .bool (icmp .geq p0 p1) from rfl) (congrArg Value.bool hc2)) (by decide) ?_
      refine da_off rfl (Eq.trans (show sl _ _ _ = .bool (icmp .geq p0 p1) from rfl) (congrArg Value.bool hc2)) (by decide) ?_
      refine da_op rfl (d_pick (b := false) (Eq.trans (show ev _ _ = .bool (icmp .geq p0 p1) from rfl) (congrArg Value.bool hc2)) ?_)
      refine da_op rfl (d_as (v := .bool false) rfl ?_)
      refine da_nil ?_
      subst hr
      exact ⟨rfl, (Ext.refl w)⟩
  · skip
    rintro σ1 w1 o1 ⟨s6_1, E1⟩
    have X3 : Ext w w1 := (Ext.refl w).trans E1
    refine W_ret ?_
    subst hr
    refine ⟨_, res1 (rv_tmp s6_1), ?_⟩
    exact ⟨rfl, X3⟩
set_option maxHeartbeats 4000000 in
theorem c55 (p0 : Int) (r : Nat × Bool) (w : World) (hr : M.impl_FromBits p0 = r)  :
    Calls Tryd.prog 55 #[.int .i64 p0] w fun e w' => ∃ q0r : Nat, e = .returned (.tuple #[.float .f32 q0r, .bool r.2]) ∧ cn .f32 q0r = r.1 ∧ Ext w w' := by
  refine calls_of_W Tryd.func55 rfl (Nat.le_of_ble_eq_true rfl) ?_
  refine W_seq ?_
  refine W_region rfl ?_
  refine da_op rfl (d_as (v := .float .f32 0) rfl ?_)
  refine da_op rfl (d_as (v := .bool false) rfl ?_)
  refine da_nil ?_
  refine W_seq ?_
  refine W_seq ?_
  refine W_region rfl ?_
  refine da_op rfl (d_mv (v := .int .i64 p0) rfl ?_)
  obtain ⟨m1, hm1, hr⟩ := letv_out hr
  refine da_op rfl (d_cl (vs := [.int .i64 p0, .int .i64 0, .int .i64 4294967295]) en62 (ac rfl (ac rfl (ac rfl rfl))) rfl ?_)
  refine (c62 p0 0 4294967295 m1 w hm1 ).mono ?_
  rintro _ w2 ⟨rfl, E2⟩
  refine ⟨_, rfl, ?_⟩
  have X3 : Ext w w2 := (Ext.refl w).trans E2
  refine da_op rfl (d_not rfl ?_)
  refine da_nil ?_
  refine W_cond (b := (!m1)) rfl (fun hc4 => ?_) (fun hc4 => ?_)
  · skip
    replace hr := bif_t hr hc4
    refine W_seq ?_
    refine W_region rfl ?_
    refine da_op rfl (d_as (v := .float .f32 0) rfl ?_)
    refine da_op rfl (d_as (v := .bool false) rfl ?_)
    refine da_nil ?_
    refine W_ret ?_
    subst hr
    refine ⟨_, res2 (rv_tmp rfl) (rv_tmp rfl), ?_⟩
    exact ⟨0, rfl, cn_f32_0, X3⟩
  · skip
    replace hr := bif_f hr hc4
    refine W_skip ?_
    refine W_seq ?_
    refine W_region rfl ?_
    refine da_op rfl (d_mv (v := .int .i64 p0) rfl ?_)
    refine da_op rfl (d_iconv un2 un70 rfl ?_)
    refine da_op rfl (d_f32from ext56_0 ext56_1 ext56_2 (Option.isNone_iff_eq_none.1 ext56_3) ext56_4 rfl rfl ?_)
    refine da_op rfl (d_as (v := .float .f32 ((IntKind.u32.wrap p0)).toNat) rfl ?_)
    refine da_op rfl (d_as (v := .bool true) rfl ?_)
    refine da_nil ?_
    refine W_ret ?_
    subst hr
    refine ⟨_, res2 (rv_tmp rfl) (rv_tmp rfl), ?_⟩
    exact ⟨((IntKind.u32.wrap p0)).toNat, rfl, rfl, X3⟩
set_option maxHeartbeats 4000000 in
theorem c43 (p0 : List UInt8) (r : Nat × Bool) (w : World) (hr : M.impl_readNumber p0 = some r)  :
    Calls Tryd.prog 43 #[.string (bs p0)] w fun e w' => ∃ q0r : Nat, e = .returned (.tuple #[.float .f32 q0r, .bool r.2]) ∧ cn .f32 q0r = r.1 ∧ Ext w w' := by
  refine calls_of_W Tryd.func43 rfl (Nat.le_of_ble_eq_true rfl) ?_
  refine W_seq ?_
  refine W_region rfl ?_
  refine da_op rfl (d_as (v := .float .f32 0) rfl ?_)
  refine da_op rfl (d_as (v := .bool false) rfl ?_)
  refine da_nil ?_
  refine W_seq ?_
  refine W_region rfl ?_
  refine da_op rfl (d_as (v := .int .i64 0) rfl ?_)
  refine da_nil ?_
  refine W_seq ?_
  refine W_seq ?_
  refine W_region rfl ?_
  refine da_op rfl (d_mv (v := .string (bs p0)) rfl ?_)
  refine da_op rfl (d_slen un9 rfl ?_)
  refine da_op rfl (d_mv (v := .int .i64 0) rfl ?_)
  refine da_nil ?_
  refine W_block ?_
  obtain ⟨m1, hm1, hr⟩ := bind_out hr
  refine W_loopM hm1 (fun (s1 : Int × Int) σ w' => σ 4 = .int .i64 s1.1 ∧ σ 11 = .int .i64 s1.2 ∧ σ 0 = .string (bs p0) ∧ σ 10 = .int .i64 ((p0).length : Int) ∧ Ext w w') (fun (e1 : (Int ⊕ (Nat × Bool))) ex σ w' => sel e1 (fun e1 => ex = .exit 0 ∧ σ 4 = .int .i64 e1 ∧ σ 0 = .string (bs p0) ∧ Ext w w') (fun e1 => ex = .ret ∧ ∃ q1_1_0r : Nat, σ 2 = .float .f32 q1_1_0r ∧ σ 3 = .bool e1.2 ∧ cn .f32 q1_1_0r = e1.1 ∧ Ext w w')) ⟨rfl, rfl, rfl, rfl, (Ext.refl w)⟩ ?_ ?_
  · skip
    rintro s1 σl1 wl1 r1l ⟨i1_S4, i1_S11, i1_S0, i1_S10, i1_X⟩ hr
    refine W_seq ?_
    refine W_region rfl ?_
    refine da_op rfl (d_icmp cLss i1_S11 i1_S10 ?_)
    refine da_nil ?_
    refine W_seq ?_
    refine W_cond (b := (icmp .lss s1.2 ((p0).length : Int))) rfl (fun hc2 => ?_) (fun hc2 => ?_)
    · skip
      replace hr := bif_t hr hc2
      refine W_skip ?_
      refine W_seq ?_
      refine W_block ?_
      refine W_seq ?_
      refine W_region rfl ?_
      refine da_op rfl (d_mv (v := .int .i64 s1.2) i1_S11 ?_)
      refine da_op rfl (d_as (v := .int .i64 s1.2) rfl ?_)
      refine da_nil ?_
      refine W_seq ?_
      refine W_region rfl ?_
      refine da_op rfl (d_mv (v := .string (bs p0)) i1_S0 ?_)
      refine da_op rfl (d_mv (v := .int .i64 s1.2) rfl ?_)
      obtain ⟨m3, hm3, hr⟩ := bind_out hr
      refine da_op rfl (d_sidx un9 rfl rfl hm3 ?_)
      obtain ⟨m4, hm4, hr⟩ := letv_out hr
      refine da_op rfl (d_cl (vs := [.string (bs ([48, 49, 50, 51, 52, 53, 54, 55, 56, 57, 97, 98, 99, 100, 101, 102] : List UInt8)), .int .u8 m3]) en54 (ac rfl (ac rfl rfl)) rfl ?_)
      refine (c54_s30313233343536373839616263646566 m3 m4 wl1 hm4 ).mono ?_
      rintro _ w5 ⟨rfl, E5⟩
      refine ⟨_, rfl, ?_⟩
      have X6 : Ext w w5 := i1_X.trans E5
      refine da_op rfl (d_as (v := .int .i64 m4) rfl ?_)
      refine da_nil ?_
      refine W_seq ?_
      refine W_seq ?_
      obtain ⟨m7, hm7, hr⟩ := letv_out hr
      refine W_cut (fun σ' w' => σ' 23 = .bool m7 ∧ Ext w5 w') rfl ?_ ?_
      · skip
        have hr := hm7
        refine da_op rfl (d_mv (v := .int .i64 m4) rfl ?_)
        refine da_op rfl (d_icmp cLss rfl rfl ?_)
        refine da_op rfl (d_mv (v := .bool (icmp .lss m4 0)) rfl ?_)
        rcases Bool.eq_false_or_eq_true (icmp .lss m4 0) with hc8 | hc8
        · skip
          replace hr := bif_t hr hc8
          refine da_off rfl (Eq.trans (show sl _ _ _ = .bool (icmp .lss m4 0) from rfl) (congrArg Value.bool hc8)) (by decide) ?_
          refine da_off rfl (Eq.trans (show sl _ _ _ = .bool (icmp .lss m4 0) from rfl) (congrArg Value.bool hc8)) (by decide) ?_
          refine da_op rfl (d_pick (b := true) (Eq.trans (show ev _ _ = .bool (icmp .lss m4 0) from rfl) (congrArg Value.bool hc8)) ?_)
          refine da_nil ?_
          subst hr
          exact ⟨rfl, (Ext.refl w5)⟩
        · skip
          replace hr := bif_f hr hc8
          refine da_on rfl (Eq.trans (show sl _ _ _ = .bool (icmp .lss m4 0) from rfl) (congrArg Value.bool hc8)) (d_mv (v := .int .i64 s1.2) rfl ?_)
          refine da_on rfl (Eq.trans (show sl _ _ _ = .bool (icmp .lss m4 0) from rfl) (congrArg Value.bool hc8)) (d_icmp cEql rfl rfl ?_)
          refine da_op rfl (d_pick (b := false) (Eq.trans (show ev _ _ = .bool (icmp .lss m4 0) from rfl) (congrArg Value.bool hc8)) ?_)
          refine da_nil ?_
          subst hr
          exact ⟨rfl, (Ext.refl w5)⟩
      · skip
        rintro σ7 w7 o7 ⟨s23_7, E7⟩
        have s4_7 : σ7 4 = .int .i64 s1.1 := (o7 4 rfl).trans i1_S4
        have s11_7 : σ7 11 = .int .i64 s1.2 := (o7 11 rfl).trans i1_S11
        have s0_7 : σ7 0 = .string (bs p0) := (o7 0 rfl).trans i1_S0
        have s10_7 : σ7 10 = .int .i64 ((p0).length : Int) := (o7 10 rfl).trans i1_S10
        have s6_7 : σ7 6 = .int .i64 m4 := (o7 6 rfl).trans rfl
        have X9 : Ext w w7 := X6.trans E7
        refine W_cond (b := m7) s23_7 (fun hc10 => ?_) (fun hc10 => ?_)
        · skip
          replace hr := bif_t hr hc10
          refine W_seq ?_
          refine W_region rfl ?_
          refine da_op rfl (d_as (v := .float .f32 0) rfl ?_)
          refine da_op rfl (d_as (v := .bool false) rfl ?_)
          refine da_nil ?_
          refine W_ret ?_
          obtain rfl := Option.some.inj hr
          exact ⟨_, rfl, rfl, 0, rfl, rfl, cn_f32_0, X9⟩
        · skip
          replace hr := bif_f hr hc10
          refine W_skip ?_
          refine W_region rfl ?_
          refine da_op rfl (d_mv (v := .int .i64 s1.1) s4_7 ?_)
          refine da_op rfl (d_iarith rfl rfl (.inr (.inr ⟨rfl, rfl⟩)) ?_)
          refine da_op rfl (d_mv (v := .int .i64 m4) s6_7 ?_)
          refine da_op rfl (d_iarith rfl rfl (.inl ⟨rfl, rfl⟩) ?_)
          refine da_op rfl (d_as (v := .int .i64 (IntKind.i64.wrap ((IntKind.i64.wrap (s1.1 * 16)) + m4))) rfl ?_)
          refine da_nil ?_
          refine W_region rfl ?_
          refine da_op rfl (d_iarith s11_7 rfl (.inl ⟨rfl, rfl⟩) ?_)
          refine da_op rfl (d_mv (v := .int .i64 (IntKind.i64.wrap (s1.2 + 1))) rfl ?_)
          refine da_nil ?_
          obtain rfl := Option.some.inj hr
          exact ⟨_, rfl, ⟨rfl, rfl, s0_7, s10_7, X9⟩⟩
    · skip
      replace hr := bif_f hr hc2
      refine W_exit ?_
      obtain rfl := Option.some.inj hr
      exact ⟨_, rfl, rfl, i1_S4, i1_S0, i1_X⟩
  · skip
    intro ex σx1 wx1 hq
    rcases m1 with m1 | m1
    · skip
      obtain ⟨rfl, q1_0_S4, q1_0_S0, q1_0_X⟩ := hq
      refine W_seq ?_
      refine W_region rfl ?_
      refine da_op rfl (d_mv (v := .int .i64 m1) q1_0_S4 ?_)
      obtain ⟨m11, hm11, hr⟩ := letv_out hr
      refine da_op rfl (d_cl (vs := [.int .i64 m1]) en55 (ac rfl rfl) rfl ?_)
      refine (c55 m1 m11 wx1 hm11 ).mono ?_
      rintro _ w12 ⟨q12_0r, rfl, q12_0h, E12⟩
      refine ⟨_, rfl, ?_⟩
      have X13 : Ext w w12 := q1_0_X.trans E12
      refine da_op rfl (d_mv (v := .tuple #[.float .f32 q12_0r, .bool m11.2]) rfl ?_)
      refine da_op rfl (d_extract (v := .float .f32 q12_0r) rfl rfl ?_)
      refine da_op rfl (d_extract (v := .bool m11.2) rfl rfl ?_)
      refine da_op rfl (d_as (v := .float .f32 q12_0r) rfl ?_)
      refine da_op rfl (d_as (v := .bool m11.2) rfl ?_)
      refine da_nil ?_
      refine W_seq ?_
      obtain ⟨m14, hm14, hr⟩ := letv_out hr
      refine W_cut (fun σ' w' => σ' 2 = .float .f32 q12_0r ∧ σ' 3 = .bool m14 ∧ Ext w12 w') rfl ?_ ?_
      · skip
        have hr := hm14
        refine da_op rfl (d_mv (v := .float .f32 q12_0r) rfl ?_)
        refine da_op rfl (d_mv (v := .string (bs p0)) q1_0_S0 ?_)
        refine da_op rfl (d_slen un9 rfl ?_)
        refine da_op rfl (d_icmp cEql rfl rfl ?_)
        refine da_op rfl (d_mv (v := .bool (icmp .eql ((p0).length : Int) 8)) rfl ?_)
        rcases Bool.eq_false_or_eq_true (icmp .eql ((p0).length : Int) 8) with hc15 | hc15
        · skip
          replace hr := bif_t hr hc15
          refine da_on rfl (Eq.trans (show sl _ _ _ = .bool (icmp .eql ((p0).length : Int) 8) from rfl) (congrArg Value.bool hc15)) (d_mv (v := .float .f32 q12_0r) rfl ?_)
          obtain ⟨m16, hm16, hr⟩ := letv_out hr
          refine da_on rfl (Eq.trans (show sl _ _ _ = .bool (icmp .eql ((p0).length : Int) 8) from rfl) (congrArg Value.bool hc15)) (d_cl (vs := [.float .f32 q12_0r]) en40 (ac rfl rfl) rfl ?_)
          refine (c40 m11.1 q12_0r m16 w12 hm16 q12_0h).mono ?_
          rintro _ w17 ⟨rfl, E17⟩
          refine ⟨_, rfl, ?_⟩
          have X18 : Ext w w17 := X13.trans E17
          refine da_on rfl (Eq.trans (show sl _ _ _ = .bool (icmp .eql ((p0).length : Int) 8) from rfl) (congrArg Value.bool hc15)) (d_mv (v := .int .i64 m1) q1_0_S4 ?_)
          refine da_on rfl (Eq.trans (show sl _ _ _ = .bool (icmp .eql ((p0).length : Int) 8) from rfl) (congrArg Value.bool hc15)) (d_icmp cEql rfl rfl ?_)
          refine da_op rfl (d_pick (b := true) (Eq.trans (show ev _ _ = .bool (icmp .eql ((p0).length : Int) 8) from rfl) (congrArg Value.bool hc15)) ?_)
          refine da_op rfl (d_as (v := .float .f32 q12_0r) rfl ?_)
          refine da_op rfl (d_as (v := .bool (icmp .eql m16 m1)) rfl ?_)
          refine da_nil ?_
          subst hr
          exact ⟨rfl, rfl, (Ext.trans (Ext.refl w12) E17)⟩
        · skip
          replace hr := bif_f hr hc15
          refine da_off rfl (Eq.trans (show sl _ _ _ = .bool (icmp .eql ((p0).length : Int) 8) from rfl) (congrArg Value.bool hc15)) (by decide) ?_
          refine da_off rfl (Eq.trans (show sl _ _ _ = .bool (icmp .eql ((p0).length : Int) 8) from rfl) (congrArg Value.bool hc15)) (by decide) ?_
          refine da_off rfl (Eq.trans (show sl _ _ _ = .bool (icmp .eql ((p0).length : Int) 8) from rfl) (congrArg Value.bool hc15)) (by decide) ?_
          refine da_off rfl (Eq.trans (show sl _ _ _ = .bool (icmp .eql ((p0).length : Int) 8) from rfl) (congrArg Value.bool hc15)) (by decide) ?_
          refine da_op rfl (d_pick (b := false) (Eq.trans (show ev _ _ = .bool (icmp .eql ((p0).length : Int) 8) from rfl) (congrArg Value.bool hc15)) ?_)
          refine da_op rfl (d_as (v := .float .f32 q12_0r) rfl ?_)
          refine da_op rfl (d_as (v := .bool false) rfl ?_)
          refine da_nil ?_
          subst hr
          exact ⟨rfl, rfl, (Ext.refl w12)⟩
      · skip
        rintro σ14 w14 o14 ⟨s2_14, s3_14, E14⟩
        have X19 : Ext w w14 := X13.trans E14
        refine W_ret ?_
        obtain rfl := Option.some.inj hr
        refine ⟨_, res2 (rv_tmp s2_14) (rv_tmp s3_14), ?_⟩
        exact ⟨q12_0r, rfl, q12_0h, X19⟩
    · skip
      obtain ⟨rfl, q1_1_0r, q1_1_S2, q1_1_S3, q1_1_0h, q1_1_X⟩ := hq
      obtain rfl := Option.some.inj hr
      refine ⟨_, res2 (rv_tmp q1_1_S2) (rv_tmp q1_1_S3), ?_⟩
      exact ⟨q1_1_0r, rfl, q1_1_0h, q1_1_X⟩
set_option maxHeartbeats 4000000 in
theorem c30 (p0 : List UInt8) (r : List Nat × Bool) (w : World) (hr : M.impl_ReadNumbers p0 = some r)  :
    Calls Tryd.prog 30 #[.string (bs p0)] w fun e w' => ∃ q0a : Option Addr, ∃ q0n : Nat, ∃ q0c : Nat, e = .returned (.tuple #[(Value.slice q0a q0n q0c), .bool r.2]) ∧ OS w' 24 encF_f32 (Value.slice q0a q0n q0c) r.1 ∧ (∀ k, (Value.slice q0a q0n q0c).ownBlock = some k → w.heap.size ≤ k) ∧ Ext w w' := by
  refine calls_of_W Tryd.func30 rfl (Nat.le_of_ble_eq_true rfl) ?_
  refine W_seq ?_
  refine W_region rfl ?_
  refine da_op rfl (d_as (v := .slice none 0 0) rfl ?_)
  refine da_op rfl (d_as (v := .bool false) rfl ?_)
  refine da_nil ?_
  refine W_seq ?_
  refine W_region rfl ?_
  refine da_op rfl (d_bslice0 un47 size24 fun w1 B1 E1 => ?_)
  have fr1 : ∀ k, (Value.slice (some ⟨w.heap.size, 0, none⟩) 0 0).ownBlock = some k → w.heap.size ≤ k := fun k hk => by cases hk; exact Nat.le_refl _
  have own1 : ∀ k, (Value.slice (some ⟨w.heap.size, 0, none⟩) 0 0).ownBlock = some k → w.heap.size ≤ k := fun k hk => Nat.le_trans (Ext.refl w).size (fr1 k hk)
  have X2 : Ext w w1 := (Ext.refl w).trans E1
  have O1 : OS w1 24 encF_f32 (Value.slice (some ⟨w.heap.size, 0, none⟩) 0 0) ([] : List Nat) := OS.box (xs := ([] : List Nat)) B1 rfl (Nat.le_of_ble_eq_true rfl)
  refine da_op rfl (d_as (v := (Value.slice (some ⟨w.heap.size, 0, none⟩) 0 0)) rfl ?_)
  refine da_nil ?_
  refine W_seq ?_
  refine W_seq ?_
  refine W_region rfl ?_
  refine da_op rfl (d_mv (v := .string (bs p0)) rfl ?_)
  obtain ⟨m3, hm3, hr⟩ := bind_out hr
  refine da_op rfl (d_cl (vs := [.string (bs p0)]) en42 (ac rfl rfl) rfl ?_)
  refine (c42 p0 m3 w1 hm3 ).mono ?_
  rintro _ w4 ⟨q4_0a, q4_0n, q4_0c, rfl, q4_0R, q4_0F, E4⟩
  refine ⟨_, rfl, ?_⟩
  have own5 : ∀ k, (Value.slice q4_0a q4_0n q4_0c).ownBlock = some k → w.heap.size ≤ k := fun k hk => Nat.le_trans X2.size (q4_0F k hk)
  have sp6 : ∀ k, (Value.slice (some ⟨w.heap.size, 0, none⟩) 0 0).ownBlock = some k → ¬ (Value.slice q4_0a q4_0n q4_0c).ownBlock = some k := apart_fresh O1 q4_0F
  have X7 : Ext w w4 := X2.trans E4
  refine da_op rfl (d_len (e := encS) un63 rfl q4_0R ?_)
  refine da_op rfl (d_mv (v := .int .i64 0) rfl ?_)
  refine da_nil ?_
  refine W_block ?_
  have B9 : OS w4 24 encF_f32 (Value.slice (some ⟨w.heap.size, 0, none⟩) 0 0) ([] : List Nat) := O1.ext E4
  obtain ⟨m8, hm8, hr⟩ := bind_out hr
  refine W_loopM hm8 (fun (s8 : List Nat × Int) σ w' => ∃ i8_0a : Option Addr, ∃ i8_0n : Nat, ∃ i8_0c : Nat, σ 4 = (Value.slice i8_0a i8_0n i8_0c) ∧ σ 13 = .int .i64 s8.2 ∧ σ 11 = (Value.slice q4_0a q4_0n q4_0c) ∧ σ 12 = .int .i64 ((m3).length : Int) ∧ OS w' 24 encF_f32 (Value.slice i8_0a i8_0n i8_0c) s8.1 ∧ (∀ k, (Value.slice i8_0a i8_0n i8_0c).ownBlock = some k → w.heap.size ≤ k) ∧ RS w' encS (Value.slice q4_0a q4_0n q4_0c) m3 ∧ (∀ k, (Value.slice q4_0a q4_0n q4_0c).ownBlock = some k → ¬ (Value.slice i8_0a i8_0n i8_0c).ownBlock = some k) ∧ Ext w w') (fun (e8 : ((List Nat) ⊕ (List Nat × Bool))) ex σ w' => sel e8 (fun e8 => ex = .exit 0 ∧ ∃ q8_0_0a : Option Addr, ∃ q8_0_0n : Nat, ∃ q8_0_0c : Nat, σ 4 = (Value.slice q8_0_0a q8_0_0n q8_0_0c) ∧ OS w' 24 encF_f32 (Value.slice q8_0_0a q8_0_0n q8_0_0c) e8 ∧ (∀ k, (Value.slice q8_0_0a q8_0_0n q8_0_0c).ownBlock = some k → w.heap.size ≤ k) ∧ Ext w w') (fun e8 => ex = .ret ∧ ∃ q8_1_0a : Option Addr, ∃ q8_1_0n : Nat, ∃ q8_1_0c : Nat, σ 2 = (Value.slice q8_1_0a q8_1_0n q8_1_0c) ∧ σ 3 = .bool e8.2 ∧ OS w' 24 encF_f32 (Value.slice q8_1_0a q8_1_0n q8_1_0c) e8.1 ∧ (∀ k, (Value.slice q8_1_0a q8_1_0n q8_1_0c).ownBlock = some k → w.heap.size ≤ k) ∧ Ext w w')) ⟨(some ⟨w.heap.size, 0, none⟩), 0, 0, rfl, rfl, rfl, rfl, B9, own1, q4_0R, (apart_symm sp6), X7⟩ ?_ ?_
  · skip
    rintro s8 σl8 wl8 r8l ⟨i8_0a, i8_0n, i8_0c, i8_S4, i8_S13, i8_S11, i8_S12, i8_0R, i8_0O, i8_K0, i8_A0, i8_X⟩ hr
    refine W_seq ?_
    refine W_region rfl ?_
    refine da_op rfl (d_icmp cLss i8_S13 i8_S12 ?_)
    refine da_nil ?_
    refine W_seq ?_
    refine W_cond (b := (icmp .lss s8.2 ((m3).length : Int))) rfl (fun hc10 => ?_) (fun hc10 => ?_)
    · skip
      replace hr := bif_t hr hc10
      refine W_skip ?_
      refine W_seq ?_
      refine W_block ?_
      refine W_seq ?_
      refine W_region rfl ?_
      obtain ⟨m11, hm11, hr⟩ := bind_out hr
      refine da_op rfl (d_index (e := encS) (v := (Value.slice q4_0a q4_0n q4_0c)) un63 size9 i8_S11 i8_S13 i8_K0 hm11 fun g12 o12 cu12 T12 fr12 vs12 hv12 hg12 hp12 hq12 => ?_)
      obtain rfl := dec_encS hq12
      refine da_op rfl (d_load (v := .string (bs m11)) rfl agg9 hg12 (sub_get (vs := #[.string (bs m11)]) hp12 (i := 0) rfl) ?_)
      refine da_op rfl (d_as (v := .string (bs m11)) rfl ?_)
      refine da_nil ?_
      refine W_seq ?_
      refine W_region rfl ?_
      refine da_op rfl (d_mv (v := .string (bs m11)) rfl ?_)
      obtain ⟨m13, hm13, hr⟩ := bind_out hr
      refine da_op rfl (d_cl (vs := [.string (bs m11)]) en43 (ac rfl rfl) rfl ?_)
      refine (c43 m11 m13 wl8 hm13 ).mono ?_
      rintro _ w14 ⟨q14_0r, rfl, q14_0h, E14⟩
      refine ⟨_, rfl, ?_⟩
      have X15 : Ext w w14 := i8_X.trans E14
      refine da_op rfl (d_mv (v := .tuple #[.float .f32 q14_0r, .bool m13.2]) rfl ?_)
      refine da_op rfl (d_extract (v := .float .f32 q14_0r) rfl rfl ?_)
      refine da_op rfl (d_extract (v := .bool m13.2) rfl rfl ?_)
      refine da_op rfl (d_as (v := .float .f32 q14_0r) rfl ?_)
      refine da_op rfl (d_as (v := .bool m13.2) rfl ?_)
      refine da_nil ?_
      refine W_seq ?_
      refine W_seq ?_
      have B17 : RS w14 encS (Value.slice q4_0a q4_0n q4_0c) m3 := i8_K0.ext E14
      have B18 : OS w14 24 encF_f32 (Value.slice i8_0a i8_0n i8_0c) s8.1 := i8_0R.ext E14
      obtain ⟨m16, hm16, hr⟩ := letv_out hr
      refine W_cut (fun σ' w' => σ' 28 = .bool m16 ∧ Ext w14 w') rfl ?_ ?_
      · skip
        have hr := hm16
        refine da_op rfl (d_mv (v := .bool m13.2) rfl ?_)
        refine da_op rfl (d_not rfl ?_)
        refine da_op rfl (d_mv (v := .bool (!m13.2)) rfl ?_)
        rcases Bool.eq_false_or_eq_true m13.2 with hc19 | hc19
        · skip
          replace hr := bif_t hr hc19
          refine da_on rfl (Eq.trans (show sl _ _ _ = .bool (!m13.2) from rfl) (congrArg Value.bool (congrArg not hc19))) (d_mv (v := (Value.slice i8_0a i8_0n i8_0c)) i8_S4 ?_)
          refine da_on rfl (Eq.trans (show sl _ _ _ = .bool (!m13.2) from rfl) (congrArg Value.bool (congrArg not hc19))) (d_len (e := encF_f32) un47 rfl B18.rs ?_)
          refine da_on rfl (Eq.trans (show sl _ _ _ = .bool (!m13.2) from rfl) (congrArg Value.bool (congrArg not hc19))) (d_icmp cEql rfl rfl ?_)
          refine da_op rfl (d_pick (b := false) (Eq.trans (show ev _ _ = .bool (!m13.2) from rfl) (congrArg Value.bool (congrArg not hc19))) ?_)
          refine da_nil ?_
          subst hr
          exact ⟨rfl, (Ext.refl w14)⟩
        · skip
          replace hr := bif_f hr hc19
          refine da_off rfl (Eq.trans (show sl _ _ _ = .bool (!m13.2) from rfl) (congrArg Value.bool (congrArg not hc19))) (by decide) ?_
          refine da_off rfl (Eq.trans (show sl _ _ _ = .bool (!m13.2) from rfl) (congrArg Value.bool (congrArg not hc19))) (by decide) ?_
          refine da_off rfl (Eq.trans (show sl _ _ _ = .bool (!m13.2) from rfl) (congrArg Value.bool (congrArg not hc19))) (by decide) ?_
          refine da_op rfl (d_pick (b := true) (Eq.trans (show ev _ _ = .bool (!m13.2) from rfl) (congrArg Value.bool (congrArg not hc19))) ?_)
          refine da_nil ?_
          subst hr
          exact ⟨rfl, (Ext.refl w14)⟩
      · skip
        rintro σ16 w16 o16 ⟨s28_16, E16⟩
        have s4_16 : σ16 4 = (Value.slice i8_0a i8_0n i8_0c) := (o16 4 rfl).trans i8_S4
        have s13_16 : σ16 13 = .int .i64 s8.2 := (o16 13 rfl).trans i8_S13
        have s11_16 : σ16 11 = (Value.slice q4_0a q4_0n q4_0c) := (o16 11 rfl).trans i8_S11
        have s12_16 : σ16 12 = .int .i64 ((m3).length : Int) := (o16 12 rfl).trans i8_S12
        have s7_16 : σ16 7 = .float .f32 q14_0r := (o16 7 rfl).trans rfl
        have X20 : Ext w w16 := X15.trans E16
        refine W_cond (b := m16) s28_16 (fun hc21 => ?_) (fun hc21 => ?_)
        · skip
          replace hr := bif_t hr hc21
          refine W_seq ?_
          refine W_region rfl ?_
          refine da_op rfl (d_as (v := .slice none 0 0) rfl ?_)
          refine da_op rfl (d_as (v := .bool false) rfl ?_)
          refine da_nil ?_
          refine W_ret ?_
          obtain rfl := Option.some.inj hr
          exact ⟨_, rfl, rfl, none, 0, 0, rfl, rfl, (OS.nil _ 24 encF_f32), (fun k hk => by cases hk), X20⟩
        · skip
          replace hr := bif_f hr hc21
          refine W_skip ?_
          refine W_region rfl ?_
          refine da_op rfl (d_mv (v := (Value.slice i8_0a i8_0n i8_0c)) s4_16 ?_)
          refine da_op rfl (d_mv (v := .float .f32 q14_0r) s7_16 ?_)
          have B23 : RS w16 encS (Value.slice q4_0a q4_0n q4_0c) m3 := B17.ext E16
          have B24 : OS w16 24 encF_f32 (Value.slice i8_0a i8_0n i8_0c) s8.1 := B18.ext E16
          refine da_op rfl (d_bslice (vs := [(0, .float .f32 q14_0r)]) (cs := #[.float .f32 q14_0r]) un47 (pc rfl rfl) (by kernel_rfl) fun w22 B22 E22 => ?_)
          have fr22 : ∀ k, (Value.slice (some ⟨w16.heap.size, 0, none⟩) 1 1).ownBlock = some k → w16.heap.size ≤ k := fun k hk => by cases hk; exact Nat.le_refl _
          have own22 : ∀ k, (Value.slice (some ⟨w16.heap.size, 0, none⟩) 1 1).ownBlock = some k → w.heap.size ≤ k := fun k hk => Nat.le_trans X20.size (fr22 k hk)
          have sp25 : ∀ k, (Value.slice q4_0a q4_0n q4_0c).ownBlock = some k → ¬ (Value.slice (some ⟨w16.heap.size, 0, none⟩) 1 1).ownBlock = some k := apart_freshR B23 fr22
          have sp26 : ∀ k, (Value.slice i8_0a i8_0n i8_0c).ownBlock = some k → ¬ (Value.slice (some ⟨w16.heap.size, 0, none⟩) 1 1).ownBlock = some k := apart_fresh B24 fr22
          have X27 : Ext w w22 := X20.trans E22
          have O22 : OS w22 24 encF_f32 (Value.slice (some ⟨w16.heap.size, 0, none⟩) 1 1) [m13.1] := OS.box (xs := [m13.1]) B22 (lc_f q14_0h rfl) (Nat.le_of_ble_eq_true rfl)
          obtain ⟨m28, hm28, hr⟩ := bind_out hr
          have B29 : OS w22 24 encF_f32 (Value.slice i8_0a i8_0n i8_0c) s8.1 := B24.ext E22
          have B30 : RS w22 encS (Value.slice q4_0a q4_0n q4_0c) m3 := B23.ext E22
          refine da_op rfl (d_append (e := encF_f32) (v := (Value.slice i8_0a i8_0n i8_0c)) (y := (Value.slice (some ⟨w16.heap.size, 0, none⟩) 1 1)) un47 info24 rfl (by kernel_rfl) (by kernel_rfl) (by decide) (by decide) rfl rfl B29 O22.rs hm28 fun v31 w31 O31 Fm31 at_31 nl31 => ?_)
          obtain ⟨v31pa, v31pn, v31pc, rfl⟩ := O31.vals
          have own31 : ∀ k, (Value.slice v31pa v31pn v31pc).ownBlock = some k → w.heap.size ≤ k := app_own (w := w22) at_31 i8_0O X27.size
          have sp32 : ∀ k, (Value.slice q4_0a q4_0n q4_0c).ownBlock = some k → ¬ (Value.slice v31pa v31pn v31pc).ownBlock = some k := app_nrR at_31 i8_A0 B30
          have sp33 : ∀ k, (Value.slice (some ⟨w16.heap.size, 0, none⟩) 1 1).ownBlock = some k → ¬ (Value.slice v31pa v31pn v31pc).ownBlock = some k := app_nr at_31 (apart_symm sp26) O22
          have X34 : Ext w w31 := Ext.step X27 Fm31 (fun k _ hk => i8_0O k hk)
          refine da_op rfl (d_as (v := (Value.slice v31pa v31pn v31pc)) rfl ?_)
          refine da_nil ?_
          refine W_region rfl ?_
          refine da_op rfl (d_iarith s13_16 rfl (.inl ⟨rfl, rfl⟩) ?_)
          refine da_op rfl (d_mv (v := .int .i64 (IntKind.i64.wrap (s8.2 + 1))) rfl ?_)
          refine da_nil ?_
          have B35 : RS w31 encS (Value.slice q4_0a q4_0n q4_0c) m3 := B30.frm Fm31 (fun k _ => i8_A0 k)
          obtain rfl := Option.some.inj hr
          exact ⟨_, rfl, ⟨v31pa, v31pn, v31pc, rfl, rfl, s11_16, s12_16, O31, own31, B35, sp32, X34⟩⟩
    · skip
      replace hr := bif_f hr hc10
      refine W_exit ?_
      obtain rfl := Option.some.inj hr
      exact ⟨_, rfl, rfl, i8_0a, i8_0n, i8_0c, i8_S4, i8_0R, i8_0O, i8_X⟩
  · skip
    intro ex σx8 wx8 hq
    rcases m8 with m8 | m8
    · skip
      obtain ⟨rfl, q8_0_0a, q8_0_0n, q8_0_0c, q8_0_S4, q8_0_0R, q8_0_0O, q8_0_X⟩ := hq
      refine W_seq ?_
      refine W_region rfl ?_
      refine da_op rfl (d_mv (v := (Value.slice q8_0_0a q8_0_0n q8_0_0c)) q8_0_S4 ?_)
      refine da_op rfl (d_as (v := (Value.slice q8_0_0a q8_0_0n q8_0_0c)) rfl ?_)
      refine da_op rfl (d_as (v := .bool true) rfl ?_)
      refine da_nil ?_
      refine W_ret ?_
      obtain rfl := Option.some.inj hr
      refine ⟨_, res2 (rv_tmp rfl) (rv_tmp rfl), ?_⟩
      exact ⟨q8_0_0a, q8_0_0n, q8_0_0c, rfl, q8_0_0R, q8_0_0O, q8_0_X⟩
    · skip
      obtain ⟨rfl, q8_1_0a, q8_1_0n, q8_1_0c, q8_1_S2, q8_1_S3, q8_1_0R, q8_1_0O, q8_1_X⟩ := hq
      obtain rfl := Option.some.inj hr
      refine ⟨_, res2 (rv_tmp q8_1_S2) (rv_tmp q8_1_S3), ?_⟩
      exact ⟨q8_1_0a, q8_1_0n, q8_1_0c, rfl, q8_1_0R, q8_1_0O, q8_1_X⟩
set_option maxHeartbeats 4000000 in
theorem c19 (p0 : List UInt8) (r : SVector × Bool) (w : World) (hr : M.impl_ReadVector p0 = some r)  :
    Calls Tryd.prog 19 #[.string (bs p0)] w fun e w' => ∃ q0r0 : Nat, ∃ q0r1 : Nat, ∃ q0r2 : Nat, e = .returned (.tuple #[.agg #[.float .f32 q0r0, .float .f32 q0r1, .float .f32 q0r2], .bool r.2]) ∧ cn .f32 q0r0 = r.1.x ∧ cn .f32 q0r1 = r.1.y ∧ cn .f32 q0r2 = r.1.z ∧ Ext w w' := by
  refine calls_of_W Tryd.func19 rfl (Nat.le_of_ble_eq_true rfl) ?_
  refine W_seq ?_
  refine W_region rfl ?_
  refine da_op rfl (d_alloc (cs := #[.float .f32 0, .float .f32 0, .float .f32 0]) zero26 rfl fun w1 B1 E1 => ?_)
  have own2 : w.heap.size ≤ w.heap.size := Nat.le_trans (Ext.refl w).size (Nat.le_refl _)
  have X3 : Ext w w1 := (Ext.refl w).trans E1
  refine da_op rfl (d_as (v := .bool false) rfl ?_)
  refine da_nil ?_
  refine W_seq ?_
  refine W_region rfl ?_
  refine da_op rfl (d_mv (v := .string (bs p0)) rfl ?_)
  obtain ⟨m4, hm4, hr⟩ := bind_out hr
  refine da_op rfl (d_cl (vs := [.string (bs p0)]) en30 (ac rfl rfl) rfl ?_)
  refine (c30 p0 m4 w1 hm4 ).mono ?_
  rintro _ w5 ⟨q5_0a, q5_0n, q5_0c, rfl, q5_0R, q5_0F, E5⟩
  refine ⟨_, rfl, ?_⟩
  have own6 : ∀ k, (Value.slice q5_0a q5_0n q5_0c).ownBlock = some k → w.heap.size ≤ k := fun k hk => Nat.le_trans X3.size (q5_0F k hk)
  have sp7 : ¬ (Value.slice q5_0a q5_0n q5_0c).ownBlock = some w.heap.size := ne_fresh q5_0F (lt_heap B1)
  have X8 : Ext w w5 := X3.trans E5
  refine da_op rfl (d_mv (v := .tuple #[(Value.slice q5_0a q5_0n q5_0c), .bool m4.2]) rfl ?_)
  refine da_op rfl (d_extract (v := (Value.slice q5_0a q5_0n q5_0c)) rfl rfl ?_)
  refine da_op rfl (d_extract (v := .bool m4.2) rfl rfl ?_)
  refine da_op rfl (d_as (v := (Value.slice q5_0a q5_0n q5_0c)) rfl ?_)
  refine da_op rfl (d_as (v := .bool m4.2) rfl ?_)
  refine da_nil ?_
  refine W_seq ?_
  refine W_seq ?_
  have B10 : w5.heap[w.heap.size]? = some (.cells #[.float .f32 0, .float .f32 0, .float .f32 0] 26 (0, 0)) := E5.heap B1
  obtain ⟨m9, hm9, hr⟩ := letv_out hr
  refine W_cut (fun σ' w' => σ' 17 = .bool m9 ∧ Ext w5 w') rfl ?_ ?_
  · skip
    have hr := hm9
    refine da_op rfl (d_mv (v := .bool m4.2) rfl ?_)
    refine da_op rfl (d_not rfl ?_)
    refine da_op rfl (d_mv (v := .bool (!m4.2)) rfl ?_)
    rcases Bool.eq_false_or_eq_true m4.2 with hc11 | hc11
    · skip
      replace hr := bif_t hr hc11
      refine da_on rfl (Eq.trans (show sl _ _ _ = .bool (!m4.2) from rfl) (congrArg Value.bool (congrArg not hc11))) (d_mv (v := (Value.slice q5_0a q5_0n q5_0c)) rfl ?_)
      refine da_on rfl (Eq.trans (show sl _ _ _ = .bool (!m4.2) from rfl) (congrArg Value.bool (congrArg not hc11))) (d_len (e := encF_f32) un47 rfl q5_0R.rs ?_)
      refine da_on rfl (Eq.trans (show sl _ _ _ = .bool (!m4.2) from rfl) (congrArg Value.bool (congrArg not hc11))) (d_icmp cNeq rfl rfl ?_)
      refine da_op rfl (d_pick (b := false) (Eq.trans (show ev _ _ = .bool (!m4.2) from rfl) (congrArg Value.bool (congrArg not hc11))) ?_)
      refine da_nil ?_
      subst hr
      exact ⟨rfl, (Ext.refl w5)⟩
    · skip
      replace hr := bif_f hr hc11
      refine da_off rfl (Eq.trans (show sl _ _ _ = .bool (!m4.2) from rfl) (congrArg Value.bool (congrArg not hc11))) (by decide) ?_
      refine da_off rfl (Eq.trans (show sl _ _ _ = .bool (!m4.2) from rfl) (congrArg Value.bool (congrArg not hc11))) (by decide) ?_
      refine da_off rfl (Eq.trans (show sl _ _ _ = .bool (!m4.2) from rfl) (congrArg Value.bool (congrArg not hc11))) (by decide) ?_
      refine da_op rfl (d_pick (b := true) (Eq.trans (show ev _ _ = .bool (!m4.2) from rfl) (congrArg Value.bool (congrArg not hc11))) ?_)
      refine da_nil ?_
      subst hr
      exact ⟨rfl, (Ext.refl w5)⟩
  · skip
    rintro σ9 w9 o9 ⟨s17_9, E9⟩
    have s2_9 : σ9 2 = .pointer (some ⟨w.heap.size, 0, none⟩) := (o9 2 rfl).trans rfl
    have s4_9 : σ9 4 = (Value.slice q5_0a q5_0n q5_0c) := (o9 4 rfl).trans rfl
    have X12 : Ext w w9 := X8.trans E9
    refine W_cond (b := m9) s17_9 (fun hc13 => ?_) (fun hc13 => ?_)
    · skip
      replace hr := bif_t hr hc13
      refine W_seq ?_
      refine W_region rfl ?_
      refine da_op rfl (d_bd (vs := []) (cs := #[.float .f32 0, .float .f32 0, .float .f32 0]) rfl (by kernel_rfl) ?_)
      have B14 : w9.heap[w.heap.size]? = some (.cells #[.float .f32 0, .float .f32 0, .float .f32 0] 26 (0, 0)) := E9.heap B10
      refine da_op rfl (d_store (vs := #[.float .f32 0, .float .f32 0, .float .f32 0]) s2_9 rfl B14 size26 (Nat.le_of_ble_eq_true rfl) rfl fun w15 S15 => ?_)
      have X16 : Ext w w15 := Ext.step X12 S15.frmb (fun k _ hk => hk ▸ own2)
      have B17 : w15.heap[w.heap.size]? = some (.cells #[.float .f32 0, .float .f32 0, .float .f32 0] 26 (0, 0)) := S15.here
      refine da_op rfl (d_as (v := .bool false) rfl ?_)
      refine da_nil ?_
      refine W_ret ?_
      obtain rfl := Option.some.inj hr
      refine ⟨_, res2 (rv_cells (vs := #[.float .f32 0, .float .f32 0, .float .f32 0]) s2_9 agg26 size26 B17 rfl) (rv_tmp rfl), ?_⟩
      exact ⟨0, 0, 0, rfl, cn_f32_0, cn_f32_0, cn_f32_0, X16⟩
    · skip
      replace hr := bif_f hr hc13
      refine W_skip ?_
      refine W_seq ?_
      have B19 : w9.heap[w.heap.size]? = some (.cells #[.float .f32 0, .float .f32 0, .float .f32 0] 26 (0, 0)) := E9.heap B10
      have B20 : OS w9 24 encF_f32 (Value.slice q5_0a q5_0n q5_0c) m4.1 := q5_0R.ext E9
      obtain ⟨m21, hm21, hr⟩ := bind_out hr
      obtain ⟨m22, hm22, hr⟩ := bind_out hr
      obtain ⟨m23, hm23, hr⟩ := bind_out hr
      refine W_anyT 10 [] [{ V := fun _ v _ => v = (Value.slice q5_0a q5_0n q5_0c) }, { V := fun _ v _ => ∃ d18_1g : Nat, ∃ d18_1o : Nat, v = (.pointer (some ⟨d18_1g, d18_1o, none⟩)) ∧ EL encF_f32 (Value.slice q5_0a q5_0n q5_0c) (m4.1).length 0 d18_1g d18_1o }, { V := fun _ v _ => ∃ d18_1r0 : Nat, v = (.float .f32 d18_1r0) ∧ cn .f32 d18_1r0 = m21 }, { V := fun _ v _ => v = (Value.slice q5_0a q5_0n q5_0c) }, { V := fun _ v _ => ∃ d18_4g : Nat, ∃ d18_4o : Nat, v = (.pointer (some ⟨d18_4g, d18_4o, none⟩)) ∧ EL encF_f32 (Value.slice q5_0a q5_0n q5_0c) (m4.1).length 1 d18_4g d18_4o }, { V := fun _ v _ => ∃ d18_4r0 : Nat, v = (.float .f32 d18_4r0) ∧ cn .f32 d18_4r0 = m22 }, { V := fun _ v _ => v = (Value.slice q5_0a q5_0n q5_0c) }, { V := fun _ v _ => ∃ d18_7g : Nat, ∃ d18_7o : Nat, v = (.pointer (some ⟨d18_7g, d18_7o, none⟩)) ∧ EL encF_f32 (Value.slice q5_0a q5_0n q5_0c) (m4.1).length 2 d18_7g d18_7o }, { V := fun _ v _ => ∃ d18_7r0 : Nat, v = (.float .f32 d18_7r0) ∧ cn .f32 d18_7r0 = m23 }, { V := fun _ v _ => ∃ d18_1r0 : Nat, ∃ d18_4r0 : Nat, ∃ d18_7r0 : Nat, v = (.agg #[.float .f32 d18_1r0, .float .f32 d18_4r0, .float .f32 d18_7r0]) ∧ cn .f32 d18_1r0 = m21 ∧ cn .f32 d18_4r0 = m22 ∧ cn .f32 d18_7r0 = m23 }] mixed (by kernel_rfl) ⟨trivial, trivial, trivial, trivial, trivial, trivial, trivial, trivial, trivial, trivial, trivial⟩ ⟨?_, ?_, ?_, ?_, ?_, ?_, ?_, ?_, ?_, ?_, trivial⟩ ?_
      · skip
        refine ⟨fun _ _ _ _ _ _ h _ => h, fun _ _ h _ => h, fun σ' w' hA hE hD hP => ?_⟩
        have t4 : σ' 4 = (Value.slice q5_0a q5_0n q5_0c) := (hA 4 rfl).trans s4_9
        have B0_24 : OS w' 24 encF_f32 (Value.slice q5_0a q5_0n q5_0c) m4.1 := B20.frm hE (fun k hk => not_oth0)
        refine dg_op rfl (d_mv (v := (Value.slice q5_0a q5_0n q5_0c)) t4 ?_)
        exact ⟨rfl, own_none (Ext.refl w')⟩
      · skip
        refine ⟨fun _ _ _ _ _ _ h _ => h, fun _ _ h _ => h, fun σ' w' hA hE hD hP => ?_⟩
        have t19 : σ' 19 = (Value.slice q5_0a q5_0n q5_0c) := hD 0 rfl
        have B0_25 : OS w' 24 encF_f32 (Value.slice q5_0a q5_0n q5_0c) m4.1 := B20.frm hE (fun k hk => not_oth0)
        refine dg_op rfl (d_indexE (e := encF_f32) (v := (Value.slice q5_0a q5_0n q5_0c)) un47 size24 t19 rfl B0_25.rs hm21 fun g26 o26 l26 => ?_)
        exact ⟨⟨g26, o26, rfl, l26⟩, own_none (Ext.refl _)⟩
      · skip
        refine ⟨fun _ _ _ _ _ _ h _ => h, fun _ _ h _ => h, fun σ' w' hA hE hD hP => ?_⟩
        obtain ⟨d18_1g, d18_1o, t20, d18_1gE⟩ : ∃ d18_1g : Nat, ∃ d18_1o : Nat, σ' 20 = (.pointer (some ⟨d18_1g, d18_1o, none⟩)) ∧ EL encF_f32 (Value.slice q5_0a q5_0n q5_0c) (m4.1).length 0 d18_1g d18_1o := hD 1 rfl
        have B0_27 : OS w' 24 encF_f32 (Value.slice q5_0a q5_0n q5_0c) m4.1 := B20.frm hE (fun k hk => not_oth0)
        obtain ⟨d18_1c, d18_1T, d18_1f, d18_1vs, d18_1hg, d18_1P, d18_1hq⟩ := RS.el B0_27.rs d18_1gE hm21
        obtain ⟨d18_1r0, rfl, d18_1h0⟩ := dec_encF_f32 d18_1hq
        refine dg_op rfl (d_load (v := .float .f32 d18_1r0) t20 agg24 d18_1hg (sub_get (vs := #[.float .f32 d18_1r0]) d18_1P (i := 0) rfl) ?_)
        exact ⟨⟨d18_1r0, rfl, d18_1h0⟩, own_none (Ext.refl w')⟩
      · skip
        refine ⟨fun _ _ _ _ _ _ h _ => h, fun _ _ h _ => h, fun σ' w' hA hE hD hP => ?_⟩
        have t4 : σ' 4 = (Value.slice q5_0a q5_0n q5_0c) := (hA 4 rfl).trans s4_9
        have B0_28 : OS w' 24 encF_f32 (Value.slice q5_0a q5_0n q5_0c) m4.1 := B20.frm hE (fun k hk => not_oth0)
        refine dg_op rfl (d_mv (v := (Value.slice q5_0a q5_0n q5_0c)) t4 ?_)
        exact ⟨rfl, own_none (Ext.refl w')⟩
      · skip
        refine ⟨fun _ _ _ _ _ _ h _ => h, fun _ _ h _ => h, fun σ' w' hA hE hD hP => ?_⟩
        have t22 : σ' 22 = (Value.slice q5_0a q5_0n q5_0c) := hD 3 rfl
        have B0_29 : OS w' 24 encF_f32 (Value.slice q5_0a q5_0n q5_0c) m4.1 := B20.frm hE (fun k hk => not_oth0)
        refine dg_op rfl (d_indexE (e := encF_f32) (v := (Value.slice q5_0a q5_0n q5_0c)) un47 size24 t22 rfl B0_29.rs hm22 fun g30 o30 l30 => ?_)
        exact ⟨⟨g30, o30, rfl, l30⟩, own_none (Ext.refl _)⟩
      · skip
        refine ⟨fun _ _ _ _ _ _ h _ => h, fun _ _ h _ => h, fun σ' w' hA hE hD hP => ?_⟩
        obtain ⟨d18_4g, d18_4o, t23, d18_4gE⟩ : ∃ d18_4g : Nat, ∃ d18_4o : Nat, σ' 23 = (.pointer (some ⟨d18_4g, d18_4o, none⟩)) ∧ EL encF_f32 (Value.slice q5_0a q5_0n q5_0c) (m4.1).length 1 d18_4g d18_4o := hD 4 rfl
        have B0_31 : OS w' 24 encF_f32 (Value.slice q5_0a q5_0n q5_0c) m4.1 := B20.frm hE (fun k hk => not_oth0)
        obtain ⟨d18_4c, d18_4T, d18_4f, d18_4vs, d18_4hg, d18_4P, d18_4hq⟩ := RS.el B0_31.rs d18_4gE hm22
        obtain ⟨d18_4r0, rfl, d18_4h0⟩ := dec_encF_f32 d18_4hq
        refine dg_op rfl (d_load (v := .float .f32 d18_4r0) t23 agg24 d18_4hg (sub_get (vs := #[.float .f32 d18_4r0]) d18_4P (i := 0) rfl) ?_)
        exact ⟨⟨d18_4r0, rfl, d18_4h0⟩, own_none (Ext.refl w')⟩
      · skip
        refine ⟨fun _ _ _ _ _ _ h _ => h, fun _ _ h _ => h, fun σ' w' hA hE hD hP => ?_⟩
        have t4 : σ' 4 = (Value.slice q5_0a q5_0n q5_0c) := (hA 4 rfl).trans s4_9
        have B0_32 : OS w' 24 encF_f32 (Value.slice q5_0a q5_0n q5_0c) m4.1 := B20.frm hE (fun k hk => not_oth0)
        refine dg_op rfl (d_mv (v := (Value.slice q5_0a q5_0n q5_0c)) t4 ?_)
        exact ⟨rfl, own_none (Ext.refl w')⟩
      · skip
        refine ⟨fun _ _ _ _ _ _ h _ => h, fun _ _ h _ => h, fun σ' w' hA hE hD hP => ?_⟩
        have t25 : σ' 25 = (Value.slice q5_0a q5_0n q5_0c) := hD 6 rfl
        have B0_33 : OS w' 24 encF_f32 (Value.slice q5_0a q5_0n q5_0c) m4.1 := B20.frm hE (fun k hk => not_oth0)
        refine dg_op rfl (d_indexE (e := encF_f32) (v := (Value.slice q5_0a q5_0n q5_0c)) un47 size24 t25 rfl B0_33.rs hm23 fun g34 o34 l34 => ?_)
        exact ⟨⟨g34, o34, rfl, l34⟩, own_none (Ext.refl _)⟩
      · skip
        refine ⟨fun _ _ _ _ _ _ h _ => h, fun _ _ h _ => h, fun σ' w' hA hE hD hP => ?_⟩
        obtain ⟨d18_7g, d18_7o, t26, d18_7gE⟩ : ∃ d18_7g : Nat, ∃ d18_7o : Nat, σ' 26 = (.pointer (some ⟨d18_7g, d18_7o, none⟩)) ∧ EL encF_f32 (Value.slice q5_0a q5_0n q5_0c) (m4.1).length 2 d18_7g d18_7o := hD 7 rfl
        have B0_35 : OS w' 24 encF_f32 (Value.slice q5_0a q5_0n q5_0c) m4.1 := B20.frm hE (fun k hk => not_oth0)
        obtain ⟨d18_7c, d18_7T, d18_7f, d18_7vs, d18_7hg, d18_7P, d18_7hq⟩ := RS.el B0_35.rs d18_7gE hm23
        obtain ⟨d18_7r0, rfl, d18_7h0⟩ := dec_encF_f32 d18_7hq
        refine dg_op rfl (d_load (v := .float .f32 d18_7r0) t26 agg24 d18_7hg (sub_get (vs := #[.float .f32 d18_7r0]) d18_7P (i := 0) rfl) ?_)
        exact ⟨⟨d18_7r0, rfl, d18_7h0⟩, own_none (Ext.refl w')⟩
      · skip
        refine ⟨fun _ _ _ _ _ _ h _ => h, fun _ _ h _ => h, fun σ' w' hA hE hD hP => ?_⟩
        obtain ⟨d18_1r0, t21, d18_1h0⟩ : ∃ d18_1r0 : Nat, σ' 21 = (.float .f32 d18_1r0) ∧ cn .f32 d18_1r0 = m21 := hD 2 rfl
        obtain ⟨d18_4r0, t24, d18_4h0⟩ : ∃ d18_4r0 : Nat, σ' 24 = (.float .f32 d18_4r0) ∧ cn .f32 d18_4r0 = m22 := hD 5 rfl
        obtain ⟨d18_7r0, t27, d18_7h0⟩ : ∃ d18_7r0 : Nat, σ' 27 = (.float .f32 d18_7r0) ∧ cn .f32 d18_7r0 = m23 := hD 8 rfl
        refine dg_op rfl (d_bd (vs := [(0, .float .f32 d18_1r0), (1, .float .f32 d18_4r0), (2, .float .f32 d18_7r0)]) (cs := #[.float .f32 d18_1r0, .float .f32 d18_4r0, .float .f32 d18_7r0]) (pc t21 (pc t24 (pc t27 rfl))) (by kernel_rfl) ?_)
        exact ⟨⟨d18_1r0, d18_4r0, d18_7r0, rfl, d18_1h0, d18_4h0, d18_7h0⟩, own_none (Ext.refl w')⟩
      · skip
        intro σ18 w18 A18 E18 V18
        have E18x : Ext w9 w18 := ext_of_oth0 E18
        obtain ⟨z18_28_1r0, z18_28_4r0, z18_28_7r0, s28_18, z18_28_1h0, z18_28_4h0, z18_28_7h0⟩ : ∃ z18_28_1r0 : Nat, ∃ z18_28_4r0 : Nat, ∃ z18_28_7r0 : Nat, σ18 28 = (.agg #[.float .f32 z18_28_1r0, .float .f32 z18_28_4r0, .float .f32 z18_28_7r0]) ∧ cn .f32 z18_28_1r0 = m21 ∧ cn .f32 z18_28_4r0 = m22 ∧ cn .f32 z18_28_7r0 = m23 := V18 9 (Nat.le_of_ble_eq_true rfl)
        have s2_18 : σ18 2 = .pointer (some ⟨w.heap.size, 0, none⟩) := (A18 2 rfl).trans s2_9
        have X36 : Ext w w18 := X12.trans E18x
        have B37 : w18.heap[w.heap.size]? = some (.cells #[.float .f32 0, .float .f32 0, .float .f32 0] 26 (0, 0)) := E18x.heap B19
        refine da_op rfl (d_store (vs := #[.float .f32 z18_28_1r0, .float .f32 z18_28_4r0, .float .f32 z18_28_7r0]) s2_18 (congrArg Value.cells s28_18) B37 size26 (Nat.le_of_ble_eq_true rfl) rfl fun w38 S38 => ?_)
        have X39 : Ext w w38 := Ext.step X36 S38.frmb (fun k _ hk => hk ▸ own2)
        have B40 : w38.heap[w.heap.size]? = some (.cells #[.float .f32 z18_28_1r0, .float .f32 z18_28_4r0, .float .f32 z18_28_7r0] 26 (0, 0)) := S38.here
        refine da_op rfl (d_as (v := .bool true) rfl ?_)
        refine da_nil ?_
        refine W_ret ?_
        obtain rfl := Option.some.inj hr
        refine ⟨_, res2 (rv_cells (vs := #[.float .f32 z18_28_1r0, .float .f32 z18_28_4r0, .float .f32 z18_28_7r0]) s2_18 agg26 size26 B40 rfl) (rv_tmp rfl), ?_⟩
        exact ⟨z18_28_1r0, z18_28_4r0, z18_28_7r0, rfl, z18_28_1h0, z18_28_4h0, z18_28_7h0, X39⟩
set_option maxHeartbeats 4000000 in
theorem c45 (p0 : Nat) (p1 : Nat) (p0r : Nat) (p1r : Nat) (r : Bool) (w : World) (hr : M.impl_SameNumber p0 p1 = r) (p0h : cn .f32 p0r = p0) (p1h : cn .f32 p1r = p1) :
    Calls Tryd.prog 45 #[.float .f32 p0r, .float .f32 p1r] w fun e w' => e = .returned (.bool r) ∧ Ext w w' := by
  refine calls_of_W Tryd.func45 rfl (Nat.le_of_ble_eq_true rfl) ?_
  refine W_seq ?_
  refine W_region rfl ?_
  refine da_op rfl (d_as (v := .bool false) rfl ?_)
  refine da_nil ?_
  refine W_seq ?_
  refine W_seq ?_
  obtain ⟨m1, hm1, hr⟩ := letv_out hr
  refine W_cut (fun σ' w' => σ' 10 = .bool m1 ∧ Ext w w') rfl ?_ ?_
  · skip
    have hr := hm1
    refine da_op rfl (d_mv (v := .float .f32 p0r) rfl ?_)
    obtain ⟨m2, hm2, hr⟩ := letv_out hr
    refine da_op rfl (d_cl (vs := [.float .f32 p0r]) en51 (ac rfl rfl) rfl ?_)
    refine (c51 p0 p0r m2 w hm2 p0h).mono ?_
    rintro _ w3 ⟨rfl, E3⟩
    refine ⟨_, rfl, ?_⟩
    have X4 : Ext w w3 := (Ext.refl w).trans E3
    refine da_op rfl (d_mv (v := .bool m2) rfl ?_)
    rcases Bool.eq_false_or_eq_true m2 with hc5 | hc5
    · skip
      replace hr := bif_t hr hc5
      refine da_off rfl (Eq.trans (show sl _ _ _ = .bool m2 from rfl) (congrArg Value.bool hc5)) (by decide) ?_
      refine da_off rfl (Eq.trans (show sl _ _ _ = .bool m2 from rfl) (congrArg Value.bool hc5)) (by decide) ?_
      refine da_op rfl (d_pick (b := true) (Eq.trans (show ev _ _ = .bool m2 from rfl) (congrArg Value.bool hc5)) ?_)
      refine da_nil ?_
      subst hr
      exact ⟨rfl, (Ext.trans (Ext.refl w) E3)⟩
    · skip
      replace hr := bif_f hr hc5
      refine da_on rfl (Eq.trans (show sl _ _ _ = .bool m2 from rfl) (congrArg Value.bool hc5)) (d_mv (v := .float .f32 p1r) rfl ?_)
      obtain ⟨m6, hm6, hr⟩ := letv_out hr
      refine da_on rfl (Eq.trans (show sl _ _ _ = .bool m2 from rfl) (congrArg Value.bool hc5)) (d_cl (vs := [.float .f32 p1r]) en51 (ac rfl rfl) rfl ?_)
      refine (c51 p1 p1r m6 w3 hm6 p1h).mono ?_
      rintro _ w7 ⟨rfl, E7⟩
      refine ⟨_, rfl, ?_⟩
      have X8 : Ext w w7 := X4.trans E7
      refine da_op rfl (d_pick (b := false) (Eq.trans (show ev _ _ = .bool m2 from rfl) (congrArg Value.bool hc5)) ?_)
      refine da_nil ?_
      subst hr
      exact ⟨rfl, (Ext.trans (Ext.trans (Ext.refl w) E3) E7)⟩
  · skip
    rintro σ1 w1 o1 ⟨s10_1, E1⟩
    have s0_1 : σ1 0 = .float .f32 p0r := (o1 0 rfl).trans rfl
    have s1_1 : σ1 1 = .float .f32 p1r := (o1 1 rfl).trans rfl
    have X9 : Ext w w1 := (Ext.refl w).trans E1
    refine W_cond (b := m1) s10_1 (fun hc10 => ?_) (fun hc10 => ?_)
    · skip
      replace hr := bif_t hr hc10
      refine W_seq ?_
      obtain ⟨m11, hm11, hr⟩ := letv_out hr
      refine W_cut (fun σ' w' => σ' 4 = .bool m11 ∧ Ext w1 w') rfl ?_ ?_
      · skip
        have hr := hm11
        refine da_op rfl (d_mv (v := .float .f32 p0r) s0_1 ?_)
        obtain ⟨m12, hm12, hr⟩ := letv_out hr
        refine da_op rfl (d_cl (vs := [.float .f32 p0r]) en51 (ac rfl rfl) rfl ?_)
        refine (c51 p0 p0r m12 w1 hm12 p0h).mono ?_
        rintro _ w13 ⟨rfl, E13⟩
        refine ⟨_, rfl, ?_⟩
        have X14 : Ext w w13 := X9.trans E13
        refine da_op rfl (d_mv (v := .bool m12) rfl ?_)
        rcases Bool.eq_false_or_eq_true m12 with hc15 | hc15
        · skip
          replace hr := bif_t hr hc15
          refine da_on rfl (Eq.trans (show sl _ _ _ = .bool m12 from rfl) (congrArg Value.bool hc15)) (d_mv (v := .float .f32 p1r) s1_1 ?_)
          obtain ⟨m16, hm16, hr⟩ := letv_out hr
          refine da_on rfl (Eq.trans (show sl _ _ _ = .bool m12 from rfl) (congrArg Value.bool hc15)) (d_cl (vs := [.float .f32 p1r]) en51 (ac rfl rfl) rfl ?_)
          refine (c51 p1 p1r m16 w13 hm16 p1h).mono ?_
          rintro _ w17 ⟨rfl, E17⟩
          refine ⟨_, rfl, ?_⟩
          have X18 : Ext w w17 := X14.trans E17
          refine da_op rfl (d_pick (b := true) (Eq.trans (show ev _ _ = .bool m12 from rfl) (congrArg Value.bool hc15)) ?_)
          refine da_op rfl (d_as (v := .bool m16) rfl ?_)
          refine da_nil ?_
          subst hr
          exact ⟨rfl, (Ext.trans (Ext.trans (Ext.refl w1) E13) E17)⟩
        · skip
          replace hr := bif_f hr hc15
          refine da_off rfl (Eq.trans (show sl _ _ _ = .bool m12 from rfl) (congrArg Value.bool hc15)) (by decide) ?_
          refine da_off rfl (Eq.trans (show sl _ _ _ = .bool m12 from rfl) (congrArg Value.bool hc15)) (by decide) ?_
          refine da_op rfl (d_pick (b := false) (Eq.trans (show ev _ _ = .bool m12 from rfl) (congrArg Value.bool hc15)) ?_)
          refine da_op rfl (d_as (v := .bool false) rfl ?_)
          refine da_nil ?_
          subst hr
          exact ⟨rfl, (Ext.trans (Ext.refl w1) E13)⟩
      · skip
        rintro σ11 w11 o11 ⟨s4_11, E11⟩
        have X19 : Ext w w11 := X9.trans E11
        refine W_ret ?_
        subst hr
        refine ⟨_, res1 (rv_tmp s4_11), ?_⟩
        exact ⟨rfl, X19⟩
    · skip
      replace hr := bif_f hr hc10
      refine W_skip ?_
      refine W_seq ?_
      refine W_region rfl ?_
      refine da_op rfl (d_mv (v := .float .f32 p0r) s0_1 ?_)
      refine da_op rfl (d_f32bits ext46_0 ext46_1 ext46_2 (Option.isNone_iff_eq_none.1 ext46_3) ext46_4 rfl rfl p0h (nn_ne (show fcmp .neq .f32 p0 p0 = false from or_f1 (a := (M.impl_isNaN p0)) (b := (M.impl_isNaN p1)) (Eq.trans hm1 hc10))) ?_)
      refine da_op rfl (d_mv (v := .float .f32 p1r) s1_1 ?_)
      refine da_op rfl (d_f32bits ext46_0 ext46_1 ext46_2 (Option.isNone_iff_eq_none.1 ext46_3) ext46_4 rfl rfl p1h (nn_ne (show fcmp .neq .f32 p1 p1 = false from or_f2 (a := (M.impl_isNaN p0)) (b := (M.impl_isNaN p1)) (Eq.trans hm1 hc10))) ?_)
      refine da_op rfl (d_icmp cEql rfl rfl ?_)
      refine da_op rfl (d_as (v := .bool (icmp .eql (p0 : Int) (p1 : Int))) rfl ?_)
      refine da_nil ?_
      refine W_ret ?_
      subst hr
      refine ⟨_, res1 (rv_tmp rfl), ?_⟩
      exact ⟨rfl, X9⟩
set_option maxHeartbeats 4000000 in
theorem c44_f45 (p0 : List Nat) (p1 : List Nat) (p0a : Option Addr) (p0n : Nat) (p0c : Nat) (p1a : Option Addr) (p1n : Nat) (p1c : Nat) (r : Bool) (w : World) (hr : M.slices_EqualFunc___float32___float32_float32_float32__f45 p0 p1 = some r) (p0R : RS w encF_f32 (Value.slice p0a p0n p0c) p0) (p1R : RS w encF_f32 (Value.slice p1a p1n p1c) p1) :
    Calls Tryd.prog 44 #[(Value.slice p0a p0n p0c), (Value.slice p1a p1n p1c), .func (.func 45) #[] #[]] w fun e w' => e = .returned (.bool r) ∧ Ext w w' := by
  refine calls_of_W Tryd.func44 rfl (Nat.le_of_ble_eq_true rfl) ?_
  refine W_seq ?_
  refine W_region rfl ?_
  refine da_op rfl (d_as (v := .bool false) rfl ?_)
  refine da_nil ?_
  refine W_seq ?_
  refine W_seq ?_
  refine W_region rfl ?_
  refine da_op rfl (d_mv (v := (Value.slice p0a p0n p0c)) rfl ?_)
  refine da_op rfl (d_len (e := encF_f32) un47 rfl p0R ?_)
  refine da_op rfl (d_mv (v := (Value.slice p1a p1n p1c)) rfl ?_)
  refine da_op rfl (d_len (e := encF_f32) un47 rfl p1R ?_)
  refine da_op rfl (d_icmp cNeq rfl rfl ?_)
  refine da_nil ?_
  refine W_cond (b := (icmp .neq ((p0).length : Int) ((p1).length : Int))) rfl (fun hc1 => ?_) (fun hc1 => ?_)
  · skip
    replace hr := bif_t hr hc1
    refine W_seq ?_
    refine W_region rfl ?_
    refine da_op rfl (d_as (v := .bool false) rfl ?_)
    refine da_nil ?_
    refine W_ret ?_
    obtain rfl := Option.some.inj hr
    refine ⟨_, res1 (rv_tmp rfl), ?_⟩
    exact ⟨rfl, (Ext.refl w)⟩
  · skip
    replace hr := bif_f hr hc1
    refine W_skip ?_
    refine W_seq ?_
    refine W_seq ?_
    refine W_region rfl ?_
    refine da_op rfl (d_mv (v := (Value.slice p0a p0n p0c)) rfl ?_)
    refine da_op rfl (d_len (e := encF_f32) un47 rfl p0R ?_)
    refine da_op rfl (d_mv (v := .int .i64 0) rfl ?_)
    refine da_nil ?_
    refine W_block ?_
    obtain ⟨m2, hm2, hr⟩ := bind_out hr
    refine W_loopM hm2 (fun (s2 : Int) σ w' => σ 17 = .int .i64 s2 ∧ σ 1 = (Value.slice p1a p1n p1c) ∧ σ 2 = .func (.func 45) #[] #[] ∧ σ 15 = (Value.slice p0a p0n p0c) ∧ σ 16 = .int .i64 ((p0).length : Int) ∧ Ext w w') (fun (e2 : (Unit ⊕ Bool)) ex σ w' => sel e2 (fun e2 => ex = .exit 0 ∧ Ext w w') (fun e2 => ex = .ret ∧ σ 6 = .bool e2 ∧ Ext w w')) ⟨rfl, rfl, rfl, rfl, rfl, (Ext.refl w)⟩ ?_ ?_
    · skip
      rintro s2 σl2 wl2 r2l ⟨i2_S17, i2_S1, i2_S2, i2_S15, i2_S16, i2_X⟩ hr
      refine W_seq ?_
      refine W_region rfl ?_
      refine da_op rfl (d_icmp cLss i2_S17 i2_S16 ?_)
      refine da_nil ?_
      refine W_seq ?_
      refine W_cond (b := (icmp .lss s2 ((p0).length : Int))) rfl (fun hc3 => ?_) (fun hc3 => ?_)
      · skip
        replace hr := bif_t hr hc3
        refine W_skip ?_
        refine W_seq ?_
        refine W_block ?_
        refine W_seq ?_
        refine W_region rfl ?_
        refine da_op rfl (d_mv (v := .int .i64 s2) i2_S17 ?_)
        obtain ⟨m4, hm4, hr⟩ := bind_out hr
        have B6 : RS wl2 encF_f32 (Value.slice p0a p0n p0c) p0 := p0R.ext i2_X
        refine da_op rfl (d_index (e := encF_f32) (v := (Value.slice p0a p0n p0c)) un47 size24 i2_S15 i2_S17 B6 hm4 fun g5 o5 cu5 T5 fr5 vs5 hv5 hg5 hp5 hq5 => ?_)
        obtain ⟨e5_r0, rfl, e5_h0⟩ := dec_encF_f32 hq5
        refine da_op rfl (d_load (v := .float .f32 e5_r0) rfl agg24 hg5 (sub_get (vs := #[.float .f32 e5_r0]) hp5 (i := 0) rfl) ?_)
        refine da_op rfl (d_as (v := .int .i64 s2) rfl ?_)
        refine da_op rfl (d_as (v := .float .f32 e5_r0) rfl ?_)
        refine da_nil ?_
        refine W_seq ?_
        refine W_region rfl ?_
        refine da_op rfl (d_mv (v := (Value.slice p1a p1n p1c)) i2_S1 ?_)
        refine da_op rfl (d_mv (v := .int .i64 s2) rfl ?_)
        obtain ⟨m7, hm7, hr⟩ := bind_out hr
        have B9 : RS wl2 encF_f32 (Value.slice p1a p1n p1c) p1 := p1R.ext i2_X
        refine da_op rfl (d_index (e := encF_f32) (v := (Value.slice p1a p1n p1c)) un47 size24 rfl rfl B9 hm7 fun g8 o8 cu8 T8 fr8 vs8 hv8 hg8 hp8 hq8 => ?_)
        obtain ⟨e8_r0, rfl, e8_h0⟩ := dec_encF_f32 hq8
        refine da_op rfl (d_load (v := .float .f32 e8_r0) rfl agg24 hg8 (sub_get (vs := #[.float .f32 e8_r0]) hp8 (i := 0) rfl) ?_)
        refine da_op rfl (d_as (v := .float .f32 e8_r0) rfl ?_)
        refine da_nil ?_
        refine W_seq ?_
        refine W_region rfl ?_
        refine da_op rfl (d_mv (v := .func (.func 45) #[] #[]) i2_S2 ?_)
        refine da_op rfl (d_mv (v := .float .f32 e5_r0) rfl ?_)
        refine da_op rfl (d_mv (v := .float .f32 e8_r0) rfl ?_)
        obtain ⟨m10, hm10, hr⟩ := letv_out hr
        refine da_op rfl (d_clv (vs := [.float .f32 e5_r0, .float .f32 e8_r0]) (cap := []) en45 rfl (ac rfl (ac rfl rfl)) ?_)
        refine (c45 m4 m7 e5_r0 e8_r0 m10 wl2 hm10 e5_h0 e8_h0).mono ?_
        rintro _ w11 ⟨rfl, E11⟩
        refine ⟨_, rfl, ?_⟩
        have X12 : Ext w w11 := i2_X.trans E11
        refine da_op rfl (d_not rfl ?_)
        refine da_nil ?_
        refine W_cond (b := (!m10)) rfl (fun hc13 => ?_) (fun hc13 => ?_)
        · skip
          replace hr := bif_t hr hc13
          refine W_seq ?_
          refine W_region rfl ?_
          refine da_op rfl (d_as (v := .bool false) rfl ?_)
          refine da_nil ?_
          refine W_ret ?_
          obtain rfl := Option.some.inj hr
          exact ⟨_, rfl, rfl, rfl, X12⟩
        · skip
          replace hr := bif_f hr hc13
          refine W_skip ?_
          refine W_region rfl ?_
          refine da_op rfl (d_iarith i2_S17 rfl (.inl ⟨rfl, rfl⟩) ?_)
          refine da_op rfl (d_mv (v := .int .i64 (IntKind.i64.wrap (s2 + 1))) rfl ?_)
          refine da_nil ?_
          obtain rfl := Option.some.inj hr
          exact ⟨_, rfl, ⟨rfl, i2_S1, i2_S2, i2_S15, i2_S16, X12⟩⟩
      · skip
        replace hr := bif_f hr hc3
        refine W_exit ?_
        obtain rfl := Option.some.inj hr
        exact ⟨_, rfl, rfl, i2_X⟩
    · skip
      intro ex σx2 wx2 hq
      rcases m2 with m2 | m2
      · skip
        obtain ⟨rfl, q2_0_X⟩ := hq
        refine W_seq ?_
        refine W_region rfl ?_
        refine da_op rfl (d_as (v := .bool true) rfl ?_)
        refine da_nil ?_
        refine W_ret ?_
        obtain rfl := Option.some.inj hr
        refine ⟨_, res1 (rv_tmp rfl), ?_⟩
        exact ⟨rfl, q2_0_X⟩
      · skip
        obtain ⟨rfl, q2_1_S6, q2_1_X⟩ := hq
        obtain rfl := Option.some.inj hr
        refine ⟨_, res1 (rv_tmp q2_1_S6), ?_⟩
        exact ⟨rfl, q2_1_X⟩
set_option maxHeartbeats 4000000 in
theorem c31 (p0 : List Nat) (p1 : List Nat) (p0a : Option Addr) (p0n : Nat) (p0c : Nat) (p1a : Option Addr) (p1n : Nat) (p1c : Nat) (r : Bool) (w : World) (hr : M.impl_sameList p0 p1 = some r) (p0R : RS w encF_f32 (Value.slice p0a p0n p0c) p0) (p1R : RS w encF_f32 (Value.slice p1a p1n p1c) p1) :
    Calls Tryd.prog 31 #[(Value.slice p0a p0n p0c), (Value.slice p1a p1n p1c)] w fun e w' => e = .returned (.bool r) ∧ Ext w w' := by
  refine calls_of_W Tryd.func31 rfl (Nat.le_of_ble_eq_true rfl) ?_
  refine W_seq ?_
  refine W_region rfl ?_
  refine da_op rfl (d_as (v := .bool false) rfl ?_)
  refine da_nil ?_
  refine W_seq ?_
  refine W_region rfl ?_
  refine da_op rfl (d_mv (v := (Value.slice p0a p0n p0c)) rfl ?_)
  refine da_op rfl (d_mv (v := (Value.slice p1a p1n p1c)) rfl ?_)
  obtain ⟨m1, hm1, hr⟩ := bind_out hr
  refine da_op rfl (d_cl (vs := [(Value.slice p0a p0n p0c), (Value.slice p1a p1n p1c), .func (.func 45) #[] #[]]) en44 (ac rfl (ac rfl (ac rfl rfl))) rfl ?_)
  refine (c44_f45 p0 p1 p0a p0n p0c p1a p1n p1c m1 w hm1 p0R p1R).mono ?_
  rintro _ w2 ⟨rfl, E2⟩
  refine ⟨_, rfl, ?_⟩
  have X3 : Ext w w2 := (Ext.refl w).trans E2
  refine da_op rfl (d_as (v := .bool m1) rfl ?_)
  refine da_nil ?_
  refine W_ret ?_
  obtain rfl := Option.some.inj hr
  refine ⟨_, res1 (rv_tmp rfl), ?_⟩
  exact ⟨rfl, X3⟩
set_option maxHeartbeats 4000000 in
theorem c20 (p0 : SVector) (p1 : SVector) (p0r0 : Nat) (p0r1 : Nat) (p0r2 : Nat) (p1r0 : Nat) (p1r1 : Nat) (p1r2 : Nat) (r : Bool) (w : World) (hr : M.impl_SameVector p0 p1 = some r) (p0h0 : cn .f32 p0r0 = p0.x) (p0h1 : cn .f32 p0r1 = p0.y) (p0h2 : cn .f32 p0r2 = p0.z) (p1h0 : cn .f32 p1r0 = p1.x) (p1h1 : cn .f32 p1r1 = p1.y) (p1h2 : cn .f32 p1r2 = p1.z) :
    Calls Tryd.prog 20 #[.agg #[.float .f32 p0r0, .float .f32 p0r1, .float .f32 p0r2], .agg #[.float .f32 p1r0, .float .f32 p1r1, .float .f32 p1r2]] w fun e w' => e = .returned (.bool r) ∧ Ext w w' := by
  refine calls_of_W Tryd.func20 rfl (Nat.le_of_ble_eq_true rfl) ?_
  refine W_seq ?_
  refine W_region rfl ?_
  refine da_op rfl (d_box (cs := #[.float .f32 p0r0, .float .f32 p0r1, .float .f32 p0r2]) rfl fun w1 B1 E1 => ?_)
  have own2 : w.heap.size ≤ w.heap.size := Nat.le_trans (Ext.refl w).size (Nat.le_refl _)
  have X3 : Ext w w1 := (Ext.refl w).trans E1
  refine da_op rfl (d_box (cs := #[.float .f32 p1r0, .float .f32 p1r1, .float .f32 p1r2]) rfl fun w4 B4 E4 => ?_)
  have own5 : w.heap.size ≤ w1.heap.size := Nat.le_trans X3.size (Nat.le_refl _)
  have sp6 : w.heap.size ≠ w1.heap.size := Nat.ne_of_lt (Nat.lt_of_lt_of_le (lt_heap B1) (Nat.le_refl _))
  have X7 : Ext w w4 := X3.trans E4
  refine da_op rfl (d_as (v := .bool false) rfl ?_)
  refine da_nil ?_
  refine W_seq ?_
  have B9 : w4.heap[w.heap.size]? = some (.cells #[.float .f32 p0r0, .float .f32 p0r1, .float .f32 p0r2] 26 (0, 0)) := E4.heap B1
  obtain ⟨m10, hm10, hr⟩ := letv_out hr
  obtain ⟨m11, hm11, hr⟩ := letv_out hr
  obtain ⟨m12, hm12, hr⟩ := bind_out hr
  refine W_any [] [{ V := fun _ v _ => v = (.agg #[.float .f32 p0r0, .float .f32 p0r1, .float .f32 p0r2]) }, { V := fun _ v w' => ∃ d8_1_0a : Option Addr, ∃ d8_1_0n : Nat, ∃ d8_1_0c : Nat, v = (Value.slice d8_1_0a d8_1_0n d8_1_0c) ∧ (∀ k, (Value.slice d8_1_0a d8_1_0n d8_1_0c).ownBlock = some k → w4.heap.size ≤ k) ∧ OS w' 24 encF_f32 (Value.slice d8_1_0a d8_1_0n d8_1_0c) m10 }, { V := fun _ v _ => v = (.agg #[.float .f32 p1r0, .float .f32 p1r1, .float .f32 p1r2]) }, { V := fun _ v w' => ∃ d8_3_0a : Option Addr, ∃ d8_3_0n : Nat, ∃ d8_3_0c : Nat, v = (Value.slice d8_3_0a d8_3_0n d8_3_0c) ∧ (∀ k, (Value.slice d8_3_0a d8_3_0n d8_3_0c).ownBlock = some k → w4.heap.size ≤ k) ∧ OS w' 24 encF_f32 (Value.slice d8_3_0a d8_3_0n d8_3_0c) m11 }, { V := fun _ v _ => v = (.bool m12) }, { V := fun _ v _ => v = (.bool m12) }] mixed (by kernel_rfl) ⟨trivial, trivial, trivial, trivial, trivial, trivial, trivial⟩ ⟨?_, ?_, ?_, ?_, ?_, ?_, trivial⟩ ?_
  · skip
    refine ⟨fun _ _ _ _ _ _ h _ => h, fun _ _ h _ => h, fun σ' w' hA hE hD hP => ?_⟩
    have t2 : σ' 2 = .pointer (some ⟨w.heap.size, 0, none⟩) := (hA 2 rfl).trans rfl
    have B0_13 : w'.heap[w.heap.size]? = some (.cells #[.float .f32 p0r0, .float .f32 p0r1, .float .f32 p0r2] 26 (0, 0)) := hE.heap not_oth0 B9
    refine dg_op rfl (d_loads (vs := #[.float .f32 p0r0, .float .f32 p0r1, .float .f32 p0r2]) t2 agg26 size26 B0_13 rfl ?_)
    exact ⟨rfl, own_none (Ext.refl w')⟩
  · skip
    refine ⟨fun _ _ _ w' w'' _ ⟨d8_1_0a, d8_1_0n, d8_1_0c, hv, d8_1_0L, d8_1_0R⟩ hF => ⟨d8_1_0a, d8_1_0n, d8_1_0c, hv, d8_1_0L, d8_1_0R.frm hF (fun k hk => not_oth0)⟩, fun _ _ h _ => h, fun σ' w' hA hE hD hP => ?_⟩
    have t5 : σ' 5 = (.agg #[.float .f32 p0r0, .float .f32 p0r1, .float .f32 p0r2]) := hD 0 rfl
    refine dg_op rfl (d_cl (vs := [.agg #[.float .f32 p0r0, .float .f32 p0r1, .float .f32 p0r2]]) en29 (ac t5 rfl) rfl ?_)
    refine (c29 p0 p0r0 p0r1 p0r2 m10 w' hm10 p0h0 p0h1 p0h2).mono ?_
    rintro _ w14 ⟨q14_0a, q14_0n, q14_0c, rfl, q14_0R, q14_0F, E14⟩
    refine ⟨_, rfl, ?_⟩
    have X16 : Ext w' w14 := (Ext.refl w').trans E14
    exact ⟨⟨q14_0a, q14_0n, q14_0c, rfl, (fun k hk => Nat.le_trans hE.size (q14_0F k hk)), q14_0R⟩, own_none X16⟩
  · skip
    refine ⟨fun _ _ _ _ _ _ h _ => h, fun _ _ h _ => h, fun σ' w' hA hE hD hP => ?_⟩
    have t3 : σ' 3 = .pointer (some ⟨w1.heap.size, 0, none⟩) := (hA 3 rfl).trans rfl
    have B0_17 : w'.heap[w1.heap.size]? = some (.cells #[.float .f32 p1r0, .float .f32 p1r1, .float .f32 p1r2] 26 (0, 0)) := hE.heap not_oth0 B4
    refine dg_op rfl (d_loads (vs := #[.float .f32 p1r0, .float .f32 p1r1, .float .f32 p1r2]) t3 agg26 size26 B0_17 rfl ?_)
    exact ⟨rfl, own_none (Ext.refl w')⟩
  · skip
    refine ⟨fun _ _ _ w' w'' _ ⟨d8_3_0a, d8_3_0n, d8_3_0c, hv, d8_3_0L, d8_3_0R⟩ hF => ⟨d8_3_0a, d8_3_0n, d8_3_0c, hv, d8_3_0L, d8_3_0R.frm hF (fun k hk => not_oth0)⟩, fun _ _ h _ => h, fun σ' w' hA hE hD hP => ?_⟩
    have t7 : σ' 7 = (.agg #[.float .f32 p1r0, .float .f32 p1r1, .float .f32 p1r2]) := hD 2 rfl
    refine dg_op rfl (d_cl (vs := [.agg #[.float .f32 p1r0, .float .f32 p1r1, .float .f32 p1r2]]) en29 (ac t7 rfl) rfl ?_)
    refine (c29 p1 p1r0 p1r1 p1r2 m11 w' hm11 p1h0 p1h1 p1h2).mono ?_
    rintro _ w18 ⟨q18_0a, q18_0n, q18_0c, rfl, q18_0R, q18_0F, E18⟩
    refine ⟨_, rfl, ?_⟩
    have X20 : Ext w' w18 := (Ext.refl w').trans E18
    exact ⟨⟨q18_0a, q18_0n, q18_0c, rfl, (fun k hk => Nat.le_trans hE.size (q18_0F k hk)), q18_0R⟩, own_none X20⟩
  · skip
    refine ⟨fun _ _ _ _ _ _ h _ => h, fun _ _ h _ => h, fun σ' w' hA hE hD hP => ?_⟩
    obtain ⟨d8_1_0a, d8_1_0n, d8_1_0c, t6, d8_1_0L, d8_1_0R⟩ : ∃ d8_1_0a : Option Addr, ∃ d8_1_0n : Nat, ∃ d8_1_0c : Nat, σ' 6 = (Value.slice d8_1_0a d8_1_0n d8_1_0c) ∧ (∀ k, (Value.slice d8_1_0a d8_1_0n d8_1_0c).ownBlock = some k → w4.heap.size ≤ k) ∧ OS w' 24 encF_f32 (Value.slice d8_1_0a d8_1_0n d8_1_0c) m10 := hD 1 rfl
    obtain ⟨d8_3_0a, d8_3_0n, d8_3_0c, t8, d8_3_0L, d8_3_0R⟩ : ∃ d8_3_0a : Option Addr, ∃ d8_3_0n : Nat, ∃ d8_3_0c : Nat, σ' 8 = (Value.slice d8_3_0a d8_3_0n d8_3_0c) ∧ (∀ k, (Value.slice d8_3_0a d8_3_0n d8_3_0c).ownBlock = some k → w4.heap.size ≤ k) ∧ OS w' 24 encF_f32 (Value.slice d8_3_0a d8_3_0n d8_3_0c) m11 := hD 3 rfl
    refine dg_op rfl (d_cl (vs := [(Value.slice d8_1_0a d8_1_0n d8_1_0c), (Value.slice d8_3_0a d8_3_0n d8_3_0c)]) en31 (ac t6 (ac t8 rfl)) rfl ?_)
    refine (c31 m10 m11 d8_1_0a d8_1_0n d8_1_0c d8_3_0a d8_3_0n d8_3_0c m12 w' hm12 d8_1_0R.rs d8_3_0R.rs).mono ?_
    rintro _ w21 ⟨rfl, E21⟩
    refine ⟨_, rfl, ?_⟩
    have X22 : Ext w' w21 := (Ext.refl w').trans E21
    exact ⟨rfl, own_none X22⟩
  · skip
    refine ⟨fun _ _ _ _ _ _ h _ => h, fun _ _ h _ => h, fun σ' w' hA hE hD hP => ?_⟩
    have t9 : σ' 9 = (.bool m12) := hD 4 rfl
    refine dg_op rfl (d_as (v := .bool m12) t9 ?_)
    exact ⟨rfl, own_none (Ext.refl w')⟩
  · skip
    intro σ8 w8 A8 E8 V8
    have E8x : Ext w4 w8 := ext_of_oth0 E8
    have s4_8 : σ8 4 = (.bool m12) := V8 5 (Nat.le_of_ble_eq_true rfl)
    have X23 : Ext w w8 := X7.trans E8x
    refine W_ret ?_
    obtain rfl := Option.some.inj hr
    refine ⟨_, res1 (rv_tmp s4_8), ?_⟩
    exact ⟨rfl, X23⟩
set_option maxHeartbeats 4000000 in
theorem c3 (p0 : List Int) (p1 : List Int) (p0a : Option Addr) (p0n : Nat) (p0c : Nat) (p1a : Option Addr) (p1n : Nat) (p1c : Nat) (r : Bool) (w : World) (hr : M.laws_FnVectors p0 p1 = some r) (p0R : RS w encI_u8 (Value.slice p0a p0n p0c) p0) (p1R : RS w encI_u8 (Value.slice p1a p1n p1c) p1) :
    Calls Tryd.prog 3 #[(Value.slice p0a p0n p0c), (Value.slice p1a p1n p1c)] w fun e w' => e = .returned (.bool r) ∧ Ext w w' := by
  refine calls_of_W Tryd.func3 rfl (Nat.le_of_ble_eq_true rfl) ?_
  refine W_seq ?_
  refine W_region rfl ?_
  refine da_op rfl (d_as (v := .bool false) rfl ?_)
  refine da_nil ?_
  refine W_seq ?_
  refine W_seq ?_
  refine W_region rfl ?_
  refine da_op rfl (d_mv (v := (Value.slice p0a p0n p0c)) rfl ?_)
  refine da_op rfl (d_mv (v := (Value.slice p1a p1n p1c)) rfl ?_)
  obtain ⟨m1, hm1, hr⟩ := letv_out hr
  refine da_op rfl (d_cl (vs := [(Value.slice p0a p0n p0c), (Value.slice p1a p1n p1c)]) en4 (ac rfl (ac rfl rfl)) rfl ?_)
  refine (c4 p0 p1 p0a p0n p0c p1a p1n p1c m1 w hm1 p0R p1R).mono ?_
  rintro _ w2 ⟨rfl, E2⟩
  refine ⟨_, rfl, ?_⟩
  have X3 : Ext w w2 := (Ext.refl w).trans E2
  refine da_nil ?_
  refine W_cond (b := m1) rfl (fun hc4 => ?_) (fun hc4 => ?_)
  · skip
    replace hr := bif_t hr hc4
    refine W_seq ?_
    refine W_region rfl ?_
    refine da_op rfl (d_as (v := .bool true) rfl ?_)
    refine da_nil ?_
    refine W_ret ?_
    obtain rfl := Option.some.inj hr
    refine ⟨_, res1 (rv_tmp rfl), ?_⟩
    exact ⟨rfl, X3⟩
  · skip
    replace hr := bif_f hr hc4
    refine W_skip ?_
    refine W_seq ?_
    refine W_region rfl ?_
    refine da_op rfl (d_mv (v := (Value.slice p0a p0n p0c)) rfl ?_)
    obtain ⟨m5, hm5, hr⟩ := bind_out hr
    have B6 : RS w2 encI_u8 (Value.slice p0a p0n p0c) p0 := p0R.ext X3
    refine da_op rfl (d_cl (vs := [(Value.slice p0a p0n p0c), .int .i64 50]) en5 (ac rfl (ac rfl rfl)) rfl ?_)
    refine (c5 p0 50 p0a p0n p0c m5 w2 hm5 B6).mono ?_
    rintro _ w7 ⟨q7_0r0, q7_0r1, q7_0r2, rfl, q7_0h0, q7_0h1, q7_0h2, E7⟩
    refine ⟨_, rfl, ?_⟩
    have X8 : Ext w w7 := X3.trans E7
    refine da_op rfl (d_alloc (cs := #[.float .f32 0, .float .f32 0, .float .f32 0]) zero26 rfl fun w9 B9 E9 => ?_)
    have own10 : w.heap.size ≤ w7.heap.size := Nat.le_trans X8.size (Nat.le_refl _)
    have X11 : Ext w w9 := X8.trans E9
    refine da_op rfl (d_store (vs := #[.float .f32 q7_0r0, .float .f32 q7_0r1, .float .f32 q7_0r2]) rfl rfl B9 size26 (Nat.le_of_ble_eq_true rfl) rfl fun w12 S12 => ?_)
    have X13 : Ext w w12 := Ext.step X11 S12.frmb (fun k _ hk => hk ▸ own10)
    have B14 : w12.heap[w7.heap.size]? = some (.cells #[.float .f32 q7_0r0, .float .f32 q7_0r1, .float .f32 q7_0r2] 26 (0, 0)) := S12.here
    refine da_nil ?_
    refine W_seq ?_
    refine W_region rfl ?_
    refine da_op rfl (d_mv (v := (Value.slice p1a p1n p1c)) rfl ?_)
    obtain ⟨m15, hm15, hr⟩ := bind_out hr
    have B16 : RS w12 encI_u8 (Value.slice p1a p1n p1c) p1 := p1R.ext X13
    refine da_op rfl (d_cl (vs := [(Value.slice p1a p1n p1c), .int .i64 50]) en5 (ac rfl (ac rfl rfl)) rfl ?_)
    refine (c5 p1 50 p1a p1n p1c m15 w12 hm15 B16).mono ?_
    rintro _ w17 ⟨q17_0r0, q17_0r1, q17_0r2, rfl, q17_0h0, q17_0h1, q17_0h2, E17⟩
    refine ⟨_, rfl, ?_⟩
    have X18 : Ext w w17 := X13.trans E17
    have B20 : w17.heap[w7.heap.size]? = some (.cells #[.float .f32 q7_0r0, .float .f32 q7_0r1, .float .f32 q7_0r2] 26 (0, 0)) := E17.heap B14
    refine da_op rfl (d_alloc (cs := #[.float .f32 0, .float .f32 0, .float .f32 0]) zero26 rfl fun w19 B19 E19 => ?_)
    have own21 : w.heap.size ≤ w17.heap.size := Nat.le_trans X18.size (Nat.le_refl _)
    have sp22 : w7.heap.size ≠ w17.heap.size := Nat.ne_of_lt (Nat.lt_of_lt_of_le (lt_heap B20) (Nat.le_refl _))
    have X23 : Ext w w19 := X18.trans E19
    refine da_op rfl (d_store (vs := #[.float .f32 q17_0r0, .float .f32 q17_0r1, .float .f32 q17_0r2]) rfl rfl B19 size26 (Nat.le_of_ble_eq_true rfl) rfl fun w24 S24 => ?_)
    have X25 : Ext w w24 := Ext.step X23 S24.frmb (fun k _ hk => hk ▸ own21)
    have B26 : w24.heap[w17.heap.size]? = some (.cells #[.float .f32 q17_0r0, .float .f32 q17_0r1, .float .f32 q17_0r2] 26 (0, 0)) := S24.here
    refine da_nil ?_
    refine W_seq ?_
    refine W_region rfl ?_
    have B27 : w24.heap[w7.heap.size]? = some (.cells #[.float .f32 q7_0r0, .float .f32 q7_0r1, .float .f32 q7_0r2] 26 (0, 0)) := S24.frmb.heap sp22 (E19.heap B20)
    refine da_op rfl (d_loads (vs := #[.float .f32 q7_0r0, .float .f32 q7_0r1, .float .f32 q7_0r2]) rfl agg26 size26 B27 rfl ?_)
    refine da_op rfl (d_loads (vs := #[.float .f32 q17_0r0, .float .f32 q17_0r1, .float .f32 q17_0r2]) rfl agg26 size26 B26 rfl ?_)
    obtain ⟨m28, hm28, hr⟩ := letv_out hr
    refine da_op rfl (d_cl (vs := [.agg #[.float .f32 q7_0r0, .float .f32 q7_0r1, .float .f32 q7_0r2], .agg #[.float .f32 q17_0r0, .float .f32 q17_0r1, .float .f32 q17_0r2]]) en6 (ac rfl (ac rfl rfl)) rfl ?_)
    refine (c6 (⟨m5.x, m5.y, m5.z⟩ : SVector) (⟨m15.x, m15.y, m15.z⟩ : SVector) q7_0r0 q7_0r1 q7_0r2 q17_0r0 q17_0r1 q17_0r2 m28 w24 hm28 q7_0h0 q7_0h1 q7_0h2 q17_0h0 q17_0h1 q17_0h2).mono ?_
    rintro _ w29 ⟨q29_0r0, q29_0r1, q29_0r2, rfl, q29_0h0, q29_0h1, q29_0h2, E29⟩
    refine ⟨_, rfl, ?_⟩
    have X30 : Ext w w29 := X25.trans E29
    have B32 : w29.heap[w7.heap.size]? = some (.cells #[.float .f32 q7_0r0, .float .f32 q7_0r1, .float .f32 q7_0r2] 26 (0, 0)) := E29.heap B27
    have B33 : w29.heap[w17.heap.size]? = some (.cells #[.float .f32 q17_0r0, .float .f32 q17_0r1, .float .f32 q17_0r2] 26 (0, 0)) := E29.heap B26
    refine da_op rfl (d_alloc (cs := #[.float .f32 0, .float .f32 0, .float .f32 0]) zero26 rfl fun w31 B31 E31 => ?_)
    have own34 : w.heap.size ≤ w29.heap.size := Nat.le_trans X30.size (Nat.le_refl _)
    have sp35 : w7.heap.size ≠ w29.heap.size := Nat.ne_of_lt (Nat.lt_of_lt_of_le (lt_heap B32) (Nat.le_refl _))
    have sp36 : w17.heap.size ≠ w29.heap.size := Nat.ne_of_lt (Nat.lt_of_lt_of_le (lt_heap B33) (Nat.le_refl _))
    have X37 : Ext w w31 := X30.trans E31
    refine da_op rfl (d_store (vs := #[.float .f32 q29_0r0, .float .f32 q29_0r1, .float .f32 q29_0r2]) rfl rfl B31 size26 (Nat.le_of_ble_eq_true rfl) rfl fun w38 S38 => ?_)
    have X39 : Ext w w38 := Ext.step X37 S38.frmb (fun k _ hk => hk ▸ own34)
    have B40 : w38.heap[w29.heap.size]? = some (.cells #[.float .f32 q29_0r0, .float .f32 q29_0r1, .float .f32 q29_0r2] 26 (0, 0)) := S38.here
    refine da_nil ?_
    refine W_seq ?_
    refine W_region rfl ?_
    have B41 : w38.heap[w17.heap.size]? = some (.cells #[.float .f32 q17_0r0, .float .f32 q17_0r1, .float .f32 q17_0r2] 26 (0, 0)) := S38.frmb.heap sp36 (E31.heap B33)
    refine da_op rfl (d_loads (vs := #[.float .f32 q17_0r0, .float .f32 q17_0r1, .float .f32 q17_0r2]) rfl agg26 size26 B41 rfl ?_)
    have B42 : w38.heap[w7.heap.size]? = some (.cells #[.float .f32 q7_0r0, .float .f32 q7_0r1, .float .f32 q7_0r2] 26 (0, 0)) := S38.frmb.heap sp35 (E31.heap B32)
    refine da_op rfl (d_loads (vs := #[.float .f32 q7_0r0, .float .f32 q7_0r1, .float .f32 q7_0r2]) rfl agg26 size26 B42 rfl ?_)
    obtain ⟨m43, hm43, hr⟩ := letv_out hr
    refine da_op rfl (d_cl (vs := [.agg #[.float .f32 q17_0r0, .float .f32 q17_0r1, .float .f32 q17_0r2], .agg #[.float .f32 q7_0r0, .float .f32 q7_0r1, .float .f32 q7_0r2]]) en6 (ac rfl (ac rfl rfl)) rfl ?_)
    refine (c6 (⟨m15.x, m15.y, m15.z⟩ : SVector) (⟨m5.x, m5.y, m5.z⟩ : SVector) q17_0r0 q17_0r1 q17_0r2 q7_0r0 q7_0r1 q7_0r2 m43 w38 hm43 q17_0h0 q17_0h1 q17_0h2 q7_0h0 q7_0h1 q7_0h2).mono ?_
    rintro _ w44 ⟨q44_0r0, q44_0r1, q44_0r2, rfl, q44_0h0, q44_0h1, q44_0h2, E44⟩
    refine ⟨_, rfl, ?_⟩
    have X45 : Ext w w44 := X39.trans E44
    have B47 : w44.heap[w7.heap.size]? = some (.cells #[.float .f32 q7_0r0, .float .f32 q7_0r1, .float .f32 q7_0r2] 26 (0, 0)) := E44.heap B42
    have B48 : w44.heap[w17.heap.size]? = some (.cells #[.float .f32 q17_0r0, .float .f32 q17_0r1, .float .f32 q17_0r2] 26 (0, 0)) := E44.heap B41
    have B49 : w44.heap[w29.heap.size]? = some (.cells #[.float .f32 q29_0r0, .float .f32 q29_0r1, .float .f32 q29_0r2] 26 (0, 0)) := E44.heap B40
    refine da_op rfl (d_alloc (cs := #[.float .f32 0, .float .f32 0, .float .f32 0]) zero26 rfl fun w46 B46 E46 => ?_)
    have own50 : w.heap.size ≤ w44.heap.size := Nat.le_trans X45.size (Nat.le_refl _)
    have sp51 : w7.heap.size ≠ w44.heap.size := Nat.ne_of_lt (Nat.lt_of_lt_of_le (lt_heap B47) (Nat.le_refl _))
    have sp52 : w17.heap.size ≠ w44.heap.size := Nat.ne_of_lt (Nat.lt_of_lt_of_le (lt_heap B48) (Nat.le_refl _))
    have sp53 : w29.heap.size ≠ w44.heap.size := Nat.ne_of_lt (Nat.lt_of_lt_of_le (lt_heap B49) (Nat.le_refl _))
    have X54 : Ext w w46 := X45.trans E46
    refine da_op rfl (d_store (vs := #[.float .f32 q44_0r0, .float .f32 q44_0r1, .float .f32 q44_0r2]) rfl rfl B46 size26 (Nat.le_of_ble_eq_true rfl) rfl fun w55 S55 => ?_)
    have X56 : Ext w w55 := Ext.step X54 S55.frmb (fun k _ hk => hk ▸ own50)
    have B57 : w55.heap[w44.heap.size]? = some (.cells #[.float .f32 q44_0r0, .float .f32 q44_0r1, .float .f32 q44_0r2] 26 (0, 0)) := S55.here
    refine da_nil ?_
    refine W_seq ?_
    have B59 : RS w55 encI_u8 (Value.slice p0a p0n p0c) p0 := p0R.ext X56
    have B60 : RS w55 encI_u8 (Value.slice p1a p1n p1c) p1 := p1R.ext X56
    have B61 : w55.heap[w7.heap.size]? = some (.cells #[.float .f32 q7_0r0, .float .f32 q7_0r1, .float .f32 q7_0r2] 26 (0, 0)) := S55.frmb.heap sp51 (E46.heap B47)
    have B62 : w55.heap[w17.heap.size]? = some (.cells #[.float .f32 q17_0r0, .float .f32 q17_0r1, .float .f32 q17_0r2] 26 (0, 0)) := S55.frmb.heap sp52 (E46.heap B48)
    have B63 : w55.heap[w29.heap.size]? = some (.cells #[.float .f32 q29_0r0, .float .f32 q29_0r1, .float .f32 q29_0r2] 26 (0, 0)) := S55.frmb.heap sp53 (E46.heap B49)
    obtain ⟨m64, hm64, hr⟩ := letv_out hr
    obtain ⟨m65, hm65, hr⟩ := letv_out hr
    refine W_anyT 6 [] [{ V := fun _ v _ => v = (.agg #[.float .f32 q17_0r0, .float .f32 q17_0r1, .float .f32 q17_0r2]) }, { V := fun _ v _ => v = (.agg #[.float .f32 q7_0r0, .float .f32 q7_0r1, .float .f32 q7_0r2]) }, { V := fun _ v _ => v = (.agg #[.float .f32 q17_0r0, .float .f32 q17_0r1, .float .f32 q17_0r2]) }, { V := fun _ v _ => ∃ d58_3_0r0 : Nat, ∃ d58_3_0r1 : Nat, ∃ d58_3_0r2 : Nat, v = (.agg #[.float .f32 d58_3_0r0, .float .f32 d58_3_0r1, .float .f32 d58_3_0r2]) ∧ cn .f32 d58_3_0r0 = m64.x ∧ cn .f32 d58_3_0r1 = m64.y ∧ cn .f32 d58_3_0r2 = m64.z }, { V := fun _ v _ => ∃ d58_4_0r0 : Nat, ∃ d58_4_0r1 : Nat, ∃ d58_4_0r2 : Nat, v = (.agg #[.float .f32 d58_4_0r0, .float .f32 d58_4_0r1, .float .f32 d58_4_0r2]) ∧ cn .f32 d58_4_0r0 = m65.x ∧ cn .f32 d58_4_0r1 = m65.y ∧ cn .f32 d58_4_0r2 = m65.z }, { V := fun _ v w' => ∃ d58_5b : Nat, v = (.pointer (some ⟨d58_5b, 0, none⟩)) ∧ w55.heap.size ≤ d58_5b ∧ w'.heap[d58_5b]? = some (.cells #[.float .f32 0, .float .f32 0, .float .f32 0] 26 (0, 0)) }] mixed (by kernel_rfl) ⟨trivial, trivial, trivial, trivial, trivial, trivial, trivial⟩ ⟨?_, ?_, ?_, ?_, ?_, ?_, trivial⟩ ?_
    · skip
      refine ⟨fun _ _ _ _ _ _ h _ => h, fun _ _ h _ => h, fun σ' w' hA hE hD hP => ?_⟩
      have t6 : σ' 6 = .pointer (some ⟨w17.heap.size, 0, none⟩) := (hA 6 rfl).trans rfl
      have B0_66 : w'.heap[w17.heap.size]? = some (.cells #[.float .f32 q17_0r0, .float .f32 q17_0r1, .float .f32 q17_0r2] 26 (0, 0)) := hE.heap not_oth0 B62
      refine dg_op rfl (d_loads (vs := #[.float .f32 q17_0r0, .float .f32 q17_0r1, .float .f32 q17_0r2]) t6 agg26 size26 B0_66 rfl ?_)
      exact ⟨rfl, own_none (Ext.refl w')⟩
    · skip
      refine ⟨fun _ _ _ _ _ _ h _ => h, fun _ _ h _ => h, fun σ' w' hA hE hD hP => ?_⟩
      have t5 : σ' 5 = .pointer (some ⟨w7.heap.size, 0, none⟩) := (hA 5 rfl).trans rfl
      have B0_67 : w'.heap[w7.heap.size]? = some (.cells #[.float .f32 q7_0r0, .float .f32 q7_0r1, .float .f32 q7_0r2] 26 (0, 0)) := hE.heap not_oth0 B61
      refine dg_op rfl (d_loads (vs := #[.float .f32 q7_0r0, .float .f32 q7_0r1, .float .f32 q7_0r2]) t5 agg26 size26 B0_67 rfl ?_)
      exact ⟨rfl, own_none (Ext.refl w')⟩
    · skip
      refine ⟨fun _ _ _ _ _ _ h _ => h, fun _ _ h _ => h, fun σ' w' hA hE hD hP => ?_⟩
      have t6 : σ' 6 = .pointer (some ⟨w17.heap.size, 0, none⟩) := (hA 6 rfl).trans rfl
      have B0_68 : w'.heap[w17.heap.size]? = some (.cells #[.float .f32 q17_0r0, .float .f32 q17_0r1, .float .f32 q17_0r2] 26 (0, 0)) := hE.heap not_oth0 B62
      refine dg_op rfl (d_loads (vs := #[.float .f32 q17_0r0, .float .f32 q17_0r1, .float .f32 q17_0r2]) t6 agg26 size26 B0_68 rfl ?_)
      exact ⟨rfl, own_none (Ext.refl w')⟩
    · skip
      refine ⟨fun _ _ _ _ _ _ h _ => h, fun _ _ h _ => h, fun σ' w' hA hE hD hP => ?_⟩
      have t29 : σ' 29 = (.agg #[.float .f32 q7_0r0, .float .f32 q7_0r1, .float .f32 q7_0r2]) := hD 1 rfl
      have t30 : σ' 30 = (.agg #[.float .f32 q17_0r0, .float .f32 q17_0r1, .float .f32 q17_0r2]) := hD 2 rfl
      refine dg_op rfl (d_cl (vs := [.agg #[.float .f32 q7_0r0, .float .f32 q7_0r1, .float .f32 q7_0r2], .agg #[.float .f32 q17_0r0, .float .f32 q17_0r1, .float .f32 q17_0r2]]) en8 (ac t29 (ac t30 rfl)) rfl ?_)
      refine (c8 (⟨m5.x, m5.y, m5.z⟩ : SVector) (⟨m15.x, m15.y, m15.z⟩ : SVector) q7_0r0 q7_0r1 q7_0r2 q17_0r0 q17_0r1 q17_0r2 m64 w' hm64 q7_0h0 q7_0h1 q7_0h2 q17_0h0 q17_0h1 q17_0h2).mono ?_
      rintro _ w69 ⟨q69_0r0, q69_0r1, q69_0r2, rfl, q69_0h0, q69_0h1, q69_0h2, E69⟩
      refine ⟨_, rfl, ?_⟩
      have X70 : Ext w' w69 := (Ext.refl w').trans E69
      exact ⟨⟨q69_0r0, q69_0r1, q69_0r2, rfl, q69_0h0, q69_0h1, q69_0h2⟩, own_none X70⟩
    · skip
      refine ⟨fun _ _ _ _ _ _ h _ => h, fun _ _ h _ => h, fun σ' w' hA hE hD hP => ?_⟩
      have t28 : σ' 28 = (.agg #[.float .f32 q17_0r0, .float .f32 q17_0r1, .float .f32 q17_0r2]) := hD 0 rfl
      obtain ⟨d58_3_0r0, d58_3_0r1, d58_3_0r2, t31, d58_3_0h0, d58_3_0h1, d58_3_0h2⟩ : ∃ d58_3_0r0 : Nat, ∃ d58_3_0r1 : Nat, ∃ d58_3_0r2 : Nat, σ' 31 = (.agg #[.float .f32 d58_3_0r0, .float .f32 d58_3_0r1, .float .f32 d58_3_0r2]) ∧ cn .f32 d58_3_0r0 = m64.x ∧ cn .f32 d58_3_0r1 = m64.y ∧ cn .f32 d58_3_0r2 = m64.z := hD 3 rfl
      refine dg_op rfl (d_cl (vs := [.agg #[.float .f32 q17_0r0, .float .f32 q17_0r1, .float .f32 q17_0r2], .agg #[.float .f32 d58_3_0r0, .float .f32 d58_3_0r1, .float .f32 d58_3_0r2]]) en7 (ac t28 (ac t31 rfl)) rfl ?_)
      refine (c7 (⟨m15.x, m15.y, m15.z⟩ : SVector) m64 q17_0r0 q17_0r1 q17_0r2 d58_3_0r0 d58_3_0r1 d58_3_0r2 m65 w' hm65 q17_0h0 q17_0h1 q17_0h2 d58_3_0h0 d58_3_0h1 d58_3_0h2).mono ?_
      rintro _ w71 ⟨q71_0r0, q71_0r1, q71_0r2, rfl, q71_0h0, q71_0h1, q71_0h2, E71⟩
      refine ⟨_, rfl, ?_⟩
      have X72 : Ext w' w71 := (Ext.refl w').trans E71
      exact ⟨⟨q71_0r0, q71_0r1, q71_0r2, rfl, q71_0h0, q71_0h1, q71_0h2⟩, own_none X72⟩
    · skip
      refine ⟨fun _ _ _ w' w'' _ ⟨d58_5b, hv, d58_5ble, d58_5bB⟩ hF => ⟨d58_5b, hv, d58_5ble, hF.heap not_oth0 d58_5bB⟩, fun _ _ h _ => h, fun σ' w' hA hE hD hP => ?_⟩
      refine dg_op rfl (d_alloc (cs := #[.float .f32 0, .float .f32 0, .float .f32 0]) zero26 rfl fun w73 B73 E73 => ?_)
      have X75 : Ext w' w73 := (Ext.refl w').trans E73
      exact ⟨⟨w'.heap.size, rfl, hE.size, B73⟩, own_none X75⟩
    · skip
      intro σ58 w58 A58 E58 V58
      have E58x : Ext w55 w58 := ext_of_oth0 E58
      obtain ⟨z58_9_5b, s9_58, z58_9_5ble, z58_9_5bB⟩ : ∃ z58_9_5b : Nat, σ58 9 = (.pointer (some ⟨z58_9_5b, 0, none⟩)) ∧ w55.heap.size ≤ z58_9_5b ∧ w58.heap[z58_9_5b]? = some (.cells #[.float .f32 0, .float .f32 0, .float .f32 0] 26 (0, 0)) := V58 5 (Nat.le_of_ble_eq_true rfl)
      obtain ⟨z58_32_4_0r0, z58_32_4_0r1, z58_32_4_0r2, s32_58, z58_32_4_0h0, z58_32_4_0h1, z58_32_4_0h2⟩ : ∃ z58_32_4_0r0 : Nat, ∃ z58_32_4_0r1 : Nat, ∃ z58_32_4_0r2 : Nat, σ58 32 = (.agg #[.float .f32 z58_32_4_0r0, .float .f32 z58_32_4_0r1, .float .f32 z58_32_4_0r2]) ∧ cn .f32 z58_32_4_0r0 = m65.x ∧ cn .f32 z58_32_4_0r1 = m65.y ∧ cn .f32 z58_32_4_0r2 = m65.z := V58 4 (Nat.le_of_ble_eq_true rfl)
      have own76 : w.heap.size ≤ z58_9_5b := Nat.le_trans X56.size z58_9_5ble
      have sp77 : w7.heap.size ≠ z58_9_5b := Nat.ne_of_lt (Nat.lt_of_lt_of_le (lt_heap B61) z58_9_5ble)
      have sp78 : w17.heap.size ≠ z58_9_5b := Nat.ne_of_lt (Nat.lt_of_lt_of_le (lt_heap B62) z58_9_5ble)
      have sp79 : w29.heap.size ≠ z58_9_5b := Nat.ne_of_lt (Nat.lt_of_lt_of_le (lt_heap B63) z58_9_5ble)
      have sp80 : w44.heap.size ≠ z58_9_5b := Nat.ne_of_lt (Nat.lt_of_lt_of_le (lt_heap B57) z58_9_5ble)
      have s0_58 : σ58 0 = (Value.slice p0a p0n p0c) := (A58 0 rfl).trans rfl
      have s5_58 : σ58 5 = .pointer (some ⟨w7.heap.size, 0, none⟩) := (A58 5 rfl).trans rfl
      have s6_58 : σ58 6 = .pointer (some ⟨w17.heap.size, 0, none⟩) := (A58 6 rfl).trans rfl
      have s7_58 : σ58 7 = .pointer (some ⟨w29.heap.size, 0, none⟩) := (A58 7 rfl).trans rfl
      have s8_58 : σ58 8 = .pointer (some ⟨w44.heap.size, 0, none⟩) := (A58 8 rfl).trans rfl
      have X81 : Ext w w58 := X56.trans E58x
      refine da_op rfl (d_store (vs := #[.float .f32 z58_32_4_0r0, .float .f32 z58_32_4_0r1, .float .f32 z58_32_4_0r2]) s9_58 (congrArg Value.cells s32_58) z58_9_5bB size26 (Nat.le_of_ble_eq_true rfl) rfl fun w82 S82 => ?_)
      have X83 : Ext w w82 := Ext.step X81 S82.frmb (fun k _ hk => hk ▸ own76)
      have B84 : w82.heap[z58_9_5b]? = some (.cells #[.float .f32 z58_32_4_0r0, .float .f32 z58_32_4_0r1, .float .f32 z58_32_4_0r2] 26 (0, 0)) := S82.here
      refine da_nil ?_
      refine W_seq ?_
      refine W_region rfl ?_
      have B85 : w82.heap[w7.heap.size]? = some (.cells #[.float .f32 q7_0r0, .float .f32 q7_0r1, .float .f32 q7_0r2] 26 (0, 0)) := S82.frmb.heap sp77 (E58x.heap B61)
      refine da_op rfl (d_loads (vs := #[.float .f32 q7_0r0, .float .f32 q7_0r1, .float .f32 q7_0r2]) s5_58 agg26 size26 B85 rfl ?_)
      obtain ⟨m86, hm86, hr⟩ := letv_out hr
      have B87 : w82.heap[w17.heap.size]? = some (.cells #[.float .f32 q17_0r0, .float .f32 q17_0r1, .float .f32 q17_0r2] 26 (0, 0)) := S82.frmb.heap sp78 (E58x.heap B62)
      have B88 : w82.heap[w29.heap.size]? = some (.cells #[.float .f32 q29_0r0, .float .f32 q29_0r1, .float .f32 q29_0r2] 26 (0, 0)) := S82.frmb.heap sp79 (E58x.heap B63)
      have B89 : w82.heap[w44.heap.size]? = some (.cells #[.float .f32 q44_0r0, .float .f32 q44_0r1, .float .f32 q44_0r2] 26 (0, 0)) := S82.frmb.heap sp80 (E58x.heap B57)
      refine da_op rfl (d_cl (vs := [.agg #[.float .f32 q7_0r0, .float .f32 q7_0r1, .float .f32 q7_0r2], .float .f32 1073741824]) en9 (ac rfl (ac rfl rfl)) rfl ?_)
      refine (c9 (⟨m5.x, m5.y, m5.z⟩ : SVector) 1073741824 q7_0r0 q7_0r1 q7_0r2 1073741824 m86 w82 hm86 q7_0h0 q7_0h1 q7_0h2 cn_f32_1073741824).mono ?_
      rintro _ w90 ⟨q90_0r0, q90_0r1, q90_0r2, rfl, q90_0h0, q90_0h1, q90_0h2, E90⟩
      refine ⟨_, rfl, ?_⟩
      have X91 : Ext w w90 := X83.trans E90
      have B93 : w90.heap[w7.heap.size]? = some (.cells #[.float .f32 q7_0r0, .float .f32 q7_0r1, .float .f32 q7_0r2] 26 (0, 0)) := E90.heap B85
      have B94 : w90.heap[w17.heap.size]? = some (.cells #[.float .f32 q17_0r0, .float .f32 q17_0r1, .float .f32 q17_0r2] 26 (0, 0)) := E90.heap B87
      have B95 : w90.heap[w29.heap.size]? = some (.cells #[.float .f32 q29_0r0, .float .f32 q29_0r1, .float .f32 q29_0r2] 26 (0, 0)) := E90.heap B88
      have B96 : w90.heap[w44.heap.size]? = some (.cells #[.float .f32 q44_0r0, .float .f32 q44_0r1, .float .f32 q44_0r2] 26 (0, 0)) := E90.heap B89
      have B97 : w90.heap[z58_9_5b]? = some (.cells #[.float .f32 z58_32_4_0r0, .float .f32 z58_32_4_0r1, .float .f32 z58_32_4_0r2] 26 (0, 0)) := E90.heap B84
      refine da_op rfl (d_alloc (cs := #[.float .f32 0, .float .f32 0, .float .f32 0]) zero26 rfl fun w92 B92 E92 => ?_)
      have own98 : w.heap.size ≤ w90.heap.size := Nat.le_trans X91.size (Nat.le_refl _)
      have sp99 : w7.heap.size ≠ w90.heap.size := Nat.ne_of_lt (Nat.lt_of_lt_of_le (lt_heap B93) (Nat.le_refl _))
      have sp100 : w17.heap.size ≠ w90.heap.size := Nat.ne_of_lt (Nat.lt_of_lt_of_le (lt_heap B94) (Nat.le_refl _))
      have sp101 : w29.heap.size ≠ w90.heap.size := Nat.ne_of_lt (Nat.lt_of_lt_of_le (lt_heap B95) (Nat.le_refl _))
      have sp102 : w44.heap.size ≠ w90.heap.size := Nat.ne_of_lt (Nat.lt_of_lt_of_le (lt_heap B96) (Nat.le_refl _))
      have sp103 : z58_9_5b ≠ w90.heap.size := Nat.ne_of_lt (Nat.lt_of_lt_of_le (lt_heap B97) (Nat.le_refl _))
      have X104 : Ext w w92 := X91.trans E92
      refine da_op rfl (d_store (vs := #[.float .f32 q90_0r0, .float .f32 q90_0r1, .float .f32 q90_0r2]) rfl rfl B92 size26 (Nat.le_of_ble_eq_true rfl) rfl fun w105 S105 => ?_)
      have X106 : Ext w w105 := Ext.step X104 S105.frmb (fun k _ hk => hk ▸ own98)
      have B107 : w105.heap[w90.heap.size]? = some (.cells #[.float .f32 q90_0r0, .float .f32 q90_0r1, .float .f32 q90_0r2] 26 (0, 0)) := S105.here
      refine da_nil ?_
      refine W_seq ?_
      refine W_seq ?_
      have B109 : RS w105 encI_u8 (Value.slice p0a p0n p0c) p0 := p0R.ext X106
      have B110 : RS w105 encI_u8 (Value.slice p1a p1n p1c) p1 := p1R.ext X106
      have B111 : w105.heap[w7.heap.size]? = some (.cells #[.float .f32 q7_0r0, .float .f32 q7_0r1, .float .f32 q7_0r2] 26 (0, 0)) := S105.frmb.heap sp99 (E92.heap B93)
      have B112 : w105.heap[w17.heap.size]? = some (.cells #[.float .f32 q17_0r0, .float .f32 q17_0r1, .float .f32 q17_0r2] 26 (0, 0)) := S105.frmb.heap sp100 (E92.heap B94)
      have B113 : w105.heap[w29.heap.size]? = some (.cells #[.float .f32 q29_0r0, .float .f32 q29_0r1, .float .f32 q29_0r2] 26 (0, 0)) := S105.frmb.heap sp101 (E92.heap B95)
      have B114 : w105.heap[w44.heap.size]? = some (.cells #[.float .f32 q44_0r0, .float .f32 q44_0r1, .float .f32 q44_0r2] 26 (0, 0)) := S105.frmb.heap sp102 (E92.heap B96)
      have B115 : w105.heap[z58_9_5b]? = some (.cells #[.float .f32 z58_32_4_0r0, .float .f32 z58_32_4_0r1, .float .f32 z58_32_4_0r2] 26 (0, 0)) := S105.frmb.heap sp103 (E92.heap B97)
      obtain ⟨m116, hm116, hr⟩ := letv_out hr
      obtain ⟨m117, hm117, hr⟩ := letv_out hr
      obtain ⟨m118, hm118, hr⟩ := letv_out hr
      obtain ⟨m119, hm119, hr⟩ := letv_out hr
      obtain ⟨m120, hm120, hr⟩ := letv_out hr
      obtain ⟨m121, hm121, hr⟩ := letv_out hr
      obtain ⟨m122, hm122, hr⟩ := letv_out hr
      obtain ⟨m123, hm123, hr⟩ := letv_out hr
      obtain ⟨m124, hm124, hr⟩ := letv_out hr
      obtain ⟨m125, hm125, hr⟩ := letv_out hr
      obtain ⟨m126, hm126, hr⟩ := letv_out hr
      obtain ⟨m127, hm127, hr⟩ := letv_out hr
      obtain ⟨m128, hm128, hr⟩ := letv_out hr
      refine W_any [] [{ V := fun _ v _ => v = (.agg #[.float .f32 z58_32_4_0r0, .float .f32 z58_32_4_0r1, .float .f32 z58_32_4_0r2]) }, { V := fun _ v _ => v = (.agg #[.float .f32 q7_0r0, .float .f32 q7_0r1, .float .f32 q7_0r2]) }, { V := fun _ v _ => v = (.bool m116) }, { V := fun _ v _ => v = (.bool (!m116)) }, { V := fun _ v _ => v = (.bool (!m116)) }, { V := fun _ v _ => ((!m116) = false → v = (.agg #[.float .f32 q29_0r0, .float .f32 q29_0r1, .float .f32 q29_0r2])) }, { V := fun _ v _ => ((!m116) = false → v = (.agg #[.float .f32 q7_0r0, .float .f32 q7_0r1, .float .f32 q7_0r2])) }, { V := fun _ v _ => ((!m116) = false → ∃ d108_7_0r : Nat, v = (.float .f32 d108_7_0r) ∧ cn .f32 d108_7_0r = m117) }, { V := fun _ v _ => ((!m116) = false → v = (.bool (fcmp .neq .f32 m117 0))) }, { V := fun _ v _ => v = (.bool (bif (!m116) then true else (fcmp .neq .f32 m117 0))) }, { V := fun _ v _ => v = (.bool (bif (!m116) then true else (fcmp .neq .f32 m117 0))) }, { V := fun _ v _ => ((bif (!m116) then true else (fcmp .neq .f32 m117 0)) = false → v = (.agg #[.float .f32 q29_0r0, .float .f32 q29_0r1, .float .f32 q29_0r2])) }, { V := fun _ v _ => ((bif (!m116) then true else (fcmp .neq .f32 m117 0)) = false → v = (.agg #[.float .f32 q17_0r0, .float .f32 q17_0r1, .float .f32 q17_0r2])) }, { V := fun _ v _ => ((bif (!m116) then true else (fcmp .neq .f32 m117 0)) = false → ∃ d108_13_0r : Nat, v = (.float .f32 d108_13_0r) ∧ cn .f32 d108_13_0r = m118) }, { V := fun _ v _ => ((bif (!m116) then true else (fcmp .neq .f32 m117 0)) = false → v = (.bool (fcmp .neq .f32 m118 0))) }, { V := fun _ v _ => v = (.bool (bif (bif (!m116) then true else (fcmp .neq .f32 m117 0)) then true else (fcmp .neq .f32 m118 0))) }, { V := fun _ v _ => v = (.bool (bif (bif (!m116) then true else (fcmp .neq .f32 m117 0)) then true else (fcmp .neq .f32 m118 0))) }, { V := fun _ v _ => ((bif (bif (!m116) then true else (fcmp .neq .f32 m117 0)) then true else (fcmp .neq .f32 m118 0)) = false → v = (.agg #[.float .f32 q29_0r0, .float .f32 q29_0r1, .float .f32 q29_0r2])) }, { V := fun _ v _ => ((bif (bif (!m116) then true else (fcmp .neq .f32 m117 0)) then true else (fcmp .neq .f32 m118 0)) = false → v = (.agg #[.float .f32 q44_0r0, .float .f32 q44_0r1, .float .f32 q44_0r2])) }, { V := fun _ v _ => ((bif (bif (!m116) then true else (fcmp .neq .f32 m117 0)) then true else (fcmp .neq .f32 m118 0)) = false → ∃ d108_19_0r0 : Nat, ∃ d108_19_0r1 : Nat, ∃ d108_19_0r2 : Nat, v = (.agg #[.float .f32 d108_19_0r0, .float .f32 d108_19_0r1, .float .f32 d108_19_0r2]) ∧ cn .f32 d108_19_0r0 = m119.x ∧ cn .f32 d108_19_0r1 = m119.y ∧ cn .f32 d108_19_0r2 = m119.z) }, { V := fun _ v _ => ((bif (bif (!m116) then true else (fcmp .neq .f32 m117 0)) then true else (fcmp .neq .f32 m118 0)) = false → v = (.bool m120)) }, { V := fun _ v _ => ((bif (bif (!m116) then true else (fcmp .neq .f32 m117 0)) then true else (fcmp .neq .f32 m118 0)) = false → v = (.bool (!m120))) }, { V := fun _ v _ => v = (.bool (bif (bif (bif (!m116) then true else (fcmp .neq .f32 m117 0)) then true else (fcmp .neq .f32 m118 0)) then true else (!m120))) }, { V := fun _ v _ => v = (.bool (bif (bif (bif (!m116) then true else (fcmp .neq .f32 m117 0)) then true else (fcmp .neq .f32 m118 0)) then true else (!m120))) }, { V := fun _ v _ => ((bif (bif (bif (!m116) then true else (fcmp .neq .f32 m117 0)) then true else (fcmp .neq .f32 m118 0)) then true else (!m120)) = false → v = (.agg #[.float .f32 q90_0r0, .float .f32 q90_0r1, .float .f32 q90_0r2])) }, { V := fun _ v _ => ((bif (bif (bif (!m116) then true else (fcmp .neq .f32 m117 0)) then true else (fcmp .neq .f32 m118 0)) then true else (!m120)) = false → v = (.agg #[.float .f32 q7_0r0, .float .f32 q7_0r1, .float .f32 q7_0r2])) }, { V := fun _ v _ => ((bif (bif (bif (!m116) then true else (fcmp .neq .f32 m117 0)) then true else (fcmp .neq .f32 m118 0)) then true else (!m120)) = false → v = (.agg #[.float .f32 q7_0r0, .float .f32 q7_0r1, .float .f32 q7_0r2])) }, { V := fun _ v _ => ((bif (bif (bif (!m116) then true else (fcmp .neq .f32 m117 0)) then true else (fcmp .neq .f32 m118 0)) then true else (!m120)) = false → ∃ d108_27_0r0 : Nat, ∃ d108_27_0r1 : Nat, ∃ d108_27_0r2 : Nat, v = (.agg #[.float .f32 d108_27_0r0, .float .f32 d108_27_0r1, .float .f32 d108_27_0r2]) ∧ cn .f32 d108_27_0r0 = m121.x ∧ cn .f32 d108_27_0r1 = m121.y ∧ cn .f32 d108_27_0r2 = m121.z) }, { V := fun _ v _ => ((bif (bif (bif (!m116) then true else (fcmp .neq .f32 m117 0)) then true else (fcmp .neq .f32 m118 0)) then true else (!m120)) = false → v = (.bool m122)) }, { V := fun _ v _ => ((bif (bif (bif (!m116) then true else (fcmp .neq .f32 m117 0)) then true else (fcmp .neq .f32 m118 0)) then true else (!m120)) = false → v = (.bool (!m122))) }, { V := fun _ v _ => v = (.bool (bif (bif (bif (bif (!m116) then true else (fcmp .neq .f32 m117 0)) then true else (fcmp .neq .f32 m118 0)) then true else (!m120)) then true else (!m122))) }, { V := fun _ v _ => v = (.bool (bif (bif (bif (bif (!m116) then true else (fcmp .neq .f32 m117 0)) then true else (fcmp .neq .f32 m118 0)) then true else (!m120)) then true else (!m122))) }, { V := fun _ v _ => ((bif (bif (bif (bif (!m116) then true else (fcmp .neq .f32 m117 0)) then true else (fcmp .neq .f32 m118 0)) then true else (!m120)) then true else (!m122)) = false → v = (.agg #[.float .f32 q7_0r0, .float .f32 q7_0r1, .float .f32 q7_0r2])) }, { V := fun _ v _ => ((bif (bif (bif (bif (!m116) then true else (fcmp .neq .f32 m117 0)) then true else (fcmp .neq .f32 m118 0)) then true else (!m120)) then true else (!m122)) = false → v = (.agg #[.float .f32 q7_0r0, .float .f32 q7_0r1, .float .f32 q7_0r2])) }, { V := fun _ v _ => ((bif (bif (bif (bif (!m116) then true else (fcmp .neq .f32 m117 0)) then true else (fcmp .neq .f32 m118 0)) then true else (!m120)) then true else (!m122)) = false → ∃ d108_34_0r : Nat, v = (.float .f32 d108_34_0r) ∧ cn .f32 d108_34_0r = m123) }, { V := fun _ v _ => ((bif (bif (bif (bif (!m116) then true else (fcmp .neq .f32 m117 0)) then true else (fcmp .neq .f32 m118 0)) then true else (!m120)) then true else (!m122)) = false → v = (.agg #[.float .f32 q7_0r0, .float .f32 q7_0r1, .float .f32 q7_0r2])) }, { V := fun _ v _ => ((bif (bif (bif (bif (!m116) then true else (fcmp .neq .f32 m117 0)) then true else (fcmp .neq .f32 m118 0)) then true else (!m120)) then true else (!m122)) = false → ∃ d108_36_0r : Nat, v = (.float .f32 d108_36_0r) ∧ cn .f32 d108_36_0r = m124) }, { V := fun _ v _ => ((bif (bif (bif (bif (!m116) then true else (fcmp .neq .f32 m117 0)) then true else (fcmp .neq .f32 m118 0)) then true else (!m120)) then true else (!m122)) = false → v = (.bool (fcmp .neq .f32 m123 m124))) }, { V := fun _ v _ => v = (.bool (bif (bif (bif (bif (bif (!m116) then true else (fcmp .neq .f32 m117 0)) then true else (fcmp .neq .f32 m118 0)) then true else (!m120)) then true else (!m122)) then true else (fcmp .neq .f32 m123 m124))) }, { V := fun _ v _ => v = (.bool (bif (bif (bif (bif (bif (!m116) then true else (fcmp .neq .f32 m117 0)) then true else (fcmp .neq .f32 m118 0)) then true else (!m120)) then true else (!m122)) then true else (fcmp .neq .f32 m123 m124))) }, { V := fun _ v _ => ((bif (bif (bif (bif (bif (!m116) then true else (fcmp .neq .f32 m117 0)) then true else (fcmp .neq .f32 m118 0)) then true else (!m120)) then true else (!m122)) then true else (fcmp .neq .f32 m123 m124)) = false → v = (.agg #[.float .f32 q7_0r0, .float .f32 q7_0r1, .float .f32 q7_0r2])) }, { V := fun _ v _ => ((bif (bif (bif (bif (bif (!m116) then true else (fcmp .neq .f32 m117 0)) then true else (fcmp .neq .f32 m118 0)) then true else (!m120)) then true else (!m122)) then true else (fcmp .neq .f32 m123 m124)) = false → ∃ d108_41_0r : Nat, v = (.float .f32 d108_41_0r) ∧ cn .f32 d108_41_0r = m125) }, { V := fun _ v _ => ((bif (bif (bif (bif (bif (!m116) then true else (fcmp .neq .f32 m117 0)) then true else (fcmp .neq .f32 m118 0)) then true else (!m120)) then true else (!m122)) then true else (fcmp .neq .f32 m123 m124)) = false → v = (.agg #[.float .f32 q7_0r0, .float .f32 q7_0r1, .float .f32 q7_0r2])) }, { V := fun _ v _ => ((bif (bif (bif (bif (bif (!m116) then true else (fcmp .neq .f32 m117 0)) then true else (fcmp .neq .f32 m118 0)) then true else (!m120)) then true else (!m122)) then true else (fcmp .neq .f32 m123 m124)) = false → ∃ d108_43_0r : Nat, v = (.float .f32 d108_43_0r) ∧ cn .f32 d108_43_0r = m126) }, { V := fun _ v _ => ((bif (bif (bif (bif (bif (!m116) then true else (fcmp .neq .f32 m117 0)) then true else (fcmp .neq .f32 m118 0)) then true else (!m120)) then true else (!m122)) then true else (fcmp .neq .f32 m123 m124)) = false → ∃ d108_44_0r : Nat, v = (.float .f32 d108_44_0r) ∧ cn .f32 d108_44_0r = m127) }, { V := fun _ v _ => ((bif (bif (bif (bif (bif (!m116) then true else (fcmp .neq .f32 m117 0)) then true else (fcmp .neq .f32 m118 0)) then true else (!m120)) then true else (!m122)) then true else (fcmp .neq .f32 m123 m124)) = false → v = (.bool m128)) }, { V := fun _ v _ => ((bif (bif (bif (bif (bif (!m116) then true else (fcmp .neq .f32 m117 0)) then true else (fcmp .neq .f32 m118 0)) then true else (!m120)) then true else (!m122)) then true else (fcmp .neq .f32 m123 m124)) = false → v = (.bool (!m128))) }, { V := fun _ v _ => v = (.bool (bif (bif (bif (bif (bif (bif (!m116) then true else (fcmp .neq .f32 m117 0)) then true else (fcmp .neq .f32 m118 0)) then true else (!m120)) then true else (!m122)) then true else (fcmp .neq .f32 m123 m124)) then true else (!m128))) }] mixed (by kernel_rfl) ⟨trivial, trivial, trivial, trivial, trivial, trivial, trivial, trivial, trivial, trivial, trivial, trivial, trivial, trivial, trivial, trivial, trivial, trivial, trivial, trivial, trivial, trivial, trivial, trivial, trivial, trivial, trivial, trivial, trivial, trivial, trivial, trivial, trivial, trivial, trivial, trivial, trivial, trivial, trivial, trivial, trivial, trivial, trivial, trivial, trivial, trivial, trivial, trivial, trivial⟩ ⟨?_, ?_, ?_, ?_, ?_, ?_, ?_, ?_, ?_, ?_, ?_, ?_, ?_, ?_, ?_, ?_, ?_, ?_, ?_, ?_, ?_, ?_, ?_, ?_, ?_, ?_, ?_, ?_, ?_, ?_, ?_, ?_, ?_, ?_, ?_, ?_, ?_, ?_, ?_, ?_, ?_, ?_, ?_, ?_, ?_, ?_, ?_, ?_, trivial⟩ ?_
      · skip
        refine ⟨fun _ _ _ _ _ _ h _ => h, fun _ _ h _ => h, fun σ' w' hA hE hD hP => ?_⟩
        have t9 : σ' 9 = .pointer (some ⟨z58_9_5b, 0, none⟩) := (hA 9 rfl).trans s9_58
        have B0_129 : w'.heap[z58_9_5b]? = some (.cells #[.float .f32 z58_32_4_0r0, .float .f32 z58_32_4_0r1, .float .f32 z58_32_4_0r2] 26 (0, 0)) := hE.heap not_oth0 B115
        refine dg_op rfl (d_loads (vs := #[.float .f32 z58_32_4_0r0, .float .f32 z58_32_4_0r1, .float .f32 z58_32_4_0r2]) t9 agg26 size26 B0_129 rfl ?_)
        exact ⟨rfl, own_none (Ext.refl w')⟩
      · skip
        refine ⟨fun _ _ _ _ _ _ h _ => h, fun _ _ h _ => h, fun σ' w' hA hE hD hP => ?_⟩
        have t5 : σ' 5 = .pointer (some ⟨w7.heap.size, 0, none⟩) := (hA 5 rfl).trans s5_58
        have B0_130 : w'.heap[w7.heap.size]? = some (.cells #[.float .f32 q7_0r0, .float .f32 q7_0r1, .float .f32 q7_0r2] 26 (0, 0)) := hE.heap not_oth0 B111
        refine dg_op rfl (d_loads (vs := #[.float .f32 q7_0r0, .float .f32 q7_0r1, .float .f32 q7_0r2]) t5 agg26 size26 B0_130 rfl ?_)
        exact ⟨rfl, own_none (Ext.refl w')⟩
      · skip
        refine ⟨fun _ _ _ _ _ _ h _ => h, fun _ _ h _ => h, fun σ' w' hA hE hD hP => ?_⟩
        have t35 : σ' 35 = (.agg #[.float .f32 z58_32_4_0r0, .float .f32 z58_32_4_0r1, .float .f32 z58_32_4_0r2]) := hD 0 rfl
        have t36 : σ' 36 = (.agg #[.float .f32 q7_0r0, .float .f32 q7_0r1, .float .f32 q7_0r2]) := hD 1 rfl
        refine dg_op rfl (d_cl (vs := [.agg #[.float .f32 z58_32_4_0r0, .float .f32 z58_32_4_0r1, .float .f32 z58_32_4_0r2], .agg #[.float .f32 q7_0r0, .float .f32 q7_0r1, .float .f32 q7_0r2]]) en10 (ac t35 (ac t36 rfl)) rfl ?_)
        refine (c10 (⟨m65.x, m65.y, m65.z⟩ : SVector) (⟨m5.x, m5.y, m5.z⟩ : SVector) z58_32_4_0r0 z58_32_4_0r1 z58_32_4_0r2 q7_0r0 q7_0r1 q7_0r2 m116 w' hm116 z58_32_4_0h0 z58_32_4_0h1 z58_32_4_0h2 q7_0h0 q7_0h1 q7_0h2).mono ?_
        rintro _ w131 ⟨rfl, E131⟩
        refine ⟨_, rfl, ?_⟩
        have X132 : Ext w' w131 := (Ext.refl w').trans E131
        exact ⟨rfl, own_none X132⟩
      · skip
        refine ⟨fun _ _ _ _ _ _ h _ => h, fun _ _ h _ => h, fun σ' w' hA hE hD hP => ?_⟩
        have t37 : σ' 37 = (.bool m116) := hD 2 rfl
        refine dg_op rfl (d_not t37 ?_)
        exact ⟨rfl, own_none (Ext.refl w')⟩
      · skip
        refine ⟨fun _ _ _ _ _ _ h _ => h, fun _ _ h _ => h, fun σ' w' hA hE hD hP => ?_⟩
        have t38 : σ' 38 = (.bool (!m116)) := hD 3 rfl
        refine dg_op rfl (d_mv (v := .bool (!m116)) t38 ?_)
        exact ⟨rfl, own_none (Ext.refl w')⟩
      · skip
        refine ⟨fun _ _ _ _ _ _ h _ => h, fun _ _ h _ => h, fun σ' w' hA hE hD hP => ?_⟩
        have t39 : σ' 39 = (.bool (!m116)) := hD 4 rfl
        rcases Bool.eq_false_or_eq_true (!m116) with hg133 | hg133
        · skip
          refine dg_off rfl (Eq.trans (show sl _ _ _ = .bool (!m116) from t39) (congrArg Value.bool hg133)) (by decide) ?_
          exact ⟨fun hc => Bool.noConfusion (hc.symm.trans hg133), own_none (Ext.refl _)⟩
        · skip
          have t7 : σ' 7 = .pointer (some ⟨w29.heap.size, 0, none⟩) := (hA 7 rfl).trans s7_58
          have B0_134 : w'.heap[w29.heap.size]? = some (.cells #[.float .f32 q29_0r0, .float .f32 q29_0r1, .float .f32 q29_0r2] 26 (0, 0)) := hE.heap not_oth0 B113
          refine dg_on rfl (Eq.trans (show sl _ _ _ = .bool (!m116) from t39) (congrArg Value.bool hg133)) (d_loads (vs := #[.float .f32 q29_0r0, .float .f32 q29_0r1, .float .f32 q29_0r2]) t7 agg26 size26 B0_134 rfl ?_)
          exact ⟨fun _ => rfl, own_none (Ext.refl w')⟩
      · skip
        refine ⟨fun _ _ _ _ _ _ h _ => h, fun _ _ h _ => h, fun σ' w' hA hE hD hP => ?_⟩
        have t39 : σ' 39 = (.bool (!m116)) := hD 4 rfl
        rcases Bool.eq_false_or_eq_true (!m116) with hg135 | hg135
        · skip
          refine dg_off rfl (Eq.trans (show sl _ _ _ = .bool (!m116) from t39) (congrArg Value.bool hg135)) (by decide) ?_
          exact ⟨fun hc => Bool.noConfusion (hc.symm.trans hg135), own_none (Ext.refl _)⟩
        · skip
          have t5 : σ' 5 = .pointer (some ⟨w7.heap.size, 0, none⟩) := (hA 5 rfl).trans s5_58
          have B0_136 : w'.heap[w7.heap.size]? = some (.cells #[.float .f32 q7_0r0, .float .f32 q7_0r1, .float .f32 q7_0r2] 26 (0, 0)) := hE.heap not_oth0 B111
          refine dg_on rfl (Eq.trans (show sl _ _ _ = .bool (!m116) from t39) (congrArg Value.bool hg135)) (d_loads (vs := #[.float .f32 q7_0r0, .float .f32 q7_0r1, .float .f32 q7_0r2]) t5 agg26 size26 B0_136 rfl ?_)
          exact ⟨fun _ => rfl, own_none (Ext.refl w')⟩
      · skip
        refine ⟨fun _ _ _ _ _ _ h _ => h, fun _ _ h _ => h, fun σ' w' hA hE hD hP => ?_⟩
        have t39 : σ' 39 = (.bool (!m116)) := hD 4 rfl
        rcases Bool.eq_false_or_eq_true (!m116) with hg137 | hg137
        · skip
          refine dg_off rfl (Eq.trans (show sl _ _ _ = .bool (!m116) from t39) (congrArg Value.bool hg137)) (by decide) ?_
          exact ⟨fun hc => Bool.noConfusion (hc.symm.trans hg137), own_none (Ext.refl _)⟩
        · skip
          have t40 : σ' 40 = (.agg #[.float .f32 q29_0r0, .float .f32 q29_0r1, .float .f32 q29_0r2]) := (hD 5 rfl : ((!m116) = false → σ' 40 = (.agg #[.float .f32 q29_0r0, .float .f32 q29_0r1, .float .f32 q29_0r2]))) hg137
          have t41 : σ' 41 = (.agg #[.float .f32 q7_0r0, .float .f32 q7_0r1, .float .f32 q7_0r2]) := (hD 6 rfl : ((!m116) = false → σ' 41 = (.agg #[.float .f32 q7_0r0, .float .f32 q7_0r1, .float .f32 q7_0r2]))) hg137
          refine dg_on rfl (Eq.trans (show sl _ _ _ = .bool (!m116) from t39) (congrArg Value.bool hg137)) (d_cl (vs := [.agg #[.float .f32 q29_0r0, .float .f32 q29_0r1, .float .f32 q29_0r2], .agg #[.float .f32 q7_0r0, .float .f32 q7_0r1, .float .f32 q7_0r2]]) en11 (ac t40 (ac t41 rfl)) rfl ?_)
          refine (c11 (⟨m28.x, m28.y, m28.z⟩ : SVector) (⟨m5.x, m5.y, m5.z⟩ : SVector) q29_0r0 q29_0r1 q29_0r2 q7_0r0 q7_0r1 q7_0r2 m117 w' hm117 q29_0h0 q29_0h1 q29_0h2 q7_0h0 q7_0h1 q7_0h2).mono ?_
          rintro _ w138 ⟨q138_0r, rfl, q138_0h, E138⟩
          refine ⟨_, rfl, ?_⟩
          have X139 : Ext w' w138 := (Ext.refl w').trans E138
          exact ⟨fun _ => ⟨q138_0r, rfl, q138_0h⟩, own_none X139⟩
      · skip
        refine ⟨fun _ _ _ _ _ _ h _ => h, fun _ _ h _ => h, fun σ' w' hA hE hD hP => ?_⟩
        have t39 : σ' 39 = (.bool (!m116)) := hD 4 rfl
        rcases Bool.eq_false_or_eq_true (!m116) with hg140 | hg140
        · skip
          refine dg_off rfl (Eq.trans (show sl _ _ _ = .bool (!m116) from t39) (congrArg Value.bool hg140)) (by decide) ?_
          exact ⟨fun hc => Bool.noConfusion (hc.symm.trans hg140), own_none (Ext.refl _)⟩
        · skip
          obtain ⟨d108_7_0r, t42, d108_7_0h⟩ : ∃ d108_7_0r : Nat, σ' 42 = (.float .f32 d108_7_0r) ∧ cn .f32 d108_7_0r = m117 := (hD 7 rfl : ((!m116) = false → ∃ d108_7_0r : Nat, σ' 42 = (.float .f32 d108_7_0r) ∧ cn .f32 d108_7_0r = m117)) hg140
          refine dg_on rfl (Eq.trans (show sl _ _ _ = .bool (!m116) from t39) (congrArg Value.bool hg140)) (d_fcmp (k := .f32) cNeq t42 rfl d108_7_0h cn_f32_0 ?_)
          exact ⟨fun _ => rfl, own_none (Ext.refl w')⟩
      · skip
        refine ⟨fun _ _ _ _ _ _ h _ => h, fun _ _ h _ => h, fun σ' w' hA hE hD hP => ?_⟩
        have t39 : σ' 39 = (.bool (!m116)) := hD 4 rfl
        rcases Bool.eq_false_or_eq_true (!m116) with hpk | hpk
        · skip
          refine dg_op rfl (d_pick (b := true) (Eq.trans (show ev _ _ = .bool (!m116) from t39) (congrArg Value.bool hpk)) ?_)
          exact ⟨Eq.trans (b := Value.bool true) rfl (congrArg Value.bool (by rw [hpk] <;> rfl)), own_none (Ext.refl _)⟩
        · skip
          have t43 : σ' 43 = (.bool (fcmp .neq .f32 m117 0)) := (hD 8 rfl : ((!m116) = false → σ' 43 = (.bool (fcmp .neq .f32 m117 0)))) hpk
          refine dg_op rfl (d_pick (b := false) (Eq.trans (show ev _ _ = .bool (!m116) from t39) (congrArg Value.bool hpk)) ?_)
          exact ⟨Eq.trans (b := Value.bool (fcmp .neq .f32 m117 0)) t43 (congrArg Value.bool (by rw [hpk] <;> rfl)), own_none (Ext.refl _)⟩
      · skip
        refine ⟨fun _ _ _ _ _ _ h _ => h, fun _ _ h _ => h, fun σ' w' hA hE hD hP => ?_⟩
        have t44 : σ' 44 = (.bool (bif (!m116) then true else (fcmp .neq .f32 m117 0))) := hD 9 rfl
        refine dg_op rfl (d_mv (v := .bool (bif (!m116) then true else (fcmp .neq .f32 m117 0))) t44 ?_)
        exact ⟨rfl, own_none (Ext.refl w')⟩
      · skip
        refine ⟨fun _ _ _ _ _ _ h _ => h, fun _ _ h _ => h, fun σ' w' hA hE hD hP => ?_⟩
        have t45 : σ' 45 = (.bool (bif (!m116) then true else (fcmp .neq .f32 m117 0))) := hD 10 rfl
        rcases Bool.eq_false_or_eq_true (bif (!m116) then true else (fcmp .neq .f32 m117 0)) with hg141 | hg141
        · skip
          refine dg_off rfl (Eq.trans (show sl _ _ _ = .bool (bif (!m116) then true else (fcmp .neq .f32 m117 0)) from t45) (congrArg Value.bool hg141)) (by decide) ?_
          exact ⟨fun hc => Bool.noConfusion (hc.symm.trans hg141), own_none (Ext.refl _)⟩
        · skip
          have t7 : σ' 7 = .pointer (some ⟨w29.heap.size, 0, none⟩) := (hA 7 rfl).trans s7_58
          have B0_142 : w'.heap[w29.heap.size]? = some (.cells #[.float .f32 q29_0r0, .float .f32 q29_0r1, .float .f32 q29_0r2] 26 (0, 0)) := hE.heap not_oth0 B113
          refine dg_on rfl (Eq.trans (show sl _ _ _ = .bool (bif (!m116) then true else (fcmp .neq .f32 m117 0)) from t45) (congrArg Value.bool hg141)) (d_loads (vs := #[.float .f32 q29_0r0, .float .f32 q29_0r1, .float .f32 q29_0r2]) t7 agg26 size26 B0_142 rfl ?_)
          exact ⟨fun _ => rfl, own_none (Ext.refl w')⟩
      · skip
        refine ⟨fun _ _ _ _ _ _ h _ => h, fun _ _ h _ => h, fun σ' w' hA hE hD hP => ?_⟩
        have t45 : σ' 45 = (.bool (bif (!m116) then true else (fcmp .neq .f32 m117 0))) := hD 10 rfl
        rcases Bool.eq_false_or_eq_true (bif (!m116) then true else (fcmp .neq .f32 m117 0)) with hg143 | hg143
        · skip
          refine dg_off rfl (Eq.trans (show sl _ _ _ = .bool (bif (!m116) then true else (fcmp .neq .f32 m117 0)) from t45) (congrArg Value.bool hg143)) (by decide) ?_
          exact ⟨fun hc => Bool.noConfusion (hc.symm.trans hg143), own_none (Ext.refl _)⟩
        · skip
          have t6 : σ' 6 = .pointer (some ⟨w17.heap.size, 0, none⟩) := (hA 6 rfl).trans s6_58
          have B0_144 : w'.heap[w17.heap.size]? = some (.cells #[.float .f32 q17_0r0, .float .f32 q17_0r1, .float .f32 q17_0r2] 26 (0, 0)) := hE.heap not_oth0 B112
          refine dg_on rfl (Eq.trans (show sl _ _ _ = .bool (bif (!m116) then true else (fcmp .neq .f32 m117 0)) from t45) (congrArg Value.bool hg143)) (d_loads (vs := #[.float .f32 q17_0r0, .float .f32 q17_0r1, .float .f32 q17_0r2]) t6 agg26 size26 B0_144 rfl ?_)
          exact ⟨fun _ => rfl, own_none (Ext.refl w')⟩
      · skip
        refine ⟨fun _ _ _ _ _ _ h _ => h, fun _ _ h _ => h, fun σ' w' hA hE hD hP => ?_⟩
        have t45 : σ' 45 = (.bool (bif (!m116) then true else (fcmp .neq .f32 m117 0))) := hD 10 rfl
        rcases Bool.eq_false_or_eq_true (bif (!m116) then true else (fcmp .neq .f32 m117 0)) with hg145 | hg145
        · skip
          refine dg_off rfl (Eq.trans (show sl _ _ _ = .bool (bif (!m116) then true else (fcmp .neq .f32 m117 0)) from t45) (congrArg Value.bool hg145)) (by decide) ?_
          exact ⟨fun hc => Bool.noConfusion (hc.symm.trans hg145), own_none (Ext.refl _)⟩
        · skip
          have t46 : σ' 46 = (.agg #[.float .f32 q29_0r0, .float .f32 q29_0r1, .float .f32 q29_0r2]) := (hD 11 rfl : ((bif (!m116) then true else (fcmp .neq .f32 m117 0)) = false → σ' 46 = (.agg #[.float .f32 q29_0r0, .float .f32 q29_0r1, .float .f32 q29_0r2]))) hg145
          have t47 : σ' 47 = (.agg #[.float .f32 q17_0r0, .float .f32 q17_0r1, .float .f32 q17_0r2]) := (hD 12 rfl : ((bif (!m116) then true else (fcmp .neq .f32 m117 0)) = false → σ' 47 = (.agg #[.float .f32 q17_0r0, .float .f32 q17_0r1, .float .f32 q17_0r2]))) hg145
          refine dg_on rfl (Eq.trans (show sl _ _ _ = .bool (bif (!m116) then true else (fcmp .neq .f32 m117 0)) from t45) (congrArg Value.bool hg145)) (d_cl (vs := [.agg #[.float .f32 q29_0r0, .float .f32 q29_0r1, .float .f32 q29_0r2], .agg #[.float .f32 q17_0r0, .float .f32 q17_0r1, .float .f32 q17_0r2]]) en11 (ac t46 (ac t47 rfl)) rfl ?_)
          refine (c11 (⟨m28.x, m28.y, m28.z⟩ : SVector) (⟨m15.x, m15.y, m15.z⟩ : SVector) q29_0r0 q29_0r1 q29_0r2 q17_0r0 q17_0r1 q17_0r2 m118 w' hm118 q29_0h0 q29_0h1 q29_0h2 q17_0h0 q17_0h1 q17_0h2).mono ?_
          rintro _ w146 ⟨q146_0r, rfl, q146_0h, E146⟩
          refine ⟨_, rfl, ?_⟩
          have X147 : Ext w' w146 := (Ext.refl w').trans E146
          exact ⟨fun _ => ⟨q146_0r, rfl, q146_0h⟩, own_none X147⟩
      · skip
        refine ⟨fun _ _ _ _ _ _ h _ => h, fun _ _ h _ => h, fun σ' w' hA hE hD hP => ?_⟩
        have t45 : σ' 45 = (.bool (bif (!m116) then true else (fcmp .neq .f32 m117 0))) := hD 10 rfl
        rcases Bool.eq_false_or_eq_true (bif (!m116) then true else (fcmp .neq .f32 m117 0)) with hg148 | hg148
        · skip
          refine dg_off rfl (Eq.trans (show sl _ _ _ = .bool (bif (!m116) then true else (fcmp .neq .f32 m117 0)) from t45) (congrArg Value.bool hg148)) (by decide) ?_
          exact ⟨fun hc => Bool.noConfusion (hc.symm.trans hg148), own_none (Ext.refl _)⟩
        · skip
          obtain ⟨d108_13_0r, t48, d108_13_0h⟩ : ∃ d108_13_0r : Nat, σ' 48 = (.float .f32 d108_13_0r) ∧ cn .f32 d108_13_0r = m118 := (hD 13 rfl : ((bif (!m116) then true else (fcmp .neq .f32 m117 0)) = false → ∃ d108_13_0r : Nat, σ' 48 = (.float .f32 d108_13_0r) ∧ cn .f32 d108_13_0r = m118)) hg148
          refine dg_on rfl (Eq.trans (show sl _ _ _ = .bool (bif (!m116) then true else (fcmp .neq .f32 m117 0)) from t45) (congrArg Value.bool hg148)) (d_fcmp (k := .f32) cNeq t48 rfl d108_13_0h cn_f32_0 ?_)
          exact ⟨fun _ => rfl, own_none (Ext.refl w')⟩
      · skip
        refine ⟨fun _ _ _ _ _ _ h _ => h, fun _ _ h _ => h, fun σ' w' hA hE hD hP => ?_⟩
        have t45 : σ' 45 = (.bool (bif (!m116) then true else (fcmp .neq .f32 m117 0))) := hD 10 rfl
        rcases Bool.eq_false_or_eq_true (bif (!m116) then true else (fcmp .neq .f32 m117 0)) with hpk | hpk
        · skip
          refine dg_op rfl (d_pick (b := true) (Eq.trans (show ev _ _ = .bool (bif (!m116) then true else (fcmp .neq .f32 m117 0)) from t45) (congrArg Value.bool hpk)) ?_)
          exact ⟨Eq.trans (b := Value.bool true) rfl (congrArg Value.bool (by rw [hpk] <;> rfl)), own_none (Ext.refl _)⟩
        · skip
          have t49 : σ' 49 = (.bool (fcmp .neq .f32 m118 0)) := (hD 14 rfl : ((bif (!m116) then true else (fcmp .neq .f32 m117 0)) = false → σ' 49 = (.bool (fcmp .neq .f32 m118 0)))) hpk
          refine dg_op rfl (d_pick (b := false) (Eq.trans (show ev _ _ = .bool (bif (!m116) then true else (fcmp .neq .f32 m117 0)) from t45) (congrArg Value.bool hpk)) ?_)
          exact ⟨Eq.trans (b := Value.bool (fcmp .neq .f32 m118 0)) t49 (congrArg Value.bool (by rw [hpk] <;> rfl)), own_none (Ext.refl _)⟩
      · skip
        refine ⟨fun _ _ _ _ _ _ h _ => h, fun _ _ h _ => h, fun σ' w' hA hE hD hP => ?_⟩
        have t50 : σ' 50 = (.bool (bif (bif (!m116) then true else (fcmp .neq .f32 m117 0)) then true else (fcmp .neq .f32 m118 0))) := hD 15 rfl
        refine dg_op rfl (d_mv (v := .bool (bif (bif (!m116) then true else (fcmp .neq .f32 m117 0)) then true else (fcmp .neq .f32 m118 0))) t50 ?_)
        exact ⟨rfl, own_none (Ext.refl w')⟩
      · skip
        refine ⟨fun _ _ _ _ _ _ h _ => h, fun _ _ h _ => h, fun σ' w' hA hE hD hP => ?_⟩
        have t51 : σ' 51 = (.bool (bif (bif (!m116) then true else (fcmp .neq .f32 m117 0)) then true else (fcmp .neq .f32 m118 0))) := hD 16 rfl
        rcases Bool.eq_false_or_eq_true (bif (bif (!m116) then true else (fcmp .neq .f32 m117 0)) then true else (fcmp .neq .f32 m118 0)) with hg149 | hg149
        · skip
          refine dg_off rfl (Eq.trans (show sl _ _ _ = .bool (bif (bif (!m116) then true else (fcmp .neq .f32 m117 0)) then true else (fcmp .neq .f32 m118 0)) from t51) (congrArg Value.bool hg149)) (by decide) ?_
          exact ⟨fun hc => Bool.noConfusion (hc.symm.trans hg149), own_none (Ext.refl _)⟩
        · skip
          have t7 : σ' 7 = .pointer (some ⟨w29.heap.size, 0, none⟩) := (hA 7 rfl).trans s7_58
          have B0_150 : w'.heap[w29.heap.size]? = some (.cells #[.float .f32 q29_0r0, .float .f32 q29_0r1, .float .f32 q29_0r2] 26 (0, 0)) := hE.heap not_oth0 B113
          refine dg_on rfl (Eq.trans (show sl _ _ _ = .bool (bif (bif (!m116) then true else (fcmp .neq .f32 m117 0)) then true else (fcmp .neq .f32 m118 0)) from t51) (congrArg Value.bool hg149)) (d_loads (vs := #[.float .f32 q29_0r0, .float .f32 q29_0r1, .float .f32 q29_0r2]) t7 agg26 size26 B0_150 rfl ?_)
          exact ⟨fun _ => rfl, own_none (Ext.refl w')⟩
      · skip
        refine ⟨fun _ _ _ _ _ _ h _ => h, fun _ _ h _ => h, fun σ' w' hA hE hD hP => ?_⟩
        have t51 : σ' 51 = (.bool (bif (bif (!m116) then true else (fcmp .neq .f32 m117 0)) then true else (fcmp .neq .f32 m118 0))) := hD 16 rfl
        rcases Bool.eq_false_or_eq_true (bif (bif (!m116) then true else (fcmp .neq .f32 m117 0)) then true else (fcmp .neq .f32 m118 0)) with hg151 | hg151
        · skip
          refine dg_off rfl (Eq.trans (show sl _ _ _ = .bool (bif (bif (!m116) then true else (fcmp .neq .f32 m117 0)) then true else (fcmp .neq .f32 m118 0)) from t51) (congrArg Value.bool hg151)) (by decide) ?_
          exact ⟨fun hc => Bool.noConfusion (hc.symm.trans hg151), own_none (Ext.refl _)⟩
        · skip
          have t8 : σ' 8 = .pointer (some ⟨w44.heap.size, 0, none⟩) := (hA 8 rfl).trans s8_58
          have B0_152 : w'.heap[w44.heap.size]? = some (.cells #[.float .f32 q44_0r0, .float .f32 q44_0r1, .float .f32 q44_0r2] 26 (0, 0)) := hE.heap not_oth0 B114
          refine dg_on rfl (Eq.trans (show sl _ _ _ = .bool (bif (bif (!m116) then true else (fcmp .neq .f32 m117 0)) then true else (fcmp .neq .f32 m118 0)) from t51) (congrArg Value.bool hg151)) (d_loads (vs := #[.float .f32 q44_0r0, .float .f32 q44_0r1, .float .f32 q44_0r2]) t8 agg26 size26 B0_152 rfl ?_)
          exact ⟨fun _ => rfl, own_none (Ext.refl w')⟩
      · skip
        refine ⟨fun _ _ _ _ _ _ h _ => h, fun _ _ h _ => h, fun σ' w' hA hE hD hP => ?_⟩
        have t51 : σ' 51 = (.bool (bif (bif (!m116) then true else (fcmp .neq .f32 m117 0)) then true else (fcmp .neq .f32 m118 0))) := hD 16 rfl
        rcases Bool.eq_false_or_eq_true (bif (bif (!m116) then true else (fcmp .neq .f32 m117 0)) then true else (fcmp .neq .f32 m118 0)) with hg153 | hg153
        · skip
          refine dg_off rfl (Eq.trans (show sl _ _ _ = .bool (bif (bif (!m116) then true else (fcmp .neq .f32 m117 0)) then true else (fcmp .neq .f32 m118 0)) from t51) (congrArg Value.bool hg153)) (by decide) ?_
          exact ⟨fun hc => Bool.noConfusion (hc.symm.trans hg153), own_none (Ext.refl _)⟩
        · skip
          have t53 : σ' 53 = (.agg #[.float .f32 q44_0r0, .float .f32 q44_0r1, .float .f32 q44_0r2]) := (hD 18 rfl : ((bif (bif (!m116) then true else (fcmp .neq .f32 m117 0)) then true else (fcmp .neq .f32 m118 0)) = false → σ' 53 = (.agg #[.float .f32 q44_0r0, .float .f32 q44_0r1, .float .f32 q44_0r2]))) hg153
          refine dg_on rfl (Eq.trans (show sl _ _ _ = .bool (bif (bif (!m116) then true else (fcmp .neq .f32 m117 0)) then true else (fcmp .neq .f32 m118 0)) from t51) (congrArg Value.bool hg153)) (d_cl (vs := [.agg #[.float .f32 q44_0r0, .float .f32 q44_0r1, .float .f32 q44_0r2], .float .f32 3212836864]) en9 (ac t53 (ac rfl rfl)) rfl ?_)
          refine (c9 (⟨m43.x, m43.y, m43.z⟩ : SVector) 3212836864 q44_0r0 q44_0r1 q44_0r2 3212836864 m119 w' hm119 q44_0h0 q44_0h1 q44_0h2 cn_f32_3212836864).mono ?_
          rintro _ w154 ⟨q154_0r0, q154_0r1, q154_0r2, rfl, q154_0h0, q154_0h1, q154_0h2, E154⟩
          refine ⟨_, rfl, ?_⟩
          have X155 : Ext w' w154 := (Ext.refl w').trans E154
          exact ⟨fun _ => ⟨q154_0r0, q154_0r1, q154_0r2, rfl, q154_0h0, q154_0h1, q154_0h2⟩, own_none X155⟩
      · skip
        refine ⟨fun _ _ _ _ _ _ h _ => h, fun _ _ h _ => h, fun σ' w' hA hE hD hP => ?_⟩
        have t51 : σ' 51 = (.bool (bif (bif (!m116) then true else (fcmp .neq .f32 m117 0)) then true else (fcmp .neq .f32 m118 0))) := hD 16 rfl
        rcases Bool.eq_false_or_eq_true (bif (bif (!m116) then true else (fcmp .neq .f32 m117 0)) then true else (fcmp .neq .f32 m118 0)) with hg156 | hg156
        · skip
          refine dg_off rfl (Eq.trans (show sl _ _ _ = .bool (bif (bif (!m116) then true else (fcmp .neq .f32 m117 0)) then true else (fcmp .neq .f32 m118 0)) from t51) (congrArg Value.bool hg156)) (by decide) ?_
          exact ⟨fun hc => Bool.noConfusion (hc.symm.trans hg156), own_none (Ext.refl _)⟩
        · skip
          have t52 : σ' 52 = (.agg #[.float .f32 q29_0r0, .float .f32 q29_0r1, .float .f32 q29_0r2]) := (hD 17 rfl : ((bif (bif (!m116) then true else (fcmp .neq .f32 m117 0)) then true else (fcmp .neq .f32 m118 0)) = false → σ' 52 = (.agg #[.float .f32 q29_0r0, .float .f32 q29_0r1, .float .f32 q29_0r2]))) hg156
          obtain ⟨d108_19_0r0, d108_19_0r1, d108_19_0r2, t54, d108_19_0h0, d108_19_0h1, d108_19_0h2⟩ : ∃ d108_19_0r0 : Nat, ∃ d108_19_0r1 : Nat, ∃ d108_19_0r2 : Nat, σ' 54 = (.agg #[.float .f32 d108_19_0r0, .float .f32 d108_19_0r1, .float .f32 d108_19_0r2]) ∧ cn .f32 d108_19_0r0 = m119.x ∧ cn .f32 d108_19_0r1 = m119.y ∧ cn .f32 d108_19_0r2 = m119.z := (hD 19 rfl : ((bif (bif (!m116) then true else (fcmp .neq .f32 m117 0)) then true else (fcmp .neq .f32 m118 0)) = false → ∃ d108_19_0r0 : Nat, ∃ d108_19_0r1 : Nat, ∃ d108_19_0r2 : Nat, σ' 54 = (.agg #[.float .f32 d108_19_0r0, .float .f32 d108_19_0r1, .float .f32 d108_19_0r2]) ∧ cn .f32 d108_19_0r0 = m119.x ∧ cn .f32 d108_19_0r1 = m119.y ∧ cn .f32 d108_19_0r2 = m119.z)) hg156
          refine dg_on rfl (Eq.trans (show sl _ _ _ = .bool (bif (bif (!m116) then true else (fcmp .neq .f32 m117 0)) then true else (fcmp .neq .f32 m118 0)) from t51) (congrArg Value.bool hg156)) (d_cl (vs := [.agg #[.float .f32 q29_0r0, .float .f32 q29_0r1, .float .f32 q29_0r2], .agg #[.float .f32 d108_19_0r0, .float .f32 d108_19_0r1, .float .f32 d108_19_0r2]]) en10 (ac t52 (ac t54 rfl)) rfl ?_)
          refine (c10 (⟨m28.x, m28.y, m28.z⟩ : SVector) m119 q29_0r0 q29_0r1 q29_0r2 d108_19_0r0 d108_19_0r1 d108_19_0r2 m120 w' hm120 q29_0h0 q29_0h1 q29_0h2 d108_19_0h0 d108_19_0h1 d108_19_0h2).mono ?_
          rintro _ w157 ⟨rfl, E157⟩
          refine ⟨_, rfl, ?_⟩
          have X158 : Ext w' w157 := (Ext.refl w').trans E157
          exact ⟨fun _ => rfl, own_none X158⟩
      · skip
        refine ⟨fun _ _ _ _ _ _ h _ => h, fun _ _ h _ => h, fun σ' w' hA hE hD hP => ?_⟩
        have t51 : σ' 51 = (.bool (bif (bif (!m116) then true else (fcmp .neq .f32 m117 0)) then true else (fcmp .neq .f32 m118 0))) := hD 16 rfl
        rcases Bool.eq_false_or_eq_true (bif (bif (!m116) then true else (fcmp .neq .f32 m117 0)) then true else (fcmp .neq .f32 m118 0)) with hg159 | hg159
        · skip
          refine dg_off rfl (Eq.trans (show sl _ _ _ = .bool (bif (bif (!m116) then true else (fcmp .neq .f32 m117 0)) then true else (fcmp .neq .f32 m118 0)) from t51) (congrArg Value.bool hg159)) (by decide) ?_
          exact ⟨fun hc => Bool.noConfusion (hc.symm.trans hg159), own_none (Ext.refl _)⟩
        · skip
          have t55 : σ' 55 = (.bool m120) := (hD 20 rfl : ((bif (bif (!m116) then true else (fcmp .neq .f32 m117 0)) then true else (fcmp .neq .f32 m118 0)) = false → σ' 55 = (.bool m120))) hg159
          refine dg_on rfl (Eq.trans (show sl _ _ _ = .bool (bif (bif (!m116) then true else (fcmp .neq .f32 m117 0)) then true else (fcmp .neq .f32 m118 0)) from t51) (congrArg Value.bool hg159)) (d_not t55 ?_)
          exact ⟨fun _ => rfl, own_none (Ext.refl w')⟩
      · skip
        refine ⟨fun _ _ _ _ _ _ h _ => h, fun _ _ h _ => h, fun σ' w' hA hE hD hP => ?_⟩
        have t51 : σ' 51 = (.bool (bif (bif (!m116) then true else (fcmp .neq .f32 m117 0)) then true else (fcmp .neq .f32 m118 0))) := hD 16 rfl
        rcases Bool.eq_false_or_eq_true (bif (bif (!m116) then true else (fcmp .neq .f32 m117 0)) then true else (fcmp .neq .f32 m118 0)) with hpk | hpk
        · skip
          refine dg_op rfl (d_pick (b := true) (Eq.trans (show ev _ _ = .bool (bif (bif (!m116) then true else (fcmp .neq .f32 m117 0)) then true else (fcmp .neq .f32 m118 0)) from t51) (congrArg Value.bool hpk)) ?_)
          exact ⟨Eq.trans (b := Value.bool true) rfl (congrArg Value.bool (by rw [hpk] <;> rfl)), own_none (Ext.refl _)⟩
        · skip
          have t56 : σ' 56 = (.bool (!m120)) := (hD 21 rfl : ((bif (bif (!m116) then true else (fcmp .neq .f32 m117 0)) then true else (fcmp .neq .f32 m118 0)) = false → σ' 56 = (.bool (!m120)))) hpk
          refine dg_op rfl (d_pick (b := false) (Eq.trans (show ev _ _ = .bool (bif (bif (!m116) then true else (fcmp .neq .f32 m117 0)) then true else (fcmp .neq .f32 m118 0)) from t51) (congrArg Value.bool hpk)) ?_)
          exact ⟨Eq.trans (b := Value.bool (!m120)) t56 (congrArg Value.bool (by rw [hpk] <;> rfl)), own_none (Ext.refl _)⟩
      · skip
        refine ⟨fun _ _ _ _ _ _ h _ => h, fun _ _ h _ => h, fun σ' w' hA hE hD hP => ?_⟩
        have t57 : σ' 57 = (.bool (bif (bif (bif (!m116) then true else (fcmp .neq .f32 m117 0)) then true else (fcmp .neq .f32 m118 0)) then true else (!m120))) := hD 22 rfl
        refine dg_op rfl (d_mv (v := .bool (bif (bif (bif (!m116) then true else (fcmp .neq .f32 m117 0)) then true else (fcmp .neq .f32 m118 0)) then true else (!m120))) t57 ?_)
        exact ⟨rfl, own_none (Ext.refl w')⟩
      · skip
        refine ⟨fun _ _ _ _ _ _ h _ => h, fun _ _ h _ => h, fun σ' w' hA hE hD hP => ?_⟩
        have t58 : σ' 58 = (.bool (bif (bif (bif (!m116) then true else (fcmp .neq .f32 m117 0)) then true else (fcmp .neq .f32 m118 0)) then true else (!m120))) := hD 23 rfl
        rcases Bool.eq_false_or_eq_true (bif (bif (bif (!m116) then true else (fcmp .neq .f32 m117 0)) then true else (fcmp .neq .f32 m118 0)) then true else (!m120)) with hg160 | hg160
        · skip
          refine dg_off rfl (Eq.trans (show sl _ _ _ = .bool (bif (bif (bif (!m116) then true else (fcmp .neq .f32 m117 0)) then true else (fcmp .neq .f32 m118 0)) then true else (!m120)) from t58) (congrArg Value.bool hg160)) (by decide) ?_
          exact ⟨fun hc => Bool.noConfusion (hc.symm.trans hg160), own_none (Ext.refl _)⟩
        · skip
          have t10 : σ' 10 = .pointer (some ⟨w90.heap.size, 0, none⟩) := (hA 10 rfl).trans rfl
          have B0_161 : w'.heap[w90.heap.size]? = some (.cells #[.float .f32 q90_0r0, .float .f32 q90_0r1, .float .f32 q90_0r2] 26 (0, 0)) := hE.heap not_oth0 B107
          refine dg_on rfl (Eq.trans (show sl _ _ _ = .bool (bif (bif (bif (!m116) then true else (fcmp .neq .f32 m117 0)) then true else (fcmp .neq .f32 m118 0)) then true else (!m120)) from t58) (congrArg Value.bool hg160)) (d_loads (vs := #[.float .f32 q90_0r0, .float .f32 q90_0r1, .float .f32 q90_0r2]) t10 agg26 size26 B0_161 rfl ?_)
          exact ⟨fun _ => rfl, own_none (Ext.refl w')⟩
      · skip
        refine ⟨fun _ _ _ _ _ _ h _ => h, fun _ _ h _ => h, fun σ' w' hA hE hD hP => ?_⟩
        have t58 : σ' 58 = (.bool (bif (bif (bif (!m116) then true else (fcmp .neq .f32 m117 0)) then true else (fcmp .neq .f32 m118 0)) then true else (!m120))) := hD 23 rfl
        rcases Bool.eq_false_or_eq_true (bif (bif (bif (!m116) then true else (fcmp .neq .f32 m117 0)) then true else (fcmp .neq .f32 m118 0)) then true else (!m120)) with hg162 | hg162
        · skip
          refine dg_off rfl (Eq.trans (show sl _ _ _ = .bool (bif (bif (bif (!m116) then true else (fcmp .neq .f32 m117 0)) then true else (fcmp .neq .f32 m118 0)) then true else (!m120)) from t58) (congrArg Value.bool hg162)) (by decide) ?_
          exact ⟨fun hc => Bool.noConfusion (hc.symm.trans hg162), own_none (Ext.refl _)⟩
        · skip
          have t5 : σ' 5 = .pointer (some ⟨w7.heap.size, 0, none⟩) := (hA 5 rfl).trans s5_58
          have B0_163 : w'.heap[w7.heap.size]? = some (.cells #[.float .f32 q7_0r0, .float .f32 q7_0r1, .float .f32 q7_0r2] 26 (0, 0)) := hE.heap not_oth0 B111
          refine dg_on rfl (Eq.trans (show sl _ _ _ = .bool (bif (bif (bif (!m116) then true else (fcmp .neq .f32 m117 0)) then true else (fcmp .neq .f32 m118 0)) then true else (!m120)) from t58) (congrArg Value.bool hg162)) (d_loads (vs := #[.float .f32 q7_0r0, .float .f32 q7_0r1, .float .f32 q7_0r2]) t5 agg26 size26 B0_163 rfl ?_)
          exact ⟨fun _ => rfl, own_none (Ext.refl w')⟩
      · skip
        refine ⟨fun _ _ _ _ _ _ h _ => h, fun _ _ h _ => h, fun σ' w' hA hE hD hP => ?_⟩
        have t58 : σ' 58 = (.bool (bif (bif (bif (!m116) then true else (fcmp .neq .f32 m117 0)) then true else (fcmp .neq .f32 m118 0)) then true else (!m120))) := hD 23 rfl
        rcases Bool.eq_false_or_eq_true (bif (bif (bif (!m116) then true else (fcmp .neq .f32 m117 0)) then true else (fcmp .neq .f32 m118 0)) then true else (!m120)) with hg164 | hg164
        · skip
          refine dg_off rfl (Eq.trans (show sl _ _ _ = .bool (bif (bif (bif (!m116) then true else (fcmp .neq .f32 m117 0)) then true else (fcmp .neq .f32 m118 0)) then true else (!m120)) from t58) (congrArg Value.bool hg164)) (by decide) ?_
          exact ⟨fun hc => Bool.noConfusion (hc.symm.trans hg164), own_none (Ext.refl _)⟩
        · skip
          have t5 : σ' 5 = .pointer (some ⟨w7.heap.size, 0, none⟩) := (hA 5 rfl).trans s5_58
          have B0_165 : w'.heap[w7.heap.size]? = some (.cells #[.float .f32 q7_0r0, .float .f32 q7_0r1, .float .f32 q7_0r2] 26 (0, 0)) := hE.heap not_oth0 B111
          refine dg_on rfl (Eq.trans (show sl _ _ _ = .bool (bif (bif (bif (!m116) then true else (fcmp .neq .f32 m117 0)) then true else (fcmp .neq .f32 m118 0)) then true else (!m120)) from t58) (congrArg Value.bool hg164)) (d_loads (vs := #[.float .f32 q7_0r0, .float .f32 q7_0r1, .float .f32 q7_0r2]) t5 agg26 size26 B0_165 rfl ?_)
          exact ⟨fun _ => rfl, own_none (Ext.refl w')⟩
      · skip
        refine ⟨fun _ _ _ _ _ _ h _ => h, fun _ _ h _ => h, fun σ' w' hA hE hD hP => ?_⟩
        have t58 : σ' 58 = (.bool (bif (bif (bif (!m116) then true else (fcmp .neq .f32 m117 0)) then true else (fcmp .neq .f32 m118 0)) then true else (!m120))) := hD 23 rfl
        rcases Bool.eq_false_or_eq_true (bif (bif (bif (!m116) then true else (fcmp .neq .f32 m117 0)) then true else (fcmp .neq .f32 m118 0)) then true else (!m120)) with hg166 | hg166
        · skip
          refine dg_off rfl (Eq.trans (show sl _ _ _ = .bool (bif (bif (bif (!m116) then true else (fcmp .neq .f32 m117 0)) then true else (fcmp .neq .f32 m118 0)) then true else (!m120)) from t58) (congrArg Value.bool hg166)) (by decide) ?_
          exact ⟨fun hc => Bool.noConfusion (hc.symm.trans hg166), own_none (Ext.refl _)⟩
        · skip
          have t60 : σ' 60 = (.agg #[.float .f32 q7_0r0, .float .f32 q7_0r1, .float .f32 q7_0r2]) := (hD 25 rfl : ((bif (bif (bif (!m116) then true else (fcmp .neq .f32 m117 0)) then true else (fcmp .neq .f32 m118 0)) then true else (!m120)) = false → σ' 60 = (.agg #[.float .f32 q7_0r0, .float .f32 q7_0r1, .float .f32 q7_0r2]))) hg166
          have t61 : σ' 61 = (.agg #[.float .f32 q7_0r0, .float .f32 q7_0r1, .float .f32 q7_0r2]) := (hD 26 rfl : ((bif (bif (bif (!m116) then true else (fcmp .neq .f32 m117 0)) then true else (fcmp .neq .f32 m118 0)) then true else (!m120)) = false → σ' 61 = (.agg #[.float .f32 q7_0r0, .float .f32 q7_0r1, .float .f32 q7_0r2]))) hg166
          refine dg_on rfl (Eq.trans (show sl _ _ _ = .bool (bif (bif (bif (!m116) then true else (fcmp .neq .f32 m117 0)) then true else (fcmp .neq .f32 m118 0)) then true else (!m120)) from t58) (congrArg Value.bool hg166)) (d_cl (vs := [.agg #[.float .f32 q7_0r0, .float .f32 q7_0r1, .float .f32 q7_0r2], .agg #[.float .f32 q7_0r0, .float .f32 q7_0r1, .float .f32 q7_0r2]]) en7 (ac t60 (ac t61 rfl)) rfl ?_)
          refine (c7 (⟨m5.x, m5.y, m5.z⟩ : SVector) (⟨m5.x, m5.y, m5.z⟩ : SVector) q7_0r0 q7_0r1 q7_0r2 q7_0r0 q7_0r1 q7_0r2 m121 w' hm121 q7_0h0 q7_0h1 q7_0h2 q7_0h0 q7_0h1 q7_0h2).mono ?_
          rintro _ w167 ⟨q167_0r0, q167_0r1, q167_0r2, rfl, q167_0h0, q167_0h1, q167_0h2, E167⟩
          refine ⟨_, rfl, ?_⟩
          have X168 : Ext w' w167 := (Ext.refl w').trans E167
          exact ⟨fun _ => ⟨q167_0r0, q167_0r1, q167_0r2, rfl, q167_0h0, q167_0h1, q167_0h2⟩, own_none X168⟩
      · skip
        refine ⟨fun _ _ _ _ _ _ h _ => h, fun _ _ h _ => h, fun σ' w' hA hE hD hP => ?_⟩
        have t58 : σ' 58 = (.bool (bif (bif (bif (!m116) then true else (fcmp .neq .f32 m117 0)) then true else (fcmp .neq .f32 m118 0)) then true else (!m120))) := hD 23 rfl
        rcases Bool.eq_false_or_eq_true (bif (bif (bif (!m116) then true else (fcmp .neq .f32 m117 0)) then true else (fcmp .neq .f32 m118 0)) then true else (!m120)) with hg169 | hg169
        · skip
          refine dg_off rfl (Eq.trans (show sl _ _ _ = .bool (bif (bif (bif (!m116) then true else (fcmp .neq .f32 m117 0)) then true else (fcmp .neq .f32 m118 0)) then true else (!m120)) from t58) (congrArg Value.bool hg169)) (by decide) ?_
          exact ⟨fun hc => Bool.noConfusion (hc.symm.trans hg169), own_none (Ext.refl _)⟩
        · skip
          have t59 : σ' 59 = (.agg #[.float .f32 q90_0r0, .float .f32 q90_0r1, .float .f32 q90_0r2]) := (hD 24 rfl : ((bif (bif (bif (!m116) then true else (fcmp .neq .f32 m117 0)) then true else (fcmp .neq .f32 m118 0)) then true else (!m120)) = false → σ' 59 = (.agg #[.float .f32 q90_0r0, .float .f32 q90_0r1, .float .f32 q90_0r2]))) hg169
          obtain ⟨d108_27_0r0, d108_27_0r1, d108_27_0r2, t62, d108_27_0h0, d108_27_0h1, d108_27_0h2⟩ : ∃ d108_27_0r0 : Nat, ∃ d108_27_0r1 : Nat, ∃ d108_27_0r2 : Nat, σ' 62 = (.agg #[.float .f32 d108_27_0r0, .float .f32 d108_27_0r1, .float .f32 d108_27_0r2]) ∧ cn .f32 d108_27_0r0 = m121.x ∧ cn .f32 d108_27_0r1 = m121.y ∧ cn .f32 d108_27_0r2 = m121.z := (hD 27 rfl : ((bif (bif (bif (!m116) then true else (fcmp .neq .f32 m117 0)) then true else (fcmp .neq .f32 m118 0)) then true else (!m120)) = false → ∃ d108_27_0r0 : Nat, ∃ d108_27_0r1 : Nat, ∃ d108_27_0r2 : Nat, σ' 62 = (.agg #[.float .f32 d108_27_0r0, .float .f32 d108_27_0r1, .float .f32 d108_27_0r2]) ∧ cn .f32 d108_27_0r0 = m121.x ∧ cn .f32 d108_27_0r1 = m121.y ∧ cn .f32 d108_27_0r2 = m121.z)) hg169
          refine dg_on rfl (Eq.trans (show sl _ _ _ = .bool (bif (bif (bif (!m116) then true else (fcmp .neq .f32 m117 0)) then true else (fcmp .neq .f32 m118 0)) then true else (!m120)) from t58) (congrArg Value.bool hg169)) (d_cl (vs := [.agg #[.float .f32 q90_0r0, .float .f32 q90_0r1, .float .f32 q90_0r2], .agg #[.float .f32 d108_27_0r0, .float .f32 d108_27_0r1, .float .f32 d108_27_0r2]]) en10 (ac t59 (ac t62 rfl)) rfl ?_)
          refine (c10 (⟨m86.x, m86.y, m86.z⟩ : SVector) m121 q90_0r0 q90_0r1 q90_0r2 d108_27_0r0 d108_27_0r1 d108_27_0r2 m122 w' hm122 q90_0h0 q90_0h1 q90_0h2 d108_27_0h0 d108_27_0h1 d108_27_0h2).mono ?_
          rintro _ w170 ⟨rfl, E170⟩
          refine ⟨_, rfl, ?_⟩
          have X171 : Ext w' w170 := (Ext.refl w').trans E170
          exact ⟨fun _ => rfl, own_none X171⟩
      · skip
        refine ⟨fun _ _ _ _ _ _ h _ => h, fun _ _ h _ => h, fun σ' w' hA hE hD hP => ?_⟩
        have t58 : σ' 58 = (.bool (bif (bif (bif (!m116) then true else (fcmp .neq .f32 m117 0)) then true else (fcmp .neq .f32 m118 0)) then true else (!m120))) := hD 23 rfl
        rcases Bool.eq_false_or_eq_true (bif (bif (bif (!m116) then true else (fcmp .neq .f32 m117 0)) then true else (fcmp .neq .f32 m118 0)) then true else (!m120)) with hg172 | hg172
        · skip
          refine dg_off rfl (Eq.trans (show sl _ _ _ = .bool (bif (bif (bif (!m116) then true else (fcmp .neq .f32 m117 0)) then true else (fcmp .neq .f32 m118 0)) then true else (!m120)) from t58) (congrArg Value.bool hg172)) (by decide) ?_
          exact ⟨fun hc => Bool.noConfusion (hc.symm.trans hg172), own_none (Ext.refl _)⟩
        · skip
          have t63 : σ' 63 = (.bool m122) := (hD 28 rfl : ((bif (bif (bif (!m116) then true else (fcmp .neq .f32 m117 0)) then true else (fcmp .neq .f32 m118 0)) then true else (!m120)) = false → σ' 63 = (.bool m122))) hg172
          refine dg_on rfl (Eq.trans (show sl _ _ _ = .bool (bif (bif (bif (!m116) then true else (fcmp .neq .f32 m117 0)) then true else (fcmp .neq .f32 m118 0)) then true else (!m120)) from t58) (congrArg Value.bool hg172)) (d_not t63 ?_)
          exact ⟨fun _ => rfl, own_none (Ext.refl w')⟩
      · skip
        refine ⟨fun _ _ _ _ _ _ h _ => h, fun _ _ h _ => h, fun σ' w' hA hE hD hP => ?_⟩
        have t58 : σ' 58 = (.bool (bif (bif (bif (!m116) then true else (fcmp .neq .f32 m117 0)) then true else (fcmp .neq .f32 m118 0)) then true else (!m120))) := hD 23 rfl
        rcases Bool.eq_false_or_eq_true (bif (bif (bif (!m116) then true else (fcmp .neq .f32 m117 0)) then true else (fcmp .neq .f32 m118 0)) then true else (!m120)) with hpk | hpk
        · skip
          refine dg_op rfl (d_pick (b := true) (Eq.trans (show ev _ _ = .bool (bif (bif (bif (!m116) then true else (fcmp .neq .f32 m117 0)) then true else (fcmp .neq .f32 m118 0)) then true else (!m120)) from t58) (congrArg Value.bool hpk)) ?_)
          exact ⟨Eq.trans (b := Value.bool true) rfl (congrArg Value.bool (by rw [hpk] <;> rfl)), own_none (Ext.refl _)⟩
        · skip
          have t64 : σ' 64 = (.bool (!m122)) := (hD 29 rfl : ((bif (bif (bif (!m116) then true else (fcmp .neq .f32 m117 0)) then true else (fcmp .neq .f32 m118 0)) then true else (!m120)) = false → σ' 64 = (.bool (!m122)))) hpk
          refine dg_op rfl (d_pick (b := false) (Eq.trans (show ev _ _ = .bool (bif (bif (bif (!m116) then true else (fcmp .neq .f32 m117 0)) then true else (fcmp .neq .f32 m118 0)) then true else (!m120)) from t58) (congrArg Value.bool hpk)) ?_)
          exact ⟨Eq.trans (b := Value.bool (!m122)) t64 (congrArg Value.bool (by rw [hpk] <;> rfl)), own_none (Ext.refl _)⟩
      · skip
        refine ⟨fun _ _ _ _ _ _ h _ => h, fun _ _ h _ => h, fun σ' w' hA hE hD hP => ?_⟩
        have t65 : σ' 65 = (.bool (bif (bif (bif (bif (!m116) then true else (fcmp .neq .f32 m117 0)) then true else (fcmp .neq .f32 m118 0)) then true else (!m120)) then true else (!m122))) := hD 30 rfl
        refine dg_op rfl (d_mv (v := .bool (bif (bif (bif (bif (!m116) then true else (fcmp .neq .f32 m117 0)) then true else (fcmp .neq .f32 m118 0)) then true else (!m120)) then true else (!m122))) t65 ?_)
        exact ⟨rfl, own_none (Ext.refl w')⟩
      · skip
        refine ⟨fun _ _ _ _ _ _ h _ => h, fun _ _ h _ => h, fun σ' w' hA hE hD hP => ?_⟩
        have t66 : σ' 66 = (.bool (bif (bif (bif (bif (!m116) then true else (fcmp .neq .f32 m117 0)) then true else (fcmp .neq .f32 m118 0)) then true else (!m120)) then true else (!m122))) := hD 31 rfl
        rcases Bool.eq_false_or_eq_true (bif (bif (bif (bif (!m116) then true else (fcmp .neq .f32 m117 0)) then true else (fcmp .neq .f32 m118 0)) then true else (!m120)) then true else (!m122)) with hg173 | hg173
        · skip
          refine dg_off rfl (Eq.trans (show sl _ _ _ = .bool (bif (bif (bif (bif (!m116) then true else (fcmp .neq .f32 m117 0)) then true else (fcmp .neq .f32 m118 0)) then true else (!m120)) then true else (!m122)) from t66) (congrArg Value.bool hg173)) (by decide) ?_
          exact ⟨fun hc => Bool.noConfusion (hc.symm.trans hg173), own_none (Ext.refl _)⟩
        · skip
          have t5 : σ' 5 = .pointer (some ⟨w7.heap.size, 0, none⟩) := (hA 5 rfl).trans s5_58
          have B0_174 : w'.heap[w7.heap.size]? = some (.cells #[.float .f32 q7_0r0, .float .f32 q7_0r1, .float .f32 q7_0r2] 26 (0, 0)) := hE.heap not_oth0 B111
          refine dg_on rfl (Eq.trans (show sl _ _ _ = .bool (bif (bif (bif (bif (!m116) then true else (fcmp .neq .f32 m117 0)) then true else (fcmp .neq .f32 m118 0)) then true else (!m120)) then true else (!m122)) from t66) (congrArg Value.bool hg173)) (d_loads (vs := #[.float .f32 q7_0r0, .float .f32 q7_0r1, .float .f32 q7_0r2]) t5 agg26 size26 B0_174 rfl ?_)
          exact ⟨fun _ => rfl, own_none (Ext.refl w')⟩
      · skip
        refine ⟨fun _ _ _ _ _ _ h _ => h, fun _ _ h _ => h, fun σ' w' hA hE hD hP => ?_⟩
        have t66 : σ' 66 = (.bool (bif (bif (bif (bif (!m116) then true else (fcmp .neq .f32 m117 0)) then true else (fcmp .neq .f32 m118 0)) then true else (!m120)) then true else (!m122))) := hD 31 rfl
        rcases Bool.eq_false_or_eq_true (bif (bif (bif (bif (!m116) then true else (fcmp .neq .f32 m117 0)) then true else (fcmp .neq .f32 m118 0)) then true else (!m120)) then true else (!m122)) with hg175 | hg175
        · skip
          refine dg_off rfl (Eq.trans (show sl _ _ _ = .bool (bif (bif (bif (bif (!m116) then true else (fcmp .neq .f32 m117 0)) then true else (fcmp .neq .f32 m118 0)) then true else (!m120)) then true else (!m122)) from t66) (congrArg Value.bool hg175)) (by decide) ?_
          exact ⟨fun hc => Bool.noConfusion (hc.symm.trans hg175), own_none (Ext.refl _)⟩
        · skip
          have t5 : σ' 5 = .pointer (some ⟨w7.heap.size, 0, none⟩) := (hA 5 rfl).trans s5_58
          have B0_176 : w'.heap[w7.heap.size]? = some (.cells #[.float .f32 q7_0r0, .float .f32 q7_0r1, .float .f32 q7_0r2] 26 (0, 0)) := hE.heap not_oth0 B111
          refine dg_on rfl (Eq.trans (show sl _ _ _ = .bool (bif (bif (bif (bif (!m116) then true else (fcmp .neq .f32 m117 0)) then true else (fcmp .neq .f32 m118 0)) then true else (!m120)) then true else (!m122)) from t66) (congrArg Value.bool hg175)) (d_loads (vs := #[.float .f32 q7_0r0, .float .f32 q7_0r1, .float .f32 q7_0r2]) t5 agg26 size26 B0_176 rfl ?_)
          exact ⟨fun _ => rfl, own_none (Ext.refl w')⟩
      · skip
        refine ⟨fun _ _ _ _ _ _ h _ => h, fun _ _ h _ => h, fun σ' w' hA hE hD hP => ?_⟩
        have t66 : σ' 66 = (.bool (bif (bif (bif (bif (!m116) then true else (fcmp .neq .f32 m117 0)) then true else (fcmp .neq .f32 m118 0)) then true else (!m120)) then true else (!m122))) := hD 31 rfl
        rcases Bool.eq_false_or_eq_true (bif (bif (bif (bif (!m116) then true else (fcmp .neq .f32 m117 0)) then true else (fcmp .neq .f32 m118 0)) then true else (!m120)) then true else (!m122)) with hg177 | hg177
        · skip
          refine dg_off rfl (Eq.trans (show sl _ _ _ = .bool (bif (bif (bif (bif (!m116) then true else (fcmp .neq .f32 m117 0)) then true else (fcmp .neq .f32 m118 0)) then true else (!m120)) then true else (!m122)) from t66) (congrArg Value.bool hg177)) (by decide) ?_
          exact ⟨fun hc => Bool.noConfusion (hc.symm.trans hg177), own_none (Ext.refl _)⟩
        · skip
          have t67 : σ' 67 = (.agg #[.float .f32 q7_0r0, .float .f32 q7_0r1, .float .f32 q7_0r2]) := (hD 32 rfl : ((bif (bif (bif (bif (!m116) then true else (fcmp .neq .f32 m117 0)) then true else (fcmp .neq .f32 m118 0)) then true else (!m120)) then true else (!m122)) = false → σ' 67 = (.agg #[.float .f32 q7_0r0, .float .f32 q7_0r1, .float .f32 q7_0r2]))) hg177
          have t68 : σ' 68 = (.agg #[.float .f32 q7_0r0, .float .f32 q7_0r1, .float .f32 q7_0r2]) := (hD 33 rfl : ((bif (bif (bif (bif (!m116) then true else (fcmp .neq .f32 m117 0)) then true else (fcmp .neq .f32 m118 0)) then true else (!m120)) then true else (!m122)) = false → σ' 68 = (.agg #[.float .f32 q7_0r0, .float .f32 q7_0r1, .float .f32 q7_0r2]))) hg177
          refine dg_on rfl (Eq.trans (show sl _ _ _ = .bool (bif (bif (bif (bif (!m116) then true else (fcmp .neq .f32 m117 0)) then true else (fcmp .neq .f32 m118 0)) then true else (!m120)) then true else (!m122)) from t66) (congrArg Value.bool hg177)) (d_cl (vs := [.agg #[.float .f32 q7_0r0, .float .f32 q7_0r1, .float .f32 q7_0r2], .agg #[.float .f32 q7_0r0, .float .f32 q7_0r1, .float .f32 q7_0r2]]) en11 (ac t67 (ac t68 rfl)) rfl ?_)
          refine (c11 (⟨m5.x, m5.y, m5.z⟩ : SVector) (⟨m5.x, m5.y, m5.z⟩ : SVector) q7_0r0 q7_0r1 q7_0r2 q7_0r0 q7_0r1 q7_0r2 m123 w' hm123 q7_0h0 q7_0h1 q7_0h2 q7_0h0 q7_0h1 q7_0h2).mono ?_
          rintro _ w178 ⟨q178_0r, rfl, q178_0h, E178⟩
          refine ⟨_, rfl, ?_⟩
          have X179 : Ext w' w178 := (Ext.refl w').trans E178
          exact ⟨fun _ => ⟨q178_0r, rfl, q178_0h⟩, own_none X179⟩
      · skip
        refine ⟨fun _ _ _ _ _ _ h _ => h, fun _ _ h _ => h, fun σ' w' hA hE hD hP => ?_⟩
        have t66 : σ' 66 = (.bool (bif (bif (bif (bif (!m116) then true else (fcmp .neq .f32 m117 0)) then true else (fcmp .neq .f32 m118 0)) then true else (!m120)) then true else (!m122))) := hD 31 rfl
        rcases Bool.eq_false_or_eq_true (bif (bif (bif (bif (!m116) then true else (fcmp .neq .f32 m117 0)) then true else (fcmp .neq .f32 m118 0)) then true else (!m120)) then true else (!m122)) with hg180 | hg180
        · skip
          refine dg_off rfl (Eq.trans (show sl _ _ _ = .bool (bif (bif (bif (bif (!m116) then true else (fcmp .neq .f32 m117 0)) then true else (fcmp .neq .f32 m118 0)) then true else (!m120)) then true else (!m122)) from t66) (congrArg Value.bool hg180)) (by decide) ?_
          exact ⟨fun hc => Bool.noConfusion (hc.symm.trans hg180), own_none (Ext.refl _)⟩
        · skip
          have t5 : σ' 5 = .pointer (some ⟨w7.heap.size, 0, none⟩) := (hA 5 rfl).trans s5_58
          have B0_181 : w'.heap[w7.heap.size]? = some (.cells #[.float .f32 q7_0r0, .float .f32 q7_0r1, .float .f32 q7_0r2] 26 (0, 0)) := hE.heap not_oth0 B111
          refine dg_on rfl (Eq.trans (show sl _ _ _ = .bool (bif (bif (bif (bif (!m116) then true else (fcmp .neq .f32 m117 0)) then true else (fcmp .neq .f32 m118 0)) then true else (!m120)) then true else (!m122)) from t66) (congrArg Value.bool hg180)) (d_loads (vs := #[.float .f32 q7_0r0, .float .f32 q7_0r1, .float .f32 q7_0r2]) t5 agg26 size26 B0_181 rfl ?_)
          exact ⟨fun _ => rfl, own_none (Ext.refl w')⟩
      · skip
        refine ⟨fun _ _ _ _ _ _ h _ => h, fun _ _ h _ => h, fun σ' w' hA hE hD hP => ?_⟩
        have t66 : σ' 66 = (.bool (bif (bif (bif (bif (!m116) then true else (fcmp .neq .f32 m117 0)) then true else (fcmp .neq .f32 m118 0)) then true else (!m120)) then true else (!m122))) := hD 31 rfl
        rcases Bool.eq_false_or_eq_true (bif (bif (bif (bif (!m116) then true else (fcmp .neq .f32 m117 0)) then true else (fcmp .neq .f32 m118 0)) then true else (!m120)) then true else (!m122)) with hg182 | hg182
        · skip
          refine dg_off rfl (Eq.trans (show sl _ _ _ = .bool (bif (bif (bif (bif (!m116) then true else (fcmp .neq .f32 m117 0)) then true else (fcmp .neq .f32 m118 0)) then true else (!m120)) then true else (!m122)) from t66) (congrArg Value.bool hg182)) (by decide) ?_
          exact ⟨fun hc => Bool.noConfusion (hc.symm.trans hg182), own_none (Ext.refl _)⟩
        · skip
          have t70 : σ' 70 = (.agg #[.float .f32 q7_0r0, .float .f32 q7_0r1, .float .f32 q7_0r2]) := (hD 35 rfl : ((bif (bif (bif (bif (!m116) then true else (fcmp .neq .f32 m117 0)) then true else (fcmp .neq .f32 m118 0)) then true else (!m120)) then true else (!m122)) = false → σ' 70 = (.agg #[.float .f32 q7_0r0, .float .f32 q7_0r1, .float .f32 q7_0r2]))) hg182
          refine dg_on rfl (Eq.trans (show sl _ _ _ = .bool (bif (bif (bif (bif (!m116) then true else (fcmp .neq .f32 m117 0)) then true else (fcmp .neq .f32 m118 0)) then true else (!m120)) then true else (!m122)) from t66) (congrArg Value.bool hg182)) (d_cl (vs := [.agg #[.float .f32 q7_0r0, .float .f32 q7_0r1, .float .f32 q7_0r2]]) en12 (ac t70 rfl) rfl ?_)
          refine (c12 (⟨m5.x, m5.y, m5.z⟩ : SVector) q7_0r0 q7_0r1 q7_0r2 m124 w' hm124 q7_0h0 q7_0h1 q7_0h2).mono ?_
          rintro _ w183 ⟨q183_0r, rfl, q183_0h, E183⟩
          refine ⟨_, rfl, ?_⟩
          have X184 : Ext w' w183 := (Ext.refl w').trans E183
          exact ⟨fun _ => ⟨q183_0r, rfl, q183_0h⟩, own_none X184⟩
      · skip
        refine ⟨fun _ _ _ _ _ _ h _ => h, fun _ _ h _ => h, fun σ' w' hA hE hD hP => ?_⟩
        have t66 : σ' 66 = (.bool (bif (bif (bif (bif (!m116) then true else (fcmp .neq .f32 m117 0)) then true else (fcmp .neq .f32 m118 0)) then true else (!m120)) then true else (!m122))) := hD 31 rfl
        rcases Bool.eq_false_or_eq_true (bif (bif (bif (bif (!m116) then true else (fcmp .neq .f32 m117 0)) then true else (fcmp .neq .f32 m118 0)) then true else (!m120)) then true else (!m122)) with hg185 | hg185
        · skip
          refine dg_off rfl (Eq.trans (show sl _ _ _ = .bool (bif (bif (bif (bif (!m116) then true else (fcmp .neq .f32 m117 0)) then true else (fcmp .neq .f32 m118 0)) then true else (!m120)) then true else (!m122)) from t66) (congrArg Value.bool hg185)) (by decide) ?_
          exact ⟨fun hc => Bool.noConfusion (hc.symm.trans hg185), own_none (Ext.refl _)⟩
        · skip
          obtain ⟨d108_34_0r, t69, d108_34_0h⟩ : ∃ d108_34_0r : Nat, σ' 69 = (.float .f32 d108_34_0r) ∧ cn .f32 d108_34_0r = m123 := (hD 34 rfl : ((bif (bif (bif (bif (!m116) then true else (fcmp .neq .f32 m117 0)) then true else (fcmp .neq .f32 m118 0)) then true else (!m120)) then true else (!m122)) = false → ∃ d108_34_0r : Nat, σ' 69 = (.float .f32 d108_34_0r) ∧ cn .f32 d108_34_0r = m123)) hg185
          obtain ⟨d108_36_0r, t71, d108_36_0h⟩ : ∃ d108_36_0r : Nat, σ' 71 = (.float .f32 d108_36_0r) ∧ cn .f32 d108_36_0r = m124 := (hD 36 rfl : ((bif (bif (bif (bif (!m116) then true else (fcmp .neq .f32 m117 0)) then true else (fcmp .neq .f32 m118 0)) then true else (!m120)) then true else (!m122)) = false → ∃ d108_36_0r : Nat, σ' 71 = (.float .f32 d108_36_0r) ∧ cn .f32 d108_36_0r = m124)) hg185
          refine dg_on rfl (Eq.trans (show sl _ _ _ = .bool (bif (bif (bif (bif (!m116) then true else (fcmp .neq .f32 m117 0)) then true else (fcmp .neq .f32 m118 0)) then true else (!m120)) then true else (!m122)) from t66) (congrArg Value.bool hg185)) (d_fcmp (k := .f32) cNeq t69 t71 d108_34_0h d108_36_0h ?_)
          exact ⟨fun _ => rfl, own_none (Ext.refl w')⟩
      · skip
        refine ⟨fun _ _ _ _ _ _ h _ => h, fun _ _ h _ => h, fun σ' w' hA hE hD hP => ?_⟩
        have t66 : σ' 66 = (.bool (bif (bif (bif (bif (!m116) then true else (fcmp .neq .f32 m117 0)) then true else (fcmp .neq .f32 m118 0)) then true else (!m120)) then true else (!m122))) := hD 31 rfl
        rcases Bool.eq_false_or_eq_true (bif (bif (bif (bif (!m116) then true else (fcmp .neq .f32 m117 0)) then true else (fcmp .neq .f32 m118 0)) then true else (!m120)) then true else (!m122)) with hpk | hpk
        · skip
          refine dg_op rfl (d_pick (b := true) (Eq.trans (show ev _ _ = .bool (bif (bif (bif (bif (!m116) then true else (fcmp .neq .f32 m117 0)) then true else (fcmp .neq .f32 m118 0)) then true else (!m120)) then true else (!m122)) from t66) (congrArg Value.bool hpk)) ?_)
          exact ⟨Eq.trans (b := Value.bool true) rfl (congrArg Value.bool (by rw [hpk] <;> rfl)), own_none (Ext.refl _)⟩
        · skip
          have t72 : σ' 72 = (.bool (fcmp .neq .f32 m123 m124)) := (hD 37 rfl : ((bif (bif (bif (bif (!m116) then true else (fcmp .neq .f32 m117 0)) then true else (fcmp .neq .f32 m118 0)) then true else (!m120)) then true else (!m122)) = false → σ' 72 = (.bool (fcmp .neq .f32 m123 m124)))) hpk
          refine dg_op rfl (d_pick (b := false) (Eq.trans (show ev _ _ = .bool (bif (bif (bif (bif (!m116) then true else (fcmp .neq .f32 m117 0)) then true else (fcmp .neq .f32 m118 0)) then true else (!m120)) then true else (!m122)) from t66) (congrArg Value.bool hpk)) ?_)
          exact ⟨Eq.trans (b := Value.bool (fcmp .neq .f32 m123 m124)) t72 (congrArg Value.bool (by rw [hpk] <;> rfl)), own_none (Ext.refl _)⟩
      · skip
        refine ⟨fun _ _ _ _ _ _ h _ => h, fun _ _ h _ => h, fun σ' w' hA hE hD hP => ?_⟩
        have t73 : σ' 73 = (.bool (bif (bif (bif (bif (bif (!m116) then true else (fcmp .neq .f32 m117 0)) then true else (fcmp .neq .f32 m118 0)) then true else (!m120)) then true else (!m122)) then true else (fcmp .neq .f32 m123 m124))) := hD 38 rfl
        refine dg_op rfl (d_mv (v := .bool (bif (bif (bif (bif (bif (!m116) then true else (fcmp .neq .f32 m117 0)) then true else (fcmp .neq .f32 m118 0)) then true else (!m120)) then true else (!m122)) then true else (fcmp .neq .f32 m123 m124))) t73 ?_)
        exact ⟨rfl, own_none (Ext.refl w')⟩
      · skip
        refine ⟨fun _ _ _ _ _ _ h _ => h, fun _ _ h _ => h, fun σ' w' hA hE hD hP => ?_⟩
        have t74 : σ' 74 = (.bool (bif (bif (bif (bif (bif (!m116) then true else (fcmp .neq .f32 m117 0)) then true else (fcmp .neq .f32 m118 0)) then true else (!m120)) then true else (!m122)) then true else (fcmp .neq .f32 m123 m124))) := hD 39 rfl
        rcases Bool.eq_false_or_eq_true (bif (bif (bif (bif (bif (!m116) then true else (fcmp .neq .f32 m117 0)) then true else (fcmp .neq .f32 m118 0)) then true else (!m120)) then true else (!m122)) then true else (fcmp .neq .f32 m123 m124)) with hg186 | hg186
        · skip
          refine dg_off rfl (Eq.trans (show sl _ _ _ = .bool (bif (bif (bif (bif (bif (!m116) then true else (fcmp .neq .f32 m117 0)) then true else (fcmp .neq .f32 m118 0)) then true else (!m120)) then true else (!m122)) then true else (fcmp .neq .f32 m123 m124)) from t74) (congrArg Value.bool hg186)) (by decide) ?_
          exact ⟨fun hc => Bool.noConfusion (hc.symm.trans hg186), own_none (Ext.refl _)⟩
        · skip
          have t5 : σ' 5 = .pointer (some ⟨w7.heap.size, 0, none⟩) := (hA 5 rfl).trans s5_58
          have B0_187 : w'.heap[w7.heap.size]? = some (.cells #[.float .f32 q7_0r0, .float .f32 q7_0r1, .float .f32 q7_0r2] 26 (0, 0)) := hE.heap not_oth0 B111
          refine dg_on rfl (Eq.trans (show sl _ _ _ = .bool (bif (bif (bif (bif (bif (!m116) then true else (fcmp .neq .f32 m117 0)) then true else (fcmp .neq .f32 m118 0)) then true else (!m120)) then true else (!m122)) then true else (fcmp .neq .f32 m123 m124)) from t74) (congrArg Value.bool hg186)) (d_loads (vs := #[.float .f32 q7_0r0, .float .f32 q7_0r1, .float .f32 q7_0r2]) t5 agg26 size26 B0_187 rfl ?_)
          exact ⟨fun _ => rfl, own_none (Ext.refl w')⟩
      · skip
        refine ⟨fun _ _ _ _ _ _ h _ => h, fun _ _ h _ => h, fun σ' w' hA hE hD hP => ?_⟩
        have t74 : σ' 74 = (.bool (bif (bif (bif (bif (bif (!m116) then true else (fcmp .neq .f32 m117 0)) then true else (fcmp .neq .f32 m118 0)) then true else (!m120)) then true else (!m122)) then true else (fcmp .neq .f32 m123 m124))) := hD 39 rfl
        rcases Bool.eq_false_or_eq_true (bif (bif (bif (bif (bif (!m116) then true else (fcmp .neq .f32 m117 0)) then true else (fcmp .neq .f32 m118 0)) then true else (!m120)) then true else (!m122)) then true else (fcmp .neq .f32 m123 m124)) with hg188 | hg188
        · skip
          refine dg_off rfl (Eq.trans (show sl _ _ _ = .bool (bif (bif (bif (bif (bif (!m116) then true else (fcmp .neq .f32 m117 0)) then true else (fcmp .neq .f32 m118 0)) then true else (!m120)) then true else (!m122)) then true else (fcmp .neq .f32 m123 m124)) from t74) (congrArg Value.bool hg188)) (by decide) ?_
          exact ⟨fun hc => Bool.noConfusion (hc.symm.trans hg188), own_none (Ext.refl _)⟩
        · skip
          have t75 : σ' 75 = (.agg #[.float .f32 q7_0r0, .float .f32 q7_0r1, .float .f32 q7_0r2]) := (hD 40 rfl : ((bif (bif (bif (bif (bif (!m116) then true else (fcmp .neq .f32 m117 0)) then true else (fcmp .neq .f32 m118 0)) then true else (!m120)) then true else (!m122)) then true else (fcmp .neq .f32 m123 m124)) = false → σ' 75 = (.agg #[.float .f32 q7_0r0, .float .f32 q7_0r1, .float .f32 q7_0r2]))) hg188
          refine dg_on rfl (Eq.trans (show sl _ _ _ = .bool (bif (bif (bif (bif (bif (!m116) then true else (fcmp .neq .f32 m117 0)) then true else (fcmp .neq .f32 m118 0)) then true else (!m120)) then true else (!m122)) then true else (fcmp .neq .f32 m123 m124)) from t74) (congrArg Value.bool hg188)) (d_cl (vs := [.agg #[.float .f32 q7_0r0, .float .f32 q7_0r1, .float .f32 q7_0r2]]) en14 (ac t75 rfl) rfl ?_)
          refine (c14 (⟨m5.x, m5.y, m5.z⟩ : SVector) q7_0r0 q7_0r1 q7_0r2 m125 w' hm125 q7_0h0 q7_0h1 q7_0h2).mono ?_
          rintro _ w189 ⟨q189_0r, rfl, q189_0h, E189⟩
          refine ⟨_, rfl, ?_⟩
          have X190 : Ext w' w189 := (Ext.refl w').trans E189
          exact ⟨fun _ => ⟨q189_0r, rfl, q189_0h⟩, own_none X190⟩
      · skip
        refine ⟨fun _ _ _ _ _ _ h _ => h, fun _ _ h _ => h, fun σ' w' hA hE hD hP => ?_⟩
        have t74 : σ' 74 = (.bool (bif (bif (bif (bif (bif (!m116) then true else (fcmp .neq .f32 m117 0)) then true else (fcmp .neq .f32 m118 0)) then true else (!m120)) then true else (!m122)) then true else (fcmp .neq .f32 m123 m124))) := hD 39 rfl
        rcases Bool.eq_false_or_eq_true (bif (bif (bif (bif (bif (!m116) then true else (fcmp .neq .f32 m117 0)) then true else (fcmp .neq .f32 m118 0)) then true else (!m120)) then true else (!m122)) then true else (fcmp .neq .f32 m123 m124)) with hg191 | hg191
        · skip
          refine dg_off rfl (Eq.trans (show sl _ _ _ = .bool (bif (bif (bif (bif (bif (!m116) then true else (fcmp .neq .f32 m117 0)) then true else (fcmp .neq .f32 m118 0)) then true else (!m120)) then true else (!m122)) then true else (fcmp .neq .f32 m123 m124)) from t74) (congrArg Value.bool hg191)) (by decide) ?_
          exact ⟨fun hc => Bool.noConfusion (hc.symm.trans hg191), own_none (Ext.refl _)⟩
        · skip
          have t5 : σ' 5 = .pointer (some ⟨w7.heap.size, 0, none⟩) := (hA 5 rfl).trans s5_58
          have B0_192 : w'.heap[w7.heap.size]? = some (.cells #[.float .f32 q7_0r0, .float .f32 q7_0r1, .float .f32 q7_0r2] 26 (0, 0)) := hE.heap not_oth0 B111
          refine dg_on rfl (Eq.trans (show sl _ _ _ = .bool (bif (bif (bif (bif (bif (!m116) then true else (fcmp .neq .f32 m117 0)) then true else (fcmp .neq .f32 m118 0)) then true else (!m120)) then true else (!m122)) then true else (fcmp .neq .f32 m123 m124)) from t74) (congrArg Value.bool hg191)) (d_loads (vs := #[.float .f32 q7_0r0, .float .f32 q7_0r1, .float .f32 q7_0r2]) t5 agg26 size26 B0_192 rfl ?_)
          exact ⟨fun _ => rfl, own_none (Ext.refl w')⟩
      · skip
        refine ⟨fun _ _ _ _ _ _ h _ => h, fun _ _ h _ => h, fun σ' w' hA hE hD hP => ?_⟩
        have t74 : σ' 74 = (.bool (bif (bif (bif (bif (bif (!m116) then true else (fcmp .neq .f32 m117 0)) then true else (fcmp .neq .f32 m118 0)) then true else (!m120)) then true else (!m122)) then true else (fcmp .neq .f32 m123 m124))) := hD 39 rfl
        rcases Bool.eq_false_or_eq_true (bif (bif (bif (bif (bif (!m116) then true else (fcmp .neq .f32 m117 0)) then true else (fcmp .neq .f32 m118 0)) then true else (!m120)) then true else (!m122)) then true else (fcmp .neq .f32 m123 m124)) with hg193 | hg193
        · skip
          refine dg_off rfl (Eq.trans (show sl _ _ _ = .bool (bif (bif (bif (bif (bif (!m116) then true else (fcmp .neq .f32 m117 0)) then true else (fcmp .neq .f32 m118 0)) then true else (!m120)) then true else (!m122)) then true else (fcmp .neq .f32 m123 m124)) from t74) (congrArg Value.bool hg193)) (by decide) ?_
          exact ⟨fun hc => Bool.noConfusion (hc.symm.trans hg193), own_none (Ext.refl _)⟩
        · skip
          have t77 : σ' 77 = (.agg #[.float .f32 q7_0r0, .float .f32 q7_0r1, .float .f32 q7_0r2]) := (hD 42 rfl : ((bif (bif (bif (bif (bif (!m116) then true else (fcmp .neq .f32 m117 0)) then true else (fcmp .neq .f32 m118 0)) then true else (!m120)) then true else (!m122)) then true else (fcmp .neq .f32 m123 m124)) = false → σ' 77 = (.agg #[.float .f32 q7_0r0, .float .f32 q7_0r1, .float .f32 q7_0r2]))) hg193
          refine dg_on rfl (Eq.trans (show sl _ _ _ = .bool (bif (bif (bif (bif (bif (!m116) then true else (fcmp .neq .f32 m117 0)) then true else (fcmp .neq .f32 m118 0)) then true else (!m120)) then true else (!m122)) then true else (fcmp .neq .f32 m123 m124)) from t74) (congrArg Value.bool hg193)) (d_cl (vs := [.agg #[.float .f32 q7_0r0, .float .f32 q7_0r1, .float .f32 q7_0r2]]) en12 (ac t77 rfl) rfl ?_)
          refine (c12 (⟨m5.x, m5.y, m5.z⟩ : SVector) q7_0r0 q7_0r1 q7_0r2 m126 w' hm126 q7_0h0 q7_0h1 q7_0h2).mono ?_
          rintro _ w194 ⟨q194_0r, rfl, q194_0h, E194⟩
          refine ⟨_, rfl, ?_⟩
          have X195 : Ext w' w194 := (Ext.refl w').trans E194
          exact ⟨fun _ => ⟨q194_0r, rfl, q194_0h⟩, own_none X195⟩
      · skip
        refine ⟨fun _ _ _ _ _ _ h _ => h, fun _ _ h _ => h, fun σ' w' hA hE hD hP => ?_⟩
        have t74 : σ' 74 = (.bool (bif (bif (bif (bif (bif (!m116) then true else (fcmp .neq .f32 m117 0)) then true else (fcmp .neq .f32 m118 0)) then true else (!m120)) then true else (!m122)) then true else (fcmp .neq .f32 m123 m124))) := hD 39 rfl
        rcases Bool.eq_false_or_eq_true (bif (bif (bif (bif (bif (!m116) then true else (fcmp .neq .f32 m117 0)) then true else (fcmp .neq .f32 m118 0)) then true else (!m120)) then true else (!m122)) then true else (fcmp .neq .f32 m123 m124)) with hg196 | hg196
        · skip
          refine dg_off rfl (Eq.trans (show sl _ _ _ = .bool (bif (bif (bif (bif (bif (!m116) then true else (fcmp .neq .f32 m117 0)) then true else (fcmp .neq .f32 m118 0)) then true else (!m120)) then true else (!m122)) then true else (fcmp .neq .f32 m123 m124)) from t74) (congrArg Value.bool hg196)) (by decide) ?_
          exact ⟨fun hc => Bool.noConfusion (hc.symm.trans hg196), own_none (Ext.refl _)⟩
        · skip
          obtain ⟨d108_43_0r, t78, d108_43_0h⟩ : ∃ d108_43_0r : Nat, σ' 78 = (.float .f32 d108_43_0r) ∧ cn .f32 d108_43_0r = m126 := (hD 43 rfl : ((bif (bif (bif (bif (bif (!m116) then true else (fcmp .neq .f32 m117 0)) then true else (fcmp .neq .f32 m118 0)) then true else (!m120)) then true else (!m122)) then true else (fcmp .neq .f32 m123 m124)) = false → ∃ d108_43_0r : Nat, σ' 78 = (.float .f32 d108_43_0r) ∧ cn .f32 d108_43_0r = m126)) hg196
          refine dg_on rfl (Eq.trans (show sl _ _ _ = .bool (bif (bif (bif (bif (bif (!m116) then true else (fcmp .neq .f32 m117 0)) then true else (fcmp .neq .f32 m118 0)) then true else (!m120)) then true else (!m122)) then true else (fcmp .neq .f32 m123 m124)) from t74) (congrArg Value.bool hg196)) (d_cl (vs := [.float .f32 d108_43_0r]) en15 (ac t78 rfl) rfl ?_)
          refine (c15 m126 d108_43_0r m127 w' hm127 d108_43_0h).mono ?_
          rintro _ w197 ⟨q197_0r, rfl, q197_0h, E197⟩
          refine ⟨_, rfl, ?_⟩
          have X198 : Ext w' w197 := (Ext.refl w').trans E197
          exact ⟨fun _ => ⟨q197_0r, rfl, q197_0h⟩, own_none X198⟩
      · skip
        refine ⟨fun _ _ _ _ _ _ h _ => h, fun _ _ h _ => h, fun σ' w' hA hE hD hP => ?_⟩
        have t74 : σ' 74 = (.bool (bif (bif (bif (bif (bif (!m116) then true else (fcmp .neq .f32 m117 0)) then true else (fcmp .neq .f32 m118 0)) then true else (!m120)) then true else (!m122)) then true else (fcmp .neq .f32 m123 m124))) := hD 39 rfl
        rcases Bool.eq_false_or_eq_true (bif (bif (bif (bif (bif (!m116) then true else (fcmp .neq .f32 m117 0)) then true else (fcmp .neq .f32 m118 0)) then true else (!m120)) then true else (!m122)) then true else (fcmp .neq .f32 m123 m124)) with hg199 | hg199
        · skip
          refine dg_off rfl (Eq.trans (show sl _ _ _ = .bool (bif (bif (bif (bif (bif (!m116) then true else (fcmp .neq .f32 m117 0)) then true else (fcmp .neq .f32 m118 0)) then true else (!m120)) then true else (!m122)) then true else (fcmp .neq .f32 m123 m124)) from t74) (congrArg Value.bool hg199)) (by decide) ?_
          exact ⟨fun hc => Bool.noConfusion (hc.symm.trans hg199), own_none (Ext.refl _)⟩
        · skip
          obtain ⟨d108_41_0r, t76, d108_41_0h⟩ : ∃ d108_41_0r : Nat, σ' 76 = (.float .f32 d108_41_0r) ∧ cn .f32 d108_41_0r = m125 := (hD 41 rfl : ((bif (bif (bif (bif (bif (!m116) then true else (fcmp .neq .f32 m117 0)) then true else (fcmp .neq .f32 m118 0)) then true else (!m120)) then true else (!m122)) then true else (fcmp .neq .f32 m123 m124)) = false → ∃ d108_41_0r : Nat, σ' 76 = (.float .f32 d108_41_0r) ∧ cn .f32 d108_41_0r = m125)) hg199
          obtain ⟨d108_44_0r, t79, d108_44_0h⟩ : ∃ d108_44_0r : Nat, σ' 79 = (.float .f32 d108_44_0r) ∧ cn .f32 d108_44_0r = m127 := (hD 44 rfl : ((bif (bif (bif (bif (bif (!m116) then true else (fcmp .neq .f32 m117 0)) then true else (fcmp .neq .f32 m118 0)) then true else (!m120)) then true else (!m122)) then true else (fcmp .neq .f32 m123 m124)) = false → ∃ d108_44_0r : Nat, σ' 79 = (.float .f32 d108_44_0r) ∧ cn .f32 d108_44_0r = m127)) hg199
          refine dg_on rfl (Eq.trans (show sl _ _ _ = .bool (bif (bif (bif (bif (bif (!m116) then true else (fcmp .neq .f32 m117 0)) then true else (fcmp .neq .f32 m118 0)) then true else (!m120)) then true else (!m122)) then true else (fcmp .neq .f32 m123 m124)) from t74) (congrArg Value.bool hg199)) (d_cl (vs := [.float .f32 d108_41_0r, .float .f32 d108_44_0r]) en13 (ac t76 (ac t79 rfl)) rfl ?_)
          refine (c13 m125 m127 d108_41_0r d108_44_0r m128 w' hm128 d108_41_0h d108_44_0h).mono ?_
          rintro _ w200 ⟨rfl, E200⟩
          refine ⟨_, rfl, ?_⟩
          have X201 : Ext w' w200 := (Ext.refl w').trans E200
          exact ⟨fun _ => rfl, own_none X201⟩
      · skip
        refine ⟨fun _ _ _ _ _ _ h _ => h, fun _ _ h _ => h, fun σ' w' hA hE hD hP => ?_⟩
        have t74 : σ' 74 = (.bool (bif (bif (bif (bif (bif (!m116) then true else (fcmp .neq .f32 m117 0)) then true else (fcmp .neq .f32 m118 0)) then true else (!m120)) then true else (!m122)) then true else (fcmp .neq .f32 m123 m124))) := hD 39 rfl
        rcases Bool.eq_false_or_eq_true (bif (bif (bif (bif (bif (!m116) then true else (fcmp .neq .f32 m117 0)) then true else (fcmp .neq .f32 m118 0)) then true else (!m120)) then true else (!m122)) then true else (fcmp .neq .f32 m123 m124)) with hg202 | hg202
        · skip
          refine dg_off rfl (Eq.trans (show sl _ _ _ = .bool (bif (bif (bif (bif (bif (!m116) then true else (fcmp .neq .f32 m117 0)) then true else (fcmp .neq .f32 m118 0)) then true else (!m120)) then true else (!m122)) then true else (fcmp .neq .f32 m123 m124)) from t74) (congrArg Value.bool hg202)) (by decide) ?_
          exact ⟨fun hc => Bool.noConfusion (hc.symm.trans hg202), own_none (Ext.refl _)⟩
        · skip
          have t80 : σ' 80 = (.bool m128) := (hD 45 rfl : ((bif (bif (bif (bif (bif (!m116) then true else (fcmp .neq .f32 m117 0)) then true else (fcmp .neq .f32 m118 0)) then true else (!m120)) then true else (!m122)) then true else (fcmp .neq .f32 m123 m124)) = false → σ' 80 = (.bool m128))) hg202
          refine dg_on rfl (Eq.trans (show sl _ _ _ = .bool (bif (bif (bif (bif (bif (!m116) then true else (fcmp .neq .f32 m117 0)) then true else (fcmp .neq .f32 m118 0)) then true else (!m120)) then true else (!m122)) then true else (fcmp .neq .f32 m123 m124)) from t74) (congrArg Value.bool hg202)) (d_not t80 ?_)
          exact ⟨fun _ => rfl, own_none (Ext.refl w')⟩
      · skip
        refine ⟨fun _ _ _ _ _ _ h _ => h, fun _ _ h _ => h, fun σ' w' hA hE hD hP => ?_⟩
        have t74 : σ' 74 = (.bool (bif (bif (bif (bif (bif (!m116) then true else (fcmp .neq .f32 m117 0)) then true else (fcmp .neq .f32 m118 0)) then true else (!m120)) then true else (!m122)) then true else (fcmp .neq .f32 m123 m124))) := hD 39 rfl
        rcases Bool.eq_false_or_eq_true (bif (bif (bif (bif (bif (!m116) then true else (fcmp .neq .f32 m117 0)) then true else (fcmp .neq .f32 m118 0)) then true else (!m120)) then true else (!m122)) then true else (fcmp .neq .f32 m123 m124)) with hpk | hpk
        · skip
          refine dg_op rfl (d_pick (b := true) (Eq.trans (show ev _ _ = .bool (bif (bif (bif (bif (bif (!m116) then true else (fcmp .neq .f32 m117 0)) then true else (fcmp .neq .f32 m118 0)) then true else (!m120)) then true else (!m122)) then true else (fcmp .neq .f32 m123 m124)) from t74) (congrArg Value.bool hpk)) ?_)
          exact ⟨Eq.trans (b := Value.bool true) rfl (congrArg Value.bool (by rw [hpk] <;> rfl)), own_none (Ext.refl _)⟩
        · skip
          have t81 : σ' 81 = (.bool (!m128)) := (hD 46 rfl : ((bif (bif (bif (bif (bif (!m116) then true else (fcmp .neq .f32 m117 0)) then true else (fcmp .neq .f32 m118 0)) then true else (!m120)) then true else (!m122)) then true else (fcmp .neq .f32 m123 m124)) = false → σ' 81 = (.bool (!m128)))) hpk
          refine dg_op rfl (d_pick (b := false) (Eq.trans (show ev _ _ = .bool (bif (bif (bif (bif (bif (!m116) then true else (fcmp .neq .f32 m117 0)) then true else (fcmp .neq .f32 m118 0)) then true else (!m120)) then true else (!m122)) then true else (fcmp .neq .f32 m123 m124)) from t74) (congrArg Value.bool hpk)) ?_)
          exact ⟨Eq.trans (b := Value.bool (!m128)) t81 (congrArg Value.bool (by rw [hpk] <;> rfl)), own_none (Ext.refl _)⟩
      · skip
        intro σ108 w108 A108 E108 V108
        have E108x : Ext w105 w108 := ext_of_oth0 E108
        have s82_108 : σ108 82 = (.bool (bif (bif (bif (bif (bif (bif (!m116) then true else (fcmp .neq .f32 m117 0)) then true else (fcmp .neq .f32 m118 0)) then true else (!m120)) then true else (!m122)) then true else (fcmp .neq .f32 m123 m124)) then true else (!m128))) := V108 47 (Nat.le_of_ble_eq_true rfl)
        have s0_108 : σ108 0 = (Value.slice p0a p0n p0c) := (A108 0 rfl).trans s0_58
        have s5_108 : σ108 5 = .pointer (some ⟨w7.heap.size, 0, none⟩) := (A108 5 rfl).trans s5_58
        have s6_108 : σ108 6 = .pointer (some ⟨w17.heap.size, 0, none⟩) := (A108 6 rfl).trans s6_58
        have X203 : Ext w w108 := X106.trans E108x
        refine W_cond (b := (bif (bif (bif (bif (bif (bif (!m116) then true else (fcmp .neq .f32 m117 0)) then true else (fcmp .neq .f32 m118 0)) then true else (!m120)) then true else (!m122)) then true else (fcmp .neq .f32 m123 m124)) then true else (!m128))) s82_108 (fun hc204 => ?_) (fun hc204 => ?_)
        · skip
          replace hr := bif_t hr hc204
          refine W_seq ?_
          refine W_region rfl ?_
          refine da_op rfl (d_as (v := .bool false) rfl ?_)
          refine da_nil ?_
          refine W_ret ?_
          obtain rfl := Option.some.inj hr
          refine ⟨_, res1 (rv_tmp rfl), ?_⟩
          exact ⟨rfl, X203⟩
        · skip
          replace hr := bif_f hr hc204
          refine W_skip ?_
          refine W_seq ?_
          refine W_seq ?_
          have B206 : RS w108 encI_u8 (Value.slice p0a p0n p0c) p0 := p0R.ext X203
          have B207 : RS w108 encI_u8 (Value.slice p1a p1n p1c) p1 := p1R.ext X203
          have B208 : w108.heap[w7.heap.size]? = some (.cells #[.float .f32 q7_0r0, .float .f32 q7_0r1, .float .f32 q7_0r2] 26 (0, 0)) := E108x.heap B111
          have B209 : w108.heap[w17.heap.size]? = some (.cells #[.float .f32 q17_0r0, .float .f32 q17_0r1, .float .f32 q17_0r2] 26 (0, 0)) := E108x.heap B112
          obtain ⟨m210, hm210, hr⟩ := letv_out hr
          obtain ⟨m211, hm211, hr⟩ := letv_out hr
          obtain ⟨m212, hm212, hr⟩ := letv_out hr
          obtain ⟨m213, hm213, hr⟩ := letv_out hr
          refine W_any [] [{ V := fun _ v _ => v = (.agg #[.float .f32 q7_0r0, .float .f32 q7_0r1, .float .f32 q7_0r2]) }, { V := fun _ v _ => v = (.agg #[.float .f32 q17_0r0, .float .f32 q17_0r1, .float .f32 q17_0r2]) }, { V := fun _ v _ => ∃ d205_2_0r0 : Nat, ∃ d205_2_0r1 : Nat, ∃ d205_2_0r2 : Nat, v = (.agg #[.float .f32 d205_2_0r0, .float .f32 d205_2_0r1, .float .f32 d205_2_0r2]) ∧ cn .f32 d205_2_0r0 = m210.x ∧ cn .f32 d205_2_0r1 = m210.y ∧ cn .f32 d205_2_0r2 = m210.z }, { V := fun _ v _ => v = (.agg #[.float .f32 q7_0r0, .float .f32 q7_0r1, .float .f32 q7_0r2]) }, { V := fun _ v _ => v = (.bool m211) }, { V := fun _ v _ => v = (.bool (!m211)) }, { V := fun _ v _ => v = (.bool (!m211)) }, { V := fun _ v _ => ((!m211) = false → v = (.agg #[.float .f32 q7_0r0, .float .f32 q7_0r1, .float .f32 q7_0r2])) }, { V := fun _ v _ => ((!m211) = false → v = (.agg #[.float .f32 q17_0r0, .float .f32 q17_0r1, .float .f32 q17_0r2])) }, { V := fun _ v _ => ((!m211) = false → ∃ d205_9_0r0 : Nat, ∃ d205_9_0r1 : Nat, ∃ d205_9_0r2 : Nat, v = (.agg #[.float .f32 d205_9_0r0, .float .f32 d205_9_0r1, .float .f32 d205_9_0r2]) ∧ cn .f32 d205_9_0r0 = m212.x ∧ cn .f32 d205_9_0r1 = m212.y ∧ cn .f32 d205_9_0r2 = m212.z) }, { V := fun _ v _ => ((!m211) = false → v = (.agg #[.float .f32 q17_0r0, .float .f32 q17_0r1, .float .f32 q17_0r2])) }, { V := fun _ v _ => ((!m211) = false → v = (.bool m213)) }, { V := fun _ v _ => ((!m211) = false → v = (.bool (!m213))) }, { V := fun _ v _ => v = (.bool (bif (!m211) then true else (!m213))) }] mixed (by kernel_rfl) ⟨trivial, trivial, trivial, trivial, trivial, trivial, trivial, trivial, trivial, trivial, trivial, trivial, trivial, trivial, trivial⟩ ⟨?_, ?_, ?_, ?_, ?_, ?_, ?_, ?_, ?_, ?_, ?_, ?_, ?_, ?_, trivial⟩ ?_
          · skip
            refine ⟨fun _ _ _ _ _ _ h _ => h, fun _ _ h _ => h, fun σ' w' hA hE hD hP => ?_⟩
            have t5 : σ' 5 = .pointer (some ⟨w7.heap.size, 0, none⟩) := (hA 5 rfl).trans s5_108
            have B0_214 : w'.heap[w7.heap.size]? = some (.cells #[.float .f32 q7_0r0, .float .f32 q7_0r1, .float .f32 q7_0r2] 26 (0, 0)) := hE.heap not_oth0 B208
            refine dg_op rfl (d_loads (vs := #[.float .f32 q7_0r0, .float .f32 q7_0r1, .float .f32 q7_0r2]) t5 agg26 size26 B0_214 rfl ?_)
            exact ⟨rfl, own_none (Ext.refl w')⟩
          · skip
            refine ⟨fun _ _ _ _ _ _ h _ => h, fun _ _ h _ => h, fun σ' w' hA hE hD hP => ?_⟩
            have t6 : σ' 6 = .pointer (some ⟨w17.heap.size, 0, none⟩) := (hA 6 rfl).trans s6_108
            have B0_215 : w'.heap[w17.heap.size]? = some (.cells #[.float .f32 q17_0r0, .float .f32 q17_0r1, .float .f32 q17_0r2] 26 (0, 0)) := hE.heap not_oth0 B209
            refine dg_op rfl (d_loads (vs := #[.float .f32 q17_0r0, .float .f32 q17_0r1, .float .f32 q17_0r2]) t6 agg26 size26 B0_215 rfl ?_)
            exact ⟨rfl, own_none (Ext.refl w')⟩
          · skip
            refine ⟨fun _ _ _ _ _ _ h _ => h, fun _ _ h _ => h, fun σ' w' hA hE hD hP => ?_⟩
            have t83 : σ' 83 = (.agg #[.float .f32 q7_0r0, .float .f32 q7_0r1, .float .f32 q7_0r2]) := hD 0 rfl
            have t84 : σ' 84 = (.agg #[.float .f32 q17_0r0, .float .f32 q17_0r1, .float .f32 q17_0r2]) := hD 1 rfl
            refine dg_op rfl (d_cl (vs := [.agg #[.float .f32 q7_0r0, .float .f32 q7_0r1, .float .f32 q7_0r2], .agg #[.float .f32 q17_0r0, .float .f32 q17_0r1, .float .f32 q17_0r2], .float .f32 0]) en16 (ac t83 (ac t84 (ac rfl rfl))) rfl ?_)
            refine (c16 (⟨m5.x, m5.y, m5.z⟩ : SVector) (⟨m15.x, m15.y, m15.z⟩ : SVector) 0 q7_0r0 q7_0r1 q7_0r2 q17_0r0 q17_0r1 q17_0r2 0 m210 w' hm210 q7_0h0 q7_0h1 q7_0h2 q17_0h0 q17_0h1 q17_0h2 cn_f32_0).mono ?_
            rintro _ w216 ⟨q216_0r0, q216_0r1, q216_0r2, rfl, q216_0h0, q216_0h1, q216_0h2, E216⟩
            refine ⟨_, rfl, ?_⟩
            have X217 : Ext w' w216 := (Ext.refl w').trans E216
            exact ⟨⟨q216_0r0, q216_0r1, q216_0r2, rfl, q216_0h0, q216_0h1, q216_0h2⟩, own_none X217⟩
          · skip
            refine ⟨fun _ _ _ _ _ _ h _ => h, fun _ _ h _ => h, fun σ' w' hA hE hD hP => ?_⟩
            have t5 : σ' 5 = .pointer (some ⟨w7.heap.size, 0, none⟩) := (hA 5 rfl).trans s5_108
            have B0_218 : w'.heap[w7.heap.size]? = some (.cells #[.float .f32 q7_0r0, .float .f32 q7_0r1, .float .f32 q7_0r2] 26 (0, 0)) := hE.heap not_oth0 B208
            refine dg_op rfl (d_loads (vs := #[.float .f32 q7_0r0, .float .f32 q7_0r1, .float .f32 q7_0r2]) t5 agg26 size26 B0_218 rfl ?_)
            exact ⟨rfl, own_none (Ext.refl w')⟩
          · skip
            refine ⟨fun _ _ _ _ _ _ h _ => h, fun _ _ h _ => h, fun σ' w' hA hE hD hP => ?_⟩
            obtain ⟨d205_2_0r0, d205_2_0r1, d205_2_0r2, t85, d205_2_0h0, d205_2_0h1, d205_2_0h2⟩ : ∃ d205_2_0r0 : Nat, ∃ d205_2_0r1 : Nat, ∃ d205_2_0r2 : Nat, σ' 85 = (.agg #[.float .f32 d205_2_0r0, .float .f32 d205_2_0r1, .float .f32 d205_2_0r2]) ∧ cn .f32 d205_2_0r0 = m210.x ∧ cn .f32 d205_2_0r1 = m210.y ∧ cn .f32 d205_2_0r2 = m210.z := hD 2 rfl
            have t86 : σ' 86 = (.agg #[.float .f32 q7_0r0, .float .f32 q7_0r1, .float .f32 q7_0r2]) := hD 3 rfl
            refine dg_op rfl (d_cl (vs := [.agg #[.float .f32 d205_2_0r0, .float .f32 d205_2_0r1, .float .f32 d205_2_0r2], .agg #[.float .f32 q7_0r0, .float .f32 q7_0r1, .float .f32 q7_0r2]]) en10 (ac t85 (ac t86 rfl)) rfl ?_)
            refine (c10 m210 (⟨m5.x, m5.y, m5.z⟩ : SVector) d205_2_0r0 d205_2_0r1 d205_2_0r2 q7_0r0 q7_0r1 q7_0r2 m211 w' hm211 d205_2_0h0 d205_2_0h1 d205_2_0h2 q7_0h0 q7_0h1 q7_0h2).mono ?_
            rintro _ w219 ⟨rfl, E219⟩
            refine ⟨_, rfl, ?_⟩
            have X220 : Ext w' w219 := (Ext.refl w').trans E219
            exact ⟨rfl, own_none X220⟩
          · skip
            refine ⟨fun _ _ _ _ _ _ h _ => h, fun _ _ h _ => h, fun σ' w' hA hE hD hP => ?_⟩
            have t87 : σ' 87 = (.bool m211) := hD 4 rfl
            refine dg_op rfl (d_not t87 ?_)
            exact ⟨rfl, own_none (Ext.refl w')⟩
          · skip
            refine ⟨fun _ _ _ _ _ _ h _ => h, fun _ _ h _ => h, fun σ' w' hA hE hD hP => ?_⟩
            have t88 : σ' 88 = (.bool (!m211)) := hD 5 rfl
            refine dg_op rfl (d_mv (v := .bool (!m211)) t88 ?_)
            exact ⟨rfl, own_none (Ext.refl w')⟩
          · skip
            refine ⟨fun _ _ _ _ _ _ h _ => h, fun _ _ h _ => h, fun σ' w' hA hE hD hP => ?_⟩
            have t89 : σ' 89 = (.bool (!m211)) := hD 6 rfl
            rcases Bool.eq_false_or_eq_true (!m211) with hg221 | hg221
            · skip
              refine dg_off rfl (Eq.trans (show sl _ _ _ = .bool (!m211) from t89) (congrArg Value.bool hg221)) (by decide) ?_
              exact ⟨fun hc => Bool.noConfusion (hc.symm.trans hg221), own_none (Ext.refl _)⟩
            · skip
              have t5 : σ' 5 = .pointer (some ⟨w7.heap.size, 0, none⟩) := (hA 5 rfl).trans s5_108
              have B0_222 : w'.heap[w7.heap.size]? = some (.cells #[.float .f32 q7_0r0, .float .f32 q7_0r1, .float .f32 q7_0r2] 26 (0, 0)) := hE.heap not_oth0 B208
              refine dg_on rfl (Eq.trans (show sl _ _ _ = .bool (!m211) from t89) (congrArg Value.bool hg221)) (d_loads (vs := #[.float .f32 q7_0r0, .float .f32 q7_0r1, .float .f32 q7_0r2]) t5 agg26 size26 B0_222 rfl ?_)
              exact ⟨fun _ => rfl, own_none (Ext.refl w')⟩
          · skip
            refine ⟨fun _ _ _ _ _ _ h _ => h, fun _ _ h _ => h, fun σ' w' hA hE hD hP => ?_⟩
            have t89 : σ' 89 = (.bool (!m211)) := hD 6 rfl
            rcases Bool.eq_false_or_eq_true (!m211) with hg223 | hg223
            · skip
              refine dg_off rfl (Eq.trans (show sl _ _ _ = .bool (!m211) from t89) (congrArg Value.bool hg223)) (by decide) ?_
              exact ⟨fun hc => Bool.noConfusion (hc.symm.trans hg223), own_none (Ext.refl _)⟩
            · skip
              have t6 : σ' 6 = .pointer (some ⟨w17.heap.size, 0, none⟩) := (hA 6 rfl).trans s6_108
              have B0_224 : w'.heap[w17.heap.size]? = some (.cells #[.float .f32 q17_0r0, .float .f32 q17_0r1, .float .f32 q17_0r2] 26 (0, 0)) := hE.heap not_oth0 B209
              refine dg_on rfl (Eq.trans (show sl _ _ _ = .bool (!m211) from t89) (congrArg Value.bool hg223)) (d_loads (vs := #[.float .f32 q17_0r0, .float .f32 q17_0r1, .float .f32 q17_0r2]) t6 agg26 size26 B0_224 rfl ?_)
              exact ⟨fun _ => rfl, own_none (Ext.refl w')⟩
          · skip
            refine ⟨fun _ _ _ _ _ _ h _ => h, fun _ _ h _ => h, fun σ' w' hA hE hD hP => ?_⟩
            have t89 : σ' 89 = (.bool (!m211)) := hD 6 rfl
            rcases Bool.eq_false_or_eq_true (!m211) with hg225 | hg225
            · skip
              refine dg_off rfl (Eq.trans (show sl _ _ _ = .bool (!m211) from t89) (congrArg Value.bool hg225)) (by decide) ?_
              exact ⟨fun hc => Bool.noConfusion (hc.symm.trans hg225), own_none (Ext.refl _)⟩
            · skip
              have t90 : σ' 90 = (.agg #[.float .f32 q7_0r0, .float .f32 q7_0r1, .float .f32 q7_0r2]) := (hD 7 rfl : ((!m211) = false → σ' 90 = (.agg #[.float .f32 q7_0r0, .float .f32 q7_0r1, .float .f32 q7_0r2]))) hg225
              have t91 : σ' 91 = (.agg #[.float .f32 q17_0r0, .float .f32 q17_0r1, .float .f32 q17_0r2]) := (hD 8 rfl : ((!m211) = false → σ' 91 = (.agg #[.float .f32 q17_0r0, .float .f32 q17_0r1, .float .f32 q17_0r2]))) hg225
              refine dg_on rfl (Eq.trans (show sl _ _ _ = .bool (!m211) from t89) (congrArg Value.bool hg225)) (d_cl (vs := [.agg #[.float .f32 q7_0r0, .float .f32 q7_0r1, .float .f32 q7_0r2], .agg #[.float .f32 q17_0r0, .float .f32 q17_0r1, .float .f32 q17_0r2], .float .f32 1065353216]) en16 (ac t90 (ac t91 (ac rfl rfl))) rfl ?_)
              refine (c16 (⟨m5.x, m5.y, m5.z⟩ : SVector) (⟨m15.x, m15.y, m15.z⟩ : SVector) 1065353216 q7_0r0 q7_0r1 q7_0r2 q17_0r0 q17_0r1 q17_0r2 1065353216 m212 w' hm212 q7_0h0 q7_0h1 q7_0h2 q17_0h0 q17_0h1 q17_0h2 cn_f32_1065353216).mono ?_
              rintro _ w226 ⟨q226_0r0, q226_0r1, q226_0r2, rfl, q226_0h0, q226_0h1, q226_0h2, E226⟩
              refine ⟨_, rfl, ?_⟩
              have X227 : Ext w' w226 := (Ext.refl w').trans E226
              exact ⟨fun _ => ⟨q226_0r0, q226_0r1, q226_0r2, rfl, q226_0h0, q226_0h1, q226_0h2⟩, own_none X227⟩
          · skip
            refine ⟨fun _ _ _ _ _ _ h _ => h, fun _ _ h _ => h, fun σ' w' hA hE hD hP => ?_⟩
            have t89 : σ' 89 = (.bool (!m211)) := hD 6 rfl
            rcases Bool.eq_false_or_eq_true (!m211) with hg228 | hg228
            · skip
              refine dg_off rfl (Eq.trans (show sl _ _ _ = .bool (!m211) from t89) (congrArg Value.bool hg228)) (by decide) ?_
              exact ⟨fun hc => Bool.noConfusion (hc.symm.trans hg228), own_none (Ext.refl _)⟩
            · skip
              have t6 : σ' 6 = .pointer (some ⟨w17.heap.size, 0, none⟩) := (hA 6 rfl).trans s6_108
              have B0_229 : w'.heap[w17.heap.size]? = some (.cells #[.float .f32 q17_0r0, .float .f32 q17_0r1, .float .f32 q17_0r2] 26 (0, 0)) := hE.heap not_oth0 B209
              refine dg_on rfl (Eq.trans (show sl _ _ _ = .bool (!m211) from t89) (congrArg Value.bool hg228)) (d_loads (vs := #[.float .f32 q17_0r0, .float .f32 q17_0r1, .float .f32 q17_0r2]) t6 agg26 size26 B0_229 rfl ?_)
              exact ⟨fun _ => rfl, own_none (Ext.refl w')⟩
          · skip
            refine ⟨fun _ _ _ _ _ _ h _ => h, fun _ _ h _ => h, fun σ' w' hA hE hD hP => ?_⟩
            have t89 : σ' 89 = (.bool (!m211)) := hD 6 rfl
            rcases Bool.eq_false_or_eq_true (!m211) with hg230 | hg230
            · skip
              refine dg_off rfl (Eq.trans (show sl _ _ _ = .bool (!m211) from t89) (congrArg Value.bool hg230)) (by decide) ?_
              exact ⟨fun hc => Bool.noConfusion (hc.symm.trans hg230), own_none (Ext.refl _)⟩
            · skip
              obtain ⟨d205_9_0r0, d205_9_0r1, d205_9_0r2, t92, d205_9_0h0, d205_9_0h1, d205_9_0h2⟩ : ∃ d205_9_0r0 : Nat, ∃ d205_9_0r1 : Nat, ∃ d205_9_0r2 : Nat, σ' 92 = (.agg #[.float .f32 d205_9_0r0, .float .f32 d205_9_0r1, .float .f32 d205_9_0r2]) ∧ cn .f32 d205_9_0r0 = m212.x ∧ cn .f32 d205_9_0r1 = m212.y ∧ cn .f32 d205_9_0r2 = m212.z := (hD 9 rfl : ((!m211) = false → ∃ d205_9_0r0 : Nat, ∃ d205_9_0r1 : Nat, ∃ d205_9_0r2 : Nat, σ' 92 = (.agg #[.float .f32 d205_9_0r0, .float .f32 d205_9_0r1, .float .f32 d205_9_0r2]) ∧ cn .f32 d205_9_0r0 = m212.x ∧ cn .f32 d205_9_0r1 = m212.y ∧ cn .f32 d205_9_0r2 = m212.z)) hg230
              have t93 : σ' 93 = (.agg #[.float .f32 q17_0r0, .float .f32 q17_0r1, .float .f32 q17_0r2]) := (hD 10 rfl : ((!m211) = false → σ' 93 = (.agg #[.float .f32 q17_0r0, .float .f32 q17_0r1, .float .f32 q17_0r2]))) hg230
              refine dg_on rfl (Eq.trans (show sl _ _ _ = .bool (!m211) from t89) (congrArg Value.bool hg230)) (d_cl (vs := [.agg #[.float .f32 d205_9_0r0, .float .f32 d205_9_0r1, .float .f32 d205_9_0r2], .agg #[.float .f32 q17_0r0, .float .f32 q17_0r1, .float .f32 q17_0r2]]) en10 (ac t92 (ac t93 rfl)) rfl ?_)
              refine (c10 m212 (⟨m15.x, m15.y, m15.z⟩ : SVector) d205_9_0r0 d205_9_0r1 d205_9_0r2 q17_0r0 q17_0r1 q17_0r2 m213 w' hm213 d205_9_0h0 d205_9_0h1 d205_9_0h2 q17_0h0 q17_0h1 q17_0h2).mono ?_
              rintro _ w231 ⟨rfl, E231⟩
              refine ⟨_, rfl, ?_⟩
              have X232 : Ext w' w231 := (Ext.refl w').trans E231
              exact ⟨fun _ => rfl, own_none X232⟩
          · skip
            refine ⟨fun _ _ _ _ _ _ h _ => h, fun _ _ h _ => h, fun σ' w' hA hE hD hP => ?_⟩
            have t89 : σ' 89 = (.bool (!m211)) := hD 6 rfl
            rcases Bool.eq_false_or_eq_true (!m211) with hg233 | hg233
            · skip
              refine dg_off rfl (Eq.trans (show sl _ _ _ = .bool (!m211) from t89) (congrArg Value.bool hg233)) (by decide) ?_
              exact ⟨fun hc => Bool.noConfusion (hc.symm.trans hg233), own_none (Ext.refl _)⟩
            · skip
              have t94 : σ' 94 = (.bool m213) := (hD 11 rfl : ((!m211) = false → σ' 94 = (.bool m213))) hg233
              refine dg_on rfl (Eq.trans (show sl _ _ _ = .bool (!m211) from t89) (congrArg Value.bool hg233)) (d_not t94 ?_)
              exact ⟨fun _ => rfl, own_none (Ext.refl w')⟩
          · skip
            refine ⟨fun _ _ _ _ _ _ h _ => h, fun _ _ h _ => h, fun σ' w' hA hE hD hP => ?_⟩
            have t89 : σ' 89 = (.bool (!m211)) := hD 6 rfl
            rcases Bool.eq_false_or_eq_true (!m211) with hpk | hpk
            · skip
              refine dg_op rfl (d_pick (b := true) (Eq.trans (show ev _ _ = .bool (!m211) from t89) (congrArg Value.bool hpk)) ?_)
              exact ⟨Eq.trans (b := Value.bool true) rfl (congrArg Value.bool (by rw [hpk] <;> rfl)), own_none (Ext.refl _)⟩
            · skip
              have t95 : σ' 95 = (.bool (!m213)) := (hD 12 rfl : ((!m211) = false → σ' 95 = (.bool (!m213)))) hpk
              refine dg_op rfl (d_pick (b := false) (Eq.trans (show ev _ _ = .bool (!m211) from t89) (congrArg Value.bool hpk)) ?_)
              exact ⟨Eq.trans (b := Value.bool (!m213)) t95 (congrArg Value.bool (by rw [hpk] <;> rfl)), own_none (Ext.refl _)⟩
          · skip
            intro σ205 w205 A205 E205 V205
            have E205x : Ext w108 w205 := ext_of_oth0 E205
            have s96_205 : σ205 96 = (.bool (bif (!m211) then true else (!m213))) := V205 13 (Nat.le_of_ble_eq_true rfl)
            have s0_205 : σ205 0 = (Value.slice p0a p0n p0c) := (A205 0 rfl).trans s0_108
            have X234 : Ext w w205 := X203.trans E205x
            refine W_cond (b := (bif (!m211) then true else (!m213))) s96_205 (fun hc235 => ?_) (fun hc235 => ?_)
            · skip
              replace hr := bif_t hr hc235
              refine W_seq ?_
              refine W_region rfl ?_
              refine da_op rfl (d_as (v := .bool false) rfl ?_)
              refine da_nil ?_
              refine W_ret ?_
              obtain rfl := Option.some.inj hr
              refine ⟨_, res1 (rv_tmp rfl), ?_⟩
              exact ⟨rfl, X234⟩
            · skip
              replace hr := bif_f hr hc235
              refine W_skip ?_
              refine W_seq ?_
              refine W_region rfl ?_
              refine da_op rfl (d_mv (v := (Value.slice p0a p0n p0c)) s0_205 ?_)
              obtain ⟨m236, hm236, hr⟩ := bind_out hr
              have B237 : RS w205 encI_u8 (Value.slice p0a p0n p0c) p0 := p0R.ext X234
              refine da_op rfl (d_cl (vs := [(Value.slice p0a p0n p0c)]) en17 (ac rfl rfl) rfl ?_)
              refine (c17 p0 p0a p0n p0c m236 w205 hm236 B237).mono ?_
              rintro _ w238 ⟨q238_0r0, q238_0r1, q238_0r2, rfl, q238_0h0, q238_0h1, q238_0h2, E238⟩
              refine ⟨_, rfl, ?_⟩
              have X239 : Ext w w238 := X234.trans E238
              refine da_op rfl (d_alloc (cs := #[.float .f32 0, .float .f32 0, .float .f32 0]) zero26 rfl fun w240 B240 E240 => ?_)
              have own241 : w.heap.size ≤ w238.heap.size := Nat.le_trans X239.size (Nat.le_refl _)
              have X242 : Ext w w240 := X239.trans E240
              refine da_op rfl (d_store (vs := #[.float .f32 q238_0r0, .float .f32 q238_0r1, .float .f32 q238_0r2]) rfl rfl B240 size26 (Nat.le_of_ble_eq_true rfl) rfl fun w243 S243 => ?_)
              have X244 : Ext w w243 := Ext.step X242 S243.frmb (fun k _ hk => hk ▸ own241)
              have B245 : w243.heap[w238.heap.size]? = some (.cells #[.float .f32 q238_0r0, .float .f32 q238_0r1, .float .f32 q238_0r2] 26 (0, 0)) := S243.here
              refine da_nil ?_
              refine W_seq ?_
              refine W_region rfl ?_
              refine da_op rfl (d_loads (vs := #[.float .f32 q238_0r0, .float .f32 q238_0r1, .float .f32 q238_0r2]) rfl agg26 size26 B245 rfl ?_)
              obtain ⟨m246, hm246, hr⟩ := bind_out hr
              refine da_op rfl (d_cl (vs := [.agg #[.float .f32 q238_0r0, .float .f32 q238_0r1, .float .f32 q238_0r2]]) en18 (ac rfl rfl) rfl ?_)
              refine (c18 (⟨m236.x, m236.y, m236.z⟩ : SVector) q238_0r0 q238_0r1 q238_0r2 m246 w243 hm246 q238_0h0 q238_0h1 q238_0h2).mono ?_
              rintro _ w247 ⟨rfl, E247⟩
              refine ⟨_, rfl, ?_⟩
              have X248 : Ext w w247 := X244.trans E247
              refine da_op rfl (d_as (v := .string (bs m246)) rfl ?_)
              refine da_nil ?_
              refine W_seq ?_
              refine W_region rfl ?_
              refine da_op rfl (d_mv (v := .string (bs m246)) rfl ?_)
              obtain ⟨m249, hm249, hr⟩ := bind_out hr
              have B250 : w247.heap[w238.heap.size]? = some (.cells #[.float .f32 q238_0r0, .float .f32 q238_0r1, .float .f32 q238_0r2] 26 (0, 0)) := E247.heap B245
              refine da_op rfl (d_cl (vs := [.string (bs m246)]) en19 (ac rfl rfl) rfl ?_)
              refine (c19 m246 m249 w247 hm249 ).mono ?_
              rintro _ w251 ⟨q251_0r0, q251_0r1, q251_0r2, rfl, q251_0h0, q251_0h1, q251_0h2, E251⟩
              refine ⟨_, rfl, ?_⟩
              have X252 : Ext w w251 := X248.trans E251
              refine da_op rfl (d_mv (v := .tuple #[.agg #[.float .f32 q251_0r0, .float .f32 q251_0r1, .float .f32 q251_0r2], .bool m249.2]) rfl ?_)
              refine da_op rfl (d_extract (v := .agg #[.float .f32 q251_0r0, .float .f32 q251_0r1, .float .f32 q251_0r2]) rfl rfl ?_)
              refine da_op rfl (d_extract (v := .bool m249.2) rfl rfl ?_)
              have B254 : w251.heap[w238.heap.size]? = some (.cells #[.float .f32 q238_0r0, .float .f32 q238_0r1, .float .f32 q238_0r2] 26 (0, 0)) := E251.heap B250
              refine da_op rfl (d_alloc (cs := #[.float .f32 0, .float .f32 0, .float .f32 0]) zero26 rfl fun w253 B253 E253 => ?_)
              have own255 : w.heap.size ≤ w251.heap.size := Nat.le_trans X252.size (Nat.le_refl _)
              have sp256 : w238.heap.size ≠ w251.heap.size := Nat.ne_of_lt (Nat.lt_of_lt_of_le (lt_heap B254) (Nat.le_refl _))
              have X257 : Ext w w253 := X252.trans E253
              refine da_op rfl (d_store (vs := #[.float .f32 q251_0r0, .float .f32 q251_0r1, .float .f32 q251_0r2]) rfl rfl B253 size26 (Nat.le_of_ble_eq_true rfl) rfl fun w258 S258 => ?_)
              have X259 : Ext w w258 := Ext.step X257 S258.frmb (fun k _ hk => hk ▸ own255)
              have B260 : w258.heap[w251.heap.size]? = some (.cells #[.float .f32 q251_0r0, .float .f32 q251_0r1, .float .f32 q251_0r2] 26 (0, 0)) := S258.here
              refine da_op rfl (d_as (v := .bool m249.2) rfl ?_)
              refine da_nil ?_
              refine W_seq ?_
              have B262 : w258.heap[w238.heap.size]? = some (.cells #[.float .f32 q238_0r0, .float .f32 q238_0r1, .float .f32 q238_0r2] 26 (0, 0)) := S258.frmb.heap sp256 (E253.heap B254)
              obtain ⟨m261, hm261, hr⟩ := bind_out hr
              refine W_cut (fun σ' w' => σ' 4 = .bool m261 ∧ Ext w258 w') rfl ?_ ?_
              · skip
                have hr := hm261
                refine da_op rfl (d_mv (v := .bool m249.2) rfl ?_)
                refine da_op rfl (d_mv (v := .bool m249.2) rfl ?_)
                rcases Bool.eq_false_or_eq_true m249.2 with hc263 | hc263
                · skip
                  replace hr := bif_t hr hc263
                  refine da_on rfl (Eq.trans (show sl _ _ _ = .bool m249.2 from rfl) (congrArg Value.bool hc263)) (d_loads (vs := #[.float .f32 q251_0r0, .float .f32 q251_0r1, .float .f32 q251_0r2]) rfl agg26 size26 B260 rfl ?_)
                  refine da_on rfl (Eq.trans (show sl _ _ _ = .bool m249.2 from rfl) (congrArg Value.bool hc263)) (d_loads (vs := #[.float .f32 q238_0r0, .float .f32 q238_0r1, .float .f32 q238_0r2]) rfl agg26 size26 B262 rfl ?_)
                  obtain ⟨m264, hm264, hr⟩ := bind_out hr
                  refine da_on rfl (Eq.trans (show sl _ _ _ = .bool m249.2 from rfl) (congrArg Value.bool hc263)) (d_cl (vs := [.agg #[.float .f32 q251_0r0, .float .f32 q251_0r1, .float .f32 q251_0r2], .agg #[.float .f32 q238_0r0, .float .f32 q238_0r1, .float .f32 q238_0r2]]) en20 (ac rfl (ac rfl rfl)) rfl ?_)
                  refine (c20 (⟨m249.1.x, m249.1.y, m249.1.z⟩ : SVector) (⟨m236.x, m236.y, m236.z⟩ : SVector) q251_0r0 q251_0r1 q251_0r2 q238_0r0 q238_0r1 q238_0r2 m264 w258 hm264 q251_0h0 q251_0h1 q251_0h2 q238_0h0 q238_0h1 q238_0h2).mono ?_
                  rintro _ w265 ⟨rfl, E265⟩
                  refine ⟨_, rfl, ?_⟩
                  have X266 : Ext w w265 := X259.trans E265
                  refine da_op rfl (d_pick (b := true) (Eq.trans (show ev _ _ = .bool m249.2 from rfl) (congrArg Value.bool hc263)) ?_)
                  refine da_op rfl (d_mv (v := .bool m264) rfl ?_)
                  rcases Bool.eq_false_or_eq_true m264 with hc267 | hc267
                  · skip
                    replace hr := bif_t hr hc267
                    refine da_on rfl (Eq.trans (show sl _ _ _ = .bool m264 from rfl) (congrArg Value.bool hc267)) (d_mv (v := .string (bs m246)) rfl ?_)
                    refine da_on rfl (Eq.trans (show sl _ _ _ = .bool m264 from rfl) (congrArg Value.bool hc267)) (d_slen un9 rfl ?_)
                    refine da_on rfl (Eq.trans (show sl _ _ _ = .bool m264 from rfl) (congrArg Value.bool hc267)) (d_icmp cEql rfl rfl ?_)
                    refine da_op rfl (d_pick (b := true) (Eq.trans (show ev _ _ = .bool m264 from rfl) (congrArg Value.bool hc267)) ?_)
                    refine da_op rfl (d_as (v := .bool (icmp .eql ((m246).length : Int) 26)) rfl ?_)
                    refine da_nil ?_
                    obtain rfl := Option.some.inj hr
                    exact ⟨rfl, (Ext.trans (Ext.refl w258) E265)⟩
                  · skip
                    replace hr := bif_f hr hc267
                    refine da_off rfl (Eq.trans (show sl _ _ _ = .bool m264 from rfl) (congrArg Value.bool hc267)) (by decide) ?_
                    refine da_off rfl (Eq.trans (show sl _ _ _ = .bool m264 from rfl) (congrArg Value.bool hc267)) (by decide) ?_
                    refine da_off rfl (Eq.trans (show sl _ _ _ = .bool m264 from rfl) (congrArg Value.bool hc267)) (by decide) ?_
                    refine da_op rfl (d_pick (b := false) (Eq.trans (show ev _ _ = .bool m264 from rfl) (congrArg Value.bool hc267)) ?_)
                    refine da_op rfl (d_as (v := .bool false) rfl ?_)
                    refine da_nil ?_
                    obtain rfl := Option.some.inj hr
                    exact ⟨rfl, (Ext.trans (Ext.refl w258) E265)⟩
                · skip
                  replace hr := bif_f hr hc263
                  refine da_off rfl (Eq.trans (show sl _ _ _ = .bool m249.2 from rfl) (congrArg Value.bool hc263)) (by decide) ?_
                  refine da_off rfl (Eq.trans (show sl _ _ _ = .bool m249.2 from rfl) (congrArg Value.bool hc263)) (by decide) ?_
                  refine da_off rfl (Eq.trans (show sl _ _ _ = .bool m249.2 from rfl) (congrArg Value.bool hc263)) (by decide) ?_
                  refine da_op rfl (d_pick (b := false) (Eq.trans (show ev _ _ = .bool m249.2 from rfl) (congrArg Value.bool hc263)) ?_)
                  refine da_op rfl (d_mv (v := .bool false) rfl ?_)
                  refine da_off rfl rfl (by decide) ?_
                  refine da_off rfl rfl (by decide) ?_
                  refine da_off rfl rfl (by decide) ?_
                  refine da_op rfl (d_pick (b := false) rfl ?_)
                  refine da_op rfl (d_as (v := .bool false) rfl ?_)
                  refine da_nil ?_
                  obtain rfl := Option.some.inj hr
                  exact ⟨rfl, (Ext.refl w258)⟩
              · skip
                rintro σ261 w261 o261 ⟨s4_261, E261⟩
                have X268 : Ext w w261 := X259.trans E261
                refine W_ret ?_
                obtain rfl := Option.some.inj hr
                refine ⟨_, res1 (rv_tmp s4_261), ?_⟩
                exact ⟨rfl, X268⟩
end Go.Proofs
