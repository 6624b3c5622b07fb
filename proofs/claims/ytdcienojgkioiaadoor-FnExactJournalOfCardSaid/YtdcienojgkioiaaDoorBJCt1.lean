import Derived.Test.YtdcienojgkioiaaDoorBJCf
namespace Go.Proofs
open Go Go.Fl Go.RowKit Go.Rg
set_option maxRecDepth 100000
set_option linter.unusedVariables false
attribute [local irreducible] Go.Calls doAll Does DoesG W Wr
set_option maxHeartbeats 4000000 in
theorem c17 (p0 : List (List UInt8)) (p1 : Int) (p0a : Option Addr) (p0n : Nat) (p0c : Nat) (r : Int) (w : World) (hr : M.laws_szStringS p0 p1 = some r) (p0R : RS w encS (Value.slice p0a p0n p0c) p0) :
    Calls Tryd.prog 17 #[(Value.slice p0a p0n p0c), .int .i64 p1] w fun e w' => e = .returned (.int .i64 r) ∧ Ext w w' := by
  refine calls_of_W Tryd.func17 rfl (Nat.le_of_ble_eq_true rfl) ?_
  refine W_seq ?_
  refine W_region rfl ?_
  refine da_op rfl (d_as (v := .int .i64 0) rfl ?_)
  refine da_nil ?_
  refine W_seq ?_
  refine W_region rfl ?_
  refine da_op rfl (d_mv (v := .int .i64 p1) rfl ?_)
  refine da_op rfl (d_mv (v := (Value.slice p0a p0n p0c)) rfl ?_)
  refine da_op rfl (d_len (e := encS) un34 rfl p0R ?_)
  refine da_op rfl (d_iarith rfl rfl (.inr (.inl ⟨rfl, rfl⟩)) ?_)
  refine da_op rfl (d_as (v := .int .i64 (IntKind.i64.wrap (p1 - ((p0).length : Int)))) rfl ?_)
  refine da_nil ?_
  refine W_seq ?_
  refine W_seq ?_
  refine W_region rfl ?_
  refine da_op rfl (d_mv (v := .int .i64 (IntKind.i64.wrap (p1 - ((p0).length : Int)))) rfl ?_)
  refine da_op rfl (d_icmp cLss rfl rfl ?_)
  refine da_nil ?_
  refine W_cond (b := (icmp .lss (IntKind.i64.wrap (p1 - ((p0).length : Int))) 0)) rfl (fun hc1 => ?_) (fun hc1 => ?_)
  · skip
    replace hr := bif_t hr hc1
    refine W_seq ?_
    refine W_region rfl ?_
    refine da_op rfl (d_as (v := .int .i64 (-1)) rfl ?_)
    refine da_nil ?_
    refine W_ret ?_
    obtain rfl := Option.some.inj hr
    refine ⟨_, res1 (rv_tmp rfl), ?_⟩
    exact ⟨rfl, (Ext.refl w)⟩
  · skip
    replace hr := bif_f hr hc1
    refine W_skip ?_
    refine W_seq ?_
    refine W_seq ?_
    refine W_region rfl ?_
    refine da_op rfl (d_as (v := .int .i64 0) rfl ?_)
    refine da_nil ?_
    refine W_block ?_
    obtain ⟨m2, hm2, hr⟩ := bind_out hr
    refine W_loopM hm2 (fun (s2 : Int × Int) σ w' => σ 1 = .int .i64 s2.1 ∧ σ 5 = .int .i64 s2.2 ∧ σ 0 = (Value.slice p0a p0n p0c) ∧ Ext w w') (fun (e2 : (Int ⊕ Int)) ex σ w' => sel e2 (fun e2 => ex = .exit 0 ∧ σ 1 = .int .i64 e2 ∧ Ext w w') (fun e2 => ex = .ret ∧ σ 4 = .int .i64 e2 ∧ Ext w w')) ⟨rfl, rfl, rfl, (Ext.refl w)⟩ ?_ ?_
    · skip
      rintro s2 σl2 wl2 r2l ⟨i2_S1, i2_S5, i2_S0, i2_X⟩ hr
      refine W_seq ?_
      refine W_seq ?_
      refine W_region rfl ?_
      refine da_op rfl (d_mv (v := .int .i64 s2.2) i2_S5 ?_)
      refine da_op rfl (d_mv (v := (Value.slice p0a p0n p0c)) i2_S0 ?_)
      have B3 : RS wl2 encS (Value.slice p0a p0n p0c) p0 := p0R.ext i2_X
      refine da_op rfl (d_len (e := encS) un34 rfl B3 ?_)
      refine da_op rfl (d_icmp cLss rfl rfl ?_)
      refine da_nil ?_
      refine W_cond (b := (icmp .lss s2.2 ((p0).length : Int))) rfl (fun hc4 => ?_) (fun hc4 => ?_)
      · skip
        replace hr := bif_t hr hc4
        refine W_skip ?_
        refine W_seq ?_
        refine W_block ?_
        refine W_seq ?_
        refine W_region rfl ?_
        refine da_op rfl (d_mv (v := .int .i64 s2.1) i2_S1 ?_)
        refine da_op rfl (d_mv (v := (Value.slice p0a p0n p0c)) i2_S0 ?_)
        refine da_op rfl (d_mv (v := .int .i64 s2.2) i2_S5 ?_)
        obtain ⟨m5, hm5, hr⟩ := bind_out hr
        refine da_op rfl (d_index (e := encS) (v := (Value.slice p0a p0n p0c)) un34 size9 rfl rfl B3 hm5 fun g6 o6 cu6 T6 fr6 vs6 hv6 hg6 hp6 hq6 => ?_)
        obtain rfl := dec_encS hq6
        refine da_op rfl (d_load (v := .string (bs m5)) rfl agg9 hg6 (sub_get (vs := #[.string (bs m5)]) hp6 (i := 0) rfl) ?_)
        refine da_op rfl (d_slen un9 rfl ?_)
        refine da_op rfl (d_iarith rfl rfl (.inr (.inl ⟨rfl, rfl⟩)) ?_)
        refine da_op rfl (d_as (v := .int .i64 (IntKind.i64.wrap (s2.1 - ((m5).length : Int)))) rfl ?_)
        refine da_nil ?_
        refine W_seq ?_
        refine W_region rfl ?_
        refine da_op rfl (d_mv (v := .int .i64 (IntKind.i64.wrap (s2.1 - ((m5).length : Int)))) rfl ?_)
        refine da_op rfl (d_icmp cLss rfl rfl ?_)
        refine da_nil ?_
        refine W_cond (b := (icmp .lss (IntKind.i64.wrap (s2.1 - ((m5).length : Int))) 0)) rfl (fun hc7 => ?_) (fun hc7 => ?_)
        · skip
          replace hr := bif_t hr hc7
          refine W_seq ?_
          refine W_region rfl ?_
          refine da_op rfl (d_as (v := .int .i64 (-1)) rfl ?_)
          refine da_nil ?_
          refine W_ret ?_
          obtain rfl := Option.some.inj hr
          exact ⟨_, rfl, rfl, rfl, i2_X⟩
        · skip
          replace hr := bif_f hr hc7
          refine W_skip ?_
          refine W_region rfl ?_
          refine da_op rfl (d_mv (v := .int .i64 s2.2) i2_S5 ?_)
          refine da_op rfl (d_iarith rfl rfl (.inl ⟨rfl, rfl⟩) ?_)
          refine da_op rfl (d_as (v := .int .i64 (IntKind.i64.wrap (s2.2 + 1))) rfl ?_)
          refine da_nil ?_
          obtain rfl := Option.some.inj hr
          exact ⟨_, rfl, ⟨rfl, rfl, i2_S0, i2_X⟩⟩
      · skip
        replace hr := bif_f hr hc4
        refine W_exit ?_
        obtain rfl := Option.some.inj hr
        exact ⟨_, rfl, rfl, i2_S1, i2_X⟩
    · skip
      intro ex σx2 wx2 hq
      rcases m2 with m2 | m2
      · skip
        obtain ⟨rfl, q2_0_S1, q2_0_X⟩ := hq
        refine W_seq ?_
        refine W_region rfl ?_
        refine da_op rfl (d_mv (v := .int .i64 m2) q2_0_S1 ?_)
        refine da_op rfl (d_as (v := .int .i64 m2) rfl ?_)
        refine da_nil ?_
        refine W_ret ?_
        obtain rfl := Option.some.inj hr
        refine ⟨_, res1 (rv_tmp rfl), ?_⟩
        exact ⟨rfl, q2_0_X⟩
      · skip
        obtain ⟨rfl, q2_1_S4, q2_1_X⟩ := hq
        obtain rfl := Option.some.inj hr
        refine ⟨_, res1 (rv_tmp q2_1_S4), ?_⟩
        exact ⟨rfl, q2_1_X⟩
set_option maxHeartbeats 4000000 in
theorem c19 (p0 : List (List UInt8)) (p0a : Option Addr) (p0n : Nat) (p0c : Nat) (r : List (List UInt8)) (w : World) (hr : M.laws_toStringS p0 = some r) (p0R : RS w encS (Value.slice p0a p0n p0c) p0) :
    Calls Tryd.prog 19 #[(Value.slice p0a p0n p0c)] w fun e w' => ∃ q0a : Option Addr, ∃ q0n : Nat, ∃ q0c : Nat, e = .returned ((Value.slice q0a q0n q0c)) ∧ OS w' 9 encS (Value.slice q0a q0n q0c) r ∧ (∀ k, (Value.slice q0a q0n q0c).ownBlock = some k → w.heap.size ≤ k) ∧ Ext w w' := by
  refine calls_of_W Tryd.func19 rfl (Nat.le_of_ble_eq_true rfl) ?_
  refine W_seq ?_
  refine W_region rfl ?_
  refine da_op rfl (d_as (v := .slice none 0 0) rfl ?_)
  refine da_nil ?_
  refine W_seq ?_
  refine W_region rfl ?_
  refine da_op rfl (d_mv (v := (Value.slice p0a p0n p0c)) rfl ?_)
  refine da_op rfl (d_len (e := encS) un34 rfl p0R ?_)
  obtain ⟨m1, hm1, hr⟩ := bind_out hr
  refine da_op rfl (d_make (e := encS) un34 info9 rfl (by kernel_rfl) (by kernel_rfl) (by decide) (by decide) rfl rfl hm1 fun v2 w2 O2 E2 fr2 => ?_)
  obtain ⟨v2pa, v2pn, v2pc, rfl⟩ := O2.vals
  have own2 : ∀ k, (Value.slice v2pa v2pn v2pc).ownBlock = some k → w.heap.size ≤ k := fun k hk => Nat.le_trans (Ext.refl w).size (fr2 k hk)
  have X3 : Ext w w2 := (Ext.refl w).trans E2
  refine da_op rfl (d_as (v := (Value.slice v2pa v2pn v2pc)) rfl ?_)
  refine da_nil ?_
  refine W_seq ?_
  refine W_seq ?_
  refine W_region rfl ?_
  refine da_op rfl (d_as (v := .int .i64 0) rfl ?_)
  refine da_nil ?_
  refine W_block ?_
  obtain ⟨m4, hm4, hr⟩ := bind_out hr
  refine W_loopM hm4 (fun (s4 : Int × List (List UInt8)) σ w' => σ 4 = .int .i64 s4.1 ∧ σ 0 = (Value.slice p0a p0n p0c) ∧ σ 3 = (Value.slice v2pa v2pn v2pc) ∧ OS w' 9 encS (Value.slice v2pa v2pn v2pc) s4.2 ∧ Ext w w') (fun (e4 : (List (List UInt8))) ex σ w' => ex = .exit 0 ∧ σ 3 = (Value.slice v2pa v2pn v2pc) ∧ OS w' 9 encS (Value.slice v2pa v2pn v2pc) e4 ∧ Ext w w') ⟨rfl, rfl, rfl, O2, X3⟩ ?_ ?_
  · skip
    rintro s4 σl4 wl4 r4l ⟨i4_S4, i4_S0, i4_S3, i4_1R, i4_X⟩ hr
    refine W_seq ?_
    refine W_seq ?_
    refine W_region rfl ?_
    refine da_op rfl (d_mv (v := .int .i64 s4.1) i4_S4 ?_)
    refine da_op rfl (d_mv (v := (Value.slice p0a p0n p0c)) i4_S0 ?_)
    have B5 : RS wl4 encS (Value.slice p0a p0n p0c) p0 := p0R.ext i4_X
    refine da_op rfl (d_len (e := encS) un34 rfl B5 ?_)
    refine da_op rfl (d_icmp cLss rfl rfl ?_)
    refine da_nil ?_
    refine W_cond (b := (icmp .lss s4.1 ((p0).length : Int))) rfl (fun hc6 => ?_) (fun hc6 => ?_)
    · skip
      replace hr := bif_t hr hc6
      refine W_skip ?_
      refine W_seq ?_
      refine W_block ?_
      refine W_region rfl ?_
      refine da_op rfl (d_mv (v := (Value.slice v2pa v2pn v2pc)) i4_S3 ?_)
      refine da_op rfl (d_mv (v := .int .i64 s4.1) i4_S4 ?_)
      refine da_op rfl (d_mv (v := (Value.slice p0a p0n p0c)) i4_S0 ?_)
      refine da_op rfl (d_mv (v := .int .i64 s4.1) i4_S4 ?_)
      obtain ⟨m7, hm7, hr⟩ := bind_out hr
      refine da_op rfl (d_index (e := encS) (v := (Value.slice p0a p0n p0c)) un34 size9 rfl rfl B5 hm7 fun g8 o8 cu8 T8 fr8 vs8 hv8 hg8 hp8 hq8 => ?_)
      obtain rfl := dec_encS hq8
      refine da_op rfl (d_load (v := .string (bs m7)) rfl agg9 hg8 (sub_get (vs := #[.string (bs m7)]) hp8 (i := 0) rfl) ?_)
      obtain ⟨m9, hm9, hr⟩ := bind_out hr
      refine da_op rfl (d_indexO (e := encS) (v := (Value.slice v2pa v2pn v2pc)) un34 size9 rfl rfl i4_1R hm9 fun g10 fr10 cu10 vs10 hv10 hg10 hp10 hq10 => ?_)
      obtain rfl := dec_encS hq10
      refine da_op rfl (d_store_elem (e := encS) (i := s4.1) (k := 0) (old := [.string (bs m9)]) (vs := #[.string (bs m7)]) (new := [.string (bs m7)]) (x2 := m7) rfl rfl hv10 i4_1R hg10 hp10 hm9 size9 (by kernel_rfl) (Nat.le_of_ble_eq_true rfl) rfl rfl (lc_v rfl rfl) rfl fun w13 S13 O14 => ?_)
      have X15 : Ext w w13 := Ext.step i4_X S13.frmb (fun k _ hk => own2 k (by rw [hv10, hk]; rfl))
      refine da_nil ?_
      refine W_region rfl ?_
      refine da_op rfl (d_mv (v := .int .i64 s4.1) i4_S4 ?_)
      refine da_op rfl (d_iarith rfl rfl (.inl ⟨rfl, rfl⟩) ?_)
      refine da_op rfl (d_as (v := .int .i64 (IntKind.i64.wrap (s4.1 + 1))) rfl ?_)
      refine da_nil ?_
      obtain rfl := Option.some.inj hr
      exact ⟨_, rfl, ⟨rfl, i4_S0, i4_S3, O14, X15⟩⟩
    · skip
      replace hr := bif_f hr hc6
      refine W_exit ?_
      obtain rfl := Option.some.inj hr
      exact ⟨_, rfl, rfl, i4_S3, i4_1R, i4_X⟩
  · skip
    intro ex σx4 wx4 hq
    obtain ⟨rfl, q4_0_S3, q4_0_0R, q4_0_X⟩ := hq
    refine W_seq ?_
    refine W_region rfl ?_
    refine da_op rfl (d_mv (v := (Value.slice v2pa v2pn v2pc)) q4_0_S3 ?_)
    refine da_op rfl (d_as (v := (Value.slice v2pa v2pn v2pc)) rfl ?_)
    refine da_nil ?_
    refine W_ret ?_
    obtain rfl := Option.some.inj hr
    refine ⟨_, res1 (rv_tmp rfl), ?_⟩
    exact ⟨v2pa, v2pn, v2pc, rfl, q4_0_0R, own2, q4_0_X⟩
set_option maxHeartbeats 4000000 in
theorem c111 (p0 : Int) (p1 : List UInt8) (r : Int) (w : World) (hr : M.spec_l01Check p0 p1 = some r)  :
    Calls Tryd.prog 111 #[.int .i64 p0, .string (bs p1)] w fun e w' => e = .returned (.int .i64 r) ∧ Ext w w' := by
  refine calls_of_W Tryd.func111 rfl (Nat.le_of_ble_eq_true rfl) ?_
  refine W_seq ?_
  refine W_region rfl ?_
  refine da_op rfl (d_as (v := .int .i64 0) rfl ?_)
  refine da_nil ?_
  refine W_seq ?_
  refine W_seq ?_
  refine W_region rfl ?_
  refine da_op rfl (d_as (v := .int .i64 0) rfl ?_)
  refine da_nil ?_
  refine W_block ?_
  obtain ⟨m1, hm1, hr⟩ := bind_out hr
  refine W_loopM hm1 (fun (s1 : Int × Int) σ w' => σ 0 = .int .i64 s1.1 ∧ σ 5 = .int .i64 s1.2 ∧ σ 1 = .string (bs p1) ∧ Ext w w') (fun (e1 : Int) ex σ w' => ex = .exit 0 ∧ σ 0 = .int .i64 e1 ∧ Ext w w') ⟨rfl, rfl, rfl, (Ext.refl w)⟩ ?_ ?_
  · skip
    rintro s1 σl1 wl1 r1l ⟨i1_S0, i1_S5, i1_S1, i1_X⟩ hr
    refine W_seq ?_
    refine W_seq ?_
    refine W_region rfl ?_
    refine da_op rfl (d_mv (v := .int .i64 s1.2) i1_S5 ?_)
    refine da_op rfl (d_mv (v := .string (bs p1)) i1_S1 ?_)
    refine da_op rfl (d_slen un9 rfl ?_)
    refine da_op rfl (d_icmp cLss rfl rfl ?_)
    refine da_nil ?_
    refine W_cond (b := (icmp .lss s1.2 ((p1).length : Int))) rfl (fun hc2 => ?_) (fun hc2 => ?_)
    · skip
      replace hr := bif_t hr hc2
      refine W_skip ?_
      refine W_seq ?_
      refine W_block ?_
      refine W_region rfl ?_
      refine da_op rfl (d_mv (v := .int .i64 s1.1) i1_S0 ?_)
      refine da_op rfl (d_iarith rfl rfl (.inr (.inr ⟨rfl, rfl⟩)) ?_)
      refine da_op rfl (d_mv (v := .string (bs p1)) i1_S1 ?_)
      refine da_op rfl (d_mv (v := .int .i64 s1.2) i1_S5 ?_)
      obtain ⟨m3, hm3, hr⟩ := bind_out hr
      refine da_op rfl (d_sidx un9 rfl rfl hm3 ?_)
      refine da_op rfl (d_iconv un5 un2 rfl ?_)
      refine da_op rfl (d_iarith rfl rfl (.inl ⟨rfl, rfl⟩) ?_)
      refine da_op rfl (d_iarith rfl rfl (.inl ⟨rfl, rfl⟩) ?_)
      refine da_op rfl (d_remL rfl rfl (by decide) ?_)
      refine da_op rfl (d_as (v := .int .i64 (((IntKind.i64.wrap ((IntKind.i64.wrap ((IntKind.i64.wrap (757 * s1.1)) + (IntKind.i64.wrap m3))) + 79))).tmod 65003)) rfl ?_)
      refine da_nil ?_
      refine W_region rfl ?_
      refine da_op rfl (d_mv (v := .int .i64 s1.2) i1_S5 ?_)
      refine da_op rfl (d_iarith rfl rfl (.inl ⟨rfl, rfl⟩) ?_)
      refine da_op rfl (d_as (v := .int .i64 (IntKind.i64.wrap (s1.2 + 1))) rfl ?_)
      refine da_nil ?_
      obtain rfl := Option.some.inj hr
      exact ⟨_, rfl, ⟨rfl, rfl, i1_S1, i1_X⟩⟩
    · skip
      replace hr := bif_f hr hc2
      refine W_exit ?_
      obtain rfl := Option.some.inj hr
      exact ⟨_, rfl, rfl, i1_S0, i1_X⟩
  · skip
    intro ex σx1 wx1 hq
    obtain ⟨rfl, q1_0_S0, q1_0_X⟩ := hq
    refine W_seq ?_
    refine W_region rfl ?_
    refine da_op rfl (d_mv (v := .int .i64 m1) q1_0_S0 ?_)
    refine da_op rfl (d_as (v := .int .i64 m1) rfl ?_)
    refine da_nil ?_
    refine W_ret ?_
    obtain rfl := Option.some.inj hr
    refine ⟨_, res1 (rv_tmp rfl), ?_⟩
    exact ⟨rfl, q1_0_X⟩
set_option maxHeartbeats 4000000 in
theorem c112 (p0 : Int) (r : List UInt8) (w : World) (hr : M.spec_l01Dec p0 = some r)  :
    Calls Tryd.prog 112 #[.int .i64 p0] w fun e w' => e = .returned (.string (bs r)) ∧ Ext w w' := by
  refine calls_of_W Tryd.func112 rfl (Nat.le_of_ble_eq_true rfl) ?_
  refine W_seq ?_
  refine W_region rfl ?_
  refine da_op rfl (d_as (v := .string (bs ([] : List UInt8))) rfl ?_)
  refine da_nil ?_
  refine W_seq ?_
  refine W_region rfl ?_
  refine da_op rfl (d_bslice0 un73 size5 fun w1 B1 E1 => ?_)
  have fr1 : ∀ k, (Value.slice (some ⟨w.heap.size, 0, none⟩) 0 0).ownBlock = some k → w.heap.size ≤ k := fun k hk => by cases hk; exact Nat.le_refl _
  have own1 : ∀ k, (Value.slice (some ⟨w.heap.size, 0, none⟩) 0 0).ownBlock = some k → w.heap.size ≤ k := fun k hk => Nat.le_trans (Ext.refl w).size (fr1 k hk)
  have X2 : Ext w w1 := (Ext.refl w).trans E1
  have O1 : OS w1 5 encI_u8 (Value.slice (some ⟨w.heap.size, 0, none⟩) 0 0) ([] : List Int) := OS.box (xs := ([] : List Int)) B1 rfl (Nat.le_of_ble_eq_true rfl)
  refine da_op rfl (d_as (v := (Value.slice (some ⟨w.heap.size, 0, none⟩) 0 0)) rfl ?_)
  refine da_nil ?_
  refine W_seq ?_
  refine W_region rfl ?_
  refine da_op rfl (d_mv (v := .int .i64 p0) rfl ?_)
  refine da_op rfl (d_as (v := .int .i64 p0) rfl ?_)
  refine da_nil ?_
  refine W_seq ?_
  refine W_block ?_
  obtain ⟨m3, hm3, hr⟩ := bind_out hr
  refine W_loopM hm3 (fun (s3 : List Int × Int) σ w' => ∃ i3_0a : Option Addr, ∃ i3_0n : Nat, ∃ i3_0c : Nat, σ 3 = (Value.slice i3_0a i3_0n i3_0c) ∧ σ 4 = .int .i64 s3.2 ∧ σ 0 = .int .i64 p0 ∧ OS w' 5 encI_u8 (Value.slice i3_0a i3_0n i3_0c) s3.1 ∧ (∀ k, (Value.slice i3_0a i3_0n i3_0c).ownBlock = some k → w.heap.size ≤ k) ∧ Ext w w') (fun (e3 : (List Int)) ex σ w' => ex = .exit 0 ∧ ∃ q3_0_0a : Option Addr, ∃ q3_0_0n : Nat, ∃ q3_0_0c : Nat, σ 3 = (Value.slice q3_0_0a q3_0_0n q3_0_0c) ∧ σ 0 = .int .i64 p0 ∧ OS w' 5 encI_u8 (Value.slice q3_0_0a q3_0_0n q3_0_0c) e3 ∧ (∀ k, (Value.slice q3_0_0a q3_0_0n q3_0_0c).ownBlock = some k → w.heap.size ≤ k) ∧ Ext w w') ⟨(some ⟨w.heap.size, 0, none⟩), 0, 0, rfl, rfl, rfl, O1, own1, X2⟩ ?_ ?_
  · skip
    rintro s3 σl3 wl3 r3l ⟨i3_0a, i3_0n, i3_0c, i3_S3, i3_S4, i3_S0, i3_0R, i3_0O, i3_X⟩ hr
    refine W_seq ?_
    refine W_seq ?_
    obtain ⟨m4, hm4, hr⟩ := letv_out hr
    refine W_cut (fun σ' w' => σ' 14 = .bool m4 ∧ Ext wl3 w') rfl ?_ ?_
    · skip
      have hr := hm4
      refine da_op rfl (d_mv (v := (Value.slice i3_0a i3_0n i3_0c)) i3_S3 ?_)
      refine da_op rfl (d_len (e := encI_u8) un73 rfl i3_0R.rs ?_)
      refine da_op rfl (d_icmp cEql rfl rfl ?_)
      refine da_op rfl (d_mv (v := .bool (icmp .eql ((s3.1).length : Int) 0)) rfl ?_)
      rcases Bool.eq_false_or_eq_true (icmp .eql ((s3.1).length : Int) 0) with hc5 | hc5
      · skip
        replace hr := bif_t hr hc5
        refine da_off rfl (Eq.trans (show sl _ _ _ = .bool (icmp .eql ((s3.1).length : Int) 0) from rfl) (congrArg Value.bool hc5)) (by decide) ?_
        refine da_off rfl (Eq.trans (show sl _ _ _ = .bool (icmp .eql ((s3.1).length : Int) 0) from rfl) (congrArg Value.bool hc5)) (by decide) ?_
        refine da_op rfl (d_pick (b := true) (Eq.trans (show ev _ _ = .bool (icmp .eql ((s3.1).length : Int) 0) from rfl) (congrArg Value.bool hc5)) ?_)
        refine da_nil ?_
        subst hr
        exact ⟨rfl, (Ext.refl wl3)⟩
      · skip
        replace hr := bif_f hr hc5
        refine da_on rfl (Eq.trans (show sl _ _ _ = .bool (icmp .eql ((s3.1).length : Int) 0) from rfl) (congrArg Value.bool hc5)) (d_mv (v := .int .i64 s3.2) i3_S4 ?_)
        refine da_on rfl (Eq.trans (show sl _ _ _ = .bool (icmp .eql ((s3.1).length : Int) 0) from rfl) (congrArg Value.bool hc5)) (d_icmp cNeq rfl rfl ?_)
        refine da_op rfl (d_pick (b := false) (Eq.trans (show ev _ _ = .bool (icmp .eql ((s3.1).length : Int) 0) from rfl) (congrArg Value.bool hc5)) ?_)
        refine da_nil ?_
        subst hr
        exact ⟨rfl, (Ext.refl wl3)⟩
    · skip
      rintro σ4 w4 o4 ⟨s14_4, E4⟩
      have s3_4 : σ4 3 = (Value.slice i3_0a i3_0n i3_0c) := (o4 3 rfl).trans i3_S3
      have s4_4 : σ4 4 = .int .i64 s3.2 := (o4 4 rfl).trans i3_S4
      have s0_4 : σ4 0 = .int .i64 p0 := (o4 0 rfl).trans i3_S0
      have X6 : Ext w w4 := i3_X.trans E4
      refine W_cond (b := m4) s14_4 (fun hc7 => ?_) (fun hc7 => ?_)
      · skip
        replace hr := bif_t hr hc7
        refine W_skip ?_
        refine W_block ?_
        refine W_seq ?_
        refine W_region rfl ?_
        refine da_op rfl (d_mv (v := .int .i64 s3.2) s4_4 ?_)
        refine da_op rfl (d_remL rfl rfl (by decide) ?_)
        refine da_op rfl (d_as (v := .int .i64 ((s3.2).tmod 10)) rfl ?_)
        refine da_nil ?_
        refine W_seq ?_
        refine W_seq ?_
        refine W_region rfl ?_
        refine da_op rfl (d_mv (v := .int .i64 ((s3.2).tmod 10)) rfl ?_)
        refine da_op rfl (d_icmp cLss rfl rfl ?_)
        refine da_nil ?_
        refine W_cond (b := (icmp .lss ((s3.2).tmod 10) 0)) rfl (fun hc8 => ?_) (fun hc8 => ?_)
        · skip
          replace hr := bif_t hr hc8
          refine W_region rfl ?_
          refine da_op rfl (d_mv (v := .int .i64 ((s3.2).tmod 10)) rfl ?_)
          refine da_op rfl (d_ineg rfl ?_)
          refine da_op rfl (d_as (v := .int .i64 (IntKind.i64.wrap (0 - ((s3.2).tmod 10)))) rfl ?_)
          refine da_nil ?_
          refine W_seq ?_
          refine W_region rfl ?_
          refine da_op rfl (d_mv (v := .int .i64 (IntKind.i64.wrap (0 - ((s3.2).tmod 10)))) rfl ?_)
          refine da_op rfl (d_iarith rfl rfl (.inl ⟨rfl, rfl⟩) ?_)
          refine da_op rfl (d_iconv un2 un5 rfl ?_)
          have B10 : OS w4 5 encI_u8 (Value.slice i3_0a i3_0n i3_0c) s3.1 := i3_0R.ext E4
          refine da_op rfl (d_bslice (vs := [(0, .int .u8 (IntKind.u8.wrap (IntKind.i64.wrap (48 + (IntKind.i64.wrap (0 - ((s3.2).tmod 10)))))))]) (cs := #[.int .u8 (IntKind.u8.wrap (IntKind.i64.wrap (48 + (IntKind.i64.wrap (0 - ((s3.2).tmod 10))))))]) un73 (pc rfl rfl) (by kernel_rfl) fun w9 B9 E9 => ?_)
          have fr9 : ∀ k, (Value.slice (some ⟨w4.heap.size, 0, none⟩) 1 1).ownBlock = some k → w4.heap.size ≤ k := fun k hk => by cases hk; exact Nat.le_refl _
          have own9 : ∀ k, (Value.slice (some ⟨w4.heap.size, 0, none⟩) 1 1).ownBlock = some k → w.heap.size ≤ k := fun k hk => Nat.le_trans X6.size (fr9 k hk)
          have sp11 : ∀ k, (Value.slice i3_0a i3_0n i3_0c).ownBlock = some k → ¬ (Value.slice (some ⟨w4.heap.size, 0, none⟩) 1 1).ownBlock = some k := apart_fresh B10 fr9
          have X12 : Ext w w9 := X6.trans E9
          have O9 : OS w9 5 encI_u8 (Value.slice (some ⟨w4.heap.size, 0, none⟩) 1 1) [(IntKind.u8.wrap (IntKind.i64.wrap (48 + (IntKind.i64.wrap (0 - ((s3.2).tmod 10))))))] := OS.box (xs := [(IntKind.u8.wrap (IntKind.i64.wrap (48 + (IntKind.i64.wrap (0 - ((s3.2).tmod 10))))))]) B9 (lc_v rfl rfl) (Nat.le_of_ble_eq_true rfl)
          refine da_op rfl (d_mv (v := (Value.slice i3_0a i3_0n i3_0c)) s3_4 ?_)
          obtain ⟨m13, hm13, hr⟩ := bind_out hr
          have B14 : OS w9 5 encI_u8 (Value.slice i3_0a i3_0n i3_0c) s3.1 := B10.ext E9
          refine da_op rfl (d_append (e := encI_u8) (v := (Value.slice (some ⟨w4.heap.size, 0, none⟩) 1 1)) (y := (Value.slice i3_0a i3_0n i3_0c)) un73 info5 rfl (by kernel_rfl) (by kernel_rfl) (by decide) (by decide) rfl rfl O9 B14.rs hm13 fun v15 w15 O15 Fm15 at_15 nl15 => ?_)
          obtain ⟨v15pa, v15pn, v15pc, rfl⟩ := O15.vals
          have own15 : ∀ k, (Value.slice v15pa v15pn v15pc).ownBlock = some k → w.heap.size ≤ k := app_own (w := w9) at_15 own9 X12.size
          have sp16 : ∀ k, (Value.slice i3_0a i3_0n i3_0c).ownBlock = some k → ¬ (Value.slice v15pa v15pn v15pc).ownBlock = some k := app_nr at_15 sp11 B14
          have X17 : Ext w w15 := Ext.step X12 Fm15 (fun k _ hk => own9 k hk)
          refine da_op rfl (d_as (v := (Value.slice v15pa v15pn v15pc)) rfl ?_)
          refine da_nil ?_
          refine W_region rfl ?_
          refine da_op rfl (d_mv (v := .int .i64 s3.2) s4_4 ?_)
          refine da_op rfl (d_quoL rfl rfl (by decide) ?_)
          refine da_op rfl (d_as (v := .int .i64 (IntKind.i64.wrap ((s3.2).tdiv 10))) rfl ?_)
          refine da_nil ?_
          obtain rfl := Option.some.inj hr
          exact ⟨_, rfl, ⟨v15pa, v15pn, v15pc, rfl, rfl, s0_4, O15, own15, X17⟩⟩
        · skip
          replace hr := bif_f hr hc8
          refine W_skip ?_
          refine W_seq ?_
          refine W_region rfl ?_
          refine da_op rfl (d_mv (v := .int .i64 ((s3.2).tmod 10)) rfl ?_)
          refine da_op rfl (d_iarith rfl rfl (.inl ⟨rfl, rfl⟩) ?_)
          refine da_op rfl (d_iconv un2 un5 rfl ?_)
          have B19 : OS w4 5 encI_u8 (Value.slice i3_0a i3_0n i3_0c) s3.1 := i3_0R.ext E4
          refine da_op rfl (d_bslice (vs := [(0, .int .u8 (IntKind.u8.wrap (IntKind.i64.wrap (48 + ((s3.2).tmod 10)))))]) (cs := #[.int .u8 (IntKind.u8.wrap (IntKind.i64.wrap (48 + ((s3.2).tmod 10))))]) un73 (pc rfl rfl) (by kernel_rfl) fun w18 B18 E18 => ?_)
          have fr18 : ∀ k, (Value.slice (some ⟨w4.heap.size, 0, none⟩) 1 1).ownBlock = some k → w4.heap.size ≤ k := fun k hk => by cases hk; exact Nat.le_refl _
          have own18 : ∀ k, (Value.slice (some ⟨w4.heap.size, 0, none⟩) 1 1).ownBlock = some k → w.heap.size ≤ k := fun k hk => Nat.le_trans X6.size (fr18 k hk)
          have sp20 : ∀ k, (Value.slice i3_0a i3_0n i3_0c).ownBlock = some k → ¬ (Value.slice (some ⟨w4.heap.size, 0, none⟩) 1 1).ownBlock = some k := apart_fresh B19 fr18
          have X21 : Ext w w18 := X6.trans E18
          have O18 : OS w18 5 encI_u8 (Value.slice (some ⟨w4.heap.size, 0, none⟩) 1 1) [(IntKind.u8.wrap (IntKind.i64.wrap (48 + ((s3.2).tmod 10))))] := OS.box (xs := [(IntKind.u8.wrap (IntKind.i64.wrap (48 + ((s3.2).tmod 10))))]) B18 (lc_v rfl rfl) (Nat.le_of_ble_eq_true rfl)
          refine da_op rfl (d_mv (v := (Value.slice i3_0a i3_0n i3_0c)) s3_4 ?_)
          obtain ⟨m22, hm22, hr⟩ := bind_out hr
          have B23 : OS w18 5 encI_u8 (Value.slice i3_0a i3_0n i3_0c) s3.1 := B19.ext E18
          refine da_op rfl (d_append (e := encI_u8) (v := (Value.slice (some ⟨w4.heap.size, 0, none⟩) 1 1)) (y := (Value.slice i3_0a i3_0n i3_0c)) un73 info5 rfl (by kernel_rfl) (by kernel_rfl) (by decide) (by decide) rfl rfl O18 B23.rs hm22 fun v24 w24 O24 Fm24 at_24 nl24 => ?_)
          obtain ⟨v24pa, v24pn, v24pc, rfl⟩ := O24.vals
          have own24 : ∀ k, (Value.slice v24pa v24pn v24pc).ownBlock = some k → w.heap.size ≤ k := app_own (w := w18) at_24 own18 X21.size
          have sp25 : ∀ k, (Value.slice i3_0a i3_0n i3_0c).ownBlock = some k → ¬ (Value.slice v24pa v24pn v24pc).ownBlock = some k := app_nr at_24 sp20 B23
          have X26 : Ext w w24 := Ext.step X21 Fm24 (fun k _ hk => own18 k hk)
          refine da_op rfl (d_as (v := (Value.slice v24pa v24pn v24pc)) rfl ?_)
          refine da_nil ?_
          refine W_region rfl ?_
          refine da_op rfl (d_mv (v := .int .i64 s3.2) s4_4 ?_)
          refine da_op rfl (d_quoL rfl rfl (by decide) ?_)
          refine da_op rfl (d_as (v := .int .i64 (IntKind.i64.wrap ((s3.2).tdiv 10))) rfl ?_)
          refine da_nil ?_
          obtain rfl := Option.some.inj hr
          exact ⟨_, rfl, ⟨v24pa, v24pn, v24pc, rfl, rfl, s0_4, O24, own24, X26⟩⟩
      · skip
        replace hr := bif_f hr hc7
        refine W_exit ?_
        have B27 : OS w4 5 encI_u8 (Value.slice i3_0a i3_0n i3_0c) s3.1 := i3_0R.ext E4
        obtain rfl := Option.some.inj hr
        exact ⟨_, rfl, rfl, i3_0a, i3_0n, i3_0c, s3_4, s0_4, B27, i3_0O, X6⟩
  · skip
    intro ex σx3 wx3 hq
    obtain ⟨rfl, q3_0_0a, q3_0_0n, q3_0_0c, q3_0_S3, q3_0_S0, q3_0_0R, q3_0_0O, q3_0_X⟩ := hq
    refine W_seq ?_
    refine W_seq ?_
    refine W_region rfl ?_
    refine da_op rfl (d_mv (v := .int .i64 p0) q3_0_S0 ?_)
    refine da_op rfl (d_icmp cLss rfl rfl ?_)
    refine da_nil ?_
    refine W_cond (b := (icmp .lss p0 0)) rfl (fun hc28 => ?_) (fun hc28 => ?_)
    · skip
      replace hr := bif_t hr hc28
      refine W_region rfl ?_
      refine da_op rfl (d_bslice (vs := [(0, .int .u8 45)]) (cs := #[.int .u8 45]) un73 (pc rfl rfl) (by kernel_rfl) fun w29 B29 E29 => ?_)
      have fr29 : ∀ k, (Value.slice (some ⟨wx3.heap.size, 0, none⟩) 1 1).ownBlock = some k → wx3.heap.size ≤ k := fun k hk => by cases hk; exact Nat.le_refl _
      have own29 : ∀ k, (Value.slice (some ⟨wx3.heap.size, 0, none⟩) 1 1).ownBlock = some k → w.heap.size ≤ k := fun k hk => Nat.le_trans q3_0_X.size (fr29 k hk)
      have sp30 : ∀ k, (Value.slice q3_0_0a q3_0_0n q3_0_0c).ownBlock = some k → ¬ (Value.slice (some ⟨wx3.heap.size, 0, none⟩) 1 1).ownBlock = some k := apart_fresh q3_0_0R fr29
      have X31 : Ext w w29 := q3_0_X.trans E29
      have O29 : OS w29 5 encI_u8 (Value.slice (some ⟨wx3.heap.size, 0, none⟩) 1 1) [45] := OS.box (xs := [45]) B29 (lc_v rfl rfl) (Nat.le_of_ble_eq_true rfl)
      refine da_op rfl (d_mv (v := (Value.slice q3_0_0a q3_0_0n q3_0_0c)) q3_0_S3 ?_)
      obtain ⟨m32, hm32, hr⟩ := bind_out hr
      have B33 : OS w29 5 encI_u8 (Value.slice q3_0_0a q3_0_0n q3_0_0c) m3 := q3_0_0R.ext E29
      refine da_op rfl (d_append (e := encI_u8) (v := (Value.slice (some ⟨wx3.heap.size, 0, none⟩) 1 1)) (y := (Value.slice q3_0_0a q3_0_0n q3_0_0c)) un73 info5 rfl (by kernel_rfl) (by kernel_rfl) (by decide) (by decide) rfl rfl O29 B33.rs hm32 fun v34 w34 O34 Fm34 at_34 nl34 => ?_)
      obtain ⟨v34pa, v34pn, v34pc, rfl⟩ := O34.vals
      have own34 : ∀ k, (Value.slice v34pa v34pn v34pc).ownBlock = some k → w.heap.size ≤ k := app_own (w := w29) at_34 own29 X31.size
      have sp35 : ∀ k, (Value.slice q3_0_0a q3_0_0n q3_0_0c).ownBlock = some k → ¬ (Value.slice v34pa v34pn v34pc).ownBlock = some k := app_nr at_34 sp30 B33
      have X36 : Ext w w34 := Ext.step X31 Fm34 (fun k _ hk => own29 k hk)
      refine da_op rfl (d_as (v := (Value.slice v34pa v34pn v34pc)) rfl ?_)
      refine da_nil ?_
      refine W_seq ?_
      refine W_region rfl ?_
      refine da_op rfl (d_mv (v := (Value.slice v34pa v34pn v34pc)) rfl ?_)
      refine da_op rfl (d_bstr (e := encI_u8) (v := (Value.slice v34pa v34pn v34pc)) rfl un73 un5 un9 rfl O34.rs ?_)
      refine da_op rfl (d_as (v := .string (bs (u8s m32))) rfl ?_)
      refine da_nil ?_
      refine W_ret ?_
      obtain rfl := Option.some.inj hr
      refine ⟨_, res1 (rv_tmp rfl), ?_⟩
      exact ⟨rfl, X36⟩
    · skip
      replace hr := bif_f hr hc28
      refine W_skip ?_
      refine W_seq ?_
      refine W_region rfl ?_
      refine da_op rfl (d_mv (v := (Value.slice q3_0_0a q3_0_0n q3_0_0c)) q3_0_S3 ?_)
      refine da_op rfl (d_bstr (e := encI_u8) (v := (Value.slice q3_0_0a q3_0_0n q3_0_0c)) rfl un73 un5 un9 rfl q3_0_0R.rs ?_)
      refine da_op rfl (d_as (v := .string (bs (u8s m3))) rfl ?_)
      refine da_nil ?_
      refine W_ret ?_
      obtain rfl := Option.some.inj hr
      refine ⟨_, res1 (rv_tmp rfl), ?_⟩
      exact ⟨rfl, q3_0_X⟩
set_option maxHeartbeats 4000000 in
theorem c54 (p0 : List (List UInt8)) (p0a : Option Addr) (p0n : Nat) (p0c : Nat) (r : List UInt8) (w : World) (hr : M.spec_l08Journal p0 = some r) (p0R : RS w encS (Value.slice p0a p0n p0c) p0) :
    Calls Tryd.prog 54 #[(Value.slice p0a p0n p0c)] w fun e w' => e = .returned (.string (bs r)) ∧ Ext w w' := by
  refine calls_of_W Tryd.func54 rfl (Nat.le_of_ble_eq_true rfl) ?_
  refine W_seq ?_
  refine W_region rfl ?_
  refine da_op rfl (d_as (v := .string (bs ([] : List UInt8))) rfl ?_)
  refine da_nil ?_
  refine W_seq ?_
  refine W_region rfl ?_
  refine da_op rfl (d_as (v := .string (bs ([] : List UInt8))) rfl ?_)
  refine da_nil ?_
  refine W_seq ?_
  refine W_region rfl ?_
  refine da_op rfl (d_as (v := .int .i64 0) rfl ?_)
  refine da_nil ?_
  refine W_seq ?_
  refine W_seq ?_
  refine W_region rfl ?_
  refine da_op rfl (d_as (v := .int .i64 0) rfl ?_)
  refine da_nil ?_
  refine W_block ?_
  obtain ⟨m1, hm1, hr⟩ := bind_out hr
  refine W_loopM hm1 (fun (s1 : List UInt8 × Int × Int) σ w' => σ 3 = .string (bs s1.1) ∧ σ 4 = .int .i64 s1.2.1 ∧ σ 5 = .int .i64 s1.2.2 ∧ σ 0 = (Value.slice p0a p0n p0c) ∧ Ext w w') (fun (e1 : (List UInt8)) ex σ w' => ex = .exit 0 ∧ σ 3 = .string (bs e1) ∧ Ext w w') ⟨rfl, rfl, rfl, rfl, (Ext.refl w)⟩ ?_ ?_
  · skip
    rintro s1 σl1 wl1 r1l ⟨i1_S3, i1_S4, i1_S5, i1_S0, i1_X⟩ hr
    refine W_seq ?_
    refine W_seq ?_
    refine W_region rfl ?_
    refine da_op rfl (d_mv (v := .int .i64 s1.2.2) i1_S5 ?_)
    refine da_op rfl (d_mv (v := (Value.slice p0a p0n p0c)) i1_S0 ?_)
    have B2 : RS wl1 encS (Value.slice p0a p0n p0c) p0 := p0R.ext i1_X
    refine da_op rfl (d_len (e := encS) un34 rfl B2 ?_)
    refine da_op rfl (d_icmp cLss rfl rfl ?_)
    refine da_nil ?_
    refine W_cond (b := (icmp .lss s1.2.2 ((p0).length : Int))) rfl (fun hc3 => ?_) (fun hc3 => ?_)
    · skip
      replace hr := bif_t hr hc3
      refine W_skip ?_
      refine W_seq ?_
      refine W_block ?_
      refine W_seq ?_
      refine W_region rfl ?_
      refine da_op rfl (d_mv (v := .int .i64 s1.2.1) i1_S4 ?_)
      refine da_op rfl (d_mv (v := (Value.slice p0a p0n p0c)) i1_S0 ?_)
      refine da_op rfl (d_mv (v := .int .i64 s1.2.2) i1_S5 ?_)
      obtain ⟨m4, hm4, hr⟩ := bind_out hr
      refine da_op rfl (d_index (e := encS) (v := (Value.slice p0a p0n p0c)) un34 size9 rfl rfl B2 hm4 fun g5 o5 cu5 T5 fr5 vs5 hv5 hg5 hp5 hq5 => ?_)
      obtain rfl := dec_encS hq5
      refine da_op rfl (d_load (v := .string (bs m4)) rfl agg9 hg5 (sub_get (vs := #[.string (bs m4)]) hp5 (i := 0) rfl) ?_)
      obtain ⟨m6, hm6, hr⟩ := bind_out hr
      refine da_op rfl (d_cl (vs := [.int .i64 s1.2.1, .string (bs m4)]) en111 (ac rfl (ac rfl rfl)) rfl ?_)
      refine (c111 s1.2.1 m4 m6 wl1 hm6 ).mono ?_
      rintro _ w7 ⟨rfl, E7⟩
      refine ⟨_, rfl, ?_⟩
      have X8 : Ext w w7 := i1_X.trans E7
      refine da_op rfl (d_as (v := .int .i64 m6) rfl ?_)
      refine da_nil ?_
      have B10 : RS w7 encS (Value.slice p0a p0n p0c) p0 := p0R.ext X8
      obtain ⟨m11, hm11, hr⟩ := bind_out hr
      obtain ⟨m12, hm12, hr⟩ := bind_out hr
      obtain ⟨m13, hm13, hr⟩ := bind_out hr
      obtain ⟨m14, hm14, hr⟩ := bind_out hr
      obtain ⟨m15, hm15, hr⟩ := bind_out hr
      obtain ⟨m16, hm16, hr⟩ := bind_out hr
      refine W_any [] [{ V := fun _ v _ => v = (.string (bs s1.1)) }, { V := fun _ v _ => v = (.int .i64 m6) }, { V := fun _ v _ => v = (.string (bs m11)) }, { V := fun _ v _ => v = (.string (bs m12)) }, { V := fun _ v _ => v = (Value.slice p0a p0n p0c) }, { V := fun _ v _ => v = (.int .i64 s1.2.2) }, { V := fun _ v _ => ∃ d9_6g : Nat, ∃ d9_6o : Nat, v = (.pointer (some ⟨d9_6g, d9_6o, none⟩)) ∧ EL encS (Value.slice p0a p0n p0c) (p0).length s1.2.2 d9_6g d9_6o }, { V := fun _ v _ => v = (.string (bs m13)) }, { V := fun _ v _ => v = (.string (bs m14)) }, { V := fun _ v _ => v = (.string (bs m15)) }, { V := fun _ v _ => v = (.string (bs m16)) }, { V := fun _ v _ => v = (.string (bs m16)) }] mixed (by kernel_rfl) ⟨trivial, trivial, trivial, trivial, trivial, trivial, trivial, trivial, trivial, trivial, trivial, trivial, trivial⟩ ⟨?_, ?_, ?_, ?_, ?_, ?_, ?_, ?_, ?_, ?_, ?_, ?_, trivial⟩ ?_
      · skip
        refine ⟨fun _ _ _ _ _ _ h _ => h, fun _ _ h _ => h, fun σ' w' hA hE hD hP => ?_⟩
        have t3 : σ' 3 = .string (bs s1.1) := ((hP 11 _ _ rfl rfl (.inr rfl)).2 3 rfl).trans i1_S3
        refine dg_op rfl (d_mv (v := .string (bs s1.1)) t3 ?_)
        exact ⟨rfl, own_none (Ext.refl w')⟩
      · skip
        refine ⟨fun _ _ _ _ _ _ h _ => h, fun _ _ h _ => h, fun σ' w' hA hE hD hP => ?_⟩
        have t4 : σ' 4 = .int .i64 m6 := (hA 4 rfl).trans rfl
        refine dg_op rfl (d_mv (v := .int .i64 m6) t4 ?_)
        exact ⟨rfl, own_none (Ext.refl w')⟩
      · skip
        refine ⟨fun _ _ _ _ _ _ h _ => h, fun _ _ h _ => h, fun σ' w' hA hE hD hP => ?_⟩
        have t19 : σ' 19 = (.int .i64 m6) := hD 1 rfl
        refine dg_op rfl (d_cl (vs := [.int .i64 m6]) en112 (ac t19 rfl) rfl ?_)
        refine (c112 m6 m11 w' hm11 ).mono ?_
        rintro _ w17 ⟨rfl, E17⟩
        refine ⟨_, rfl, ?_⟩
        have X18 : Ext w' w17 := (Ext.refl w').trans E17
        exact ⟨rfl, own_none X18⟩
      · skip
        refine ⟨fun _ _ _ _ _ _ h _ => h, fun _ _ h _ => h, fun σ' w' hA hE hD hP => ?_⟩
        have t20 : σ' 20 = (.string (bs m11)) := hD 2 rfl
        refine dg_op rfl (d_scat t20 rfl hm12 ?_)
        exact ⟨rfl, own_none (Ext.refl w')⟩
      · skip
        refine ⟨fun _ _ _ _ _ _ h _ => h, fun _ _ h _ => h, fun σ' w' hA hE hD hP => ?_⟩
        have t0 : σ' 0 = (Value.slice p0a p0n p0c) := (hA 0 rfl).trans i1_S0
        have B0_19 : RS w' encS (Value.slice p0a p0n p0c) p0 := B10.frm hE (fun k _ hk => not_oth0)
        refine dg_op rfl (d_mv (v := (Value.slice p0a p0n p0c)) t0 ?_)
        exact ⟨rfl, own_none (Ext.refl w')⟩
      · skip
        refine ⟨fun _ _ _ _ _ _ h _ => h, fun _ _ h _ => h, fun σ' w' hA hE hD hP => ?_⟩
        have t5 : σ' 5 = .int .i64 s1.2.2 := (hA 5 rfl).trans i1_S5
        refine dg_op rfl (d_mv (v := .int .i64 s1.2.2) t5 ?_)
        exact ⟨rfl, own_none (Ext.refl w')⟩
      · skip
        refine ⟨fun _ _ _ _ _ _ h _ => h, fun _ _ h _ => h, fun σ' w' hA hE hD hP => ?_⟩
        have t22 : σ' 22 = (Value.slice p0a p0n p0c) := hD 4 rfl
        have t23 : σ' 23 = (.int .i64 s1.2.2) := hD 5 rfl
        have B0_20 : RS w' encS (Value.slice p0a p0n p0c) p0 := B10.frm hE (fun k _ hk => not_oth0)
        refine dg_op rfl (d_indexE (e := encS) (v := (Value.slice p0a p0n p0c)) un34 size9 t22 t23 B0_20 hm13 fun g21 o21 l21 => ?_)
        exact ⟨⟨g21, o21, rfl, l21⟩, own_none (Ext.refl _)⟩
      · skip
        refine ⟨fun _ _ _ _ _ _ h _ => h, fun _ _ h _ => h, fun σ' w' hA hE hD hP => ?_⟩
        obtain ⟨d9_6g, d9_6o, t24, d9_6gE⟩ : ∃ d9_6g : Nat, ∃ d9_6o : Nat, σ' 24 = (.pointer (some ⟨d9_6g, d9_6o, none⟩)) ∧ EL encS (Value.slice p0a p0n p0c) (p0).length s1.2.2 d9_6g d9_6o := hD 6 rfl
        have B0_22 : RS w' encS (Value.slice p0a p0n p0c) p0 := B10.frm hE (fun k _ hk => not_oth0)
        obtain ⟨d9_6c, d9_6T, d9_6f, d9_6vs, d9_6hg, d9_6P, d9_6hq⟩ := RS.el B0_22 d9_6gE hm13
        obtain rfl := dec_encS d9_6hq
        refine dg_op rfl (d_load (v := .string (bs m13)) t24 agg9 d9_6hg (sub_get (vs := #[.string (bs m13)]) d9_6P (i := 0) rfl) ?_)
        exact ⟨rfl, own_none (Ext.refl w')⟩
      · skip
        refine ⟨fun _ _ _ _ _ _ h _ => h, fun _ _ h _ => h, fun σ' w' hA hE hD hP => ?_⟩
        have t21 : σ' 21 = (.string (bs m12)) := hD 3 rfl
        have t25 : σ' 25 = (.string (bs m13)) := hD 7 rfl
        refine dg_op rfl (d_scat t21 t25 hm14 ?_)
        exact ⟨rfl, own_none (Ext.refl w')⟩
      · skip
        refine ⟨fun _ _ _ _ _ _ h _ => h, fun _ _ h _ => h, fun σ' w' hA hE hD hP => ?_⟩
        have t26 : σ' 26 = (.string (bs m14)) := hD 8 rfl
        refine dg_op rfl (d_scat t26 rfl hm15 ?_)
        exact ⟨rfl, own_none (Ext.refl w')⟩
      · skip
        refine ⟨fun _ _ _ _ _ _ h _ => h, fun _ _ h _ => h, fun σ' w' hA hE hD hP => ?_⟩
        have t18 : σ' 18 = (.string (bs s1.1)) := hD 0 rfl
        have t27 : σ' 27 = (.string (bs m15)) := hD 9 rfl
        refine dg_op rfl (d_scat t18 t27 hm16 ?_)
        exact ⟨rfl, own_none (Ext.refl w')⟩
      · skip
        refine ⟨fun _ _ _ _ _ _ h _ => h, fun _ _ h _ => h, fun σ' w' hA hE hD hP => ?_⟩
        have t28 : σ' 28 = (.string (bs m16)) := hD 10 rfl
        refine dg_op rfl (d_as (v := .string (bs m16)) t28 ?_)
        exact ⟨rfl, own_none (Ext.refl w')⟩
      · skip
        intro σ9 w9 A9 E9 V9
        have E9x : Ext w7 w9 := ext_of_oth0 E9
        have s3_9 : σ9 3 = (.string (bs m16)) := V9 11 (Nat.le_of_ble_eq_true rfl)
        have s4_9 : σ9 4 = .int .i64 m6 := (A9 4 rfl).trans rfl
        have s5_9 : σ9 5 = .int .i64 s1.2.2 := (A9 5 rfl).trans i1_S5
        have s0_9 : σ9 0 = (Value.slice p0a p0n p0c) := (A9 0 rfl).trans i1_S0
        have X23 : Ext w w9 := X8.trans E9x
        refine W_region rfl ?_
        refine da_op rfl (d_mv (v := .int .i64 s1.2.2) s5_9 ?_)
        refine da_op rfl (d_iarith rfl rfl (.inl ⟨rfl, rfl⟩) ?_)
        refine da_op rfl (d_as (v := .int .i64 (IntKind.i64.wrap (s1.2.2 + 1))) rfl ?_)
        refine da_nil ?_
        obtain rfl := Option.some.inj hr
        exact ⟨_, rfl, ⟨s3_9, s4_9, rfl, s0_9, X23⟩⟩
    · skip
      replace hr := bif_f hr hc3
      refine W_exit ?_
      obtain rfl := Option.some.inj hr
      exact ⟨_, rfl, rfl, i1_S3, i1_X⟩
  · skip
    intro ex σx1 wx1 hq
    obtain ⟨rfl, q1_0_S3, q1_0_X⟩ := hq
    refine W_seq ?_
    refine W_region rfl ?_
    refine da_op rfl (d_mv (v := .string (bs m1)) q1_0_S3 ?_)
    refine da_op rfl (d_as (v := .string (bs m1)) rfl ?_)
    refine da_nil ?_
    refine W_ret ?_
    obtain rfl := Option.some.inj hr
    refine ⟨_, res1 (rv_tmp rfl), ?_⟩
    exact ⟨rfl, q1_0_X⟩
set_option maxHeartbeats 4000000 in
theorem c18 (p0 : List (List UInt8)) (p0a : Option Addr) (p0n : Nat) (p0c : Nat) (r : List UInt8 × Bool) (w : World) (hr : M.spec_JournalOf p0 = some r) (p0R : RS w encS (Value.slice p0a p0n p0c) p0) :
    Calls Tryd.prog 18 #[(Value.slice p0a p0n p0c)] w fun e w' => e = .returned (.tuple #[.string (bs r.1), .bool r.2]) ∧ Ext w w' := by
  refine calls_of_W Tryd.func18 rfl (Nat.le_of_ble_eq_true rfl) ?_
  refine W_seq ?_
  refine W_region rfl ?_
  refine da_op rfl (d_as (v := .string (bs ([] : List UInt8))) rfl ?_)
  refine da_op rfl (d_as (v := .bool false) rfl ?_)
  refine da_nil ?_
  refine W_seq ?_
  refine W_region rfl ?_
  refine da_op rfl (d_as (v := .int .i64 0) rfl ?_)
  refine da_nil ?_
  refine W_seq ?_
  refine W_seq ?_
  refine W_region rfl ?_
  refine da_op rfl (d_as (v := .int .i64 0) rfl ?_)
  refine da_nil ?_
  refine W_block ?_
  obtain ⟨m1, hm1, hr⟩ := bind_out hr
  refine W_loopM hm1 (fun (s1 : Int × Int) σ w' => σ 4 = .int .i64 s1.1 ∧ σ 5 = .int .i64 s1.2 ∧ σ 0 = (Value.slice p0a p0n p0c) ∧ Ext w w') (fun (e1 : (Unit ⊕ (List UInt8 × Bool))) ex σ w' => sel e1 (fun e1 => ex = .exit 0 ∧ σ 0 = (Value.slice p0a p0n p0c) ∧ Ext w w') (fun e1 => ex = .ret ∧ σ 2 = .string (bs e1.1) ∧ σ 3 = .bool e1.2 ∧ Ext w w')) ⟨rfl, rfl, rfl, (Ext.refl w)⟩ ?_ ?_
  · skip
    rintro s1 σl1 wl1 r1l ⟨i1_S4, i1_S5, i1_S0, i1_X⟩ hr
    refine W_seq ?_
    refine W_seq ?_
    refine W_region rfl ?_
    refine da_op rfl (d_mv (v := .int .i64 s1.2) i1_S5 ?_)
    refine da_op rfl (d_mv (v := (Value.slice p0a p0n p0c)) i1_S0 ?_)
    have B2 : RS wl1 encS (Value.slice p0a p0n p0c) p0 := p0R.ext i1_X
    refine da_op rfl (d_len (e := encS) un34 rfl B2 ?_)
    refine da_op rfl (d_icmp cLss rfl rfl ?_)
    refine da_nil ?_
    refine W_cond (b := (icmp .lss s1.2 ((p0).length : Int))) rfl (fun hc3 => ?_) (fun hc3 => ?_)
    · skip
      replace hr := bif_t hr hc3
      refine W_skip ?_
      refine W_seq ?_
      refine W_block ?_
      refine W_seq ?_
      refine W_region rfl ?_
      refine da_op rfl (d_mv (v := .int .i64 s1.1) i1_S4 ?_)
      refine da_op rfl (d_mv (v := (Value.slice p0a p0n p0c)) i1_S0 ?_)
      refine da_op rfl (d_mv (v := .int .i64 s1.2) i1_S5 ?_)
      obtain ⟨m4, hm4, hr⟩ := bind_out hr
      refine da_op rfl (d_index (e := encS) (v := (Value.slice p0a p0n p0c)) un34 size9 rfl rfl B2 hm4 fun g5 o5 cu5 T5 fr5 vs5 hv5 hg5 hp5 hq5 => ?_)
      obtain rfl := dec_encS hq5
      refine da_op rfl (d_load (v := .string (bs m4)) rfl agg9 hg5 (sub_get (vs := #[.string (bs m4)]) hp5 (i := 0) rfl) ?_)
      refine da_op rfl (d_slen un9 rfl ?_)
      refine da_op rfl (d_iarith rfl rfl (.inl ⟨rfl, rfl⟩) ?_)
      refine da_op rfl (d_iarith rfl rfl (.inl ⟨rfl, rfl⟩) ?_)
      refine da_op rfl (d_as (v := .int .i64 (IntKind.i64.wrap (s1.1 + (IntKind.i64.wrap (((m4).length : Int) + 3))))) rfl ?_)
      refine da_nil ?_
      refine W_seq ?_
      refine W_seq ?_
      refine W_region rfl ?_
      refine da_op rfl (d_mv (v := .int .i64 (IntKind.i64.wrap (s1.1 + (IntKind.i64.wrap (((m4).length : Int) + 3))))) rfl ?_)
      refine da_op rfl (d_icmp cGtr rfl rfl ?_)
      refine da_nil ?_
      refine W_cond (b := (icmp .gtr (IntKind.i64.wrap (s1.1 + (IntKind.i64.wrap (((m4).length : Int) + 3)))) 16000)) rfl (fun hc6 => ?_) (fun hc6 => ?_)
      · skip
        replace hr := bif_t hr hc6
        refine W_seq ?_
        refine W_region rfl ?_
        refine da_op rfl (d_as (v := .string (bs ([] : List UInt8))) rfl ?_)
        refine da_op rfl (d_as (v := .bool false) rfl ?_)
        refine da_nil ?_
        refine W_ret ?_
        obtain rfl := Option.some.inj hr
        exact ⟨_, rfl, rfl, rfl, rfl, i1_X⟩
      · skip
        replace hr := bif_f hr hc6
        refine W_skip ?_
        refine W_seq ?_
        refine W_region rfl ?_
        refine da_op rfl (d_as (v := .int .i64 0) rfl ?_)
        refine da_nil ?_
        refine W_block ?_
        obtain ⟨m7, hm7, hr⟩ := bind_out hr
        refine W_loopM hm7 (fun (s7 : Int) σ w' => σ 6 = .int .i64 s7 ∧ σ 0 = (Value.slice p0a p0n p0c) ∧ σ 4 = .int .i64 (IntKind.i64.wrap (s1.1 + (IntKind.i64.wrap (((m4).length : Int) + 3)))) ∧ σ 5 = .int .i64 s1.2 ∧ Ext w w') (fun (e7 : (Unit ⊕ (List UInt8 × Bool))) ex σ w' => sel e7 (fun e7 => ex = .exit 2 ∧ σ 0 = (Value.slice p0a p0n p0c) ∧ σ 4 = .int .i64 (IntKind.i64.wrap (s1.1 + (IntKind.i64.wrap (((m4).length : Int) + 3)))) ∧ σ 5 = .int .i64 s1.2 ∧ Ext w w') (fun e7 => ex = .ret ∧ σ 2 = .string (bs e7.1) ∧ σ 3 = .bool e7.2 ∧ Ext w w')) ⟨rfl, i1_S0, rfl, i1_S5, i1_X⟩ ?_ ?_
        · skip
          rintro s7 σl7 wl7 r7l ⟨i7_S6, i7_S0, i7_S4, i7_S5, i7_X⟩ hr
          refine W_seq ?_
          refine W_seq ?_
          refine W_region rfl ?_
          refine da_op rfl (d_mv (v := .int .i64 s7) i7_S6 ?_)
          refine da_op rfl (d_mv (v := (Value.slice p0a p0n p0c)) i7_S0 ?_)
          refine da_op rfl (d_mv (v := .int .i64 s1.2) i7_S5 ?_)
          obtain ⟨m8, hm8, hr⟩ := bind_out hr
          have B10 : RS wl7 encS (Value.slice p0a p0n p0c) p0 := p0R.ext i7_X
          refine da_op rfl (d_index (e := encS) (v := (Value.slice p0a p0n p0c)) un34 size9 rfl rfl B10 hm8 fun g9 o9 cu9 T9 fr9 vs9 hv9 hg9 hp9 hq9 => ?_)
          obtain rfl := dec_encS hq9
          refine da_op rfl (d_load (v := .string (bs m8)) rfl agg9 hg9 (sub_get (vs := #[.string (bs m8)]) hp9 (i := 0) rfl) ?_)
          refine da_op rfl (d_slen un9 rfl ?_)
          refine da_op rfl (d_icmp cLss rfl rfl ?_)
          refine da_nil ?_
          refine W_cond (b := (icmp .lss s7 ((m8).length : Int))) rfl (fun hc11 => ?_) (fun hc11 => ?_)
          · skip
            replace hr := bif_t hr hc11
            refine W_skip ?_
            refine W_seq ?_
            refine W_block ?_
            refine W_seq ?_
            refine W_region rfl ?_
            refine da_op rfl (d_mv (v := (Value.slice p0a p0n p0c)) i7_S0 ?_)
            refine da_op rfl (d_mv (v := .int .i64 s1.2) i7_S5 ?_)
            obtain ⟨m12, hm12, hr⟩ := bind_out hr
            refine da_op rfl (d_index (e := encS) (v := (Value.slice p0a p0n p0c)) un34 size9 rfl rfl B10 hm12 fun g13 o13 cu13 T13 fr13 vs13 hv13 hg13 hp13 hq13 => ?_)
            obtain rfl := dec_encS hq13
            refine da_op rfl (d_load (v := .string (bs m12)) rfl agg9 hg13 (sub_get (vs := #[.string (bs m12)]) hp13 (i := 0) rfl) ?_)
            refine da_op rfl (d_mv (v := .int .i64 s7) i7_S6 ?_)
            obtain ⟨m14, hm14, hr⟩ := bind_out hr
            refine da_op rfl (d_sidx un9 rfl rfl hm14 ?_)
            refine da_op rfl (d_icmp cEql rfl rfl ?_)
            refine da_nil ?_
            refine W_cond (b := (icmp .eql m14 10)) rfl (fun hc15 => ?_) (fun hc15 => ?_)
            · skip
              replace hr := bif_t hr hc15
              refine W_seq ?_
              refine W_region rfl ?_
              refine da_op rfl (d_as (v := .string (bs ([] : List UInt8))) rfl ?_)
              refine da_op rfl (d_as (v := .bool false) rfl ?_)
              refine da_nil ?_
              refine W_ret ?_
              obtain rfl := Option.some.inj hr
              exact ⟨_, rfl, rfl, rfl, rfl, i7_X⟩
            · skip
              replace hr := bif_f hr hc15
              refine W_skip ?_
              refine W_region rfl ?_
              refine da_op rfl (d_mv (v := .int .i64 s7) i7_S6 ?_)
              refine da_op rfl (d_iarith rfl rfl (.inl ⟨rfl, rfl⟩) ?_)
              refine da_op rfl (d_as (v := .int .i64 (IntKind.i64.wrap (s7 + 1))) rfl ?_)
              refine da_nil ?_
              obtain rfl := Option.some.inj hr
              exact ⟨_, rfl, ⟨rfl, i7_S0, i7_S4, i7_S5, i7_X⟩⟩
          · skip
            replace hr := bif_f hr hc11
            refine W_exit ?_
            obtain rfl := Option.some.inj hr
            exact ⟨_, rfl, rfl, i7_S0, i7_S4, i7_S5, i7_X⟩
        · skip
          intro ex σx7 wx7 hq
          rcases m7 with m7 | m7
          · skip
            obtain ⟨rfl, q7_0_S0, q7_0_S4, q7_0_S5, q7_0_X⟩ := hq
            refine W_region rfl ?_
            refine da_op rfl (d_mv (v := .int .i64 s1.2) q7_0_S5 ?_)
            refine da_op rfl (d_iarith rfl rfl (.inl ⟨rfl, rfl⟩) ?_)
            refine da_op rfl (d_as (v := .int .i64 (IntKind.i64.wrap (s1.2 + 1))) rfl ?_)
            refine da_nil ?_
            obtain rfl := Option.some.inj hr
            exact ⟨_, rfl, ⟨q7_0_S4, rfl, q7_0_S0, q7_0_X⟩⟩
          · skip
            obtain ⟨rfl, q7_1_S2, q7_1_S3, q7_1_X⟩ := hq
            obtain rfl := Option.some.inj hr
            exact ⟨_, rfl, rfl, q7_1_S2, q7_1_S3, q7_1_X⟩
    · skip
      replace hr := bif_f hr hc3
      refine W_exit ?_
      obtain rfl := Option.some.inj hr
      exact ⟨_, rfl, rfl, i1_S0, i1_X⟩
  · skip
    intro ex σx1 wx1 hq
    rcases m1 with m1 | m1
    · skip
      obtain ⟨rfl, q1_0_S0, q1_0_X⟩ := hq
      refine W_seq ?_
      refine W_region rfl ?_
      refine da_op rfl (d_mv (v := (Value.slice p0a p0n p0c)) q1_0_S0 ?_)
      obtain ⟨m16, hm16, hr⟩ := bind_out hr
      have B17 : RS wx1 encS (Value.slice p0a p0n p0c) p0 := p0R.ext q1_0_X
      refine da_op rfl (d_cl (vs := [(Value.slice p0a p0n p0c)]) en54 (ac rfl rfl) rfl ?_)
      refine (c54 p0 p0a p0n p0c m16 wx1 hm16 B17).mono ?_
      rintro _ w18 ⟨rfl, E18⟩
      refine ⟨_, rfl, ?_⟩
      have X19 : Ext w w18 := q1_0_X.trans E18
      refine da_op rfl (d_as (v := .string (bs m16)) rfl ?_)
      refine da_nil ?_
      refine W_seq ?_
      refine W_seq ?_
      refine W_region rfl ?_
      refine da_op rfl (d_mv (v := .string (bs m16)) rfl ?_)
      refine da_op rfl (d_slen un9 rfl ?_)
      refine da_op rfl (d_icmp cGtr rfl rfl ?_)
      refine da_nil ?_
      refine W_cond (b := (icmp .gtr ((m16).length : Int) 16000)) rfl (fun hc20 => ?_) (fun hc20 => ?_)
      · skip
        replace hr := bif_t hr hc20
        refine W_seq ?_
        refine W_region rfl ?_
        refine da_op rfl (d_as (v := .string (bs ([] : List UInt8))) rfl ?_)
        refine da_op rfl (d_as (v := .bool false) rfl ?_)
        refine da_nil ?_
        refine W_ret ?_
        obtain rfl := Option.some.inj hr
        refine ⟨_, res2 (rv_tmp rfl) (rv_tmp rfl), ?_⟩
        exact ⟨rfl, X19⟩
      · skip
        replace hr := bif_f hr hc20
        refine W_skip ?_
        refine W_seq ?_
        refine W_region rfl ?_
        refine da_op rfl (d_mv (v := .string (bs m16)) rfl ?_)
        refine da_op rfl (d_as (v := .string (bs m16)) rfl ?_)
        refine da_op rfl (d_as (v := .bool true) rfl ?_)
        refine da_nil ?_
        refine W_ret ?_
        obtain rfl := Option.some.inj hr
        refine ⟨_, res2 (rv_tmp rfl) (rv_tmp rfl), ?_⟩
        exact ⟨rfl, X19⟩
    · skip
      obtain ⟨rfl, q1_1_S2, q1_1_S3, q1_1_X⟩ := hq
      obtain rfl := Option.some.inj hr
      refine ⟨_, res2 (rv_tmp q1_1_S2) (rv_tmp q1_1_S3), ?_⟩
      exact ⟨rfl, q1_1_X⟩
set_option maxHeartbeats 4000000 in
theorem c117 (p0 : List UInt8) (p1 : Int) (r : Int) (w : World) (hr : M.internal_stringslite_IndexByte p0 p1 = r)  :
    Calls Tryd.prog 117 #[.string (bs p0), .int .u8 p1] w fun e w' => e = .returned (.int .i64 r) ∧ Ext w w' := by
  refine calls_of_W Tryd.func117 rfl (Nat.le_of_ble_eq_true rfl) ?_
  refine W_seq ?_
  refine W_region rfl ?_
  refine da_op rfl (d_as (v := .int .i64 0) rfl ?_)
  refine da_nil ?_
  refine W_seq ?_
  refine W_region rfl ?_
  refine da_op rfl (d_mv (v := .string (bs p0)) rfl ?_)
  refine da_op rfl (d_mv (v := .int .u8 p1) rfl ?_)
  refine da_op rfl (d_sfind ext168_0 ext168_1 ext168_2 (Option.isNone_iff_eq_none.1 ext168_3) ext168_4 rfl rfl rfl ?_)
  refine da_op rfl (d_as (v := .int .i64 (sfind p0 p1)) rfl ?_)
  refine da_nil ?_
  refine W_ret ?_
  subst hr
  refine ⟨_, res1 (rv_tmp rfl), ?_⟩
  exact ⟨rfl, (Ext.refl w)⟩
set_option maxHeartbeats 4000000 in
theorem c165_s0a (p0 : List UInt8) (r : Int) (w : World) (hr : M.internal_stringslite_Index_s0a p0 = some r)  :
    Calls Tryd.prog 165 #[.string (bs p0), .string (bs ([10] : List UInt8))] w fun e w' => e = .returned (.int .i64 r) ∧ Ext w w' := by
  refine calls_of_W Tryd.func165 rfl (Nat.le_of_ble_eq_true rfl) ?_
  refine W_seq ?_
  refine W_region rfl ?_
  refine da_op rfl (d_as (v := .int .i64 0) rfl ?_)
  refine da_nil ?_
  refine W_seq ?_
  refine W_region rfl ?_
  refine da_op rfl (d_mv (v := .string (bs ([10] : List UInt8))) rfl ?_)
  refine da_op rfl (d_slenL (n := 1) un9 rfl rfl ?_)
  refine da_op rfl (d_as (v := .int .i64 1) rfl ?_)
  refine da_nil ?_
  refine W_seq ?_
  refine W_block ?_
  refine W_seq ?_
  refine W_cut (fun σ' w' => σ' 16 = .bool (([10] : List UInt8) == p0) ∧ Ext w w') rfl ?_ ?_
  · skip
    clear hr
    refine da_op rfl (d_mv (v := .int .i64 1) rfl ?_)
    refine da_op rfl (d_icmpL (b := false) cEql rfl rfl (by decide) ?_)
    refine da_op rfl (d_mv (v := .bool false) rfl ?_)
    refine da_on rfl rfl (d_mv (v := .string (bs ([10] : List UInt8))) rfl ?_)
    refine da_on rfl rfl (d_mv (v := .string (bs p0)) rfl ?_)
    refine da_on rfl rfl (d_seq rfl rfl ?_)
    refine da_op rfl (d_pick (b := false) rfl ?_)
    refine da_op rfl (d_as (v := .bool (([10] : List UInt8) == p0)) rfl ?_)
    refine da_nil ?_
    exact ⟨rfl, (Ext.refl w)⟩
  · skip
    rintro σ1 w1 o1 ⟨s16_1, E1⟩
    have s0_1 : σ1 0 = .string (bs p0) := (o1 0 rfl).trans rfl
    have s1_1 : σ1 1 = .string (bs ([10] : List UInt8)) := (o1 1 rfl).trans rfl
    have s5_1 : σ1 5 = .int .i64 1 := (o1 5 rfl).trans rfl
    have X2 : Ext w w1 := (Ext.refl w).trans E1
    refine W_cond (b := (([10] : List UInt8) == p0)) s16_1 (fun hc3 => ?_) (fun hc3 => ?_)
    · skip
      replace hr := bif_t hr hc3
      refine W_seq ?_
      refine W_region rfl ?_
      refine da_op rfl (d_as (v := .int .i64 0) rfl ?_)
      refine da_nil ?_
      refine W_ret ?_
      obtain rfl := Option.some.inj hr
      refine ⟨_, res1 (rv_tmp rfl), ?_⟩
      exact ⟨rfl, X2⟩
    · skip
      replace hr := bif_f hr hc3
      refine W_seq ?_
      refine W_region rfl ?_
      refine da_op rfl (d_mv (v := .int .i64 1) s5_1 ?_)
      refine da_op rfl (d_icmpL (b := true) cEql rfl rfl (by decide) ?_)
      refine da_op rfl (d_as (v := .bool true) rfl ?_)
      refine da_nil ?_
      refine W_true rfl ?_
      refine W_seq ?_
      refine W_region rfl ?_
      refine da_op rfl (d_mv (v := .string (bs p0)) s0_1 ?_)
      refine da_op rfl (d_mv (v := .string (bs ([10] : List UInt8))) s1_1 ?_)
      obtain ⟨m4, hm4, hr⟩ := bind_out hr
      refine da_op rfl (d_sidx un9 rfl rfl hm4 ?_)
      obtain ⟨m5, hm5, hr⟩ := letv_out hr
      refine da_op rfl (d_cl (vs := [.string (bs p0), .int .u8 m4]) en117 (ac rfl (ac rfl rfl)) rfl ?_)
      refine (c117 p0 m4 m5 w1 hm5 ).mono ?_
      rintro _ w6 ⟨rfl, E6⟩
      refine ⟨_, rfl, ?_⟩
      have X7 : Ext w w6 := X2.trans E6
      refine da_op rfl (d_as (v := .int .i64 m5) rfl ?_)
      refine da_nil ?_
      refine W_ret ?_
      obtain rfl := Option.some.inj hr
      refine ⟨_, res1 (rv_tmp rfl), ?_⟩
      exact ⟨rfl, X7⟩
set_option maxHeartbeats 4000000 in
theorem c113_s0a (p0 : List UInt8) (r : Int) (w : World) (hr : M.strings_Index_s0a p0 = some r)  :
    Calls Tryd.prog 113 #[.string (bs p0), .string (bs ([10] : List UInt8))] w fun e w' => e = .returned (.int .i64 r) ∧ Ext w w' := by
  refine calls_of_W Tryd.func113 rfl (Nat.le_of_ble_eq_true rfl) ?_
  refine W_seq ?_
  refine W_region rfl ?_
  refine da_op rfl (d_as (v := .int .i64 0) rfl ?_)
  refine da_nil ?_
  refine W_seq ?_
  refine W_region rfl ?_
  refine da_op rfl (d_mv (v := .string (bs p0)) rfl ?_)
  refine da_op rfl (d_mv (v := .string (bs ([10] : List UInt8))) rfl ?_)
  obtain ⟨m1, hm1, hr⟩ := bind_out hr
  refine da_op rfl (d_cl (vs := [.string (bs p0), .string (bs ([10] : List UInt8))]) en165 (ac rfl (ac rfl rfl)) rfl ?_)
  refine (c165_s0a p0 m1 w hm1 ).mono ?_
  rintro _ w2 ⟨rfl, E2⟩
  refine ⟨_, rfl, ?_⟩
  have X3 : Ext w w2 := (Ext.refl w).trans E2
  refine da_op rfl (d_as (v := .int .i64 m1) rfl ?_)
  refine da_nil ?_
  refine W_ret ?_
  obtain rfl := Option.some.inj hr
  refine ⟨_, res1 (rv_tmp rfl), ?_⟩
  exact ⟨rfl, X3⟩
set_option maxHeartbeats 4000000 in
theorem c55_s0a (p0 : List UInt8) (r : Bool) (w : World) (hr : M.strings_Contains_s0a p0 = some r)  :
    Calls Tryd.prog 55 #[.string (bs p0), .string (bs ([10] : List UInt8))] w fun e w' => e = .returned (.bool r) ∧ Ext w w' := by
  refine calls_of_W Tryd.func55 rfl (Nat.le_of_ble_eq_true rfl) ?_
  refine W_seq ?_
  refine W_region rfl ?_
  refine da_op rfl (d_as (v := .bool false) rfl ?_)
  refine da_nil ?_
  refine W_seq ?_
  refine W_region rfl ?_
  refine da_op rfl (d_mv (v := .string (bs p0)) rfl ?_)
  refine da_op rfl (d_mv (v := .string (bs ([10] : List UInt8))) rfl ?_)
  obtain ⟨m1, hm1, hr⟩ := bind_out hr
  refine da_op rfl (d_cl (vs := [.string (bs p0), .string (bs ([10] : List UInt8))]) en113 (ac rfl (ac rfl rfl)) rfl ?_)
  refine (c113_s0a p0 m1 w hm1 ).mono ?_
  rintro _ w2 ⟨rfl, E2⟩
  refine ⟨_, rfl, ?_⟩
  have X3 : Ext w w2 := (Ext.refl w).trans E2
  refine da_op rfl (d_icmp cGeq rfl rfl ?_)
  refine da_op rfl (d_as (v := .bool (icmp .geq m1 0)) rfl ?_)
  refine da_nil ?_
  refine W_ret ?_
  obtain rfl := Option.some.inj hr
  refine ⟨_, res1 (rv_tmp rfl), ?_⟩
  exact ⟨rfl, X3⟩
set_option maxHeartbeats 4000000 in
theorem c103 (p0 : Int) (p1 : Int) (p2 : Int) (r : Bool) (w : World) (hr : M.impl_in p0 p1 p2 = r)  :
    Calls Tryd.prog 103 #[.int .i64 p0, .int .i64 p1, .int .i64 p2] w fun e w' => e = .returned (.bool r) ∧ Ext w w' := by
  refine calls_of_W Tryd.func103 rfl (Nat.le_of_ble_eq_true rfl) ?_
  refine W_seq ?_
  refine W_region rfl ?_
  refine da_op rfl (d_as (v := .bool false) rfl ?_)
  refine da_nil ?_
  refine W_seq ?_
  obtain ⟨m1, hm1, hr⟩ := letv_out hr
  refine W_cut (fun σ' w' => σ' 6 = .bool m1 ∧ Ext w w') rfl ?_ ?_
  · skip
    have hr := hm1
    refine da_op rfl (d_mv (v := .int .i64 p0) rfl ?_)
    refine da_op rfl (d_mv (v := .int .i64 p1) rfl ?_)
    refine da_op rfl (d_icmp cGeq rfl rfl ?_)
    refine da_op rfl (d_mv (v := .bool (icmp .geq p0 p1)) rfl ?_)
    rcases Bool.eq_false_or_eq_true (icmp .geq p0 p1) with hc2 | hc2
    · skip
      replace hr := bif_t hr hc2
      refine da_on rfl (Eq.trans (show sl _ _ _ = .bool (icmp .geq p0 p1) from rfl) (congrArg Value.bool hc2)) (d_mv (v := .int .i64 p0) rfl ?_)
      refine da_on rfl (Eq.trans (show sl _ _ _ = .bool (icmp .geq p0 p1) from rfl) (congrArg Value.bool hc2)) (d_mv (v := .int .i64 p2) rfl ?_)
      refine da_on rfl (Eq.trans (show sl _ _ _ = .bool (icmp .geq p0 p1) from rfl) (congrArg Value.bool hc2)) (d_icmp cLeq rfl rfl ?_)
      refine da_op rfl (d_pick (b := true) (Eq.trans (show ev _ _ = .bool (icmp .geq p0 p1) from rfl) (congrArg Value.bool hc2)) ?_)
      refine da_op rfl (d_as (v := .bool (icmp .leq p0 p2)) rfl ?_)
      refine da_nil ?_
      subst hr
      exact ⟨rfl, (Ext.refl w)⟩
    · skip
      replace hr := bif_f hr hc2
      refine da_off rfl (Eq.trans (show sl _ _ _ = .bool (icmp .geq p0 p1) from rfl) (congrArg Value.bool hc2)) (by decide) ?_
      refine da_off rfl (Eq.trans (show sl _ _ _ = .bool (icmp .geq p0 p1) from rfl) (congrArg Value.bool hc2)) (by decide) ?_
      refine da_off rfl (Eq.trans (show sl _ _ _ = .bool (icmp .geq p0 p1) from rfl) (congrArg Value.bool hc2)) (by decide) ?_
      refine da_op rfl (d_pick (b := false) (Eq.trans (show ev _ _ = .bool (icmp .geq p0 p1) from rfl) (congrArg Value.bool hc2)) ?_)
      refine da_op rfl (d_as (v := .bool false) rfl ?_)
      refine da_nil ?_
      subst hr
      exact ⟨rfl, (Ext.refl w)⟩
  · skip
    rintro σ1 w1 o1 ⟨s6_1, E1⟩
    have X3 : Ext w w1 := (Ext.refl w).trans E1
    refine W_ret ?_
    subst hr
    refine ⟨_, res1 (rv_tmp s6_1), ?_⟩
    exact ⟨rfl, X3⟩
set_option maxHeartbeats 4000000 in
theorem c57 (p0 : Int) (p1 : List UInt8) (r : Int × Bool) (w : World) (hr : M.impl_CheckOf p0 p1 = some r)  :
    Calls Tryd.prog 57 #[.int .i64 p0, .string (bs p1)] w fun e w' => e = .returned (.tuple #[.int .i64 r.1, .bool r.2]) ∧ Ext w w' := by
  refine calls_of_W Tryd.func57 rfl (Nat.le_of_ble_eq_true rfl) ?_
  refine W_seq ?_
  refine W_region rfl ?_
  refine da_op rfl (d_as (v := .int .i64 0) rfl ?_)
  refine da_op rfl (d_as (v := .bool false) rfl ?_)
  refine da_nil ?_
  refine W_seq ?_
  refine W_seq ?_
  refine W_region rfl ?_
  refine da_op rfl (d_mv (v := .int .i64 p0) rfl ?_)
  obtain ⟨m1, hm1, hr⟩ := letv_out hr
  refine da_op rfl (d_cl (vs := [.int .i64 p0, .int .i64 0, .int .i64 65002]) en103 (ac rfl (ac rfl (ac rfl rfl))) rfl ?_)
  refine (c103 p0 0 65002 m1 w hm1 ).mono ?_
  rintro _ w2 ⟨rfl, E2⟩
  refine ⟨_, rfl, ?_⟩
  have X3 : Ext w w2 := (Ext.refl w).trans E2
  refine da_op rfl (d_not rfl ?_)
  refine da_nil ?_
  refine W_cond (b := (!m1)) rfl (fun hc4 => ?_) (fun hc4 => ?_)
  · skip
    replace hr := bif_t hr hc4
    refine W_seq ?_
    refine W_region rfl ?_
    refine da_op rfl (d_as (v := .int .i64 0) rfl ?_)
    refine da_op rfl (d_as (v := .bool false) rfl ?_)
    refine da_nil ?_
    refine W_ret ?_
    obtain rfl := Option.some.inj hr
    refine ⟨_, res2 (rv_tmp rfl) (rv_tmp rfl), ?_⟩
    exact ⟨rfl, X3⟩
  · skip
    replace hr := bif_f hr hc4
    refine W_skip ?_
    refine W_seq ?_
    refine W_seq ?_
    refine W_region rfl ?_
    refine da_op rfl (d_mv (v := .string (bs p1)) rfl ?_)
    refine da_op rfl (d_slen un9 rfl ?_)
    refine da_op rfl (d_mv (v := .int .i64 0) rfl ?_)
    refine da_nil ?_
    refine W_block ?_
    obtain ⟨m5, hm5, hr⟩ := bind_out hr
    refine W_loopM hm5 (fun (s5 : Int × Int) σ w' => σ 0 = .int .i64 s5.1 ∧ σ 12 = .int .i64 s5.2 ∧ σ 1 = .string (bs p1) ∧ σ 11 = .int .i64 ((p1).length : Int) ∧ Ext w w') (fun (e5 : Int) ex σ w' => ex = .exit 0 ∧ σ 0 = .int .i64 e5 ∧ Ext w w') ⟨rfl, rfl, rfl, rfl, X3⟩ ?_ ?_
    · skip
      rintro s5 σl5 wl5 r5l ⟨i5_S0, i5_S12, i5_S1, i5_S11, i5_X⟩ hr
      refine W_seq ?_
      refine W_region rfl ?_
      refine da_op rfl (d_icmp cLss i5_S12 i5_S11 ?_)
      refine da_nil ?_
      refine W_seq ?_
      refine W_cond (b := (icmp .lss s5.2 ((p1).length : Int))) rfl (fun hc6 => ?_) (fun hc6 => ?_)
      · skip
        replace hr := bif_t hr hc6
        refine W_skip ?_
        refine W_seq ?_
        refine W_block ?_
        refine W_seq ?_
        refine W_region rfl ?_
        refine da_op rfl (d_mv (v := .int .i64 s5.2) i5_S12 ?_)
        refine da_op rfl (d_as (v := .int .i64 s5.2) rfl ?_)
        refine da_nil ?_
        refine W_region rfl ?_
        refine da_op rfl (d_mv (v := .int .i64 s5.1) i5_S0 ?_)
        refine da_op rfl (d_iarith rfl rfl (.inr (.inr ⟨rfl, rfl⟩)) ?_)
        refine da_op rfl (d_mv (v := .string (bs p1)) i5_S1 ?_)
        refine da_op rfl (d_mv (v := .int .i64 s5.2) rfl ?_)
        obtain ⟨m7, hm7, hr⟩ := bind_out hr
        refine da_op rfl (d_sidx un9 rfl rfl hm7 ?_)
        refine da_op rfl (d_iconv un5 un2 rfl ?_)
        refine da_op rfl (d_iarith rfl rfl (.inl ⟨rfl, rfl⟩) ?_)
        refine da_op rfl (d_iarith rfl rfl (.inl ⟨rfl, rfl⟩) ?_)
        refine da_op rfl (d_remL rfl rfl (by decide) ?_)
        refine da_op rfl (d_as (v := .int .i64 (((IntKind.i64.wrap ((IntKind.i64.wrap ((IntKind.i64.wrap (757 * s5.1)) + (IntKind.i64.wrap m7))) + 79))).tmod 65003)) rfl ?_)
        refine da_nil ?_
        refine W_region rfl ?_
        refine da_op rfl (d_iarith i5_S12 rfl (.inl ⟨rfl, rfl⟩) ?_)
        refine da_op rfl (d_mv (v := .int .i64 (IntKind.i64.wrap (s5.2 + 1))) rfl ?_)
        refine da_nil ?_
        obtain rfl := Option.some.inj hr
        exact ⟨_, rfl, ⟨rfl, rfl, i5_S1, i5_S11, i5_X⟩⟩
      · skip
        replace hr := bif_f hr hc6
        refine W_exit ?_
        obtain rfl := Option.some.inj hr
        exact ⟨_, rfl, rfl, i5_S0, i5_X⟩
    · skip
      intro ex σx5 wx5 hq
      obtain ⟨rfl, q5_0_S0, q5_0_X⟩ := hq
      refine W_seq ?_
      refine W_region rfl ?_
      refine da_op rfl (d_mv (v := .int .i64 m5) q5_0_S0 ?_)
      refine da_op rfl (d_as (v := .int .i64 m5) rfl ?_)
      refine da_op rfl (d_as (v := .bool true) rfl ?_)
      refine da_nil ?_
      refine W_ret ?_
      obtain rfl := Option.some.inj hr
      refine ⟨_, res2 (rv_tmp rfl) (rv_tmp rfl), ?_⟩
      exact ⟨rfl, q5_0_X⟩
set_option maxHeartbeats 4000000 in
theorem c59 (p0 : Int) (r : List UInt8) (w : World) (hr : M.impl_Decimal p0 = some r) (t_T10 : T10 Tryd.prog w) :
    Calls Tryd.prog 59 #[.int .i64 p0] w fun e w' => e = .returned (.string (bs r)) ∧ Ext w w' := by
  refine calls_of_W Tryd.func59 rfl (Nat.le_of_ble_eq_true rfl) ?_
  refine W_seq ?_
  refine W_region rfl ?_
  refine da_op rfl (d_as (v := .string (bs ([] : List UInt8))) rfl ?_)
  refine da_nil ?_
  refine W_seq ?_
  refine W_region rfl ?_
  refine da_op rfl (d_mv (v := .int .i64 p0) rfl ?_)
  obtain ⟨m2, hm2, hr⟩ := bind_out hr
  refine da_op rfl (d_cl (vs := [.int .i64 p0, .int .i64 10]) en115 (ac rfl (ac rfl rfl)) rfl ?_)
  refine (sh115 hm2 (t_T10.ext (Ext.refl w))).mono ?_
  rintro _ w1 ⟨rfl, E1⟩
  refine ⟨_, rfl, ?_⟩
  have X3 : Ext w w1 := (Ext.refl w).trans E1
  refine da_op rfl (d_as (v := .string (bs m2)) rfl ?_)
  refine da_nil ?_
  refine W_ret ?_
  obtain rfl := Option.some.inj hr
  refine ⟨_, res1 (rv_tmp rfl), ?_⟩
  exact ⟨rfl, X3⟩
set_option maxHeartbeats 4000000 in
theorem c20 (p0 : List (List UInt8)) (p0a : Option Addr) (p0n : Nat) (p0c : Nat) (r : List UInt8 × Bool) (w : World) (hr : M.impl_JournalOf p0 = some r) (p0R : RS w encS (Value.slice p0a p0n p0c) p0) (t_T10 : T10 Tryd.prog w) :
    Calls Tryd.prog 20 #[(Value.slice p0a p0n p0c)] w fun e w' => e = .returned (.tuple #[.string (bs r.1), .bool r.2]) ∧ Ext w w' := by
  refine calls_of_W Tryd.func20 rfl (Nat.le_of_ble_eq_true rfl) ?_
  refine W_seq ?_
  refine W_region rfl ?_
  refine da_op rfl (d_as (v := .string (bs ([] : List UInt8))) rfl ?_)
  refine da_op rfl (d_as (v := .bool false) rfl ?_)
  refine da_nil ?_
  refine W_seq ?_
  refine W_region rfl ?_
  refine da_op rfl (d_bd (vs := []) (cs := #[.pointer none, .slice none 0 0]) rfl (by kernel_rfl) ?_)
  refine da_op rfl (d_alloc (cs := #[.pointer none, .slice none 0 0]) zero94 rfl fun w1 B1 E1 => ?_)
  have own2 : w.heap.size ≤ w.heap.size := Nat.le_trans (Ext.refl w).size (Nat.le_refl _)
  have X3 : Ext w w1 := (Ext.refl w).trans E1
  refine da_op rfl (d_store (vs := #[.pointer none, .slice none 0 0]) rfl rfl B1 size94 (Nat.le_of_ble_eq_true rfl) rfl fun w4 S4 => ?_)
  have X5 : Ext w w4 := Ext.step X3 S4.frmb (fun k _ hk => hk ▸ own2)
  have B6 : w4.heap[w.heap.size]? = some (.cells #[.pointer none, .slice none 0 0] 94 (0, 0)) := S4.here
  refine da_op rfl (d_as (v := .int .i64 0) rfl ?_)
  refine da_nil ?_
  have B7 : Bld 94 5 w.heap.size w.heap.size [] w4 := Bld.new B6 own2
  refine W_seq ?_
  refine W_seq ?_
  refine W_region rfl ?_
  refine da_op rfl (d_mv (v := (Value.slice p0a p0n p0c)) rfl ?_)
  have B8 : RS w4 encS (Value.slice p0a p0n p0c) p0 := p0R.ext X5
  refine da_op rfl (d_len (e := encS) un34 rfl B8 ?_)
  refine da_op rfl (d_mv (v := .int .i64 0) rfl ?_)
  refine da_nil ?_
  refine W_block ?_
  obtain ⟨m9, hm9, hr⟩ := bind_out hr
  refine W_loopM hm9 (fun (s9 : Int × Int × List UInt8) σ w' => σ 5 = .int .i64 s9.1 ∧ σ 11 = .int .i64 s9.2.1 ∧ σ 4 = .pointer (some ⟨w.heap.size, 0, none⟩) ∧ σ 9 = (Value.slice p0a p0n p0c) ∧ σ 10 = .int .i64 ((p0).length : Int) ∧ Bld 94 5 w.heap.size w.heap.size s9.2.2 w' ∧ Ext w w') (fun (e9 : ((List UInt8) ⊕ (List UInt8 × Bool))) ex σ w' => sel e9 (fun e9 => ex = .exit 0 ∧ σ 4 = .pointer (some ⟨w.heap.size, 0, none⟩) ∧ Bld 94 5 w.heap.size w.heap.size e9 w' ∧ Ext w w') (fun e9 => ex = .ret ∧ σ 2 = .string (bs e9.1) ∧ σ 3 = .bool e9.2 ∧ Ext w w')) ⟨rfl, rfl, rfl, rfl, rfl, B7, X5⟩ ?_ ?_
  · skip
    rintro s9 σl9 wl9 r9l ⟨i9_S5, i9_S11, i9_S4, i9_S9, i9_S10, i9_2R, i9_X⟩ hr
    refine W_seq ?_
    refine W_region rfl ?_
    refine da_op rfl (d_icmp cLss i9_S11 i9_S10 ?_)
    refine da_nil ?_
    refine W_seq ?_
    refine W_cond (b := (icmp .lss s9.2.1 ((p0).length : Int))) rfl (fun hc10 => ?_) (fun hc10 => ?_)
    · skip
      replace hr := bif_t hr hc10
      refine W_skip ?_
      refine W_seq ?_
      refine W_block ?_
      refine W_seq ?_
      refine W_region rfl ?_
      obtain ⟨m11, hm11, hr⟩ := bind_out hr
      have B13 : RS wl9 encS (Value.slice p0a p0n p0c) p0 := p0R.ext i9_X
      refine da_op rfl (d_index (e := encS) (v := (Value.slice p0a p0n p0c)) un34 size9 i9_S9 i9_S11 B13 hm11 fun g12 o12 cu12 T12 fr12 vs12 hv12 hg12 hp12 hq12 => ?_)
      obtain rfl := dec_encS hq12
      refine da_op rfl (d_load (v := .string (bs m11)) rfl agg9 hg12 (sub_get (vs := #[.string (bs m11)]) hp12 (i := 0) rfl) ?_)
      refine da_op rfl (d_as (v := .string (bs m11)) rfl ?_)
      refine da_nil ?_
      refine W_seq ?_
      refine W_seq ?_
      obtain ⟨m14, hm14, hr⟩ := bind_out hr
      refine W_cut (fun σ' w' => σ' 25 = .bool m14 ∧ Ext wl9 w') rfl ?_ ?_
      · skip
        have hr := hm14
        refine da_op rfl (d_mv (v := .string (bs m11)) rfl ?_)
        refine da_op rfl (d_slen un9 rfl ?_)
        refine da_op rfl (d_icmp cGtr rfl rfl ?_)
        refine da_op rfl (d_mv (v := .bool (icmp .gtr ((m11).length : Int) 16000)) rfl ?_)
        rcases Bool.eq_false_or_eq_true (icmp .gtr ((m11).length : Int) 16000) with hc15 | hc15
        · skip
          replace hr := bif_t hr hc15
          refine da_off rfl (Eq.trans (show sl _ _ _ = .bool (icmp .gtr ((m11).length : Int) 16000) from rfl) (congrArg Value.bool hc15)) (by decide) ?_
          refine da_off rfl (Eq.trans (show sl _ _ _ = .bool (icmp .gtr ((m11).length : Int) 16000) from rfl) (congrArg Value.bool hc15)) (by decide) ?_
          refine da_op rfl (d_pick (b := true) (Eq.trans (show ev _ _ = .bool (icmp .gtr ((m11).length : Int) 16000) from rfl) (congrArg Value.bool hc15)) ?_)
          refine da_op rfl (d_mv (v := .bool true) rfl ?_)
          refine da_off rfl rfl (by decide) ?_
          refine da_off rfl rfl (by decide) ?_
          refine da_op rfl (d_pick (b := true) rfl ?_)
          refine da_nil ?_
          obtain rfl := Option.some.inj hr
          exact ⟨rfl, (Ext.refl wl9)⟩
        · skip
          replace hr := bif_f hr hc15
          refine da_on rfl (Eq.trans (show sl _ _ _ = .bool (icmp .gtr ((m11).length : Int) 16000) from rfl) (congrArg Value.bool hc15)) (d_mv (v := .string (bs m11)) rfl ?_)
          obtain ⟨m16, hm16, hr⟩ := bind_out hr
          refine da_on rfl (Eq.trans (show sl _ _ _ = .bool (icmp .gtr ((m11).length : Int) 16000) from rfl) (congrArg Value.bool hc15)) (d_cl (vs := [.string (bs m11), .string (bs ([10] : List UInt8))]) en55 (ac rfl (ac rfl rfl)) rfl ?_)
          refine (c55_s0a m11 m16 wl9 hm16 ).mono ?_
          rintro _ w17 ⟨rfl, E17⟩
          refine ⟨_, rfl, ?_⟩
          have X18 : Ext w w17 := i9_X.trans E17
          refine da_op rfl (d_pick (b := false) (Eq.trans (show ev _ _ = .bool (icmp .gtr ((m11).length : Int) 16000) from rfl) (congrArg Value.bool hc15)) ?_)
          refine da_op rfl (d_mv (v := .bool m16) rfl ?_)
          rcases Bool.eq_false_or_eq_true m16 with hc19 | hc19
          · skip
            replace hr := bif_t hr hc19
            refine da_off rfl (Eq.trans (show sl _ _ _ = .bool m16 from rfl) (congrArg Value.bool hc19)) (by decide) ?_
            refine da_off rfl (Eq.trans (show sl _ _ _ = .bool m16 from rfl) (congrArg Value.bool hc19)) (by decide) ?_
            refine da_op rfl (d_pick (b := true) (Eq.trans (show ev _ _ = .bool m16 from rfl) (congrArg Value.bool hc19)) ?_)
            refine da_nil ?_
            obtain rfl := Option.some.inj hr
            exact ⟨rfl, (Ext.trans (Ext.refl wl9) E17)⟩
          · skip
            replace hr := bif_f hr hc19
            have B21 : Bld 94 5 w.heap.size w.heap.size s9.2.2 w17 := i9_2R.ext E17
            refine da_on rfl (Eq.trans (show sl _ _ _ = .bool m16 from rfl) (congrArg Value.bool hc19)) (d_cl (vs := [.pointer (some ⟨w.heap.size, 0, none⟩)]) en56 (ac i9_S4 rfl) rfl ?_)
            refine (sh56 B21).mono ?_
            rintro _ _ ⟨rfl, rfl⟩
            refine ⟨_, rfl, ?_⟩
            refine da_on rfl (Eq.trans (show sl _ _ _ = .bool m16 from rfl) (congrArg Value.bool hc19)) (d_icmp cGtr rfl rfl ?_)
            refine da_op rfl (d_pick (b := false) (Eq.trans (show ev _ _ = .bool m16 from rfl) (congrArg Value.bool hc19)) ?_)
            refine da_nil ?_
            obtain rfl := Option.some.inj hr
            exact ⟨rfl, (Ext.trans (Ext.refl wl9) E17)⟩
      · skip
        rintro σ14 w14 o14 ⟨s25_14, E14⟩
        have s5_14 : σ14 5 = .int .i64 s9.1 := (o14 5 rfl).trans i9_S5
        have s11_14 : σ14 11 = .int .i64 s9.2.1 := (o14 11 rfl).trans i9_S11
        have s4_14 : σ14 4 = .pointer (some ⟨w.heap.size, 0, none⟩) := (o14 4 rfl).trans i9_S4
        have s9_14 : σ14 9 = (Value.slice p0a p0n p0c) := (o14 9 rfl).trans i9_S9
        have s10_14 : σ14 10 = .int .i64 ((p0).length : Int) := (o14 10 rfl).trans i9_S10
        have s7_14 : σ14 7 = .string (bs m11) := (o14 7 rfl).trans rfl
        have X22 : Ext w w14 := i9_X.trans E14
        refine W_cond (b := m14) s25_14 (fun hc23 => ?_) (fun hc23 => ?_)
        · skip
          replace hr := bif_t hr hc23
          refine W_seq ?_
          refine W_region rfl ?_
          refine da_op rfl (d_as (v := .string (bs ([] : List UInt8))) rfl ?_)
          refine da_op rfl (d_as (v := .bool false) rfl ?_)
          refine da_nil ?_
          refine W_ret ?_
          obtain rfl := Option.some.inj hr
          exact ⟨_, rfl, rfl, rfl, rfl, X22⟩
        · skip
          replace hr := bif_f hr hc23
          refine W_skip ?_
          refine W_seq ?_
          refine W_region rfl ?_
          refine da_op rfl (d_mv (v := .int .i64 s9.1) s5_14 ?_)
          refine da_op rfl (d_mv (v := .string (bs m11)) s7_14 ?_)
          obtain ⟨m24, hm24, hr⟩ := bind_out hr
          refine da_op rfl (d_cl (vs := [.int .i64 s9.1, .string (bs m11)]) en57 (ac rfl (ac rfl rfl)) rfl ?_)
          refine (c57 s9.1 m11 m24 w14 hm24 ).mono ?_
          rintro _ w25 ⟨rfl, E25⟩
          refine ⟨_, rfl, ?_⟩
          have X26 : Ext w w25 := X22.trans E25
          refine da_op rfl (d_mv (v := .tuple #[.int .i64 m24.1, .bool m24.2]) rfl ?_)
          refine da_op rfl (d_extract (v := .int .i64 m24.1) rfl rfl ?_)
          refine da_op rfl (d_extract (v := .bool m24.2) rfl rfl ?_)
          refine da_op rfl (d_as (v := .int .i64 m24.1) rfl ?_)
          refine da_nil ?_
          refine W_region rfl ?_
          refine da_op rfl (d_mv (v := .int .i64 m24.1) rfl ?_)
          obtain ⟨m27, hm27, hr⟩ := bind_out hr
          refine da_op rfl (d_cl (vs := [.int .i64 m24.1]) en59 (ac rfl rfl) rfl ?_)
          refine (c59 m24.1 m27 w25 hm27 (t_T10.ext X26)).mono ?_
          rintro _ w28 ⟨rfl, E28⟩
          refine ⟨_, rfl, ?_⟩
          have X29 : Ext w w28 := X26.trans E28
          obtain ⟨m30, hm30, hr⟩ := bind_out hr
          refine da_op rfl (d_scat rfl rfl hm30 ?_)
          refine da_op rfl (d_mv (v := .string (bs m11)) s7_14 ?_)
          obtain ⟨m31, hm31, hr⟩ := bind_out hr
          refine da_op rfl (d_scat rfl rfl hm31 ?_)
          obtain ⟨m32, hm32, hr⟩ := bind_out hr
          refine da_op rfl (d_scat rfl rfl hm32 ?_)
          have B34 : Bld 94 5 w.heap.size w.heap.size s9.2.2 w28 := ((i9_2R.ext E14).ext E25).ext E28
          obtain ⟨m35, hm35, hr⟩ := bind_out hr
          refine da_op rfl (d_cl (vs := [.pointer (some ⟨w.heap.size, 0, none⟩), .string (bs m32)]) en58 (ac s4_14 (ac rfl rfl)) rfl ?_)
          refine (sh58 B34 hm35 X29).mono ?_
          rintro _ w33 ⟨rfl, O33, E33⟩
          refine ⟨_, rfl, ?_⟩
          refine da_nil ?_
          refine W_region rfl ?_
          refine da_op rfl (d_iarith s11_14 rfl (.inl ⟨rfl, rfl⟩) ?_)
          refine da_op rfl (d_mv (v := .int .i64 (IntKind.i64.wrap (s9.2.1 + 1))) rfl ?_)
          refine da_nil ?_
          obtain rfl := Option.some.inj hr
          exact ⟨_, rfl, ⟨rfl, rfl, s4_14, s9_14, s10_14, O33, E33⟩⟩
    · skip
      replace hr := bif_f hr hc10
      refine W_exit ?_
      obtain rfl := Option.some.inj hr
      exact ⟨_, rfl, rfl, i9_S4, i9_2R, i9_X⟩
  · skip
    intro ex σx9 wx9 hq
    rcases m9 with m9 | m9
    · skip
      obtain ⟨rfl, q9_0_S4, q9_0_0R, q9_0_X⟩ := hq
      refine W_seq ?_
      refine W_seq ?_
      refine W_region rfl ?_
      refine da_op rfl (d_cl (vs := [.pointer (some ⟨w.heap.size, 0, none⟩)]) en56 (ac q9_0_S4 rfl) rfl ?_)
      refine (sh56 q9_0_0R).mono ?_
      rintro _ _ ⟨rfl, rfl⟩
      refine ⟨_, rfl, ?_⟩
      refine da_op rfl (d_icmp cGtr rfl rfl ?_)
      refine da_nil ?_
      refine W_cond (b := (icmp .gtr ((m9).length : Int) 16000)) rfl (fun hc37 => ?_) (fun hc37 => ?_)
      · skip
        replace hr := bif_t hr hc37
        refine W_seq ?_
        refine W_region rfl ?_
        refine da_op rfl (d_as (v := .string (bs ([] : List UInt8))) rfl ?_)
        refine da_op rfl (d_as (v := .bool false) rfl ?_)
        refine da_nil ?_
        refine W_ret ?_
        obtain rfl := Option.some.inj hr
        refine ⟨_, res2 (rv_tmp rfl) (rv_tmp rfl), ?_⟩
        exact ⟨rfl, q9_0_X⟩
      · skip
        replace hr := bif_f hr hc37
        refine W_skip ?_
        refine W_seq ?_
        refine W_region rfl ?_
        refine da_op rfl (d_cl (vs := [.pointer (some ⟨w.heap.size, 0, none⟩)]) en60 (ac q9_0_S4 rfl) rfl ?_)
        refine (sh60 q9_0_0R q9_0_X).mono ?_
        rintro _ w38 ⟨rfl, E38⟩
        refine ⟨_, rfl, ?_⟩
        refine da_op rfl (d_as (v := .string (bs m9)) rfl ?_)
        refine da_op rfl (d_as (v := .bool true) rfl ?_)
        refine da_nil ?_
        refine W_ret ?_
        obtain rfl := Option.some.inj hr
        refine ⟨_, res2 (rv_tmp rfl) (rv_tmp rfl), ?_⟩
        exact ⟨rfl, E38⟩
    · skip
      obtain ⟨rfl, q9_1_S2, q9_1_S3, q9_1_X⟩ := hq
      obtain rfl := Option.some.inj hr
      refine ⟨_, res2 (rv_tmp q9_1_S2) (rv_tmp q9_1_S3), ?_⟩
      exact ⟨rfl, q9_1_X⟩
set_option maxHeartbeats 4000000 in
theorem c21 (p0 : List (List UInt8)) (p1 : List (List UInt8)) (p0a : Option Addr) (p0n : Nat) (p0c : Nat) (p1a : Option Addr) (p1n : Nat) (p1c : Nat) (r : Bool) (w : World) (hr : M.laws_eqStringS p0 p1 = some r) (p0R : RS w encS (Value.slice p0a p0n p0c) p0) (p1R : RS w encS (Value.slice p1a p1n p1c) p1) :
    Calls Tryd.prog 21 #[(Value.slice p0a p0n p0c), (Value.slice p1a p1n p1c)] w fun e w' => e = .returned (.bool r) ∧ Ext w w' := by
  refine calls_of_W Tryd.func21 rfl (Nat.le_of_ble_eq_true rfl) ?_
  refine W_seq ?_
  refine W_region rfl ?_
  refine da_op rfl (d_as (v := .bool false) rfl ?_)
  refine da_nil ?_
  refine W_seq ?_
  refine W_seq ?_
  refine W_region rfl ?_
  refine da_op rfl (d_mv (v := (Value.slice p0a p0n p0c)) rfl ?_)
  refine da_op rfl (d_len (e := encS) un34 rfl p0R ?_)
  refine da_op rfl (d_mv (v := (Value.slice p1a p1n p1c)) rfl ?_)
  refine da_op rfl (d_len (e := encS) un34 rfl p1R ?_)
  refine da_op rfl (d_icmp cNeq rfl rfl ?_)
  refine da_nil ?_
  refine W_cond (b := (icmp .neq ((p0).length : Int) ((p1).length : Int))) rfl (fun hc1 => ?_) (fun hc1 => ?_)
  · skip
    replace hr := bif_t hr hc1
    refine W_seq ?_
    refine W_region rfl ?_
    refine da_op rfl (d_as (v := .bool false) rfl ?_)
    refine da_nil ?_
    refine W_ret ?_
    obtain rfl := Option.some.inj hr
    refine ⟨_, res1 (rv_tmp rfl), ?_⟩
    exact ⟨rfl, (Ext.refl w)⟩
  · skip
    replace hr := bif_f hr hc1
    refine W_skip ?_
    refine W_seq ?_
    refine W_seq ?_
    refine W_region rfl ?_
    refine da_op rfl (d_as (v := .int .i64 0) rfl ?_)
    refine da_nil ?_
    refine W_block ?_
    obtain ⟨m2, hm2, hr⟩ := bind_out hr
    refine W_loopM hm2 (fun (s2 : Int) σ w' => σ 5 = .int .i64 s2 ∧ σ 0 = (Value.slice p0a p0n p0c) ∧ σ 1 = (Value.slice p1a p1n p1c) ∧ Ext w w') (fun (e2 : (Unit ⊕ Bool)) ex σ w' => sel e2 (fun e2 => ex = .exit 0 ∧ Ext w w') (fun e2 => ex = .ret ∧ σ 4 = .bool e2 ∧ Ext w w')) ⟨rfl, rfl, rfl, (Ext.refl w)⟩ ?_ ?_
    · skip
      rintro s2 σl2 wl2 r2l ⟨i2_S5, i2_S0, i2_S1, i2_X⟩ hr
      refine W_seq ?_
      refine W_seq ?_
      refine W_region rfl ?_
      refine da_op rfl (d_mv (v := .int .i64 s2) i2_S5 ?_)
      refine da_op rfl (d_mv (v := (Value.slice p0a p0n p0c)) i2_S0 ?_)
      have B3 : RS wl2 encS (Value.slice p0a p0n p0c) p0 := p0R.ext i2_X
      refine da_op rfl (d_len (e := encS) un34 rfl B3 ?_)
      refine da_op rfl (d_icmp cLss rfl rfl ?_)
      refine da_nil ?_
      refine W_cond (b := (icmp .lss s2 ((p0).length : Int))) rfl (fun hc4 => ?_) (fun hc4 => ?_)
      · skip
        replace hr := bif_t hr hc4
        refine W_skip ?_
        refine W_seq ?_
        refine W_block ?_
        refine W_seq ?_
        have B6 : RS wl2 encS (Value.slice p1a p1n p1c) p1 := p1R.ext i2_X
        obtain ⟨m7, hm7, hr⟩ := bind_out hr
        obtain ⟨m8, hm8, hr⟩ := bind_out hr
        refine W_any [] [{ V := fun _ v _ => v = (Value.slice p0a p0n p0c) }, { V := fun _ v _ => v = (.int .i64 s2) }, { V := fun _ v _ => ∃ d5_2g : Nat, ∃ d5_2o : Nat, v = (.pointer (some ⟨d5_2g, d5_2o, none⟩)) ∧ EL encS (Value.slice p0a p0n p0c) (p0).length s2 d5_2g d5_2o }, { V := fun _ v _ => v = (.string (bs m7)) }, { V := fun _ v _ => v = (Value.slice p1a p1n p1c) }, { V := fun _ v _ => v = (.int .i64 s2) }, { V := fun _ v _ => ∃ d5_6g : Nat, ∃ d5_6o : Nat, v = (.pointer (some ⟨d5_6g, d5_6o, none⟩)) ∧ EL encS (Value.slice p1a p1n p1c) (p1).length s2 d5_6g d5_6o }, { V := fun _ v _ => v = (.string (bs m8)) }, { V := fun _ v _ => v = (.bool (!(m7 == m8))) }] mixed (by kernel_rfl) ⟨trivial, trivial, trivial, trivial, trivial, trivial, trivial, trivial, trivial, trivial⟩ ⟨?_, ?_, ?_, ?_, ?_, ?_, ?_, ?_, ?_, trivial⟩ ?_
        · skip
          refine ⟨fun _ _ _ _ _ _ h _ => h, fun _ _ h _ => h, fun σ' w' hA hE hD hP => ?_⟩
          have t0 : σ' 0 = (Value.slice p0a p0n p0c) := (hA 0 rfl).trans i2_S0
          have B0_9 : RS w' encS (Value.slice p0a p0n p0c) p0 := B3.frm hE (fun k _ hk => not_oth0)
          refine dg_op rfl (d_mv (v := (Value.slice p0a p0n p0c)) t0 ?_)
          exact ⟨rfl, own_none (Ext.refl w')⟩
        · skip
          refine ⟨fun _ _ _ _ _ _ h _ => h, fun _ _ h _ => h, fun σ' w' hA hE hD hP => ?_⟩
          have t5 : σ' 5 = .int .i64 s2 := (hA 5 rfl).trans i2_S5
          refine dg_op rfl (d_mv (v := .int .i64 s2) t5 ?_)
          exact ⟨rfl, own_none (Ext.refl w')⟩
        · skip
          refine ⟨fun _ _ _ _ _ _ h _ => h, fun _ _ h _ => h, fun σ' w' hA hE hD hP => ?_⟩
          have t17 : σ' 17 = (Value.slice p0a p0n p0c) := hD 0 rfl
          have t18 : σ' 18 = (.int .i64 s2) := hD 1 rfl
          have B0_10 : RS w' encS (Value.slice p0a p0n p0c) p0 := B3.frm hE (fun k _ hk => not_oth0)
          refine dg_op rfl (d_indexE (e := encS) (v := (Value.slice p0a p0n p0c)) un34 size9 t17 t18 B0_10 hm7 fun g11 o11 l11 => ?_)
          exact ⟨⟨g11, o11, rfl, l11⟩, own_none (Ext.refl _)⟩
        · skip
          refine ⟨fun _ _ _ _ _ _ h _ => h, fun _ _ h _ => h, fun σ' w' hA hE hD hP => ?_⟩
          obtain ⟨d5_2g, d5_2o, t19, d5_2gE⟩ : ∃ d5_2g : Nat, ∃ d5_2o : Nat, σ' 19 = (.pointer (some ⟨d5_2g, d5_2o, none⟩)) ∧ EL encS (Value.slice p0a p0n p0c) (p0).length s2 d5_2g d5_2o := hD 2 rfl
          have B0_12 : RS w' encS (Value.slice p0a p0n p0c) p0 := B3.frm hE (fun k _ hk => not_oth0)
          obtain ⟨d5_2c, d5_2T, d5_2f, d5_2vs, d5_2hg, d5_2P, d5_2hq⟩ := RS.el B0_12 d5_2gE hm7
          obtain rfl := dec_encS d5_2hq
          refine dg_op rfl (d_load (v := .string (bs m7)) t19 agg9 d5_2hg (sub_get (vs := #[.string (bs m7)]) d5_2P (i := 0) rfl) ?_)
          exact ⟨rfl, own_none (Ext.refl w')⟩
        · skip
          refine ⟨fun _ _ _ _ _ _ h _ => h, fun _ _ h _ => h, fun σ' w' hA hE hD hP => ?_⟩
          have t1 : σ' 1 = (Value.slice p1a p1n p1c) := (hA 1 rfl).trans i2_S1
          have B0_13 : RS w' encS (Value.slice p1a p1n p1c) p1 := B6.frm hE (fun k _ hk => not_oth0)
          refine dg_op rfl (d_mv (v := (Value.slice p1a p1n p1c)) t1 ?_)
          exact ⟨rfl, own_none (Ext.refl w')⟩
        · skip
          refine ⟨fun _ _ _ _ _ _ h _ => h, fun _ _ h _ => h, fun σ' w' hA hE hD hP => ?_⟩
          have t5 : σ' 5 = .int .i64 s2 := (hA 5 rfl).trans i2_S5
          refine dg_op rfl (d_mv (v := .int .i64 s2) t5 ?_)
          exact ⟨rfl, own_none (Ext.refl w')⟩
        · skip
          refine ⟨fun _ _ _ _ _ _ h _ => h, fun _ _ h _ => h, fun σ' w' hA hE hD hP => ?_⟩
          have t21 : σ' 21 = (Value.slice p1a p1n p1c) := hD 4 rfl
          have t22 : σ' 22 = (.int .i64 s2) := hD 5 rfl
          have B0_14 : RS w' encS (Value.slice p1a p1n p1c) p1 := B6.frm hE (fun k _ hk => not_oth0)
          refine dg_op rfl (d_indexE (e := encS) (v := (Value.slice p1a p1n p1c)) un34 size9 t21 t22 B0_14 hm8 fun g15 o15 l15 => ?_)
          exact ⟨⟨g15, o15, rfl, l15⟩, own_none (Ext.refl _)⟩
        · skip
          refine ⟨fun _ _ _ _ _ _ h _ => h, fun _ _ h _ => h, fun σ' w' hA hE hD hP => ?_⟩
          obtain ⟨d5_6g, d5_6o, t23, d5_6gE⟩ : ∃ d5_6g : Nat, ∃ d5_6o : Nat, σ' 23 = (.pointer (some ⟨d5_6g, d5_6o, none⟩)) ∧ EL encS (Value.slice p1a p1n p1c) (p1).length s2 d5_6g d5_6o := hD 6 rfl
          have B0_16 : RS w' encS (Value.slice p1a p1n p1c) p1 := B6.frm hE (fun k _ hk => not_oth0)
          obtain ⟨d5_6c, d5_6T, d5_6f, d5_6vs, d5_6hg, d5_6P, d5_6hq⟩ := RS.el B0_16 d5_6gE hm8
          obtain rfl := dec_encS d5_6hq
          refine dg_op rfl (d_load (v := .string (bs m8)) t23 agg9 d5_6hg (sub_get (vs := #[.string (bs m8)]) d5_6P (i := 0) rfl) ?_)
          exact ⟨rfl, own_none (Ext.refl w')⟩
        · skip
          refine ⟨fun _ _ _ _ _ _ h _ => h, fun _ _ h _ => h, fun σ' w' hA hE hD hP => ?_⟩
          have t20 : σ' 20 = (.string (bs m7)) := hD 3 rfl
          have t24 : σ' 24 = (.string (bs m8)) := hD 7 rfl
          refine dg_op rfl (d_sne t20 t24 ?_)
          exact ⟨rfl, own_none (Ext.refl w')⟩
        · skip
          intro σ5 w5 A5 E5 V5
          have E5x : Ext wl2 w5 := ext_of_oth0 E5
          have s25_5 : σ5 25 = (.bool (!(m7 == m8))) := V5 8 (Nat.le_of_ble_eq_true rfl)
          have s5_5 : σ5 5 = .int .i64 s2 := (A5 5 rfl).trans i2_S5
          have s0_5 : σ5 0 = (Value.slice p0a p0n p0c) := (A5 0 rfl).trans i2_S0
          have s1_5 : σ5 1 = (Value.slice p1a p1n p1c) := (A5 1 rfl).trans i2_S1
          have X17 : Ext w w5 := i2_X.trans E5x
          refine W_cond (b := (!(m7 == m8))) s25_5 (fun hc18 => ?_) (fun hc18 => ?_)
          · skip
            replace hr := bif_t hr hc18
            refine W_seq ?_
            refine W_region rfl ?_
            refine da_op rfl (d_as (v := .bool false) rfl ?_)
            refine da_nil ?_
            refine W_ret ?_
            obtain rfl := Option.some.inj hr
            exact ⟨_, rfl, rfl, rfl, X17⟩
          · skip
            replace hr := bif_f hr hc18
            refine W_skip ?_
            refine W_region rfl ?_
            refine da_op rfl (d_mv (v := .int .i64 s2) s5_5 ?_)
            refine da_op rfl (d_iarith rfl rfl (.inl ⟨rfl, rfl⟩) ?_)
            refine da_op rfl (d_as (v := .int .i64 (IntKind.i64.wrap (s2 + 1))) rfl ?_)
            refine da_nil ?_
            obtain rfl := Option.some.inj hr
            exact ⟨_, rfl, ⟨rfl, s0_5, s1_5, X17⟩⟩
      · skip
        replace hr := bif_f hr hc4
        refine W_exit ?_
        obtain rfl := Option.some.inj hr
        exact ⟨_, rfl, rfl, i2_X⟩
    · skip
      intro ex σx2 wx2 hq
      rcases m2 with m2 | m2
      · skip
        obtain ⟨rfl, q2_0_X⟩ := hq
        refine W_seq ?_
        refine W_region rfl ?_
        refine da_op rfl (d_as (v := .bool true) rfl ?_)
        refine da_nil ?_
        refine W_ret ?_
        obtain rfl := Option.some.inj hr
        refine ⟨_, res1 (rv_tmp rfl), ?_⟩
        exact ⟨rfl, q2_0_X⟩
      · skip
        obtain ⟨rfl, q2_1_S4, q2_1_X⟩ := hq
        obtain rfl := Option.some.inj hr
        refine ⟨_, res1 (rv_tmp q2_1_S4), ?_⟩
        exact ⟨rfl, q2_1_X⟩
set_option maxHeartbeats 4000000 in
theorem c5 (p0 : List (List UInt8)) (p0a : Option Addr) (p0n : Nat) (p0c : Nat) (r : Bool) (w : World) (hr : M.laws_FnExactJournalOf p0 = some r) (p0R : RS w encS (Value.slice p0a p0n p0c) p0) (t_T10 : T10 Tryd.prog w) :
    Calls Tryd.prog 5 #[(Value.slice p0a p0n p0c)] w fun e w' => e = .returned (.bool r) ∧ Ext w w' := by
  refine calls_of_W Tryd.func5 rfl (Nat.le_of_ble_eq_true rfl) ?_
  refine W_seq ?_
  refine W_region rfl ?_
  refine da_op rfl (d_as (v := .bool false) rfl ?_)
  refine da_nil ?_
  refine W_seq ?_
  refine W_region rfl ?_
  refine da_op rfl (d_as (v := .int .i64 1048576) rfl ?_)
  refine da_nil ?_
  refine W_seq ?_
  refine W_region rfl ?_
  refine da_op rfl (d_mv (v := (Value.slice p0a p0n p0c)) rfl ?_)
  refine da_op rfl (d_mv (v := .int .i64 1048576) rfl ?_)
  obtain ⟨m1, hm1, hr⟩ := bind_out hr
  refine da_op rfl (d_cl (vs := [(Value.slice p0a p0n p0c), .int .i64 1048576]) en17 (ac rfl (ac rfl rfl)) rfl ?_)
  refine (c17 p0 1048576 p0a p0n p0c m1 w hm1 p0R).mono ?_
  rintro _ w2 ⟨rfl, E2⟩
  refine ⟨_, rfl, ?_⟩
  have X3 : Ext w w2 := (Ext.refl w).trans E2
  refine da_op rfl (d_as (v := .int .i64 m1) rfl ?_)
  refine da_nil ?_
  refine W_seq ?_
  refine W_seq ?_
  refine W_region rfl ?_
  refine da_op rfl (d_mv (v := .int .i64 m1) rfl ?_)
  refine da_op rfl (d_icmp cLss rfl rfl ?_)
  refine da_nil ?_
  refine W_cond (b := (icmp .lss m1 0)) rfl (fun hc4 => ?_) (fun hc4 => ?_)
  · skip
    replace hr := bif_t hr hc4
    refine W_seq ?_
    refine W_region rfl ?_
    refine da_op rfl (d_as (v := .bool true) rfl ?_)
    refine da_nil ?_
    refine W_ret ?_
    obtain rfl := Option.some.inj hr
    refine ⟨_, res1 (rv_tmp rfl), ?_⟩
    exact ⟨rfl, X3⟩
  · skip
    replace hr := bif_f hr hc4
    refine W_skip ?_
    refine W_seq ?_
    refine W_region rfl ?_
    refine da_op rfl (d_mv (v := (Value.slice p0a p0n p0c)) rfl ?_)
    obtain ⟨m5, hm5, hr⟩ := bind_out hr
    have B6 : RS w2 encS (Value.slice p0a p0n p0c) p0 := p0R.ext X3
    refine da_op rfl (d_cl (vs := [(Value.slice p0a p0n p0c)]) en19 (ac rfl rfl) rfl ?_)
    refine (c19 p0 p0a p0n p0c m5 w2 hm5 B6).mono ?_
    rintro _ w7 ⟨q7_0a, q7_0n, q7_0c, rfl, q7_0R, q7_0F, E7⟩
    refine ⟨_, rfl, ?_⟩
    have own8 : ∀ k, (Value.slice q7_0a q7_0n q7_0c).ownBlock = some k → w.heap.size ≤ k := fun k hk => Nat.le_trans X3.size (q7_0F k hk)
    have X9 : Ext w w7 := X3.trans E7
    obtain ⟨m10, hm10, hr⟩ := bind_out hr
    refine da_op rfl (d_cl (vs := [(Value.slice q7_0a q7_0n q7_0c)]) en18 (ac rfl rfl) rfl ?_)
    refine (c18 m5 q7_0a q7_0n q7_0c m10 w7 hm10 q7_0R.rs).mono ?_
    rintro _ w11 ⟨rfl, E11⟩
    refine ⟨_, rfl, ?_⟩
    have X12 : Ext w w11 := X9.trans E11
    refine da_op rfl (d_mv (v := .tuple #[.string (bs m10.1), .bool m10.2]) rfl ?_)
    refine da_op rfl (d_extract (v := .string (bs m10.1)) rfl rfl ?_)
    refine da_op rfl (d_extract (v := .bool m10.2) rfl rfl ?_)
    refine da_op rfl (d_as (v := .string (bs m10.1)) rfl ?_)
    refine da_op rfl (d_as (v := .bool m10.2) rfl ?_)
    refine da_nil ?_
    refine W_seq ?_
    refine W_region rfl ?_
    refine da_op rfl (d_mv (v := (Value.slice p0a p0n p0c)) rfl ?_)
    obtain ⟨m13, hm13, hr⟩ := bind_out hr
    have B14 : RS w11 encS (Value.slice p0a p0n p0c) p0 := p0R.ext X12
    refine da_op rfl (d_cl (vs := [(Value.slice p0a p0n p0c)]) en19 (ac rfl rfl) rfl ?_)
    refine (c19 p0 p0a p0n p0c m13 w11 hm13 B14).mono ?_
    rintro _ w15 ⟨q15_0a, q15_0n, q15_0c, rfl, q15_0R, q15_0F, E15⟩
    refine ⟨_, rfl, ?_⟩
    have own16 : ∀ k, (Value.slice q15_0a q15_0n q15_0c).ownBlock = some k → w.heap.size ≤ k := fun k hk => Nat.le_trans X12.size (q15_0F k hk)
    have X17 : Ext w w15 := X12.trans E15
    refine da_op rfl (d_as (v := (Value.slice q15_0a q15_0n q15_0c)) rfl ?_)
    refine da_nil ?_
    refine W_seq ?_
    refine W_region rfl ?_
    refine da_op rfl (d_mv (v := (Value.slice q15_0a q15_0n q15_0c)) rfl ?_)
    obtain ⟨m18, hm18, hr⟩ := bind_out hr
    refine da_op rfl (d_cl (vs := [(Value.slice q15_0a q15_0n q15_0c)]) en20 (ac rfl rfl) rfl ?_)
    refine (c20 m13 q15_0a q15_0n q15_0c m18 w15 hm18 q15_0R.rs (t_T10.ext X17)).mono ?_
    rintro _ w19 ⟨rfl, E19⟩
    refine ⟨_, rfl, ?_⟩
    have X20 : Ext w w19 := X17.trans E19
    refine da_op rfl (d_mv (v := .tuple #[.string (bs m18.1), .bool m18.2]) rfl ?_)
    refine da_op rfl (d_extract (v := .string (bs m18.1)) rfl rfl ?_)
    refine da_op rfl (d_extract (v := .bool m18.2) rfl rfl ?_)
    refine da_op rfl (d_as (v := .string (bs m18.1)) rfl ?_)
    refine da_op rfl (d_as (v := .bool m18.2) rfl ?_)
    refine da_nil ?_
    refine W_seq ?_
    refine W_seq ?_
    have B22 : OS w19 9 encS (Value.slice q15_0a q15_0n q15_0c) m13 := q15_0R.ext E19
    obtain ⟨m21, hm21, hr⟩ := letv_out hr
    refine W_cut (fun σ' w' => σ' 34 = .bool m21 ∧ Ext w19 w') rfl ?_ ?_
    · skip
      have hr := hm21
      refine da_op rfl (d_mv (v := .string (bs m18.1)) rfl ?_)
      refine da_op rfl (d_mv (v := .string (bs m10.1)) rfl ?_)
      refine da_op rfl (d_sne rfl rfl ?_)
      refine da_op rfl (d_mv (v := .bool (!(m18.1 == m10.1))) rfl ?_)
      rcases Bool.eq_false_or_eq_true (m18.1 == m10.1) with hc23 | hc23
      · skip
        replace hr := bif_t hr hc23
        refine da_on rfl (Eq.trans (show sl _ _ _ = .bool (!(m18.1 == m10.1)) from rfl) (congrArg Value.bool (congrArg not hc23))) (d_mv (v := .bool m18.2) rfl ?_)
        refine da_on rfl (Eq.trans (show sl _ _ _ = .bool (!(m18.1 == m10.1)) from rfl) (congrArg Value.bool (congrArg not hc23))) (d_mv (v := .bool m10.2) rfl ?_)
        refine da_on rfl (Eq.trans (show sl _ _ _ = .bool (!(m18.1 == m10.1)) from rfl) (congrArg Value.bool (congrArg not hc23))) (d_bne un4 rfl rfl ?_)
        refine da_op rfl (d_pick (b := false) (Eq.trans (show ev _ _ = .bool (!(m18.1 == m10.1)) from rfl) (congrArg Value.bool (congrArg not hc23))) ?_)
        refine da_nil ?_
        subst hr
        exact ⟨rfl, (Ext.refl w19)⟩
      · skip
        replace hr := bif_f hr hc23
        refine da_off rfl (Eq.trans (show sl _ _ _ = .bool (!(m18.1 == m10.1)) from rfl) (congrArg Value.bool (congrArg not hc23))) (by decide) ?_
        refine da_off rfl (Eq.trans (show sl _ _ _ = .bool (!(m18.1 == m10.1)) from rfl) (congrArg Value.bool (congrArg not hc23))) (by decide) ?_
        refine da_off rfl (Eq.trans (show sl _ _ _ = .bool (!(m18.1 == m10.1)) from rfl) (congrArg Value.bool (congrArg not hc23))) (by decide) ?_
        refine da_op rfl (d_pick (b := true) (Eq.trans (show ev _ _ = .bool (!(m18.1 == m10.1)) from rfl) (congrArg Value.bool (congrArg not hc23))) ?_)
        refine da_nil ?_
        subst hr
        exact ⟨rfl, (Ext.refl w19)⟩
    · skip
      rintro σ21 w21 o21 ⟨s34_21, E21⟩
      have s0_21 : σ21 0 = (Value.slice p0a p0n p0c) := (o21 0 rfl).trans rfl
      have s6_21 : σ21 6 = (Value.slice q15_0a q15_0n q15_0c) := (o21 6 rfl).trans rfl
      have X24 : Ext w w21 := X20.trans E21
      refine W_cond (b := m21) s34_21 (fun hc25 => ?_) (fun hc25 => ?_)
      · skip
        replace hr := bif_t hr hc25
        refine W_seq ?_
        refine W_region rfl ?_
        refine da_op rfl (d_as (v := .bool false) rfl ?_)
        refine da_nil ?_
        refine W_ret ?_
        obtain rfl := Option.some.inj hr
        refine ⟨_, res1 (rv_tmp rfl), ?_⟩
        exact ⟨rfl, X24⟩
      · skip
        replace hr := bif_f hr hc25
        refine W_skip ?_
        refine W_seq ?_
        refine W_seq ?_
        refine W_region rfl ?_
        refine da_op rfl (d_mv (v := (Value.slice q15_0a q15_0n q15_0c)) s6_21 ?_)
        refine da_op rfl (d_mv (v := (Value.slice p0a p0n p0c)) s0_21 ?_)
        obtain ⟨m26, hm26, hr⟩ := bind_out hr
        have B27 : RS w21 encS (Value.slice p0a p0n p0c) p0 := p0R.ext X24
        have B28 : OS w21 9 encS (Value.slice q15_0a q15_0n q15_0c) m13 := B22.ext E21
        refine da_op rfl (d_cl (vs := [(Value.slice p0a p0n p0c)]) en19 (ac rfl rfl) rfl ?_)
        refine (c19 p0 p0a p0n p0c m26 w21 hm26 B27).mono ?_
        rintro _ w29 ⟨q29_0a, q29_0n, q29_0c, rfl, q29_0R, q29_0F, E29⟩
        refine ⟨_, rfl, ?_⟩
        have own30 : ∀ k, (Value.slice q29_0a q29_0n q29_0c).ownBlock = some k → w.heap.size ≤ k := fun k hk => Nat.le_trans X24.size (q29_0F k hk)
        have sp31 : ∀ k, (Value.slice q15_0a q15_0n q15_0c).ownBlock = some k → ¬ (Value.slice q29_0a q29_0n q29_0c).ownBlock = some k := apart_fresh B28 q29_0F
        have X32 : Ext w w29 := X24.trans E29
        obtain ⟨m33, hm33, hr⟩ := bind_out hr
        have B34 : OS w29 9 encS (Value.slice q15_0a q15_0n q15_0c) m13 := B28.ext E29
        refine da_op rfl (d_cl (vs := [(Value.slice q15_0a q15_0n q15_0c), (Value.slice q29_0a q29_0n q29_0c)]) en21 (ac rfl (ac rfl rfl)) rfl ?_)
        refine (c21 m13 m26 q15_0a q15_0n q15_0c q29_0a q29_0n q29_0c m33 w29 hm33 B34.rs q29_0R.rs).mono ?_
        rintro _ w35 ⟨rfl, E35⟩
        refine ⟨_, rfl, ?_⟩
        have X36 : Ext w w35 := X32.trans E35
        refine da_op rfl (d_not rfl ?_)
        refine da_nil ?_
        refine W_cond (b := (!m33)) rfl (fun hc37 => ?_) (fun hc37 => ?_)
        · skip
          replace hr := bif_t hr hc37
          refine W_seq ?_
          refine W_region rfl ?_
          refine da_op rfl (d_as (v := .bool false) rfl ?_)
          refine da_nil ?_
          refine W_ret ?_
          obtain rfl := Option.some.inj hr
          refine ⟨_, res1 (rv_tmp rfl), ?_⟩
          exact ⟨rfl, X36⟩
        · skip
          replace hr := bif_f hr hc37
          refine W_skip ?_
          refine W_seq ?_
          refine W_region rfl ?_
          refine da_op rfl (d_as (v := .bool true) rfl ?_)
          refine da_nil ?_
          refine W_ret ?_
          obtain rfl := Option.some.inj hr
          refine ⟨_, res1 (rv_tmp rfl), ?_⟩
          exact ⟨rfl, X36⟩
end Go.Proofs
