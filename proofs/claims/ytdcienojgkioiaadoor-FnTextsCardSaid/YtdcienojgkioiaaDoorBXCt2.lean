import Derived.Test.YtdcienojgkioiaaDoorBXCt1
namespace Go.Proofs
open Go Go.Fl Go.RowKit Go.Rg
set_option maxRecDepth 100000
set_option linter.unusedVariables false
attribute [local irreducible] Go.Calls doAll Does DoesG W Wr
set_option maxHeartbeats 4000000 in
theorem c46 (p0 : List UInt8) (r : List Int × Bool) (w : World) (hr : M.impl_ReadList p0 = some r) (t_TSyn : TSyn Tryd.prog w) (t_TRan : TRan Tryd.prog w) (t_T10 : T10 Tryd.prog w) :
    Calls Tryd.prog 46 #[.string (bs p0)] w fun e w' => ∃ q0a : Option Addr, ∃ q0n : Nat, ∃ q0c : Nat, e = .returned (.tuple #[(Value.slice q0a q0n q0c), .bool r.2]) ∧ OS w' 2 encI_i64 (Value.slice q0a q0n q0c) r.1 ∧ (∀ k, (Value.slice q0a q0n q0c).ownBlock = some k → w.heap.size ≤ k) ∧ Ext w w' := by
  refine calls_of_W Tryd.func46 rfl (Nat.le_of_ble_eq_true rfl) ?_
  refine W_seq ?_
  refine W_region rfl ?_
  refine da_op rfl (d_as (v := .slice none 0 0) rfl ?_)
  refine da_op rfl (d_as (v := .bool false) rfl ?_)
  refine da_nil ?_
  refine W_seq ?_
  refine W_region rfl ?_
  refine da_op rfl (d_bslice0 un81 size2 fun w1 B1 E1 => ?_)
  have fr1 : ∀ k, (Value.slice (some ⟨w.heap.size, 0, none⟩) 0 0).ownBlock = some k → w.heap.size ≤ k := fun k hk => by cases hk; exact Nat.le_refl _
  have own1 : ∀ k, (Value.slice (some ⟨w.heap.size, 0, none⟩) 0 0).ownBlock = some k → w.heap.size ≤ k := fun k hk => Nat.le_trans (Ext.refl w).size (fr1 k hk)
  have X2 : Ext w w1 := (Ext.refl w).trans E1
  have O1 : OS w1 2 encI_i64 (Value.slice (some ⟨w.heap.size, 0, none⟩) 0 0) ([] : List Int) := OS.box (xs := ([] : List Int)) B1 rfl (Nat.le_of_ble_eq_true rfl)
  refine da_op rfl (d_as (v := (Value.slice (some ⟨w.heap.size, 0, none⟩) 0 0)) rfl ?_)
  refine da_nil ?_
  refine W_seq ?_
  refine W_seq ?_
  refine W_region rfl ?_
  refine da_op rfl (d_mv (v := .string (bs p0)) rfl ?_)
  obtain ⟨m3, hm3, hr⟩ := bind_out hr
  refine da_op rfl (d_cl (vs := [.string (bs p0)]) en100 (ac rfl rfl) rfl ?_)
  refine (c100 p0 m3 w1 hm3 ).mono ?_
  rintro _ w4 ⟨q4_0a, q4_0n, q4_0c, rfl, q4_0R, q4_0F, E4⟩
  refine ⟨_, rfl, ?_⟩
  have own5 : ∀ k, (Value.slice q4_0a q4_0n q4_0c).ownBlock = some k → w.heap.size ≤ k := fun k hk => Nat.le_trans X2.size (q4_0F k hk)
  have sp6 : ∀ k, (Value.slice (some ⟨w.heap.size, 0, none⟩) 0 0).ownBlock = some k → ¬ (Value.slice q4_0a q4_0n q4_0c).ownBlock = some k := apart_fresh O1 q4_0F
  have X7 : Ext w w4 := X2.trans E4
  refine da_op rfl (d_len (e := encS) un34 rfl q4_0R ?_)
  refine da_op rfl (d_mv (v := .int .i64 0) rfl ?_)
  refine da_nil ?_
  refine W_block ?_
  have B9 : OS w4 2 encI_i64 (Value.slice (some ⟨w.heap.size, 0, none⟩) 0 0) ([] : List Int) := O1.ext E4
  obtain ⟨m8, hm8, hr⟩ := bind_out hr
  refine W_loopM hm8 (fun (s8 : List Int × Int) σ w' => ∃ i8_0a : Option Addr, ∃ i8_0n : Nat, ∃ i8_0c : Nat, σ 4 = (Value.slice i8_0a i8_0n i8_0c) ∧ σ 13 = .int .i64 s8.2 ∧ σ 11 = (Value.slice q4_0a q4_0n q4_0c) ∧ σ 12 = .int .i64 ((m3).length : Int) ∧ OS w' 2 encI_i64 (Value.slice i8_0a i8_0n i8_0c) s8.1 ∧ (∀ k, (Value.slice i8_0a i8_0n i8_0c).ownBlock = some k → w.heap.size ≤ k) ∧ RS w' encS (Value.slice q4_0a q4_0n q4_0c) m3 ∧ (∀ k, (Value.slice q4_0a q4_0n q4_0c).ownBlock = some k → ¬ (Value.slice i8_0a i8_0n i8_0c).ownBlock = some k) ∧ Ext w w') (fun (e8 : ((List Int) ⊕ (List Int × Bool))) ex σ w' => sel e8 (fun e8 => ex = .exit 0 ∧ ∃ q8_0_0a : Option Addr, ∃ q8_0_0n : Nat, ∃ q8_0_0c : Nat, σ 4 = (Value.slice q8_0_0a q8_0_0n q8_0_0c) ∧ OS w' 2 encI_i64 (Value.slice q8_0_0a q8_0_0n q8_0_0c) e8 ∧ (∀ k, (Value.slice q8_0_0a q8_0_0n q8_0_0c).ownBlock = some k → w.heap.size ≤ k) ∧ Ext w w') (fun e8 => ex = .ret ∧ ∃ q8_1_0a : Option Addr, ∃ q8_1_0n : Nat, ∃ q8_1_0c : Nat, σ 2 = (Value.slice q8_1_0a q8_1_0n q8_1_0c) ∧ σ 3 = .bool e8.2 ∧ OS w' 2 encI_i64 (Value.slice q8_1_0a q8_1_0n q8_1_0c) e8.1 ∧ (∀ k, (Value.slice q8_1_0a q8_1_0n q8_1_0c).ownBlock = some k → w.heap.size ≤ k) ∧ Ext w w')) ⟨(some ⟨w.heap.size, 0, none⟩), 0, 0, rfl, rfl, rfl, rfl, B9, own1, q4_0R, (apart_symm sp6), X7⟩ ?_ ?_
  · skip
    rintro s8 σl8 wl8 r8l ⟨i8_0a, i8_0n, i8_0c, i8_S4, i8_S13, i8_S11, i8_S12, i8_0R, i8_0O, i8_K0, i8_A0, i8_X⟩ hr
    refine W_seq ?_
    refine W_region rfl ?_
    refine da_op rfl (d_icmp cLss i8_S13 i8_S12 ?_)
    refine da_nil ?_
    refine W_seq ?_
    refine W_cond (b := (icmp .lss s8.2 ((m3).length : Int))) rfl (fun hc10 => ?_) (fun hc10 => ?_)
    · skip
      replace hr := bif_t hr hc10
      refine W_skip ?_
      refine W_seq ?_
      refine W_block ?_
      refine W_seq ?_
      refine W_region rfl ?_
      obtain ⟨m11, hm11, hr⟩ := bind_out hr
      refine da_op rfl (d_index (e := encS) (v := (Value.slice q4_0a q4_0n q4_0c)) un34 size9 i8_S11 i8_S13 i8_K0 hm11 fun g12 o12 cu12 T12 fr12 vs12 hv12 hg12 hp12 hq12 => ?_)
      obtain rfl := dec_encS hq12
      refine da_op rfl (d_load (v := .string (bs m11)) rfl agg9 hg12 (sub_get (vs := #[.string (bs m11)]) hp12 (i := 0) rfl) ?_)
      refine da_op rfl (d_as (v := .string (bs m11)) rfl ?_)
      refine da_nil ?_
      refine W_seq ?_
      refine W_region rfl ?_
      refine da_op rfl (d_mv (v := .string (bs m11)) rfl ?_)
      obtain ⟨m13, hm13, hr⟩ := bind_out hr
      refine da_op rfl (d_cl (vs := [.string (bs m11)]) en104 (ac rfl rfl) rfl ?_)
      refine (c104 m11 m13 wl8 hm13 (t_TSyn.ext i8_X) (t_TRan.ext i8_X) (t_T10.ext i8_X)).mono ?_
      rintro _ w14 ⟨rfl, E14⟩
      refine ⟨_, rfl, ?_⟩
      have X15 : Ext w w14 := i8_X.trans E14
      refine da_op rfl (d_mv (v := .tuple #[.int .i64 m13.1, .bool m13.2]) rfl ?_)
      refine da_op rfl (d_extract (v := .int .i64 m13.1) rfl rfl ?_)
      refine da_op rfl (d_extract (v := .bool m13.2) rfl rfl ?_)
      refine da_op rfl (d_as (v := .int .i64 m13.1) rfl ?_)
      refine da_op rfl (d_as (v := .bool m13.2) rfl ?_)
      refine da_nil ?_
      refine W_seq ?_
      refine W_seq ?_
      have B17 : RS w14 encS (Value.slice q4_0a q4_0n q4_0c) m3 := i8_K0.ext E14
      have B18 : OS w14 2 encI_i64 (Value.slice i8_0a i8_0n i8_0c) s8.1 := i8_0R.ext E14
      obtain ⟨m16, hm16, hr⟩ := letv_out hr
      refine W_cut (fun σ' w' => σ' 28 = .bool m16 ∧ Ext w14 w') rfl ?_ ?_
      · skip
        have hr := hm16
        refine da_op rfl (d_mv (v := .bool m13.2) rfl ?_)
        refine da_op rfl (d_not rfl ?_)
        refine da_op rfl (d_mv (v := .bool (!m13.2)) rfl ?_)
        rcases Bool.eq_false_or_eq_true m13.2 with hc19 | hc19
        · skip
          replace hr := bif_t hr hc19
          refine da_on rfl (Eq.trans (show sl _ _ _ = .bool (!m13.2) from rfl) (congrArg Value.bool (congrArg not hc19))) (d_mv (v := (Value.slice i8_0a i8_0n i8_0c)) i8_S4 ?_)
          refine da_on rfl (Eq.trans (show sl _ _ _ = .bool (!m13.2) from rfl) (congrArg Value.bool (congrArg not hc19))) (d_len (e := encI_i64) un81 rfl B18.rs ?_)
          refine da_on rfl (Eq.trans (show sl _ _ _ = .bool (!m13.2) from rfl) (congrArg Value.bool (congrArg not hc19))) (d_icmp cEql rfl rfl ?_)
          refine da_op rfl (d_pick (b := false) (Eq.trans (show ev _ _ = .bool (!m13.2) from rfl) (congrArg Value.bool (congrArg not hc19))) ?_)
          refine da_nil ?_
          subst hr
          exact ⟨rfl, (Ext.refl w14)⟩
        · skip
          replace hr := bif_f hr hc19
          refine da_off rfl (Eq.trans (show sl _ _ _ = .bool (!m13.2) from rfl) (congrArg Value.bool (congrArg not hc19))) (by decide) ?_
          refine da_off rfl (Eq.trans (show sl _ _ _ = .bool (!m13.2) from rfl) (congrArg Value.bool (congrArg not hc19))) (by decide) ?_
          refine da_off rfl (Eq.trans (show sl _ _ _ = .bool (!m13.2) from rfl) (congrArg Value.bool (congrArg not hc19))) (by decide) ?_
          refine da_op rfl (d_pick (b := true) (Eq.trans (show ev _ _ = .bool (!m13.2) from rfl) (congrArg Value.bool (congrArg not hc19))) ?_)
          refine da_nil ?_
          subst hr
          exact ⟨rfl, (Ext.refl w14)⟩
      · skip
        rintro σ16 w16 o16 ⟨s28_16, E16⟩
        have s4_16 : σ16 4 = (Value.slice i8_0a i8_0n i8_0c) := (o16 4 rfl).trans i8_S4
        have s13_16 : σ16 13 = .int .i64 s8.2 := (o16 13 rfl).trans i8_S13
        have s11_16 : σ16 11 = (Value.slice q4_0a q4_0n q4_0c) := (o16 11 rfl).trans i8_S11
        have s12_16 : σ16 12 = .int .i64 ((m3).length : Int) := (o16 12 rfl).trans i8_S12
        have s7_16 : σ16 7 = .int .i64 m13.1 := (o16 7 rfl).trans rfl
        have X20 : Ext w w16 := X15.trans E16
        refine W_cond (b := m16) s28_16 (fun hc21 => ?_) (fun hc21 => ?_)
        · skip
          replace hr := bif_t hr hc21
          refine W_seq ?_
          refine W_region rfl ?_
          refine da_op rfl (d_as (v := .slice none 0 0) rfl ?_)
          refine da_op rfl (d_as (v := .bool false) rfl ?_)
          refine da_nil ?_
          refine W_ret ?_
          obtain rfl := Option.some.inj hr
          exact ⟨_, rfl, rfl, none, 0, 0, rfl, rfl, (OS.nil _ 2 encI_i64), (fun k hk => by cases hk), X20⟩
        · skip
          replace hr := bif_f hr hc21
          refine W_skip ?_
          refine W_region rfl ?_
          refine da_op rfl (d_mv (v := (Value.slice i8_0a i8_0n i8_0c)) s4_16 ?_)
          refine da_op rfl (d_mv (v := .int .i64 m13.1) s7_16 ?_)
          have B23 : RS w16 encS (Value.slice q4_0a q4_0n q4_0c) m3 := B17.ext E16
          have B24 : OS w16 2 encI_i64 (Value.slice i8_0a i8_0n i8_0c) s8.1 := B18.ext E16
          refine da_op rfl (d_bslice (vs := [(0, .int .i64 m13.1)]) (cs := #[.int .i64 m13.1]) un81 (pc rfl rfl) (by kernel_rfl) fun w22 B22 E22 => ?_)
          have fr22 : ∀ k, (Value.slice (some ⟨w16.heap.size, 0, none⟩) 1 1).ownBlock = some k → w16.heap.size ≤ k := fun k hk => by cases hk; exact Nat.le_refl _
          have own22 : ∀ k, (Value.slice (some ⟨w16.heap.size, 0, none⟩) 1 1).ownBlock = some k → w.heap.size ≤ k := fun k hk => Nat.le_trans X20.size (fr22 k hk)
          have sp25 : ∀ k, (Value.slice q4_0a q4_0n q4_0c).ownBlock = some k → ¬ (Value.slice (some ⟨w16.heap.size, 0, none⟩) 1 1).ownBlock = some k := apart_freshR B23 fr22
          have sp26 : ∀ k, (Value.slice i8_0a i8_0n i8_0c).ownBlock = some k → ¬ (Value.slice (some ⟨w16.heap.size, 0, none⟩) 1 1).ownBlock = some k := apart_fresh B24 fr22
          have X27 : Ext w w22 := X20.trans E22
          have O22 : OS w22 2 encI_i64 (Value.slice (some ⟨w16.heap.size, 0, none⟩) 1 1) [m13.1] := OS.box (xs := [m13.1]) B22 (lc_v rfl rfl) (Nat.le_of_ble_eq_true rfl)
          obtain ⟨m28, hm28, hr⟩ := bind_out hr
          have B29 : OS w22 2 encI_i64 (Value.slice i8_0a i8_0n i8_0c) s8.1 := B24.ext E22
          have B30 : RS w22 encS (Value.slice q4_0a q4_0n q4_0c) m3 := B23.ext E22
          refine da_op rfl (d_append (e := encI_i64) (v := (Value.slice i8_0a i8_0n i8_0c)) (y := (Value.slice (some ⟨w16.heap.size, 0, none⟩) 1 1)) un81 info2 rfl (by kernel_rfl) (by kernel_rfl) (by decide) (by decide) rfl rfl B29 O22.rs hm28 fun v31 w31 O31 Fm31 at_31 nl31 => ?_)
          obtain ⟨v31pa, v31pn, v31pc, rfl⟩ := O31.vals
          have own31 : ∀ k, (Value.slice v31pa v31pn v31pc).ownBlock = some k → w.heap.size ≤ k := app_own (w := w22) at_31 i8_0O X27.size
          have sp32 : ∀ k, (Value.slice q4_0a q4_0n q4_0c).ownBlock = some k → ¬ (Value.slice v31pa v31pn v31pc).ownBlock = some k := app_nrR at_31 i8_A0 B30
          have sp33 : ∀ k, (Value.slice (some ⟨w16.heap.size, 0, none⟩) 1 1).ownBlock = some k → ¬ (Value.slice v31pa v31pn v31pc).ownBlock = some k := app_nr at_31 (apart_symm sp26) O22
          have X34 : Ext w w31 := Ext.step X27 Fm31 (fun k _ hk => i8_0O k hk)
          refine da_op rfl (d_as (v := (Value.slice v31pa v31pn v31pc)) rfl ?_)
          refine da_nil ?_
          refine W_region rfl ?_
          refine da_op rfl (d_iarith s13_16 rfl (.inl ⟨rfl, rfl⟩) ?_)
          refine da_op rfl (d_mv (v := .int .i64 (IntKind.i64.wrap (s8.2 + 1))) rfl ?_)
          refine da_nil ?_
          have B35 : RS w31 encS (Value.slice q4_0a q4_0n q4_0c) m3 := B30.frm Fm31 (fun k _ => i8_A0 k)
          obtain rfl := Option.some.inj hr
          exact ⟨_, rfl, ⟨v31pa, v31pn, v31pc, rfl, rfl, s11_16, s12_16, O31, own31, B35, sp32, X34⟩⟩
    · skip
      replace hr := bif_f hr hc10
      refine W_exit ?_
      obtain rfl := Option.some.inj hr
      exact ⟨_, rfl, rfl, i8_0a, i8_0n, i8_0c, i8_S4, i8_0R, i8_0O, i8_X⟩
  · skip
    intro ex σx8 wx8 hq
    rcases m8 with m8 | m8
    · skip
      obtain ⟨rfl, q8_0_0a, q8_0_0n, q8_0_0c, q8_0_S4, q8_0_0R, q8_0_0O, q8_0_X⟩ := hq
      refine W_seq ?_
      refine W_region rfl ?_
      refine da_op rfl (d_mv (v := (Value.slice q8_0_0a q8_0_0n q8_0_0c)) q8_0_S4 ?_)
      refine da_op rfl (d_as (v := (Value.slice q8_0_0a q8_0_0n q8_0_0c)) rfl ?_)
      refine da_op rfl (d_as (v := .bool true) rfl ?_)
      refine da_nil ?_
      refine W_ret ?_
      obtain rfl := Option.some.inj hr
      refine ⟨_, res2 (rv_tmp rfl) (rv_tmp rfl), ?_⟩
      exact ⟨q8_0_0a, q8_0_0n, q8_0_0c, rfl, q8_0_0R, q8_0_0O, q8_0_X⟩
    · skip
      obtain ⟨rfl, q8_1_0a, q8_1_0n, q8_1_0c, q8_1_S2, q8_1_S3, q8_1_0R, q8_1_0O, q8_1_X⟩ := hq
      obtain rfl := Option.some.inj hr
      refine ⟨_, res2 (rv_tmp q8_1_S2) (rv_tmp q8_1_S3), ?_⟩
      exact ⟨q8_1_0a, q8_1_0n, q8_1_0c, rfl, q8_1_0R, q8_1_0O, q8_1_X⟩
set_option maxHeartbeats 4000000 in
theorem c47 (p0 : List Int) (p1 : List Int) (p0a : Option Addr) (p0n : Nat) (p0c : Nat) (p1a : Option Addr) (p1n : Nat) (p1c : Nat) (r : Bool) (w : World) (hr : M.laws_b10Nums p0 p1 = some r) (p0R : RS w encI_i64 (Value.slice p0a p0n p0c) p0) (p1R : RS w encI_i64 (Value.slice p1a p1n p1c) p1) :
    Calls Tryd.prog 47 #[(Value.slice p0a p0n p0c), (Value.slice p1a p1n p1c)] w fun e w' => e = .returned (.bool r) ∧ Ext w w' := by
  refine calls_of_W Tryd.func47 rfl (Nat.le_of_ble_eq_true rfl) ?_
  refine W_seq ?_
  refine W_region rfl ?_
  refine da_op rfl (d_as (v := .bool false) rfl ?_)
  refine da_nil ?_
  refine W_seq ?_
  refine W_seq ?_
  refine W_region rfl ?_
  refine da_op rfl (d_mv (v := (Value.slice p0a p0n p0c)) rfl ?_)
  refine da_op rfl (d_len (e := encI_i64) un81 rfl p0R ?_)
  refine da_op rfl (d_mv (v := (Value.slice p1a p1n p1c)) rfl ?_)
  refine da_op rfl (d_len (e := encI_i64) un81 rfl p1R ?_)
  refine da_op rfl (d_icmp cNeq rfl rfl ?_)
  refine da_nil ?_
  refine W_cond (b := (icmp .neq ((p0).length : Int) ((p1).length : Int))) rfl (fun hc1 => ?_) (fun hc1 => ?_)
  · skip
    replace hr := bif_t hr hc1
    refine W_seq ?_
    refine W_region rfl ?_
    refine da_op rfl (d_as (v := .bool false) rfl ?_)
    refine da_nil ?_
    refine W_ret ?_
    obtain rfl := Option.some.inj hr
    refine ⟨_, res1 (rv_tmp rfl), ?_⟩
    exact ⟨rfl, (Ext.refl w)⟩
  · skip
    replace hr := bif_f hr hc1
    refine W_skip ?_
    refine W_seq ?_
    refine W_seq ?_
    refine W_region rfl ?_
    refine da_op rfl (d_as (v := .int .i64 0) rfl ?_)
    refine da_nil ?_
    refine W_block ?_
    obtain ⟨m2, hm2, hr⟩ := bind_out hr
    refine W_loopM hm2 (fun (s2 : Int) σ w' => σ 5 = .int .i64 s2 ∧ σ 0 = (Value.slice p0a p0n p0c) ∧ σ 1 = (Value.slice p1a p1n p1c) ∧ Ext w w') (fun (e2 : (Unit ⊕ Bool)) ex σ w' => sel e2 (fun e2 => ex = .exit 0 ∧ Ext w w') (fun e2 => ex = .ret ∧ σ 4 = .bool e2 ∧ Ext w w')) ⟨rfl, rfl, rfl, (Ext.refl w)⟩ ?_ ?_
    · skip
      rintro s2 σl2 wl2 r2l ⟨i2_S5, i2_S0, i2_S1, i2_X⟩ hr
      refine W_seq ?_
      refine W_seq ?_
      refine W_region rfl ?_
      refine da_op rfl (d_mv (v := .int .i64 s2) i2_S5 ?_)
      refine da_op rfl (d_mv (v := (Value.slice p0a p0n p0c)) i2_S0 ?_)
      have B3 : RS wl2 encI_i64 (Value.slice p0a p0n p0c) p0 := p0R.ext i2_X
      refine da_op rfl (d_len (e := encI_i64) un81 rfl B3 ?_)
      refine da_op rfl (d_icmp cLss rfl rfl ?_)
      refine da_nil ?_
      refine W_cond (b := (icmp .lss s2 ((p0).length : Int))) rfl (fun hc4 => ?_) (fun hc4 => ?_)
      · skip
        replace hr := bif_t hr hc4
        refine W_skip ?_
        refine W_seq ?_
        refine W_block ?_
        refine W_seq ?_
        have B6 : RS wl2 encI_i64 (Value.slice p1a p1n p1c) p1 := p1R.ext i2_X
        obtain ⟨m7, hm7, hr⟩ := bind_out hr
        obtain ⟨m8, hm8, hr⟩ := bind_out hr
        refine W_any [] [{ V := fun _ v _ => v = (Value.slice p0a p0n p0c) }, { V := fun _ v _ => v = (.int .i64 s2) }, { V := fun _ v _ => ∃ d5_2g : Nat, ∃ d5_2o : Nat, v = (.pointer (some ⟨d5_2g, d5_2o, none⟩)) ∧ EL encI_i64 (Value.slice p0a p0n p0c) (p0).length s2 d5_2g d5_2o }, { V := fun _ v _ => v = (.int .i64 m7) }, { V := fun _ v _ => v = (Value.slice p1a p1n p1c) }, { V := fun _ v _ => v = (.int .i64 s2) }, { V := fun _ v _ => ∃ d5_6g : Nat, ∃ d5_6o : Nat, v = (.pointer (some ⟨d5_6g, d5_6o, none⟩)) ∧ EL encI_i64 (Value.slice p1a p1n p1c) (p1).length s2 d5_6g d5_6o }, { V := fun _ v _ => v = (.int .i64 m8) }, { V := fun _ v _ => v = (.bool (icmp .neq m7 m8)) }] mixed (by kernel_rfl) ⟨trivial, trivial, trivial, trivial, trivial, trivial, trivial, trivial, trivial, trivial⟩ ⟨?_, ?_, ?_, ?_, ?_, ?_, ?_, ?_, ?_, trivial⟩ ?_
        · skip
          refine ⟨fun _ _ _ _ _ _ h _ => h, fun _ _ h _ => h, fun σ' w' hA hE hD hP => ?_⟩
          have t0 : σ' 0 = (Value.slice p0a p0n p0c) := (hA 0 rfl).trans i2_S0
          have B0_9 : RS w' encI_i64 (Value.slice p0a p0n p0c) p0 := B3.frm hE (fun k _ hk => not_oth0)
          refine dg_op rfl (d_mv (v := (Value.slice p0a p0n p0c)) t0 ?_)
          exact ⟨rfl, own_none (Ext.refl w')⟩
        · skip
          refine ⟨fun _ _ _ _ _ _ h _ => h, fun _ _ h _ => h, fun σ' w' hA hE hD hP => ?_⟩
          have t5 : σ' 5 = .int .i64 s2 := (hA 5 rfl).trans i2_S5
          refine dg_op rfl (d_mv (v := .int .i64 s2) t5 ?_)
          exact ⟨rfl, own_none (Ext.refl w')⟩
        · skip
          refine ⟨fun _ _ _ _ _ _ h _ => h, fun _ _ h _ => h, fun σ' w' hA hE hD hP => ?_⟩
          have t17 : σ' 17 = (Value.slice p0a p0n p0c) := hD 0 rfl
          have t18 : σ' 18 = (.int .i64 s2) := hD 1 rfl
          have B0_10 : RS w' encI_i64 (Value.slice p0a p0n p0c) p0 := B3.frm hE (fun k _ hk => not_oth0)
          refine dg_op rfl (d_indexE (e := encI_i64) (v := (Value.slice p0a p0n p0c)) un81 size2 t17 t18 B0_10 hm7 fun g11 o11 l11 => ?_)
          exact ⟨⟨g11, o11, rfl, l11⟩, own_none (Ext.refl _)⟩
        · skip
          refine ⟨fun _ _ _ _ _ _ h _ => h, fun _ _ h _ => h, fun σ' w' hA hE hD hP => ?_⟩
          obtain ⟨d5_2g, d5_2o, t19, d5_2gE⟩ : ∃ d5_2g : Nat, ∃ d5_2o : Nat, σ' 19 = (.pointer (some ⟨d5_2g, d5_2o, none⟩)) ∧ EL encI_i64 (Value.slice p0a p0n p0c) (p0).length s2 d5_2g d5_2o := hD 2 rfl
          have B0_12 : RS w' encI_i64 (Value.slice p0a p0n p0c) p0 := B3.frm hE (fun k _ hk => not_oth0)
          obtain ⟨d5_2c, d5_2T, d5_2f, d5_2vs, d5_2hg, d5_2P, d5_2hq⟩ := RS.el B0_12 d5_2gE hm7
          obtain rfl := dec_encI_i64 d5_2hq
          refine dg_op rfl (d_load (v := .int .i64 m7) t19 agg2 d5_2hg (sub_get (vs := #[.int .i64 m7]) d5_2P (i := 0) rfl) ?_)
          exact ⟨rfl, own_none (Ext.refl w')⟩
        · skip
          refine ⟨fun _ _ _ _ _ _ h _ => h, fun _ _ h _ => h, fun σ' w' hA hE hD hP => ?_⟩
          have t1 : σ' 1 = (Value.slice p1a p1n p1c) := (hA 1 rfl).trans i2_S1
          have B0_13 : RS w' encI_i64 (Value.slice p1a p1n p1c) p1 := B6.frm hE (fun k _ hk => not_oth0)
          refine dg_op rfl (d_mv (v := (Value.slice p1a p1n p1c)) t1 ?_)
          exact ⟨rfl, own_none (Ext.refl w')⟩
        · skip
          refine ⟨fun _ _ _ _ _ _ h _ => h, fun _ _ h _ => h, fun σ' w' hA hE hD hP => ?_⟩
          have t5 : σ' 5 = .int .i64 s2 := (hA 5 rfl).trans i2_S5
          refine dg_op rfl (d_mv (v := .int .i64 s2) t5 ?_)
          exact ⟨rfl, own_none (Ext.refl w')⟩
        · skip
          refine ⟨fun _ _ _ _ _ _ h _ => h, fun _ _ h _ => h, fun σ' w' hA hE hD hP => ?_⟩
          have t21 : σ' 21 = (Value.slice p1a p1n p1c) := hD 4 rfl
          have t22 : σ' 22 = (.int .i64 s2) := hD 5 rfl
          have B0_14 : RS w' encI_i64 (Value.slice p1a p1n p1c) p1 := B6.frm hE (fun k _ hk => not_oth0)
          refine dg_op rfl (d_indexE (e := encI_i64) (v := (Value.slice p1a p1n p1c)) un81 size2 t21 t22 B0_14 hm8 fun g15 o15 l15 => ?_)
          exact ⟨⟨g15, o15, rfl, l15⟩, own_none (Ext.refl _)⟩
        · skip
          refine ⟨fun _ _ _ _ _ _ h _ => h, fun _ _ h _ => h, fun σ' w' hA hE hD hP => ?_⟩
          obtain ⟨d5_6g, d5_6o, t23, d5_6gE⟩ : ∃ d5_6g : Nat, ∃ d5_6o : Nat, σ' 23 = (.pointer (some ⟨d5_6g, d5_6o, none⟩)) ∧ EL encI_i64 (Value.slice p1a p1n p1c) (p1).length s2 d5_6g d5_6o := hD 6 rfl
          have B0_16 : RS w' encI_i64 (Value.slice p1a p1n p1c) p1 := B6.frm hE (fun k _ hk => not_oth0)
          obtain ⟨d5_6c, d5_6T, d5_6f, d5_6vs, d5_6hg, d5_6P, d5_6hq⟩ := RS.el B0_16 d5_6gE hm8
          obtain rfl := dec_encI_i64 d5_6hq
          refine dg_op rfl (d_load (v := .int .i64 m8) t23 agg2 d5_6hg (sub_get (vs := #[.int .i64 m8]) d5_6P (i := 0) rfl) ?_)
          exact ⟨rfl, own_none (Ext.refl w')⟩
        · skip
          refine ⟨fun _ _ _ _ _ _ h _ => h, fun _ _ h _ => h, fun σ' w' hA hE hD hP => ?_⟩
          have t20 : σ' 20 = (.int .i64 m7) := hD 3 rfl
          have t24 : σ' 24 = (.int .i64 m8) := hD 7 rfl
          refine dg_op rfl (d_icmp cNeq t20 t24 ?_)
          exact ⟨rfl, own_none (Ext.refl w')⟩
        · skip
          intro σ5 w5 A5 E5 V5
          have E5x : Ext wl2 w5 := ext_of_oth0 E5
          have s25_5 : σ5 25 = (.bool (icmp .neq m7 m8)) := V5 8 (Nat.le_of_ble_eq_true rfl)
          have s5_5 : σ5 5 = .int .i64 s2 := (A5 5 rfl).trans i2_S5
          have s0_5 : σ5 0 = (Value.slice p0a p0n p0c) := (A5 0 rfl).trans i2_S0
          have s1_5 : σ5 1 = (Value.slice p1a p1n p1c) := (A5 1 rfl).trans i2_S1
          have X17 : Ext w w5 := i2_X.trans E5x
          refine W_cond (b := (icmp .neq m7 m8)) s25_5 (fun hc18 => ?_) (fun hc18 => ?_)
          · skip
            replace hr := bif_t hr hc18
            refine W_seq ?_
            refine W_region rfl ?_
            refine da_op rfl (d_as (v := .bool false) rfl ?_)
            refine da_nil ?_
            refine W_ret ?_
            obtain rfl := Option.some.inj hr
            exact ⟨_, rfl, rfl, rfl, X17⟩
          · skip
            replace hr := bif_f hr hc18
            refine W_skip ?_
            refine W_region rfl ?_
            refine da_op rfl (d_mv (v := .int .i64 s2) s5_5 ?_)
            refine da_op rfl (d_iarith rfl rfl (.inl ⟨rfl, rfl⟩) ?_)
            refine da_op rfl (d_as (v := .int .i64 (IntKind.i64.wrap (s2 + 1))) rfl ?_)
            refine da_nil ?_
            obtain rfl := Option.some.inj hr
            exact ⟨_, rfl, ⟨rfl, s0_5, s1_5, X17⟩⟩
      · skip
        replace hr := bif_f hr hc4
        refine W_exit ?_
        obtain rfl := Option.some.inj hr
        exact ⟨_, rfl, rfl, i2_X⟩
    · skip
      intro ex σx2 wx2 hq
      rcases m2 with m2 | m2
      · skip
        obtain ⟨rfl, q2_0_X⟩ := hq
        refine W_seq ?_
        refine W_region rfl ?_
        refine da_op rfl (d_as (v := .bool true) rfl ?_)
        refine da_nil ?_
        refine W_ret ?_
        obtain rfl := Option.some.inj hr
        refine ⟨_, res1 (rv_tmp rfl), ?_⟩
        exact ⟨rfl, q2_0_X⟩
      · skip
        obtain ⟨rfl, q2_1_S4, q2_1_X⟩ := hq
        obtain rfl := Option.some.inj hr
        refine ⟨_, res1 (rv_tmp q2_1_S4), ?_⟩
        exact ⟨rfl, q2_1_X⟩
set_option maxHeartbeats 4000000 in
theorem c10 (p0 : List Int) (p1 : List Int) (p0a : Option Addr) (p0n : Nat) (p0c : Nat) (p1a : Option Addr) (p1n : Nat) (p1c : Nat) (r : Bool) (w : World) (hr : M.laws_FnTexts p0 p1 = some r) (p0R : RS w encI_u8 (Value.slice p0a p0n p0c) p0) (p1R : RS w encI_u8 (Value.slice p1a p1n p1c) p1) (t_T10 : T10 Tryd.prog w) (t_TSyn : TSyn Tryd.prog w) (t_TRan : TRan Tryd.prog w) :
    Calls Tryd.prog 10 #[(Value.slice p0a p0n p0c), (Value.slice p1a p1n p1c)] w fun e w' => e = .returned (.bool r) ∧ Ext w w' := by
  refine calls_of_W Tryd.func10 rfl (Nat.le_of_ble_eq_true rfl) ?_
  refine W_seq ?_
  refine W_region rfl ?_
  refine da_op rfl (d_as (v := .bool false) rfl ?_)
  refine da_nil ?_
  refine W_seq ?_
  refine W_seq ?_
  refine W_region rfl ?_
  refine da_op rfl (d_mv (v := (Value.slice p0a p0n p0c)) rfl ?_)
  refine da_op rfl (d_mv (v := (Value.slice p1a p1n p1c)) rfl ?_)
  obtain ⟨m1, hm1, hr⟩ := letv_out hr
  refine da_op rfl (d_cl (vs := [(Value.slice p0a p0n p0c), (Value.slice p1a p1n p1c)]) en39 (ac rfl (ac rfl rfl)) rfl ?_)
  refine (c39 p0 p1 p0a p0n p0c p1a p1n p1c m1 w hm1 p0R p1R).mono ?_
  rintro _ w2 ⟨rfl, E2⟩
  refine ⟨_, rfl, ?_⟩
  have X3 : Ext w w2 := (Ext.refl w).trans E2
  refine da_nil ?_
  refine W_cond (b := m1) rfl (fun hc4 => ?_) (fun hc4 => ?_)
  · skip
    replace hr := bif_t hr hc4
    refine W_seq ?_
    refine W_region rfl ?_
    refine da_op rfl (d_as (v := .bool true) rfl ?_)
    refine da_nil ?_
    refine W_ret ?_
    obtain rfl := Option.some.inj hr
    refine ⟨_, res1 (rv_tmp rfl), ?_⟩
    exact ⟨rfl, X3⟩
  · skip
    replace hr := bif_f hr hc4
    refine W_skip ?_
    refine W_seq ?_
    refine W_region rfl ?_
    refine da_op rfl (d_mv (v := (Value.slice p0a p0n p0c)) rfl ?_)
    refine da_op rfl (d_mv (v := (Value.slice p1a p1n p1c)) rfl ?_)
    obtain ⟨m5, hm5, hr⟩ := bind_out hr
    have B6 : RS w2 encI_u8 (Value.slice p1a p1n p1c) p1 := p1R.ext X3
    refine da_op rfl (d_cl (vs := [(Value.slice p1a p1n p1c), .int .i64 0, .int .i64 12]) en41 (ac rfl (ac rfl (ac rfl rfl))) rfl ?_)
    refine (c41 p1 0 12 p1a p1n p1c m5 w2 hm5 B6).mono ?_
    rintro _ w7 ⟨rfl, E7⟩
    refine ⟨_, rfl, ?_⟩
    have X8 : Ext w w7 := X3.trans E7
    obtain ⟨m9, hm9, hr⟩ := bind_out hr
    have B10 : RS w7 encI_u8 (Value.slice p0a p0n p0c) p0 := p0R.ext X8
    refine da_op rfl (d_cl (vs := [(Value.slice p0a p0n p0c), .int .i64 m5]) en40 (ac rfl (ac rfl rfl)) rfl ?_)
    refine (c40 p0 m5 p0a p0n p0c m9 w7 hm9 B10).mono ?_
    rintro _ w11 ⟨q11_0a, q11_0n, q11_0c, rfl, q11_0R, q11_0F, E11⟩
    refine ⟨_, rfl, ?_⟩
    have own12 : ∀ k, (Value.slice q11_0a q11_0n q11_0c).ownBlock = some k → w.heap.size ≤ k := fun k hk => Nat.le_trans X8.size (q11_0F k hk)
    have X13 : Ext w w11 := X8.trans E11
    refine da_op rfl (d_as (v := (Value.slice q11_0a q11_0n q11_0c)) rfl ?_)
    refine da_nil ?_
    refine W_seq ?_
    refine W_region rfl ?_
    refine da_op rfl (d_mv (v := (Value.slice q11_0a q11_0n q11_0c)) rfl ?_)
    obtain ⟨m14, hm14, hr⟩ := bind_out hr
    refine da_op rfl (d_cl (vs := [(Value.slice q11_0a q11_0n q11_0c)]) en42 (ac rfl rfl) rfl ?_)
    refine (c42 m9 q11_0a q11_0n q11_0c m14 w11 hm14 q11_0R.rs).mono ?_
    rintro _ w15 ⟨rfl, E15⟩
    refine ⟨_, rfl, ?_⟩
    have X16 : Ext w w15 := X13.trans E15
    refine da_op rfl (d_mv (v := .tuple #[.string (bs m14.1), .bool m14.2]) rfl ?_)
    refine da_op rfl (d_extract (v := .string (bs m14.1)) rfl rfl ?_)
    refine da_op rfl (d_extract (v := .bool m14.2) rfl rfl ?_)
    refine da_op rfl (d_as (v := .string (bs m14.1)) rfl ?_)
    refine da_op rfl (d_as (v := .bool m14.2) rfl ?_)
    refine da_nil ?_
    refine W_seq ?_
    refine W_region rfl ?_
    refine da_op rfl (d_mv (v := .string (bs m14.1)) rfl ?_)
    obtain ⟨m17, hm17, hr⟩ := bind_out hr
    have B18 : OS w15 22 encF_f32 (Value.slice q11_0a q11_0n q11_0c) m9 := q11_0R.ext E15
    refine da_op rfl (d_cl (vs := [.string (bs m14.1)]) en43 (ac rfl rfl) rfl ?_)
    refine (c43 m14.1 m17 w15 hm17 ).mono ?_
    rintro _ w19 ⟨q19_0a, q19_0n, q19_0c, rfl, q19_0R, q19_0F, E19⟩
    refine ⟨_, rfl, ?_⟩
    have own20 : ∀ k, (Value.slice q19_0a q19_0n q19_0c).ownBlock = some k → w.heap.size ≤ k := fun k hk => Nat.le_trans X16.size (q19_0F k hk)
    have sp21 : ∀ k, (Value.slice q11_0a q11_0n q11_0c).ownBlock = some k → ¬ (Value.slice q19_0a q19_0n q19_0c).ownBlock = some k := apart_fresh B18 q19_0F
    have X22 : Ext w w19 := X16.trans E19
    refine da_op rfl (d_mv (v := .tuple #[(Value.slice q19_0a q19_0n q19_0c), .bool m17.2]) rfl ?_)
    refine da_op rfl (d_extract (v := (Value.slice q19_0a q19_0n q19_0c)) rfl rfl ?_)
    refine da_op rfl (d_extract (v := .bool m17.2) rfl rfl ?_)
    refine da_op rfl (d_as (v := (Value.slice q19_0a q19_0n q19_0c)) rfl ?_)
    refine da_op rfl (d_as (v := .bool m17.2) rfl ?_)
    refine da_nil ?_
    refine W_seq ?_
    refine W_seq ?_
    have B24 : OS w19 22 encF_f32 (Value.slice q11_0a q11_0n q11_0c) m9 := B18.ext E19
    obtain ⟨m23, hm23, hr⟩ := bind_out hr
    refine W_cut (fun σ' w' => σ' 58 = .bool m23 ∧ Ext w19 w') rfl ?_ ?_
    · skip
      have hr := hm23
      refine da_op rfl (d_mv (v := .bool m14.2) rfl ?_)
      refine da_op rfl (d_not rfl ?_)
      refine da_op rfl (d_mv (v := .bool (!m14.2)) rfl ?_)
      rcases Bool.eq_false_or_eq_true m14.2 with hc25 | hc25
      · skip
        replace hr := bif_t hr hc25
        refine da_on rfl (Eq.trans (show sl _ _ _ = .bool (!m14.2) from rfl) (congrArg Value.bool (congrArg not hc25))) (d_mv (v := .bool m17.2) rfl ?_)
        refine da_on rfl (Eq.trans (show sl _ _ _ = .bool (!m14.2) from rfl) (congrArg Value.bool (congrArg not hc25))) (d_not rfl ?_)
        refine da_op rfl (d_pick (b := false) (Eq.trans (show ev _ _ = .bool (!m14.2) from rfl) (congrArg Value.bool (congrArg not hc25))) ?_)
        refine da_op rfl (d_mv (v := .bool (!m17.2)) rfl ?_)
        rcases Bool.eq_false_or_eq_true m17.2 with hc26 | hc26
        · skip
          replace hr := bif_t hr hc26
          refine da_on rfl (Eq.trans (show sl _ _ _ = .bool (!m17.2) from rfl) (congrArg Value.bool (congrArg not hc26))) (d_mv (v := (Value.slice q19_0a q19_0n q19_0c)) rfl ?_)
          refine da_on rfl (Eq.trans (show sl _ _ _ = .bool (!m17.2) from rfl) (congrArg Value.bool (congrArg not hc26))) (d_mv (v := (Value.slice q11_0a q11_0n q11_0c)) rfl ?_)
          obtain ⟨m27, hm27, hr⟩ := bind_out hr
          refine da_on rfl (Eq.trans (show sl _ _ _ = .bool (!m17.2) from rfl) (congrArg Value.bool (congrArg not hc26))) (d_cl (vs := [(Value.slice q19_0a q19_0n q19_0c), (Value.slice q11_0a q11_0n q11_0c)]) en44 (ac rfl (ac rfl rfl)) rfl ?_)
          refine (c44 m17.1 m9 q19_0a q19_0n q19_0c q11_0a q11_0n q11_0c m27 w19 hm27 q19_0R.rs B24.rs).mono ?_
          rintro _ w28 ⟨rfl, E28⟩
          refine ⟨_, rfl, ?_⟩
          have X29 : Ext w w28 := X22.trans E28
          refine da_on rfl (Eq.trans (show sl _ _ _ = .bool (!m17.2) from rfl) (congrArg Value.bool (congrArg not hc26))) (d_not rfl ?_)
          refine da_op rfl (d_pick (b := false) (Eq.trans (show ev _ _ = .bool (!m17.2) from rfl) (congrArg Value.bool (congrArg not hc26))) ?_)
          refine da_op rfl (d_mv (v := .bool (!m27)) rfl ?_)
          rcases Bool.eq_false_or_eq_true m27 with hc30 | hc30
          · skip
            replace hr := bif_t hr hc30
            refine da_on rfl (Eq.trans (show sl _ _ _ = .bool (!m27) from rfl) (congrArg Value.bool (congrArg not hc30))) (d_mv (v := (Value.slice q11_0a q11_0n q11_0c)) rfl ?_)
            have B31 : OS w28 22 encF_f32 (Value.slice q11_0a q11_0n q11_0c) m9 := B24.ext E28
            refine da_on rfl (Eq.trans (show sl _ _ _ = .bool (!m27) from rfl) (congrArg Value.bool (congrArg not hc30))) (d_len (e := encF_f32) un53 rfl B31.rs ?_)
            refine da_on rfl (Eq.trans (show sl _ _ _ = .bool (!m27) from rfl) (congrArg Value.bool (congrArg not hc30))) (d_icmp cGtr rfl rfl ?_)
            refine da_on rfl (Eq.trans (show sl _ _ _ = .bool (!m27) from rfl) (congrArg Value.bool (congrArg not hc30))) (d_mv (v := .bool (icmp .gtr ((m9).length : Int) 0)) rfl ?_)
            rcases Bool.eq_false_or_eq_true (icmp .gtr ((m9).length : Int) 0) with hc32 | hc32
            · skip
              replace hr := bif_t hr hc32
              refine da_on rfl (Eq.trans (show sl _ _ _ = .bool (icmp .gtr ((m9).length : Int) 0) from rfl) (congrArg Value.bool hc32)) (d_mv (v := .string (bs m14.1)) rfl ?_)
              refine da_on rfl (Eq.trans (show sl _ _ _ = .bool (icmp .gtr ((m9).length : Int) 0) from rfl) (congrArg Value.bool hc32)) (d_slen un9 rfl ?_)
              refine da_on rfl (Eq.trans (show sl _ _ _ = .bool (icmp .gtr ((m9).length : Int) 0) from rfl) (congrArg Value.bool hc32)) (d_mv (v := (Value.slice q11_0a q11_0n q11_0c)) rfl ?_)
              refine da_on rfl (Eq.trans (show sl _ _ _ = .bool (icmp .gtr ((m9).length : Int) 0) from rfl) (congrArg Value.bool hc32)) (d_len (e := encF_f32) un53 rfl B31.rs ?_)
              refine da_on rfl (Eq.trans (show sl _ _ _ = .bool (icmp .gtr ((m9).length : Int) 0) from rfl) (congrArg Value.bool hc32)) (d_iarith rfl rfl (.inr (.inr ⟨rfl, rfl⟩)) ?_)
              refine da_on rfl (Eq.trans (show sl _ _ _ = .bool (icmp .gtr ((m9).length : Int) 0) from rfl) (congrArg Value.bool hc32)) (d_iarith rfl rfl (.inr (.inl ⟨rfl, rfl⟩)) ?_)
              refine da_on rfl (Eq.trans (show sl _ _ _ = .bool (icmp .gtr ((m9).length : Int) 0) from rfl) (congrArg Value.bool hc32)) (d_icmp cNeq rfl rfl ?_)
              refine da_on rfl (Eq.trans (show sl _ _ _ = .bool (!m27) from rfl) (congrArg Value.bool (congrArg not hc30))) (d_pick (b := true) (Eq.trans (show ev _ _ = .bool (icmp .gtr ((m9).length : Int) 0) from rfl) (congrArg Value.bool hc32)) ?_)
              refine da_op rfl (d_pick (b := false) (Eq.trans (show ev _ _ = .bool (!m27) from rfl) (congrArg Value.bool (congrArg not hc30))) ?_)
              refine da_nil ?_
              obtain rfl := Option.some.inj hr
              exact ⟨rfl, (Ext.trans (Ext.refl w19) E28)⟩
            · skip
              replace hr := bif_f hr hc32
              refine da_off rfl (Eq.trans (show sl _ _ _ = .bool (icmp .gtr ((m9).length : Int) 0) from rfl) (congrArg Value.bool hc32)) (by decide) ?_
              refine da_off rfl (Eq.trans (show sl _ _ _ = .bool (icmp .gtr ((m9).length : Int) 0) from rfl) (congrArg Value.bool hc32)) (by decide) ?_
              refine da_off rfl (Eq.trans (show sl _ _ _ = .bool (icmp .gtr ((m9).length : Int) 0) from rfl) (congrArg Value.bool hc32)) (by decide) ?_
              refine da_off rfl (Eq.trans (show sl _ _ _ = .bool (icmp .gtr ((m9).length : Int) 0) from rfl) (congrArg Value.bool hc32)) (by decide) ?_
              refine da_off rfl (Eq.trans (show sl _ _ _ = .bool (icmp .gtr ((m9).length : Int) 0) from rfl) (congrArg Value.bool hc32)) (by decide) ?_
              refine da_off rfl (Eq.trans (show sl _ _ _ = .bool (icmp .gtr ((m9).length : Int) 0) from rfl) (congrArg Value.bool hc32)) (by decide) ?_
              refine da_off rfl (Eq.trans (show sl _ _ _ = .bool (icmp .gtr ((m9).length : Int) 0) from rfl) (congrArg Value.bool hc32)) (by decide) ?_
              refine da_on rfl (Eq.trans (show sl _ _ _ = .bool (!m27) from rfl) (congrArg Value.bool (congrArg not hc30))) (d_pick (b := false) (Eq.trans (show ev _ _ = .bool (icmp .gtr ((m9).length : Int) 0) from rfl) (congrArg Value.bool hc32)) ?_)
              refine da_op rfl (d_pick (b := false) (Eq.trans (show ev _ _ = .bool (!m27) from rfl) (congrArg Value.bool (congrArg not hc30))) ?_)
              refine da_nil ?_
              obtain rfl := Option.some.inj hr
              exact ⟨rfl, (Ext.trans (Ext.refl w19) E28)⟩
          · skip
            replace hr := bif_f hr hc30
            refine da_off rfl (Eq.trans (show sl _ _ _ = .bool (!m27) from rfl) (congrArg Value.bool (congrArg not hc30))) (by decide) ?_
            refine da_off rfl (Eq.trans (show sl _ _ _ = .bool (!m27) from rfl) (congrArg Value.bool (congrArg not hc30))) (by decide) ?_
            refine da_off rfl (Eq.trans (show sl _ _ _ = .bool (!m27) from rfl) (congrArg Value.bool (congrArg not hc30))) (by decide) ?_
            refine da_off rfl (Eq.trans (show sl _ _ _ = .bool (!m27) from rfl) (congrArg Value.bool (congrArg not hc30))) (by decide) ?_
            refine da_undef rfl rfl ?_
            refine da_undef rfl rfl ?_
            refine da_undef rfl rfl ?_
            refine da_undef rfl rfl ?_
            refine da_undef rfl rfl ?_
            refine da_undef rfl rfl ?_
            refine da_undef rfl rfl ?_
            refine da_off rfl (Eq.trans (show sl _ _ _ = .bool (!m27) from rfl) (congrArg Value.bool (congrArg not hc30))) (by decide) ?_
            refine da_op rfl (d_pick (b := true) (Eq.trans (show ev _ _ = .bool (!m27) from rfl) (congrArg Value.bool (congrArg not hc30))) ?_)
            refine da_nil ?_
            obtain rfl := Option.some.inj hr
            exact ⟨rfl, (Ext.trans (Ext.refl w19) E28)⟩
        · skip
          replace hr := bif_f hr hc26
          refine da_off rfl (Eq.trans (show sl _ _ _ = .bool (!m17.2) from rfl) (congrArg Value.bool (congrArg not hc26))) (by decide) ?_
          refine da_off rfl (Eq.trans (show sl _ _ _ = .bool (!m17.2) from rfl) (congrArg Value.bool (congrArg not hc26))) (by decide) ?_
          refine da_off rfl (Eq.trans (show sl _ _ _ = .bool (!m17.2) from rfl) (congrArg Value.bool (congrArg not hc26))) (by decide) ?_
          refine da_off rfl (Eq.trans (show sl _ _ _ = .bool (!m17.2) from rfl) (congrArg Value.bool (congrArg not hc26))) (by decide) ?_
          refine da_op rfl (d_pick (b := true) (Eq.trans (show ev _ _ = .bool (!m17.2) from rfl) (congrArg Value.bool (congrArg not hc26))) ?_)
          refine da_op rfl (d_mv (v := .bool true) rfl ?_)
          refine da_off rfl rfl (by decide) ?_
          refine da_off rfl rfl (by decide) ?_
          refine da_off rfl rfl (by decide) ?_
          refine da_off rfl rfl (by decide) ?_
          refine da_undef rfl rfl ?_
          refine da_undef rfl rfl ?_
          refine da_undef rfl rfl ?_
          refine da_undef rfl rfl ?_
          refine da_undef rfl rfl ?_
          refine da_undef rfl rfl ?_
          refine da_undef rfl rfl ?_
          refine da_off rfl rfl (by decide) ?_
          refine da_op rfl (d_pick (b := true) rfl ?_)
          refine da_nil ?_
          obtain rfl := Option.some.inj hr
          exact ⟨rfl, (Ext.refl w19)⟩
      · skip
        replace hr := bif_f hr hc25
        refine da_off rfl (Eq.trans (show sl _ _ _ = .bool (!m14.2) from rfl) (congrArg Value.bool (congrArg not hc25))) (by decide) ?_
        refine da_off rfl (Eq.trans (show sl _ _ _ = .bool (!m14.2) from rfl) (congrArg Value.bool (congrArg not hc25))) (by decide) ?_
        refine da_op rfl (d_pick (b := true) (Eq.trans (show ev _ _ = .bool (!m14.2) from rfl) (congrArg Value.bool (congrArg not hc25))) ?_)
        refine da_op rfl (d_mv (v := .bool true) rfl ?_)
        refine da_off rfl rfl (by decide) ?_
        refine da_off rfl rfl (by decide) ?_
        refine da_off rfl rfl (by decide) ?_
        refine da_off rfl rfl (by decide) ?_
        refine da_op rfl (d_pick (b := true) rfl ?_)
        refine da_op rfl (d_mv (v := .bool true) rfl ?_)
        refine da_off rfl rfl (by decide) ?_
        refine da_off rfl rfl (by decide) ?_
        refine da_off rfl rfl (by decide) ?_
        refine da_off rfl rfl (by decide) ?_
        refine da_undef rfl rfl ?_
        refine da_undef rfl rfl ?_
        refine da_undef rfl rfl ?_
        refine da_undef rfl rfl ?_
        refine da_undef rfl rfl ?_
        refine da_undef rfl rfl ?_
        refine da_undef rfl rfl ?_
        refine da_off rfl rfl (by decide) ?_
        refine da_op rfl (d_pick (b := true) rfl ?_)
        refine da_nil ?_
        obtain rfl := Option.some.inj hr
        exact ⟨rfl, (Ext.refl w19)⟩
    · skip
      rintro σ23 w23 o23 ⟨s58_23, E23⟩
      have s1_23 : σ23 1 = (Value.slice p1a p1n p1c) := (o23 1 rfl).trans rfl
      have X33 : Ext w w23 := X22.trans E23
      refine W_cond (b := m23) s58_23 (fun hc34 => ?_) (fun hc34 => ?_)
      · skip
        replace hr := bif_t hr hc34
        refine W_seq ?_
        refine W_region rfl ?_
        refine da_op rfl (d_as (v := .bool false) rfl ?_)
        refine da_nil ?_
        refine W_ret ?_
        obtain rfl := Option.some.inj hr
        refine ⟨_, res1 (rv_tmp rfl), ?_⟩
        exact ⟨rfl, X33⟩
      · skip
        replace hr := bif_f hr hc34
        refine W_skip ?_
        refine W_seq ?_
        refine W_region rfl ?_
        refine da_op rfl (d_bslice0 un81 size2 fun w35 B35 E35 => ?_)
        have fr35 : ∀ k, (Value.slice (some ⟨w23.heap.size, 0, none⟩) 0 0).ownBlock = some k → w23.heap.size ≤ k := fun k hk => by cases hk; exact Nat.le_refl _
        have own35 : ∀ k, (Value.slice (some ⟨w23.heap.size, 0, none⟩) 0 0).ownBlock = some k → w.heap.size ≤ k := fun k hk => Nat.le_trans X33.size (fr35 k hk)
        have X36 : Ext w w35 := X33.trans E35
        have O35 : OS w35 2 encI_i64 (Value.slice (some ⟨w23.heap.size, 0, none⟩) 0 0) ([] : List Int) := OS.box (xs := ([] : List Int)) B35 rfl (Nat.le_of_ble_eq_true rfl)
        refine da_op rfl (d_as (v := (Value.slice (some ⟨w23.heap.size, 0, none⟩) 0 0)) rfl ?_)
        refine da_nil ?_
        refine W_seq ?_
        refine W_seq ?_
        refine W_region rfl ?_
        refine da_op rfl (d_as (v := .int .i64 0) rfl ?_)
        refine da_nil ?_
        refine W_block ?_
        obtain ⟨m37, hm37, hr⟩ := bind_out hr
        refine W_loopM hm37 (fun (s37 : List Int × Int) σ w' => ∃ i37_0a : Option Addr, ∃ i37_0n : Nat, ∃ i37_0c : Nat, σ 10 = (Value.slice i37_0a i37_0n i37_0c) ∧ σ 11 = .int .i64 s37.2 ∧ σ 1 = (Value.slice p1a p1n p1c) ∧ OS w' 2 encI_i64 (Value.slice i37_0a i37_0n i37_0c) s37.1 ∧ (∀ k, (Value.slice i37_0a i37_0n i37_0c).ownBlock = some k → w.heap.size ≤ k) ∧ Ext w w') (fun (e37 : (List Int)) ex σ w' => ex = .exit 0 ∧ ∃ q37_0_0a : Option Addr, ∃ q37_0_0n : Nat, ∃ q37_0_0c : Nat, σ 10 = (Value.slice q37_0_0a q37_0_0n q37_0_0c) ∧ OS w' 2 encI_i64 (Value.slice q37_0_0a q37_0_0n q37_0_0c) e37 ∧ (∀ k, (Value.slice q37_0_0a q37_0_0n q37_0_0c).ownBlock = some k → w.heap.size ≤ k) ∧ Ext w w') ⟨(some ⟨w23.heap.size, 0, none⟩), 0, 0, rfl, rfl, s1_23, O35, own35, X36⟩ ?_ ?_
        · skip
          rintro s37 σl37 wl37 r37l ⟨i37_0a, i37_0n, i37_0c, i37_S10, i37_S11, i37_S1, i37_0R, i37_0O, i37_X⟩ hr
          refine W_seq ?_
          refine W_seq ?_
          refine W_region rfl ?_
          refine da_op rfl (d_mv (v := .int .i64 s37.2) i37_S11 ?_)
          refine da_op rfl (d_mv (v := (Value.slice p1a p1n p1c)) i37_S1 ?_)
          obtain ⟨m38, hm38, hr⟩ := bind_out hr
          have B39 : RS wl37 encI_u8 (Value.slice p1a p1n p1c) p1 := p1R.ext i37_X
          refine da_op rfl (d_cl (vs := [(Value.slice p1a p1n p1c), .int .i64 1, .int .i64 8]) en41 (ac rfl (ac rfl (ac rfl rfl))) rfl ?_)
          refine (c41 p1 1 8 p1a p1n p1c m38 wl37 hm38 B39).mono ?_
          rintro _ w40 ⟨rfl, E40⟩
          refine ⟨_, rfl, ?_⟩
          have X41 : Ext w w40 := i37_X.trans E40
          refine da_op rfl (d_icmp cLss rfl rfl ?_)
          refine da_nil ?_
          refine W_cond (b := (icmp .lss s37.2 m38)) rfl (fun hc42 => ?_) (fun hc42 => ?_)
          · skip
            replace hr := bif_t hr hc42
            refine W_skip ?_
            refine W_seq ?_
            refine W_block ?_
            refine W_region rfl ?_
            refine da_op rfl (d_mv (v := (Value.slice i37_0a i37_0n i37_0c)) i37_S10 ?_)
            refine da_op rfl (d_mv (v := (Value.slice p1a p1n p1c)) i37_S1 ?_)
            refine da_op rfl (d_mv (v := .int .i64 s37.2) i37_S11 ?_)
            refine da_op rfl (d_iarith rfl rfl (.inl ⟨rfl, rfl⟩) ?_)
            obtain ⟨m43, hm43, hr⟩ := bind_out hr
            have B44 : RS w40 encI_u8 (Value.slice p1a p1n p1c) p1 := p1R.ext X41
            have B45 : OS w40 2 encI_i64 (Value.slice i37_0a i37_0n i37_0c) s37.1 := i37_0R.ext E40
            refine da_op rfl (d_cl (vs := [(Value.slice p1a p1n p1c), .int .i64 (IntKind.i64.wrap (s37.2 + 2)), .int .i64 256]) en41 (ac rfl (ac rfl (ac rfl rfl))) rfl ?_)
            refine (c41 p1 (IntKind.i64.wrap (s37.2 + 2)) 256 p1a p1n p1c m43 w40 hm43 B44).mono ?_
            rintro _ w46 ⟨rfl, E46⟩
            refine ⟨_, rfl, ?_⟩
            have X47 : Ext w w46 := X41.trans E46
            refine da_op rfl (d_iarith rfl rfl (.inr (.inr ⟨rfl, rfl⟩)) ?_)
            refine da_op rfl (d_iarith rfl rfl (.inr (.inl ⟨rfl, rfl⟩)) ?_)
            have B49 : OS w46 2 encI_i64 (Value.slice i37_0a i37_0n i37_0c) s37.1 := B45.ext E46
            refine da_op rfl (d_bslice (vs := [(0, .int .i64 (IntKind.i64.wrap ((IntKind.i64.wrap (1000 * m43)) - 90000)))]) (cs := #[.int .i64 (IntKind.i64.wrap ((IntKind.i64.wrap (1000 * m43)) - 90000))]) un81 (pc rfl rfl) (by kernel_rfl) fun w48 B48 E48 => ?_)
            have fr48 : ∀ k, (Value.slice (some ⟨w46.heap.size, 0, none⟩) 1 1).ownBlock = some k → w46.heap.size ≤ k := fun k hk => by cases hk; exact Nat.le_refl _
            have own48 : ∀ k, (Value.slice (some ⟨w46.heap.size, 0, none⟩) 1 1).ownBlock = some k → w.heap.size ≤ k := fun k hk => Nat.le_trans X47.size (fr48 k hk)
            have sp50 : ∀ k, (Value.slice i37_0a i37_0n i37_0c).ownBlock = some k → ¬ (Value.slice (some ⟨w46.heap.size, 0, none⟩) 1 1).ownBlock = some k := apart_fresh B49 fr48
            have X51 : Ext w w48 := X47.trans E48
            have O48 : OS w48 2 encI_i64 (Value.slice (some ⟨w46.heap.size, 0, none⟩) 1 1) [(IntKind.i64.wrap ((IntKind.i64.wrap (1000 * m43)) - 90000))] := OS.box (xs := [(IntKind.i64.wrap ((IntKind.i64.wrap (1000 * m43)) - 90000))]) B48 (lc_v rfl rfl) (Nat.le_of_ble_eq_true rfl)
            obtain ⟨m52, hm52, hr⟩ := bind_out hr
            have B53 : OS w48 2 encI_i64 (Value.slice i37_0a i37_0n i37_0c) s37.1 := B49.ext E48
            refine da_op rfl (d_append (e := encI_i64) (v := (Value.slice i37_0a i37_0n i37_0c)) (y := (Value.slice (some ⟨w46.heap.size, 0, none⟩) 1 1)) un81 info2 rfl (by kernel_rfl) (by kernel_rfl) (by decide) (by decide) rfl rfl B53 O48.rs hm52 fun v54 w54 O54 Fm54 at_54 nl54 => ?_)
            obtain ⟨v54pa, v54pn, v54pc, rfl⟩ := O54.vals
            have own54 : ∀ k, (Value.slice v54pa v54pn v54pc).ownBlock = some k → w.heap.size ≤ k := app_own (w := w48) at_54 i37_0O X51.size
            have sp55 : ∀ k, (Value.slice (some ⟨w46.heap.size, 0, none⟩) 1 1).ownBlock = some k → ¬ (Value.slice v54pa v54pn v54pc).ownBlock = some k := app_nr at_54 (apart_symm sp50) O48
            have X56 : Ext w w54 := Ext.step X51 Fm54 (fun k _ hk => i37_0O k hk)
            refine da_op rfl (d_as (v := (Value.slice v54pa v54pn v54pc)) rfl ?_)
            refine da_nil ?_
            refine W_region rfl ?_
            refine da_op rfl (d_mv (v := .int .i64 s37.2) i37_S11 ?_)
            refine da_op rfl (d_iarith rfl rfl (.inl ⟨rfl, rfl⟩) ?_)
            refine da_op rfl (d_as (v := .int .i64 (IntKind.i64.wrap (s37.2 + 1))) rfl ?_)
            refine da_nil ?_
            obtain rfl := Option.some.inj hr
            exact ⟨_, rfl, ⟨v54pa, v54pn, v54pc, rfl, rfl, i37_S1, O54, own54, X56⟩⟩
          · skip
            replace hr := bif_f hr hc42
            refine W_exit ?_
            have B57 : OS w40 2 encI_i64 (Value.slice i37_0a i37_0n i37_0c) s37.1 := i37_0R.ext E40
            obtain rfl := Option.some.inj hr
            exact ⟨_, rfl, rfl, i37_0a, i37_0n, i37_0c, i37_S10, B57, i37_0O, X41⟩
        · skip
          intro ex σx37 wx37 hq
          obtain ⟨rfl, q37_0_0a, q37_0_0n, q37_0_0c, q37_0_S10, q37_0_0R, q37_0_0O, q37_0_X⟩ := hq
          refine W_seq ?_
          refine W_region rfl ?_
          refine da_op rfl (d_mv (v := (Value.slice q37_0_0a q37_0_0n q37_0_0c)) q37_0_S10 ?_)
          obtain ⟨m58, hm58, hr⟩ := bind_out hr
          refine da_op rfl (d_cl (vs := [(Value.slice q37_0_0a q37_0_0n q37_0_0c)]) en45 (ac rfl rfl) rfl ?_)
          refine (c45 m37 q37_0_0a q37_0_0n q37_0_0c m58 wx37 hm58 q37_0_0R.rs (t_T10.ext q37_0_X)).mono ?_
          rintro _ w59 ⟨rfl, E59⟩
          refine ⟨_, rfl, ?_⟩
          have X60 : Ext w w59 := q37_0_X.trans E59
          refine da_op rfl (d_mv (v := .tuple #[.string (bs m58.1), .bool m58.2]) rfl ?_)
          refine da_op rfl (d_extract (v := .string (bs m58.1)) rfl rfl ?_)
          refine da_op rfl (d_extract (v := .bool m58.2) rfl rfl ?_)
          refine da_op rfl (d_as (v := .string (bs m58.1)) rfl ?_)
          refine da_op rfl (d_as (v := .bool m58.2) rfl ?_)
          refine da_nil ?_
          refine W_seq ?_
          refine W_region rfl ?_
          refine da_op rfl (d_mv (v := .string (bs m58.1)) rfl ?_)
          obtain ⟨m61, hm61, hr⟩ := bind_out hr
          have B62 : OS w59 2 encI_i64 (Value.slice q37_0_0a q37_0_0n q37_0_0c) m37 := q37_0_0R.ext E59
          refine da_op rfl (d_cl (vs := [.string (bs m58.1)]) en46 (ac rfl rfl) rfl ?_)
          refine (c46 m58.1 m61 w59 hm61 (t_TSyn.ext X60) (t_TRan.ext X60) (t_T10.ext X60)).mono ?_
          rintro _ w63 ⟨q63_0a, q63_0n, q63_0c, rfl, q63_0R, q63_0F, E63⟩
          refine ⟨_, rfl, ?_⟩
          have own64 : ∀ k, (Value.slice q63_0a q63_0n q63_0c).ownBlock = some k → w.heap.size ≤ k := fun k hk => Nat.le_trans X60.size (q63_0F k hk)
          have sp65 : ∀ k, (Value.slice q37_0_0a q37_0_0n q37_0_0c).ownBlock = some k → ¬ (Value.slice q63_0a q63_0n q63_0c).ownBlock = some k := apart_fresh B62 q63_0F
          have X66 : Ext w w63 := X60.trans E63
          refine da_op rfl (d_mv (v := .tuple #[(Value.slice q63_0a q63_0n q63_0c), .bool m61.2]) rfl ?_)
          refine da_op rfl (d_extract (v := (Value.slice q63_0a q63_0n q63_0c)) rfl rfl ?_)
          refine da_op rfl (d_extract (v := .bool m61.2) rfl rfl ?_)
          refine da_op rfl (d_as (v := (Value.slice q63_0a q63_0n q63_0c)) rfl ?_)
          refine da_op rfl (d_as (v := .bool m61.2) rfl ?_)
          refine da_nil ?_
          refine W_seq ?_
          have B68 : OS w63 2 encI_i64 (Value.slice q37_0_0a q37_0_0n q37_0_0c) m37 := B62.ext E63
          obtain ⟨m67, hm67, hr⟩ := bind_out hr
          refine W_cut (fun σ' w' => σ' 4 = .bool m67 ∧ Ext w63 w') rfl ?_ ?_
          · skip
            have hr := hm67
            refine da_op rfl (d_mv (v := .bool m58.2) rfl ?_)
            refine da_op rfl (d_mv (v := .bool m58.2) rfl ?_)
            rcases Bool.eq_false_or_eq_true m58.2 with hc69 | hc69
            · skip
              replace hr := bif_t hr hc69
              refine da_on rfl (Eq.trans (show sl _ _ _ = .bool m58.2 from rfl) (congrArg Value.bool hc69)) (d_mv (v := .bool m61.2) rfl ?_)
              refine da_op rfl (d_pick (b := true) (Eq.trans (show ev _ _ = .bool m58.2 from rfl) (congrArg Value.bool hc69)) ?_)
              refine da_op rfl (d_mv (v := .bool m61.2) rfl ?_)
              rcases Bool.eq_false_or_eq_true m61.2 with hc70 | hc70
              · skip
                replace hr := bif_t hr hc70
                refine da_on rfl (Eq.trans (show sl _ _ _ = .bool m61.2 from rfl) (congrArg Value.bool hc70)) (d_mv (v := (Value.slice q63_0a q63_0n q63_0c)) rfl ?_)
                refine da_on rfl (Eq.trans (show sl _ _ _ = .bool m61.2 from rfl) (congrArg Value.bool hc70)) (d_mv (v := (Value.slice q37_0_0a q37_0_0n q37_0_0c)) q37_0_S10 ?_)
                obtain ⟨m71, hm71, hr⟩ := bind_out hr
                refine da_on rfl (Eq.trans (show sl _ _ _ = .bool m61.2 from rfl) (congrArg Value.bool hc70)) (d_cl (vs := [(Value.slice q63_0a q63_0n q63_0c), (Value.slice q37_0_0a q37_0_0n q37_0_0c)]) en47 (ac rfl (ac rfl rfl)) rfl ?_)
                refine (c47 m61.1 m37 q63_0a q63_0n q63_0c q37_0_0a q37_0_0n q37_0_0c m71 w63 hm71 q63_0R.rs B68.rs).mono ?_
                rintro _ w72 ⟨rfl, E72⟩
                refine ⟨_, rfl, ?_⟩
                have X73 : Ext w w72 := X66.trans E72
                refine da_op rfl (d_pick (b := true) (Eq.trans (show ev _ _ = .bool m61.2 from rfl) (congrArg Value.bool hc70)) ?_)
                refine da_op rfl (d_as (v := .bool m71) rfl ?_)
                refine da_nil ?_
                obtain rfl := Option.some.inj hr
                exact ⟨rfl, (Ext.trans (Ext.refl w63) E72)⟩
              · skip
                replace hr := bif_f hr hc70
                refine da_off rfl (Eq.trans (show sl _ _ _ = .bool m61.2 from rfl) (congrArg Value.bool hc70)) (by decide) ?_
                refine da_off rfl (Eq.trans (show sl _ _ _ = .bool m61.2 from rfl) (congrArg Value.bool hc70)) (by decide) ?_
                refine da_off rfl (Eq.trans (show sl _ _ _ = .bool m61.2 from rfl) (congrArg Value.bool hc70)) (by decide) ?_
                refine da_op rfl (d_pick (b := false) (Eq.trans (show ev _ _ = .bool m61.2 from rfl) (congrArg Value.bool hc70)) ?_)
                refine da_op rfl (d_as (v := .bool false) rfl ?_)
                refine da_nil ?_
                obtain rfl := Option.some.inj hr
                exact ⟨rfl, (Ext.refl w63)⟩
            · skip
              replace hr := bif_f hr hc69
              refine da_off rfl (Eq.trans (show sl _ _ _ = .bool m58.2 from rfl) (congrArg Value.bool hc69)) (by decide) ?_
              refine da_op rfl (d_pick (b := false) (Eq.trans (show ev _ _ = .bool m58.2 from rfl) (congrArg Value.bool hc69)) ?_)
              refine da_op rfl (d_mv (v := .bool false) rfl ?_)
              refine da_off rfl rfl (by decide) ?_
              refine da_off rfl rfl (by decide) ?_
              refine da_off rfl rfl (by decide) ?_
              refine da_op rfl (d_pick (b := false) rfl ?_)
              refine da_op rfl (d_as (v := .bool false) rfl ?_)
              refine da_nil ?_
              obtain rfl := Option.some.inj hr
              exact ⟨rfl, (Ext.refl w63)⟩
          · skip
            rintro σ67 w67 o67 ⟨s4_67, E67⟩
            have X74 : Ext w w67 := X66.trans E67
            refine W_ret ?_
            obtain rfl := Option.some.inj hr
            refine ⟨_, res1 (rv_tmp s4_67), ?_⟩
            exact ⟨rfl, X74⟩
end Go.Proofs
