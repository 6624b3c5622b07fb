import Derived.Test.YtdcienojgkioiaaDoorBTCt1
namespace Go.Proofs
open Go Go.Fl Go.RowKit Go.Rg
set_option maxRecDepth 100000
set_option linter.unusedVariables false
attribute [local irreducible] Go.Calls doAll Does DoesG W Wr
set_option maxHeartbeats 4000000 in
theorem c43 (p0 : List UInt8) (r : List Nat × Bool) (w : World) (hr : M.impl_ReadNumbers p0 = some r)  :
    Calls Tryd.prog 43 #[.string (bs p0)] w fun e w' => ∃ q0a : Option Addr, ∃ q0n : Nat, ∃ q0c : Nat, e = .returned (.tuple #[(Value.slice q0a q0n q0c), .bool r.2]) ∧ OS w' 22 encF_f32 (Value.slice q0a q0n q0c) r.1 ∧ (∀ k, (Value.slice q0a q0n q0c).ownBlock = some k → w.heap.size ≤ k) ∧ Ext w w' := by
  refine calls_of_W Tryd.func43 rfl (Nat.le_of_ble_eq_true rfl) ?_
  refine W_seq ?_
  refine W_region rfl ?_
  refine da_op rfl (d_as (v := .slice none 0 0) rfl ?_)
  refine da_op rfl (d_as (v := .bool false) rfl ?_)
  refine da_nil ?_
  refine W_seq ?_
  refine W_region rfl ?_
  refine da_op rfl (d_bslice0 un53 size22 fun w1 B1 E1 => ?_)
  have fr1 : ∀ k, (Value.slice (some ⟨w.heap.size, 0, none⟩) 0 0).ownBlock = some k → w.heap.size ≤ k := fun k hk => by cases hk; exact Nat.le_refl _
  have own1 : ∀ k, (Value.slice (some ⟨w.heap.size, 0, none⟩) 0 0).ownBlock = some k → w.heap.size ≤ k := fun k hk => Nat.le_trans (Ext.refl w).size (fr1 k hk)
  have X2 : Ext w w1 := (Ext.refl w).trans E1
  have O1 : OS w1 22 encF_f32 (Value.slice (some ⟨w.heap.size, 0, none⟩) 0 0) ([] : List Nat) := OS.box (xs := ([] : List Nat)) B1 rfl (Nat.le_of_ble_eq_true rfl)
  refine da_op rfl (d_as (v := (Value.slice (some ⟨w.heap.size, 0, none⟩) 0 0)) rfl ?_)
  refine da_nil ?_
  refine W_seq ?_
  refine W_seq ?_
  refine W_region rfl ?_
  refine da_op rfl (d_mv (v := .string (bs p0)) rfl ?_)
  obtain ⟨m3, hm3, hr⟩ := bind_out hr
  refine da_op rfl (d_cl (vs := [.string (bs p0)]) en100 (ac rfl rfl) rfl ?_)
  refine (c100 p0 m3 w1 hm3 ).mono ?_
  rintro _ w4 ⟨q4_0a, q4_0n, q4_0c, rfl, q4_0R, q4_0F, E4⟩
  refine ⟨_, rfl, ?_⟩
  have own5 : ∀ k, (Value.slice q4_0a q4_0n q4_0c).ownBlock = some k → w.heap.size ≤ k := fun k hk => Nat.le_trans X2.size (q4_0F k hk)
  have sp6 : ∀ k, (Value.slice (some ⟨w.heap.size, 0, none⟩) 0 0).ownBlock = some k → ¬ (Value.slice q4_0a q4_0n q4_0c).ownBlock = some k := apart_fresh O1 q4_0F
  have X7 : Ext w w4 := X2.trans E4
  refine da_op rfl (d_len (e := encS) un34 rfl q4_0R ?_)
  refine da_op rfl (d_mv (v := .int .i64 0) rfl ?_)
  refine da_nil ?_
  refine W_block ?_
  have B9 : OS w4 22 encF_f32 (Value.slice (some ⟨w.heap.size, 0, none⟩) 0 0) ([] : List Nat) := O1.ext E4
  obtain ⟨m8, hm8, hr⟩ := bind_out hr
  refine W_loopM hm8 (fun (s8 : List Nat × Int) σ w' => ∃ i8_0a : Option Addr, ∃ i8_0n : Nat, ∃ i8_0c : Nat, σ 4 = (Value.slice i8_0a i8_0n i8_0c) ∧ σ 13 = .int .i64 s8.2 ∧ σ 11 = (Value.slice q4_0a q4_0n q4_0c) ∧ σ 12 = .int .i64 ((m3).length : Int) ∧ OS w' 22 encF_f32 (Value.slice i8_0a i8_0n i8_0c) s8.1 ∧ (∀ k, (Value.slice i8_0a i8_0n i8_0c).ownBlock = some k → w.heap.size ≤ k) ∧ RS w' encS (Value.slice q4_0a q4_0n q4_0c) m3 ∧ (∀ k, (Value.slice q4_0a q4_0n q4_0c).ownBlock = some k → ¬ (Value.slice i8_0a i8_0n i8_0c).ownBlock = some k) ∧ Ext w w') (fun (e8 : ((List Nat) ⊕ (List Nat × Bool))) ex σ w' => sel e8 (fun e8 => ex = .exit 0 ∧ ∃ q8_0_0a : Option Addr, ∃ q8_0_0n : Nat, ∃ q8_0_0c : Nat, σ 4 = (Value.slice q8_0_0a q8_0_0n q8_0_0c) ∧ OS w' 22 encF_f32 (Value.slice q8_0_0a q8_0_0n q8_0_0c) e8 ∧ (∀ k, (Value.slice q8_0_0a q8_0_0n q8_0_0c).ownBlock = some k → w.heap.size ≤ k) ∧ Ext w w') (fun e8 => ex = .ret ∧ ∃ q8_1_0a : Option Addr, ∃ q8_1_0n : Nat, ∃ q8_1_0c : Nat, σ 2 = (Value.slice q8_1_0a q8_1_0n q8_1_0c) ∧ σ 3 = .bool e8.2 ∧ OS w' 22 encF_f32 (Value.slice q8_1_0a q8_1_0n q8_1_0c) e8.1 ∧ (∀ k, (Value.slice q8_1_0a q8_1_0n q8_1_0c).ownBlock = some k → w.heap.size ≤ k) ∧ Ext w w')) ⟨(some ⟨w.heap.size, 0, none⟩), 0, 0, rfl, rfl, rfl, rfl, B9, own1, q4_0R, (apart_symm sp6), X7⟩ ?_ ?_
  · skip
    rintro s8 σl8 wl8 r8l ⟨i8_0a, i8_0n, i8_0c, i8_S4, i8_S13, i8_S11, i8_S12, i8_0R, i8_0O, i8_K0, i8_A0, i8_X⟩ hr
    refine W_seq ?_
    refine W_region rfl ?_
    refine da_op rfl (d_icmp cLss i8_S13 i8_S12 ?_)
    refine da_nil ?_
    refine W_seq ?_
    refine W_cond (b := (icmp .lss s8.2 ((m3).length : Int))) rfl (fun hc10 => ?_) (fun hc10 => ?_)
    · skip
      replace hr := bif_t hr hc10
      refine W_skip ?_
      refine W_seq ?_
      refine W_block ?_
      refine W_seq ?_
      refine W_region rfl ?_
      obtain ⟨m11, hm11, hr⟩ := bind_out hr
      refine da_op rfl (d_index (e := encS) (v := (Value.slice q4_0a q4_0n q4_0c)) un34 size9 i8_S11 i8_S13 i8_K0 hm11 fun g12 o12 cu12 T12 fr12 vs12 hv12 hg12 hp12 hq12 => ?_)
      obtain rfl := dec_encS hq12
      refine da_op rfl (d_load (v := .string (bs m11)) rfl agg9 hg12 (sub_get (vs := #[.string (bs m11)]) hp12 (i := 0) rfl) ?_)
      refine da_op rfl (d_as (v := .string (bs m11)) rfl ?_)
      refine da_nil ?_
      refine W_seq ?_
      refine W_region rfl ?_
      refine da_op rfl (d_mv (v := .string (bs m11)) rfl ?_)
      obtain ⟨m13, hm13, hr⟩ := bind_out hr
      refine da_op rfl (d_cl (vs := [.string (bs m11)]) en101 (ac rfl rfl) rfl ?_)
      refine (c101 m11 m13 wl8 hm13 ).mono ?_
      rintro _ w14 ⟨q14_0r, rfl, q14_0h, E14⟩
      refine ⟨_, rfl, ?_⟩
      have X15 : Ext w w14 := i8_X.trans E14
      refine da_op rfl (d_mv (v := .tuple #[.float .f32 q14_0r, .bool m13.2]) rfl ?_)
      refine da_op rfl (d_extract (v := .float .f32 q14_0r) rfl rfl ?_)
      refine da_op rfl (d_extract (v := .bool m13.2) rfl rfl ?_)
      refine da_op rfl (d_as (v := .float .f32 q14_0r) rfl ?_)
      refine da_op rfl (d_as (v := .bool m13.2) rfl ?_)
      refine da_nil ?_
      refine W_seq ?_
      refine W_seq ?_
      have B17 : RS w14 encS (Value.slice q4_0a q4_0n q4_0c) m3 := i8_K0.ext E14
      have B18 : OS w14 22 encF_f32 (Value.slice i8_0a i8_0n i8_0c) s8.1 := i8_0R.ext E14
      obtain ⟨m16, hm16, hr⟩ := letv_out hr
      refine W_cut (fun σ' w' => σ' 28 = .bool m16 ∧ Ext w14 w') rfl ?_ ?_
      · skip
        have hr := hm16
        refine da_op rfl (d_mv (v := .bool m13.2) rfl ?_)
        refine da_op rfl (d_not rfl ?_)
        refine da_op rfl (d_mv (v := .bool (!m13.2)) rfl ?_)
        rcases Bool.eq_false_or_eq_true m13.2 with hc19 | hc19
        · skip
          replace hr := bif_t hr hc19
          refine da_on rfl (Eq.trans (show sl _ _ _ = .bool (!m13.2) from rfl) (congrArg Value.bool (congrArg not hc19))) (d_mv (v := (Value.slice i8_0a i8_0n i8_0c)) i8_S4 ?_)
          refine da_on rfl (Eq.trans (show sl _ _ _ = .bool (!m13.2) from rfl) (congrArg Value.bool (congrArg not hc19))) (d_len (e := encF_f32) un53 rfl B18.rs ?_)
          refine da_on rfl (Eq.trans (show sl _ _ _ = .bool (!m13.2) from rfl) (congrArg Value.bool (congrArg not hc19))) (d_icmp cEql rfl rfl ?_)
          refine da_op rfl (d_pick (b := false) (Eq.trans (show ev _ _ = .bool (!m13.2) from rfl) (congrArg Value.bool (congrArg not hc19))) ?_)
          refine da_nil ?_
          subst hr
          exact ⟨rfl, (Ext.refl w14)⟩
        · skip
          replace hr := bif_f hr hc19
          refine da_off rfl (Eq.trans (show sl _ _ _ = .bool (!m13.2) from rfl) (congrArg Value.bool (congrArg not hc19))) (by decide) ?_
          refine da_off rfl (Eq.trans (show sl _ _ _ = .bool (!m13.2) from rfl) (congrArg Value.bool (congrArg not hc19))) (by decide) ?_
          refine da_off rfl (Eq.trans (show sl _ _ _ = .bool (!m13.2) from rfl) (congrArg Value.bool (congrArg not hc19))) (by decide) ?_
          refine da_op rfl (d_pick (b := true) (Eq.trans (show ev _ _ = .bool (!m13.2) from rfl) (congrArg Value.bool (congrArg not hc19))) ?_)
          refine da_nil ?_
          subst hr
          exact ⟨rfl, (Ext.refl w14)⟩
      · skip
        rintro σ16 w16 o16 ⟨s28_16, E16⟩
        have s4_16 : σ16 4 = (Value.slice i8_0a i8_0n i8_0c) := (o16 4 rfl).trans i8_S4
        have s13_16 : σ16 13 = .int .i64 s8.2 := (o16 13 rfl).trans i8_S13
        have s11_16 : σ16 11 = (Value.slice q4_0a q4_0n q4_0c) := (o16 11 rfl).trans i8_S11
        have s12_16 : σ16 12 = .int .i64 ((m3).length : Int) := (o16 12 rfl).trans i8_S12
        have s7_16 : σ16 7 = .float .f32 q14_0r := (o16 7 rfl).trans rfl
        have X20 : Ext w w16 := X15.trans E16
        refine W_cond (b := m16) s28_16 (fun hc21 => ?_) (fun hc21 => ?_)
        · skip
          replace hr := bif_t hr hc21
          refine W_seq ?_
          refine W_region rfl ?_
          refine da_op rfl (d_as (v := .slice none 0 0) rfl ?_)
          refine da_op rfl (d_as (v := .bool false) rfl ?_)
          refine da_nil ?_
          refine W_ret ?_
          obtain rfl := Option.some.inj hr
          exact ⟨_, rfl, rfl, none, 0, 0, rfl, rfl, (OS.nil _ 22 encF_f32), (fun k hk => by cases hk), X20⟩
        · skip
          replace hr := bif_f hr hc21
          refine W_skip ?_
          refine W_region rfl ?_
          refine da_op rfl (d_mv (v := (Value.slice i8_0a i8_0n i8_0c)) s4_16 ?_)
          refine da_op rfl (d_mv (v := .float .f32 q14_0r) s7_16 ?_)
          have B23 : RS w16 encS (Value.slice q4_0a q4_0n q4_0c) m3 := B17.ext E16
          have B24 : OS w16 22 encF_f32 (Value.slice i8_0a i8_0n i8_0c) s8.1 := B18.ext E16
          refine da_op rfl (d_bslice (vs := [(0, .float .f32 q14_0r)]) (cs := #[.float .f32 q14_0r]) un53 (pc rfl rfl) (by kernel_rfl) fun w22 B22 E22 => ?_)
          have fr22 : ∀ k, (Value.slice (some ⟨w16.heap.size, 0, none⟩) 1 1).ownBlock = some k → w16.heap.size ≤ k := fun k hk => by cases hk; exact Nat.le_refl _
          have own22 : ∀ k, (Value.slice (some ⟨w16.heap.size, 0, none⟩) 1 1).ownBlock = some k → w.heap.size ≤ k := fun k hk => Nat.le_trans X20.size (fr22 k hk)
          have sp25 : ∀ k, (Value.slice q4_0a q4_0n q4_0c).ownBlock = some k → ¬ (Value.slice (some ⟨w16.heap.size, 0, none⟩) 1 1).ownBlock = some k := apart_freshR B23 fr22
          have sp26 : ∀ k, (Value.slice i8_0a i8_0n i8_0c).ownBlock = some k → ¬ (Value.slice (some ⟨w16.heap.size, 0, none⟩) 1 1).ownBlock = some k := apart_fresh B24 fr22
          have X27 : Ext w w22 := X20.trans E22
          have O22 : OS w22 22 encF_f32 (Value.slice (some ⟨w16.heap.size, 0, none⟩) 1 1) [m13.1] := OS.box (xs := [m13.1]) B22 (lc_f q14_0h rfl) (Nat.le_of_ble_eq_true rfl)
          obtain ⟨m28, hm28, hr⟩ := bind_out hr
          have B29 : OS w22 22 encF_f32 (Value.slice i8_0a i8_0n i8_0c) s8.1 := B24.ext E22
          have B30 : RS w22 encS (Value.slice q4_0a q4_0n q4_0c) m3 := B23.ext E22
          refine da_op rfl (d_append (e := encF_f32) (v := (Value.slice i8_0a i8_0n i8_0c)) (y := (Value.slice (some ⟨w16.heap.size, 0, none⟩) 1 1)) un53 info22 rfl (by kernel_rfl) (by kernel_rfl) (by decide) (by decide) rfl rfl B29 O22.rs hm28 fun v31 w31 O31 Fm31 at_31 nl31 => ?_)
          obtain ⟨v31pa, v31pn, v31pc, rfl⟩ := O31.vals
          have own31 : ∀ k, (Value.slice v31pa v31pn v31pc).ownBlock = some k → w.heap.size ≤ k := app_own (w := w22) at_31 i8_0O X27.size
          have sp32 : ∀ k, (Value.slice q4_0a q4_0n q4_0c).ownBlock = some k → ¬ (Value.slice v31pa v31pn v31pc).ownBlock = some k := app_nrR at_31 i8_A0 B30
          have sp33 : ∀ k, (Value.slice (some ⟨w16.heap.size, 0, none⟩) 1 1).ownBlock = some k → ¬ (Value.slice v31pa v31pn v31pc).ownBlock = some k := app_nr at_31 (apart_symm sp26) O22
          have X34 : Ext w w31 := Ext.step X27 Fm31 (fun k _ hk => i8_0O k hk)
          refine da_op rfl (d_as (v := (Value.slice v31pa v31pn v31pc)) rfl ?_)
          refine da_nil ?_
          refine W_region rfl ?_
          refine da_op rfl (d_iarith s13_16 rfl (.inl ⟨rfl, rfl⟩) ?_)
          refine da_op rfl (d_mv (v := .int .i64 (IntKind.i64.wrap (s8.2 + 1))) rfl ?_)
          refine da_nil ?_
          have B35 : RS w31 encS (Value.slice q4_0a q4_0n q4_0c) m3 := B30.frm Fm31 (fun k _ => i8_A0 k)
          obtain rfl := Option.some.inj hr
          exact ⟨_, rfl, ⟨v31pa, v31pn, v31pc, rfl, rfl, s11_16, s12_16, O31, own31, B35, sp32, X34⟩⟩
    · skip
      replace hr := bif_f hr hc10
      refine W_exit ?_
      obtain rfl := Option.some.inj hr
      exact ⟨_, rfl, rfl, i8_0a, i8_0n, i8_0c, i8_S4, i8_0R, i8_0O, i8_X⟩
  · skip
    intro ex σx8 wx8 hq
    rcases m8 with m8 | m8
    · skip
      obtain ⟨rfl, q8_0_0a, q8_0_0n, q8_0_0c, q8_0_S4, q8_0_0R, q8_0_0O, q8_0_X⟩ := hq
      refine W_seq ?_
      refine W_region rfl ?_
      refine da_op rfl (d_mv (v := (Value.slice q8_0_0a q8_0_0n q8_0_0c)) q8_0_S4 ?_)
      refine da_op rfl (d_as (v := (Value.slice q8_0_0a q8_0_0n q8_0_0c)) rfl ?_)
      refine da_op rfl (d_as (v := .bool true) rfl ?_)
      refine da_nil ?_
      refine W_ret ?_
      obtain rfl := Option.some.inj hr
      refine ⟨_, res2 (rv_tmp rfl) (rv_tmp rfl), ?_⟩
      exact ⟨q8_0_0a, q8_0_0n, q8_0_0c, rfl, q8_0_0R, q8_0_0O, q8_0_X⟩
    · skip
      obtain ⟨rfl, q8_1_0a, q8_1_0n, q8_1_0c, q8_1_S2, q8_1_S3, q8_1_0R, q8_1_0O, q8_1_X⟩ := hq
      obtain rfl := Option.some.inj hr
      refine ⟨_, res2 (rv_tmp q8_1_S2) (rv_tmp q8_1_S3), ?_⟩
      exact ⟨q8_1_0a, q8_1_0n, q8_1_0c, rfl, q8_1_0R, q8_1_0O, q8_1_X⟩
set_option maxHeartbeats 4000000 in
theorem c67 (p0 : List UInt8) (r : SVector × Bool) (w : World) (hr : M.impl_ReadVector p0 = some r)  :
    Calls Tryd.prog 67 #[.string (bs p0)] w fun e w' => ∃ q0r0 : Nat, ∃ q0r1 : Nat, ∃ q0r2 : Nat, e = .returned (.tuple #[.agg #[.float .f32 q0r0, .float .f32 q0r1, .float .f32 q0r2], .bool r.2]) ∧ cn .f32 q0r0 = r.1.x ∧ cn .f32 q0r1 = r.1.y ∧ cn .f32 q0r2 = r.1.z ∧ Ext w w' := by
  refine calls_of_W Tryd.func67 rfl (Nat.le_of_ble_eq_true rfl) ?_
  refine W_seq ?_
  refine W_region rfl ?_
  refine da_op rfl (d_alloc (cs := #[.float .f32 0, .float .f32 0, .float .f32 0]) zero44 rfl fun w1 B1 E1 => ?_)
  have own2 : w.heap.size ≤ w.heap.size := Nat.le_trans (Ext.refl w).size (Nat.le_refl _)
  have X3 : Ext w w1 := (Ext.refl w).trans E1
  refine da_op rfl (d_as (v := .bool false) rfl ?_)
  refine da_nil ?_
  refine W_seq ?_
  refine W_region rfl ?_
  refine da_op rfl (d_mv (v := .string (bs p0)) rfl ?_)
  obtain ⟨m4, hm4, hr⟩ := bind_out hr
  refine da_op rfl (d_cl (vs := [.string (bs p0)]) en43 (ac rfl rfl) rfl ?_)
  refine (c43 p0 m4 w1 hm4 ).mono ?_
  rintro _ w5 ⟨q5_0a, q5_0n, q5_0c, rfl, q5_0R, q5_0F, E5⟩
  refine ⟨_, rfl, ?_⟩
  have own6 : ∀ k, (Value.slice q5_0a q5_0n q5_0c).ownBlock = some k → w.heap.size ≤ k := fun k hk => Nat.le_trans X3.size (q5_0F k hk)
  have sp7 : ¬ (Value.slice q5_0a q5_0n q5_0c).ownBlock = some w.heap.size := ne_fresh q5_0F (lt_heap B1)
  have X8 : Ext w w5 := X3.trans E5
  refine da_op rfl (d_mv (v := .tuple #[(Value.slice q5_0a q5_0n q5_0c), .bool m4.2]) rfl ?_)
  refine da_op rfl (d_extract (v := (Value.slice q5_0a q5_0n q5_0c)) rfl rfl ?_)
  refine da_op rfl (d_extract (v := .bool m4.2) rfl rfl ?_)
  refine da_op rfl (d_as (v := (Value.slice q5_0a q5_0n q5_0c)) rfl ?_)
  refine da_op rfl (d_as (v := .bool m4.2) rfl ?_)
  refine da_nil ?_
  refine W_seq ?_
  refine W_seq ?_
  have B10 : w5.heap[w.heap.size]? = some (.cells #[.float .f32 0, .float .f32 0, .float .f32 0] 44 (0, 0)) := E5.heap B1
  obtain ⟨m9, hm9, hr⟩ := letv_out hr
  refine W_cut (fun σ' w' => σ' 17 = .bool m9 ∧ Ext w5 w') rfl ?_ ?_
  · skip
    have hr := hm9
    refine da_op rfl (d_mv (v := .bool m4.2) rfl ?_)
    refine da_op rfl (d_not rfl ?_)
    refine da_op rfl (d_mv (v := .bool (!m4.2)) rfl ?_)
    rcases Bool.eq_false_or_eq_true m4.2 with hc11 | hc11
    · skip
      replace hr := bif_t hr hc11
      refine da_on rfl (Eq.trans (show sl _ _ _ = .bool (!m4.2) from rfl) (congrArg Value.bool (congrArg not hc11))) (d_mv (v := (Value.slice q5_0a q5_0n q5_0c)) rfl ?_)
      refine da_on rfl (Eq.trans (show sl _ _ _ = .bool (!m4.2) from rfl) (congrArg Value.bool (congrArg not hc11))) (d_len (e := encF_f32) un53 rfl q5_0R.rs ?_)
      refine da_on rfl (Eq.trans (show sl _ _ _ = .bool (!m4.2) from rfl) (congrArg Value.bool (congrArg not hc11))) (d_icmp cNeq rfl rfl ?_)
      refine da_op rfl (d_pick (b := false) (Eq.trans (show ev _ _ = .bool (!m4.2) from rfl) (congrArg Value.bool (congrArg not hc11))) ?_)
      refine da_nil ?_
      subst hr
      exact ⟨rfl, (Ext.refl w5)⟩
    · skip
      replace hr := bif_f hr hc11
      refine da_off rfl (Eq.trans (show sl _ _ _ = .bool (!m4.2) from rfl) (congrArg Value.bool (congrArg not hc11))) (by decide) ?_
      refine da_off rfl (Eq.trans (show sl _ _ _ = .bool (!m4.2) from rfl) (congrArg Value.bool (congrArg not hc11))) (by decide) ?_
      refine da_off rfl (Eq.trans (show sl _ _ _ = .bool (!m4.2) from rfl) (congrArg Value.bool (congrArg not hc11))) (by decide) ?_
      refine da_op rfl (d_pick (b := true) (Eq.trans (show ev _ _ = .bool (!m4.2) from rfl) (congrArg Value.bool (congrArg not hc11))) ?_)
      refine da_nil ?_
      subst hr
      exact ⟨rfl, (Ext.refl w5)⟩
  · skip
    rintro σ9 w9 o9 ⟨s17_9, E9⟩
    have s2_9 : σ9 2 = .pointer (some ⟨w.heap.size, 0, none⟩) := (o9 2 rfl).trans rfl
    have s4_9 : σ9 4 = (Value.slice q5_0a q5_0n q5_0c) := (o9 4 rfl).trans rfl
    have X12 : Ext w w9 := X8.trans E9
    refine W_cond (b := m9) s17_9 (fun hc13 => ?_) (fun hc13 => ?_)
    · skip
      replace hr := bif_t hr hc13
      refine W_seq ?_
      refine W_region rfl ?_
      refine da_op rfl (d_bd (vs := []) (cs := #[.float .f32 0, .float .f32 0, .float .f32 0]) rfl (by kernel_rfl) ?_)
      have B14 : w9.heap[w.heap.size]? = some (.cells #[.float .f32 0, .float .f32 0, .float .f32 0] 44 (0, 0)) := E9.heap B10
      refine da_op rfl (d_store (vs := #[.float .f32 0, .float .f32 0, .float .f32 0]) s2_9 rfl B14 size44 (Nat.le_of_ble_eq_true rfl) rfl fun w15 S15 => ?_)
      have X16 : Ext w w15 := Ext.step X12 S15.frmb (fun k _ hk => hk ▸ own2)
      have B17 : w15.heap[w.heap.size]? = some (.cells #[.float .f32 0, .float .f32 0, .float .f32 0] 44 (0, 0)) := S15.here
      refine da_op rfl (d_as (v := .bool false) rfl ?_)
      refine da_nil ?_
      refine W_ret ?_
      obtain rfl := Option.some.inj hr
      refine ⟨_, res2 (rv_cells (vs := #[.float .f32 0, .float .f32 0, .float .f32 0]) s2_9 agg44 size44 B17 rfl) (rv_tmp rfl), ?_⟩
      exact ⟨0, 0, 0, rfl, cn_f32_0, cn_f32_0, cn_f32_0, X16⟩
    · skip
      replace hr := bif_f hr hc13
      refine W_skip ?_
      refine W_seq ?_
      have B19 : w9.heap[w.heap.size]? = some (.cells #[.float .f32 0, .float .f32 0, .float .f32 0] 44 (0, 0)) := E9.heap B10
      have B20 : OS w9 22 encF_f32 (Value.slice q5_0a q5_0n q5_0c) m4.1 := q5_0R.ext E9
      obtain ⟨m21, hm21, hr⟩ := bind_out hr
      obtain ⟨m22, hm22, hr⟩ := bind_out hr
      obtain ⟨m23, hm23, hr⟩ := bind_out hr
      refine W_anyT 10 [] [{ V := fun _ v _ => v = (Value.slice q5_0a q5_0n q5_0c) }, { V := fun _ v _ => ∃ d18_1g : Nat, ∃ d18_1o : Nat, v = (.pointer (some ⟨d18_1g, d18_1o, none⟩)) ∧ EL encF_f32 (Value.slice q5_0a q5_0n q5_0c) (m4.1).length 0 d18_1g d18_1o }, { V := fun _ v _ => ∃ d18_1r0 : Nat, v = (.float .f32 d18_1r0) ∧ cn .f32 d18_1r0 = m21 }, { V := fun _ v _ => v = (Value.slice q5_0a q5_0n q5_0c) }, { V := fun _ v _ => ∃ d18_4g : Nat, ∃ d18_4o : Nat, v = (.pointer (some ⟨d18_4g, d18_4o, none⟩)) ∧ EL encF_f32 (Value.slice q5_0a q5_0n q5_0c) (m4.1).length 1 d18_4g d18_4o }, { V := fun _ v _ => ∃ d18_4r0 : Nat, v = (.float .f32 d18_4r0) ∧ cn .f32 d18_4r0 = m22 }, { V := fun _ v _ => v = (Value.slice q5_0a q5_0n q5_0c) }, { V := fun _ v _ => ∃ d18_7g : Nat, ∃ d18_7o : Nat, v = (.pointer (some ⟨d18_7g, d18_7o, none⟩)) ∧ EL encF_f32 (Value.slice q5_0a q5_0n q5_0c) (m4.1).length 2 d18_7g d18_7o }, { V := fun _ v _ => ∃ d18_7r0 : Nat, v = (.float .f32 d18_7r0) ∧ cn .f32 d18_7r0 = m23 }, { V := fun _ v _ => ∃ d18_1r0 : Nat, ∃ d18_4r0 : Nat, ∃ d18_7r0 : Nat, v = (.agg #[.float .f32 d18_1r0, .float .f32 d18_4r0, .float .f32 d18_7r0]) ∧ cn .f32 d18_1r0 = m21 ∧ cn .f32 d18_4r0 = m22 ∧ cn .f32 d18_7r0 = m23 }] mixed (by kernel_rfl) ⟨trivial, trivial, trivial, trivial, trivial, trivial, trivial, trivial, trivial, trivial, trivial⟩ ⟨?_, ?_, ?_, ?_, ?_, ?_, ?_, ?_, ?_, ?_, trivial⟩ ?_
      · skip
        refine ⟨fun _ _ _ _ _ _ h _ => h, fun _ _ h _ => h, fun σ' w' hA hE hD hP => ?_⟩
        have t4 : σ' 4 = (Value.slice q5_0a q5_0n q5_0c) := (hA 4 rfl).trans s4_9
        have B0_24 : OS w' 22 encF_f32 (Value.slice q5_0a q5_0n q5_0c) m4.1 := B20.frm hE (fun k hk => not_oth0)
        refine dg_op rfl (d_mv (v := (Value.slice q5_0a q5_0n q5_0c)) t4 ?_)
        exact ⟨rfl, own_none (Ext.refl w')⟩
      · skip
        refine ⟨fun _ _ _ _ _ _ h _ => h, fun _ _ h _ => h, fun σ' w' hA hE hD hP => ?_⟩
        have t19 : σ' 19 = (Value.slice q5_0a q5_0n q5_0c) := hD 0 rfl
        have B0_25 : OS w' 22 encF_f32 (Value.slice q5_0a q5_0n q5_0c) m4.1 := B20.frm hE (fun k hk => not_oth0)
        refine dg_op rfl (d_indexE (e := encF_f32) (v := (Value.slice q5_0a q5_0n q5_0c)) un53 size22 t19 rfl B0_25.rs hm21 fun g26 o26 l26 => ?_)
        exact ⟨⟨g26, o26, rfl, l26⟩, own_none (Ext.refl _)⟩
      · skip
        refine ⟨fun _ _ _ _ _ _ h _ => h, fun _ _ h _ => h, fun σ' w' hA hE hD hP => ?_⟩
        obtain ⟨d18_1g, d18_1o, t20, d18_1gE⟩ : ∃ d18_1g : Nat, ∃ d18_1o : Nat, σ' 20 = (.pointer (some ⟨d18_1g, d18_1o, none⟩)) ∧ EL encF_f32 (Value.slice q5_0a q5_0n q5_0c) (m4.1).length 0 d18_1g d18_1o := hD 1 rfl
        have B0_27 : OS w' 22 encF_f32 (Value.slice q5_0a q5_0n q5_0c) m4.1 := B20.frm hE (fun k hk => not_oth0)
        obtain ⟨d18_1c, d18_1T, d18_1f, d18_1vs, d18_1hg, d18_1P, d18_1hq⟩ := RS.el B0_27.rs d18_1gE hm21
        obtain ⟨d18_1r0, rfl, d18_1h0⟩ := dec_encF_f32 d18_1hq
        refine dg_op rfl (d_load (v := .float .f32 d18_1r0) t20 agg22 d18_1hg (sub_get (vs := #[.float .f32 d18_1r0]) d18_1P (i := 0) rfl) ?_)
        exact ⟨⟨d18_1r0, rfl, d18_1h0⟩, own_none (Ext.refl w')⟩
      · skip
        refine ⟨fun _ _ _ _ _ _ h _ => h, fun _ _ h _ => h, fun σ' w' hA hE hD hP => ?_⟩
        have t4 : σ' 4 = (Value.slice q5_0a q5_0n q5_0c) := (hA 4 rfl).trans s4_9
        have B0_28 : OS w' 22 encF_f32 (Value.slice q5_0a q5_0n q5_0c) m4.1 := B20.frm hE (fun k hk => not_oth0)
        refine dg_op rfl (d_mv (v := (Value.slice q5_0a q5_0n q5_0c)) t4 ?_)
        exact ⟨rfl, own_none (Ext.refl w')⟩
      · skip
        refine ⟨fun _ _ _ _ _ _ h _ => h, fun _ _ h _ => h, fun σ' w' hA hE hD hP => ?_⟩
        have t22 : σ' 22 = (Value.slice q5_0a q5_0n q5_0c) := hD 3 rfl
        have B0_29 : OS w' 22 encF_f32 (Value.slice q5_0a q5_0n q5_0c) m4.1 := B20.frm hE (fun k hk => not_oth0)
        refine dg_op rfl (d_indexE (e := encF_f32) (v := (Value.slice q5_0a q5_0n q5_0c)) un53 size22 t22 rfl B0_29.rs hm22 fun g30 o30 l30 => ?_)
        exact ⟨⟨g30, o30, rfl, l30⟩, own_none (Ext.refl _)⟩
      · skip
        refine ⟨fun _ _ _ _ _ _ h _ => h, fun _ _ h _ => h, fun σ' w' hA hE hD hP => ?_⟩
        obtain ⟨d18_4g, d18_4o, t23, d18_4gE⟩ : ∃ d18_4g : Nat, ∃ d18_4o : Nat, σ' 23 = (.pointer (some ⟨d18_4g, d18_4o, none⟩)) ∧ EL encF_f32 (Value.slice q5_0a q5_0n q5_0c) (m4.1).length 1 d18_4g d18_4o := hD 4 rfl
        have B0_31 : OS w' 22 encF_f32 (Value.slice q5_0a q5_0n q5_0c) m4.1 := B20.frm hE (fun k hk => not_oth0)
        obtain ⟨d18_4c, d18_4T, d18_4f, d18_4vs, d18_4hg, d18_4P, d18_4hq⟩ := RS.el B0_31.rs d18_4gE hm22
        obtain ⟨d18_4r0, rfl, d18_4h0⟩ := dec_encF_f32 d18_4hq
        refine dg_op rfl (d_load (v := .float .f32 d18_4r0) t23 agg22 d18_4hg (sub_get (vs := #[.float .f32 d18_4r0]) d18_4P (i := 0) rfl) ?_)
        exact ⟨⟨d18_4r0, rfl, d18_4h0⟩, own_none (Ext.refl w')⟩
      · skip
        refine ⟨fun _ _ _ _ _ _ h _ => h, fun _ _ h _ => h, fun σ' w' hA hE hD hP => ?_⟩
        have t4 : σ' 4 = (Value.slice q5_0a q5_0n q5_0c) := (hA 4 rfl).trans s4_9
        have B0_32 : OS w' 22 encF_f32 (Value.slice q5_0a q5_0n q5_0c) m4.1 := B20.frm hE (fun k hk => not_oth0)
        refine dg_op rfl (d_mv (v := (Value.slice q5_0a q5_0n q5_0c)) t4 ?_)
        exact ⟨rfl, own_none (Ext.refl w')⟩
      · skip
        refine ⟨fun _ _ _ _ _ _ h _ => h, fun _ _ h _ => h, fun σ' w' hA hE hD hP => ?_⟩
        have t25 : σ' 25 = (Value.slice q5_0a q5_0n q5_0c) := hD 6 rfl
        have B0_33 : OS w' 22 encF_f32 (Value.slice q5_0a q5_0n q5_0c) m4.1 := B20.frm hE (fun k hk => not_oth0)
        refine dg_op rfl (d_indexE (e := encF_f32) (v := (Value.slice q5_0a q5_0n q5_0c)) un53 size22 t25 rfl B0_33.rs hm23 fun g34 o34 l34 => ?_)
        exact ⟨⟨g34, o34, rfl, l34⟩, own_none (Ext.refl _)⟩
      · skip
        refine ⟨fun _ _ _ _ _ _ h _ => h, fun _ _ h _ => h, fun σ' w' hA hE hD hP => ?_⟩
        obtain ⟨d18_7g, d18_7o, t26, d18_7gE⟩ : ∃ d18_7g : Nat, ∃ d18_7o : Nat, σ' 26 = (.pointer (some ⟨d18_7g, d18_7o, none⟩)) ∧ EL encF_f32 (Value.slice q5_0a q5_0n q5_0c) (m4.1).length 2 d18_7g d18_7o := hD 7 rfl
        have B0_35 : OS w' 22 encF_f32 (Value.slice q5_0a q5_0n q5_0c) m4.1 := B20.frm hE (fun k hk => not_oth0)
        obtain ⟨d18_7c, d18_7T, d18_7f, d18_7vs, d18_7hg, d18_7P, d18_7hq⟩ := RS.el B0_35.rs d18_7gE hm23
        obtain ⟨d18_7r0, rfl, d18_7h0⟩ := dec_encF_f32 d18_7hq
        refine dg_op rfl (d_load (v := .float .f32 d18_7r0) t26 agg22 d18_7hg (sub_get (vs := #[.float .f32 d18_7r0]) d18_7P (i := 0) rfl) ?_)
        exact ⟨⟨d18_7r0, rfl, d18_7h0⟩, own_none (Ext.refl w')⟩
      · skip
        refine ⟨fun _ _ _ _ _ _ h _ => h, fun _ _ h _ => h, fun σ' w' hA hE hD hP => ?_⟩
        obtain ⟨d18_1r0, t21, d18_1h0⟩ : ∃ d18_1r0 : Nat, σ' 21 = (.float .f32 d18_1r0) ∧ cn .f32 d18_1r0 = m21 := hD 2 rfl
        obtain ⟨d18_4r0, t24, d18_4h0⟩ : ∃ d18_4r0 : Nat, σ' 24 = (.float .f32 d18_4r0) ∧ cn .f32 d18_4r0 = m22 := hD 5 rfl
        obtain ⟨d18_7r0, t27, d18_7h0⟩ : ∃ d18_7r0 : Nat, σ' 27 = (.float .f32 d18_7r0) ∧ cn .f32 d18_7r0 = m23 := hD 8 rfl
        refine dg_op rfl (d_bd (vs := [(0, .float .f32 d18_1r0), (1, .float .f32 d18_4r0), (2, .float .f32 d18_7r0)]) (cs := #[.float .f32 d18_1r0, .float .f32 d18_4r0, .float .f32 d18_7r0]) (pc t21 (pc t24 (pc t27 rfl))) (by kernel_rfl) ?_)
        exact ⟨⟨d18_1r0, d18_4r0, d18_7r0, rfl, d18_1h0, d18_4h0, d18_7h0⟩, own_none (Ext.refl w')⟩
      · skip
        intro σ18 w18 A18 E18 V18
        have E18x : Ext w9 w18 := ext_of_oth0 E18
        obtain ⟨z18_28_1r0, z18_28_4r0, z18_28_7r0, s28_18, z18_28_1h0, z18_28_4h0, z18_28_7h0⟩ : ∃ z18_28_1r0 : Nat, ∃ z18_28_4r0 : Nat, ∃ z18_28_7r0 : Nat, σ18 28 = (.agg #[.float .f32 z18_28_1r0, .float .f32 z18_28_4r0, .float .f32 z18_28_7r0]) ∧ cn .f32 z18_28_1r0 = m21 ∧ cn .f32 z18_28_4r0 = m22 ∧ cn .f32 z18_28_7r0 = m23 := V18 9 (Nat.le_of_ble_eq_true rfl)
        have s2_18 : σ18 2 = .pointer (some ⟨w.heap.size, 0, none⟩) := (A18 2 rfl).trans s2_9
        have X36 : Ext w w18 := X12.trans E18x
        have B37 : w18.heap[w.heap.size]? = some (.cells #[.float .f32 0, .float .f32 0, .float .f32 0] 44 (0, 0)) := E18x.heap B19
        refine da_op rfl (d_store (vs := #[.float .f32 z18_28_1r0, .float .f32 z18_28_4r0, .float .f32 z18_28_7r0]) s2_18 (congrArg Value.cells s28_18) B37 size44 (Nat.le_of_ble_eq_true rfl) rfl fun w38 S38 => ?_)
        have X39 : Ext w w38 := Ext.step X36 S38.frmb (fun k _ hk => hk ▸ own2)
        have B40 : w38.heap[w.heap.size]? = some (.cells #[.float .f32 z18_28_1r0, .float .f32 z18_28_4r0, .float .f32 z18_28_7r0] 44 (0, 0)) := S38.here
        refine da_op rfl (d_as (v := .bool true) rfl ?_)
        refine da_nil ?_
        refine W_ret ?_
        obtain rfl := Option.some.inj hr
        refine ⟨_, res2 (rv_cells (vs := #[.float .f32 z18_28_1r0, .float .f32 z18_28_4r0, .float .f32 z18_28_7r0]) s2_18 agg44 size44 B40 rfl) (rv_tmp rfl), ?_⟩
        exact ⟨z18_28_1r0, z18_28_4r0, z18_28_7r0, rfl, z18_28_1h0, z18_28_4h0, z18_28_7h0, X39⟩
set_option maxHeartbeats 4000000 in
theorem c49 (p0 : List UInt8) (p1 : Int) (r : List Nat × Bool) (w : World) (hr : M.impl_exactly p0 p1 = some r)  :
    Calls Tryd.prog 49 #[.string (bs p0), .int .i64 p1] w fun e w' => ∃ q0a : Option Addr, ∃ q0n : Nat, ∃ q0c : Nat, e = .returned (.tuple #[(Value.slice q0a q0n q0c), .bool r.2]) ∧ OS w' 22 encF_f32 (Value.slice q0a q0n q0c) r.1 ∧ (∀ k, (Value.slice q0a q0n q0c).ownBlock = some k → w.heap.size ≤ k) ∧ Ext w w' := by
  refine calls_of_W Tryd.func49 rfl (Nat.le_of_ble_eq_true rfl) ?_
  refine W_seq ?_
  refine W_region rfl ?_
  refine da_op rfl (d_as (v := .slice none 0 0) rfl ?_)
  refine da_op rfl (d_as (v := .bool false) rfl ?_)
  refine da_nil ?_
  refine W_seq ?_
  refine W_region rfl ?_
  refine da_op rfl (d_mv (v := .string (bs p0)) rfl ?_)
  obtain ⟨m1, hm1, hr⟩ := bind_out hr
  refine da_op rfl (d_cl (vs := [.string (bs p0)]) en43 (ac rfl rfl) rfl ?_)
  refine (c43 p0 m1 w hm1 ).mono ?_
  rintro _ w2 ⟨q2_0a, q2_0n, q2_0c, rfl, q2_0R, q2_0F, E2⟩
  refine ⟨_, rfl, ?_⟩
  have own3 : ∀ k, (Value.slice q2_0a q2_0n q2_0c).ownBlock = some k → w.heap.size ≤ k := fun k hk => Nat.le_trans (Ext.refl w).size (q2_0F k hk)
  have X4 : Ext w w2 := (Ext.refl w).trans E2
  refine da_op rfl (d_mv (v := .tuple #[(Value.slice q2_0a q2_0n q2_0c), .bool m1.2]) rfl ?_)
  refine da_op rfl (d_extract (v := (Value.slice q2_0a q2_0n q2_0c)) rfl rfl ?_)
  refine da_op rfl (d_extract (v := .bool m1.2) rfl rfl ?_)
  refine da_op rfl (d_as (v := (Value.slice q2_0a q2_0n q2_0c)) rfl ?_)
  refine da_op rfl (d_as (v := .bool m1.2) rfl ?_)
  refine da_nil ?_
  refine W_seq ?_
  refine W_seq ?_
  obtain ⟨m5, hm5, hr⟩ := letv_out hr
  refine W_cut (fun σ' w' => σ' 20 = .bool m5 ∧ Ext w2 w') rfl ?_ ?_
  · skip
    have hr := hm5
    refine da_op rfl (d_mv (v := .bool m1.2) rfl ?_)
    refine da_op rfl (d_not rfl ?_)
    refine da_op rfl (d_mv (v := .bool (!m1.2)) rfl ?_)
    rcases Bool.eq_false_or_eq_true m1.2 with hc6 | hc6
    · skip
      replace hr := bif_t hr hc6
      refine da_on rfl (Eq.trans (show sl _ _ _ = .bool (!m1.2) from rfl) (congrArg Value.bool (congrArg not hc6))) (d_mv (v := (Value.slice q2_0a q2_0n q2_0c)) rfl ?_)
      refine da_on rfl (Eq.trans (show sl _ _ _ = .bool (!m1.2) from rfl) (congrArg Value.bool (congrArg not hc6))) (d_len (e := encF_f32) un53 rfl q2_0R.rs ?_)
      refine da_on rfl (Eq.trans (show sl _ _ _ = .bool (!m1.2) from rfl) (congrArg Value.bool (congrArg not hc6))) (d_mv (v := .int .i64 p1) rfl ?_)
      refine da_on rfl (Eq.trans (show sl _ _ _ = .bool (!m1.2) from rfl) (congrArg Value.bool (congrArg not hc6))) (d_icmp cNeq rfl rfl ?_)
      refine da_op rfl (d_pick (b := false) (Eq.trans (show ev _ _ = .bool (!m1.2) from rfl) (congrArg Value.bool (congrArg not hc6))) ?_)
      refine da_nil ?_
      subst hr
      exact ⟨rfl, (Ext.refl w2)⟩
    · skip
      replace hr := bif_f hr hc6
      refine da_off rfl (Eq.trans (show sl _ _ _ = .bool (!m1.2) from rfl) (congrArg Value.bool (congrArg not hc6))) (by decide) ?_
      refine da_off rfl (Eq.trans (show sl _ _ _ = .bool (!m1.2) from rfl) (congrArg Value.bool (congrArg not hc6))) (by decide) ?_
      refine da_off rfl (Eq.trans (show sl _ _ _ = .bool (!m1.2) from rfl) (congrArg Value.bool (congrArg not hc6))) (by decide) ?_
      refine da_off rfl (Eq.trans (show sl _ _ _ = .bool (!m1.2) from rfl) (congrArg Value.bool (congrArg not hc6))) (by decide) ?_
      refine da_op rfl (d_pick (b := true) (Eq.trans (show ev _ _ = .bool (!m1.2) from rfl) (congrArg Value.bool (congrArg not hc6))) ?_)
      refine da_nil ?_
      subst hr
      exact ⟨rfl, (Ext.refl w2)⟩
  · skip
    rintro σ5 w5 o5 ⟨s20_5, E5⟩
    have s1_5 : σ5 1 = .int .i64 p1 := (o5 1 rfl).trans rfl
    have s6_5 : σ5 6 = (Value.slice q2_0a q2_0n q2_0c) := (o5 6 rfl).trans rfl
    have X7 : Ext w w5 := X4.trans E5
    refine W_cond (b := m5) s20_5 (fun hc8 => ?_) (fun hc8 => ?_)
    · skip
      replace hr := bif_t hr hc8
      refine W_seq ?_
      refine W_region rfl ?_
      refine da_op rfl (d_mv (v := .int .i64 p1) s1_5 ?_)
      obtain ⟨m9, hm9, hr⟩ := bind_out hr
      have B10 : OS w5 22 encF_f32 (Value.slice q2_0a q2_0n q2_0c) m1.1 := q2_0R.ext E5
      refine da_op rfl (d_make (e := encF_f32) un53 info22 rfl (by kernel_rfl) (by kernel_rfl) (by decide) (by decide) rfl rfl hm9 fun v11 w11 O11 E11 fr11 => ?_)
      obtain ⟨v11pa, v11pn, v11pc, rfl⟩ := O11.vals
      have own11 : ∀ k, (Value.slice v11pa v11pn v11pc).ownBlock = some k → w.heap.size ≤ k := fun k hk => Nat.le_trans X7.size (fr11 k hk)
      have sp12 : ∀ k, (Value.slice q2_0a q2_0n q2_0c).ownBlock = some k → ¬ (Value.slice v11pa v11pn v11pc).ownBlock = some k := apart_fresh B10 fr11
      have X13 : Ext w w11 := X7.trans E11
      refine da_op rfl (d_as (v := (Value.slice v11pa v11pn v11pc)) rfl ?_)
      refine da_op rfl (d_as (v := .bool false) rfl ?_)
      refine da_nil ?_
      refine W_ret ?_
      obtain rfl := Option.some.inj hr
      refine ⟨_, res2 (rv_tmp rfl) (rv_tmp rfl), ?_⟩
      exact ⟨v11pa, v11pn, v11pc, rfl, O11, own11, X13⟩
    · skip
      replace hr := bif_f hr hc8
      refine W_skip ?_
      refine W_seq ?_
      refine W_region rfl ?_
      refine da_op rfl (d_mv (v := (Value.slice q2_0a q2_0n q2_0c)) s6_5 ?_)
      refine da_op rfl (d_as (v := (Value.slice q2_0a q2_0n q2_0c)) rfl ?_)
      refine da_op rfl (d_as (v := .bool true) rfl ?_)
      refine da_nil ?_
      refine W_ret ?_
      have B14 : OS w5 22 encF_f32 (Value.slice q2_0a q2_0n q2_0c) m1.1 := q2_0R.ext E5
      obtain rfl := Option.some.inj hr
      refine ⟨_, res2 (rv_tmp rfl) (rv_tmp rfl), ?_⟩
      exact ⟨q2_0a, q2_0n, q2_0c, rfl, B14, own3, X7⟩
set_option maxHeartbeats 4000000 in
theorem c130 (p0 : Nat) (p0r : Nat) (r : Bool) (w : World) (hr : M.impl_IsFinite p0 = r) (p0h : cn .f32 p0r = p0) :
    Calls Tryd.prog 130 #[.float .f32 p0r] w fun e w' => e = .returned (.bool r) ∧ Ext w w' := by
  refine calls_of_W Tryd.func130 rfl (Nat.le_of_ble_eq_true rfl) ?_
  refine W_seq ?_
  refine W_region rfl ?_
  refine da_op rfl (d_as (v := .bool false) rfl ?_)
  refine da_nil ?_
  refine W_seq ?_
  refine W_region rfl ?_
  refine da_op rfl (d_mv (v := .float .f32 p0r) rfl ?_)
  refine da_op rfl (d_mv (v := .float .f32 p0r) rfl ?_)
  refine da_op rfl (d_fop (k := .f32) fSub rfl rfl p0h p0h fun r1 w1 h1 _ E1 => ?_)
  have X2 : Ext w w1 := (Ext.refl w).trans E1
  refine da_op rfl (d_fcmp (k := .f32) cEql rfl rfl h1 cn_f32_0 ?_)
  refine da_op rfl (d_as (v := .bool (fcmp .eql .f32 (fop .sub .f32 p0 p0) 0)) rfl ?_)
  refine da_nil ?_
  refine W_ret ?_
  subst hr
  refine ⟨_, res1 (rv_tmp rfl), ?_⟩
  exact ⟨rfl, X2⟩
set_option maxHeartbeats 4000000 in
theorem c123 (p0 : Nat) (p0r : Nat) (r : Bool) (w : World) (hr : M.impl_lengthOk p0 = r) (p0h : cn .f32 p0r = p0) :
    Calls Tryd.prog 123 #[.float .f32 p0r] w fun e w' => e = .returned (.bool r) ∧ Ext w w' := by
  refine calls_of_W Tryd.func123 rfl (Nat.le_of_ble_eq_true rfl) ?_
  refine W_seq ?_
  refine W_region rfl ?_
  refine da_op rfl (d_as (v := .bool false) rfl ?_)
  refine da_nil ?_
  refine W_seq ?_
  obtain ⟨m1, hm1, hr⟩ := letv_out hr
  refine W_cut (fun σ' w' => σ' 2 = .bool m1 ∧ Ext w w') rfl ?_ ?_
  · skip
    have hr := hm1
    refine da_op rfl (d_mv (v := .float .f32 p0r) rfl ?_)
    obtain ⟨m2, hm2, hr⟩ := letv_out hr
    refine da_op rfl (d_cl (vs := [.float .f32 p0r]) en130 (ac rfl rfl) rfl ?_)
    refine (c130 p0 p0r m2 w hm2 p0h).mono ?_
    rintro _ w3 ⟨rfl, E3⟩
    refine ⟨_, rfl, ?_⟩
    have X4 : Ext w w3 := (Ext.refl w).trans E3
    refine da_op rfl (d_mv (v := .bool m2) rfl ?_)
    rcases Bool.eq_false_or_eq_true m2 with hc5 | hc5
    · skip
      replace hr := bif_t hr hc5
      refine da_on rfl (Eq.trans (show sl _ _ _ = .bool m2 from rfl) (congrArg Value.bool hc5)) (d_mv (v := .float .f32 p0r) rfl ?_)
      refine da_on rfl (Eq.trans (show sl _ _ _ = .bool m2 from rfl) (congrArg Value.bool hc5)) (d_fcmp (k := .f32) cGtr rfl rfl p0h cn_f32_0 ?_)
      refine da_op rfl (d_pick (b := true) (Eq.trans (show ev _ _ = .bool m2 from rfl) (congrArg Value.bool hc5)) ?_)
      refine da_op rfl (d_as (v := .bool (fcmp .gtr .f32 p0 0)) rfl ?_)
      refine da_nil ?_
      subst hr
      exact ⟨rfl, (Ext.trans (Ext.refl w) E3)⟩
    · skip
      replace hr := bif_f hr hc5
      refine da_off rfl (Eq.trans (show sl _ _ _ = .bool m2 from rfl) (congrArg Value.bool hc5)) (by decide) ?_
      refine da_off rfl (Eq.trans (show sl _ _ _ = .bool m2 from rfl) (congrArg Value.bool hc5)) (by decide) ?_
      refine da_op rfl (d_pick (b := false) (Eq.trans (show ev _ _ = .bool m2 from rfl) (congrArg Value.bool hc5)) ?_)
      refine da_op rfl (d_as (v := .bool false) rfl ?_)
      refine da_nil ?_
      subst hr
      exact ⟨rfl, (Ext.trans (Ext.refl w) E3)⟩
  · skip
    rintro σ1 w1 o1 ⟨s2_1, E1⟩
    have X6 : Ext w w1 := (Ext.refl w).trans E1
    refine W_ret ?_
    subst hr
    refine ⟨_, res1 (rv_tmp s2_1), ?_⟩
    exact ⟨rfl, X6⟩
set_option maxHeartbeats 4000000 in
theorem c172 (p0 : SSpin) (p0b p0o : Nat) (p0c : Array Value) (p0T : TypeId) (p0f : Nat × Nat) (p0r0 : Nat) (p0r1 : Nat) (p0r2 : Nat) (p0r3 : Nat) (r : List Nat) (w : World) (hr : M.impl_Spin_numbers p0 = r) (p0h0 : cn .f32 p0r0 = p0.w) (p0h1 : cn .f32 p0r1 = p0.x) (p0h2 : cn .f32 p0r2 = p0.y) (p0h3 : cn .f32 p0r3 = p0.z) (p0B : w.heap[p0b]? = some (.cells p0c p0T p0f)) (p0P : (p0c.toList.drop p0o).take 4 = [.float .f32 p0r0, .float .f32 p0r1, .float .f32 p0r2, .float .f32 p0r3]) :
    Calls Tryd.prog 172 #[.pointer (some ⟨p0b, p0o, none⟩)] w fun e w' => ∃ q0a : Option Addr, ∃ q0n : Nat, ∃ q0c : Nat, e = .returned ((Value.slice q0a q0n q0c)) ∧ OS w' 22 encF_f32 (Value.slice q0a q0n q0c) r ∧ (∀ k, (Value.slice q0a q0n q0c).ownBlock = some k → w.heap.size ≤ k) ∧ Ext w w' := by
  refine calls_of_W Tryd.func172 rfl (Nat.le_of_ble_eq_true rfl) ?_
  refine W_seq ?_
  refine W_region rfl ?_
  refine da_op rfl (d_as (v := .slice none 0 0) rfl ?_)
  refine da_nil ?_
  refine W_seq ?_
  refine W_any [] [{ V := fun _ v _ => v = (.pointer (some ⟨p0b, p0o, none⟩)) }, { V := fun _ v _ => v = (.pointer (some ⟨p0b, p0o, none⟩)) }, { V := fun _ v _ => v = (.pointer (some ⟨p0b, p0o, none⟩)) }, { V := fun _ v _ => v = (.float .f32 p0r0) }, { V := fun _ v _ => v = (.pointer (some ⟨p0b, p0o, none⟩)) }, { V := fun _ v _ => v = (.pointer (some ⟨p0b, p0o, none⟩)) }, { V := fun _ v _ => v = (.pointer (some ⟨p0b, p0o + 1, none⟩)) }, { V := fun _ v _ => v = (.float .f32 p0r1) }, { V := fun _ v _ => v = (.pointer (some ⟨p0b, p0o, none⟩)) }, { V := fun _ v _ => v = (.pointer (some ⟨p0b, p0o, none⟩)) }, { V := fun _ v _ => v = (.pointer (some ⟨p0b, p0o + 2, none⟩)) }, { V := fun _ v _ => v = (.float .f32 p0r2) }, { V := fun _ v _ => v = (.pointer (some ⟨p0b, p0o, none⟩)) }, { V := fun _ v _ => v = (.pointer (some ⟨p0b, p0o, none⟩)) }, { V := fun _ v _ => v = (.pointer (some ⟨p0b, p0o + 3, none⟩)) }, { V := fun _ v _ => v = (.float .f32 p0r3) }, { V := fun _ v w' => ∃ d1_16a : Option Addr, ∃ d1_16n : Nat, ∃ d1_16c : Nat, v = (Value.slice d1_16a d1_16n d1_16c) ∧ (∀ k, (Value.slice d1_16a d1_16n d1_16c).ownBlock = some k → w.heap.size ≤ k) ∧ OS w' 22 encF_f32 (Value.slice d1_16a d1_16n d1_16c) ([p0.w, p0.x, p0.y, p0.z]) }, { V := fun _ v w' => ∃ d1_16a : Option Addr, ∃ d1_16n : Nat, ∃ d1_16c : Nat, v = (Value.slice d1_16a d1_16n d1_16c) ∧ (∀ k, (Value.slice d1_16a d1_16n d1_16c).ownBlock = some k → w.heap.size ≤ k) ∧ OS w' 22 encF_f32 (Value.slice d1_16a d1_16n d1_16c) ([p0.w, p0.x, p0.y, p0.z]) }] mixed (by kernel_rfl) ⟨trivial, trivial, trivial, trivial, trivial, trivial, trivial, trivial, trivial, trivial, trivial, trivial, trivial, trivial, trivial, trivial, trivial, trivial, trivial⟩ ⟨?_, ?_, ?_, ?_, ?_, ?_, ?_, ?_, ?_, ?_, ?_, ?_, ?_, ?_, ?_, ?_, ?_, ?_, trivial⟩ ?_
  · skip
    refine ⟨fun _ _ _ _ _ _ h _ => h, fun _ _ h _ => h, fun σ' w' hA hE hD hP => ?_⟩
    have t0 : σ' 0 = .pointer (some ⟨p0b, p0o, none⟩) := (hA 0 rfl).trans rfl
    have B0_2 : w'.heap[p0b]? = some (.cells p0c p0T p0f) := hE.heap not_oth0 p0B
    refine dg_op rfl (d_mv (v := .pointer (some ⟨p0b, p0o, none⟩)) t0 ?_)
    exact ⟨rfl, own_none (Ext.refl w')⟩
  · skip
    refine ⟨fun _ _ _ _ _ _ h _ => h, fun _ _ h _ => h, fun σ' w' hA hE hD hP => ?_⟩
    have t3 : σ' 3 = (.pointer (some ⟨p0b, p0o, none⟩)) := hD 0 rfl
    have B0_3 : w'.heap[p0b]? = some (.cells p0c p0T p0f) := hE.heap not_oth0 p0B
    refine dg_op rfl (d_nil t3 ?_)
    exact ⟨rfl, own_none (Ext.refl w')⟩
  · skip
    refine ⟨fun _ _ _ _ _ _ h _ => h, fun _ _ h _ => h, fun σ' w' hA hE hD hP => ?_⟩
    have t4 : σ' 4 = (.pointer (some ⟨p0b, p0o, none⟩)) := hD 1 rfl
    have B0_4 : w'.heap[p0b]? = some (.cells p0c p0T p0f) := hE.heap not_oth0 p0B
    refine dg_op rfl (d_fieldAddr t4 (fa46_0 _ _) ?_)
    exact ⟨rfl, own_none (Ext.refl w')⟩
  · skip
    refine ⟨fun _ _ _ _ _ _ h _ => h, fun _ _ h _ => h, fun σ' w' hA hE hD hP => ?_⟩
    have t5 : σ' 5 = (.pointer (some ⟨p0b, p0o, none⟩)) := hD 2 rfl
    have B0_5 : w'.heap[p0b]? = some (.cells p0c p0T p0f) := hE.heap not_oth0 p0B
    refine dg_op rfl (d_load (v := .float .f32 p0r0) t5 agg22 B0_5 (sub_get (vs := #[.float .f32 p0r0, .float .f32 p0r1, .float .f32 p0r2, .float .f32 p0r3]) p0P (i := 0) rfl) ?_)
    exact ⟨rfl, own_none (Ext.refl w')⟩
  · skip
    refine ⟨fun _ _ _ _ _ _ h _ => h, fun _ _ h _ => h, fun σ' w' hA hE hD hP => ?_⟩
    have t0 : σ' 0 = .pointer (some ⟨p0b, p0o, none⟩) := (hA 0 rfl).trans rfl
    have B0_6 : w'.heap[p0b]? = some (.cells p0c p0T p0f) := hE.heap not_oth0 p0B
    refine dg_op rfl (d_mv (v := .pointer (some ⟨p0b, p0o, none⟩)) t0 ?_)
    exact ⟨rfl, own_none (Ext.refl w')⟩
  · skip
    refine ⟨fun _ _ _ _ _ _ h _ => h, fun _ _ h _ => h, fun σ' w' hA hE hD hP => ?_⟩
    have t7 : σ' 7 = (.pointer (some ⟨p0b, p0o, none⟩)) := hD 4 rfl
    have B0_7 : w'.heap[p0b]? = some (.cells p0c p0T p0f) := hE.heap not_oth0 p0B
    refine dg_op rfl (d_nil t7 ?_)
    exact ⟨rfl, own_none (Ext.refl w')⟩
  · skip
    refine ⟨fun _ _ _ _ _ _ h _ => h, fun _ _ h _ => h, fun σ' w' hA hE hD hP => ?_⟩
    have t8 : σ' 8 = (.pointer (some ⟨p0b, p0o, none⟩)) := hD 5 rfl
    have B0_8 : w'.heap[p0b]? = some (.cells p0c p0T p0f) := hE.heap not_oth0 p0B
    refine dg_op rfl (d_fieldAddr t8 (fa46_1 _ _) ?_)
    exact ⟨rfl, own_none (Ext.refl w')⟩
  · skip
    refine ⟨fun _ _ _ _ _ _ h _ => h, fun _ _ h _ => h, fun σ' w' hA hE hD hP => ?_⟩
    have t9 : σ' 9 = (.pointer (some ⟨p0b, p0o + 1, none⟩)) := hD 6 rfl
    have B0_9 : w'.heap[p0b]? = some (.cells p0c p0T p0f) := hE.heap not_oth0 p0B
    refine dg_op rfl (d_load (v := .float .f32 p0r1) t9 agg22 B0_9 (sub_get (vs := #[.float .f32 p0r0, .float .f32 p0r1, .float .f32 p0r2, .float .f32 p0r3]) p0P (i := 1) rfl) ?_)
    exact ⟨rfl, own_none (Ext.refl w')⟩
  · skip
    refine ⟨fun _ _ _ _ _ _ h _ => h, fun _ _ h _ => h, fun σ' w' hA hE hD hP => ?_⟩
    have t0 : σ' 0 = .pointer (some ⟨p0b, p0o, none⟩) := (hA 0 rfl).trans rfl
    have B0_10 : w'.heap[p0b]? = some (.cells p0c p0T p0f) := hE.heap not_oth0 p0B
    refine dg_op rfl (d_mv (v := .pointer (some ⟨p0b, p0o, none⟩)) t0 ?_)
    exact ⟨rfl, own_none (Ext.refl w')⟩
  · skip
    refine ⟨fun _ _ _ _ _ _ h _ => h, fun _ _ h _ => h, fun σ' w' hA hE hD hP => ?_⟩
    have t11 : σ' 11 = (.pointer (some ⟨p0b, p0o, none⟩)) := hD 8 rfl
    have B0_11 : w'.heap[p0b]? = some (.cells p0c p0T p0f) := hE.heap not_oth0 p0B
    refine dg_op rfl (d_nil t11 ?_)
    exact ⟨rfl, own_none (Ext.refl w')⟩
  · skip
    refine ⟨fun _ _ _ _ _ _ h _ => h, fun _ _ h _ => h, fun σ' w' hA hE hD hP => ?_⟩
    have t12 : σ' 12 = (.pointer (some ⟨p0b, p0o, none⟩)) := hD 9 rfl
    have B0_12 : w'.heap[p0b]? = some (.cells p0c p0T p0f) := hE.heap not_oth0 p0B
    refine dg_op rfl (d_fieldAddr t12 (fa46_2 _ _) ?_)
    exact ⟨rfl, own_none (Ext.refl w')⟩
  · skip
    refine ⟨fun _ _ _ _ _ _ h _ => h, fun _ _ h _ => h, fun σ' w' hA hE hD hP => ?_⟩
    have t13 : σ' 13 = (.pointer (some ⟨p0b, p0o + 2, none⟩)) := hD 10 rfl
    have B0_13 : w'.heap[p0b]? = some (.cells p0c p0T p0f) := hE.heap not_oth0 p0B
    refine dg_op rfl (d_load (v := .float .f32 p0r2) t13 agg22 B0_13 (sub_get (vs := #[.float .f32 p0r0, .float .f32 p0r1, .float .f32 p0r2, .float .f32 p0r3]) p0P (i := 2) rfl) ?_)
    exact ⟨rfl, own_none (Ext.refl w')⟩
  · skip
    refine ⟨fun _ _ _ _ _ _ h _ => h, fun _ _ h _ => h, fun σ' w' hA hE hD hP => ?_⟩
    have t0 : σ' 0 = .pointer (some ⟨p0b, p0o, none⟩) := (hA 0 rfl).trans rfl
    have B0_14 : w'.heap[p0b]? = some (.cells p0c p0T p0f) := hE.heap not_oth0 p0B
    refine dg_op rfl (d_mv (v := .pointer (some ⟨p0b, p0o, none⟩)) t0 ?_)
    exact ⟨rfl, own_none (Ext.refl w')⟩
  · skip
    refine ⟨fun _ _ _ _ _ _ h _ => h, fun _ _ h _ => h, fun σ' w' hA hE hD hP => ?_⟩
    have t15 : σ' 15 = (.pointer (some ⟨p0b, p0o, none⟩)) := hD 12 rfl
    have B0_15 : w'.heap[p0b]? = some (.cells p0c p0T p0f) := hE.heap not_oth0 p0B
    refine dg_op rfl (d_nil t15 ?_)
    exact ⟨rfl, own_none (Ext.refl w')⟩
  · skip
    refine ⟨fun _ _ _ _ _ _ h _ => h, fun _ _ h _ => h, fun σ' w' hA hE hD hP => ?_⟩
    have t16 : σ' 16 = (.pointer (some ⟨p0b, p0o, none⟩)) := hD 13 rfl
    have B0_16 : w'.heap[p0b]? = some (.cells p0c p0T p0f) := hE.heap not_oth0 p0B
    refine dg_op rfl (d_fieldAddr t16 (fa46_3 _ _) ?_)
    exact ⟨rfl, own_none (Ext.refl w')⟩
  · skip
    refine ⟨fun _ _ _ _ _ _ h _ => h, fun _ _ h _ => h, fun σ' w' hA hE hD hP => ?_⟩
    have t17 : σ' 17 = (.pointer (some ⟨p0b, p0o + 3, none⟩)) := hD 14 rfl
    have B0_17 : w'.heap[p0b]? = some (.cells p0c p0T p0f) := hE.heap not_oth0 p0B
    refine dg_op rfl (d_load (v := .float .f32 p0r3) t17 agg22 B0_17 (sub_get (vs := #[.float .f32 p0r0, .float .f32 p0r1, .float .f32 p0r2, .float .f32 p0r3]) p0P (i := 3) rfl) ?_)
    exact ⟨rfl, own_none (Ext.refl w')⟩
  · skip
    refine ⟨fun _ _ _ w' w'' _ ⟨d1_16a, d1_16n, d1_16c, hv, d1_16L, d1_16R⟩ hF => ⟨d1_16a, d1_16n, d1_16c, hv, d1_16L, d1_16R.frm hF (fun k hk => not_oth0)⟩, fun _ _ h _ => h, fun σ' w' hA hE hD hP => ?_⟩
    have t6 : σ' 6 = (.float .f32 p0r0) := hD 3 rfl
    have t10 : σ' 10 = (.float .f32 p0r1) := hD 7 rfl
    have t14 : σ' 14 = (.float .f32 p0r2) := hD 11 rfl
    have t18 : σ' 18 = (.float .f32 p0r3) := hD 15 rfl
    refine dg_op rfl (d_bslice (vs := [(0, .float .f32 p0r0), (1, .float .f32 p0r1), (2, .float .f32 p0r2), (3, .float .f32 p0r3)]) (cs := #[.float .f32 p0r0, .float .f32 p0r1, .float .f32 p0r2, .float .f32 p0r3]) un53 (pc t6 (pc t10 (pc t14 (pc t18 rfl)))) (by kernel_rfl) fun w18 B18 E18 => ?_)
    have fr18 : ∀ k, (Value.slice (some ⟨w'.heap.size, 0, none⟩) 4 4).ownBlock = some k → w'.heap.size ≤ k := fun k hk => by cases hk; exact Nat.le_refl _
    have X19 : Ext w' w18 := (Ext.refl w').trans E18
    have O18 : OS w18 22 encF_f32 (Value.slice (some ⟨w'.heap.size, 0, none⟩) 4 4) [p0.w, p0.x, p0.y, p0.z] := OS.box (xs := [p0.w, p0.x, p0.y, p0.z]) B18 (lc_f p0h0 (lc_f p0h1 (lc_f p0h2 (lc_f p0h3 rfl)))) (Nat.le_of_ble_eq_true rfl)
    exact ⟨⟨(some ⟨w'.heap.size, 0, none⟩), 4, 4, rfl, (fun k hk => Nat.le_trans hE.size (fr18 k hk)), O18⟩, own_none X19⟩
  · skip
    refine ⟨fun _ _ _ w' w'' _ ⟨d1_16a, d1_16n, d1_16c, hv, d1_16L, d1_16R⟩ hF => ⟨d1_16a, d1_16n, d1_16c, hv, d1_16L, d1_16R.frm hF (fun k hk => not_oth0)⟩, fun _ _ h _ => h, fun σ' w' hA hE hD hP => ?_⟩
    obtain ⟨d1_16a, d1_16n, d1_16c, t19, d1_16L, d1_16R⟩ : ∃ d1_16a : Option Addr, ∃ d1_16n : Nat, ∃ d1_16c : Nat, σ' 19 = (Value.slice d1_16a d1_16n d1_16c) ∧ (∀ k, (Value.slice d1_16a d1_16n d1_16c).ownBlock = some k → w.heap.size ≤ k) ∧ OS w' 22 encF_f32 (Value.slice d1_16a d1_16n d1_16c) ([p0.w, p0.x, p0.y, p0.z]) := hD 16 rfl
    refine dg_op rfl (d_as (v := (Value.slice d1_16a d1_16n d1_16c)) t19 ?_)
    exact ⟨⟨d1_16a, d1_16n, d1_16c, rfl, d1_16L, d1_16R⟩, own_none (Ext.refl w')⟩
  · skip
    intro σ1 w1 A1 E1 V1
    have E1x : Ext w w1 := ext_of_oth0 E1
    obtain ⟨z1_2_16a, z1_2_16n, z1_2_16c, s2_1, z1_2_16L, z1_2_16R⟩ : ∃ z1_2_16a : Option Addr, ∃ z1_2_16n : Nat, ∃ z1_2_16c : Nat, σ1 2 = (Value.slice z1_2_16a z1_2_16n z1_2_16c) ∧ (∀ k, (Value.slice z1_2_16a z1_2_16n z1_2_16c).ownBlock = some k → w.heap.size ≤ k) ∧ OS w1 22 encF_f32 (Value.slice z1_2_16a z1_2_16n z1_2_16c) ([p0.w, p0.x, p0.y, p0.z]) := V1 17 (Nat.le_of_ble_eq_true rfl)
    have own20 : ∀ k, (Value.slice z1_2_16a z1_2_16n z1_2_16c).ownBlock = some k → w.heap.size ≤ k := fun k hk => Nat.le_trans (Ext.refl w).size (z1_2_16L k hk)
    have X21 : Ext w w1 := (Ext.refl w).trans E1x
    refine W_ret ?_
    subst hr
    refine ⟨_, res1 (rv_tmp s2_1), ?_⟩
    exact ⟨z1_2_16a, z1_2_16n, z1_2_16c, rfl, z1_2_16R, own20, X21⟩
set_option maxHeartbeats 4000000 in
theorem c161 (p0 : Nat) (p0r : Nat) (r : Bool) (w : World) (hr : M.impl_finite_1 p0 = r) (p0h : cn .f32 p0r = p0) :
    Calls Tryd.prog 161 #[.float .f32 p0r] w fun e w' => e = .returned (.bool r) ∧ Ext w w' := by
  refine calls_of_W Tryd.func161 rfl (Nat.le_of_ble_eq_true rfl) ?_
  refine W_seq ?_
  refine W_region rfl ?_
  refine da_op rfl (d_as (v := .bool false) rfl ?_)
  refine da_nil ?_
  refine W_seq ?_
  refine W_region rfl ?_
  refine da_op rfl (d_mv (v := .float .f32 p0r) rfl ?_)
  obtain ⟨m1, hm1, hr⟩ := letv_out hr
  refine da_op rfl (d_cl (vs := [.float .f32 p0r]) en130 (ac rfl rfl) rfl ?_)
  refine (c130 p0 p0r m1 w hm1 p0h).mono ?_
  rintro _ w2 ⟨rfl, E2⟩
  refine ⟨_, rfl, ?_⟩
  have X3 : Ext w w2 := (Ext.refl w).trans E2
  refine da_op rfl (d_not rfl ?_)
  refine da_op rfl (d_as (v := .bool (!m1)) rfl ?_)
  refine da_nil ?_
  refine W_ret ?_
  subst hr
  refine ⟨_, res1 (rv_tmp rfl), ?_⟩
  exact ⟨rfl, X3⟩
set_option maxHeartbeats 4000000 in
theorem c179_f161 (p0 : List Nat) (p0a : Option Addr) (p0n : Nat) (p0c : Nat) (r : Int) (w : World) (hr : M.slices_IndexFunc___float32_float32__f161 p0 = some r) (p0R : RS w encF_f32 (Value.slice p0a p0n p0c) p0) :
    Calls Tryd.prog 179 #[(Value.slice p0a p0n p0c), .func (.func 161) #[] #[]] w fun e w' => e = .returned (.int .i64 r) ∧ Ext w w' := by
  refine calls_of_W Tryd.func179 rfl (Nat.le_of_ble_eq_true rfl) ?_
  refine W_seq ?_
  refine W_region rfl ?_
  refine da_op rfl (d_as (v := .int .i64 0) rfl ?_)
  refine da_nil ?_
  refine W_seq ?_
  refine W_seq ?_
  refine W_region rfl ?_
  refine da_op rfl (d_mv (v := (Value.slice p0a p0n p0c)) rfl ?_)
  refine da_op rfl (d_len (e := encF_f32) un53 rfl p0R ?_)
  refine da_op rfl (d_mv (v := .int .i64 0) rfl ?_)
  refine da_nil ?_
  refine W_block ?_
  obtain ⟨m1, hm1, hr⟩ := bind_out hr
  refine W_loopM hm1 (fun (s1 : Int) σ w' => σ 8 = .int .i64 s1 ∧ σ 0 = (Value.slice p0a p0n p0c) ∧ σ 1 = .func (.func 161) #[] #[] ∧ σ 7 = .int .i64 ((p0).length : Int) ∧ Ext w w') (fun (e1 : (Unit ⊕ Int)) ex σ w' => sel e1 (fun e1 => ex = .exit 0 ∧ Ext w w') (fun e1 => ex = .ret ∧ σ 4 = .int .i64 e1 ∧ Ext w w')) ⟨rfl, rfl, rfl, rfl, (Ext.refl w)⟩ ?_ ?_
  · skip
    rintro s1 σl1 wl1 r1l ⟨i1_S8, i1_S0, i1_S1, i1_S7, i1_X⟩ hr
    refine W_seq ?_
    refine W_region rfl ?_
    refine da_op rfl (d_icmp cLss i1_S8 i1_S7 ?_)
    refine da_nil ?_
    refine W_seq ?_
    refine W_cond (b := (icmp .lss s1 ((p0).length : Int))) rfl (fun hc2 => ?_) (fun hc2 => ?_)
    · skip
      replace hr := bif_t hr hc2
      refine W_skip ?_
      refine W_seq ?_
      refine W_block ?_
      refine W_seq ?_
      refine W_region rfl ?_
      refine da_op rfl (d_mv (v := .int .i64 s1) i1_S8 ?_)
      refine da_op rfl (d_as (v := .int .i64 s1) rfl ?_)
      refine da_nil ?_
      refine W_seq ?_
      refine W_region rfl ?_
      refine da_op rfl (d_mv (v := .func (.func 161) #[] #[]) i1_S1 ?_)
      refine da_op rfl (d_mv (v := (Value.slice p0a p0n p0c)) i1_S0 ?_)
      refine da_op rfl (d_mv (v := .int .i64 s1) rfl ?_)
      obtain ⟨m3, hm3, hr⟩ := bind_out hr
      have B5 : RS wl1 encF_f32 (Value.slice p0a p0n p0c) p0 := p0R.ext i1_X
      refine da_op rfl (d_index (e := encF_f32) (v := (Value.slice p0a p0n p0c)) un53 size22 rfl rfl B5 hm3 fun g4 o4 cu4 T4 fr4 vs4 hv4 hg4 hp4 hq4 => ?_)
      obtain ⟨e4_r0, rfl, e4_h0⟩ := dec_encF_f32 hq4
      refine da_op rfl (d_load (v := .float .f32 e4_r0) rfl agg22 hg4 (sub_get (vs := #[.float .f32 e4_r0]) hp4 (i := 0) rfl) ?_)
      obtain ⟨m6, hm6, hr⟩ := letv_out hr
      refine da_op rfl (d_clv (vs := [.float .f32 e4_r0]) (cap := []) en161 rfl (ac rfl rfl) ?_)
      refine (c161 m3 e4_r0 m6 wl1 hm6 e4_h0).mono ?_
      rintro _ w7 ⟨rfl, E7⟩
      refine ⟨_, rfl, ?_⟩
      have X8 : Ext w w7 := i1_X.trans E7
      refine da_nil ?_
      refine W_cond (b := m6) rfl (fun hc9 => ?_) (fun hc9 => ?_)
      · skip
        replace hr := bif_t hr hc9
        refine W_seq ?_
        refine W_region rfl ?_
        refine da_op rfl (d_mv (v := .int .i64 s1) rfl ?_)
        refine da_op rfl (d_as (v := .int .i64 s1) rfl ?_)
        refine da_nil ?_
        refine W_ret ?_
        obtain rfl := Option.some.inj hr
        exact ⟨_, rfl, rfl, rfl, X8⟩
      · skip
        replace hr := bif_f hr hc9
        refine W_skip ?_
        refine W_region rfl ?_
        refine da_op rfl (d_iarith i1_S8 rfl (.inl ⟨rfl, rfl⟩) ?_)
        refine da_op rfl (d_mv (v := .int .i64 (IntKind.i64.wrap (s1 + 1))) rfl ?_)
        refine da_nil ?_
        obtain rfl := Option.some.inj hr
        exact ⟨_, rfl, ⟨rfl, i1_S0, i1_S1, i1_S7, X8⟩⟩
    · skip
      replace hr := bif_f hr hc2
      refine W_exit ?_
      obtain rfl := Option.some.inj hr
      exact ⟨_, rfl, rfl, i1_X⟩
  · skip
    intro ex σx1 wx1 hq
    rcases m1 with m1 | m1
    · skip
      obtain ⟨rfl, q1_0_X⟩ := hq
      refine W_seq ?_
      refine W_region rfl ?_
      refine da_op rfl (d_as (v := .int .i64 (-1)) rfl ?_)
      refine da_nil ?_
      refine W_ret ?_
      obtain rfl := Option.some.inj hr
      refine ⟨_, res1 (rv_tmp rfl), ?_⟩
      exact ⟨rfl, q1_0_X⟩
    · skip
      obtain ⟨rfl, q1_1_S4, q1_1_X⟩ := hq
      obtain rfl := Option.some.inj hr
      refine ⟨_, res1 (rv_tmp q1_1_S4), ?_⟩
      exact ⟨rfl, q1_1_X⟩
set_option maxHeartbeats 4000000 in
theorem c142_f161 (p0 : List Nat) (p0a : Option Addr) (p0n : Nat) (p0c : Nat) (r : Bool) (w : World) (hr : M.slices_ContainsFunc___float32_float32__f161 p0 = some r) (p0R : RS w encF_f32 (Value.slice p0a p0n p0c) p0) :
    Calls Tryd.prog 142 #[(Value.slice p0a p0n p0c), .func (.func 161) #[] #[]] w fun e w' => e = .returned (.bool r) ∧ Ext w w' := by
  refine calls_of_W Tryd.func142 rfl (Nat.le_of_ble_eq_true rfl) ?_
  refine W_seq ?_
  refine W_region rfl ?_
  refine da_op rfl (d_as (v := .bool false) rfl ?_)
  refine da_nil ?_
  refine W_seq ?_
  refine W_region rfl ?_
  refine da_op rfl (d_mv (v := (Value.slice p0a p0n p0c)) rfl ?_)
  refine da_op rfl (d_mv (v := .func (.func 161) #[] #[]) rfl ?_)
  obtain ⟨m1, hm1, hr⟩ := bind_out hr
  refine da_op rfl (d_cl (vs := [(Value.slice p0a p0n p0c), .func (.func 161) #[] #[]]) en179 (ac rfl (ac rfl rfl)) rfl ?_)
  refine (c179_f161 p0 p0a p0n p0c m1 w hm1 p0R).mono ?_
  rintro _ w2 ⟨rfl, E2⟩
  refine ⟨_, rfl, ?_⟩
  have X3 : Ext w w2 := (Ext.refl w).trans E2
  refine da_op rfl (d_icmp cGeq rfl rfl ?_)
  refine da_op rfl (d_as (v := .bool (icmp .geq m1 0)) rfl ?_)
  refine da_nil ?_
  refine W_ret ?_
  obtain rfl := Option.some.inj hr
  refine ⟨_, res1 (rv_tmp rfl), ?_⟩
  exact ⟨rfl, X3⟩
set_option maxHeartbeats 4000000 in
theorem c107 (p0 : List Nat) (p0a : Option Addr) (p0n : Nat) (p0c : Nat) (r : Bool) (w : World) (hr : M.impl_finite p0 = some r) (p0R : RS w encF_f32 (Value.slice p0a p0n p0c) p0) :
    Calls Tryd.prog 107 #[(Value.slice p0a p0n p0c)] w fun e w' => e = .returned (.bool r) ∧ Ext w w' := by
  refine calls_of_W Tryd.func107 rfl (Nat.le_of_ble_eq_true rfl) ?_
  refine W_seq ?_
  refine W_region rfl ?_
  refine da_op rfl (d_as (v := .bool false) rfl ?_)
  refine da_nil ?_
  refine W_seq ?_
  refine W_region rfl ?_
  refine da_op rfl (d_mv (v := (Value.slice p0a p0n p0c)) rfl ?_)
  obtain ⟨m1, hm1, hr⟩ := bind_out hr
  refine da_op rfl (d_cl (vs := [(Value.slice p0a p0n p0c), .func (.func 161) #[] #[]]) en142 (ac rfl (ac rfl rfl)) rfl ?_)
  refine (c142_f161 p0 p0a p0n p0c m1 w hm1 p0R).mono ?_
  rintro _ w2 ⟨rfl, E2⟩
  refine ⟨_, rfl, ?_⟩
  have X3 : Ext w w2 := (Ext.refl w).trans E2
  refine da_op rfl (d_not rfl ?_)
  refine da_op rfl (d_as (v := .bool (!m1)) rfl ?_)
  refine da_nil ?_
  refine W_ret ?_
  obtain rfl := Option.some.inj hr
  refine ⟨_, res1 (rv_tmp rfl), ?_⟩
  exact ⟨rfl, X3⟩
set_option maxHeartbeats 4000000 in
theorem c124 (p0 : SSpin) (p0r0 : Nat) (p0r1 : Nat) (p0r2 : Nat) (p0r3 : Nat) (r : Bool) (w : World) (hr : M.impl_IsSpin p0 = some r) (p0h0 : cn .f32 p0r0 = p0.w) (p0h1 : cn .f32 p0r1 = p0.x) (p0h2 : cn .f32 p0r2 = p0.y) (p0h3 : cn .f32 p0r3 = p0.z) :
    Calls Tryd.prog 124 #[.agg #[.float .f32 p0r0, .float .f32 p0r1, .float .f32 p0r2, .float .f32 p0r3]] w fun e w' => e = .returned (.bool r) ∧ Ext w w' := by
  refine calls_of_W Tryd.func124 rfl (Nat.le_of_ble_eq_true rfl) ?_
  refine W_seq ?_
  refine W_region rfl ?_
  refine da_op rfl (d_box (cs := #[.float .f32 p0r0, .float .f32 p0r1, .float .f32 p0r2, .float .f32 p0r3]) rfl fun w1 B1 E1 => ?_)
  have own2 : w.heap.size ≤ w.heap.size := Nat.le_trans (Ext.refl w).size (Nat.le_refl _)
  have X3 : Ext w w1 := (Ext.refl w).trans E1
  refine da_op rfl (d_as (v := .bool false) rfl ?_)
  refine da_nil ?_
  refine W_seq ?_
  obtain ⟨m4, hm4, hr⟩ := bind_out hr
  refine W_cut (fun σ' w' => σ' 2 = .bool m4 ∧ Ext w1 w') rfl ?_ ?_
  · skip
    have hr := hm4
    obtain ⟨m5, hm5, hr⟩ := letv_out hr
    refine da_op rfl (d_cl (vs := [.pointer (some ⟨w.heap.size, 0, none⟩)]) en172 (ac rfl rfl) rfl ?_)
    refine (c172 p0 w.heap.size 0 #[.float .f32 p0r0, .float .f32 p0r1, .float .f32 p0r2, .float .f32 p0r3] 46 (0, 0) p0r0 p0r1 p0r2 p0r3 m5 w1 hm5 p0h0 p0h1 p0h2 p0h3 B1 rfl).mono ?_
    rintro _ w6 ⟨q6_0a, q6_0n, q6_0c, rfl, q6_0R, q6_0F, E6⟩
    refine ⟨_, rfl, ?_⟩
    have own7 : ∀ k, (Value.slice q6_0a q6_0n q6_0c).ownBlock = some k → w.heap.size ≤ k := fun k hk => Nat.le_trans X3.size (q6_0F k hk)
    have sp8 : ¬ (Value.slice q6_0a q6_0n q6_0c).ownBlock = some w.heap.size := ne_fresh q6_0F (lt_heap B1)
    have X9 : Ext w w6 := X3.trans E6
    obtain ⟨m10, hm10, hr⟩ := bind_out hr
    have B11 : w6.heap[w.heap.size]? = some (.cells #[.float .f32 p0r0, .float .f32 p0r1, .float .f32 p0r2, .float .f32 p0r3] 46 (0, 0)) := E6.heap B1
    refine da_op rfl (d_cl (vs := [(Value.slice q6_0a q6_0n q6_0c)]) en107 (ac rfl rfl) rfl ?_)
    refine (c107 m5 q6_0a q6_0n q6_0c m10 w6 hm10 q6_0R.rs).mono ?_
    rintro _ w12 ⟨rfl, E12⟩
    refine ⟨_, rfl, ?_⟩
    have X13 : Ext w w12 := X9.trans E12
    refine da_op rfl (d_mv (v := .bool m10) rfl ?_)
    rcases Bool.eq_false_or_eq_true m10 with hc14 | hc14
    · skip
      replace hr := bif_t hr hc14
      refine da_on rfl (Eq.trans (show sl _ _ _ = .bool m10 from rfl) (congrArg Value.bool hc14)) (d_fieldAddr rfl (fa46_0 _ _) ?_)
      have B15 : w12.heap[w.heap.size]? = some (.cells #[.float .f32 p0r0, .float .f32 p0r1, .float .f32 p0r2, .float .f32 p0r3] 46 (0, 0)) := E12.heap B11
      refine da_on rfl (Eq.trans (show sl _ _ _ = .bool m10 from rfl) (congrArg Value.bool hc14)) (d_load (v := .float .f32 p0r0) rfl agg22 B15 rfl ?_)
      refine da_on rfl (Eq.trans (show sl _ _ _ = .bool m10 from rfl) (congrArg Value.bool hc14)) (d_fcmp (k := .f32) cNeq rfl rfl p0h0 cn_f32_0 ?_)
      refine da_on rfl (Eq.trans (show sl _ _ _ = .bool m10 from rfl) (congrArg Value.bool hc14)) (d_mv (v := .bool (fcmp .neq .f32 p0.w 0)) rfl ?_)
      rcases Bool.eq_false_or_eq_true (fcmp .neq .f32 p0.w 0) with hc16 | hc16
      · skip
        replace hr := bif_t hr hc16
        refine da_off rfl (Eq.trans (show sl _ _ _ = .bool (fcmp .neq .f32 p0.w 0) from rfl) (congrArg Value.bool hc16)) (by decide) ?_
        refine da_off rfl (Eq.trans (show sl _ _ _ = .bool (fcmp .neq .f32 p0.w 0) from rfl) (congrArg Value.bool hc16)) (by decide) ?_
        refine da_off rfl (Eq.trans (show sl _ _ _ = .bool (fcmp .neq .f32 p0.w 0) from rfl) (congrArg Value.bool hc16)) (by decide) ?_
        refine da_on rfl (Eq.trans (show sl _ _ _ = .bool m10 from rfl) (congrArg Value.bool hc14)) (d_pick (b := true) (Eq.trans (show ev _ _ = .bool (fcmp .neq .f32 p0.w 0) from rfl) (congrArg Value.bool hc16)) ?_)
        refine da_on rfl (Eq.trans (show sl _ _ _ = .bool m10 from rfl) (congrArg Value.bool hc14)) (d_mv (v := .bool true) rfl ?_)
        refine da_off rfl rfl (by decide) ?_
        refine da_off rfl rfl (by decide) ?_
        refine da_off rfl rfl (by decide) ?_
        refine da_on rfl (Eq.trans (show sl _ _ _ = .bool m10 from rfl) (congrArg Value.bool hc14)) (d_pick (b := true) rfl ?_)
        refine da_on rfl (Eq.trans (show sl _ _ _ = .bool m10 from rfl) (congrArg Value.bool hc14)) (d_mv (v := .bool true) rfl ?_)
        refine da_off rfl rfl (by decide) ?_
        refine da_off rfl rfl (by decide) ?_
        refine da_off rfl rfl (by decide) ?_
        refine da_on rfl (Eq.trans (show sl _ _ _ = .bool m10 from rfl) (congrArg Value.bool hc14)) (d_pick (b := true) rfl ?_)
        refine da_op rfl (d_pick (b := true) (Eq.trans (show ev _ _ = .bool m10 from rfl) (congrArg Value.bool hc14)) ?_)
        refine da_op rfl (d_as (v := .bool true) rfl ?_)
        refine da_nil ?_
        obtain rfl := Option.some.inj hr
        exact ⟨rfl, (Ext.trans (Ext.trans (Ext.refl w1) E6) E12)⟩
      · skip
        replace hr := bif_f hr hc16
        refine da_on rfl (Eq.trans (show sl _ _ _ = .bool (fcmp .neq .f32 p0.w 0) from rfl) (congrArg Value.bool hc16)) (d_fieldAddr rfl (fa46_1 _ _) ?_)
        refine da_on rfl (Eq.trans (show sl _ _ _ = .bool (fcmp .neq .f32 p0.w 0) from rfl) (congrArg Value.bool hc16)) (d_load (v := .float .f32 p0r1) rfl agg22 B15 rfl ?_)
        refine da_on rfl (Eq.trans (show sl _ _ _ = .bool (fcmp .neq .f32 p0.w 0) from rfl) (congrArg Value.bool hc16)) (d_fcmp (k := .f32) cNeq rfl rfl p0h1 cn_f32_0 ?_)
        refine da_on rfl (Eq.trans (show sl _ _ _ = .bool m10 from rfl) (congrArg Value.bool hc14)) (d_pick (b := false) (Eq.trans (show ev _ _ = .bool (fcmp .neq .f32 p0.w 0) from rfl) (congrArg Value.bool hc16)) ?_)
        refine da_on rfl (Eq.trans (show sl _ _ _ = .bool m10 from rfl) (congrArg Value.bool hc14)) (d_mv (v := .bool (fcmp .neq .f32 p0.x 0)) rfl ?_)
        rcases Bool.eq_false_or_eq_true (fcmp .neq .f32 p0.x 0) with hc17 | hc17
        · skip
          replace hr := bif_t hr hc17
          refine da_off rfl (Eq.trans (show sl _ _ _ = .bool (fcmp .neq .f32 p0.x 0) from rfl) (congrArg Value.bool hc17)) (by decide) ?_
          refine da_off rfl (Eq.trans (show sl _ _ _ = .bool (fcmp .neq .f32 p0.x 0) from rfl) (congrArg Value.bool hc17)) (by decide) ?_
          refine da_off rfl (Eq.trans (show sl _ _ _ = .bool (fcmp .neq .f32 p0.x 0) from rfl) (congrArg Value.bool hc17)) (by decide) ?_
          refine da_on rfl (Eq.trans (show sl _ _ _ = .bool m10 from rfl) (congrArg Value.bool hc14)) (d_pick (b := true) (Eq.trans (show ev _ _ = .bool (fcmp .neq .f32 p0.x 0) from rfl) (congrArg Value.bool hc17)) ?_)
          refine da_on rfl (Eq.trans (show sl _ _ _ = .bool m10 from rfl) (congrArg Value.bool hc14)) (d_mv (v := .bool true) rfl ?_)
          refine da_off rfl rfl (by decide) ?_
          refine da_off rfl rfl (by decide) ?_
          refine da_off rfl rfl (by decide) ?_
          refine da_on rfl (Eq.trans (show sl _ _ _ = .bool m10 from rfl) (congrArg Value.bool hc14)) (d_pick (b := true) rfl ?_)
          refine da_op rfl (d_pick (b := true) (Eq.trans (show ev _ _ = .bool m10 from rfl) (congrArg Value.bool hc14)) ?_)
          refine da_op rfl (d_as (v := .bool true) rfl ?_)
          refine da_nil ?_
          obtain rfl := Option.some.inj hr
          exact ⟨rfl, (Ext.trans (Ext.trans (Ext.refl w1) E6) E12)⟩
        · skip
          replace hr := bif_f hr hc17
          refine da_on rfl (Eq.trans (show sl _ _ _ = .bool (fcmp .neq .f32 p0.x 0) from rfl) (congrArg Value.bool hc17)) (d_fieldAddr rfl (fa46_2 _ _) ?_)
          refine da_on rfl (Eq.trans (show sl _ _ _ = .bool (fcmp .neq .f32 p0.x 0) from rfl) (congrArg Value.bool hc17)) (d_load (v := .float .f32 p0r2) rfl agg22 B15 rfl ?_)
          refine da_on rfl (Eq.trans (show sl _ _ _ = .bool (fcmp .neq .f32 p0.x 0) from rfl) (congrArg Value.bool hc17)) (d_fcmp (k := .f32) cNeq rfl rfl p0h2 cn_f32_0 ?_)
          refine da_on rfl (Eq.trans (show sl _ _ _ = .bool m10 from rfl) (congrArg Value.bool hc14)) (d_pick (b := false) (Eq.trans (show ev _ _ = .bool (fcmp .neq .f32 p0.x 0) from rfl) (congrArg Value.bool hc17)) ?_)
          refine da_on rfl (Eq.trans (show sl _ _ _ = .bool m10 from rfl) (congrArg Value.bool hc14)) (d_mv (v := .bool (fcmp .neq .f32 p0.y 0)) rfl ?_)
          rcases Bool.eq_false_or_eq_true (fcmp .neq .f32 p0.y 0) with hc18 | hc18
          · skip
            replace hr := bif_t hr hc18
            refine da_off rfl (Eq.trans (show sl _ _ _ = .bool (fcmp .neq .f32 p0.y 0) from rfl) (congrArg Value.bool hc18)) (by decide) ?_
            refine da_off rfl (Eq.trans (show sl _ _ _ = .bool (fcmp .neq .f32 p0.y 0) from rfl) (congrArg Value.bool hc18)) (by decide) ?_
            refine da_off rfl (Eq.trans (show sl _ _ _ = .bool (fcmp .neq .f32 p0.y 0) from rfl) (congrArg Value.bool hc18)) (by decide) ?_
            refine da_on rfl (Eq.trans (show sl _ _ _ = .bool m10 from rfl) (congrArg Value.bool hc14)) (d_pick (b := true) (Eq.trans (show ev _ _ = .bool (fcmp .neq .f32 p0.y 0) from rfl) (congrArg Value.bool hc18)) ?_)
            refine da_op rfl (d_pick (b := true) (Eq.trans (show ev _ _ = .bool m10 from rfl) (congrArg Value.bool hc14)) ?_)
            refine da_op rfl (d_as (v := .bool true) rfl ?_)
            refine da_nil ?_
            obtain rfl := Option.some.inj hr
            exact ⟨rfl, (Ext.trans (Ext.trans (Ext.refl w1) E6) E12)⟩
          · skip
            replace hr := bif_f hr hc18
            refine da_on rfl (Eq.trans (show sl _ _ _ = .bool (fcmp .neq .f32 p0.y 0) from rfl) (congrArg Value.bool hc18)) (d_fieldAddr rfl (fa46_3 _ _) ?_)
            refine da_on rfl (Eq.trans (show sl _ _ _ = .bool (fcmp .neq .f32 p0.y 0) from rfl) (congrArg Value.bool hc18)) (d_load (v := .float .f32 p0r3) rfl agg22 B15 rfl ?_)
            refine da_on rfl (Eq.trans (show sl _ _ _ = .bool (fcmp .neq .f32 p0.y 0) from rfl) (congrArg Value.bool hc18)) (d_fcmp (k := .f32) cNeq rfl rfl p0h3 cn_f32_0 ?_)
            refine da_on rfl (Eq.trans (show sl _ _ _ = .bool m10 from rfl) (congrArg Value.bool hc14)) (d_pick (b := false) (Eq.trans (show ev _ _ = .bool (fcmp .neq .f32 p0.y 0) from rfl) (congrArg Value.bool hc18)) ?_)
            refine da_op rfl (d_pick (b := true) (Eq.trans (show ev _ _ = .bool m10 from rfl) (congrArg Value.bool hc14)) ?_)
            refine da_op rfl (d_as (v := .bool (fcmp .neq .f32 p0.z 0)) rfl ?_)
            refine da_nil ?_
            obtain rfl := Option.some.inj hr
            exact ⟨rfl, (Ext.trans (Ext.trans (Ext.refl w1) E6) E12)⟩
    · skip
      replace hr := bif_f hr hc14
      refine da_off rfl (Eq.trans (show sl _ _ _ = .bool m10 from rfl) (congrArg Value.bool hc14)) (by decide) ?_
      refine da_off rfl (Eq.trans (show sl _ _ _ = .bool m10 from rfl) (congrArg Value.bool hc14)) (by decide) ?_
      refine da_off rfl (Eq.trans (show sl _ _ _ = .bool m10 from rfl) (congrArg Value.bool hc14)) (by decide) ?_
      refine da_off rfl (Eq.trans (show sl _ _ _ = .bool m10 from rfl) (congrArg Value.bool hc14)) (by decide) ?_
      refine da_undef rfl rfl ?_
      refine da_undef rfl rfl ?_
      refine da_undef rfl rfl ?_
      refine da_off rfl (Eq.trans (show sl _ _ _ = .bool m10 from rfl) (congrArg Value.bool hc14)) (by decide) ?_
      refine da_off rfl (Eq.trans (show sl _ _ _ = .bool m10 from rfl) (congrArg Value.bool hc14)) (by decide) ?_
      refine da_undef rfl rfl ?_
      refine da_undef rfl rfl ?_
      refine da_undef rfl rfl ?_
      refine da_off rfl (Eq.trans (show sl _ _ _ = .bool m10 from rfl) (congrArg Value.bool hc14)) (by decide) ?_
      refine da_off rfl (Eq.trans (show sl _ _ _ = .bool m10 from rfl) (congrArg Value.bool hc14)) (by decide) ?_
      refine da_undef rfl rfl ?_
      refine da_undef rfl rfl ?_
      refine da_undef rfl rfl ?_
      refine da_off rfl (Eq.trans (show sl _ _ _ = .bool m10 from rfl) (congrArg Value.bool hc14)) (by decide) ?_
      refine da_op rfl (d_pick (b := false) (Eq.trans (show ev _ _ = .bool m10 from rfl) (congrArg Value.bool hc14)) ?_)
      refine da_op rfl (d_as (v := .bool false) rfl ?_)
      refine da_nil ?_
      obtain rfl := Option.some.inj hr
      exact ⟨rfl, (Ext.trans (Ext.trans (Ext.refl w1) E6) E12)⟩
  · skip
    rintro σ4 w4 o4 ⟨s2_4, E4⟩
    have X19 : Ext w w4 := X3.trans E4
    refine W_ret ?_
    obtain rfl := Option.some.inj hr
    refine ⟨_, res1 (rv_tmp s2_4), ?_⟩
    exact ⟨rfl, X19⟩
set_option maxHeartbeats 4000000 in
theorem c125 (p0 : SVector) (p0r0 : Nat) (p0r1 : Nat) (p0r2 : Nat) (r : Bool) (w : World) (hr : M.impl_finiteVector p0 = some r) (p0h0 : cn .f32 p0r0 = p0.x) (p0h1 : cn .f32 p0r1 = p0.y) (p0h2 : cn .f32 p0r2 = p0.z) :
    Calls Tryd.prog 125 #[.agg #[.float .f32 p0r0, .float .f32 p0r1, .float .f32 p0r2]] w fun e w' => e = .returned (.bool r) ∧ Ext w w' := by
  refine calls_of_W Tryd.func125 rfl (Nat.le_of_ble_eq_true rfl) ?_
  refine W_seq ?_
  refine W_region rfl ?_
  refine da_op rfl (d_box (cs := #[.float .f32 p0r0, .float .f32 p0r1, .float .f32 p0r2]) rfl fun w1 B1 E1 => ?_)
  have own2 : w.heap.size ≤ w.heap.size := Nat.le_trans (Ext.refl w).size (Nat.le_refl _)
  have X3 : Ext w w1 := (Ext.refl w).trans E1
  refine da_op rfl (d_as (v := .bool false) rfl ?_)
  refine da_nil ?_
  refine W_seq ?_
  refine W_region rfl ?_
  refine da_op rfl (d_fieldAddr rfl (fa44_0 _ _) ?_)
  refine da_op rfl (d_load (v := .float .f32 p0r0) rfl agg22 B1 rfl ?_)
  refine da_op rfl (d_fieldAddr rfl (fa44_1 _ _) ?_)
  refine da_op rfl (d_load (v := .float .f32 p0r1) rfl agg22 B1 rfl ?_)
  refine da_op rfl (d_fieldAddr rfl (fa44_2 _ _) ?_)
  refine da_op rfl (d_load (v := .float .f32 p0r2) rfl agg22 B1 rfl ?_)
  refine da_op rfl (d_bslice (vs := [(0, .float .f32 p0r0), (1, .float .f32 p0r1), (2, .float .f32 p0r2)]) (cs := #[.float .f32 p0r0, .float .f32 p0r1, .float .f32 p0r2]) un53 (pc rfl (pc rfl (pc rfl rfl))) (by kernel_rfl) fun w4 B4 E4 => ?_)
  have fr4 : ∀ k, (Value.slice (some ⟨w1.heap.size, 0, none⟩) 3 3).ownBlock = some k → w1.heap.size ≤ k := fun k hk => by cases hk; exact Nat.le_refl _
  have own4 : ∀ k, (Value.slice (some ⟨w1.heap.size, 0, none⟩) 3 3).ownBlock = some k → w.heap.size ≤ k := fun k hk => Nat.le_trans X3.size (fr4 k hk)
  have sp5 : ¬ (Value.slice (some ⟨w1.heap.size, 0, none⟩) 3 3).ownBlock = some w.heap.size := ne_fresh fr4 (lt_heap B1)
  have X6 : Ext w w4 := X3.trans E4
  have O4 : OS w4 22 encF_f32 (Value.slice (some ⟨w1.heap.size, 0, none⟩) 3 3) [p0.x, p0.y, p0.z] := OS.box (xs := [p0.x, p0.y, p0.z]) B4 (lc_f p0h0 (lc_f p0h1 (lc_f p0h2 rfl))) (Nat.le_of_ble_eq_true rfl)
  obtain ⟨m7, hm7, hr⟩ := bind_out hr
  have B8 : w4.heap[w.heap.size]? = some (.cells #[.float .f32 p0r0, .float .f32 p0r1, .float .f32 p0r2] 44 (0, 0)) := E4.heap B1
  refine da_op rfl (d_cl (vs := [(Value.slice (some ⟨w1.heap.size, 0, none⟩) 3 3)]) en107 (ac rfl rfl) rfl ?_)
  refine (c107 ([p0.x, p0.y, p0.z]) (some ⟨w1.heap.size, 0, none⟩) 3 3 m7 w4 hm7 O4.rs).mono ?_
  rintro _ w9 ⟨rfl, E9⟩
  refine ⟨_, rfl, ?_⟩
  have X10 : Ext w w9 := X6.trans E9
  refine da_op rfl (d_as (v := .bool m7) rfl ?_)
  refine da_nil ?_
  refine W_ret ?_
  obtain rfl := Option.some.inj hr
  refine ⟨_, res1 (rv_tmp rfl), ?_⟩
  exact ⟨rfl, X10⟩
set_option maxHeartbeats 4000000 in
theorem c68 (p0 : STop) (p0r0 : Nat) (p0r1 : Nat) (p0r2 : Nat) (p0r3 : Nat) (p0r4 : Nat) (p0r5 : Nat) (p0r6 : Nat) (p0r7 : Nat) (p0r8 : Nat) (p0r9 : Nat) (r : Bool) (w : World) (hr : M.impl_ValidTop p0 = some r) (p0h0 : cn .f32 p0r0 = p0.moments.x) (p0h1 : cn .f32 p0r1 = p0.moments.y) (p0h2 : cn .f32 p0r2 = p0.moments.z) (p0h3 : cn .f32 p0r3 = p0.turn.w) (p0h4 : cn .f32 p0r4 = p0.turn.x) (p0h5 : cn .f32 p0r5 = p0.turn.y) (p0h6 : cn .f32 p0r6 = p0.turn.z) (p0h7 : cn .f32 p0r7 = p0.speed.x) (p0h8 : cn .f32 p0r8 = p0.speed.y) (p0h9 : cn .f32 p0r9 = p0.speed.z) :
    Calls Tryd.prog 68 #[.agg #[.float .f32 p0r0, .float .f32 p0r1, .float .f32 p0r2, .float .f32 p0r3, .float .f32 p0r4, .float .f32 p0r5, .float .f32 p0r6, .float .f32 p0r7, .float .f32 p0r8, .float .f32 p0r9]] w fun e w' => e = .returned (.bool r) ∧ Ext w w' := by
  refine calls_of_W Tryd.func68 rfl (Nat.le_of_ble_eq_true rfl) ?_
  refine W_seq ?_
  refine W_region rfl ?_
  refine da_op rfl (d_box (cs := #[.float .f32 p0r0, .float .f32 p0r1, .float .f32 p0r2, .float .f32 p0r3, .float .f32 p0r4, .float .f32 p0r5, .float .f32 p0r6, .float .f32 p0r7, .float .f32 p0r8, .float .f32 p0r9]) rfl fun w1 B1 E1 => ?_)
  have own2 : w.heap.size ≤ w.heap.size := Nat.le_trans (Ext.refl w).size (Nat.le_refl _)
  have X3 : Ext w w1 := (Ext.refl w).trans E1
  refine da_op rfl (d_as (v := .bool false) rfl ?_)
  refine da_nil ?_
  refine W_seq ?_
  refine W_region rfl ?_
  refine da_op rfl (d_fieldAddr rfl (fa48_0 _ _) ?_)
  refine da_op rfl (d_loads (vs := #[.float .f32 p0r0, .float .f32 p0r1, .float .f32 p0r2]) rfl agg44 size44 B1 rfl ?_)
  refine da_op rfl (d_alloc (cs := #[.float .f32 0, .float .f32 0, .float .f32 0]) zero44 rfl fun w4 B4 E4 => ?_)
  have own5 : w.heap.size ≤ w1.heap.size := Nat.le_trans X3.size (Nat.le_refl _)
  have sp6 : w.heap.size ≠ w1.heap.size := Nat.ne_of_lt (Nat.lt_of_lt_of_le (lt_heap B1) (Nat.le_refl _))
  have X7 : Ext w w4 := X3.trans E4
  refine da_op rfl (d_store (vs := #[.float .f32 p0r0, .float .f32 p0r1, .float .f32 p0r2]) rfl rfl B4 size44 (Nat.le_of_ble_eq_true rfl) rfl fun w8 S8 => ?_)
  have X9 : Ext w w8 := Ext.step X7 S8.frmb (fun k _ hk => hk ▸ own5)
  have B10 : w8.heap[w1.heap.size]? = some (.cells #[.float .f32 p0r0, .float .f32 p0r1, .float .f32 p0r2] 44 (0, 0)) := S8.here
  refine da_nil ?_
  refine W_seq ?_
  have B12 : w8.heap[w.heap.size]? = some (.cells #[.float .f32 p0r0, .float .f32 p0r1, .float .f32 p0r2, .float .f32 p0r3, .float .f32 p0r4, .float .f32 p0r5, .float .f32 p0r6, .float .f32 p0r7, .float .f32 p0r8, .float .f32 p0r9] 48 (0, 0)) := S8.frmb.heap sp6 (E4.heap B1)
  obtain ⟨m11, hm11, hr⟩ := bind_out hr
  refine W_cut (fun σ' w' => σ' 2 = .bool m11 ∧ Ext w8 w') rfl ?_ ?_
  · skip
    have hr := hm11
    refine da_op rfl (d_fieldAddr rfl (fa44_0 _ _) ?_)
    refine da_op rfl (d_load (v := .float .f32 p0r0) rfl agg22 B10 rfl ?_)
    obtain ⟨m13, hm13, hr⟩ := letv_out hr
    refine da_op rfl (d_cl (vs := [.float .f32 p0r0]) en123 (ac rfl rfl) rfl ?_)
    refine (c123 p0.moments.x p0r0 m13 w8 hm13 p0h0).mono ?_
    rintro _ w14 ⟨rfl, E14⟩
    refine ⟨_, rfl, ?_⟩
    have X15 : Ext w w14 := X9.trans E14
    refine da_op rfl (d_mv (v := .bool m13) rfl ?_)
    rcases Bool.eq_false_or_eq_true m13 with hc16 | hc16
    · skip
      replace hr := bif_t hr hc16
      refine da_on rfl (Eq.trans (show sl _ _ _ = .bool m13 from rfl) (congrArg Value.bool hc16)) (d_fieldAddr rfl (fa44_1 _ _) ?_)
      have B17 : w14.heap[w1.heap.size]? = some (.cells #[.float .f32 p0r0, .float .f32 p0r1, .float .f32 p0r2] 44 (0, 0)) := E14.heap B10
      refine da_on rfl (Eq.trans (show sl _ _ _ = .bool m13 from rfl) (congrArg Value.bool hc16)) (d_load (v := .float .f32 p0r1) rfl agg22 B17 rfl ?_)
      obtain ⟨m18, hm18, hr⟩ := letv_out hr
      have B19 : w14.heap[w.heap.size]? = some (.cells #[.float .f32 p0r0, .float .f32 p0r1, .float .f32 p0r2, .float .f32 p0r3, .float .f32 p0r4, .float .f32 p0r5, .float .f32 p0r6, .float .f32 p0r7, .float .f32 p0r8, .float .f32 p0r9] 48 (0, 0)) := E14.heap B12
      refine da_on rfl (Eq.trans (show sl _ _ _ = .bool m13 from rfl) (congrArg Value.bool hc16)) (d_cl (vs := [.float .f32 p0r1]) en123 (ac rfl rfl) rfl ?_)
      refine (c123 p0.moments.y p0r1 m18 w14 hm18 p0h1).mono ?_
      rintro _ w20 ⟨rfl, E20⟩
      refine ⟨_, rfl, ?_⟩
      have X21 : Ext w w20 := X15.trans E20
      refine da_op rfl (d_pick (b := true) (Eq.trans (show ev _ _ = .bool m13 from rfl) (congrArg Value.bool hc16)) ?_)
      refine da_op rfl (d_mv (v := .bool m18) rfl ?_)
      rcases Bool.eq_false_or_eq_true m18 with hc22 | hc22
      · skip
        replace hr := bif_t hr hc22
        refine da_on rfl (Eq.trans (show sl _ _ _ = .bool m18 from rfl) (congrArg Value.bool hc22)) (d_fieldAddr rfl (fa44_2 _ _) ?_)
        have B23 : w20.heap[w1.heap.size]? = some (.cells #[.float .f32 p0r0, .float .f32 p0r1, .float .f32 p0r2] 44 (0, 0)) := E20.heap B17
        refine da_on rfl (Eq.trans (show sl _ _ _ = .bool m18 from rfl) (congrArg Value.bool hc22)) (d_load (v := .float .f32 p0r2) rfl agg22 B23 rfl ?_)
        obtain ⟨m24, hm24, hr⟩ := letv_out hr
        have B25 : w20.heap[w.heap.size]? = some (.cells #[.float .f32 p0r0, .float .f32 p0r1, .float .f32 p0r2, .float .f32 p0r3, .float .f32 p0r4, .float .f32 p0r5, .float .f32 p0r6, .float .f32 p0r7, .float .f32 p0r8, .float .f32 p0r9] 48 (0, 0)) := E20.heap B19
        refine da_on rfl (Eq.trans (show sl _ _ _ = .bool m18 from rfl) (congrArg Value.bool hc22)) (d_cl (vs := [.float .f32 p0r2]) en123 (ac rfl rfl) rfl ?_)
        refine (c123 p0.moments.z p0r2 m24 w20 hm24 p0h2).mono ?_
        rintro _ w26 ⟨rfl, E26⟩
        refine ⟨_, rfl, ?_⟩
        have X27 : Ext w w26 := X21.trans E26
        refine da_op rfl (d_pick (b := true) (Eq.trans (show ev _ _ = .bool m18 from rfl) (congrArg Value.bool hc22)) ?_)
        refine da_op rfl (d_mv (v := .bool m24) rfl ?_)
        rcases Bool.eq_false_or_eq_true m24 with hc28 | hc28
        · skip
          replace hr := bif_t hr hc28
          refine da_on rfl (Eq.trans (show sl _ _ _ = .bool m24 from rfl) (congrArg Value.bool hc28)) (d_fieldAddr rfl (fa48_1 _ _) ?_)
          have B29 : w26.heap[w.heap.size]? = some (.cells #[.float .f32 p0r0, .float .f32 p0r1, .float .f32 p0r2, .float .f32 p0r3, .float .f32 p0r4, .float .f32 p0r5, .float .f32 p0r6, .float .f32 p0r7, .float .f32 p0r8, .float .f32 p0r9] 48 (0, 0)) := E26.heap B25
          refine da_on rfl (Eq.trans (show sl _ _ _ = .bool m24 from rfl) (congrArg Value.bool hc28)) (d_loads (vs := #[.float .f32 p0r3, .float .f32 p0r4, .float .f32 p0r5, .float .f32 p0r6]) rfl agg46 size46 B29 rfl ?_)
          obtain ⟨m30, hm30, hr⟩ := bind_out hr
          have B31 : w26.heap[w1.heap.size]? = some (.cells #[.float .f32 p0r0, .float .f32 p0r1, .float .f32 p0r2] 44 (0, 0)) := E26.heap B23
          refine da_on rfl (Eq.trans (show sl _ _ _ = .bool m24 from rfl) (congrArg Value.bool hc28)) (d_cl (vs := [.agg #[.float .f32 p0r3, .float .f32 p0r4, .float .f32 p0r5, .float .f32 p0r6]]) en124 (ac rfl rfl) rfl ?_)
          refine (c124 (⟨p0.turn.w, p0.turn.x, p0.turn.y, p0.turn.z⟩ : SSpin) p0r3 p0r4 p0r5 p0r6 m30 w26 hm30 p0h3 p0h4 p0h5 p0h6).mono ?_
          rintro _ w32 ⟨rfl, E32⟩
          refine ⟨_, rfl, ?_⟩
          have X33 : Ext w w32 := X27.trans E32
          refine da_op rfl (d_pick (b := true) (Eq.trans (show ev _ _ = .bool m24 from rfl) (congrArg Value.bool hc28)) ?_)
          refine da_op rfl (d_mv (v := .bool m30) rfl ?_)
          rcases Bool.eq_false_or_eq_true m30 with hc34 | hc34
          · skip
            replace hr := bif_t hr hc34
            refine da_on rfl (Eq.trans (show sl _ _ _ = .bool m30 from rfl) (congrArg Value.bool hc34)) (d_fieldAddr rfl (fa48_2 _ _) ?_)
            have B35 : w32.heap[w.heap.size]? = some (.cells #[.float .f32 p0r0, .float .f32 p0r1, .float .f32 p0r2, .float .f32 p0r3, .float .f32 p0r4, .float .f32 p0r5, .float .f32 p0r6, .float .f32 p0r7, .float .f32 p0r8, .float .f32 p0r9] 48 (0, 0)) := E32.heap B29
            refine da_on rfl (Eq.trans (show sl _ _ _ = .bool m30 from rfl) (congrArg Value.bool hc34)) (d_loads (vs := #[.float .f32 p0r7, .float .f32 p0r8, .float .f32 p0r9]) rfl agg44 size44 B35 rfl ?_)
            obtain ⟨m36, hm36, hr⟩ := bind_out hr
            have B37 : w32.heap[w1.heap.size]? = some (.cells #[.float .f32 p0r0, .float .f32 p0r1, .float .f32 p0r2] 44 (0, 0)) := E32.heap B31
            refine da_on rfl (Eq.trans (show sl _ _ _ = .bool m30 from rfl) (congrArg Value.bool hc34)) (d_cl (vs := [.agg #[.float .f32 p0r7, .float .f32 p0r8, .float .f32 p0r9]]) en125 (ac rfl rfl) rfl ?_)
            refine (c125 (⟨p0.speed.x, p0.speed.y, p0.speed.z⟩ : SVector) p0r7 p0r8 p0r9 m36 w32 hm36 p0h7 p0h8 p0h9).mono ?_
            rintro _ w38 ⟨rfl, E38⟩
            refine ⟨_, rfl, ?_⟩
            have X39 : Ext w w38 := X33.trans E38
            refine da_op rfl (d_pick (b := true) (Eq.trans (show ev _ _ = .bool m30 from rfl) (congrArg Value.bool hc34)) ?_)
            refine da_op rfl (d_as (v := .bool m36) rfl ?_)
            refine da_nil ?_
            obtain rfl := Option.some.inj hr
            exact ⟨rfl, (Ext.trans (Ext.trans (Ext.trans (Ext.trans (Ext.trans (Ext.refl w8) E14) E20) E26) E32) E38)⟩
          · skip
            replace hr := bif_f hr hc34
            refine da_off rfl (Eq.trans (show sl _ _ _ = .bool m30 from rfl) (congrArg Value.bool hc34)) (by decide) ?_
            refine da_off rfl (Eq.trans (show sl _ _ _ = .bool m30 from rfl) (congrArg Value.bool hc34)) (by decide) ?_
            refine da_off rfl (Eq.trans (show sl _ _ _ = .bool m30 from rfl) (congrArg Value.bool hc34)) (by decide) ?_
            refine da_op rfl (d_pick (b := false) (Eq.trans (show ev _ _ = .bool m30 from rfl) (congrArg Value.bool hc34)) ?_)
            refine da_op rfl (d_as (v := .bool false) rfl ?_)
            refine da_nil ?_
            obtain rfl := Option.some.inj hr
            exact ⟨rfl, (Ext.trans (Ext.trans (Ext.trans (Ext.trans (Ext.refl w8) E14) E20) E26) E32)⟩
        · skip
          replace hr := bif_f hr hc28
          refine da_off rfl (Eq.trans (show sl _ _ _ = .bool m24 from rfl) (congrArg Value.bool hc28)) (by decide) ?_
          refine da_off rfl (Eq.trans (show sl _ _ _ = .bool m24 from rfl) (congrArg Value.bool hc28)) (by decide) ?_
          refine da_off rfl (Eq.trans (show sl _ _ _ = .bool m24 from rfl) (congrArg Value.bool hc28)) (by decide) ?_
          refine da_op rfl (d_pick (b := false) (Eq.trans (show ev _ _ = .bool m24 from rfl) (congrArg Value.bool hc28)) ?_)
          refine da_op rfl (d_mv (v := .bool false) rfl ?_)
          refine da_off rfl rfl (by decide) ?_
          refine da_off rfl rfl (by decide) ?_
          refine da_off rfl rfl (by decide) ?_
          refine da_op rfl (d_pick (b := false) rfl ?_)
          refine da_op rfl (d_as (v := .bool false) rfl ?_)
          refine da_nil ?_
          obtain rfl := Option.some.inj hr
          exact ⟨rfl, (Ext.trans (Ext.trans (Ext.trans (Ext.refl w8) E14) E20) E26)⟩
      · skip
        replace hr := bif_f hr hc22
        refine da_off rfl (Eq.trans (show sl _ _ _ = .bool m18 from rfl) (congrArg Value.bool hc22)) (by decide) ?_
        refine da_off rfl (Eq.trans (show sl _ _ _ = .bool m18 from rfl) (congrArg Value.bool hc22)) (by decide) ?_
        refine da_off rfl (Eq.trans (show sl _ _ _ = .bool m18 from rfl) (congrArg Value.bool hc22)) (by decide) ?_
        refine da_op rfl (d_pick (b := false) (Eq.trans (show ev _ _ = .bool m18 from rfl) (congrArg Value.bool hc22)) ?_)
        refine da_op rfl (d_mv (v := .bool false) rfl ?_)
        refine da_off rfl rfl (by decide) ?_
        refine da_off rfl rfl (by decide) ?_
        refine da_off rfl rfl (by decide) ?_
        refine da_op rfl (d_pick (b := false) rfl ?_)
        refine da_op rfl (d_mv (v := .bool false) rfl ?_)
        refine da_off rfl rfl (by decide) ?_
        refine da_off rfl rfl (by decide) ?_
        refine da_off rfl rfl (by decide) ?_
        refine da_op rfl (d_pick (b := false) rfl ?_)
        refine da_op rfl (d_as (v := .bool false) rfl ?_)
        refine da_nil ?_
        obtain rfl := Option.some.inj hr
        exact ⟨rfl, (Ext.trans (Ext.trans (Ext.refl w8) E14) E20)⟩
    · skip
      replace hr := bif_f hr hc16
      refine da_off rfl (Eq.trans (show sl _ _ _ = .bool m13 from rfl) (congrArg Value.bool hc16)) (by decide) ?_
      refine da_off rfl (Eq.trans (show sl _ _ _ = .bool m13 from rfl) (congrArg Value.bool hc16)) (by decide) ?_
      refine da_off rfl (Eq.trans (show sl _ _ _ = .bool m13 from rfl) (congrArg Value.bool hc16)) (by decide) ?_
      refine da_op rfl (d_pick (b := false) (Eq.trans (show ev _ _ = .bool m13 from rfl) (congrArg Value.bool hc16)) ?_)
      refine da_op rfl (d_mv (v := .bool false) rfl ?_)
      refine da_off rfl rfl (by decide) ?_
      refine da_off rfl rfl (by decide) ?_
      refine da_off rfl rfl (by decide) ?_
      refine da_op rfl (d_pick (b := false) rfl ?_)
      refine da_op rfl (d_mv (v := .bool false) rfl ?_)
      refine da_off rfl rfl (by decide) ?_
      refine da_off rfl rfl (by decide) ?_
      refine da_off rfl rfl (by decide) ?_
      refine da_op rfl (d_pick (b := false) rfl ?_)
      refine da_op rfl (d_mv (v := .bool false) rfl ?_)
      refine da_off rfl rfl (by decide) ?_
      refine da_off rfl rfl (by decide) ?_
      refine da_off rfl rfl (by decide) ?_
      refine da_op rfl (d_pick (b := false) rfl ?_)
      refine da_op rfl (d_as (v := .bool false) rfl ?_)
      refine da_nil ?_
      obtain rfl := Option.some.inj hr
      exact ⟨rfl, (Ext.trans (Ext.refl w8) E14)⟩
  · skip
    rintro σ11 w11 o11 ⟨s2_11, E11⟩
    have X40 : Ext w w11 := X9.trans E11
    refine W_ret ?_
    obtain rfl := Option.some.inj hr
    refine ⟨_, res1 (rv_tmp s2_11), ?_⟩
    exact ⟨rfl, X40⟩
set_option maxHeartbeats 4000000 in
theorem c27 (p0 : List UInt8) (r : STop × Bool) (w : World) (hr : M.impl_ReadTop p0 = some r)  :
    Calls Tryd.prog 27 #[.string (bs p0)] w fun e w' => ∃ q0r0 : Nat, ∃ q0r1 : Nat, ∃ q0r2 : Nat, ∃ q0r3 : Nat, ∃ q0r4 : Nat, ∃ q0r5 : Nat, ∃ q0r6 : Nat, ∃ q0r7 : Nat, ∃ q0r8 : Nat, ∃ q0r9 : Nat, e = .returned (.tuple #[.agg #[.float .f32 q0r0, .float .f32 q0r1, .float .f32 q0r2, .float .f32 q0r3, .float .f32 q0r4, .float .f32 q0r5, .float .f32 q0r6, .float .f32 q0r7, .float .f32 q0r8, .float .f32 q0r9], .bool r.2]) ∧ cn .f32 q0r0 = r.1.moments.x ∧ cn .f32 q0r1 = r.1.moments.y ∧ cn .f32 q0r2 = r.1.moments.z ∧ cn .f32 q0r3 = r.1.turn.w ∧ cn .f32 q0r4 = r.1.turn.x ∧ cn .f32 q0r5 = r.1.turn.y ∧ cn .f32 q0r6 = r.1.turn.z ∧ cn .f32 q0r7 = r.1.speed.x ∧ cn .f32 q0r8 = r.1.speed.y ∧ cn .f32 q0r9 = r.1.speed.z ∧ Ext w w' := by
  refine calls_of_W Tryd.func27 rfl (Nat.le_of_ble_eq_true rfl) ?_
  refine W_seq ?_
  refine W_region rfl ?_
  refine da_op rfl (d_alloc (cs := #[.float .f32 0, .float .f32 0, .float .f32 0, .float .f32 0, .float .f32 0, .float .f32 0, .float .f32 0, .float .f32 0, .float .f32 0, .float .f32 0]) zero48 rfl fun w1 B1 E1 => ?_)
  have own2 : w.heap.size ≤ w.heap.size := Nat.le_trans (Ext.refl w).size (Nat.le_refl _)
  have X3 : Ext w w1 := (Ext.refl w).trans E1
  refine da_op rfl (d_as (v := .bool false) rfl ?_)
  refine da_nil ?_
  refine W_seq ?_
  refine W_region rfl ?_
  refine da_op rfl (d_mv (v := .string (bs p0)) rfl ?_)
  obtain ⟨m4, hm4, hr⟩ := bind_out hr
  refine da_op rfl (d_cl (vs := [.string (bs p0), .string (bs ([59] : List UInt8))]) en66 (ac rfl (ac rfl rfl)) rfl ?_)
  refine (c66_s3b p0 m4 w1 hm4 ).mono ?_
  rintro _ w5 ⟨q5_0a, q5_0n, q5_0c, rfl, q5_0R, q5_0F, E5⟩
  refine ⟨_, rfl, ?_⟩
  have own6 : ∀ k, (Value.slice q5_0a q5_0n q5_0c).ownBlock = some k → w.heap.size ≤ k := fun k hk => Nat.le_trans X3.size (q5_0F k hk)
  have sp7 : ¬ (Value.slice q5_0a q5_0n q5_0c).ownBlock = some w.heap.size := ne_fresh q5_0F (lt_heap B1)
  have X8 : Ext w w5 := X3.trans E5
  refine da_op rfl (d_as (v := (Value.slice q5_0a q5_0n q5_0c)) rfl ?_)
  refine da_nil ?_
  refine W_seq ?_
  refine W_seq ?_
  refine W_region rfl ?_
  refine da_op rfl (d_mv (v := (Value.slice q5_0a q5_0n q5_0c)) rfl ?_)
  refine da_op rfl (d_len (e := encS) un34 rfl q5_0R ?_)
  refine da_op rfl (d_icmp cNeq rfl rfl ?_)
  refine da_nil ?_
  refine W_cond (b := (icmp .neq ((m4).length : Int) 3)) rfl (fun hc9 => ?_) (fun hc9 => ?_)
  · skip
    replace hr := bif_t hr hc9
    refine W_seq ?_
    refine W_region rfl ?_
    refine da_op rfl (d_bd (vs := []) (cs := #[.float .f32 0, .float .f32 0, .float .f32 0, .float .f32 0, .float .f32 0, .float .f32 0, .float .f32 0, .float .f32 0, .float .f32 0, .float .f32 0]) rfl (by kernel_rfl) ?_)
    have B10 : w5.heap[w.heap.size]? = some (.cells #[.float .f32 0, .float .f32 0, .float .f32 0, .float .f32 0, .float .f32 0, .float .f32 0, .float .f32 0, .float .f32 0, .float .f32 0, .float .f32 0] 48 (0, 0)) := E5.heap B1
    refine da_op rfl (d_store (vs := #[.float .f32 0, .float .f32 0, .float .f32 0, .float .f32 0, .float .f32 0, .float .f32 0, .float .f32 0, .float .f32 0, .float .f32 0, .float .f32 0]) rfl rfl B10 size48 (Nat.le_of_ble_eq_true rfl) rfl fun w11 S11 => ?_)
    have X12 : Ext w w11 := Ext.step X8 S11.frmb (fun k _ hk => hk ▸ own2)
    have B13 : w11.heap[w.heap.size]? = some (.cells #[.float .f32 0, .float .f32 0, .float .f32 0, .float .f32 0, .float .f32 0, .float .f32 0, .float .f32 0, .float .f32 0, .float .f32 0, .float .f32 0] 48 (0, 0)) := S11.here
    refine da_op rfl (d_as (v := .bool false) rfl ?_)
    refine da_nil ?_
    refine W_ret ?_
    obtain rfl := Option.some.inj hr
    refine ⟨_, res2 (rv_cells (vs := #[.float .f32 0, .float .f32 0, .float .f32 0, .float .f32 0, .float .f32 0, .float .f32 0, .float .f32 0, .float .f32 0, .float .f32 0, .float .f32 0]) rfl agg48 size48 B13 rfl) (rv_tmp rfl), ?_⟩
    exact ⟨0, 0, 0, 0, 0, 0, 0, 0, 0, 0, rfl, cn_f32_0, cn_f32_0, cn_f32_0, cn_f32_0, cn_f32_0, cn_f32_0, cn_f32_0, cn_f32_0, cn_f32_0, cn_f32_0, X12⟩
  · skip
    replace hr := bif_f hr hc9
    refine W_skip ?_
    refine W_seq ?_
    refine W_region rfl ?_
    refine da_op rfl (d_mv (v := (Value.slice q5_0a q5_0n q5_0c)) rfl ?_)
    obtain ⟨m14, hm14, hr⟩ := bind_out hr
    refine da_op rfl (d_index (e := encS) (v := (Value.slice q5_0a q5_0n q5_0c)) un34 size9 rfl rfl q5_0R hm14 fun g15 o15 cu15 T15 fr15 vs15 hv15 hg15 hp15 hq15 => ?_)
    obtain rfl := dec_encS hq15
    refine da_op rfl (d_load (v := .string (bs m14)) rfl agg9 hg15 (sub_get (vs := #[.string (bs m14)]) hp15 (i := 0) rfl) ?_)
    obtain ⟨m16, hm16, hr⟩ := bind_out hr
    have B17 : w5.heap[w.heap.size]? = some (.cells #[.float .f32 0, .float .f32 0, .float .f32 0, .float .f32 0, .float .f32 0, .float .f32 0, .float .f32 0, .float .f32 0, .float .f32 0, .float .f32 0] 48 (0, 0)) := E5.heap B1
    refine da_op rfl (d_cl (vs := [.string (bs m14)]) en67 (ac rfl rfl) rfl ?_)
    refine (c67 m14 m16 w5 hm16 ).mono ?_
    rintro _ w18 ⟨q18_0r0, q18_0r1, q18_0r2, rfl, q18_0h0, q18_0h1, q18_0h2, E18⟩
    refine ⟨_, rfl, ?_⟩
    have X19 : Ext w w18 := X8.trans E18
    refine da_op rfl (d_mv (v := .tuple #[.agg #[.float .f32 q18_0r0, .float .f32 q18_0r1, .float .f32 q18_0r2], .bool m16.2]) rfl ?_)
    refine da_op rfl (d_extract (v := .agg #[.float .f32 q18_0r0, .float .f32 q18_0r1, .float .f32 q18_0r2]) rfl rfl ?_)
    refine da_op rfl (d_extract (v := .bool m16.2) rfl rfl ?_)
    have B21 : w18.heap[w.heap.size]? = some (.cells #[.float .f32 0, .float .f32 0, .float .f32 0, .float .f32 0, .float .f32 0, .float .f32 0, .float .f32 0, .float .f32 0, .float .f32 0, .float .f32 0] 48 (0, 0)) := E18.heap B17
    have B22 : RS w18 encS (Value.slice q5_0a q5_0n q5_0c) m4 := q5_0R.ext E18
    have B23 : w18.heap[g15]? = some (.cells cu15 T15 fr15) := E18.heap hg15
    refine da_op rfl (d_alloc (cs := #[.float .f32 0, .float .f32 0, .float .f32 0]) zero44 rfl fun w20 B20 E20 => ?_)
    have own24 : w.heap.size ≤ w18.heap.size := Nat.le_trans X19.size (Nat.le_refl _)
    have sp25 : w.heap.size ≠ w18.heap.size := Nat.ne_of_lt (Nat.lt_of_lt_of_le (lt_heap B21) (Nat.le_refl _))
    have sp26 : ¬ (Value.slice q5_0a q5_0n q5_0c).ownBlock = some w18.heap.size := RS.ne_new B22 (Nat.le_refl _)
    have sp27 : g15 ≠ w18.heap.size := Nat.ne_of_lt (Nat.lt_of_lt_of_le (lt_heap B23) (Nat.le_refl _))
    have X28 : Ext w w20 := X19.trans E20
    refine da_op rfl (d_store (vs := #[.float .f32 q18_0r0, .float .f32 q18_0r1, .float .f32 q18_0r2]) rfl rfl B20 size44 (Nat.le_of_ble_eq_true rfl) rfl fun w29 S29 => ?_)
    have X30 : Ext w w29 := Ext.step X28 S29.frmb (fun k _ hk => hk ▸ own24)
    have B31 : w29.heap[w18.heap.size]? = some (.cells #[.float .f32 q18_0r0, .float .f32 q18_0r1, .float .f32 q18_0r2] 44 (0, 0)) := S29.here
    refine da_op rfl (d_as (v := .bool m16.2) rfl ?_)
    refine da_nil ?_
    refine W_seq ?_
    refine W_region rfl ?_
    refine da_op rfl (d_mv (v := (Value.slice q5_0a q5_0n q5_0c)) rfl ?_)
    obtain ⟨m32, hm32, hr⟩ := bind_out hr
    have B34 : RS w29 encS (Value.slice q5_0a q5_0n q5_0c) m4 := (B22.ext E20).frm S29.frmb (fun k _ => (rb sp26) k)
    refine da_op rfl (d_index (e := encS) (v := (Value.slice q5_0a q5_0n q5_0c)) un34 size9 rfl rfl B34 hm32 fun g33 o33 cu33 T33 fr33 vs33 hv33 hg33 hp33 hq33 => ?_)
    obtain rfl := dec_encS hq33
    refine da_op rfl (d_load (v := .string (bs m32)) rfl agg9 hg33 (sub_get (vs := #[.string (bs m32)]) hp33 (i := 0) rfl) ?_)
    obtain ⟨m35, hm35, hr⟩ := bind_out hr
    have B36 : w29.heap[w.heap.size]? = some (.cells #[.float .f32 0, .float .f32 0, .float .f32 0, .float .f32 0, .float .f32 0, .float .f32 0, .float .f32 0, .float .f32 0, .float .f32 0, .float .f32 0] 48 (0, 0)) := S29.frmb.heap sp25 (E20.heap B21)
    refine da_op rfl (d_cl (vs := [.string (bs m32), .int .i64 4]) en49 (ac rfl (ac rfl rfl)) rfl ?_)
    refine (c49 m32 4 m35 w29 hm35 ).mono ?_
    rintro _ w37 ⟨q37_0a, q37_0n, q37_0c, rfl, q37_0R, q37_0F, E37⟩
    refine ⟨_, rfl, ?_⟩
    have own38 : ∀ k, (Value.slice q37_0a q37_0n q37_0c).ownBlock = some k → w.heap.size ≤ k := fun k hk => Nat.le_trans X30.size (q37_0F k hk)
    have sp39 : ¬ (Value.slice q37_0a q37_0n q37_0c).ownBlock = some w.heap.size := ne_fresh q37_0F (lt_heap B36)
    have sp40 : ∀ k, (Value.slice q5_0a q5_0n q5_0c).ownBlock = some k → ¬ (Value.slice q37_0a q37_0n q37_0c).ownBlock = some k := apart_freshR B34 q37_0F
    have sp41 : ¬ (Value.slice q37_0a q37_0n q37_0c).ownBlock = some w18.heap.size := ne_fresh q37_0F (lt_heap B31)
    have sp42 : ¬ (Value.slice q37_0a q37_0n q37_0c).ownBlock = some g33 := ne_fresh q37_0F (lt_heap hg33)
    have X43 : Ext w w37 := X30.trans E37
    refine da_op rfl (d_mv (v := .tuple #[(Value.slice q37_0a q37_0n q37_0c), .bool m35.2]) rfl ?_)
    refine da_op rfl (d_extract (v := (Value.slice q37_0a q37_0n q37_0c)) rfl rfl ?_)
    refine da_op rfl (d_extract (v := .bool m35.2) rfl rfl ?_)
    refine da_op rfl (d_as (v := (Value.slice q37_0a q37_0n q37_0c)) rfl ?_)
    refine da_op rfl (d_as (v := .bool m35.2) rfl ?_)
    refine da_nil ?_
    refine W_seq ?_
    refine W_region rfl ?_
    refine da_op rfl (d_mv (v := (Value.slice q5_0a q5_0n q5_0c)) rfl ?_)
    obtain ⟨m44, hm44, hr⟩ := bind_out hr
    have B46 : RS w37 encS (Value.slice q5_0a q5_0n q5_0c) m4 := B34.ext E37
    refine da_op rfl (d_index (e := encS) (v := (Value.slice q5_0a q5_0n q5_0c)) un34 size9 rfl rfl B46 hm44 fun g45 o45 cu45 T45 fr45 vs45 hv45 hg45 hp45 hq45 => ?_)
    obtain rfl := dec_encS hq45
    refine da_op rfl (d_load (v := .string (bs m44)) rfl agg9 hg45 (sub_get (vs := #[.string (bs m44)]) hp45 (i := 0) rfl) ?_)
    obtain ⟨m47, hm47, hr⟩ := bind_out hr
    have B48 : w37.heap[w.heap.size]? = some (.cells #[.float .f32 0, .float .f32 0, .float .f32 0, .float .f32 0, .float .f32 0, .float .f32 0, .float .f32 0, .float .f32 0, .float .f32 0, .float .f32 0] 48 (0, 0)) := E37.heap B36
    have B49 : w37.heap[w18.heap.size]? = some (.cells #[.float .f32 q18_0r0, .float .f32 q18_0r1, .float .f32 q18_0r2] 44 (0, 0)) := E37.heap B31
    refine da_op rfl (d_cl (vs := [.string (bs m44)]) en67 (ac rfl rfl) rfl ?_)
    refine (c67 m44 m47 w37 hm47 ).mono ?_
    rintro _ w50 ⟨q50_0r0, q50_0r1, q50_0r2, rfl, q50_0h0, q50_0h1, q50_0h2, E50⟩
    refine ⟨_, rfl, ?_⟩
    have X51 : Ext w w50 := X43.trans E50
    refine da_op rfl (d_mv (v := .tuple #[.agg #[.float .f32 q50_0r0, .float .f32 q50_0r1, .float .f32 q50_0r2], .bool m47.2]) rfl ?_)
    refine da_op rfl (d_extract (v := .agg #[.float .f32 q50_0r0, .float .f32 q50_0r1, .float .f32 q50_0r2]) rfl rfl ?_)
    refine da_op rfl (d_extract (v := .bool m47.2) rfl rfl ?_)
    have B53 : w50.heap[w.heap.size]? = some (.cells #[.float .f32 0, .float .f32 0, .float .f32 0, .float .f32 0, .float .f32 0, .float .f32 0, .float .f32 0, .float .f32 0, .float .f32 0, .float .f32 0] 48 (0, 0)) := E50.heap B48
    have B54 : RS w50 encS (Value.slice q5_0a q5_0n q5_0c) m4 := B46.ext E50
    have B55 : w50.heap[w18.heap.size]? = some (.cells #[.float .f32 q18_0r0, .float .f32 q18_0r1, .float .f32 q18_0r2] 44 (0, 0)) := E50.heap B49
    have B56 : OS w50 22 encF_f32 (Value.slice q37_0a q37_0n q37_0c) m35.1 := q37_0R.ext E50
    have B57 : w50.heap[g45]? = some (.cells cu45 T45 fr45) := E50.heap hg45
    refine da_op rfl (d_alloc (cs := #[.float .f32 0, .float .f32 0, .float .f32 0]) zero44 rfl fun w52 B52 E52 => ?_)
    have own58 : w.heap.size ≤ w50.heap.size := Nat.le_trans X51.size (Nat.le_refl _)
    have sp59 : w.heap.size ≠ w50.heap.size := Nat.ne_of_lt (Nat.lt_of_lt_of_le (lt_heap B53) (Nat.le_refl _))
    have sp60 : ¬ (Value.slice q5_0a q5_0n q5_0c).ownBlock = some w50.heap.size := RS.ne_new B54 (Nat.le_refl _)
    have sp61 : w18.heap.size ≠ w50.heap.size := Nat.ne_of_lt (Nat.lt_of_lt_of_le (lt_heap B55) (Nat.le_refl _))
    have sp62 : ¬ (Value.slice q37_0a q37_0n q37_0c).ownBlock = some w50.heap.size := OS.ne_new B56 (Nat.le_refl _)
    have sp63 : g45 ≠ w50.heap.size := Nat.ne_of_lt (Nat.lt_of_lt_of_le (lt_heap B57) (Nat.le_refl _))
    have X64 : Ext w w52 := X51.trans E52
    refine da_op rfl (d_store (vs := #[.float .f32 q50_0r0, .float .f32 q50_0r1, .float .f32 q50_0r2]) rfl rfl B52 size44 (Nat.le_of_ble_eq_true rfl) rfl fun w65 S65 => ?_)
    have X66 : Ext w w65 := Ext.step X64 S65.frmb (fun k _ hk => hk ▸ own58)
    have B67 : w65.heap[w50.heap.size]? = some (.cells #[.float .f32 q50_0r0, .float .f32 q50_0r1, .float .f32 q50_0r2] 44 (0, 0)) := S65.here
    refine da_op rfl (d_as (v := .bool m47.2) rfl ?_)
    refine da_nil ?_
    refine W_seq ?_
    have B69 : w65.heap[w.heap.size]? = some (.cells #[.float .f32 0, .float .f32 0, .float .f32 0, .float .f32 0, .float .f32 0, .float .f32 0, .float .f32 0, .float .f32 0, .float .f32 0, .float .f32 0] 48 (0, 0)) := S65.frmb.heap sp59 (E52.heap B53)
    have B70 : w65.heap[w18.heap.size]? = some (.cells #[.float .f32 q18_0r0, .float .f32 q18_0r1, .float .f32 q18_0r2] 44 (0, 0)) := S65.frmb.heap sp61 (E52.heap B55)
    have B71 : OS w65 22 encF_f32 (Value.slice q37_0a q37_0n q37_0c) m35.1 := (B56.ext E52).frm S65.frmb (rb sp62)
    obtain ⟨m72, hm72, hr⟩ := bind_out hr
    obtain ⟨m73, hm73, hr⟩ := bind_out hr
    obtain ⟨m74, hm74, hr⟩ := bind_out hr
    obtain ⟨m75, hm75, hr⟩ := bind_out hr
    refine W_anyT 17 [] [{ V := fun _ v _ => v = (.agg #[.float .f32 q18_0r0, .float .f32 q18_0r1, .float .f32 q18_0r2]) }, { V := fun _ v _ => v = (Value.slice q37_0a q37_0n q37_0c) }, { V := fun _ v _ => ∃ d68_2g : Nat, ∃ d68_2o : Nat, v = (.pointer (some ⟨d68_2g, d68_2o, none⟩)) ∧ EL encF_f32 (Value.slice q37_0a q37_0n q37_0c) (m35.1).length 0 d68_2g d68_2o }, { V := fun _ v _ => ∃ d68_2r0 : Nat, v = (.float .f32 d68_2r0) ∧ cn .f32 d68_2r0 = m72 }, { V := fun _ v _ => v = (Value.slice q37_0a q37_0n q37_0c) }, { V := fun _ v _ => ∃ d68_5g : Nat, ∃ d68_5o : Nat, v = (.pointer (some ⟨d68_5g, d68_5o, none⟩)) ∧ EL encF_f32 (Value.slice q37_0a q37_0n q37_0c) (m35.1).length 1 d68_5g d68_5o }, { V := fun _ v _ => ∃ d68_5r0 : Nat, v = (.float .f32 d68_5r0) ∧ cn .f32 d68_5r0 = m73 }, { V := fun _ v _ => v = (Value.slice q37_0a q37_0n q37_0c) }, { V := fun _ v _ => ∃ d68_8g : Nat, ∃ d68_8o : Nat, v = (.pointer (some ⟨d68_8g, d68_8o, none⟩)) ∧ EL encF_f32 (Value.slice q37_0a q37_0n q37_0c) (m35.1).length 2 d68_8g d68_8o }, { V := fun _ v _ => ∃ d68_8r0 : Nat, v = (.float .f32 d68_8r0) ∧ cn .f32 d68_8r0 = m74 }, { V := fun _ v _ => v = (Value.slice q37_0a q37_0n q37_0c) }, { V := fun _ v _ => ∃ d68_11g : Nat, ∃ d68_11o : Nat, v = (.pointer (some ⟨d68_11g, d68_11o, none⟩)) ∧ EL encF_f32 (Value.slice q37_0a q37_0n q37_0c) (m35.1).length 3 d68_11g d68_11o }, { V := fun _ v _ => ∃ d68_11r0 : Nat, v = (.float .f32 d68_11r0) ∧ cn .f32 d68_11r0 = m75 }, { V := fun _ v _ => ∃ d68_2r0 : Nat, ∃ d68_5r0 : Nat, ∃ d68_8r0 : Nat, ∃ d68_11r0 : Nat, v = (.agg #[.float .f32 d68_2r0, .float .f32 d68_5r0, .float .f32 d68_8r0, .float .f32 d68_11r0]) ∧ cn .f32 d68_2r0 = m72 ∧ cn .f32 d68_5r0 = m73 ∧ cn .f32 d68_8r0 = m74 ∧ cn .f32 d68_11r0 = m75 }, { V := fun _ v _ => v = (.agg #[.float .f32 q50_0r0, .float .f32 q50_0r1, .float .f32 q50_0r2]) }, { V := fun _ v _ => ∃ d68_2r0 : Nat, ∃ d68_5r0 : Nat, ∃ d68_8r0 : Nat, ∃ d68_11r0 : Nat, v = (.agg #[.float .f32 q18_0r0, .float .f32 q18_0r1, .float .f32 q18_0r2, .float .f32 d68_2r0, .float .f32 d68_5r0, .float .f32 d68_8r0, .float .f32 d68_11r0, .float .f32 q50_0r0, .float .f32 q50_0r1, .float .f32 q50_0r2]) ∧ cn .f32 d68_2r0 = m72 ∧ cn .f32 d68_5r0 = m73 ∧ cn .f32 d68_8r0 = m74 ∧ cn .f32 d68_11r0 = m75 }, { V := fun _ v w' => ∃ d68_16b : Nat, v = (.pointer (some ⟨d68_16b, 0, none⟩)) ∧ w65.heap.size ≤ d68_16b ∧ w'.heap[d68_16b]? = some (.cells #[.float .f32 0, .float .f32 0, .float .f32 0, .float .f32 0, .float .f32 0, .float .f32 0, .float .f32 0, .float .f32 0, .float .f32 0, .float .f32 0] 48 (0, 0)) }] mixed (by kernel_rfl) ⟨trivial, trivial, trivial, trivial, trivial, trivial, trivial, trivial, trivial, trivial, trivial, trivial, trivial, trivial, trivial, trivial, trivial, trivial⟩ ⟨?_, ?_, ?_, ?_, ?_, ?_, ?_, ?_, ?_, ?_, ?_, ?_, ?_, ?_, ?_, ?_, ?_, trivial⟩ ?_
    · skip
      refine ⟨fun _ _ _ _ _ _ h _ => h, fun _ _ h _ => h, fun σ' w' hA hE hD hP => ?_⟩
      have t5 : σ' 5 = .pointer (some ⟨w18.heap.size, 0, none⟩) := (hA 5 rfl).trans rfl
      have B0_76 : w'.heap[w18.heap.size]? = some (.cells #[.float .f32 q18_0r0, .float .f32 q18_0r1, .float .f32 q18_0r2] 44 (0, 0)) := hE.heap not_oth0 B70
      refine dg_op rfl (d_loads (vs := #[.float .f32 q18_0r0, .float .f32 q18_0r1, .float .f32 q18_0r2]) t5 agg44 size44 B0_76 rfl ?_)
      exact ⟨rfl, own_none (Ext.refl w')⟩
    · skip
      refine ⟨fun _ _ _ _ _ _ h _ => h, fun _ _ h _ => h, fun σ' w' hA hE hD hP => ?_⟩
      have t7 : σ' 7 = (Value.slice q37_0a q37_0n q37_0c) := (hA 7 rfl).trans rfl
      have B0_77 : OS w' 22 encF_f32 (Value.slice q37_0a q37_0n q37_0c) m35.1 := B71.frm hE (fun k hk => not_oth0)
      refine dg_op rfl (d_mv (v := (Value.slice q37_0a q37_0n q37_0c)) t7 ?_)
      exact ⟨rfl, own_none (Ext.refl w')⟩
    · skip
      refine ⟨fun _ _ _ _ _ _ h _ => h, fun _ _ h _ => h, fun σ' w' hA hE hD hP => ?_⟩
      have t40 : σ' 40 = (Value.slice q37_0a q37_0n q37_0c) := hD 1 rfl
      have B0_78 : OS w' 22 encF_f32 (Value.slice q37_0a q37_0n q37_0c) m35.1 := B71.frm hE (fun k hk => not_oth0)
      refine dg_op rfl (d_indexE (e := encF_f32) (v := (Value.slice q37_0a q37_0n q37_0c)) un53 size22 t40 rfl B0_78.rs hm72 fun g79 o79 l79 => ?_)
      exact ⟨⟨g79, o79, rfl, l79⟩, own_none (Ext.refl _)⟩
    · skip
      refine ⟨fun _ _ _ _ _ _ h _ => h, fun _ _ h _ => h, fun σ' w' hA hE hD hP => ?_⟩
      obtain ⟨d68_2g, d68_2o, t41, d68_2gE⟩ : ∃ d68_2g : Nat, ∃ d68_2o : Nat, σ' 41 = (.pointer (some ⟨d68_2g, d68_2o, none⟩)) ∧ EL encF_f32 (Value.slice q37_0a q37_0n q37_0c) (m35.1).length 0 d68_2g d68_2o := hD 2 rfl
      have B0_80 : OS w' 22 encF_f32 (Value.slice q37_0a q37_0n q37_0c) m35.1 := B71.frm hE (fun k hk => not_oth0)
      obtain ⟨d68_2c, d68_2T, d68_2f, d68_2vs, d68_2hg, d68_2P, d68_2hq⟩ := RS.el B0_80.rs d68_2gE hm72
      obtain ⟨d68_2r0, rfl, d68_2h0⟩ := dec_encF_f32 d68_2hq
      refine dg_op rfl (d_load (v := .float .f32 d68_2r0) t41 agg22 d68_2hg (sub_get (vs := #[.float .f32 d68_2r0]) d68_2P (i := 0) rfl) ?_)
      exact ⟨⟨d68_2r0, rfl, d68_2h0⟩, own_none (Ext.refl w')⟩
    · skip
      refine ⟨fun _ _ _ _ _ _ h _ => h, fun _ _ h _ => h, fun σ' w' hA hE hD hP => ?_⟩
      have t7 : σ' 7 = (Value.slice q37_0a q37_0n q37_0c) := (hA 7 rfl).trans rfl
      have B0_81 : OS w' 22 encF_f32 (Value.slice q37_0a q37_0n q37_0c) m35.1 := B71.frm hE (fun k hk => not_oth0)
      refine dg_op rfl (d_mv (v := (Value.slice q37_0a q37_0n q37_0c)) t7 ?_)
      exact ⟨rfl, own_none (Ext.refl w')⟩
    · skip
      refine ⟨fun _ _ _ _ _ _ h _ => h, fun _ _ h _ => h, fun σ' w' hA hE hD hP => ?_⟩
      have t43 : σ' 43 = (Value.slice q37_0a q37_0n q37_0c) := hD 4 rfl
      have B0_82 : OS w' 22 encF_f32 (Value.slice q37_0a q37_0n q37_0c) m35.1 := B71.frm hE (fun k hk => not_oth0)
      refine dg_op rfl (d_indexE (e := encF_f32) (v := (Value.slice q37_0a q37_0n q37_0c)) un53 size22 t43 rfl B0_82.rs hm73 fun g83 o83 l83 => ?_)
      exact ⟨⟨g83, o83, rfl, l83⟩, own_none (Ext.refl _)⟩
    · skip
      refine ⟨fun _ _ _ _ _ _ h _ => h, fun _ _ h _ => h, fun σ' w' hA hE hD hP => ?_⟩
      obtain ⟨d68_5g, d68_5o, t44, d68_5gE⟩ : ∃ d68_5g : Nat, ∃ d68_5o : Nat, σ' 44 = (.pointer (some ⟨d68_5g, d68_5o, none⟩)) ∧ EL encF_f32 (Value.slice q37_0a q37_0n q37_0c) (m35.1).length 1 d68_5g d68_5o := hD 5 rfl
      have B0_84 : OS w' 22 encF_f32 (Value.slice q37_0a q37_0n q37_0c) m35.1 := B71.frm hE (fun k hk => not_oth0)
      obtain ⟨d68_5c, d68_5T, d68_5f, d68_5vs, d68_5hg, d68_5P, d68_5hq⟩ := RS.el B0_84.rs d68_5gE hm73
      obtain ⟨d68_5r0, rfl, d68_5h0⟩ := dec_encF_f32 d68_5hq
      refine dg_op rfl (d_load (v := .float .f32 d68_5r0) t44 agg22 d68_5hg (sub_get (vs := #[.float .f32 d68_5r0]) d68_5P (i := 0) rfl) ?_)
      exact ⟨⟨d68_5r0, rfl, d68_5h0⟩, own_none (Ext.refl w')⟩
    · skip
      refine ⟨fun _ _ _ _ _ _ h _ => h, fun _ _ h _ => h, fun σ' w' hA hE hD hP => ?_⟩
      have t7 : σ' 7 = (Value.slice q37_0a q37_0n q37_0c) := (hA 7 rfl).trans rfl
      have B0_85 : OS w' 22 encF_f32 (Value.slice q37_0a q37_0n q37_0c) m35.1 := B71.frm hE (fun k hk => not_oth0)
      refine dg_op rfl (d_mv (v := (Value.slice q37_0a q37_0n q37_0c)) t7 ?_)
      exact ⟨rfl, own_none (Ext.refl w')⟩
    · skip
      refine ⟨fun _ _ _ _ _ _ h _ => h, fun _ _ h _ => h, fun σ' w' hA hE hD hP => ?_⟩
      have t46 : σ' 46 = (Value.slice q37_0a q37_0n q37_0c) := hD 7 rfl
      have B0_86 : OS w' 22 encF_f32 (Value.slice q37_0a q37_0n q37_0c) m35.1 := B71.frm hE (fun k hk => not_oth0)
      refine dg_op rfl (d_indexE (e := encF_f32) (v := (Value.slice q37_0a q37_0n q37_0c)) un53 size22 t46 rfl B0_86.rs hm74 fun g87 o87 l87 => ?_)
      exact ⟨⟨g87, o87, rfl, l87⟩, own_none (Ext.refl _)⟩
    · skip
      refine ⟨fun _ _ _ _ _ _ h _ => h, fun _ _ h _ => h, fun σ' w' hA hE hD hP => ?_⟩
      obtain ⟨d68_8g, d68_8o, t47, d68_8gE⟩ : ∃ d68_8g : Nat, ∃ d68_8o : Nat, σ' 47 = (.pointer (some ⟨d68_8g, d68_8o, none⟩)) ∧ EL encF_f32 (Value.slice q37_0a q37_0n q37_0c) (m35.1).length 2 d68_8g d68_8o := hD 8 rfl
      have B0_88 : OS w' 22 encF_f32 (Value.slice q37_0a q37_0n q37_0c) m35.1 := B71.frm hE (fun k hk => not_oth0)
      obtain ⟨d68_8c, d68_8T, d68_8f, d68_8vs, d68_8hg, d68_8P, d68_8hq⟩ := RS.el B0_88.rs d68_8gE hm74
      obtain ⟨d68_8r0, rfl, d68_8h0⟩ := dec_encF_f32 d68_8hq
      refine dg_op rfl (d_load (v := .float .f32 d68_8r0) t47 agg22 d68_8hg (sub_get (vs := #[.float .f32 d68_8r0]) d68_8P (i := 0) rfl) ?_)
      exact ⟨⟨d68_8r0, rfl, d68_8h0⟩, own_none (Ext.refl w')⟩
    · skip
      refine ⟨fun _ _ _ _ _ _ h _ => h, fun _ _ h _ => h, fun σ' w' hA hE hD hP => ?_⟩
      have t7 : σ' 7 = (Value.slice q37_0a q37_0n q37_0c) := (hA 7 rfl).trans rfl
      have B0_89 : OS w' 22 encF_f32 (Value.slice q37_0a q37_0n q37_0c) m35.1 := B71.frm hE (fun k hk => not_oth0)
      refine dg_op rfl (d_mv (v := (Value.slice q37_0a q37_0n q37_0c)) t7 ?_)
      exact ⟨rfl, own_none (Ext.refl w')⟩
    · skip
      refine ⟨fun _ _ _ _ _ _ h _ => h, fun _ _ h _ => h, fun σ' w' hA hE hD hP => ?_⟩
      have t49 : σ' 49 = (Value.slice q37_0a q37_0n q37_0c) := hD 10 rfl
      have B0_90 : OS w' 22 encF_f32 (Value.slice q37_0a q37_0n q37_0c) m35.1 := B71.frm hE (fun k hk => not_oth0)
      refine dg_op rfl (d_indexE (e := encF_f32) (v := (Value.slice q37_0a q37_0n q37_0c)) un53 size22 t49 rfl B0_90.rs hm75 fun g91 o91 l91 => ?_)
      exact ⟨⟨g91, o91, rfl, l91⟩, own_none (Ext.refl _)⟩
    · skip
      refine ⟨fun _ _ _ _ _ _ h _ => h, fun _ _ h _ => h, fun σ' w' hA hE hD hP => ?_⟩
      obtain ⟨d68_11g, d68_11o, t50, d68_11gE⟩ : ∃ d68_11g : Nat, ∃ d68_11o : Nat, σ' 50 = (.pointer (some ⟨d68_11g, d68_11o, none⟩)) ∧ EL encF_f32 (Value.slice q37_0a q37_0n q37_0c) (m35.1).length 3 d68_11g d68_11o := hD 11 rfl
      have B0_92 : OS w' 22 encF_f32 (Value.slice q37_0a q37_0n q37_0c) m35.1 := B71.frm hE (fun k hk => not_oth0)
      obtain ⟨d68_11c, d68_11T, d68_11f, d68_11vs, d68_11hg, d68_11P, d68_11hq⟩ := RS.el B0_92.rs d68_11gE hm75
      obtain ⟨d68_11r0, rfl, d68_11h0⟩ := dec_encF_f32 d68_11hq
      refine dg_op rfl (d_load (v := .float .f32 d68_11r0) t50 agg22 d68_11hg (sub_get (vs := #[.float .f32 d68_11r0]) d68_11P (i := 0) rfl) ?_)
      exact ⟨⟨d68_11r0, rfl, d68_11h0⟩, own_none (Ext.refl w')⟩
    · skip
      refine ⟨fun _ _ _ _ _ _ h _ => h, fun _ _ h _ => h, fun σ' w' hA hE hD hP => ?_⟩
      obtain ⟨d68_2r0, t42, d68_2h0⟩ : ∃ d68_2r0 : Nat, σ' 42 = (.float .f32 d68_2r0) ∧ cn .f32 d68_2r0 = m72 := hD 3 rfl
      obtain ⟨d68_5r0, t45, d68_5h0⟩ : ∃ d68_5r0 : Nat, σ' 45 = (.float .f32 d68_5r0) ∧ cn .f32 d68_5r0 = m73 := hD 6 rfl
      obtain ⟨d68_8r0, t48, d68_8h0⟩ : ∃ d68_8r0 : Nat, σ' 48 = (.float .f32 d68_8r0) ∧ cn .f32 d68_8r0 = m74 := hD 9 rfl
      obtain ⟨d68_11r0, t51, d68_11h0⟩ : ∃ d68_11r0 : Nat, σ' 51 = (.float .f32 d68_11r0) ∧ cn .f32 d68_11r0 = m75 := hD 12 rfl
      refine dg_op rfl (d_bd (vs := [(0, .float .f32 d68_2r0), (1, .float .f32 d68_5r0), (2, .float .f32 d68_8r0), (3, .float .f32 d68_11r0)]) (cs := #[.float .f32 d68_2r0, .float .f32 d68_5r0, .float .f32 d68_8r0, .float .f32 d68_11r0]) (pc t42 (pc t45 (pc t48 (pc t51 rfl)))) (by kernel_rfl) ?_)
      exact ⟨⟨d68_2r0, d68_5r0, d68_8r0, d68_11r0, rfl, d68_2h0, d68_5h0, d68_8h0, d68_11h0⟩, own_none (Ext.refl w')⟩
    · skip
      refine ⟨fun _ _ _ _ _ _ h _ => h, fun _ _ h _ => h, fun σ' w' hA hE hD hP => ?_⟩
      have t9 : σ' 9 = .pointer (some ⟨w50.heap.size, 0, none⟩) := (hA 9 rfl).trans rfl
      have B0_93 : w'.heap[w50.heap.size]? = some (.cells #[.float .f32 q50_0r0, .float .f32 q50_0r1, .float .f32 q50_0r2] 44 (0, 0)) := hE.heap not_oth0 B67
      refine dg_op rfl (d_loads (vs := #[.float .f32 q50_0r0, .float .f32 q50_0r1, .float .f32 q50_0r2]) t9 agg44 size44 B0_93 rfl ?_)
      exact ⟨rfl, own_none (Ext.refl w')⟩
    · skip
      refine ⟨fun _ _ _ _ _ _ h _ => h, fun _ _ h _ => h, fun σ' w' hA hE hD hP => ?_⟩
      have t39 : σ' 39 = (.agg #[.float .f32 q18_0r0, .float .f32 q18_0r1, .float .f32 q18_0r2]) := hD 0 rfl
      obtain ⟨d68_2r0, d68_5r0, d68_8r0, d68_11r0, t52, d68_2h0, d68_5h0, d68_8h0, d68_11h0⟩ : ∃ d68_2r0 : Nat, ∃ d68_5r0 : Nat, ∃ d68_8r0 : Nat, ∃ d68_11r0 : Nat, σ' 52 = (.agg #[.float .f32 d68_2r0, .float .f32 d68_5r0, .float .f32 d68_8r0, .float .f32 d68_11r0]) ∧ cn .f32 d68_2r0 = m72 ∧ cn .f32 d68_5r0 = m73 ∧ cn .f32 d68_8r0 = m74 ∧ cn .f32 d68_11r0 = m75 := hD 13 rfl
      have t53 : σ' 53 = (.agg #[.float .f32 q50_0r0, .float .f32 q50_0r1, .float .f32 q50_0r2]) := hD 14 rfl
      refine dg_op rfl (d_bd (vs := [(0, .agg #[.float .f32 q18_0r0, .float .f32 q18_0r1, .float .f32 q18_0r2]), (1, .agg #[.float .f32 d68_2r0, .float .f32 d68_5r0, .float .f32 d68_8r0, .float .f32 d68_11r0]), (2, .agg #[.float .f32 q50_0r0, .float .f32 q50_0r1, .float .f32 q50_0r2])]) (cs := #[.float .f32 q18_0r0, .float .f32 q18_0r1, .float .f32 q18_0r2, .float .f32 d68_2r0, .float .f32 d68_5r0, .float .f32 d68_8r0, .float .f32 d68_11r0, .float .f32 q50_0r0, .float .f32 q50_0r1, .float .f32 q50_0r2]) (pc t39 (pc t52 (pc t53 rfl))) (by kernel_rfl) ?_)
      exact ⟨⟨d68_2r0, d68_5r0, d68_8r0, d68_11r0, rfl, d68_2h0, d68_5h0, d68_8h0, d68_11h0⟩, own_none (Ext.refl w')⟩
    · skip
      refine ⟨fun _ _ _ w' w'' _ ⟨d68_16b, hv, d68_16ble, d68_16bB⟩ hF => ⟨d68_16b, hv, d68_16ble, hF.heap not_oth0 d68_16bB⟩, fun _ _ h _ => h, fun σ' w' hA hE hD hP => ?_⟩
      refine dg_op rfl (d_alloc (cs := #[.float .f32 0, .float .f32 0, .float .f32 0, .float .f32 0, .float .f32 0, .float .f32 0, .float .f32 0, .float .f32 0, .float .f32 0, .float .f32 0]) zero48 rfl fun w94 B94 E94 => ?_)
      have X96 : Ext w' w94 := (Ext.refl w').trans E94
      exact ⟨⟨w'.heap.size, rfl, hE.size, B94⟩, own_none X96⟩
    · skip
      intro σ68 w68 A68 E68 V68
      have E68x : Ext w65 w68 := ext_of_oth0 E68
      obtain ⟨z68_11_16b, s11_68, z68_11_16ble, z68_11_16bB⟩ : ∃ z68_11_16b : Nat, σ68 11 = (.pointer (some ⟨z68_11_16b, 0, none⟩)) ∧ w65.heap.size ≤ z68_11_16b ∧ w68.heap[z68_11_16b]? = some (.cells #[.float .f32 0, .float .f32 0, .float .f32 0, .float .f32 0, .float .f32 0, .float .f32 0, .float .f32 0, .float .f32 0, .float .f32 0, .float .f32 0] 48 (0, 0)) := V68 16 (Nat.le_of_ble_eq_true rfl)
      obtain ⟨z68_54_2r0, z68_54_5r0, z68_54_8r0, z68_54_11r0, s54_68, z68_54_2h0, z68_54_5h0, z68_54_8h0, z68_54_11h0⟩ : ∃ z68_54_2r0 : Nat, ∃ z68_54_5r0 : Nat, ∃ z68_54_8r0 : Nat, ∃ z68_54_11r0 : Nat, σ68 54 = (.agg #[.float .f32 q18_0r0, .float .f32 q18_0r1, .float .f32 q18_0r2, .float .f32 z68_54_2r0, .float .f32 z68_54_5r0, .float .f32 z68_54_8r0, .float .f32 z68_54_11r0, .float .f32 q50_0r0, .float .f32 q50_0r1, .float .f32 q50_0r2]) ∧ cn .f32 z68_54_2r0 = m72 ∧ cn .f32 z68_54_5r0 = m73 ∧ cn .f32 z68_54_8r0 = m74 ∧ cn .f32 z68_54_11r0 = m75 := V68 15 (Nat.le_of_ble_eq_true rfl)
      have own97 : w.heap.size ≤ z68_11_16b := Nat.le_trans X66.size z68_11_16ble
      have sp98 : w.heap.size ≠ z68_11_16b := Nat.ne_of_lt (Nat.lt_of_lt_of_le (lt_heap B69) z68_11_16ble)
      have sp99 : w18.heap.size ≠ z68_11_16b := Nat.ne_of_lt (Nat.lt_of_lt_of_le (lt_heap B70) z68_11_16ble)
      have sp100 : ¬ (Value.slice q37_0a q37_0n q37_0c).ownBlock = some z68_11_16b := OS.ne_new B71 z68_11_16ble
      have sp101 : w50.heap.size ≠ z68_11_16b := Nat.ne_of_lt (Nat.lt_of_lt_of_le (lt_heap B67) z68_11_16ble)
      have s2_68 : σ68 2 = .pointer (some ⟨w.heap.size, 0, none⟩) := (A68 2 rfl).trans rfl
      have s6_68 : σ68 6 = .bool m16.2 := (A68 6 rfl).trans rfl
      have s8_68 : σ68 8 = .bool m35.2 := (A68 8 rfl).trans rfl
      have s10_68 : σ68 10 = .bool m47.2 := (A68 10 rfl).trans rfl
      have X102 : Ext w w68 := X66.trans E68x
      refine da_op rfl (d_store (vs := #[.float .f32 q18_0r0, .float .f32 q18_0r1, .float .f32 q18_0r2, .float .f32 z68_54_2r0, .float .f32 z68_54_5r0, .float .f32 z68_54_8r0, .float .f32 z68_54_11r0, .float .f32 q50_0r0, .float .f32 q50_0r1, .float .f32 q50_0r2]) s11_68 (congrArg Value.cells s54_68) z68_11_16bB size48 (Nat.le_of_ble_eq_true rfl) rfl fun w103 S103 => ?_)
      have X104 : Ext w w103 := Ext.step X102 S103.frmb (fun k _ hk => hk ▸ own97)
      have B105 : w103.heap[z68_11_16b]? = some (.cells #[.float .f32 q18_0r0, .float .f32 q18_0r1, .float .f32 q18_0r2, .float .f32 z68_54_2r0, .float .f32 z68_54_5r0, .float .f32 z68_54_8r0, .float .f32 z68_54_11r0, .float .f32 q50_0r0, .float .f32 q50_0r1, .float .f32 q50_0r2] 48 (0, 0)) := S103.here
      refine da_nil ?_
      refine W_seq ?_
      refine W_seq ?_
      have B107 : w103.heap[w.heap.size]? = some (.cells #[.float .f32 0, .float .f32 0, .float .f32 0, .float .f32 0, .float .f32 0, .float .f32 0, .float .f32 0, .float .f32 0, .float .f32 0, .float .f32 0] 48 (0, 0)) := S103.frmb.heap sp98 (E68x.heap B69)
      obtain ⟨m106, hm106, hr⟩ := bind_out hr
      refine W_cut (fun σ' w' => σ' 69 = .bool m106 ∧ Ext w103 w') rfl ?_ ?_
      · skip
        have hr := hm106
        refine da_op rfl (d_mv (v := .bool m16.2) s6_68 ?_)
        refine da_op rfl (d_not rfl ?_)
        refine da_op rfl (d_mv (v := .bool (!m16.2)) rfl ?_)
        rcases Bool.eq_false_or_eq_true m16.2 with hc108 | hc108
        · skip
          replace hr := bif_t hr hc108
          refine da_on rfl (Eq.trans (show sl _ _ _ = .bool (!m16.2) from rfl) (congrArg Value.bool (congrArg not hc108))) (d_mv (v := .bool m35.2) s8_68 ?_)
          refine da_on rfl (Eq.trans (show sl _ _ _ = .bool (!m16.2) from rfl) (congrArg Value.bool (congrArg not hc108))) (d_not rfl ?_)
          refine da_op rfl (d_pick (b := false) (Eq.trans (show ev _ _ = .bool (!m16.2) from rfl) (congrArg Value.bool (congrArg not hc108))) ?_)
          refine da_op rfl (d_mv (v := .bool (!m35.2)) rfl ?_)
          rcases Bool.eq_false_or_eq_true m35.2 with hc109 | hc109
          · skip
            replace hr := bif_t hr hc109
            refine da_on rfl (Eq.trans (show sl _ _ _ = .bool (!m35.2) from rfl) (congrArg Value.bool (congrArg not hc109))) (d_mv (v := .bool m47.2) s10_68 ?_)
            refine da_on rfl (Eq.trans (show sl _ _ _ = .bool (!m35.2) from rfl) (congrArg Value.bool (congrArg not hc109))) (d_not rfl ?_)
            refine da_op rfl (d_pick (b := false) (Eq.trans (show ev _ _ = .bool (!m35.2) from rfl) (congrArg Value.bool (congrArg not hc109))) ?_)
            refine da_op rfl (d_mv (v := .bool (!m47.2)) rfl ?_)
            rcases Bool.eq_false_or_eq_true m47.2 with hc110 | hc110
            · skip
              replace hr := bif_t hr hc110
              refine da_on rfl (Eq.trans (show sl _ _ _ = .bool (!m47.2) from rfl) (congrArg Value.bool (congrArg not hc110))) (d_loads (vs := #[.float .f32 q18_0r0, .float .f32 q18_0r1, .float .f32 q18_0r2, .float .f32 z68_54_2r0, .float .f32 z68_54_5r0, .float .f32 z68_54_8r0, .float .f32 z68_54_11r0, .float .f32 q50_0r0, .float .f32 q50_0r1, .float .f32 q50_0r2]) s11_68 agg48 size48 B105 rfl ?_)
              obtain ⟨m111, hm111, hr⟩ := bind_out hr
              refine da_on rfl (Eq.trans (show sl _ _ _ = .bool (!m47.2) from rfl) (congrArg Value.bool (congrArg not hc110))) (d_cl (vs := [.agg #[.float .f32 q18_0r0, .float .f32 q18_0r1, .float .f32 q18_0r2, .float .f32 z68_54_2r0, .float .f32 z68_54_5r0, .float .f32 z68_54_8r0, .float .f32 z68_54_11r0, .float .f32 q50_0r0, .float .f32 q50_0r1, .float .f32 q50_0r2]]) en68 (ac rfl rfl) rfl ?_)
              refine (c68 (⟨(⟨m16.1.x, m16.1.y, m16.1.z⟩ : SVector), (⟨m72, m73, m74, m75⟩ : SSpin), (⟨m47.1.x, m47.1.y, m47.1.z⟩ : SVector)⟩ : STop) q18_0r0 q18_0r1 q18_0r2 z68_54_2r0 z68_54_5r0 z68_54_8r0 z68_54_11r0 q50_0r0 q50_0r1 q50_0r2 m111 w103 hm111 q18_0h0 q18_0h1 q18_0h2 z68_54_2h0 z68_54_5h0 z68_54_8h0 z68_54_11h0 q50_0h0 q50_0h1 q50_0h2).mono ?_
              rintro _ w112 ⟨rfl, E112⟩
              refine ⟨_, rfl, ?_⟩
              have X113 : Ext w w112 := X104.trans E112
              refine da_on rfl (Eq.trans (show sl _ _ _ = .bool (!m47.2) from rfl) (congrArg Value.bool (congrArg not hc110))) (d_not rfl ?_)
              refine da_op rfl (d_pick (b := false) (Eq.trans (show ev _ _ = .bool (!m47.2) from rfl) (congrArg Value.bool (congrArg not hc110))) ?_)
              refine da_nil ?_
              obtain rfl := Option.some.inj hr
              exact ⟨rfl, (Ext.trans (Ext.refl w103) E112)⟩
            · skip
              replace hr := bif_f hr hc110
              refine da_off rfl (Eq.trans (show sl _ _ _ = .bool (!m47.2) from rfl) (congrArg Value.bool (congrArg not hc110))) (by decide) ?_
              refine da_off rfl (Eq.trans (show sl _ _ _ = .bool (!m47.2) from rfl) (congrArg Value.bool (congrArg not hc110))) (by decide) ?_
              refine da_off rfl (Eq.trans (show sl _ _ _ = .bool (!m47.2) from rfl) (congrArg Value.bool (congrArg not hc110))) (by decide) ?_
              refine da_op rfl (d_pick (b := true) (Eq.trans (show ev _ _ = .bool (!m47.2) from rfl) (congrArg Value.bool (congrArg not hc110))) ?_)
              refine da_nil ?_
              obtain rfl := Option.some.inj hr
              exact ⟨rfl, (Ext.refl w103)⟩
          · skip
            replace hr := bif_f hr hc109
            refine da_off rfl (Eq.trans (show sl _ _ _ = .bool (!m35.2) from rfl) (congrArg Value.bool (congrArg not hc109))) (by decide) ?_
            refine da_off rfl (Eq.trans (show sl _ _ _ = .bool (!m35.2) from rfl) (congrArg Value.bool (congrArg not hc109))) (by decide) ?_
            refine da_op rfl (d_pick (b := true) (Eq.trans (show ev _ _ = .bool (!m35.2) from rfl) (congrArg Value.bool (congrArg not hc109))) ?_)
            refine da_op rfl (d_mv (v := .bool true) rfl ?_)
            refine da_off rfl rfl (by decide) ?_
            refine da_off rfl rfl (by decide) ?_
            refine da_off rfl rfl (by decide) ?_
            refine da_op rfl (d_pick (b := true) rfl ?_)
            refine da_nil ?_
            obtain rfl := Option.some.inj hr
            exact ⟨rfl, (Ext.refl w103)⟩
        · skip
          replace hr := bif_f hr hc108
          refine da_off rfl (Eq.trans (show sl _ _ _ = .bool (!m16.2) from rfl) (congrArg Value.bool (congrArg not hc108))) (by decide) ?_
          refine da_off rfl (Eq.trans (show sl _ _ _ = .bool (!m16.2) from rfl) (congrArg Value.bool (congrArg not hc108))) (by decide) ?_
          refine da_op rfl (d_pick (b := true) (Eq.trans (show ev _ _ = .bool (!m16.2) from rfl) (congrArg Value.bool (congrArg not hc108))) ?_)
          refine da_op rfl (d_mv (v := .bool true) rfl ?_)
          refine da_off rfl rfl (by decide) ?_
          refine da_off rfl rfl (by decide) ?_
          refine da_op rfl (d_pick (b := true) rfl ?_)
          refine da_op rfl (d_mv (v := .bool true) rfl ?_)
          refine da_off rfl rfl (by decide) ?_
          refine da_off rfl rfl (by decide) ?_
          refine da_off rfl rfl (by decide) ?_
          refine da_op rfl (d_pick (b := true) rfl ?_)
          refine da_nil ?_
          obtain rfl := Option.some.inj hr
          exact ⟨rfl, (Ext.refl w103)⟩
      · skip
        rintro σ106 w106 o106 ⟨s69_106, E106⟩
        have s2_106 : σ106 2 = .pointer (some ⟨w.heap.size, 0, none⟩) := (o106 2 rfl).trans s2_68
        have s11_106 : σ106 11 = .pointer (some ⟨z68_11_16b, 0, none⟩) := (o106 11 rfl).trans s11_68
        have X114 : Ext w w106 := X104.trans E106
        refine W_cond (b := m106) s69_106 (fun hc115 => ?_) (fun hc115 => ?_)
        · skip
          replace hr := bif_t hr hc115
          refine W_seq ?_
          refine W_region rfl ?_
          refine da_op rfl (d_bd (vs := []) (cs := #[.float .f32 0, .float .f32 0, .float .f32 0, .float .f32 0, .float .f32 0, .float .f32 0, .float .f32 0, .float .f32 0, .float .f32 0, .float .f32 0]) rfl (by kernel_rfl) ?_)
          have B116 : w106.heap[w.heap.size]? = some (.cells #[.float .f32 0, .float .f32 0, .float .f32 0, .float .f32 0, .float .f32 0, .float .f32 0, .float .f32 0, .float .f32 0, .float .f32 0, .float .f32 0] 48 (0, 0)) := E106.heap B107
          refine da_op rfl (d_store (vs := #[.float .f32 0, .float .f32 0, .float .f32 0, .float .f32 0, .float .f32 0, .float .f32 0, .float .f32 0, .float .f32 0, .float .f32 0, .float .f32 0]) s2_106 rfl B116 size48 (Nat.le_of_ble_eq_true rfl) rfl fun w117 S117 => ?_)
          have X118 : Ext w w117 := Ext.step X114 S117.frmb (fun k _ hk => hk ▸ own2)
          have B119 : w117.heap[w.heap.size]? = some (.cells #[.float .f32 0, .float .f32 0, .float .f32 0, .float .f32 0, .float .f32 0, .float .f32 0, .float .f32 0, .float .f32 0, .float .f32 0, .float .f32 0] 48 (0, 0)) := S117.here
          refine da_op rfl (d_as (v := .bool false) rfl ?_)
          refine da_nil ?_
          refine W_ret ?_
          obtain rfl := Option.some.inj hr
          refine ⟨_, res2 (rv_cells (vs := #[.float .f32 0, .float .f32 0, .float .f32 0, .float .f32 0, .float .f32 0, .float .f32 0, .float .f32 0, .float .f32 0, .float .f32 0, .float .f32 0]) s2_106 agg48 size48 B119 rfl) (rv_tmp rfl), ?_⟩
          exact ⟨0, 0, 0, 0, 0, 0, 0, 0, 0, 0, rfl, cn_f32_0, cn_f32_0, cn_f32_0, cn_f32_0, cn_f32_0, cn_f32_0, cn_f32_0, cn_f32_0, cn_f32_0, cn_f32_0, X118⟩
        · skip
          replace hr := bif_f hr hc115
          refine W_skip ?_
          refine W_seq ?_
          refine W_region rfl ?_
          have B120 : w106.heap[z68_11_16b]? = some (.cells #[.float .f32 q18_0r0, .float .f32 q18_0r1, .float .f32 q18_0r2, .float .f32 z68_54_2r0, .float .f32 z68_54_5r0, .float .f32 z68_54_8r0, .float .f32 z68_54_11r0, .float .f32 q50_0r0, .float .f32 q50_0r1, .float .f32 q50_0r2] 48 (0, 0)) := E106.heap B105
          refine da_op rfl (d_loads (vs := #[.float .f32 q18_0r0, .float .f32 q18_0r1, .float .f32 q18_0r2, .float .f32 z68_54_2r0, .float .f32 z68_54_5r0, .float .f32 z68_54_8r0, .float .f32 z68_54_11r0, .float .f32 q50_0r0, .float .f32 q50_0r1, .float .f32 q50_0r2]) s11_106 agg48 size48 B120 rfl ?_)
          have B121 : w106.heap[w.heap.size]? = some (.cells #[.float .f32 0, .float .f32 0, .float .f32 0, .float .f32 0, .float .f32 0, .float .f32 0, .float .f32 0, .float .f32 0, .float .f32 0, .float .f32 0] 48 (0, 0)) := E106.heap B107
          refine da_op rfl (d_store (vs := #[.float .f32 q18_0r0, .float .f32 q18_0r1, .float .f32 q18_0r2, .float .f32 z68_54_2r0, .float .f32 z68_54_5r0, .float .f32 z68_54_8r0, .float .f32 z68_54_11r0, .float .f32 q50_0r0, .float .f32 q50_0r1, .float .f32 q50_0r2]) s2_106 rfl B121 size48 (Nat.le_of_ble_eq_true rfl) rfl fun w122 S122 => ?_)
          have X123 : Ext w w122 := Ext.step X114 S122.frmb (fun k _ hk => hk ▸ own2)
          have B124 : w122.heap[w.heap.size]? = some (.cells #[.float .f32 q18_0r0, .float .f32 q18_0r1, .float .f32 q18_0r2, .float .f32 z68_54_2r0, .float .f32 z68_54_5r0, .float .f32 z68_54_8r0, .float .f32 z68_54_11r0, .float .f32 q50_0r0, .float .f32 q50_0r1, .float .f32 q50_0r2] 48 (0, 0)) := S122.here
          refine da_op rfl (d_as (v := .bool true) rfl ?_)
          refine da_nil ?_
          refine W_ret ?_
          obtain rfl := Option.some.inj hr
          refine ⟨_, res2 (rv_cells (vs := #[.float .f32 q18_0r0, .float .f32 q18_0r1, .float .f32 q18_0r2, .float .f32 z68_54_2r0, .float .f32 z68_54_5r0, .float .f32 z68_54_8r0, .float .f32 z68_54_11r0, .float .f32 q50_0r0, .float .f32 q50_0r1, .float .f32 q50_0r2]) s2_106 agg48 size48 B124 rfl) (rv_tmp rfl), ?_⟩
          exact ⟨q18_0r0, q18_0r1, q18_0r2, z68_54_2r0, z68_54_5r0, z68_54_8r0, z68_54_11r0, q50_0r0, q50_0r1, q50_0r2, rfl, q18_0h0, q18_0h1, q18_0h2, z68_54_2h0, z68_54_5h0, z68_54_8h0, z68_54_11h0, q50_0h0, q50_0h1, q50_0h2, X123⟩
set_option maxHeartbeats 4000000 in
theorem c51 (p0 : Nat) (p1 : Nat) (p0r : Nat) (p1r : Nat) (r : Bool) (w : World) (hr : M.laws_sameFloat p0 p1 = r) (p0h : cn .f64 p0r = p0) (p1h : cn .f64 p1r = p1) :
    Calls Tryd.prog 51 #[.float .f64 p0r, .float .f64 p1r] w fun e w' => e = .returned (.bool r) ∧ Ext w w' := by
  refine calls_of_W Tryd.func51 rfl (Nat.le_of_ble_eq_true rfl) ?_
  refine W_seq ?_
  refine W_region rfl ?_
  refine da_op rfl (d_as (v := .bool false) rfl ?_)
  refine da_nil ?_
  refine W_seq ?_
  refine W_seq ?_
  obtain ⟨m1, hm1, hr⟩ := letv_out hr
  refine W_cut (fun σ' w' => σ' 12 = .bool m1 ∧ Ext w w') rfl ?_ ?_
  · skip
    have hr := hm1
    refine da_op rfl (d_mv (v := .float .f64 p0r) rfl ?_)
    refine da_op rfl (d_mv (v := .float .f64 p0r) rfl ?_)
    refine da_op rfl (d_fcmp (k := .f64) cNeq rfl rfl p0h p0h ?_)
    refine da_op rfl (d_mv (v := .bool (fcmp .neq .f64 p0 p0)) rfl ?_)
    rcases Bool.eq_false_or_eq_true (fcmp .neq .f64 p0 p0) with hc2 | hc2
    · skip
      replace hr := bif_t hr hc2
      refine da_off rfl (Eq.trans (show sl _ _ _ = .bool (fcmp .neq .f64 p0 p0) from rfl) (congrArg Value.bool hc2)) (by decide) ?_
      refine da_off rfl (Eq.trans (show sl _ _ _ = .bool (fcmp .neq .f64 p0 p0) from rfl) (congrArg Value.bool hc2)) (by decide) ?_
      refine da_off rfl (Eq.trans (show sl _ _ _ = .bool (fcmp .neq .f64 p0 p0) from rfl) (congrArg Value.bool hc2)) (by decide) ?_
      refine da_op rfl (d_pick (b := true) (Eq.trans (show ev _ _ = .bool (fcmp .neq .f64 p0 p0) from rfl) (congrArg Value.bool hc2)) ?_)
      refine da_nil ?_
      subst hr
      exact ⟨rfl, (Ext.refl w)⟩
    · skip
      replace hr := bif_f hr hc2
      refine da_on rfl (Eq.trans (show sl _ _ _ = .bool (fcmp .neq .f64 p0 p0) from rfl) (congrArg Value.bool hc2)) (d_mv (v := .float .f64 p1r) rfl ?_)
      refine da_on rfl (Eq.trans (show sl _ _ _ = .bool (fcmp .neq .f64 p0 p0) from rfl) (congrArg Value.bool hc2)) (d_mv (v := .float .f64 p1r) rfl ?_)
      refine da_on rfl (Eq.trans (show sl _ _ _ = .bool (fcmp .neq .f64 p0 p0) from rfl) (congrArg Value.bool hc2)) (d_fcmp (k := .f64) cNeq rfl rfl p1h p1h ?_)
      refine da_op rfl (d_pick (b := false) (Eq.trans (show ev _ _ = .bool (fcmp .neq .f64 p0 p0) from rfl) (congrArg Value.bool hc2)) ?_)
      refine da_nil ?_
      subst hr
      exact ⟨rfl, (Ext.refl w)⟩
  · skip
    rintro σ1 w1 o1 ⟨s12_1, E1⟩
    have s0_1 : σ1 0 = .float .f64 p0r := (o1 0 rfl).trans rfl
    have s1_1 : σ1 1 = .float .f64 p1r := (o1 1 rfl).trans rfl
    have X3 : Ext w w1 := (Ext.refl w).trans E1
    refine W_cond (b := m1) s12_1 (fun hc4 => ?_) (fun hc4 => ?_)
    · skip
      replace hr := bif_t hr hc4
      refine W_seq ?_
      obtain ⟨m5, hm5, hr⟩ := letv_out hr
      refine W_cut (fun σ' w' => σ' 4 = .bool m5 ∧ Ext w1 w') rfl ?_ ?_
      · skip
        have hr := hm5
        refine da_op rfl (d_mv (v := .float .f64 p0r) s0_1 ?_)
        refine da_op rfl (d_mv (v := .float .f64 p0r) s0_1 ?_)
        refine da_op rfl (d_fcmp (k := .f64) cNeq rfl rfl p0h p0h ?_)
        refine da_op rfl (d_mv (v := .bool (fcmp .neq .f64 p0 p0)) rfl ?_)
        rcases Bool.eq_false_or_eq_true (fcmp .neq .f64 p0 p0) with hc6 | hc6
        · skip
          replace hr := bif_t hr hc6
          refine da_on rfl (Eq.trans (show sl _ _ _ = .bool (fcmp .neq .f64 p0 p0) from rfl) (congrArg Value.bool hc6)) (d_mv (v := .float .f64 p1r) s1_1 ?_)
          refine da_on rfl (Eq.trans (show sl _ _ _ = .bool (fcmp .neq .f64 p0 p0) from rfl) (congrArg Value.bool hc6)) (d_mv (v := .float .f64 p1r) s1_1 ?_)
          refine da_on rfl (Eq.trans (show sl _ _ _ = .bool (fcmp .neq .f64 p0 p0) from rfl) (congrArg Value.bool hc6)) (d_fcmp (k := .f64) cNeq rfl rfl p1h p1h ?_)
          refine da_op rfl (d_pick (b := true) (Eq.trans (show ev _ _ = .bool (fcmp .neq .f64 p0 p0) from rfl) (congrArg Value.bool hc6)) ?_)
          refine da_op rfl (d_as (v := .bool (fcmp .neq .f64 p1 p1)) rfl ?_)
          refine da_nil ?_
          subst hr
          exact ⟨rfl, (Ext.refl w1)⟩
        · skip
          replace hr := bif_f hr hc6
          refine da_off rfl (Eq.trans (show sl _ _ _ = .bool (fcmp .neq .f64 p0 p0) from rfl) (congrArg Value.bool hc6)) (by decide) ?_
          refine da_off rfl (Eq.trans (show sl _ _ _ = .bool (fcmp .neq .f64 p0 p0) from rfl) (congrArg Value.bool hc6)) (by decide) ?_
          refine da_off rfl (Eq.trans (show sl _ _ _ = .bool (fcmp .neq .f64 p0 p0) from rfl) (congrArg Value.bool hc6)) (by decide) ?_
          refine da_op rfl (d_pick (b := false) (Eq.trans (show ev _ _ = .bool (fcmp .neq .f64 p0 p0) from rfl) (congrArg Value.bool hc6)) ?_)
          refine da_op rfl (d_as (v := .bool false) rfl ?_)
          refine da_nil ?_
          subst hr
          exact ⟨rfl, (Ext.refl w1)⟩
      · skip
        rintro σ5 w5 o5 ⟨s4_5, E5⟩
        have X7 : Ext w w5 := X3.trans E5
        refine W_ret ?_
        subst hr
        refine ⟨_, res1 (rv_tmp s4_5), ?_⟩
        exact ⟨rfl, X7⟩
    · skip
      replace hr := bif_f hr hc4
      refine W_skip ?_
      refine W_seq ?_
      refine W_seq ?_
      obtain ⟨m8, hm8, hr⟩ := letv_out hr
      refine W_cut (fun σ' w' => σ' 26 = .bool m8 ∧ Ext w1 w') rfl ?_ ?_
      · skip
        have hr := hm8
        refine da_op rfl (d_mv (v := .float .f64 p0r) s0_1 ?_)
        refine da_op rfl (d_fcmp (k := .f64) cEql rfl rfl p0h cn_f64_0 ?_)
        refine da_op rfl (d_mv (v := .bool (fcmp .eql .f64 p0 0)) rfl ?_)
        rcases Bool.eq_false_or_eq_true (fcmp .eql .f64 p0 0) with hc9 | hc9
        · skip
          replace hr := bif_t hr hc9
          refine da_on rfl (Eq.trans (show sl _ _ _ = .bool (fcmp .eql .f64 p0 0) from rfl) (congrArg Value.bool hc9)) (d_mv (v := .float .f64 p1r) s1_1 ?_)
          refine da_on rfl (Eq.trans (show sl _ _ _ = .bool (fcmp .eql .f64 p0 0) from rfl) (congrArg Value.bool hc9)) (d_fcmp (k := .f64) cEql rfl rfl p1h cn_f64_0 ?_)
          refine da_op rfl (d_pick (b := true) (Eq.trans (show ev _ _ = .bool (fcmp .eql .f64 p0 0) from rfl) (congrArg Value.bool hc9)) ?_)
          refine da_nil ?_
          subst hr
          exact ⟨rfl, (Ext.refl w1)⟩
        · skip
          replace hr := bif_f hr hc9
          refine da_off rfl (Eq.trans (show sl _ _ _ = .bool (fcmp .eql .f64 p0 0) from rfl) (congrArg Value.bool hc9)) (by decide) ?_
          refine da_off rfl (Eq.trans (show sl _ _ _ = .bool (fcmp .eql .f64 p0 0) from rfl) (congrArg Value.bool hc9)) (by decide) ?_
          refine da_op rfl (d_pick (b := false) (Eq.trans (show ev _ _ = .bool (fcmp .eql .f64 p0 0) from rfl) (congrArg Value.bool hc9)) ?_)
          refine da_nil ?_
          subst hr
          exact ⟨rfl, (Ext.refl w1)⟩
      · skip
        rintro σ8 w8 o8 ⟨s26_8, E8⟩
        have s0_8 : σ8 0 = .float .f64 p0r := (o8 0 rfl).trans s0_1
        have s1_8 : σ8 1 = .float .f64 p1r := (o8 1 rfl).trans s1_1
        have X10 : Ext w w8 := X3.trans E8
        refine W_cond (b := m8) s26_8 (fun hc11 => ?_) (fun hc11 => ?_)
        · skip
          replace hr := bif_t hr hc11
          refine W_seq ?_
          refine W_region rfl ?_
          refine da_op rfl (d_mv (v := .float .f64 p0r) s0_8 ?_)
          refine da_op rfl (d_fop (k := .f64) fQuo rfl rfl cn_f64_4607182418800017408 p0h fun r12 w12 h12 _ E12 => ?_)
          have X13 : Ext w w12 := X10.trans E12
          refine da_op rfl (d_fcmp (k := .f64) cGtr rfl rfl h12 cn_f64_0 ?_)
          refine da_op rfl (d_mv (v := .float .f64 p1r) s1_8 ?_)
          refine da_op rfl (d_fop (k := .f64) fQuo rfl rfl cn_f64_4607182418800017408 p1h fun r14 w14 h14 _ E14 => ?_)
          have X15 : Ext w w14 := X13.trans E14
          refine da_op rfl (d_fcmp (k := .f64) cGtr rfl rfl h14 cn_f64_0 ?_)
          refine da_op rfl (d_beq un4 rfl rfl ?_)
          refine da_op rfl (d_as (v := .bool ((fcmp .gtr .f64 (fop .quo .f64 4607182418800017408 p0) 0) == (fcmp .gtr .f64 (fop .quo .f64 4607182418800017408 p1) 0))) rfl ?_)
          refine da_nil ?_
          refine W_ret ?_
          subst hr
          refine ⟨_, res1 (rv_tmp rfl), ?_⟩
          exact ⟨rfl, X15⟩
        · skip
          replace hr := bif_f hr hc11
          refine W_skip ?_
          refine W_seq ?_
          refine W_region rfl ?_
          refine da_op rfl (d_mv (v := .float .f64 p0r) s0_8 ?_)
          refine da_op rfl (d_mv (v := .float .f64 p1r) s1_8 ?_)
          refine da_op rfl (d_fcmp (k := .f64) cEql rfl rfl p0h p1h ?_)
          refine da_op rfl (d_as (v := .bool (fcmp .eql .f64 p0 p1)) rfl ?_)
          refine da_nil ?_
          refine W_ret ?_
          subst hr
          refine ⟨_, res1 (rv_tmp rfl), ?_⟩
          exact ⟨rfl, X10⟩
set_option maxHeartbeats 4000000 in
theorem c69 (p0 : SVector) (p1 : SVector) (p0r0 : Nat) (p0r1 : Nat) (p0r2 : Nat) (p1r0 : Nat) (p1r1 : Nat) (p1r2 : Nat) (r : Bool) (w : World) (hr : M.laws_eqVector p0 p1 = r) (p0h0 : cn .f32 p0r0 = p0.x) (p0h1 : cn .f32 p0r1 = p0.y) (p0h2 : cn .f32 p0r2 = p0.z) (p1h0 : cn .f32 p1r0 = p1.x) (p1h1 : cn .f32 p1r1 = p1.y) (p1h2 : cn .f32 p1r2 = p1.z) :
    Calls Tryd.prog 69 #[.agg #[.float .f32 p0r0, .float .f32 p0r1, .float .f32 p0r2], .agg #[.float .f32 p1r0, .float .f32 p1r1, .float .f32 p1r2]] w fun e w' => e = .returned (.bool r) ∧ Ext w w' := by
  refine calls_of_W Tryd.func69 rfl (Nat.le_of_ble_eq_true rfl) ?_
  refine W_seq ?_
  refine W_region rfl ?_
  refine da_op rfl (d_box (cs := #[.float .f32 p0r0, .float .f32 p0r1, .float .f32 p0r2]) rfl fun w1 B1 E1 => ?_)
  have own2 : w.heap.size ≤ w.heap.size := Nat.le_trans (Ext.refl w).size (Nat.le_refl _)
  have X3 : Ext w w1 := (Ext.refl w).trans E1
  refine da_op rfl (d_box (cs := #[.float .f32 p1r0, .float .f32 p1r1, .float .f32 p1r2]) rfl fun w4 B4 E4 => ?_)
  have own5 : w.heap.size ≤ w1.heap.size := Nat.le_trans X3.size (Nat.le_refl _)
  have sp6 : w.heap.size ≠ w1.heap.size := Nat.ne_of_lt (Nat.lt_of_lt_of_le (lt_heap B1) (Nat.le_refl _))
  have X7 : Ext w w4 := X3.trans E4
  refine da_op rfl (d_as (v := .bool false) rfl ?_)
  refine da_nil ?_
  refine W_seq ?_
  refine W_seq ?_
  refine W_region rfl ?_
  refine da_op rfl (d_fieldAddr rfl (fa44_0 _ _) ?_)
  have B8 : w4.heap[w.heap.size]? = some (.cells #[.float .f32 p0r0, .float .f32 p0r1, .float .f32 p0r2] 44 (0, 0)) := E4.heap B1
  refine da_op rfl (d_load (v := .float .f32 p0r0) rfl agg22 B8 rfl ?_)
  refine da_op rfl (d_widen un22 un89 rfl p0h0 fun r9 w9 h9 _ E9 => ?_)
  have X10 : Ext w w9 := X7.trans E9
  refine da_op rfl (d_fieldAddr rfl (fa44_0 _ _) ?_)
  have B11 : w9.heap[w1.heap.size]? = some (.cells #[.float .f32 p1r0, .float .f32 p1r1, .float .f32 p1r2] 44 (0, 0)) := E9.heap B4
  refine da_op rfl (d_load (v := .float .f32 p1r0) rfl agg22 B11 rfl ?_)
  refine da_op rfl (d_widen un22 un89 rfl p1h0 fun r12 w12 h12 _ E12 => ?_)
  have X13 : Ext w w12 := X10.trans E12
  obtain ⟨m14, hm14, hr⟩ := letv_out hr
  have B15 : w12.heap[w.heap.size]? = some (.cells #[.float .f32 p0r0, .float .f32 p0r1, .float .f32 p0r2] 44 (0, 0)) := E12.heap (E9.heap B8)
  have B16 : w12.heap[w1.heap.size]? = some (.cells #[.float .f32 p1r0, .float .f32 p1r1, .float .f32 p1r2] 44 (0, 0)) := E12.heap B11
  refine da_op rfl (d_cl (vs := [.float .f64 r9, .float .f64 r12]) en51 (ac rfl (ac rfl rfl)) rfl ?_)
  refine (c51 (widen p0.x) (widen p1.x) r9 r12 m14 w12 hm14 h9 h12).mono ?_
  rintro _ w17 ⟨rfl, E17⟩
  refine ⟨_, rfl, ?_⟩
  have X18 : Ext w w17 := X13.trans E17
  refine da_op rfl (d_not rfl ?_)
  refine da_nil ?_
  refine W_cond (b := (!m14)) rfl (fun hc19 => ?_) (fun hc19 => ?_)
  · skip
    replace hr := bif_t hr hc19
    refine W_seq ?_
    refine W_region rfl ?_
    refine da_op rfl (d_as (v := .bool false) rfl ?_)
    refine da_nil ?_
    refine W_ret ?_
    subst hr
    refine ⟨_, res1 (rv_tmp rfl), ?_⟩
    exact ⟨rfl, X18⟩
  · skip
    replace hr := bif_f hr hc19
    refine W_skip ?_
    refine W_seq ?_
    refine W_seq ?_
    refine W_region rfl ?_
    refine da_op rfl (d_fieldAddr rfl (fa44_1 _ _) ?_)
    have B20 : w17.heap[w.heap.size]? = some (.cells #[.float .f32 p0r0, .float .f32 p0r1, .float .f32 p0r2] 44 (0, 0)) := E17.heap B15
    refine da_op rfl (d_load (v := .float .f32 p0r1) rfl agg22 B20 rfl ?_)
    refine da_op rfl (d_widen un22 un89 rfl p0h1 fun r21 w21 h21 _ E21 => ?_)
    have X22 : Ext w w21 := X18.trans E21
    refine da_op rfl (d_fieldAddr rfl (fa44_1 _ _) ?_)
    have B23 : w21.heap[w1.heap.size]? = some (.cells #[.float .f32 p1r0, .float .f32 p1r1, .float .f32 p1r2] 44 (0, 0)) := E21.heap (E17.heap B16)
    refine da_op rfl (d_load (v := .float .f32 p1r1) rfl agg22 B23 rfl ?_)
    refine da_op rfl (d_widen un22 un89 rfl p1h1 fun r24 w24 h24 _ E24 => ?_)
    have X25 : Ext w w24 := X22.trans E24
    obtain ⟨m26, hm26, hr⟩ := letv_out hr
    have B27 : w24.heap[w.heap.size]? = some (.cells #[.float .f32 p0r0, .float .f32 p0r1, .float .f32 p0r2] 44 (0, 0)) := E24.heap (E21.heap B20)
    have B28 : w24.heap[w1.heap.size]? = some (.cells #[.float .f32 p1r0, .float .f32 p1r1, .float .f32 p1r2] 44 (0, 0)) := E24.heap B23
    refine da_op rfl (d_cl (vs := [.float .f64 r21, .float .f64 r24]) en51 (ac rfl (ac rfl rfl)) rfl ?_)
    refine (c51 (widen p0.y) (widen p1.y) r21 r24 m26 w24 hm26 h21 h24).mono ?_
    rintro _ w29 ⟨rfl, E29⟩
    refine ⟨_, rfl, ?_⟩
    have X30 : Ext w w29 := X25.trans E29
    refine da_op rfl (d_not rfl ?_)
    refine da_nil ?_
    refine W_cond (b := (!m26)) rfl (fun hc31 => ?_) (fun hc31 => ?_)
    · skip
      replace hr := bif_t hr hc31
      refine W_seq ?_
      refine W_region rfl ?_
      refine da_op rfl (d_as (v := .bool false) rfl ?_)
      refine da_nil ?_
      refine W_ret ?_
      subst hr
      refine ⟨_, res1 (rv_tmp rfl), ?_⟩
      exact ⟨rfl, X30⟩
    · skip
      replace hr := bif_f hr hc31
      refine W_skip ?_
      refine W_seq ?_
      refine W_seq ?_
      refine W_region rfl ?_
      refine da_op rfl (d_fieldAddr rfl (fa44_2 _ _) ?_)
      have B32 : w29.heap[w.heap.size]? = some (.cells #[.float .f32 p0r0, .float .f32 p0r1, .float .f32 p0r2] 44 (0, 0)) := E29.heap B27
      refine da_op rfl (d_load (v := .float .f32 p0r2) rfl agg22 B32 rfl ?_)
      refine da_op rfl (d_widen un22 un89 rfl p0h2 fun r33 w33 h33 _ E33 => ?_)
      have X34 : Ext w w33 := X30.trans E33
      refine da_op rfl (d_fieldAddr rfl (fa44_2 _ _) ?_)
      have B35 : w33.heap[w1.heap.size]? = some (.cells #[.float .f32 p1r0, .float .f32 p1r1, .float .f32 p1r2] 44 (0, 0)) := E33.heap (E29.heap B28)
      refine da_op rfl (d_load (v := .float .f32 p1r2) rfl agg22 B35 rfl ?_)
      refine da_op rfl (d_widen un22 un89 rfl p1h2 fun r36 w36 h36 _ E36 => ?_)
      have X37 : Ext w w36 := X34.trans E36
      obtain ⟨m38, hm38, hr⟩ := letv_out hr
      have B39 : w36.heap[w.heap.size]? = some (.cells #[.float .f32 p0r0, .float .f32 p0r1, .float .f32 p0r2] 44 (0, 0)) := E36.heap (E33.heap B32)
      have B40 : w36.heap[w1.heap.size]? = some (.cells #[.float .f32 p1r0, .float .f32 p1r1, .float .f32 p1r2] 44 (0, 0)) := E36.heap B35
      refine da_op rfl (d_cl (vs := [.float .f64 r33, .float .f64 r36]) en51 (ac rfl (ac rfl rfl)) rfl ?_)
      refine (c51 (widen p0.z) (widen p1.z) r33 r36 m38 w36 hm38 h33 h36).mono ?_
      rintro _ w41 ⟨rfl, E41⟩
      refine ⟨_, rfl, ?_⟩
      have X42 : Ext w w41 := X37.trans E41
      refine da_op rfl (d_not rfl ?_)
      refine da_nil ?_
      refine W_cond (b := (!m38)) rfl (fun hc43 => ?_) (fun hc43 => ?_)
      · skip
        replace hr := bif_t hr hc43
        refine W_seq ?_
        refine W_region rfl ?_
        refine da_op rfl (d_as (v := .bool false) rfl ?_)
        refine da_nil ?_
        refine W_ret ?_
        subst hr
        refine ⟨_, res1 (rv_tmp rfl), ?_⟩
        exact ⟨rfl, X42⟩
      · skip
        replace hr := bif_f hr hc43
        refine W_skip ?_
        refine W_seq ?_
        refine W_region rfl ?_
        refine da_op rfl (d_as (v := .bool true) rfl ?_)
        refine da_nil ?_
        refine W_ret ?_
        subst hr
        refine ⟨_, res1 (rv_tmp rfl), ?_⟩
        exact ⟨rfl, X42⟩
set_option maxHeartbeats 4000000 in
theorem c70 (p0 : SSpin) (p1 : SSpin) (p0r0 : Nat) (p0r1 : Nat) (p0r2 : Nat) (p0r3 : Nat) (p1r0 : Nat) (p1r1 : Nat) (p1r2 : Nat) (p1r3 : Nat) (r : Bool) (w : World) (hr : M.laws_eqSpin p0 p1 = r) (p0h0 : cn .f32 p0r0 = p0.w) (p0h1 : cn .f32 p0r1 = p0.x) (p0h2 : cn .f32 p0r2 = p0.y) (p0h3 : cn .f32 p0r3 = p0.z) (p1h0 : cn .f32 p1r0 = p1.w) (p1h1 : cn .f32 p1r1 = p1.x) (p1h2 : cn .f32 p1r2 = p1.y) (p1h3 : cn .f32 p1r3 = p1.z) :
    Calls Tryd.prog 70 #[.agg #[.float .f32 p0r0, .float .f32 p0r1, .float .f32 p0r2, .float .f32 p0r3], .agg #[.float .f32 p1r0, .float .f32 p1r1, .float .f32 p1r2, .float .f32 p1r3]] w fun e w' => e = .returned (.bool r) ∧ Ext w w' := by
  refine calls_of_W Tryd.func70 rfl (Nat.le_of_ble_eq_true rfl) ?_
  refine W_seq ?_
  refine W_region rfl ?_
  refine da_op rfl (d_box (cs := #[.float .f32 p0r0, .float .f32 p0r1, .float .f32 p0r2, .float .f32 p0r3]) rfl fun w1 B1 E1 => ?_)
  have own2 : w.heap.size ≤ w.heap.size := Nat.le_trans (Ext.refl w).size (Nat.le_refl _)
  have X3 : Ext w w1 := (Ext.refl w).trans E1
  refine da_op rfl (d_box (cs := #[.float .f32 p1r0, .float .f32 p1r1, .float .f32 p1r2, .float .f32 p1r3]) rfl fun w4 B4 E4 => ?_)
  have own5 : w.heap.size ≤ w1.heap.size := Nat.le_trans X3.size (Nat.le_refl _)
  have sp6 : w.heap.size ≠ w1.heap.size := Nat.ne_of_lt (Nat.lt_of_lt_of_le (lt_heap B1) (Nat.le_refl _))
  have X7 : Ext w w4 := X3.trans E4
  refine da_op rfl (d_as (v := .bool false) rfl ?_)
  refine da_nil ?_
  refine W_seq ?_
  refine W_seq ?_
  refine W_region rfl ?_
  refine da_op rfl (d_fieldAddr rfl (fa46_0 _ _) ?_)
  have B8 : w4.heap[w.heap.size]? = some (.cells #[.float .f32 p0r0, .float .f32 p0r1, .float .f32 p0r2, .float .f32 p0r3] 46 (0, 0)) := E4.heap B1
  refine da_op rfl (d_load (v := .float .f32 p0r0) rfl agg22 B8 rfl ?_)
  refine da_op rfl (d_widen un22 un89 rfl p0h0 fun r9 w9 h9 _ E9 => ?_)
  have X10 : Ext w w9 := X7.trans E9
  refine da_op rfl (d_fieldAddr rfl (fa46_0 _ _) ?_)
  have B11 : w9.heap[w1.heap.size]? = some (.cells #[.float .f32 p1r0, .float .f32 p1r1, .float .f32 p1r2, .float .f32 p1r3] 46 (0, 0)) := E9.heap B4
  refine da_op rfl (d_load (v := .float .f32 p1r0) rfl agg22 B11 rfl ?_)
  refine da_op rfl (d_widen un22 un89 rfl p1h0 fun r12 w12 h12 _ E12 => ?_)
  have X13 : Ext w w12 := X10.trans E12
  obtain ⟨m14, hm14, hr⟩ := letv_out hr
  have B15 : w12.heap[w.heap.size]? = some (.cells #[.float .f32 p0r0, .float .f32 p0r1, .float .f32 p0r2, .float .f32 p0r3] 46 (0, 0)) := E12.heap (E9.heap B8)
  have B16 : w12.heap[w1.heap.size]? = some (.cells #[.float .f32 p1r0, .float .f32 p1r1, .float .f32 p1r2, .float .f32 p1r3] 46 (0, 0)) := E12.heap B11
  refine da_op rfl (d_cl (vs := [.float .f64 r9, .float .f64 r12]) en51 (ac rfl (ac rfl rfl)) rfl ?_)
  refine (c51 (widen p0.w) (widen p1.w) r9 r12 m14 w12 hm14 h9 h12).mono ?_
  rintro _ w17 ⟨rfl, E17⟩
  refine ⟨_, rfl, ?_⟩
  have X18 : Ext w w17 := X13.trans E17
  refine da_op rfl (d_not rfl ?_)
  refine da_nil ?_
  refine W_cond (b := (!m14)) rfl (fun hc19 => ?_) (fun hc19 => ?_)
  · skip
    replace hr := bif_t hr hc19
    refine W_seq ?_
    refine W_region rfl ?_
    refine da_op rfl (d_as (v := .bool false) rfl ?_)
    refine da_nil ?_
    refine W_ret ?_
    subst hr
    refine ⟨_, res1 (rv_tmp rfl), ?_⟩
    exact ⟨rfl, X18⟩
  · skip
    replace hr := bif_f hr hc19
    refine W_skip ?_
    refine W_seq ?_
    refine W_seq ?_
    refine W_region rfl ?_
    refine da_op rfl (d_fieldAddr rfl (fa46_1 _ _) ?_)
    have B20 : w17.heap[w.heap.size]? = some (.cells #[.float .f32 p0r0, .float .f32 p0r1, .float .f32 p0r2, .float .f32 p0r3] 46 (0, 0)) := E17.heap B15
    refine da_op rfl (d_load (v := .float .f32 p0r1) rfl agg22 B20 rfl ?_)
    refine da_op rfl (d_widen un22 un89 rfl p0h1 fun r21 w21 h21 _ E21 => ?_)
    have X22 : Ext w w21 := X18.trans E21
    refine da_op rfl (d_fieldAddr rfl (fa46_1 _ _) ?_)
    have B23 : w21.heap[w1.heap.size]? = some (.cells #[.float .f32 p1r0, .float .f32 p1r1, .float .f32 p1r2, .float .f32 p1r3] 46 (0, 0)) := E21.heap (E17.heap B16)
    refine da_op rfl (d_load (v := .float .f32 p1r1) rfl agg22 B23 rfl ?_)
    refine da_op rfl (d_widen un22 un89 rfl p1h1 fun r24 w24 h24 _ E24 => ?_)
    have X25 : Ext w w24 := X22.trans E24
    obtain ⟨m26, hm26, hr⟩ := letv_out hr
    have B27 : w24.heap[w.heap.size]? = some (.cells #[.float .f32 p0r0, .float .f32 p0r1, .float .f32 p0r2, .float .f32 p0r3] 46 (0, 0)) := E24.heap (E21.heap B20)
    have B28 : w24.heap[w1.heap.size]? = some (.cells #[.float .f32 p1r0, .float .f32 p1r1, .float .f32 p1r2, .float .f32 p1r3] 46 (0, 0)) := E24.heap B23
    refine da_op rfl (d_cl (vs := [.float .f64 r21, .float .f64 r24]) en51 (ac rfl (ac rfl rfl)) rfl ?_)
    refine (c51 (widen p0.x) (widen p1.x) r21 r24 m26 w24 hm26 h21 h24).mono ?_
    rintro _ w29 ⟨rfl, E29⟩
    refine ⟨_, rfl, ?_⟩
    have X30 : Ext w w29 := X25.trans E29
    refine da_op rfl (d_not rfl ?_)
    refine da_nil ?_
    refine W_cond (b := (!m26)) rfl (fun hc31 => ?_) (fun hc31 => ?_)
    · skip
      replace hr := bif_t hr hc31
      refine W_seq ?_
      refine W_region rfl ?_
      refine da_op rfl (d_as (v := .bool false) rfl ?_)
      refine da_nil ?_
      refine W_ret ?_
      subst hr
      refine ⟨_, res1 (rv_tmp rfl), ?_⟩
      exact ⟨rfl, X30⟩
    · skip
      replace hr := bif_f hr hc31
      refine W_skip ?_
      refine W_seq ?_
      refine W_seq ?_
      refine W_region rfl ?_
      refine da_op rfl (d_fieldAddr rfl (fa46_2 _ _) ?_)
      have B32 : w29.heap[w.heap.size]? = some (.cells #[.float .f32 p0r0, .float .f32 p0r1, .float .f32 p0r2, .float .f32 p0r3] 46 (0, 0)) := E29.heap B27
      refine da_op rfl (d_load (v := .float .f32 p0r2) rfl agg22 B32 rfl ?_)
      refine da_op rfl (d_widen un22 un89 rfl p0h2 fun r33 w33 h33 _ E33 => ?_)
      have X34 : Ext w w33 := X30.trans E33
      refine da_op rfl (d_fieldAddr rfl (fa46_2 _ _) ?_)
      have B35 : w33.heap[w1.heap.size]? = some (.cells #[.float .f32 p1r0, .float .f32 p1r1, .float .f32 p1r2, .float .f32 p1r3] 46 (0, 0)) := E33.heap (E29.heap B28)
      refine da_op rfl (d_load (v := .float .f32 p1r2) rfl agg22 B35 rfl ?_)
      refine da_op rfl (d_widen un22 un89 rfl p1h2 fun r36 w36 h36 _ E36 => ?_)
      have X37 : Ext w w36 := X34.trans E36
      obtain ⟨m38, hm38, hr⟩ := letv_out hr
      have B39 : w36.heap[w.heap.size]? = some (.cells #[.float .f32 p0r0, .float .f32 p0r1, .float .f32 p0r2, .float .f32 p0r3] 46 (0, 0)) := E36.heap (E33.heap B32)
      have B40 : w36.heap[w1.heap.size]? = some (.cells #[.float .f32 p1r0, .float .f32 p1r1, .float .f32 p1r2, .float .f32 p1r3] 46 (0, 0)) := E36.heap B35
      refine da_op rfl (d_cl (vs := [.float .f64 r33, .float .f64 r36]) en51 (ac rfl (ac rfl rfl)) rfl ?_)
      refine (c51 (widen p0.y) (widen p1.y) r33 r36 m38 w36 hm38 h33 h36).mono ?_
      rintro _ w41 ⟨rfl, E41⟩
      refine ⟨_, rfl, ?_⟩
      have X42 : Ext w w41 := X37.trans E41
      refine da_op rfl (d_not rfl ?_)
      refine da_nil ?_
      refine W_cond (b := (!m38)) rfl (fun hc43 => ?_) (fun hc43 => ?_)
      · skip
        replace hr := bif_t hr hc43
        refine W_seq ?_
        refine W_region rfl ?_
        refine da_op rfl (d_as (v := .bool false) rfl ?_)
        refine da_nil ?_
        refine W_ret ?_
        subst hr
        refine ⟨_, res1 (rv_tmp rfl), ?_⟩
        exact ⟨rfl, X42⟩
      · skip
        replace hr := bif_f hr hc43
        refine W_skip ?_
        refine W_seq ?_
        refine W_seq ?_
        refine W_region rfl ?_
        refine da_op rfl (d_fieldAddr rfl (fa46_3 _ _) ?_)
        have B44 : w41.heap[w.heap.size]? = some (.cells #[.float .f32 p0r0, .float .f32 p0r1, .float .f32 p0r2, .float .f32 p0r3] 46 (0, 0)) := E41.heap B39
        refine da_op rfl (d_load (v := .float .f32 p0r3) rfl agg22 B44 rfl ?_)
        refine da_op rfl (d_widen un22 un89 rfl p0h3 fun r45 w45 h45 _ E45 => ?_)
        have X46 : Ext w w45 := X42.trans E45
        refine da_op rfl (d_fieldAddr rfl (fa46_3 _ _) ?_)
        have B47 : w45.heap[w1.heap.size]? = some (.cells #[.float .f32 p1r0, .float .f32 p1r1, .float .f32 p1r2, .float .f32 p1r3] 46 (0, 0)) := E45.heap (E41.heap B40)
        refine da_op rfl (d_load (v := .float .f32 p1r3) rfl agg22 B47 rfl ?_)
        refine da_op rfl (d_widen un22 un89 rfl p1h3 fun r48 w48 h48 _ E48 => ?_)
        have X49 : Ext w w48 := X46.trans E48
        obtain ⟨m50, hm50, hr⟩ := letv_out hr
        have B51 : w48.heap[w.heap.size]? = some (.cells #[.float .f32 p0r0, .float .f32 p0r1, .float .f32 p0r2, .float .f32 p0r3] 46 (0, 0)) := E48.heap (E45.heap B44)
        have B52 : w48.heap[w1.heap.size]? = some (.cells #[.float .f32 p1r0, .float .f32 p1r1, .float .f32 p1r2, .float .f32 p1r3] 46 (0, 0)) := E48.heap B47
        refine da_op rfl (d_cl (vs := [.float .f64 r45, .float .f64 r48]) en51 (ac rfl (ac rfl rfl)) rfl ?_)
        refine (c51 (widen p0.z) (widen p1.z) r45 r48 m50 w48 hm50 h45 h48).mono ?_
        rintro _ w53 ⟨rfl, E53⟩
        refine ⟨_, rfl, ?_⟩
        have X54 : Ext w w53 := X49.trans E53
        refine da_op rfl (d_not rfl ?_)
        refine da_nil ?_
        refine W_cond (b := (!m50)) rfl (fun hc55 => ?_) (fun hc55 => ?_)
        · skip
          replace hr := bif_t hr hc55
          refine W_seq ?_
          refine W_region rfl ?_
          refine da_op rfl (d_as (v := .bool false) rfl ?_)
          refine da_nil ?_
          refine W_ret ?_
          subst hr
          refine ⟨_, res1 (rv_tmp rfl), ?_⟩
          exact ⟨rfl, X54⟩
        · skip
          replace hr := bif_f hr hc55
          refine W_skip ?_
          refine W_seq ?_
          refine W_region rfl ?_
          refine da_op rfl (d_as (v := .bool true) rfl ?_)
          refine da_nil ?_
          refine W_ret ?_
          subst hr
          refine ⟨_, res1 (rv_tmp rfl), ?_⟩
          exact ⟨rfl, X54⟩
set_option maxHeartbeats 4000000 in
theorem c28 (p0 : STop) (p1 : STop) (p0r0 : Nat) (p0r1 : Nat) (p0r2 : Nat) (p0r3 : Nat) (p0r4 : Nat) (p0r5 : Nat) (p0r6 : Nat) (p0r7 : Nat) (p0r8 : Nat) (p0r9 : Nat) (p1r0 : Nat) (p1r1 : Nat) (p1r2 : Nat) (p1r3 : Nat) (p1r4 : Nat) (p1r5 : Nat) (p1r6 : Nat) (p1r7 : Nat) (p1r8 : Nat) (p1r9 : Nat) (r : Bool) (w : World) (hr : M.laws_eqTop p0 p1 = r) (p0h0 : cn .f32 p0r0 = p0.moments.x) (p0h1 : cn .f32 p0r1 = p0.moments.y) (p0h2 : cn .f32 p0r2 = p0.moments.z) (p0h3 : cn .f32 p0r3 = p0.turn.w) (p0h4 : cn .f32 p0r4 = p0.turn.x) (p0h5 : cn .f32 p0r5 = p0.turn.y) (p0h6 : cn .f32 p0r6 = p0.turn.z) (p0h7 : cn .f32 p0r7 = p0.speed.x) (p0h8 : cn .f32 p0r8 = p0.speed.y) (p0h9 : cn .f32 p0r9 = p0.speed.z) (p1h0 : cn .f32 p1r0 = p1.moments.x) (p1h1 : cn .f32 p1r1 = p1.moments.y) (p1h2 : cn .f32 p1r2 = p1.moments.z) (p1h3 : cn .f32 p1r3 = p1.turn.w) (p1h4 : cn .f32 p1r4 = p1.turn.x) (p1h5 : cn .f32 p1r5 = p1.turn.y) (p1h6 : cn .f32 p1r6 = p1.turn.z) (p1h7 : cn .f32 p1r7 = p1.speed.x) (p1h8 : cn .f32 p1r8 = p1.speed.y) (p1h9 : cn .f32 p1r9 = p1.speed.z) :
    Calls Tryd.prog 28 #[.agg #[.float .f32 p0r0, .float .f32 p0r1, .float .f32 p0r2, .float .f32 p0r3, .float .f32 p0r4, .float .f32 p0r5, .float .f32 p0r6, .float .f32 p0r7, .float .f32 p0r8, .float .f32 p0r9], .agg #[.float .f32 p1r0, .float .f32 p1r1, .float .f32 p1r2, .float .f32 p1r3, .float .f32 p1r4, .float .f32 p1r5, .float .f32 p1r6, .float .f32 p1r7, .float .f32 p1r8, .float .f32 p1r9]] w fun e w' => e = .returned (.bool r) ∧ Ext w w' := by
  refine calls_of_W Tryd.func28 rfl (Nat.le_of_ble_eq_true rfl) ?_
  refine W_seq ?_
  refine W_region rfl ?_
  refine da_op rfl (d_box (cs := #[.float .f32 p0r0, .float .f32 p0r1, .float .f32 p0r2, .float .f32 p0r3, .float .f32 p0r4, .float .f32 p0r5, .float .f32 p0r6, .float .f32 p0r7, .float .f32 p0r8, .float .f32 p0r9]) rfl fun w1 B1 E1 => ?_)
  have own2 : w.heap.size ≤ w.heap.size := Nat.le_trans (Ext.refl w).size (Nat.le_refl _)
  have X3 : Ext w w1 := (Ext.refl w).trans E1
  refine da_op rfl (d_box (cs := #[.float .f32 p1r0, .float .f32 p1r1, .float .f32 p1r2, .float .f32 p1r3, .float .f32 p1r4, .float .f32 p1r5, .float .f32 p1r6, .float .f32 p1r7, .float .f32 p1r8, .float .f32 p1r9]) rfl fun w4 B4 E4 => ?_)
  have own5 : w.heap.size ≤ w1.heap.size := Nat.le_trans X3.size (Nat.le_refl _)
  have sp6 : w.heap.size ≠ w1.heap.size := Nat.ne_of_lt (Nat.lt_of_lt_of_le (lt_heap B1) (Nat.le_refl _))
  have X7 : Ext w w4 := X3.trans E4
  refine da_op rfl (d_as (v := .bool false) rfl ?_)
  refine da_nil ?_
  refine W_seq ?_
  refine W_seq ?_
  refine W_region rfl ?_
  refine da_op rfl (d_fieldAddr rfl (fa48_0 _ _) ?_)
  have B8 : w4.heap[w.heap.size]? = some (.cells #[.float .f32 p0r0, .float .f32 p0r1, .float .f32 p0r2, .float .f32 p0r3, .float .f32 p0r4, .float .f32 p0r5, .float .f32 p0r6, .float .f32 p0r7, .float .f32 p0r8, .float .f32 p0r9] 48 (0, 0)) := E4.heap B1
  refine da_op rfl (d_loads (vs := #[.float .f32 p0r0, .float .f32 p0r1, .float .f32 p0r2]) rfl agg44 size44 B8 rfl ?_)
  refine da_op rfl (d_fieldAddr rfl (fa48_0 _ _) ?_)
  refine da_op rfl (d_loads (vs := #[.float .f32 p1r0, .float .f32 p1r1, .float .f32 p1r2]) rfl agg44 size44 B4 rfl ?_)
  obtain ⟨m9, hm9, hr⟩ := letv_out hr
  refine da_op rfl (d_cl (vs := [.agg #[.float .f32 p0r0, .float .f32 p0r1, .float .f32 p0r2], .agg #[.float .f32 p1r0, .float .f32 p1r1, .float .f32 p1r2]]) en69 (ac rfl (ac rfl rfl)) rfl ?_)
  refine (c69 (⟨p0.moments.x, p0.moments.y, p0.moments.z⟩ : SVector) (⟨p1.moments.x, p1.moments.y, p1.moments.z⟩ : SVector) p0r0 p0r1 p0r2 p1r0 p1r1 p1r2 m9 w4 hm9 p0h0 p0h1 p0h2 p1h0 p1h1 p1h2).mono ?_
  rintro _ w10 ⟨rfl, E10⟩
  refine ⟨_, rfl, ?_⟩
  have X11 : Ext w w10 := X7.trans E10
  refine da_op rfl (d_not rfl ?_)
  refine da_nil ?_
  refine W_cond (b := (!m9)) rfl (fun hc12 => ?_) (fun hc12 => ?_)
  · skip
    replace hr := bif_t hr hc12
    refine W_seq ?_
    refine W_region rfl ?_
    refine da_op rfl (d_as (v := .bool false) rfl ?_)
    refine da_nil ?_
    refine W_ret ?_
    subst hr
    refine ⟨_, res1 (rv_tmp rfl), ?_⟩
    exact ⟨rfl, X11⟩
  · skip
    replace hr := bif_f hr hc12
    refine W_skip ?_
    refine W_seq ?_
    refine W_seq ?_
    refine W_region rfl ?_
    refine da_op rfl (d_fieldAddr rfl (fa48_1 _ _) ?_)
    have B13 : w10.heap[w.heap.size]? = some (.cells #[.float .f32 p0r0, .float .f32 p0r1, .float .f32 p0r2, .float .f32 p0r3, .float .f32 p0r4, .float .f32 p0r5, .float .f32 p0r6, .float .f32 p0r7, .float .f32 p0r8, .float .f32 p0r9] 48 (0, 0)) := E10.heap B8
    refine da_op rfl (d_loads (vs := #[.float .f32 p0r3, .float .f32 p0r4, .float .f32 p0r5, .float .f32 p0r6]) rfl agg46 size46 B13 rfl ?_)
    refine da_op rfl (d_fieldAddr rfl (fa48_1 _ _) ?_)
    have B14 : w10.heap[w1.heap.size]? = some (.cells #[.float .f32 p1r0, .float .f32 p1r1, .float .f32 p1r2, .float .f32 p1r3, .float .f32 p1r4, .float .f32 p1r5, .float .f32 p1r6, .float .f32 p1r7, .float .f32 p1r8, .float .f32 p1r9] 48 (0, 0)) := E10.heap B4
    refine da_op rfl (d_loads (vs := #[.float .f32 p1r3, .float .f32 p1r4, .float .f32 p1r5, .float .f32 p1r6]) rfl agg46 size46 B14 rfl ?_)
    obtain ⟨m15, hm15, hr⟩ := letv_out hr
    refine da_op rfl (d_cl (vs := [.agg #[.float .f32 p0r3, .float .f32 p0r4, .float .f32 p0r5, .float .f32 p0r6], .agg #[.float .f32 p1r3, .float .f32 p1r4, .float .f32 p1r5, .float .f32 p1r6]]) en70 (ac rfl (ac rfl rfl)) rfl ?_)
    refine (c70 (⟨p0.turn.w, p0.turn.x, p0.turn.y, p0.turn.z⟩ : SSpin) (⟨p1.turn.w, p1.turn.x, p1.turn.y, p1.turn.z⟩ : SSpin) p0r3 p0r4 p0r5 p0r6 p1r3 p1r4 p1r5 p1r6 m15 w10 hm15 p0h3 p0h4 p0h5 p0h6 p1h3 p1h4 p1h5 p1h6).mono ?_
    rintro _ w16 ⟨rfl, E16⟩
    refine ⟨_, rfl, ?_⟩
    have X17 : Ext w w16 := X11.trans E16
    refine da_op rfl (d_not rfl ?_)
    refine da_nil ?_
    refine W_cond (b := (!m15)) rfl (fun hc18 => ?_) (fun hc18 => ?_)
    · skip
      replace hr := bif_t hr hc18
      refine W_seq ?_
      refine W_region rfl ?_
      refine da_op rfl (d_as (v := .bool false) rfl ?_)
      refine da_nil ?_
      refine W_ret ?_
      subst hr
      refine ⟨_, res1 (rv_tmp rfl), ?_⟩
      exact ⟨rfl, X17⟩
    · skip
      replace hr := bif_f hr hc18
      refine W_skip ?_
      refine W_seq ?_
      refine W_seq ?_
      refine W_region rfl ?_
      refine da_op rfl (d_fieldAddr rfl (fa48_2 _ _) ?_)
      have B19 : w16.heap[w.heap.size]? = some (.cells #[.float .f32 p0r0, .float .f32 p0r1, .float .f32 p0r2, .float .f32 p0r3, .float .f32 p0r4, .float .f32 p0r5, .float .f32 p0r6, .float .f32 p0r7, .float .f32 p0r8, .float .f32 p0r9] 48 (0, 0)) := E16.heap B13
      refine da_op rfl (d_loads (vs := #[.float .f32 p0r7, .float .f32 p0r8, .float .f32 p0r9]) rfl agg44 size44 B19 rfl ?_)
      refine da_op rfl (d_fieldAddr rfl (fa48_2 _ _) ?_)
      have B20 : w16.heap[w1.heap.size]? = some (.cells #[.float .f32 p1r0, .float .f32 p1r1, .float .f32 p1r2, .float .f32 p1r3, .float .f32 p1r4, .float .f32 p1r5, .float .f32 p1r6, .float .f32 p1r7, .float .f32 p1r8, .float .f32 p1r9] 48 (0, 0)) := E16.heap B14
      refine da_op rfl (d_loads (vs := #[.float .f32 p1r7, .float .f32 p1r8, .float .f32 p1r9]) rfl agg44 size44 B20 rfl ?_)
      obtain ⟨m21, hm21, hr⟩ := letv_out hr
      refine da_op rfl (d_cl (vs := [.agg #[.float .f32 p0r7, .float .f32 p0r8, .float .f32 p0r9], .agg #[.float .f32 p1r7, .float .f32 p1r8, .float .f32 p1r9]]) en69 (ac rfl (ac rfl rfl)) rfl ?_)
      refine (c69 (⟨p0.speed.x, p0.speed.y, p0.speed.z⟩ : SVector) (⟨p1.speed.x, p1.speed.y, p1.speed.z⟩ : SVector) p0r7 p0r8 p0r9 p1r7 p1r8 p1r9 m21 w16 hm21 p0h7 p0h8 p0h9 p1h7 p1h8 p1h9).mono ?_
      rintro _ w22 ⟨rfl, E22⟩
      refine ⟨_, rfl, ?_⟩
      have X23 : Ext w w22 := X17.trans E22
      refine da_op rfl (d_not rfl ?_)
      refine da_nil ?_
      refine W_cond (b := (!m21)) rfl (fun hc24 => ?_) (fun hc24 => ?_)
      · skip
        replace hr := bif_t hr hc24
        refine W_seq ?_
        refine W_region rfl ?_
        refine da_op rfl (d_as (v := .bool false) rfl ?_)
        refine da_nil ?_
        refine W_ret ?_
        subst hr
        refine ⟨_, res1 (rv_tmp rfl), ?_⟩
        exact ⟨rfl, X23⟩
      · skip
        replace hr := bif_f hr hc24
        refine W_skip ?_
        refine W_seq ?_
        refine W_region rfl ?_
        refine da_op rfl (d_as (v := .bool true) rfl ?_)
        refine da_nil ?_
        refine W_ret ?_
        subst hr
        refine ⟨_, res1 (rv_tmp rfl), ?_⟩
        exact ⟨rfl, X23⟩
set_option maxHeartbeats 4000000 in
theorem c7 (p0 : List UInt8) (r : Bool) (w : World) (hr : M.laws_FnExactReadTop p0 = some r)  :
    Calls Tryd.prog 7 #[.string (bs p0)] w fun e w' => e = .returned (.bool r) ∧ Ext w w' := by
  refine calls_of_W Tryd.func7 rfl (Nat.le_of_ble_eq_true rfl) ?_
  refine W_seq ?_
  refine W_region rfl ?_
  refine da_op rfl (d_as (v := .bool false) rfl ?_)
  refine da_nil ?_
  refine W_seq ?_
  refine W_seq ?_
  refine W_region rfl ?_
  refine da_op rfl (d_mv (v := .string (bs p0)) rfl ?_)
  refine da_op rfl (d_slen un9 rfl ?_)
  refine da_op rfl (d_icmp cGtr rfl rfl ?_)
  refine da_nil ?_
  refine W_cond (b := (icmp .gtr ((p0).length : Int) 1048576)) rfl (fun hc1 => ?_) (fun hc1 => ?_)
  · skip
    replace hr := bif_t hr hc1
    refine W_seq ?_
    refine W_region rfl ?_
    refine da_op rfl (d_as (v := .bool true) rfl ?_)
    refine da_nil ?_
    refine W_ret ?_
    obtain rfl := Option.some.inj hr
    refine ⟨_, res1 (rv_tmp rfl), ?_⟩
    exact ⟨rfl, (Ext.refl w)⟩
  · skip
    replace hr := bif_f hr hc1
    refine W_skip ?_
    refine W_seq ?_
    refine W_region rfl ?_
    refine da_op rfl (d_mv (v := .string (bs p0)) rfl ?_)
    obtain ⟨m2, hm2, hr⟩ := bind_out hr
    refine da_op rfl (d_cl (vs := [.string (bs p0)]) en26 (ac rfl rfl) rfl ?_)
    refine (c26 p0 m2 w hm2 ).mono ?_
    rintro _ w3 ⟨q3_0r0, q3_0r1, q3_0r2, q3_0r3, q3_0r4, q3_0r5, q3_0r6, q3_0r7, q3_0r8, q3_0r9, rfl, q3_0h0, q3_0h1, q3_0h2, q3_0h3, q3_0h4, q3_0h5, q3_0h6, q3_0h7, q3_0h8, q3_0h9, E3⟩
    refine ⟨_, rfl, ?_⟩
    have X4 : Ext w w3 := (Ext.refl w).trans E3
    refine da_op rfl (d_mv (v := .tuple #[.agg #[.float .f32 q3_0r0, .float .f32 q3_0r1, .float .f32 q3_0r2, .float .f32 q3_0r3, .float .f32 q3_0r4, .float .f32 q3_0r5, .float .f32 q3_0r6, .float .f32 q3_0r7, .float .f32 q3_0r8, .float .f32 q3_0r9], .bool m2.2]) rfl ?_)
    refine da_op rfl (d_extract (v := .agg #[.float .f32 q3_0r0, .float .f32 q3_0r1, .float .f32 q3_0r2, .float .f32 q3_0r3, .float .f32 q3_0r4, .float .f32 q3_0r5, .float .f32 q3_0r6, .float .f32 q3_0r7, .float .f32 q3_0r8, .float .f32 q3_0r9]) rfl rfl ?_)
    refine da_op rfl (d_extract (v := .bool m2.2) rfl rfl ?_)
    refine da_op rfl (d_alloc (cs := #[.float .f32 0, .float .f32 0, .float .f32 0, .float .f32 0, .float .f32 0, .float .f32 0, .float .f32 0, .float .f32 0, .float .f32 0, .float .f32 0]) zero48 rfl fun w5 B5 E5 => ?_)
    have own6 : w.heap.size ≤ w3.heap.size := Nat.le_trans X4.size (Nat.le_refl _)
    have X7 : Ext w w5 := X4.trans E5
    refine da_op rfl (d_store (vs := #[.float .f32 q3_0r0, .float .f32 q3_0r1, .float .f32 q3_0r2, .float .f32 q3_0r3, .float .f32 q3_0r4, .float .f32 q3_0r5, .float .f32 q3_0r6, .float .f32 q3_0r7, .float .f32 q3_0r8, .float .f32 q3_0r9]) rfl rfl B5 size48 (Nat.le_of_ble_eq_true rfl) rfl fun w8 S8 => ?_)
    have X9 : Ext w w8 := Ext.step X7 S8.frmb (fun k _ hk => hk ▸ own6)
    have B10 : w8.heap[w3.heap.size]? = some (.cells #[.float .f32 q3_0r0, .float .f32 q3_0r1, .float .f32 q3_0r2, .float .f32 q3_0r3, .float .f32 q3_0r4, .float .f32 q3_0r5, .float .f32 q3_0r6, .float .f32 q3_0r7, .float .f32 q3_0r8, .float .f32 q3_0r9] 48 (0, 0)) := S8.here
    refine da_op rfl (d_as (v := .bool m2.2) rfl ?_)
    refine da_nil ?_
    refine W_seq ?_
    refine W_region rfl ?_
    refine da_op rfl (d_mv (v := .string (bs p0)) rfl ?_)
    obtain ⟨m11, hm11, hr⟩ := bind_out hr
    refine da_op rfl (d_cl (vs := [.string (bs p0)]) en27 (ac rfl rfl) rfl ?_)
    refine (c27 p0 m11 w8 hm11 ).mono ?_
    rintro _ w12 ⟨q12_0r0, q12_0r1, q12_0r2, q12_0r3, q12_0r4, q12_0r5, q12_0r6, q12_0r7, q12_0r8, q12_0r9, rfl, q12_0h0, q12_0h1, q12_0h2, q12_0h3, q12_0h4, q12_0h5, q12_0h6, q12_0h7, q12_0h8, q12_0h9, E12⟩
    refine ⟨_, rfl, ?_⟩
    have X13 : Ext w w12 := X9.trans E12
    refine da_op rfl (d_mv (v := .tuple #[.agg #[.float .f32 q12_0r0, .float .f32 q12_0r1, .float .f32 q12_0r2, .float .f32 q12_0r3, .float .f32 q12_0r4, .float .f32 q12_0r5, .float .f32 q12_0r6, .float .f32 q12_0r7, .float .f32 q12_0r8, .float .f32 q12_0r9], .bool m11.2]) rfl ?_)
    refine da_op rfl (d_extract (v := .agg #[.float .f32 q12_0r0, .float .f32 q12_0r1, .float .f32 q12_0r2, .float .f32 q12_0r3, .float .f32 q12_0r4, .float .f32 q12_0r5, .float .f32 q12_0r6, .float .f32 q12_0r7, .float .f32 q12_0r8, .float .f32 q12_0r9]) rfl rfl ?_)
    refine da_op rfl (d_extract (v := .bool m11.2) rfl rfl ?_)
    have B15 : w12.heap[w3.heap.size]? = some (.cells #[.float .f32 q3_0r0, .float .f32 q3_0r1, .float .f32 q3_0r2, .float .f32 q3_0r3, .float .f32 q3_0r4, .float .f32 q3_0r5, .float .f32 q3_0r6, .float .f32 q3_0r7, .float .f32 q3_0r8, .float .f32 q3_0r9] 48 (0, 0)) := E12.heap B10
    refine da_op rfl (d_alloc (cs := #[.float .f32 0, .float .f32 0, .float .f32 0, .float .f32 0, .float .f32 0, .float .f32 0, .float .f32 0, .float .f32 0, .float .f32 0, .float .f32 0]) zero48 rfl fun w14 B14 E14 => ?_)
    have own16 : w.heap.size ≤ w12.heap.size := Nat.le_trans X13.size (Nat.le_refl _)
    have sp17 : w3.heap.size ≠ w12.heap.size := Nat.ne_of_lt (Nat.lt_of_lt_of_le (lt_heap B15) (Nat.le_refl _))
    have X18 : Ext w w14 := X13.trans E14
    refine da_op rfl (d_store (vs := #[.float .f32 q12_0r0, .float .f32 q12_0r1, .float .f32 q12_0r2, .float .f32 q12_0r3, .float .f32 q12_0r4, .float .f32 q12_0r5, .float .f32 q12_0r6, .float .f32 q12_0r7, .float .f32 q12_0r8, .float .f32 q12_0r9]) rfl rfl B14 size48 (Nat.le_of_ble_eq_true rfl) rfl fun w19 S19 => ?_)
    have X20 : Ext w w19 := Ext.step X18 S19.frmb (fun k _ hk => hk ▸ own16)
    have B21 : w19.heap[w12.heap.size]? = some (.cells #[.float .f32 q12_0r0, .float .f32 q12_0r1, .float .f32 q12_0r2, .float .f32 q12_0r3, .float .f32 q12_0r4, .float .f32 q12_0r5, .float .f32 q12_0r6, .float .f32 q12_0r7, .float .f32 q12_0r8, .float .f32 q12_0r9] 48 (0, 0)) := S19.here
    refine da_op rfl (d_as (v := .bool m11.2) rfl ?_)
    refine da_nil ?_
    refine W_seq ?_
    refine W_seq ?_
    have B23 : w19.heap[w3.heap.size]? = some (.cells #[.float .f32 q3_0r0, .float .f32 q3_0r1, .float .f32 q3_0r2, .float .f32 q3_0r3, .float .f32 q3_0r4, .float .f32 q3_0r5, .float .f32 q3_0r6, .float .f32 q3_0r7, .float .f32 q3_0r8, .float .f32 q3_0r9] 48 (0, 0)) := S19.frmb.heap sp17 (E14.heap B15)
    obtain ⟨m22, hm22, hr⟩ := letv_out hr
    refine W_cut (fun σ' w' => σ' 28 = .bool m22 ∧ Ext w19 w') rfl ?_ ?_
    · skip
      have hr := hm22
      refine da_op rfl (d_loads (vs := #[.float .f32 q12_0r0, .float .f32 q12_0r1, .float .f32 q12_0r2, .float .f32 q12_0r3, .float .f32 q12_0r4, .float .f32 q12_0r5, .float .f32 q12_0r6, .float .f32 q12_0r7, .float .f32 q12_0r8, .float .f32 q12_0r9]) rfl agg48 size48 B21 rfl ?_)
      refine da_op rfl (d_loads (vs := #[.float .f32 q3_0r0, .float .f32 q3_0r1, .float .f32 q3_0r2, .float .f32 q3_0r3, .float .f32 q3_0r4, .float .f32 q3_0r5, .float .f32 q3_0r6, .float .f32 q3_0r7, .float .f32 q3_0r8, .float .f32 q3_0r9]) rfl agg48 size48 B23 rfl ?_)
      obtain ⟨m24, hm24, hr⟩ := letv_out hr
      refine da_op rfl (d_cl (vs := [.agg #[.float .f32 q12_0r0, .float .f32 q12_0r1, .float .f32 q12_0r2, .float .f32 q12_0r3, .float .f32 q12_0r4, .float .f32 q12_0r5, .float .f32 q12_0r6, .float .f32 q12_0r7, .float .f32 q12_0r8, .float .f32 q12_0r9], .agg #[.float .f32 q3_0r0, .float .f32 q3_0r1, .float .f32 q3_0r2, .float .f32 q3_0r3, .float .f32 q3_0r4, .float .f32 q3_0r5, .float .f32 q3_0r6, .float .f32 q3_0r7, .float .f32 q3_0r8, .float .f32 q3_0r9]]) en28 (ac rfl (ac rfl rfl)) rfl ?_)
      refine (c28 (⟨(⟨m11.1.moments.x, m11.1.moments.y, m11.1.moments.z⟩ : SVector), (⟨m11.1.turn.w, m11.1.turn.x, m11.1.turn.y, m11.1.turn.z⟩ : SSpin), (⟨m11.1.speed.x, m11.1.speed.y, m11.1.speed.z⟩ : SVector)⟩ : STop) (⟨(⟨m2.1.moments.x, m2.1.moments.y, m2.1.moments.z⟩ : SVector), (⟨m2.1.turn.w, m2.1.turn.x, m2.1.turn.y, m2.1.turn.z⟩ : SSpin), (⟨m2.1.speed.x, m2.1.speed.y, m2.1.speed.z⟩ : SVector)⟩ : STop) q12_0r0 q12_0r1 q12_0r2 q12_0r3 q12_0r4 q12_0r5 q12_0r6 q12_0r7 q12_0r8 q12_0r9 q3_0r0 q3_0r1 q3_0r2 q3_0r3 q3_0r4 q3_0r5 q3_0r6 q3_0r7 q3_0r8 q3_0r9 m24 w19 hm24 q12_0h0 q12_0h1 q12_0h2 q12_0h3 q12_0h4 q12_0h5 q12_0h6 q12_0h7 q12_0h8 q12_0h9 q3_0h0 q3_0h1 q3_0h2 q3_0h3 q3_0h4 q3_0h5 q3_0h6 q3_0h7 q3_0h8 q3_0h9).mono ?_
      rintro _ w25 ⟨rfl, E25⟩
      refine ⟨_, rfl, ?_⟩
      have X26 : Ext w w25 := X20.trans E25
      refine da_op rfl (d_not rfl ?_)
      refine da_op rfl (d_mv (v := .bool (!m24)) rfl ?_)
      rcases Bool.eq_false_or_eq_true m24 with hc27 | hc27
      · skip
        replace hr := bif_t hr hc27
        refine da_on rfl (Eq.trans (show sl _ _ _ = .bool (!m24) from rfl) (congrArg Value.bool (congrArg not hc27))) (d_mv (v := .bool m11.2) rfl ?_)
        refine da_on rfl (Eq.trans (show sl _ _ _ = .bool (!m24) from rfl) (congrArg Value.bool (congrArg not hc27))) (d_mv (v := .bool m2.2) rfl ?_)
        refine da_on rfl (Eq.trans (show sl _ _ _ = .bool (!m24) from rfl) (congrArg Value.bool (congrArg not hc27))) (d_bne un4 rfl rfl ?_)
        refine da_op rfl (d_pick (b := false) (Eq.trans (show ev _ _ = .bool (!m24) from rfl) (congrArg Value.bool (congrArg not hc27))) ?_)
        refine da_nil ?_
        subst hr
        exact ⟨rfl, (Ext.trans (Ext.refl w19) E25)⟩
      · skip
        replace hr := bif_f hr hc27
        refine da_off rfl (Eq.trans (show sl _ _ _ = .bool (!m24) from rfl) (congrArg Value.bool (congrArg not hc27))) (by decide) ?_
        refine da_off rfl (Eq.trans (show sl _ _ _ = .bool (!m24) from rfl) (congrArg Value.bool (congrArg not hc27))) (by decide) ?_
        refine da_off rfl (Eq.trans (show sl _ _ _ = .bool (!m24) from rfl) (congrArg Value.bool (congrArg not hc27))) (by decide) ?_
        refine da_op rfl (d_pick (b := true) (Eq.trans (show ev _ _ = .bool (!m24) from rfl) (congrArg Value.bool (congrArg not hc27))) ?_)
        refine da_nil ?_
        subst hr
        exact ⟨rfl, (Ext.trans (Ext.refl w19) E25)⟩
    · skip
      rintro σ22 w22 o22 ⟨s28_22, E22⟩
      have X28 : Ext w w22 := X20.trans E22
      refine W_cond (b := m22) s28_22 (fun hc29 => ?_) (fun hc29 => ?_)
      · skip
        replace hr := bif_t hr hc29
        refine W_seq ?_
        refine W_region rfl ?_
        refine da_op rfl (d_as (v := .bool false) rfl ?_)
        refine da_nil ?_
        refine W_ret ?_
        obtain rfl := Option.some.inj hr
        refine ⟨_, res1 (rv_tmp rfl), ?_⟩
        exact ⟨rfl, X28⟩
      · skip
        replace hr := bif_f hr hc29
        refine W_skip ?_
        refine W_seq ?_
        refine W_region rfl ?_
        refine da_op rfl (d_as (v := .bool true) rfl ?_)
        refine da_nil ?_
        refine W_ret ?_
        obtain rfl := Option.some.inj hr
        refine ⟨_, res1 (rv_tmp rfl), ?_⟩
        exact ⟨rfl, X28⟩
end Go.Proofs
