import Derived.Test.YtdcienojgkioiaaGreatDoorBZCf
namespace Go.Proofs
open Go Go.Fl Go.RowKit Go.Rg
set_option maxRecDepth 100000
set_option linter.unusedVariables false
attribute [local irreducible] Go.Calls doAll Does DoesG W Wr
set_option maxHeartbeats 4000000 in
theorem c25 (p0 : List UInt8) (p1 : Int) (r : List (List UInt8)) (w : World) (hr : M.spec_l01Cut p0 p1 = some r)  :
    Calls Tryz.prog 25 #[.string (bs p0), .int .u8 p1] w fun e w' => ∃ q0a : Option Addr, ∃ q0n : Nat, ∃ q0c : Nat, e = .returned ((Value.slice q0a q0n q0c)) ∧ OS w' 9 encS (Value.slice q0a q0n q0c) r ∧ (∀ k, (Value.slice q0a q0n q0c).ownBlock = some k → w.heap.size ≤ k) ∧ Ext w w' := by
  refine calls_of_W Tryz.func25 rfl (Nat.le_of_ble_eq_true rfl) ?_
  refine W_seq ?_
  refine W_region rfl ?_
  refine da_op rfl (d_as (v := .slice none 0 0) rfl ?_)
  refine da_nil ?_
  refine W_seq ?_
  refine W_region rfl ?_
  refine da_op rfl (d_bslice0 un32 size9 fun w1 B1 E1 => ?_)
  have fr1 : ∀ k, (Value.slice (some ⟨w.heap.size, 0, none⟩) 0 0).ownBlock = some k → w.heap.size ≤ k := fun k hk => by cases hk; exact Nat.le_refl _
  have own1 : ∀ k, (Value.slice (some ⟨w.heap.size, 0, none⟩) 0 0).ownBlock = some k → w.heap.size ≤ k := fun k hk => Nat.le_trans (Ext.refl w).size (fr1 k hk)
  have X2 : Ext w w1 := (Ext.refl w).trans E1
  have O1 : OS w1 9 encS (Value.slice (some ⟨w.heap.size, 0, none⟩) 0 0) ([] : List (List UInt8)) := OS.box (xs := ([] : List (List UInt8))) B1 rfl (Nat.le_of_ble_eq_true rfl)
  refine da_op rfl (d_as (v := (Value.slice (some ⟨w.heap.size, 0, none⟩) 0 0)) rfl ?_)
  refine da_nil ?_
  refine W_seq ?_
  refine W_region rfl ?_
  refine da_op rfl (d_as (v := .int .i64 0) rfl ?_)
  refine da_nil ?_
  refine W_seq ?_
  refine W_seq ?_
  refine W_region rfl ?_
  refine da_op rfl (d_as (v := .int .i64 0) rfl ?_)
  refine da_nil ?_
  refine W_block ?_
  obtain ⟨m3, hm3, hr⟩ := bind_out hr
  refine W_loopM hm3 (fun (s3 : List (List UInt8) × Int × Int) σ w' => ∃ i3_0a : Option Addr, ∃ i3_0n : Nat, ∃ i3_0c : Nat, σ 5 = (Value.slice i3_0a i3_0n i3_0c) ∧ σ 6 = .int .i64 s3.2.1 ∧ σ 7 = .int .i64 s3.2.2 ∧ σ 0 = .string (bs p0) ∧ σ 1 = .int .u8 p1 ∧ OS w' 9 encS (Value.slice i3_0a i3_0n i3_0c) s3.1 ∧ (∀ k, (Value.slice i3_0a i3_0n i3_0c).ownBlock = some k → w.heap.size ≤ k) ∧ Ext w w') (fun (e3 : (List (List UInt8))) ex σ w' => ex = .exit 0 ∧ ∃ q3_0_0a : Option Addr, ∃ q3_0_0n : Nat, ∃ q3_0_0c : Nat, σ 5 = (Value.slice q3_0_0a q3_0_0n q3_0_0c) ∧ OS w' 9 encS (Value.slice q3_0_0a q3_0_0n q3_0_0c) e3 ∧ (∀ k, (Value.slice q3_0_0a q3_0_0n q3_0_0c).ownBlock = some k → w.heap.size ≤ k) ∧ Ext w w') ⟨(some ⟨w.heap.size, 0, none⟩), 0, 0, rfl, rfl, rfl, rfl, rfl, O1, own1, X2⟩ ?_ ?_
  · skip
    rintro s3 σl3 wl3 r3l ⟨i3_0a, i3_0n, i3_0c, i3_S5, i3_S6, i3_S7, i3_S0, i3_S1, i3_0R, i3_0O, i3_X⟩ hr
    refine W_seq ?_
    refine W_seq ?_
    refine W_region rfl ?_
    refine da_op rfl (d_mv (v := .int .i64 s3.2.2) i3_S7 ?_)
    refine da_op rfl (d_mv (v := .string (bs p0)) i3_S0 ?_)
    refine da_op rfl (d_slen un9 rfl ?_)
    refine da_op rfl (d_icmp cLeq rfl rfl ?_)
    refine da_nil ?_
    refine W_cond (b := (icmp .leq s3.2.2 ((p0).length : Int))) rfl (fun hc4 => ?_) (fun hc4 => ?_)
    · skip
      replace hr := bif_t hr hc4
      refine W_skip ?_
      refine W_seq ?_
      refine W_block ?_
      refine W_seq ?_
      obtain ⟨m5, hm5, hr⟩ := bind_out hr
      refine W_cut (fun σ' w' => σ' 25 = .bool m5 ∧ Ext wl3 w') rfl ?_ ?_
      · skip
        have hr := hm5
        refine da_op rfl (d_mv (v := .int .i64 s3.2.2) i3_S7 ?_)
        refine da_op rfl (d_mv (v := .string (bs p0)) i3_S0 ?_)
        refine da_op rfl (d_slen un9 rfl ?_)
        refine da_op rfl (d_icmp cEql rfl rfl ?_)
        refine da_op rfl (d_mv (v := .bool (icmp .eql s3.2.2 ((p0).length : Int))) rfl ?_)
        rcases Bool.eq_false_or_eq_true (icmp .eql s3.2.2 ((p0).length : Int)) with hc6 | hc6
        · skip
          replace hr := bif_t hr hc6
          refine da_off rfl (Eq.trans (show sl _ _ _ = .bool (icmp .eql s3.2.2 ((p0).length : Int)) from rfl) (congrArg Value.bool hc6)) (by decide) ?_
          refine da_off rfl (Eq.trans (show sl _ _ _ = .bool (icmp .eql s3.2.2 ((p0).length : Int)) from rfl) (congrArg Value.bool hc6)) (by decide) ?_
          refine da_off rfl (Eq.trans (show sl _ _ _ = .bool (icmp .eql s3.2.2 ((p0).length : Int)) from rfl) (congrArg Value.bool hc6)) (by decide) ?_
          refine da_off rfl (Eq.trans (show sl _ _ _ = .bool (icmp .eql s3.2.2 ((p0).length : Int)) from rfl) (congrArg Value.bool hc6)) (by decide) ?_
          refine da_off rfl (Eq.trans (show sl _ _ _ = .bool (icmp .eql s3.2.2 ((p0).length : Int)) from rfl) (congrArg Value.bool hc6)) (by decide) ?_
          refine da_op rfl (d_pick (b := true) (Eq.trans (show ev _ _ = .bool (icmp .eql s3.2.2 ((p0).length : Int)) from rfl) (congrArg Value.bool hc6)) ?_)
          refine da_nil ?_
          obtain rfl := Option.some.inj hr
          exact ⟨rfl, (Ext.refl wl3)⟩
        · skip
          replace hr := bif_f hr hc6
          refine da_on rfl (Eq.trans (show sl _ _ _ = .bool (icmp .eql s3.2.2 ((p0).length : Int)) from rfl) (congrArg Value.bool hc6)) (d_mv (v := .string (bs p0)) i3_S0 ?_)
          refine da_on rfl (Eq.trans (show sl _ _ _ = .bool (icmp .eql s3.2.2 ((p0).length : Int)) from rfl) (congrArg Value.bool hc6)) (d_mv (v := .int .i64 s3.2.2) i3_S7 ?_)
          obtain ⟨m7, hm7, hr⟩ := bind_out hr
          refine da_on rfl (Eq.trans (show sl _ _ _ = .bool (icmp .eql s3.2.2 ((p0).length : Int)) from rfl) (congrArg Value.bool hc6)) (d_sidx un9 rfl rfl hm7 ?_)
          refine da_on rfl (Eq.trans (show sl _ _ _ = .bool (icmp .eql s3.2.2 ((p0).length : Int)) from rfl) (congrArg Value.bool hc6)) (d_mv (v := .int .u8 p1) i3_S1 ?_)
          refine da_on rfl (Eq.trans (show sl _ _ _ = .bool (icmp .eql s3.2.2 ((p0).length : Int)) from rfl) (congrArg Value.bool hc6)) (d_icmp cEql rfl rfl ?_)
          refine da_op rfl (d_pick (b := false) (Eq.trans (show ev _ _ = .bool (icmp .eql s3.2.2 ((p0).length : Int)) from rfl) (congrArg Value.bool hc6)) ?_)
          refine da_nil ?_
          obtain rfl := Option.some.inj hr
          exact ⟨rfl, (Ext.refl wl3)⟩
      · skip
        rintro σ5 w5 o5 ⟨s25_5, E5⟩
        have s5_5 : σ5 5 = (Value.slice i3_0a i3_0n i3_0c) := (o5 5 rfl).trans i3_S5
        have s6_5 : σ5 6 = .int .i64 s3.2.1 := (o5 6 rfl).trans i3_S6
        have s7_5 : σ5 7 = .int .i64 s3.2.2 := (o5 7 rfl).trans i3_S7
        have s0_5 : σ5 0 = .string (bs p0) := (o5 0 rfl).trans i3_S0
        have s1_5 : σ5 1 = .int .u8 p1 := (o5 1 rfl).trans i3_S1
        have X8 : Ext w w5 := i3_X.trans E5
        refine W_cond (b := m5) s25_5 (fun hc9 => ?_) (fun hc9 => ?_)
        · skip
          replace hr := bif_t hr hc9
          refine W_seq ?_
          refine W_region rfl ?_
          refine da_op rfl (d_mv (v := (Value.slice i3_0a i3_0n i3_0c)) s5_5 ?_)
          refine da_op rfl (d_mv (v := .string (bs p0)) s0_5 ?_)
          refine da_op rfl (d_mv (v := .int .i64 s3.2.1) s6_5 ?_)
          refine da_op rfl (d_mv (v := .int .i64 s3.2.2) s7_5 ?_)
          obtain ⟨m10, hm10, hr⟩ := bind_out hr
          refine da_op rfl (d_ssub (a := s3.2.1) (b := s3.2.2) un9 rfl (.inr ⟨_, _, rfl, rfl⟩) (.inr ⟨_, _, rfl, rfl⟩) hm10 ?_)
          have B12 : OS w5 9 encS (Value.slice i3_0a i3_0n i3_0c) s3.1 := i3_0R.ext E5
          refine da_op rfl (d_bslice (vs := [(0, .string (bs m10))]) (cs := #[.string (bs m10)]) un32 (pc rfl rfl) (by kernel_rfl) fun w11 B11 E11 => ?_)
          have fr11 : ∀ k, (Value.slice (some ⟨w5.heap.size, 0, none⟩) 1 1).ownBlock = some k → w5.heap.size ≤ k := fun k hk => by cases hk; exact Nat.le_refl _
          have own11 : ∀ k, (Value.slice (some ⟨w5.heap.size, 0, none⟩) 1 1).ownBlock = some k → w.heap.size ≤ k := fun k hk => Nat.le_trans X8.size (fr11 k hk)
          have sp13 : ∀ k, (Value.slice i3_0a i3_0n i3_0c).ownBlock = some k → ¬ (Value.slice (some ⟨w5.heap.size, 0, none⟩) 1 1).ownBlock = some k := apart_fresh B12 fr11
          have X14 : Ext w w11 := X8.trans E11
          have O11 : OS w11 9 encS (Value.slice (some ⟨w5.heap.size, 0, none⟩) 1 1) [m10] := OS.box (xs := [m10]) B11 (lc_v rfl rfl) (Nat.le_of_ble_eq_true rfl)
          obtain ⟨m15, hm15, hr⟩ := bind_out hr
          have B16 : OS w11 9 encS (Value.slice i3_0a i3_0n i3_0c) s3.1 := B12.ext E11
          refine da_op rfl (d_append (e := encS) (v := (Value.slice i3_0a i3_0n i3_0c)) (y := (Value.slice (some ⟨w5.heap.size, 0, none⟩) 1 1)) un32 info9 rfl (by kernel_rfl) (by kernel_rfl) (by decide) (by decide) rfl rfl B16 O11.rs hm15 fun v17 w17 O17 Fm17 at_17 nl17 => ?_)
          obtain ⟨v17pa, v17pn, v17pc, rfl⟩ := O17.vals
          have own17 : ∀ k, (Value.slice v17pa v17pn v17pc).ownBlock = some k → w.heap.size ≤ k := app_own (w := w11) at_17 i3_0O X14.size
          have sp18 : ∀ k, (Value.slice (some ⟨w5.heap.size, 0, none⟩) 1 1).ownBlock = some k → ¬ (Value.slice v17pa v17pn v17pc).ownBlock = some k := app_nr at_17 (apart_symm sp13) O11
          have X19 : Ext w w17 := Ext.step X14 Fm17 (fun k _ hk => i3_0O k hk)
          refine da_op rfl (d_as (v := (Value.slice v17pa v17pn v17pc)) rfl ?_)
          refine da_nil ?_
          refine W_region rfl ?_
          refine da_op rfl (d_mv (v := .int .i64 s3.2.2) s7_5 ?_)
          refine da_op rfl (d_iarith rfl rfl (.inl ⟨rfl, rfl⟩) ?_)
          refine da_op rfl (d_as (v := .int .i64 (IntKind.i64.wrap (s3.2.2 + 1))) rfl ?_)
          refine da_nil ?_
          refine W_region rfl ?_
          refine da_op rfl (d_mv (v := .int .i64 s3.2.2) s7_5 ?_)
          refine da_op rfl (d_iarith rfl rfl (.inl ⟨rfl, rfl⟩) ?_)
          refine da_op rfl (d_as (v := .int .i64 (IntKind.i64.wrap (s3.2.2 + 1))) rfl ?_)
          refine da_nil ?_
          obtain rfl := Option.some.inj hr
          exact ⟨_, rfl, ⟨v17pa, v17pn, v17pc, rfl, rfl, rfl, s0_5, s1_5, O17, own17, X19⟩⟩
        · skip
          replace hr := bif_f hr hc9
          refine W_skip ?_
          refine W_region rfl ?_
          refine da_op rfl (d_mv (v := .int .i64 s3.2.2) s7_5 ?_)
          refine da_op rfl (d_iarith rfl rfl (.inl ⟨rfl, rfl⟩) ?_)
          refine da_op rfl (d_as (v := .int .i64 (IntKind.i64.wrap (s3.2.2 + 1))) rfl ?_)
          refine da_nil ?_
          have B20 : OS w5 9 encS (Value.slice i3_0a i3_0n i3_0c) s3.1 := i3_0R.ext E5
          obtain rfl := Option.some.inj hr
          exact ⟨_, rfl, ⟨i3_0a, i3_0n, i3_0c, s5_5, s6_5, rfl, s0_5, s1_5, B20, i3_0O, X8⟩⟩
    · skip
      replace hr := bif_f hr hc4
      refine W_exit ?_
      obtain rfl := Option.some.inj hr
      exact ⟨_, rfl, rfl, i3_0a, i3_0n, i3_0c, i3_S5, i3_0R, i3_0O, i3_X⟩
  · skip
    intro ex σx3 wx3 hq
    obtain ⟨rfl, q3_0_0a, q3_0_0n, q3_0_0c, q3_0_S5, q3_0_0R, q3_0_0O, q3_0_X⟩ := hq
    refine W_seq ?_
    refine W_region rfl ?_
    refine da_op rfl (d_mv (v := (Value.slice q3_0_0a q3_0_0n q3_0_0c)) q3_0_S5 ?_)
    refine da_op rfl (d_as (v := (Value.slice q3_0_0a q3_0_0n q3_0_0c)) rfl ?_)
    refine da_nil ?_
    refine W_ret ?_
    obtain rfl := Option.some.inj hr
    refine ⟨_, res1 (rv_tmp rfl), ?_⟩
    exact ⟨q3_0_0a, q3_0_0n, q3_0_0c, rfl, q3_0_0R, q3_0_0O, q3_0_X⟩
set_option maxHeartbeats 4000000 in
theorem c42 (p0 : Int) (r : Nat) (w : World) (hr : M.spec_l01From p0 = r)  :
    Calls Tryz.prog 42 #[.int .i64 p0] w fun e w' => ∃ q0r : Nat, e = .returned (.float .f32 q0r) ∧ cn .f32 q0r = r ∧ Ext w w' := by
  refine calls_of_W Tryz.func42 rfl (Nat.le_of_ble_eq_true rfl) ?_
  refine W_seq ?_
  refine W_region rfl ?_
  refine da_op rfl (d_as (v := .float .f32 0) rfl ?_)
  refine da_nil ?_
  refine W_seq ?_
  refine W_region rfl ?_
  refine da_op rfl (d_mv (v := .int .i64 p0) rfl ?_)
  refine da_op rfl (d_iconv un2 un91 rfl ?_)
  refine da_op rfl (d_f32from ext61_0 ext61_1 ext61_2 (Option.isNone_iff_eq_none.1 ext61_3) ext61_4 rfl rfl ?_)
  refine da_op rfl (d_as (v := .float .f32 ((IntKind.u32.wrap p0)).toNat) rfl ?_)
  refine da_nil ?_
  refine W_ret ?_
  subst hr
  refine ⟨_, res1 (rv_tmp rfl), ?_⟩
  exact ⟨((IntKind.u32.wrap p0)).toNat, rfl, rfl, (Ext.refl w)⟩
set_option maxHeartbeats 4000000 in
theorem c43 (p0 : Nat) (p0r : Nat) (r : Int) (w : World) (hr : M.spec_l01Bits p0 = r) (p0h : cn .f32 p0r = p0) :
    Calls Tryz.prog 43 #[.float .f32 p0r] w fun e w' => e = .returned (.int .i64 r) ∧ Ext w w' := by
  refine calls_of_W Tryz.func43 rfl (Nat.le_of_ble_eq_true rfl) ?_
  refine W_seq ?_
  refine W_region rfl ?_
  refine da_op rfl (d_as (v := .int .i64 0) rfl ?_)
  refine da_nil ?_
  refine W_seq ?_
  refine W_seq ?_
  refine W_region rfl ?_
  refine da_op rfl (d_mv (v := .float .f32 p0r) rfl ?_)
  refine da_op rfl (d_mv (v := .float .f32 p0r) rfl ?_)
  refine da_op rfl (d_fcmp (k := .f32) cNeq rfl rfl p0h p0h ?_)
  refine da_nil ?_
  refine W_cond (b := (fcmp .neq .f32 p0 p0)) rfl (fun hc1 => ?_) (fun hc1 => ?_)
  · skip
    replace hr := bif_t hr hc1
    refine W_seq ?_
    refine W_region rfl ?_
    refine da_op rfl (d_as (v := .int .i64 2143289344) rfl ?_)
    refine da_nil ?_
    refine W_ret ?_
    subst hr
    refine ⟨_, res1 (rv_tmp rfl), ?_⟩
    exact ⟨rfl, (Ext.refl w)⟩
  · skip
    replace hr := bif_f hr hc1
    refine W_skip ?_
    refine W_seq ?_
    refine W_region rfl ?_
    refine da_op rfl (d_mv (v := .float .f32 p0r) rfl ?_)
    refine da_op rfl (d_f32bits ext62_0 ext62_1 ext62_2 (Option.isNone_iff_eq_none.1 ext62_3) ext62_4 rfl rfl p0h (nn_ne hc1) ?_)
    refine da_op rfl (d_iconv un91 un2 rfl ?_)
    refine da_op rfl (d_as (v := .int .i64 (IntKind.i64.wrap (p0 : Int))) rfl ?_)
    refine da_nil ?_
    refine W_ret ?_
    subst hr
    refine ⟨_, res1 (rv_tmp rfl), ?_⟩
    exact ⟨rfl, (Ext.refl w)⟩
set_option maxHeartbeats 4000000 in
theorem c27 (p0 : List UInt8) (r : List Nat × Bool) (w : World) (hr : M.spec_l01NRead p0 = some r)  :
    Calls Tryz.prog 27 #[.string (bs p0)] w fun e w' => ∃ q0a : Option Addr, ∃ q0n : Nat, ∃ q0c : Nat, e = .returned (.tuple #[(Value.slice q0a q0n q0c), .bool r.2]) ∧ OS w' 40 encF_f32 (Value.slice q0a q0n q0c) r.1 ∧ (∀ k, (Value.slice q0a q0n q0c).ownBlock = some k → w.heap.size ≤ k) ∧ Ext w w' := by
  refine calls_of_W Tryz.func27 rfl (Nat.le_of_ble_eq_true rfl) ?_
  refine W_seq ?_
  refine W_region rfl ?_
  refine da_op rfl (d_as (v := .slice none 0 0) rfl ?_)
  refine da_op rfl (d_as (v := .bool false) rfl ?_)
  refine da_nil ?_
  refine W_seq ?_
  refine W_region rfl ?_
  refine da_op rfl (d_bslice0 un23 size40 fun w1 B1 E1 => ?_)
  have fr1 : ∀ k, (Value.slice (some ⟨w.heap.size, 0, none⟩) 0 0).ownBlock = some k → w.heap.size ≤ k := fun k hk => by cases hk; exact Nat.le_refl _
  have own1 : ∀ k, (Value.slice (some ⟨w.heap.size, 0, none⟩) 0 0).ownBlock = some k → w.heap.size ≤ k := fun k hk => Nat.le_trans (Ext.refl w).size (fr1 k hk)
  have X2 : Ext w w1 := (Ext.refl w).trans E1
  have O1 : OS w1 40 encF_f32 (Value.slice (some ⟨w.heap.size, 0, none⟩) 0 0) ([] : List Nat) := OS.box (xs := ([] : List Nat)) B1 rfl (Nat.le_of_ble_eq_true rfl)
  refine da_op rfl (d_as (v := (Value.slice (some ⟨w.heap.size, 0, none⟩) 0 0)) rfl ?_)
  refine da_nil ?_
  refine W_seq ?_
  refine W_seq ?_
  refine W_region rfl ?_
  refine da_op rfl (d_mv (v := .string (bs p0)) rfl ?_)
  refine da_op rfl (d_seq rfl rfl ?_)
  refine da_nil ?_
  refine W_cond (b := (p0 == ([110, 111, 110, 101] : List UInt8))) rfl (fun hc3 => ?_) (fun hc3 => ?_)
  · skip
    replace hr := bif_t hr hc3
    refine W_seq ?_
    refine W_region rfl ?_
    refine da_op rfl (d_mv (v := (Value.slice (some ⟨w.heap.size, 0, none⟩) 0 0)) rfl ?_)
    refine da_op rfl (d_as (v := (Value.slice (some ⟨w.heap.size, 0, none⟩) 0 0)) rfl ?_)
    refine da_op rfl (d_as (v := .bool true) rfl ?_)
    refine da_nil ?_
    refine W_ret ?_
    obtain rfl := Option.some.inj hr
    refine ⟨_, res2 (rv_tmp rfl) (rv_tmp rfl), ?_⟩
    exact ⟨(some ⟨w.heap.size, 0, none⟩), 0, 0, rfl, O1, own1, X2⟩
  · skip
    replace hr := bif_f hr hc3
    refine W_skip ?_
    refine W_seq ?_
    refine W_region rfl ?_
    refine da_op rfl (d_mv (v := .string (bs p0)) rfl ?_)
    obtain ⟨m4, hm4, hr⟩ := bind_out hr
    refine da_op rfl (d_cl (vs := [.string (bs p0), .int .u8 44]) en25 (ac rfl (ac rfl rfl)) rfl ?_)
    refine (c25 p0 44 m4 w1 hm4 ).mono ?_
    rintro _ w5 ⟨q5_0a, q5_0n, q5_0c, rfl, q5_0R, q5_0F, E5⟩
    refine ⟨_, rfl, ?_⟩
    have own6 : ∀ k, (Value.slice q5_0a q5_0n q5_0c).ownBlock = some k → w.heap.size ≤ k := fun k hk => Nat.le_trans X2.size (q5_0F k hk)
    have sp7 : ∀ k, (Value.slice (some ⟨w.heap.size, 0, none⟩) 0 0).ownBlock = some k → ¬ (Value.slice q5_0a q5_0n q5_0c).ownBlock = some k := apart_fresh O1 q5_0F
    have X8 : Ext w w5 := X2.trans E5
    refine da_op rfl (d_as (v := (Value.slice q5_0a q5_0n q5_0c)) rfl ?_)
    refine da_nil ?_
    refine W_seq ?_
    refine W_seq ?_
    refine W_region rfl ?_
    refine da_op rfl (d_mv (v := (Value.slice q5_0a q5_0n q5_0c)) rfl ?_)
    refine da_op rfl (d_len (e := encS) un32 rfl q5_0R.rs ?_)
    refine da_op rfl (d_icmp cGtr rfl rfl ?_)
    refine da_nil ?_
    refine W_cond (b := (icmp .gtr ((m4).length : Int) 256)) rfl (fun hc9 => ?_) (fun hc9 => ?_)
    · skip
      replace hr := bif_t hr hc9
      refine W_seq ?_
      refine W_region rfl ?_
      refine da_op rfl (d_as (v := .slice none 0 0) rfl ?_)
      refine da_op rfl (d_as (v := .bool false) rfl ?_)
      refine da_nil ?_
      refine W_ret ?_
      obtain rfl := Option.some.inj hr
      refine ⟨_, res2 (rv_tmp rfl) (rv_tmp rfl), ?_⟩
      exact ⟨none, 0, 0, rfl, (OS.nil _ 40 encF_f32), (fun k hk => by cases hk), X8⟩
    · skip
      replace hr := bif_f hr hc9
      refine W_skip ?_
      refine W_seq ?_
      refine W_seq ?_
      refine W_region rfl ?_
      refine da_op rfl (d_as (v := .int .i64 0) rfl ?_)
      refine da_nil ?_
      refine W_block ?_
      have B11 : OS w5 40 encF_f32 (Value.slice (some ⟨w.heap.size, 0, none⟩) 0 0) ([] : List Nat) := O1.ext E5
      obtain ⟨m10, hm10, hr⟩ := bind_out hr
      refine W_loopM hm10 (fun (s10 : List Nat × Int) σ w' => ∃ i10_0a : Option Addr, ∃ i10_0n : Nat, ∃ i10_0c : Nat, σ 4 = (Value.slice i10_0a i10_0n i10_0c) ∧ σ 6 = .int .i64 s10.2 ∧ σ 5 = (Value.slice q5_0a q5_0n q5_0c) ∧ OS w' 40 encF_f32 (Value.slice i10_0a i10_0n i10_0c) s10.1 ∧ (∀ k, (Value.slice i10_0a i10_0n i10_0c).ownBlock = some k → w.heap.size ≤ k) ∧ OS w' 9 encS (Value.slice q5_0a q5_0n q5_0c) m4 ∧ (∀ k, (Value.slice q5_0a q5_0n q5_0c).ownBlock = some k → ¬ (Value.slice i10_0a i10_0n i10_0c).ownBlock = some k) ∧ Ext w w') (fun (e10 : ((List Nat) ⊕ (List Nat × Bool))) ex σ w' => sel e10 (fun e10 => ex = .exit 0 ∧ ∃ q10_0_0a : Option Addr, ∃ q10_0_0n : Nat, ∃ q10_0_0c : Nat, σ 4 = (Value.slice q10_0_0a q10_0_0n q10_0_0c) ∧ OS w' 40 encF_f32 (Value.slice q10_0_0a q10_0_0n q10_0_0c) e10 ∧ (∀ k, (Value.slice q10_0_0a q10_0_0n q10_0_0c).ownBlock = some k → w.heap.size ≤ k) ∧ Ext w w') (fun e10 => ex = .ret ∧ ∃ q10_1_0a : Option Addr, ∃ q10_1_0n : Nat, ∃ q10_1_0c : Nat, σ 2 = (Value.slice q10_1_0a q10_1_0n q10_1_0c) ∧ σ 3 = .bool e10.2 ∧ OS w' 40 encF_f32 (Value.slice q10_1_0a q10_1_0n q10_1_0c) e10.1 ∧ (∀ k, (Value.slice q10_1_0a q10_1_0n q10_1_0c).ownBlock = some k → w.heap.size ≤ k) ∧ Ext w w')) ⟨(some ⟨w.heap.size, 0, none⟩), 0, 0, rfl, rfl, rfl, B11, own1, q5_0R, (apart_symm sp7), X8⟩ ?_ ?_
      · skip
        rintro s10 σl10 wl10 r10l ⟨i10_0a, i10_0n, i10_0c, i10_S4, i10_S6, i10_S5, i10_0R, i10_0O, i10_K0, i10_A0, i10_X⟩ hr
        refine W_seq ?_
        refine W_seq ?_
        refine W_region rfl ?_
        refine da_op rfl (d_mv (v := .int .i64 s10.2) i10_S6 ?_)
        refine da_op rfl (d_mv (v := (Value.slice q5_0a q5_0n q5_0c)) i10_S5 ?_)
        refine da_op rfl (d_len (e := encS) un32 rfl i10_K0.rs ?_)
        refine da_op rfl (d_icmp cLss rfl rfl ?_)
        refine da_nil ?_
        refine W_cond (b := (icmp .lss s10.2 ((m4).length : Int))) rfl (fun hc12 => ?_) (fun hc12 => ?_)
        · skip
          replace hr := bif_t hr hc12
          refine W_skip ?_
          refine W_seq ?_
          refine W_block ?_
          refine W_seq ?_
          refine W_seq ?_
          refine W_region rfl ?_
          refine da_op rfl (d_mv (v := (Value.slice q5_0a q5_0n q5_0c)) i10_S5 ?_)
          refine da_op rfl (d_mv (v := .int .i64 s10.2) i10_S6 ?_)
          obtain ⟨m13, hm13, hr⟩ := bind_out hr
          refine da_op rfl (d_indexO (e := encS) (v := (Value.slice q5_0a q5_0n q5_0c)) un32 size9 rfl rfl i10_K0 hm13 fun g14 fr14 cu14 vs14 hv14 hg14 hp14 hq14 => ?_)
          obtain rfl := dec_encS hq14
          have sp15 : ¬ (Value.slice i10_0a i10_0n i10_0c).ownBlock = some g14 := fun e => (apart_symm i10_A0) _ e (by rw [hv14]; rfl)
          refine da_op rfl (d_load (v := .string (bs m13)) rfl agg9 hg14 (sub_get (vs := #[.string (bs m13)]) hp14 (i := 0) rfl) ?_)
          refine da_op rfl (d_slen un9 rfl ?_)
          refine da_op rfl (d_icmp cNeq rfl rfl ?_)
          refine da_nil ?_
          refine W_cond (b := (icmp .neq ((m13).length : Int) 8)) rfl (fun hc16 => ?_) (fun hc16 => ?_)
          · skip
            replace hr := bif_t hr hc16
            refine W_seq ?_
            refine W_region rfl ?_
            refine da_op rfl (d_as (v := .slice none 0 0) rfl ?_)
            refine da_op rfl (d_as (v := .bool false) rfl ?_)
            refine da_nil ?_
            refine W_ret ?_
            obtain rfl := Option.some.inj hr
            exact ⟨_, rfl, rfl, none, 0, 0, rfl, rfl, (OS.nil _ 40 encF_f32), (fun k hk => by cases hk), i10_X⟩
          · skip
            replace hr := bif_f hr hc16
            refine W_skip ?_
            refine W_seq ?_
            refine W_region rfl ?_
            refine da_op rfl (d_as (v := .int .i64 0) rfl ?_)
            refine da_nil ?_
            refine W_seq ?_
            refine W_seq ?_
            refine W_region rfl ?_
            refine da_op rfl (d_as (v := .int .i64 0) rfl ?_)
            refine da_nil ?_
            refine W_block ?_
            obtain ⟨m17, hm17, hr⟩ := bind_out hr
            refine W_loopM hm17 (fun (s17 : Int × Int) σ w' => σ 7 = .int .i64 s17.1 ∧ σ 8 = .int .i64 s17.2 ∧ σ 4 = (Value.slice i10_0a i10_0n i10_0c) ∧ σ 5 = (Value.slice q5_0a q5_0n q5_0c) ∧ σ 6 = .int .i64 s10.2 ∧ OS w' 9 encS (Value.slice q5_0a q5_0n q5_0c) m4 ∧ OS w' 40 encF_f32 (Value.slice i10_0a i10_0n i10_0c) s10.1 ∧ Ext w w') (fun (e17 : (Int ⊕ (List Nat × Bool))) ex σ w' => sel e17 (fun e17 => ex = .exit 2 ∧ σ 7 = .int .i64 e17 ∧ σ 4 = (Value.slice i10_0a i10_0n i10_0c) ∧ σ 5 = (Value.slice q5_0a q5_0n q5_0c) ∧ σ 6 = .int .i64 s10.2 ∧ OS w' 9 encS (Value.slice q5_0a q5_0n q5_0c) m4 ∧ OS w' 40 encF_f32 (Value.slice i10_0a i10_0n i10_0c) s10.1 ∧ Ext w w') (fun e17 => ex = .ret ∧ ∃ q17_1_0a : Option Addr, ∃ q17_1_0n : Nat, ∃ q17_1_0c : Nat, σ 2 = (Value.slice q17_1_0a q17_1_0n q17_1_0c) ∧ σ 3 = .bool e17.2 ∧ OS w' 40 encF_f32 (Value.slice q17_1_0a q17_1_0n q17_1_0c) e17.1 ∧ (∀ k, (Value.slice q17_1_0a q17_1_0n q17_1_0c).ownBlock = some k → w.heap.size ≤ k) ∧ Ext w w')) ⟨rfl, rfl, i10_S4, i10_S5, i10_S6, i10_K0, i10_0R, i10_X⟩ ?_ ?_
            · skip
              rintro s17 σl17 wl17 r17l ⟨i17_S7, i17_S8, i17_S4, i17_S5, i17_S6, i17_K0, i17_K1, i17_X⟩ hr
              refine W_seq ?_
              refine W_seq ?_
              refine W_region rfl ?_
              refine da_op rfl (d_mv (v := .int .i64 s17.2) i17_S8 ?_)
              refine da_op rfl (d_icmp cLss rfl rfl ?_)
              refine da_nil ?_
              refine W_cond (b := (icmp .lss s17.2 8)) rfl (fun hc18 => ?_) (fun hc18 => ?_)
              · skip
                replace hr := bif_t hr hc18
                refine W_skip ?_
                refine W_seq ?_
                refine W_block ?_
                refine W_seq ?_
                refine W_region rfl ?_
                refine da_op rfl (d_mv (v := (Value.slice q5_0a q5_0n q5_0c)) i17_S5 ?_)
                refine da_op rfl (d_mv (v := .int .i64 s10.2) i17_S6 ?_)
                obtain ⟨m19, hm19, hr⟩ := bind_out hr
                refine da_op rfl (d_indexO (e := encS) (v := (Value.slice q5_0a q5_0n q5_0c)) un32 size9 rfl rfl i17_K0 hm19 fun g20 fr20 cu20 vs20 hv20 hg20 hp20 hq20 => ?_)
                obtain rfl := dec_encS hq20
                have sp21 : ¬ (Value.slice i10_0a i10_0n i10_0c).ownBlock = some g20 := fun e => (apart_symm i10_A0) _ e (by rw [hv20]; rfl)
                refine da_op rfl (d_load (v := .string (bs m19)) rfl agg9 hg20 (sub_get (vs := #[.string (bs m19)]) hp20 (i := 0) rfl) ?_)
                refine da_op rfl (d_mv (v := .int .i64 s17.2) i17_S8 ?_)
                obtain ⟨m22, hm22, hr⟩ := bind_out hr
                refine da_op rfl (d_sidx un9 rfl rfl hm22 ?_)
                refine da_op rfl (d_as (v := .int .u8 m22) rfl ?_)
                refine da_nil ?_
                refine W_seq ?_
                refine W_region rfl ?_
                refine da_op rfl (d_as (v := .int .i64 (-1)) rfl ?_)
                refine da_nil ?_
                refine W_seq ?_
                refine W_seq ?_
                obtain ⟨m23, hm23, hr⟩ := letv_out hr
                refine W_cut (fun σ' w' => σ' 48 = .bool m23 ∧ Ext wl17 w') rfl ?_ ?_
                · skip
                  have hr := hm23
                  refine da_op rfl (d_mv (v := .int .u8 m22) rfl ?_)
                  refine da_op rfl (d_icmp cGeq rfl rfl ?_)
                  refine da_op rfl (d_mv (v := .bool (icmp .geq m22 48)) rfl ?_)
                  rcases Bool.eq_false_or_eq_true (icmp .geq m22 48) with hc24 | hc24
                  · skip
                    replace hr := bif_t hr hc24
                    refine da_on rfl (Eq.trans (show sl _ _ _ = .bool (icmp .geq m22 48) from rfl) (congrArg Value.bool hc24)) (d_mv (v := .int .u8 m22) rfl ?_)
                    refine da_on rfl (Eq.trans (show sl _ _ _ = .bool (icmp .geq m22 48) from rfl) (congrArg Value.bool hc24)) (d_icmp cLeq rfl rfl ?_)
                    refine da_op rfl (d_pick (b := true) (Eq.trans (show ev _ _ = .bool (icmp .geq m22 48) from rfl) (congrArg Value.bool hc24)) ?_)
                    refine da_nil ?_
                    subst hr
                    exact ⟨rfl, (Ext.refl wl17)⟩
                  · skip
                    replace hr := bif_f hr hc24
                    refine da_off rfl (Eq.trans (show sl _ _ _ = .bool (icmp .geq m22 48) from rfl) (congrArg Value.bool hc24)) (by decide) ?_
                    refine da_off rfl (Eq.trans (show sl _ _ _ = .bool (icmp .geq m22 48) from rfl) (congrArg Value.bool hc24)) (by decide) ?_
                    refine da_op rfl (d_pick (b := false) (Eq.trans (show ev _ _ = .bool (icmp .geq m22 48) from rfl) (congrArg Value.bool hc24)) ?_)
                    refine da_nil ?_
                    subst hr
                    exact ⟨rfl, (Ext.refl wl17)⟩
                · skip
                  rintro σ23 w23 o23 ⟨s48_23, E23⟩
                  have s7_23 : σ23 7 = .int .i64 s17.1 := (o23 7 rfl).trans i17_S7
                  have s8_23 : σ23 8 = .int .i64 s17.2 := (o23 8 rfl).trans i17_S8
                  have s4_23 : σ23 4 = (Value.slice i10_0a i10_0n i10_0c) := (o23 4 rfl).trans i17_S4
                  have s5_23 : σ23 5 = (Value.slice q5_0a q5_0n q5_0c) := (o23 5 rfl).trans i17_S5
                  have s6_23 : σ23 6 = .int .i64 s10.2 := (o23 6 rfl).trans i17_S6
                  have s9_23 : σ23 9 = .int .u8 m22 := (o23 9 rfl).trans rfl
                  have s10_23 : σ23 10 = .int .i64 (-1) := (o23 10 rfl).trans rfl
                  have X25 : Ext w w23 := i17_X.trans E23
                  refine W_cond (b := m23) s48_23 (fun hc26 => ?_) (fun hc26 => ?_)
                  · skip
                    replace hr := bif_t hr hc26
                    refine W_region rfl ?_
                    refine da_op rfl (d_mv (v := .int .u8 m22) s9_23 ?_)
                    refine da_op rfl (d_iarith rfl rfl (.inr (.inl ⟨rfl, rfl⟩)) ?_)
                    refine da_op rfl (d_iconv un5 un2 rfl ?_)
                    refine da_op rfl (d_as (v := .int .i64 (IntKind.i64.wrap (IntKind.u8.wrap (m22 - 48)))) rfl ?_)
                    refine da_nil ?_
                    refine W_seq ?_
                    refine W_seq ?_
                    have B28 : OS w23 9 encS (Value.slice q5_0a q5_0n q5_0c) m4 := i17_K0.ext E23
                    have B29 : OS w23 40 encF_f32 (Value.slice i10_0a i10_0n i10_0c) s10.1 := i17_K1.ext E23
                    obtain ⟨m27, hm27, hr⟩ := letv_out hr
                    refine W_cut (fun σ' w' => σ' 57 = .bool m27 ∧ Ext w23 w') rfl ?_ ?_
                    · skip
                      have hr := hm27
                      refine da_op rfl (d_mv (v := .int .u8 m22) s9_23 ?_)
                      refine da_op rfl (d_icmp cGeq rfl rfl ?_)
                      refine da_op rfl (d_mv (v := .bool (icmp .geq m22 97)) rfl ?_)
                      rcases Bool.eq_false_or_eq_true (icmp .geq m22 97) with hc30 | hc30
                      · skip
                        replace hr := bif_t hr hc30
                        refine da_on rfl (Eq.trans (show sl _ _ _ = .bool (icmp .geq m22 97) from rfl) (congrArg Value.bool hc30)) (d_mv (v := .int .u8 m22) s9_23 ?_)
                        refine da_on rfl (Eq.trans (show sl _ _ _ = .bool (icmp .geq m22 97) from rfl) (congrArg Value.bool hc30)) (d_icmp cLeq rfl rfl ?_)
                        refine da_op rfl (d_pick (b := true) (Eq.trans (show ev _ _ = .bool (icmp .geq m22 97) from rfl) (congrArg Value.bool hc30)) ?_)
                        refine da_nil ?_
                        subst hr
                        exact ⟨rfl, (Ext.refl w23)⟩
                      · skip
                        replace hr := bif_f hr hc30
                        refine da_off rfl (Eq.trans (show sl _ _ _ = .bool (icmp .geq m22 97) from rfl) (congrArg Value.bool hc30)) (by decide) ?_
                        refine da_off rfl (Eq.trans (show sl _ _ _ = .bool (icmp .geq m22 97) from rfl) (congrArg Value.bool hc30)) (by decide) ?_
                        refine da_op rfl (d_pick (b := false) (Eq.trans (show ev _ _ = .bool (icmp .geq m22 97) from rfl) (congrArg Value.bool hc30)) ?_)
                        refine da_nil ?_
                        subst hr
                        exact ⟨rfl, (Ext.refl w23)⟩
                    · skip
                      rintro σ27 w27 o27 ⟨s57_27, E27⟩
                      have s7_27 : σ27 7 = .int .i64 s17.1 := (o27 7 rfl).trans s7_23
                      have s8_27 : σ27 8 = .int .i64 s17.2 := (o27 8 rfl).trans s8_23
                      have s4_27 : σ27 4 = (Value.slice i10_0a i10_0n i10_0c) := (o27 4 rfl).trans s4_23
                      have s5_27 : σ27 5 = (Value.slice q5_0a q5_0n q5_0c) := (o27 5 rfl).trans s5_23
                      have s6_27 : σ27 6 = .int .i64 s10.2 := (o27 6 rfl).trans s6_23
                      have s9_27 : σ27 9 = .int .u8 m22 := (o27 9 rfl).trans s9_23
                      have s10_27 : σ27 10 = .int .i64 (IntKind.i64.wrap (IntKind.u8.wrap (m22 - 48))) := (o27 10 rfl).trans rfl
                      have X31 : Ext w w27 := X25.trans E27
                      refine W_cond (b := m27) s57_27 (fun hc32 => ?_) (fun hc32 => ?_)
                      · skip
                        replace hr := bif_t hr hc32
                        refine W_region rfl ?_
                        refine da_op rfl (d_mv (v := .int .u8 m22) s9_27 ?_)
                        refine da_op rfl (d_iarith rfl rfl (.inr (.inl ⟨rfl, rfl⟩)) ?_)
                        refine da_op rfl (d_iconv un5 un2 rfl ?_)
                        refine da_op rfl (d_iarith rfl rfl (.inl ⟨rfl, rfl⟩) ?_)
                        refine da_op rfl (d_as (v := .int .i64 (IntKind.i64.wrap ((IntKind.i64.wrap (IntKind.u8.wrap (m22 - 97))) + 10))) rfl ?_)
                        refine da_nil ?_
                        refine W_seq ?_
                        refine W_seq ?_
                        refine W_region rfl ?_
                        refine da_op rfl (d_mv (v := .int .i64 (IntKind.i64.wrap ((IntKind.i64.wrap (IntKind.u8.wrap (m22 - 97))) + 10))) rfl ?_)
                        refine da_op rfl (d_icmp cLss rfl rfl ?_)
                        refine da_nil ?_
                        refine W_cond (b := (icmp .lss (IntKind.i64.wrap ((IntKind.i64.wrap (IntKind.u8.wrap (m22 - 97))) + 10)) 0)) rfl (fun hc33 => ?_) (fun hc33 => ?_)
                        · skip
                          replace hr := bif_t hr hc33
                          refine W_seq ?_
                          refine W_region rfl ?_
                          refine da_op rfl (d_as (v := .slice none 0 0) rfl ?_)
                          refine da_op rfl (d_as (v := .bool false) rfl ?_)
                          refine da_nil ?_
                          refine W_ret ?_
                          obtain rfl := Option.some.inj hr
                          exact ⟨_, rfl, rfl, none, 0, 0, rfl, rfl, (OS.nil _ 40 encF_f32), (fun k hk => by cases hk), X31⟩
                        · skip
                          replace hr := bif_f hr hc33
                          refine W_skip ?_
                          refine W_region rfl ?_
                          refine da_op rfl (d_mv (v := .int .i64 s17.1) s7_27 ?_)
                          refine da_op rfl (d_iarith rfl rfl (.inr (.inr ⟨rfl, rfl⟩)) ?_)
                          refine da_op rfl (d_mv (v := .int .i64 (IntKind.i64.wrap ((IntKind.i64.wrap (IntKind.u8.wrap (m22 - 97))) + 10))) rfl ?_)
                          refine da_op rfl (d_iarith rfl rfl (.inl ⟨rfl, rfl⟩) ?_)
                          refine da_op rfl (d_as (v := .int .i64 (IntKind.i64.wrap ((IntKind.i64.wrap (16 * s17.1)) + (IntKind.i64.wrap ((IntKind.i64.wrap (IntKind.u8.wrap (m22 - 97))) + 10))))) rfl ?_)
                          refine da_nil ?_
                          refine W_region rfl ?_
                          refine da_op rfl (d_mv (v := .int .i64 s17.2) s8_27 ?_)
                          refine da_op rfl (d_iarith rfl rfl (.inl ⟨rfl, rfl⟩) ?_)
                          refine da_op rfl (d_as (v := .int .i64 (IntKind.i64.wrap (s17.2 + 1))) rfl ?_)
                          refine da_nil ?_
                          have B34 : OS w27 9 encS (Value.slice q5_0a q5_0n q5_0c) m4 := B28.ext E27
                          have B35 : OS w27 40 encF_f32 (Value.slice i10_0a i10_0n i10_0c) s10.1 := B29.ext E27
                          obtain rfl := Option.some.inj hr
                          exact ⟨_, rfl, ⟨rfl, rfl, s4_27, s5_27, s6_27, B34, B35, X31⟩⟩
                      · skip
                        replace hr := bif_f hr hc32
                        refine W_skip ?_
                        refine W_seq ?_
                        refine W_seq ?_
                        refine W_region rfl ?_
                        refine da_op rfl (d_mv (v := .int .i64 (IntKind.i64.wrap (IntKind.u8.wrap (m22 - 48)))) s10_27 ?_)
                        refine da_op rfl (d_icmp cLss rfl rfl ?_)
                        refine da_nil ?_
                        refine W_cond (b := (icmp .lss (IntKind.i64.wrap (IntKind.u8.wrap (m22 - 48))) 0)) rfl (fun hc36 => ?_) (fun hc36 => ?_)
                        · skip
                          replace hr := bif_t hr hc36
                          refine W_seq ?_
                          refine W_region rfl ?_
                          refine da_op rfl (d_as (v := .slice none 0 0) rfl ?_)
                          refine da_op rfl (d_as (v := .bool false) rfl ?_)
                          refine da_nil ?_
                          refine W_ret ?_
                          obtain rfl := Option.some.inj hr
                          exact ⟨_, rfl, rfl, none, 0, 0, rfl, rfl, (OS.nil _ 40 encF_f32), (fun k hk => by cases hk), X31⟩
                        · skip
                          replace hr := bif_f hr hc36
                          refine W_skip ?_
                          refine W_region rfl ?_
                          refine da_op rfl (d_mv (v := .int .i64 s17.1) s7_27 ?_)
                          refine da_op rfl (d_iarith rfl rfl (.inr (.inr ⟨rfl, rfl⟩)) ?_)
                          refine da_op rfl (d_mv (v := .int .i64 (IntKind.i64.wrap (IntKind.u8.wrap (m22 - 48)))) s10_27 ?_)
                          refine da_op rfl (d_iarith rfl rfl (.inl ⟨rfl, rfl⟩) ?_)
                          refine da_op rfl (d_as (v := .int .i64 (IntKind.i64.wrap ((IntKind.i64.wrap (16 * s17.1)) + (IntKind.i64.wrap (IntKind.u8.wrap (m22 - 48)))))) rfl ?_)
                          refine da_nil ?_
                          refine W_region rfl ?_
                          refine da_op rfl (d_mv (v := .int .i64 s17.2) s8_27 ?_)
                          refine da_op rfl (d_iarith rfl rfl (.inl ⟨rfl, rfl⟩) ?_)
                          refine da_op rfl (d_as (v := .int .i64 (IntKind.i64.wrap (s17.2 + 1))) rfl ?_)
                          refine da_nil ?_
                          have B37 : OS w27 9 encS (Value.slice q5_0a q5_0n q5_0c) m4 := B28.ext E27
                          have B38 : OS w27 40 encF_f32 (Value.slice i10_0a i10_0n i10_0c) s10.1 := B29.ext E27
                          obtain rfl := Option.some.inj hr
                          exact ⟨_, rfl, ⟨rfl, rfl, s4_27, s5_27, s6_27, B37, B38, X31⟩⟩
                  · skip
                    replace hr := bif_f hr hc26
                    refine W_skip ?_
                    refine W_seq ?_
                    refine W_seq ?_
                    have B40 : OS w23 9 encS (Value.slice q5_0a q5_0n q5_0c) m4 := i17_K0.ext E23
                    have B41 : OS w23 40 encF_f32 (Value.slice i10_0a i10_0n i10_0c) s10.1 := i17_K1.ext E23
                    obtain ⟨m39, hm39, hr⟩ := letv_out hr
                    refine W_cut (fun σ' w' => σ' 57 = .bool m39 ∧ Ext w23 w') rfl ?_ ?_
                    · skip
                      have hr := hm39
                      refine da_op rfl (d_mv (v := .int .u8 m22) s9_23 ?_)
                      refine da_op rfl (d_icmp cGeq rfl rfl ?_)
                      refine da_op rfl (d_mv (v := .bool (icmp .geq m22 97)) rfl ?_)
                      rcases Bool.eq_false_or_eq_true (icmp .geq m22 97) with hc42 | hc42
                      · skip
                        replace hr := bif_t hr hc42
                        refine da_on rfl (Eq.trans (show sl _ _ _ = .bool (icmp .geq m22 97) from rfl) (congrArg Value.bool hc42)) (d_mv (v := .int .u8 m22) s9_23 ?_)
                        refine da_on rfl (Eq.trans (show sl _ _ _ = .bool (icmp .geq m22 97) from rfl) (congrArg Value.bool hc42)) (d_icmp cLeq rfl rfl ?_)
                        refine da_op rfl (d_pick (b := true) (Eq.trans (show ev _ _ = .bool (icmp .geq m22 97) from rfl) (congrArg Value.bool hc42)) ?_)
                        refine da_nil ?_
                        subst hr
                        exact ⟨rfl, (Ext.refl w23)⟩
                      · skip
                        replace hr := bif_f hr hc42
                        refine da_off rfl (Eq.trans (show sl _ _ _ = .bool (icmp .geq m22 97) from rfl) (congrArg Value.bool hc42)) (by decide) ?_
                        refine da_off rfl (Eq.trans (show sl _ _ _ = .bool (icmp .geq m22 97) from rfl) (congrArg Value.bool hc42)) (by decide) ?_
                        refine da_op rfl (d_pick (b := false) (Eq.trans (show ev _ _ = .bool (icmp .geq m22 97) from rfl) (congrArg Value.bool hc42)) ?_)
                        refine da_nil ?_
                        subst hr
                        exact ⟨rfl, (Ext.refl w23)⟩
                    · skip
                      rintro σ39 w39 o39 ⟨s57_39, E39⟩
                      have s7_39 : σ39 7 = .int .i64 s17.1 := (o39 7 rfl).trans s7_23
                      have s8_39 : σ39 8 = .int .i64 s17.2 := (o39 8 rfl).trans s8_23
                      have s4_39 : σ39 4 = (Value.slice i10_0a i10_0n i10_0c) := (o39 4 rfl).trans s4_23
                      have s5_39 : σ39 5 = (Value.slice q5_0a q5_0n q5_0c) := (o39 5 rfl).trans s5_23
                      have s6_39 : σ39 6 = .int .i64 s10.2 := (o39 6 rfl).trans s6_23
                      have s9_39 : σ39 9 = .int .u8 m22 := (o39 9 rfl).trans s9_23
                      have s10_39 : σ39 10 = .int .i64 (-1) := (o39 10 rfl).trans s10_23
                      have X43 : Ext w w39 := X25.trans E39
                      refine W_cond (b := m39) s57_39 (fun hc44 => ?_) (fun hc44 => ?_)
                      · skip
                        replace hr := bif_t hr hc44
                        refine W_region rfl ?_
                        refine da_op rfl (d_mv (v := .int .u8 m22) s9_39 ?_)
                        refine da_op rfl (d_iarith rfl rfl (.inr (.inl ⟨rfl, rfl⟩)) ?_)
                        refine da_op rfl (d_iconv un5 un2 rfl ?_)
                        refine da_op rfl (d_iarith rfl rfl (.inl ⟨rfl, rfl⟩) ?_)
                        refine da_op rfl (d_as (v := .int .i64 (IntKind.i64.wrap ((IntKind.i64.wrap (IntKind.u8.wrap (m22 - 97))) + 10))) rfl ?_)
                        refine da_nil ?_
                        refine W_seq ?_
                        refine W_seq ?_
                        refine W_region rfl ?_
                        refine da_op rfl (d_mv (v := .int .i64 (IntKind.i64.wrap ((IntKind.i64.wrap (IntKind.u8.wrap (m22 - 97))) + 10))) rfl ?_)
                        refine da_op rfl (d_icmp cLss rfl rfl ?_)
                        refine da_nil ?_
                        refine W_cond (b := (icmp .lss (IntKind.i64.wrap ((IntKind.i64.wrap (IntKind.u8.wrap (m22 - 97))) + 10)) 0)) rfl (fun hc45 => ?_) (fun hc45 => ?_)
                        · skip
                          replace hr := bif_t hr hc45
                          refine W_seq ?_
                          refine W_region rfl ?_
                          refine da_op rfl (d_as (v := .slice none 0 0) rfl ?_)
                          refine da_op rfl (d_as (v := .bool false) rfl ?_)
                          refine da_nil ?_
                          refine W_ret ?_
                          obtain rfl := Option.some.inj hr
                          exact ⟨_, rfl, rfl, none, 0, 0, rfl, rfl, (OS.nil _ 40 encF_f32), (fun k hk => by cases hk), X43⟩
                        · skip
                          replace hr := bif_f hr hc45
                          refine W_skip ?_
                          refine W_region rfl ?_
                          refine da_op rfl (d_mv (v := .int .i64 s17.1) s7_39 ?_)
                          refine da_op rfl (d_iarith rfl rfl (.inr (.inr ⟨rfl, rfl⟩)) ?_)
                          refine da_op rfl (d_mv (v := .int .i64 (IntKind.i64.wrap ((IntKind.i64.wrap (IntKind.u8.wrap (m22 - 97))) + 10))) rfl ?_)
                          refine da_op rfl (d_iarith rfl rfl (.inl ⟨rfl, rfl⟩) ?_)
                          refine da_op rfl (d_as (v := .int .i64 (IntKind.i64.wrap ((IntKind.i64.wrap (16 * s17.1)) + (IntKind.i64.wrap ((IntKind.i64.wrap (IntKind.u8.wrap (m22 - 97))) + 10))))) rfl ?_)
                          refine da_nil ?_
                          refine W_region rfl ?_
                          refine da_op rfl (d_mv (v := .int .i64 s17.2) s8_39 ?_)
                          refine da_op rfl (d_iarith rfl rfl (.inl ⟨rfl, rfl⟩) ?_)
                          refine da_op rfl (d_as (v := .int .i64 (IntKind.i64.wrap (s17.2 + 1))) rfl ?_)
                          refine da_nil ?_
                          have B46 : OS w39 9 encS (Value.slice q5_0a q5_0n q5_0c) m4 := B40.ext E39
                          have B47 : OS w39 40 encF_f32 (Value.slice i10_0a i10_0n i10_0c) s10.1 := B41.ext E39
                          obtain rfl := Option.some.inj hr
                          exact ⟨_, rfl, ⟨rfl, rfl, s4_39, s5_39, s6_39, B46, B47, X43⟩⟩
                      · skip
                        replace hr := bif_f hr hc44
                        refine W_skip ?_
                        refine W_seq ?_
                        refine W_seq ?_
                        refine W_region rfl ?_
                        refine da_op rfl (d_mv (v := .int .i64 (-1)) s10_39 ?_)
                        refine da_op rfl (d_icmpL (b := true) cLss rfl rfl (by decide) ?_)
                        refine da_nil ?_
                        refine W_true rfl ?_
                        refine W_seq ?_
                        refine W_region rfl ?_
                        refine da_op rfl (d_as (v := .slice none 0 0) rfl ?_)
                        refine da_op rfl (d_as (v := .bool false) rfl ?_)
                        refine da_nil ?_
                        refine W_ret ?_
                        obtain rfl := Option.some.inj hr
                        exact ⟨_, rfl, rfl, none, 0, 0, rfl, rfl, (OS.nil _ 40 encF_f32), (fun k hk => by cases hk), X43⟩
              · skip
                replace hr := bif_f hr hc18
                refine W_exit ?_
                obtain rfl := Option.some.inj hr
                exact ⟨_, rfl, rfl, i17_S7, i17_S4, i17_S5, i17_S6, i17_K0, i17_K1, i17_X⟩
            · skip
              intro ex σx17 wx17 hq
              rcases m17 with m17 | m17
              · skip
                obtain ⟨rfl, q17_0_S7, q17_0_S4, q17_0_S5, q17_0_S6, q17_0_K0, q17_0_K1, q17_0_X⟩ := hq
                refine W_seq ?_
                refine W_region rfl ?_
                refine da_op rfl (d_mv (v := .int .i64 m17) q17_0_S7 ?_)
                obtain ⟨m48, hm48, hr⟩ := letv_out hr
                refine da_op rfl (d_cl (vs := [.int .i64 m17]) en42 (ac rfl rfl) rfl ?_)
                refine (c42 m17 m48 wx17 hm48 ).mono ?_
                rintro _ w49 ⟨q49_0r, rfl, q49_0h, E49⟩
                refine ⟨_, rfl, ?_⟩
                have X50 : Ext w w49 := q17_0_X.trans E49
                refine da_op rfl (d_as (v := .float .f32 q49_0r) rfl ?_)
                refine da_nil ?_
                refine W_seq ?_
                refine W_seq ?_
                refine W_region rfl ?_
                refine da_op rfl (d_mv (v := .float .f32 q49_0r) rfl ?_)
                obtain ⟨m51, hm51, hr⟩ := letv_out hr
                have B52 : OS w49 9 encS (Value.slice q5_0a q5_0n q5_0c) m4 := q17_0_K0.ext E49
                have B53 : OS w49 40 encF_f32 (Value.slice i10_0a i10_0n i10_0c) s10.1 := q17_0_K1.ext E49
                refine da_op rfl (d_cl (vs := [.float .f32 q49_0r]) en43 (ac rfl rfl) rfl ?_)
                refine (c43 m48 q49_0r m51 w49 hm51 q49_0h).mono ?_
                rintro _ w54 ⟨rfl, E54⟩
                refine ⟨_, rfl, ?_⟩
                have X55 : Ext w w54 := X50.trans E54
                refine da_op rfl (d_mv (v := .int .i64 m17) q17_0_S7 ?_)
                refine da_op rfl (d_icmp cNeq rfl rfl ?_)
                refine da_nil ?_
                refine W_cond (b := (icmp .neq m51 m17)) rfl (fun hc56 => ?_) (fun hc56 => ?_)
                · skip
                  replace hr := bif_t hr hc56
                  refine W_seq ?_
                  refine W_region rfl ?_
                  refine da_op rfl (d_as (v := .slice none 0 0) rfl ?_)
                  refine da_op rfl (d_as (v := .bool false) rfl ?_)
                  refine da_nil ?_
                  refine W_ret ?_
                  obtain rfl := Option.some.inj hr
                  exact ⟨_, rfl, rfl, none, 0, 0, rfl, rfl, (OS.nil _ 40 encF_f32), (fun k hk => by cases hk), X55⟩
                · skip
                  replace hr := bif_f hr hc56
                  refine W_skip ?_
                  refine W_region rfl ?_
                  refine da_op rfl (d_mv (v := (Value.slice i10_0a i10_0n i10_0c)) q17_0_S4 ?_)
                  refine da_op rfl (d_mv (v := .float .f32 q49_0r) rfl ?_)
                  have B58 : OS w54 9 encS (Value.slice q5_0a q5_0n q5_0c) m4 := B52.ext E54
                  have B59 : OS w54 40 encF_f32 (Value.slice i10_0a i10_0n i10_0c) s10.1 := B53.ext E54
                  refine da_op rfl (d_bslice (vs := [(0, .float .f32 q49_0r)]) (cs := #[.float .f32 q49_0r]) un23 (pc rfl rfl) (by kernel_rfl) fun w57 B57 E57 => ?_)
                  have fr57 : ∀ k, (Value.slice (some ⟨w54.heap.size, 0, none⟩) 1 1).ownBlock = some k → w54.heap.size ≤ k := fun k hk => by cases hk; exact Nat.le_refl _
                  have own57 : ∀ k, (Value.slice (some ⟨w54.heap.size, 0, none⟩) 1 1).ownBlock = some k → w.heap.size ≤ k := fun k hk => Nat.le_trans X55.size (fr57 k hk)
                  have sp60 : ∀ k, (Value.slice q5_0a q5_0n q5_0c).ownBlock = some k → ¬ (Value.slice (some ⟨w54.heap.size, 0, none⟩) 1 1).ownBlock = some k := apart_fresh B58 fr57
                  have sp61 : ∀ k, (Value.slice i10_0a i10_0n i10_0c).ownBlock = some k → ¬ (Value.slice (some ⟨w54.heap.size, 0, none⟩) 1 1).ownBlock = some k := apart_fresh B59 fr57
                  have X62 : Ext w w57 := X55.trans E57
                  have O57 : OS w57 40 encF_f32 (Value.slice (some ⟨w54.heap.size, 0, none⟩) 1 1) [m48] := OS.box (xs := [m48]) B57 (lc_f q49_0h rfl) (Nat.le_of_ble_eq_true rfl)
                  obtain ⟨m63, hm63, hr⟩ := bind_out hr
                  have B64 : OS w57 40 encF_f32 (Value.slice i10_0a i10_0n i10_0c) s10.1 := B59.ext E57
                  have B65 : OS w57 9 encS (Value.slice q5_0a q5_0n q5_0c) m4 := B58.ext E57
                  refine da_op rfl (d_append (e := encF_f32) (v := (Value.slice i10_0a i10_0n i10_0c)) (y := (Value.slice (some ⟨w54.heap.size, 0, none⟩) 1 1)) un23 info40 rfl (by kernel_rfl) (by kernel_rfl) (by decide) (by decide) rfl rfl B64 O57.rs hm63 fun v66 w66 O66 Fm66 at_66 nl66 => ?_)
                  obtain ⟨v66pa, v66pn, v66pc, rfl⟩ := O66.vals
                  have own66 : ∀ k, (Value.slice v66pa v66pn v66pc).ownBlock = some k → w.heap.size ≤ k := app_own (w := w57) at_66 i10_0O X62.size
                  have sp67 : ∀ k, (Value.slice q5_0a q5_0n q5_0c).ownBlock = some k → ¬ (Value.slice v66pa v66pn v66pc).ownBlock = some k := app_nr at_66 i10_A0 B65
                  have sp68 : ∀ k, (Value.slice (some ⟨w54.heap.size, 0, none⟩) 1 1).ownBlock = some k → ¬ (Value.slice v66pa v66pn v66pc).ownBlock = some k := app_nr at_66 (apart_symm sp61) O57
                  have X69 : Ext w w66 := Ext.step X62 Fm66 (fun k _ hk => i10_0O k hk)
                  refine da_op rfl (d_as (v := (Value.slice v66pa v66pn v66pc)) rfl ?_)
                  refine da_nil ?_
                  refine W_region rfl ?_
                  refine da_op rfl (d_mv (v := .int .i64 s10.2) q17_0_S6 ?_)
                  refine da_op rfl (d_iarith rfl rfl (.inl ⟨rfl, rfl⟩) ?_)
                  refine da_op rfl (d_as (v := .int .i64 (IntKind.i64.wrap (s10.2 + 1))) rfl ?_)
                  refine da_nil ?_
                  have B70 : OS w66 9 encS (Value.slice q5_0a q5_0n q5_0c) m4 := B65.frm Fm66 i10_A0
                  obtain rfl := Option.some.inj hr
                  exact ⟨_, rfl, ⟨v66pa, v66pn, v66pc, rfl, rfl, q17_0_S5, O66, own66, B70, sp67, X69⟩⟩
              · skip
                obtain ⟨rfl, q17_1_0a, q17_1_0n, q17_1_0c, q17_1_S2, q17_1_S3, q17_1_0R, q17_1_0O, q17_1_X⟩ := hq
                obtain rfl := Option.some.inj hr
                exact ⟨_, rfl, rfl, q17_1_0a, q17_1_0n, q17_1_0c, q17_1_S2, q17_1_S3, q17_1_0R, q17_1_0O, q17_1_X⟩
        · skip
          replace hr := bif_f hr hc12
          refine W_exit ?_
          obtain rfl := Option.some.inj hr
          exact ⟨_, rfl, rfl, i10_0a, i10_0n, i10_0c, i10_S4, i10_0R, i10_0O, i10_X⟩
      · skip
        intro ex σx10 wx10 hq
        rcases m10 with m10 | m10
        · skip
          obtain ⟨rfl, q10_0_0a, q10_0_0n, q10_0_0c, q10_0_S4, q10_0_0R, q10_0_0O, q10_0_X⟩ := hq
          refine W_seq ?_
          refine W_region rfl ?_
          refine da_op rfl (d_mv (v := (Value.slice q10_0_0a q10_0_0n q10_0_0c)) q10_0_S4 ?_)
          refine da_op rfl (d_as (v := (Value.slice q10_0_0a q10_0_0n q10_0_0c)) rfl ?_)
          refine da_op rfl (d_as (v := .bool true) rfl ?_)
          refine da_nil ?_
          refine W_ret ?_
          obtain rfl := Option.some.inj hr
          refine ⟨_, res2 (rv_tmp rfl) (rv_tmp rfl), ?_⟩
          exact ⟨q10_0_0a, q10_0_0n, q10_0_0c, rfl, q10_0_0R, q10_0_0O, q10_0_X⟩
        · skip
          obtain ⟨rfl, q10_1_0a, q10_1_0n, q10_1_0c, q10_1_S2, q10_1_S3, q10_1_0R, q10_1_0O, q10_1_X⟩ := hq
          obtain rfl := Option.some.inj hr
          refine ⟨_, res2 (rv_tmp q10_1_S2) (rv_tmp q10_1_S3), ?_⟩
          exact ⟨q10_1_0a, q10_1_0n, q10_1_0c, rfl, q10_1_0R, q10_1_0O, q10_1_X⟩
set_option maxHeartbeats 4000000 in
theorem c41 (p0 : List UInt8) (r : SVector × Bool) (w : World) (hr : M.spec_l01VRead p0 = some r)  :
    Calls Tryz.prog 41 #[.string (bs p0)] w fun e w' => ∃ q0r0 : Nat, ∃ q0r1 : Nat, ∃ q0r2 : Nat, e = .returned (.tuple #[.agg #[.float .f32 q0r0, .float .f32 q0r1, .float .f32 q0r2], .bool r.2]) ∧ cn .f32 q0r0 = r.1.x ∧ cn .f32 q0r1 = r.1.y ∧ cn .f32 q0r2 = r.1.z ∧ Ext w w' := by
  refine calls_of_W Tryz.func41 rfl (Nat.le_of_ble_eq_true rfl) ?_
  refine W_seq ?_
  refine W_region rfl ?_
  refine da_op rfl (d_alloc (cs := #[.float .f32 0, .float .f32 0, .float .f32 0]) zero57 rfl fun w1 B1 E1 => ?_)
  have own2 : w.heap.size ≤ w.heap.size := Nat.le_trans (Ext.refl w).size (Nat.le_refl _)
  have X3 : Ext w w1 := (Ext.refl w).trans E1
  refine da_op rfl (d_as (v := .bool false) rfl ?_)
  refine da_nil ?_
  refine W_seq ?_
  refine W_region rfl ?_
  refine da_op rfl (d_mv (v := .string (bs p0)) rfl ?_)
  obtain ⟨m4, hm4, hr⟩ := bind_out hr
  refine da_op rfl (d_cl (vs := [.string (bs p0)]) en27 (ac rfl rfl) rfl ?_)
  refine (c27 p0 m4 w1 hm4 ).mono ?_
  rintro _ w5 ⟨q5_0a, q5_0n, q5_0c, rfl, q5_0R, q5_0F, E5⟩
  refine ⟨_, rfl, ?_⟩
  have own6 : ∀ k, (Value.slice q5_0a q5_0n q5_0c).ownBlock = some k → w.heap.size ≤ k := fun k hk => Nat.le_trans X3.size (q5_0F k hk)
  have sp7 : ¬ (Value.slice q5_0a q5_0n q5_0c).ownBlock = some w.heap.size := ne_fresh q5_0F (lt_heap B1)
  have X8 : Ext w w5 := X3.trans E5
  refine da_op rfl (d_mv (v := .tuple #[(Value.slice q5_0a q5_0n q5_0c), .bool m4.2]) rfl ?_)
  refine da_op rfl (d_extract (v := (Value.slice q5_0a q5_0n q5_0c)) rfl rfl ?_)
  refine da_op rfl (d_extract (v := .bool m4.2) rfl rfl ?_)
  refine da_op rfl (d_as (v := (Value.slice q5_0a q5_0n q5_0c)) rfl ?_)
  refine da_op rfl (d_as (v := .bool m4.2) rfl ?_)
  refine da_nil ?_
  refine W_seq ?_
  refine W_seq ?_
  have B10 : w5.heap[w.heap.size]? = some (.cells #[.float .f32 0, .float .f32 0, .float .f32 0] 57 (0, 0)) := E5.heap B1
  obtain ⟨m9, hm9, hr⟩ := letv_out hr
  refine W_cut (fun σ' w' => σ' 17 = .bool m9 ∧ Ext w5 w') rfl ?_ ?_
  · skip
    have hr := hm9
    refine da_op rfl (d_mv (v := .bool m4.2) rfl ?_)
    refine da_op rfl (d_not rfl ?_)
    refine da_op rfl (d_mv (v := .bool (!m4.2)) rfl ?_)
    rcases Bool.eq_false_or_eq_true m4.2 with hc11 | hc11
    · skip
      replace hr := bif_t hr hc11
      refine da_on rfl (Eq.trans (show sl _ _ _ = .bool (!m4.2) from rfl) (congrArg Value.bool (congrArg not hc11))) (d_mv (v := (Value.slice q5_0a q5_0n q5_0c)) rfl ?_)
      refine da_on rfl (Eq.trans (show sl _ _ _ = .bool (!m4.2) from rfl) (congrArg Value.bool (congrArg not hc11))) (d_len (e := encF_f32) un23 rfl q5_0R.rs ?_)
      refine da_on rfl (Eq.trans (show sl _ _ _ = .bool (!m4.2) from rfl) (congrArg Value.bool (congrArg not hc11))) (d_icmp cNeq rfl rfl ?_)
      refine da_op rfl (d_pick (b := false) (Eq.trans (show ev _ _ = .bool (!m4.2) from rfl) (congrArg Value.bool (congrArg not hc11))) ?_)
      refine da_nil ?_
      subst hr
      exact ⟨rfl, (Ext.refl w5)⟩
    · skip
      replace hr := bif_f hr hc11
      refine da_off rfl (Eq.trans (show sl _ _ _ = .bool (!m4.2) from rfl) (congrArg Value.bool (congrArg not hc11))) (by decide) ?_
      refine da_off rfl (Eq.trans (show sl _ _ _ = .bool (!m4.2) from rfl) (congrArg Value.bool (congrArg not hc11))) (by decide) ?_
      refine da_off rfl (Eq.trans (show sl _ _ _ = .bool (!m4.2) from rfl) (congrArg Value.bool (congrArg not hc11))) (by decide) ?_
      refine da_op rfl (d_pick (b := true) (Eq.trans (show ev _ _ = .bool (!m4.2) from rfl) (congrArg Value.bool (congrArg not hc11))) ?_)
      refine da_nil ?_
      subst hr
      exact ⟨rfl, (Ext.refl w5)⟩
  · skip
    rintro σ9 w9 o9 ⟨s17_9, E9⟩
    have s2_9 : σ9 2 = .pointer (some ⟨w.heap.size, 0, none⟩) := (o9 2 rfl).trans rfl
    have s4_9 : σ9 4 = (Value.slice q5_0a q5_0n q5_0c) := (o9 4 rfl).trans rfl
    have X12 : Ext w w9 := X8.trans E9
    refine W_cond (b := m9) s17_9 (fun hc13 => ?_) (fun hc13 => ?_)
    · skip
      replace hr := bif_t hr hc13
      refine W_seq ?_
      refine W_region rfl ?_
      refine da_op rfl (d_bd (vs := []) (cs := #[.float .f32 0, .float .f32 0, .float .f32 0]) rfl (by kernel_rfl) ?_)
      have B14 : w9.heap[w.heap.size]? = some (.cells #[.float .f32 0, .float .f32 0, .float .f32 0] 57 (0, 0)) := E9.heap B10
      refine da_op rfl (d_store (vs := #[.float .f32 0, .float .f32 0, .float .f32 0]) s2_9 rfl B14 size57 (Nat.le_of_ble_eq_true rfl) rfl fun w15 S15 => ?_)
      have X16 : Ext w w15 := Ext.step X12 S15.frmb (fun k _ hk => hk ▸ own2)
      have B17 : w15.heap[w.heap.size]? = some (.cells #[.float .f32 0, .float .f32 0, .float .f32 0] 57 (0, 0)) := S15.here
      refine da_op rfl (d_as (v := .bool false) rfl ?_)
      refine da_nil ?_
      refine W_ret ?_
      obtain rfl := Option.some.inj hr
      refine ⟨_, res2 (rv_cells (vs := #[.float .f32 0, .float .f32 0, .float .f32 0]) s2_9 agg57 size57 B17 rfl) (rv_tmp rfl), ?_⟩
      exact ⟨0, 0, 0, rfl, cn_f32_0, cn_f32_0, cn_f32_0, X16⟩
    · skip
      replace hr := bif_f hr hc13
      refine W_skip ?_
      refine W_seq ?_
      have B19 : w9.heap[w.heap.size]? = some (.cells #[.float .f32 0, .float .f32 0, .float .f32 0] 57 (0, 0)) := E9.heap B10
      have B20 : OS w9 40 encF_f32 (Value.slice q5_0a q5_0n q5_0c) m4.1 := q5_0R.ext E9
      obtain ⟨m21, hm21, hr⟩ := bind_out hr
      obtain ⟨m22, hm22, hr⟩ := bind_out hr
      obtain ⟨m23, hm23, hr⟩ := bind_out hr
      refine W_anyT 10 [] [{ V := fun _ v _ => v = (Value.slice q5_0a q5_0n q5_0c) }, { V := fun _ v _ => ∃ d18_1g : Nat, ∃ d18_1o : Nat, v = (.pointer (some ⟨d18_1g, d18_1o, none⟩)) ∧ EL encF_f32 (Value.slice q5_0a q5_0n q5_0c) (m4.1).length 0 d18_1g d18_1o }, { V := fun _ v _ => ∃ d18_1r0 : Nat, v = (.float .f32 d18_1r0) ∧ cn .f32 d18_1r0 = m21 }, { V := fun _ v _ => v = (Value.slice q5_0a q5_0n q5_0c) }, { V := fun _ v _ => ∃ d18_4g : Nat, ∃ d18_4o : Nat, v = (.pointer (some ⟨d18_4g, d18_4o, none⟩)) ∧ EL encF_f32 (Value.slice q5_0a q5_0n q5_0c) (m4.1).length 1 d18_4g d18_4o }, { V := fun _ v _ => ∃ d18_4r0 : Nat, v = (.float .f32 d18_4r0) ∧ cn .f32 d18_4r0 = m22 }, { V := fun _ v _ => v = (Value.slice q5_0a q5_0n q5_0c) }, { V := fun _ v _ => ∃ d18_7g : Nat, ∃ d18_7o : Nat, v = (.pointer (some ⟨d18_7g, d18_7o, none⟩)) ∧ EL encF_f32 (Value.slice q5_0a q5_0n q5_0c) (m4.1).length 2 d18_7g d18_7o }, { V := fun _ v _ => ∃ d18_7r0 : Nat, v = (.float .f32 d18_7r0) ∧ cn .f32 d18_7r0 = m23 }, { V := fun _ v _ => ∃ d18_1r0 : Nat, ∃ d18_4r0 : Nat, ∃ d18_7r0 : Nat, v = (.agg #[.float .f32 d18_1r0, .float .f32 d18_4r0, .float .f32 d18_7r0]) ∧ cn .f32 d18_1r0 = m21 ∧ cn .f32 d18_4r0 = m22 ∧ cn .f32 d18_7r0 = m23 }] mixed (by kernel_rfl) ⟨trivial, trivial, trivial, trivial, trivial, trivial, trivial, trivial, trivial, trivial, trivial⟩ ⟨?_, ?_, ?_, ?_, ?_, ?_, ?_, ?_, ?_, ?_, trivial⟩ ?_
      · skip
        refine ⟨fun _ _ _ _ _ _ h _ => h, fun _ _ h _ => h, fun σ' w' hA hE hD hP => ?_⟩
        have t4 : σ' 4 = (Value.slice q5_0a q5_0n q5_0c) := (hA 4 rfl).trans s4_9
        have B0_24 : OS w' 40 encF_f32 (Value.slice q5_0a q5_0n q5_0c) m4.1 := B20.frm hE (fun k hk => not_oth0)
        refine dg_op rfl (d_mv (v := (Value.slice q5_0a q5_0n q5_0c)) t4 ?_)
        exact ⟨rfl, own_none (Ext.refl w')⟩
      · skip
        refine ⟨fun _ _ _ _ _ _ h _ => h, fun _ _ h _ => h, fun σ' w' hA hE hD hP => ?_⟩
        have t19 : σ' 19 = (Value.slice q5_0a q5_0n q5_0c) := hD 0 rfl
        have B0_25 : OS w' 40 encF_f32 (Value.slice q5_0a q5_0n q5_0c) m4.1 := B20.frm hE (fun k hk => not_oth0)
        refine dg_op rfl (d_indexE (e := encF_f32) (v := (Value.slice q5_0a q5_0n q5_0c)) un23 size40 t19 rfl B0_25.rs hm21 fun g26 o26 l26 => ?_)
        exact ⟨⟨g26, o26, rfl, l26⟩, own_none (Ext.refl _)⟩
      · skip
        refine ⟨fun _ _ _ _ _ _ h _ => h, fun _ _ h _ => h, fun σ' w' hA hE hD hP => ?_⟩
        obtain ⟨d18_1g, d18_1o, t20, d18_1gE⟩ : ∃ d18_1g : Nat, ∃ d18_1o : Nat, σ' 20 = (.pointer (some ⟨d18_1g, d18_1o, none⟩)) ∧ EL encF_f32 (Value.slice q5_0a q5_0n q5_0c) (m4.1).length 0 d18_1g d18_1o := hD 1 rfl
        have B0_27 : OS w' 40 encF_f32 (Value.slice q5_0a q5_0n q5_0c) m4.1 := B20.frm hE (fun k hk => not_oth0)
        obtain ⟨d18_1c, d18_1T, d18_1f, d18_1vs, d18_1hg, d18_1P, d18_1hq⟩ := RS.el B0_27.rs d18_1gE hm21
        obtain ⟨d18_1r0, rfl, d18_1h0⟩ := dec_encF_f32 d18_1hq
        refine dg_op rfl (d_load (v := .float .f32 d18_1r0) t20 agg40 d18_1hg (sub_get (vs := #[.float .f32 d18_1r0]) d18_1P (i := 0) rfl) ?_)
        exact ⟨⟨d18_1r0, rfl, d18_1h0⟩, own_none (Ext.refl w')⟩
      · skip
        refine ⟨fun _ _ _ _ _ _ h _ => h, fun _ _ h _ => h, fun σ' w' hA hE hD hP => ?_⟩
        have t4 : σ' 4 = (Value.slice q5_0a q5_0n q5_0c) := (hA 4 rfl).trans s4_9
        have B0_28 : OS w' 40 encF_f32 (Value.slice q5_0a q5_0n q5_0c) m4.1 := B20.frm hE (fun k hk => not_oth0)
        refine dg_op rfl (d_mv (v := (Value.slice q5_0a q5_0n q5_0c)) t4 ?_)
        exact ⟨rfl, own_none (Ext.refl w')⟩
      · skip
        refine ⟨fun _ _ _ _ _ _ h _ => h, fun _ _ h _ => h, fun σ' w' hA hE hD hP => ?_⟩
        have t22 : σ' 22 = (Value.slice q5_0a q5_0n q5_0c) := hD 3 rfl
        have B0_29 : OS w' 40 encF_f32 (Value.slice q5_0a q5_0n q5_0c) m4.1 := B20.frm hE (fun k hk => not_oth0)
        refine dg_op rfl (d_indexE (e := encF_f32) (v := (Value.slice q5_0a q5_0n q5_0c)) un23 size40 t22 rfl B0_29.rs hm22 fun g30 o30 l30 => ?_)
        exact ⟨⟨g30, o30, rfl, l30⟩, own_none (Ext.refl _)⟩
      · skip
        refine ⟨fun _ _ _ _ _ _ h _ => h, fun _ _ h _ => h, fun σ' w' hA hE hD hP => ?_⟩
        obtain ⟨d18_4g, d18_4o, t23, d18_4gE⟩ : ∃ d18_4g : Nat, ∃ d18_4o : Nat, σ' 23 = (.pointer (some ⟨d18_4g, d18_4o, none⟩)) ∧ EL encF_f32 (Value.slice q5_0a q5_0n q5_0c) (m4.1).length 1 d18_4g d18_4o := hD 4 rfl
        have B0_31 : OS w' 40 encF_f32 (Value.slice q5_0a q5_0n q5_0c) m4.1 := B20.frm hE (fun k hk => not_oth0)
        obtain ⟨d18_4c, d18_4T, d18_4f, d18_4vs, d18_4hg, d18_4P, d18_4hq⟩ := RS.el B0_31.rs d18_4gE hm22
        obtain ⟨d18_4r0, rfl, d18_4h0⟩ := dec_encF_f32 d18_4hq
        refine dg_op rfl (d_load (v := .float .f32 d18_4r0) t23 agg40 d18_4hg (sub_get (vs := #[.float .f32 d18_4r0]) d18_4P (i := 0) rfl) ?_)
        exact ⟨⟨d18_4r0, rfl, d18_4h0⟩, own_none (Ext.refl w')⟩
      · skip
        refine ⟨fun _ _ _ _ _ _ h _ => h, fun _ _ h _ => h, fun σ' w' hA hE hD hP => ?_⟩
        have t4 : σ' 4 = (Value.slice q5_0a q5_0n q5_0c) := (hA 4 rfl).trans s4_9
        have B0_32 : OS w' 40 encF_f32 (Value.slice q5_0a q5_0n q5_0c) m4.1 := B20.frm hE (fun k hk => not_oth0)
        refine dg_op rfl (d_mv (v := (Value.slice q5_0a q5_0n q5_0c)) t4 ?_)
        exact ⟨rfl, own_none (Ext.refl w')⟩
      · skip
        refine ⟨fun _ _ _ _ _ _ h _ => h, fun _ _ h _ => h, fun σ' w' hA hE hD hP => ?_⟩
        have t25 : σ' 25 = (Value.slice q5_0a q5_0n q5_0c) := hD 6 rfl
        have B0_33 : OS w' 40 encF_f32 (Value.slice q5_0a q5_0n q5_0c) m4.1 := B20.frm hE (fun k hk => not_oth0)
        refine dg_op rfl (d_indexE (e := encF_f32) (v := (Value.slice q5_0a q5_0n q5_0c)) un23 size40 t25 rfl B0_33.rs hm23 fun g34 o34 l34 => ?_)
        exact ⟨⟨g34, o34, rfl, l34⟩, own_none (Ext.refl _)⟩
      · skip
        refine ⟨fun _ _ _ _ _ _ h _ => h, fun _ _ h _ => h, fun σ' w' hA hE hD hP => ?_⟩
        obtain ⟨d18_7g, d18_7o, t26, d18_7gE⟩ : ∃ d18_7g : Nat, ∃ d18_7o : Nat, σ' 26 = (.pointer (some ⟨d18_7g, d18_7o, none⟩)) ∧ EL encF_f32 (Value.slice q5_0a q5_0n q5_0c) (m4.1).length 2 d18_7g d18_7o := hD 7 rfl
        have B0_35 : OS w' 40 encF_f32 (Value.slice q5_0a q5_0n q5_0c) m4.1 := B20.frm hE (fun k hk => not_oth0)
        obtain ⟨d18_7c, d18_7T, d18_7f, d18_7vs, d18_7hg, d18_7P, d18_7hq⟩ := RS.el B0_35.rs d18_7gE hm23
        obtain ⟨d18_7r0, rfl, d18_7h0⟩ := dec_encF_f32 d18_7hq
        refine dg_op rfl (d_load (v := .float .f32 d18_7r0) t26 agg40 d18_7hg (sub_get (vs := #[.float .f32 d18_7r0]) d18_7P (i := 0) rfl) ?_)
        exact ⟨⟨d18_7r0, rfl, d18_7h0⟩, own_none (Ext.refl w')⟩
      · skip
        refine ⟨fun _ _ _ _ _ _ h _ => h, fun _ _ h _ => h, fun σ' w' hA hE hD hP => ?_⟩
        obtain ⟨d18_1r0, t21, d18_1h0⟩ : ∃ d18_1r0 : Nat, σ' 21 = (.float .f32 d18_1r0) ∧ cn .f32 d18_1r0 = m21 := hD 2 rfl
        obtain ⟨d18_4r0, t24, d18_4h0⟩ : ∃ d18_4r0 : Nat, σ' 24 = (.float .f32 d18_4r0) ∧ cn .f32 d18_4r0 = m22 := hD 5 rfl
        obtain ⟨d18_7r0, t27, d18_7h0⟩ : ∃ d18_7r0 : Nat, σ' 27 = (.float .f32 d18_7r0) ∧ cn .f32 d18_7r0 = m23 := hD 8 rfl
        refine dg_op rfl (d_bd (vs := [(0, .float .f32 d18_1r0), (1, .float .f32 d18_4r0), (2, .float .f32 d18_7r0)]) (cs := #[.float .f32 d18_1r0, .float .f32 d18_4r0, .float .f32 d18_7r0]) (pc t21 (pc t24 (pc t27 rfl))) (by kernel_rfl) ?_)
        exact ⟨⟨d18_1r0, d18_4r0, d18_7r0, rfl, d18_1h0, d18_4h0, d18_7h0⟩, own_none (Ext.refl w')⟩
      · skip
        intro σ18 w18 A18 E18 V18
        have E18x : Ext w9 w18 := ext_of_oth0 E18
        obtain ⟨z18_28_1r0, z18_28_4r0, z18_28_7r0, s28_18, z18_28_1h0, z18_28_4h0, z18_28_7h0⟩ : ∃ z18_28_1r0 : Nat, ∃ z18_28_4r0 : Nat, ∃ z18_28_7r0 : Nat, σ18 28 = (.agg #[.float .f32 z18_28_1r0, .float .f32 z18_28_4r0, .float .f32 z18_28_7r0]) ∧ cn .f32 z18_28_1r0 = m21 ∧ cn .f32 z18_28_4r0 = m22 ∧ cn .f32 z18_28_7r0 = m23 := V18 9 (Nat.le_of_ble_eq_true rfl)
        have s2_18 : σ18 2 = .pointer (some ⟨w.heap.size, 0, none⟩) := (A18 2 rfl).trans s2_9
        have X36 : Ext w w18 := X12.trans E18x
        have B37 : w18.heap[w.heap.size]? = some (.cells #[.float .f32 0, .float .f32 0, .float .f32 0] 57 (0, 0)) := E18x.heap B19
        refine da_op rfl (d_store (vs := #[.float .f32 z18_28_1r0, .float .f32 z18_28_4r0, .float .f32 z18_28_7r0]) s2_18 (congrArg Value.cells s28_18) B37 size57 (Nat.le_of_ble_eq_true rfl) rfl fun w38 S38 => ?_)
        have X39 : Ext w w38 := Ext.step X36 S38.frmb (fun k _ hk => hk ▸ own2)
        have B40 : w38.heap[w.heap.size]? = some (.cells #[.float .f32 z18_28_1r0, .float .f32 z18_28_4r0, .float .f32 z18_28_7r0] 57 (0, 0)) := S38.here
        refine da_op rfl (d_as (v := .bool true) rfl ?_)
        refine da_nil ?_
        refine W_ret ?_
        obtain rfl := Option.some.inj hr
        refine ⟨_, res2 (rv_cells (vs := #[.float .f32 z18_28_1r0, .float .f32 z18_28_4r0, .float .f32 z18_28_7r0]) s2_18 agg57 size57 B40 rfl) (rv_tmp rfl), ?_⟩
        exact ⟨z18_28_1r0, z18_28_4r0, z18_28_7r0, rfl, z18_28_1h0, z18_28_4h0, z18_28_7h0, X39⟩
set_option maxHeartbeats 4000000 in
theorem c26 (p0 : List UInt8) (r : List SVector × Bool) (w : World) (hr : M.spec_l08ReadVectors p0 = some r)  :
    Calls Tryz.prog 26 #[.string (bs p0)] w fun e w' => ∃ q0a : Option Addr, ∃ q0n : Nat, ∃ q0c : Nat, e = .returned (.tuple #[(Value.slice q0a q0n q0c), .bool r.2]) ∧ OS w' 57 encSVector (Value.slice q0a q0n q0c) r.1 ∧ (∀ k, (Value.slice q0a q0n q0c).ownBlock = some k → w.heap.size ≤ k) ∧ Ext w w' := by
  refine calls_of_W Tryz.func26 rfl (Nat.le_of_ble_eq_true rfl) ?_
  refine W_seq ?_
  refine W_region rfl ?_
  refine da_op rfl (d_as (v := .slice none 0 0) rfl ?_)
  refine da_op rfl (d_as (v := .bool false) rfl ?_)
  refine da_nil ?_
  refine W_seq ?_
  refine W_region rfl ?_
  refine da_op rfl (d_bslice0 un22 size57 fun w1 B1 E1 => ?_)
  have fr1 : ∀ k, (Value.slice (some ⟨w.heap.size, 0, none⟩) 0 0).ownBlock = some k → w.heap.size ≤ k := fun k hk => by cases hk; exact Nat.le_refl _
  have own1 : ∀ k, (Value.slice (some ⟨w.heap.size, 0, none⟩) 0 0).ownBlock = some k → w.heap.size ≤ k := fun k hk => Nat.le_trans (Ext.refl w).size (fr1 k hk)
  have X2 : Ext w w1 := (Ext.refl w).trans E1
  have O1 : OS w1 57 encSVector (Value.slice (some ⟨w.heap.size, 0, none⟩) 0 0) ([] : List SVector) := OS.box (xs := ([] : List SVector)) B1 rfl (Nat.le_of_ble_eq_true rfl)
  refine da_op rfl (d_as (v := (Value.slice (some ⟨w.heap.size, 0, none⟩) 0 0)) rfl ?_)
  refine da_nil ?_
  refine W_seq ?_
  refine W_seq ?_
  refine W_region rfl ?_
  refine da_op rfl (d_mv (v := .string (bs p0)) rfl ?_)
  refine da_op rfl (d_seq rfl rfl ?_)
  refine da_nil ?_
  refine W_cond (b := (p0 == ([110, 111, 110, 101] : List UInt8))) rfl (fun hc3 => ?_) (fun hc3 => ?_)
  · skip
    replace hr := bif_t hr hc3
    refine W_seq ?_
    refine W_region rfl ?_
    refine da_op rfl (d_mv (v := (Value.slice (some ⟨w.heap.size, 0, none⟩) 0 0)) rfl ?_)
    refine da_op rfl (d_as (v := (Value.slice (some ⟨w.heap.size, 0, none⟩) 0 0)) rfl ?_)
    refine da_op rfl (d_as (v := .bool true) rfl ?_)
    refine da_nil ?_
    refine W_ret ?_
    obtain rfl := Option.some.inj hr
    refine ⟨_, res2 (rv_tmp rfl) (rv_tmp rfl), ?_⟩
    exact ⟨(some ⟨w.heap.size, 0, none⟩), 0, 0, rfl, O1, own1, X2⟩
  · skip
    replace hr := bif_f hr hc3
    refine W_skip ?_
    refine W_seq ?_
    refine W_region rfl ?_
    refine da_op rfl (d_mv (v := .string (bs p0)) rfl ?_)
    obtain ⟨m4, hm4, hr⟩ := bind_out hr
    refine da_op rfl (d_cl (vs := [.string (bs p0), .int .u8 47]) en25 (ac rfl (ac rfl rfl)) rfl ?_)
    refine (c25 p0 47 m4 w1 hm4 ).mono ?_
    rintro _ w5 ⟨q5_0a, q5_0n, q5_0c, rfl, q5_0R, q5_0F, E5⟩
    refine ⟨_, rfl, ?_⟩
    have own6 : ∀ k, (Value.slice q5_0a q5_0n q5_0c).ownBlock = some k → w.heap.size ≤ k := fun k hk => Nat.le_trans X2.size (q5_0F k hk)
    have sp7 : ∀ k, (Value.slice (some ⟨w.heap.size, 0, none⟩) 0 0).ownBlock = some k → ¬ (Value.slice q5_0a q5_0n q5_0c).ownBlock = some k := apart_fresh O1 q5_0F
    have X8 : Ext w w5 := X2.trans E5
    refine da_op rfl (d_as (v := (Value.slice q5_0a q5_0n q5_0c)) rfl ?_)
    refine da_nil ?_
    refine W_seq ?_
    refine W_seq ?_
    refine W_region rfl ?_
    refine da_op rfl (d_as (v := .int .i64 0) rfl ?_)
    refine da_nil ?_
    refine W_block ?_
    have B10 : OS w5 57 encSVector (Value.slice (some ⟨w.heap.size, 0, none⟩) 0 0) ([] : List SVector) := O1.ext E5
    obtain ⟨m9, hm9, hr⟩ := bind_out hr
    refine W_loopM hm9 (fun (s9 : List SVector × Int) σ w' => ∃ i9_0a : Option Addr, ∃ i9_0n : Nat, ∃ i9_0c : Nat, σ 4 = (Value.slice i9_0a i9_0n i9_0c) ∧ σ 6 = .int .i64 s9.2 ∧ σ 5 = (Value.slice q5_0a q5_0n q5_0c) ∧ OS w' 57 encSVector (Value.slice i9_0a i9_0n i9_0c) s9.1 ∧ (∀ k, (Value.slice i9_0a i9_0n i9_0c).ownBlock = some k → w.heap.size ≤ k) ∧ OS w' 9 encS (Value.slice q5_0a q5_0n q5_0c) m4 ∧ (∀ k, (Value.slice q5_0a q5_0n q5_0c).ownBlock = some k → ¬ (Value.slice i9_0a i9_0n i9_0c).ownBlock = some k) ∧ Ext w w') (fun (e9 : ((List SVector) ⊕ (List SVector × Bool))) ex σ w' => sel e9 (fun e9 => ex = .exit 0 ∧ ∃ q9_0_0a : Option Addr, ∃ q9_0_0n : Nat, ∃ q9_0_0c : Nat, σ 4 = (Value.slice q9_0_0a q9_0_0n q9_0_0c) ∧ OS w' 57 encSVector (Value.slice q9_0_0a q9_0_0n q9_0_0c) e9 ∧ (∀ k, (Value.slice q9_0_0a q9_0_0n q9_0_0c).ownBlock = some k → w.heap.size ≤ k) ∧ Ext w w') (fun e9 => ex = .ret ∧ ∃ q9_1_0a : Option Addr, ∃ q9_1_0n : Nat, ∃ q9_1_0c : Nat, σ 2 = (Value.slice q9_1_0a q9_1_0n q9_1_0c) ∧ σ 3 = .bool e9.2 ∧ OS w' 57 encSVector (Value.slice q9_1_0a q9_1_0n q9_1_0c) e9.1 ∧ (∀ k, (Value.slice q9_1_0a q9_1_0n q9_1_0c).ownBlock = some k → w.heap.size ≤ k) ∧ Ext w w')) ⟨(some ⟨w.heap.size, 0, none⟩), 0, 0, rfl, rfl, rfl, B10, own1, q5_0R, (apart_symm sp7), X8⟩ ?_ ?_
    · skip
      rintro s9 σl9 wl9 r9l ⟨i9_0a, i9_0n, i9_0c, i9_S4, i9_S6, i9_S5, i9_0R, i9_0O, i9_K0, i9_A0, i9_X⟩ hr
      refine W_seq ?_
      refine W_seq ?_
      refine W_region rfl ?_
      refine da_op rfl (d_mv (v := .int .i64 s9.2) i9_S6 ?_)
      refine da_op rfl (d_mv (v := (Value.slice q5_0a q5_0n q5_0c)) i9_S5 ?_)
      refine da_op rfl (d_len (e := encS) un32 rfl i9_K0.rs ?_)
      refine da_op rfl (d_icmp cLss rfl rfl ?_)
      refine da_nil ?_
      refine W_cond (b := (icmp .lss s9.2 ((m4).length : Int))) rfl (fun hc11 => ?_) (fun hc11 => ?_)
      · skip
        replace hr := bif_t hr hc11
        refine W_skip ?_
        refine W_seq ?_
        refine W_block ?_
        refine W_seq ?_
        refine W_region rfl ?_
        refine da_op rfl (d_mv (v := (Value.slice q5_0a q5_0n q5_0c)) i9_S5 ?_)
        refine da_op rfl (d_mv (v := .int .i64 s9.2) i9_S6 ?_)
        obtain ⟨m12, hm12, hr⟩ := bind_out hr
        refine da_op rfl (d_indexO (e := encS) (v := (Value.slice q5_0a q5_0n q5_0c)) un32 size9 rfl rfl i9_K0 hm12 fun g13 fr13 cu13 vs13 hv13 hg13 hp13 hq13 => ?_)
        obtain rfl := dec_encS hq13
        have sp14 : ¬ (Value.slice i9_0a i9_0n i9_0c).ownBlock = some g13 := fun e => (apart_symm i9_A0) _ e (by rw [hv13]; rfl)
        refine da_op rfl (d_load (v := .string (bs m12)) rfl agg9 hg13 (sub_get (vs := #[.string (bs m12)]) hp13 (i := 0) rfl) ?_)
        obtain ⟨m15, hm15, hr⟩ := bind_out hr
        refine da_op rfl (d_cl (vs := [.string (bs m12)]) en41 (ac rfl rfl) rfl ?_)
        refine (c41 m12 m15 wl9 hm15 ).mono ?_
        rintro _ w16 ⟨q16_0r0, q16_0r1, q16_0r2, rfl, q16_0h0, q16_0h1, q16_0h2, E16⟩
        refine ⟨_, rfl, ?_⟩
        have X17 : Ext w w16 := i9_X.trans E16
        refine da_op rfl (d_mv (v := .tuple #[.agg #[.float .f32 q16_0r0, .float .f32 q16_0r1, .float .f32 q16_0r2], .bool m15.2]) rfl ?_)
        refine da_op rfl (d_extract (v := .agg #[.float .f32 q16_0r0, .float .f32 q16_0r1, .float .f32 q16_0r2]) rfl rfl ?_)
        refine da_op rfl (d_extract (v := .bool m15.2) rfl rfl ?_)
        have B19 : OS w16 9 encS (Value.slice q5_0a q5_0n q5_0c) m4 := i9_K0.ext E16
        have B20 : OS w16 57 encSVector (Value.slice i9_0a i9_0n i9_0c) s9.1 := i9_0R.ext E16
        have B21 : w16.heap[g13]? = some (.cells cu13 9 (0, 0)) := E16.heap hg13
        refine da_op rfl (d_alloc (cs := #[.float .f32 0, .float .f32 0, .float .f32 0]) zero57 rfl fun w18 B18 E18 => ?_)
        have own22 : w.heap.size ≤ w16.heap.size := Nat.le_trans X17.size (Nat.le_refl _)
        have sp23 : ¬ (Value.slice q5_0a q5_0n q5_0c).ownBlock = some w16.heap.size := OS.ne_new B19 (Nat.le_refl _)
        have sp24 : ¬ (Value.slice i9_0a i9_0n i9_0c).ownBlock = some w16.heap.size := OS.ne_new B20 (Nat.le_refl _)
        have sp25 : g13 ≠ w16.heap.size := Nat.ne_of_lt (Nat.lt_of_lt_of_le (lt_heap B21) (Nat.le_refl _))
        have X26 : Ext w w18 := X17.trans E18
        refine da_op rfl (d_store (vs := #[.float .f32 q16_0r0, .float .f32 q16_0r1, .float .f32 q16_0r2]) rfl rfl B18 size57 (Nat.le_of_ble_eq_true rfl) rfl fun w27 S27 => ?_)
        have X28 : Ext w w27 := Ext.step X26 S27.frmb (fun k _ hk => hk ▸ own22)
        have B29 : w27.heap[w16.heap.size]? = some (.cells #[.float .f32 q16_0r0, .float .f32 q16_0r1, .float .f32 q16_0r2] 57 (0, 0)) := S27.here
        refine da_op rfl (d_as (v := .bool m15.2) rfl ?_)
        refine da_nil ?_
        refine W_seq ?_
        refine W_seq ?_
        refine W_region rfl ?_
        refine da_op rfl (d_mv (v := .bool m15.2) rfl ?_)
        refine da_op rfl (d_not rfl ?_)
        refine da_nil ?_
        refine W_cond (b := (!m15.2)) rfl (fun hc30 => ?_) (fun hc30 => ?_)
        · skip
          replace hr := bif_t hr hc30
          refine W_seq ?_
          refine W_region rfl ?_
          refine da_op rfl (d_as (v := .slice none 0 0) rfl ?_)
          refine da_op rfl (d_as (v := .bool false) rfl ?_)
          refine da_nil ?_
          refine W_ret ?_
          obtain rfl := Option.some.inj hr
          exact ⟨_, rfl, rfl, none, 0, 0, rfl, rfl, (OS.nil _ 57 encSVector), (fun k hk => by cases hk), X28⟩
        · skip
          replace hr := bif_f hr hc30
          refine W_skip ?_
          refine W_region rfl ?_
          refine da_op rfl (d_mv (v := (Value.slice i9_0a i9_0n i9_0c)) i9_S4 ?_)
          refine da_op rfl (d_loads (vs := #[.float .f32 q16_0r0, .float .f32 q16_0r1, .float .f32 q16_0r2]) rfl agg57 size57 B29 rfl ?_)
          have B32 : OS w27 9 encS (Value.slice q5_0a q5_0n q5_0c) m4 := (B19.ext E18).frm S27.frmb (rb sp23)
          have B33 : OS w27 57 encSVector (Value.slice i9_0a i9_0n i9_0c) s9.1 := (B20.ext E18).frm S27.frmb (rb sp24)
          refine da_op rfl (d_bslice (vs := [(0, .agg #[.float .f32 q16_0r0, .float .f32 q16_0r1, .float .f32 q16_0r2])]) (cs := #[.float .f32 q16_0r0, .float .f32 q16_0r1, .float .f32 q16_0r2]) un22 (pc rfl rfl) (by kernel_rfl) fun w31 B31 E31 => ?_)
          have fr31 : ∀ k, (Value.slice (some ⟨w27.heap.size, 0, none⟩) 1 1).ownBlock = some k → w27.heap.size ≤ k := fun k hk => by cases hk; exact Nat.le_refl _
          have own31 : ∀ k, (Value.slice (some ⟨w27.heap.size, 0, none⟩) 1 1).ownBlock = some k → w.heap.size ≤ k := fun k hk => Nat.le_trans X28.size (fr31 k hk)
          have sp34 : ∀ k, (Value.slice q5_0a q5_0n q5_0c).ownBlock = some k → ¬ (Value.slice (some ⟨w27.heap.size, 0, none⟩) 1 1).ownBlock = some k := apart_fresh B32 fr31
          have sp35 : ∀ k, (Value.slice i9_0a i9_0n i9_0c).ownBlock = some k → ¬ (Value.slice (some ⟨w27.heap.size, 0, none⟩) 1 1).ownBlock = some k := apart_fresh B33 fr31
          have sp36 : ¬ (Value.slice (some ⟨w27.heap.size, 0, none⟩) 1 1).ownBlock = some w16.heap.size := ne_fresh fr31 (lt_heap B29)
          have X37 : Ext w w31 := X28.trans E31
          have O31 : OS w31 57 encSVector (Value.slice (some ⟨w27.heap.size, 0, none⟩) 1 1) [m15.1] := OS.box (xs := [m15.1]) B31 (lc_f q16_0h0 (lc_f q16_0h1 (lc_f q16_0h2 rfl))) (Nat.le_of_ble_eq_true rfl)
          obtain ⟨m38, hm38, hr⟩ := bind_out hr
          have B39 : OS w31 57 encSVector (Value.slice i9_0a i9_0n i9_0c) s9.1 := B33.ext E31
          have B40 : OS w31 9 encS (Value.slice q5_0a q5_0n q5_0c) m4 := B32.ext E31
          have B41 : w31.heap[w16.heap.size]? = some (.cells #[.float .f32 q16_0r0, .float .f32 q16_0r1, .float .f32 q16_0r2] 57 (0, 0)) := E31.heap B29
          refine da_op rfl (d_append (e := encSVector) (v := (Value.slice i9_0a i9_0n i9_0c)) (y := (Value.slice (some ⟨w27.heap.size, 0, none⟩) 1 1)) un22 info57 rfl (by kernel_rfl) (by kernel_rfl) (by decide) (by decide) rfl rfl B39 O31.rs hm38 fun v42 w42 O42 Fm42 at_42 nl42 => ?_)
          obtain ⟨v42pa, v42pn, v42pc, rfl⟩ := O42.vals
          have own42 : ∀ k, (Value.slice v42pa v42pn v42pc).ownBlock = some k → w.heap.size ≤ k := app_own (w := w31) at_42 i9_0O X37.size
          have sp43 : ∀ k, (Value.slice q5_0a q5_0n q5_0c).ownBlock = some k → ¬ (Value.slice v42pa v42pn v42pc).ownBlock = some k := app_nr at_42 i9_A0 B40
          have sp44 : ¬ (Value.slice v42pa v42pn v42pc).ownBlock = some w16.heap.size := app_nb at_42 sp24 (lt_heap B41)
          have sp45 : ∀ k, (Value.slice (some ⟨w27.heap.size, 0, none⟩) 1 1).ownBlock = some k → ¬ (Value.slice v42pa v42pn v42pc).ownBlock = some k := app_nr at_42 (apart_symm sp35) O31
          have X46 : Ext w w42 := Ext.step X37 Fm42 (fun k _ hk => i9_0O k hk)
          refine da_op rfl (d_as (v := (Value.slice v42pa v42pn v42pc)) rfl ?_)
          refine da_nil ?_
          refine W_region rfl ?_
          refine da_op rfl (d_mv (v := .int .i64 s9.2) i9_S6 ?_)
          refine da_op rfl (d_iarith rfl rfl (.inl ⟨rfl, rfl⟩) ?_)
          refine da_op rfl (d_as (v := .int .i64 (IntKind.i64.wrap (s9.2 + 1))) rfl ?_)
          refine da_nil ?_
          have B47 : OS w42 9 encS (Value.slice q5_0a q5_0n q5_0c) m4 := B40.frm Fm42 i9_A0
          obtain rfl := Option.some.inj hr
          exact ⟨_, rfl, ⟨v42pa, v42pn, v42pc, rfl, rfl, i9_S5, O42, own42, B47, sp43, X46⟩⟩
      · skip
        replace hr := bif_f hr hc11
        refine W_exit ?_
        obtain rfl := Option.some.inj hr
        exact ⟨_, rfl, rfl, i9_0a, i9_0n, i9_0c, i9_S4, i9_0R, i9_0O, i9_X⟩
    · skip
      intro ex σx9 wx9 hq
      rcases m9 with m9 | m9
      · skip
        obtain ⟨rfl, q9_0_0a, q9_0_0n, q9_0_0c, q9_0_S4, q9_0_0R, q9_0_0O, q9_0_X⟩ := hq
        refine W_seq ?_
        refine W_region rfl ?_
        refine da_op rfl (d_mv (v := (Value.slice q9_0_0a q9_0_0n q9_0_0c)) q9_0_S4 ?_)
        refine da_op rfl (d_as (v := (Value.slice q9_0_0a q9_0_0n q9_0_0c)) rfl ?_)
        refine da_op rfl (d_as (v := .bool true) rfl ?_)
        refine da_nil ?_
        refine W_ret ?_
        obtain rfl := Option.some.inj hr
        refine ⟨_, res2 (rv_tmp rfl) (rv_tmp rfl), ?_⟩
        exact ⟨q9_0_0a, q9_0_0n, q9_0_0c, rfl, q9_0_0R, q9_0_0O, q9_0_X⟩
      · skip
        obtain ⟨rfl, q9_1_0a, q9_1_0n, q9_1_0c, q9_1_S2, q9_1_S3, q9_1_0R, q9_1_0O, q9_1_X⟩ := hq
        obtain rfl := Option.some.inj hr
        refine ⟨_, res2 (rv_tmp q9_1_S2) (rv_tmp q9_1_S3), ?_⟩
        exact ⟨q9_1_0a, q9_1_0n, q9_1_0c, rfl, q9_1_0R, q9_1_0O, q9_1_X⟩
set_option maxHeartbeats 4000000 in
theorem c66 (p0 : Int) (p1 : Int) (p2 : Int) (r : Bool) (w : World) (hr : M.spec_l00In p0 p1 p2 = r)  :
    Calls Tryz.prog 66 #[.int .i64 p0, .int .i64 p1, .int .i64 p2] w fun e w' => e = .returned (.bool r) ∧ Ext w w' := by
  refine calls_of_W Tryz.func66 rfl (Nat.le_of_ble_eq_true rfl) ?_
  refine W_seq ?_
  refine W_region rfl ?_
  refine da_op rfl (d_as (v := .bool false) rfl ?_)
  refine da_nil ?_
  refine W_seq ?_
  obtain ⟨m1, hm1, hr⟩ := letv_out hr
  refine W_cut (fun σ' w' => σ' 6 = .bool m1 ∧ Ext w w') rfl ?_ ?_
  · skip
    have hr := hm1
    refine da_op rfl (d_mv (v := .int .i64 p0) rfl ?_)
    refine da_op rfl (d_mv (v := .int .i64 p1) rfl ?_)
    refine da_op rfl (d_icmp cGeq rfl rfl ?_)
    refine da_op rfl (d_mv (v := .bool (icmp .geq p0 p1)) rfl ?_)
    rcases Bool.eq_false_or_eq_true (icmp .geq p0 p1) with hc2 | hc2
    · skip
      replace hr := bif_t hr hc2
      refine da_on rfl (Eq.trans (show sl _ _ _ = .bool (icmp .geq p0 p1) from rfl) (congrArg Value.bool hc2)) (d_mv (v := .int .i64 p0) rfl ?_)
      refine da_on rfl (Eq.trans (show sl _ _ _ = .bool (icmp .geq p0 p1) from rfl) (congrArg Value.bool hc2)) (d_mv (v := .int .i64 p2) rfl ?_)
      refine da_on rfl (Eq.trans (show sl _ _ _ = .bool (icmp .geq p0 p1) from rfl) (congrArg Value.bool hc2)) (d_icmp cLeq rfl rfl ?_)
      refine da_op rfl (d_pick (b := true) (Eq.trans (show ev _ _ = .bool (icmp .geq p0 p1) from rfl) (congrArg Value.bool hc2)) ?_)
      refine da_op rfl (d_as (v := .bool (icmp .leq p0 p2)) rfl ?_)
      refine da_nil ?_
      subst hr
      exact ⟨rfl, (Ext.refl w)⟩
    · skip
      replace hr := bif_f hr hc2
      refine da_off rfl (Eq.trans (show sl _ _ _ = .bool (icmp .geq p0 p1) from rfl) (congrArg Value.bool hc2)) (by decide) ?_
      refine da_off rfl (Eq.trans (show sl _ _ _ = .bool (icmp .geq p0 p1) from rfl) (congrArg Value.bool hc2)) (by decide) ?_
      refine da_off rfl (Eq.trans (show sl _ _ _ = .bool (icmp .geq p0 p1) from rfl) (congrArg Value.bool hc2)) (by decide) ?_
      refine da_op rfl (d_pick (b := false) (Eq.trans (show ev _ _ = .bool (icmp .geq p0 p1) from rfl) (congrArg Value.bool hc2)) ?_)
      refine da_op rfl (d_as (v := .bool false) rfl ?_)
      refine da_nil ?_
      subst hr
      exact ⟨rfl, (Ext.refl w)⟩
  · skip
    rintro σ1 w1 o1 ⟨s6_1, E1⟩
    have X3 : Ext w w1 := (Ext.refl w).trans E1
    refine W_ret ?_
    subst hr
    refine ⟨_, res1 (rv_tmp s6_1), ?_⟩
    exact ⟨rfl, X3⟩
set_option maxHeartbeats 4000000 in
theorem c81 (p0 : Int) (r : List UInt8) (w : World) (hr : M.spec_l01Dec p0 = some r)  :
    Calls Tryz.prog 81 #[.int .i64 p0] w fun e w' => e = .returned (.string (bs r)) ∧ Ext w w' := by
  refine calls_of_W Tryz.func81 rfl (Nat.le_of_ble_eq_true rfl) ?_
  refine W_seq ?_
  refine W_region rfl ?_
  refine da_op rfl (d_as (v := .string (bs ([] : List UInt8))) rfl ?_)
  refine da_nil ?_
  refine W_seq ?_
  refine W_region rfl ?_
  refine da_op rfl (d_bslice0 un110 size5 fun w1 B1 E1 => ?_)
  have fr1 : ∀ k, (Value.slice (some ⟨w.heap.size, 0, none⟩) 0 0).ownBlock = some k → w.heap.size ≤ k := fun k hk => by cases hk; exact Nat.le_refl _
  have own1 : ∀ k, (Value.slice (some ⟨w.heap.size, 0, none⟩) 0 0).ownBlock = some k → w.heap.size ≤ k := fun k hk => Nat.le_trans (Ext.refl w).size (fr1 k hk)
  have X2 : Ext w w1 := (Ext.refl w).trans E1
  have O1 : OS w1 5 encI_u8 (Value.slice (some ⟨w.heap.size, 0, none⟩) 0 0) ([] : List Int) := OS.box (xs := ([] : List Int)) B1 rfl (Nat.le_of_ble_eq_true rfl)
  refine da_op rfl (d_as (v := (Value.slice (some ⟨w.heap.size, 0, none⟩) 0 0)) rfl ?_)
  refine da_nil ?_
  refine W_seq ?_
  refine W_region rfl ?_
  refine da_op rfl (d_mv (v := .int .i64 p0) rfl ?_)
  refine da_op rfl (d_as (v := .int .i64 p0) rfl ?_)
  refine da_nil ?_
  refine W_seq ?_
  refine W_block ?_
  obtain ⟨m3, hm3, hr⟩ := bind_out hr
  refine W_loopM hm3 (fun (s3 : List Int × Int) σ w' => ∃ i3_0a : Option Addr, ∃ i3_0n : Nat, ∃ i3_0c : Nat, σ 3 = (Value.slice i3_0a i3_0n i3_0c) ∧ σ 4 = .int .i64 s3.2 ∧ σ 0 = .int .i64 p0 ∧ OS w' 5 encI_u8 (Value.slice i3_0a i3_0n i3_0c) s3.1 ∧ (∀ k, (Value.slice i3_0a i3_0n i3_0c).ownBlock = some k → w.heap.size ≤ k) ∧ Ext w w') (fun (e3 : (List Int)) ex σ w' => ex = .exit 0 ∧ ∃ q3_0_0a : Option Addr, ∃ q3_0_0n : Nat, ∃ q3_0_0c : Nat, σ 3 = (Value.slice q3_0_0a q3_0_0n q3_0_0c) ∧ σ 0 = .int .i64 p0 ∧ OS w' 5 encI_u8 (Value.slice q3_0_0a q3_0_0n q3_0_0c) e3 ∧ (∀ k, (Value.slice q3_0_0a q3_0_0n q3_0_0c).ownBlock = some k → w.heap.size ≤ k) ∧ Ext w w') ⟨(some ⟨w.heap.size, 0, none⟩), 0, 0, rfl, rfl, rfl, O1, own1, X2⟩ ?_ ?_
  · skip
    rintro s3 σl3 wl3 r3l ⟨i3_0a, i3_0n, i3_0c, i3_S3, i3_S4, i3_S0, i3_0R, i3_0O, i3_X⟩ hr
    refine W_seq ?_
    refine W_seq ?_
    obtain ⟨m4, hm4, hr⟩ := letv_out hr
    refine W_cut (fun σ' w' => σ' 14 = .bool m4 ∧ Ext wl3 w') rfl ?_ ?_
    · skip
      have hr := hm4
      refine da_op rfl (d_mv (v := (Value.slice i3_0a i3_0n i3_0c)) i3_S3 ?_)
      refine da_op rfl (d_len (e := encI_u8) un110 rfl i3_0R.rs ?_)
      refine da_op rfl (d_icmp cEql rfl rfl ?_)
      refine da_op rfl (d_mv (v := .bool (icmp .eql ((s3.1).length : Int) 0)) rfl ?_)
      rcases Bool.eq_false_or_eq_true (icmp .eql ((s3.1).length : Int) 0) with hc5 | hc5
      · skip
        replace hr := bif_t hr hc5
        refine da_off rfl (Eq.trans (show sl _ _ _ = .bool (icmp .eql ((s3.1).length : Int) 0) from rfl) (congrArg Value.bool hc5)) (by decide) ?_
        refine da_off rfl (Eq.trans (show sl _ _ _ = .bool (icmp .eql ((s3.1).length : Int) 0) from rfl) (congrArg Value.bool hc5)) (by decide) ?_
        refine da_op rfl (d_pick (b := true) (Eq.trans (show ev _ _ = .bool (icmp .eql ((s3.1).length : Int) 0) from rfl) (congrArg Value.bool hc5)) ?_)
        refine da_nil ?_
        subst hr
        exact ⟨rfl, (Ext.refl wl3)⟩
      · skip
        replace hr := bif_f hr hc5
        refine da_on rfl (Eq.trans (show sl _ _ _ = .bool (icmp .eql ((s3.1).length : Int) 0) from rfl) (congrArg Value.bool hc5)) (d_mv (v := .int .i64 s3.2) i3_S4 ?_)
        refine da_on rfl (Eq.trans (show sl _ _ _ = .bool (icmp .eql ((s3.1).length : Int) 0) from rfl) (congrArg Value.bool hc5)) (d_icmp cNeq rfl rfl ?_)
        refine da_op rfl (d_pick (b := false) (Eq.trans (show ev _ _ = .bool (icmp .eql ((s3.1).length : Int) 0) from rfl) (congrArg Value.bool hc5)) ?_)
        refine da_nil ?_
        subst hr
        exact ⟨rfl, (Ext.refl wl3)⟩
    · skip
      rintro σ4 w4 o4 ⟨s14_4, E4⟩
      have s3_4 : σ4 3 = (Value.slice i3_0a i3_0n i3_0c) := (o4 3 rfl).trans i3_S3
      have s4_4 : σ4 4 = .int .i64 s3.2 := (o4 4 rfl).trans i3_S4
      have s0_4 : σ4 0 = .int .i64 p0 := (o4 0 rfl).trans i3_S0
      have X6 : Ext w w4 := i3_X.trans E4
      refine W_cond (b := m4) s14_4 (fun hc7 => ?_) (fun hc7 => ?_)
      · skip
        replace hr := bif_t hr hc7
        refine W_skip ?_
        refine W_block ?_
        refine W_seq ?_
        refine W_region rfl ?_
        refine da_op rfl (d_mv (v := .int .i64 s3.2) s4_4 ?_)
        refine da_op rfl (d_remL rfl rfl (by decide) ?_)
        refine da_op rfl (d_as (v := .int .i64 ((s3.2).tmod 10)) rfl ?_)
        refine da_nil ?_
        refine W_seq ?_
        refine W_seq ?_
        refine W_region rfl ?_
        refine da_op rfl (d_mv (v := .int .i64 ((s3.2).tmod 10)) rfl ?_)
        refine da_op rfl (d_icmp cLss rfl rfl ?_)
        refine da_nil ?_
        refine W_cond (b := (icmp .lss ((s3.2).tmod 10) 0)) rfl (fun hc8 => ?_) (fun hc8 => ?_)
        · skip
          replace hr := bif_t hr hc8
          refine W_region rfl ?_
          refine da_op rfl (d_mv (v := .int .i64 ((s3.2).tmod 10)) rfl ?_)
          refine da_op rfl (d_ineg rfl ?_)
          refine da_op rfl (d_as (v := .int .i64 (IntKind.i64.wrap (0 - ((s3.2).tmod 10)))) rfl ?_)
          refine da_nil ?_
          refine W_seq ?_
          refine W_region rfl ?_
          refine da_op rfl (d_mv (v := .int .i64 (IntKind.i64.wrap (0 - ((s3.2).tmod 10)))) rfl ?_)
          refine da_op rfl (d_iarith rfl rfl (.inl ⟨rfl, rfl⟩) ?_)
          refine da_op rfl (d_iconv un2 un5 rfl ?_)
          have B10 : OS w4 5 encI_u8 (Value.slice i3_0a i3_0n i3_0c) s3.1 := i3_0R.ext E4
          refine da_op rfl (d_bslice (vs := [(0, .int .u8 (IntKind.u8.wrap (IntKind.i64.wrap (48 + (IntKind.i64.wrap (0 - ((s3.2).tmod 10)))))))]) (cs := #[.int .u8 (IntKind.u8.wrap (IntKind.i64.wrap (48 + (IntKind.i64.wrap (0 - ((s3.2).tmod 10))))))]) un110 (pc rfl rfl) (by kernel_rfl) fun w9 B9 E9 => ?_)
          have fr9 : ∀ k, (Value.slice (some ⟨w4.heap.size, 0, none⟩) 1 1).ownBlock = some k → w4.heap.size ≤ k := fun k hk => by cases hk; exact Nat.le_refl _
          have own9 : ∀ k, (Value.slice (some ⟨w4.heap.size, 0, none⟩) 1 1).ownBlock = some k → w.heap.size ≤ k := fun k hk => Nat.le_trans X6.size (fr9 k hk)
          have sp11 : ∀ k, (Value.slice i3_0a i3_0n i3_0c).ownBlock = some k → ¬ (Value.slice (some ⟨w4.heap.size, 0, none⟩) 1 1).ownBlock = some k := apart_fresh B10 fr9
          have X12 : Ext w w9 := X6.trans E9
          have O9 : OS w9 5 encI_u8 (Value.slice (some ⟨w4.heap.size, 0, none⟩) 1 1) [(IntKind.u8.wrap (IntKind.i64.wrap (48 + (IntKind.i64.wrap (0 - ((s3.2).tmod 10))))))] := OS.box (xs := [(IntKind.u8.wrap (IntKind.i64.wrap (48 + (IntKind.i64.wrap (0 - ((s3.2).tmod 10))))))]) B9 (lc_v rfl rfl) (Nat.le_of_ble_eq_true rfl)
          refine da_op rfl (d_mv (v := (Value.slice i3_0a i3_0n i3_0c)) s3_4 ?_)
          obtain ⟨m13, hm13, hr⟩ := bind_out hr
          have B14 : OS w9 5 encI_u8 (Value.slice i3_0a i3_0n i3_0c) s3.1 := B10.ext E9
          refine da_op rfl (d_append (e := encI_u8) (v := (Value.slice (some ⟨w4.heap.size, 0, none⟩) 1 1)) (y := (Value.slice i3_0a i3_0n i3_0c)) un110 info5 rfl (by kernel_rfl) (by kernel_rfl) (by decide) (by decide) rfl rfl O9 B14.rs hm13 fun v15 w15 O15 Fm15 at_15 nl15 => ?_)
          obtain ⟨v15pa, v15pn, v15pc, rfl⟩ := O15.vals
          have own15 : ∀ k, (Value.slice v15pa v15pn v15pc).ownBlock = some k → w.heap.size ≤ k := app_own (w := w9) at_15 own9 X12.size
          have sp16 : ∀ k, (Value.slice i3_0a i3_0n i3_0c).ownBlock = some k → ¬ (Value.slice v15pa v15pn v15pc).ownBlock = some k := app_nr at_15 sp11 B14
          have X17 : Ext w w15 := Ext.step X12 Fm15 (fun k _ hk => own9 k hk)
          refine da_op rfl (d_as (v := (Value.slice v15pa v15pn v15pc)) rfl ?_)
          refine da_nil ?_
          refine W_region rfl ?_
          refine da_op rfl (d_mv (v := .int .i64 s3.2) s4_4 ?_)
          refine da_op rfl (d_quoL rfl rfl (by decide) ?_)
          refine da_op rfl (d_as (v := .int .i64 (IntKind.i64.wrap ((s3.2).tdiv 10))) rfl ?_)
          refine da_nil ?_
          obtain rfl := Option.some.inj hr
          exact ⟨_, rfl, ⟨v15pa, v15pn, v15pc, rfl, rfl, s0_4, O15, own15, X17⟩⟩
        · skip
          replace hr := bif_f hr hc8
          refine W_skip ?_
          refine W_seq ?_
          refine W_region rfl ?_
          refine da_op rfl (d_mv (v := .int .i64 ((s3.2).tmod 10)) rfl ?_)
          refine da_op rfl (d_iarith rfl rfl (.inl ⟨rfl, rfl⟩) ?_)
          refine da_op rfl (d_iconv un2 un5 rfl ?_)
          have B19 : OS w4 5 encI_u8 (Value.slice i3_0a i3_0n i3_0c) s3.1 := i3_0R.ext E4
          refine da_op rfl (d_bslice (vs := [(0, .int .u8 (IntKind.u8.wrap (IntKind.i64.wrap (48 + ((s3.2).tmod 10)))))]) (cs := #[.int .u8 (IntKind.u8.wrap (IntKind.i64.wrap (48 + ((s3.2).tmod 10))))]) un110 (pc rfl rfl) (by kernel_rfl) fun w18 B18 E18 => ?_)
          have fr18 : ∀ k, (Value.slice (some ⟨w4.heap.size, 0, none⟩) 1 1).ownBlock = some k → w4.heap.size ≤ k := fun k hk => by cases hk; exact Nat.le_refl _
          have own18 : ∀ k, (Value.slice (some ⟨w4.heap.size, 0, none⟩) 1 1).ownBlock = some k → w.heap.size ≤ k := fun k hk => Nat.le_trans X6.size (fr18 k hk)
          have sp20 : ∀ k, (Value.slice i3_0a i3_0n i3_0c).ownBlock = some k → ¬ (Value.slice (some ⟨w4.heap.size, 0, none⟩) 1 1).ownBlock = some k := apart_fresh B19 fr18
          have X21 : Ext w w18 := X6.trans E18
          have O18 : OS w18 5 encI_u8 (Value.slice (some ⟨w4.heap.size, 0, none⟩) 1 1) [(IntKind.u8.wrap (IntKind.i64.wrap (48 + ((s3.2).tmod 10))))] := OS.box (xs := [(IntKind.u8.wrap (IntKind.i64.wrap (48 + ((s3.2).tmod 10))))]) B18 (lc_v rfl rfl) (Nat.le_of_ble_eq_true rfl)
          refine da_op rfl (d_mv (v := (Value.slice i3_0a i3_0n i3_0c)) s3_4 ?_)
          obtain ⟨m22, hm22, hr⟩ := bind_out hr
          have B23 : OS w18 5 encI_u8 (Value.slice i3_0a i3_0n i3_0c) s3.1 := B19.ext E18
          refine da_op rfl (d_append (e := encI_u8) (v := (Value.slice (some ⟨w4.heap.size, 0, none⟩) 1 1)) (y := (Value.slice i3_0a i3_0n i3_0c)) un110 info5 rfl (by kernel_rfl) (by kernel_rfl) (by decide) (by decide) rfl rfl O18 B23.rs hm22 fun v24 w24 O24 Fm24 at_24 nl24 => ?_)
          obtain ⟨v24pa, v24pn, v24pc, rfl⟩ := O24.vals
          have own24 : ∀ k, (Value.slice v24pa v24pn v24pc).ownBlock = some k → w.heap.size ≤ k := app_own (w := w18) at_24 own18 X21.size
          have sp25 : ∀ k, (Value.slice i3_0a i3_0n i3_0c).ownBlock = some k → ¬ (Value.slice v24pa v24pn v24pc).ownBlock = some k := app_nr at_24 sp20 B23
          have X26 : Ext w w24 := Ext.step X21 Fm24 (fun k _ hk => own18 k hk)
          refine da_op rfl (d_as (v := (Value.slice v24pa v24pn v24pc)) rfl ?_)
          refine da_nil ?_
          refine W_region rfl ?_
          refine da_op rfl (d_mv (v := .int .i64 s3.2) s4_4 ?_)
          refine da_op rfl (d_quoL rfl rfl (by decide) ?_)
          refine da_op rfl (d_as (v := .int .i64 (IntKind.i64.wrap ((s3.2).tdiv 10))) rfl ?_)
          refine da_nil ?_
          obtain rfl := Option.some.inj hr
          exact ⟨_, rfl, ⟨v24pa, v24pn, v24pc, rfl, rfl, s0_4, O24, own24, X26⟩⟩
      · skip
        replace hr := bif_f hr hc7
        refine W_exit ?_
        have B27 : OS w4 5 encI_u8 (Value.slice i3_0a i3_0n i3_0c) s3.1 := i3_0R.ext E4
        obtain rfl := Option.some.inj hr
        exact ⟨_, rfl, rfl, i3_0a, i3_0n, i3_0c, s3_4, s0_4, B27, i3_0O, X6⟩
  · skip
    intro ex σx3 wx3 hq
    obtain ⟨rfl, q3_0_0a, q3_0_0n, q3_0_0c, q3_0_S3, q3_0_S0, q3_0_0R, q3_0_0O, q3_0_X⟩ := hq
    refine W_seq ?_
    refine W_seq ?_
    refine W_region rfl ?_
    refine da_op rfl (d_mv (v := .int .i64 p0) q3_0_S0 ?_)
    refine da_op rfl (d_icmp cLss rfl rfl ?_)
    refine da_nil ?_
    refine W_cond (b := (icmp .lss p0 0)) rfl (fun hc28 => ?_) (fun hc28 => ?_)
    · skip
      replace hr := bif_t hr hc28
      refine W_region rfl ?_
      refine da_op rfl (d_bslice (vs := [(0, .int .u8 45)]) (cs := #[.int .u8 45]) un110 (pc rfl rfl) (by kernel_rfl) fun w29 B29 E29 => ?_)
      have fr29 : ∀ k, (Value.slice (some ⟨wx3.heap.size, 0, none⟩) 1 1).ownBlock = some k → wx3.heap.size ≤ k := fun k hk => by cases hk; exact Nat.le_refl _
      have own29 : ∀ k, (Value.slice (some ⟨wx3.heap.size, 0, none⟩) 1 1).ownBlock = some k → w.heap.size ≤ k := fun k hk => Nat.le_trans q3_0_X.size (fr29 k hk)
      have sp30 : ∀ k, (Value.slice q3_0_0a q3_0_0n q3_0_0c).ownBlock = some k → ¬ (Value.slice (some ⟨wx3.heap.size, 0, none⟩) 1 1).ownBlock = some k := apart_fresh q3_0_0R fr29
      have X31 : Ext w w29 := q3_0_X.trans E29
      have O29 : OS w29 5 encI_u8 (Value.slice (some ⟨wx3.heap.size, 0, none⟩) 1 1) [45] := OS.box (xs := [45]) B29 (lc_v rfl rfl) (Nat.le_of_ble_eq_true rfl)
      refine da_op rfl (d_mv (v := (Value.slice q3_0_0a q3_0_0n q3_0_0c)) q3_0_S3 ?_)
      obtain ⟨m32, hm32, hr⟩ := bind_out hr
      have B33 : OS w29 5 encI_u8 (Value.slice q3_0_0a q3_0_0n q3_0_0c) m3 := q3_0_0R.ext E29
      refine da_op rfl (d_append (e := encI_u8) (v := (Value.slice (some ⟨wx3.heap.size, 0, none⟩) 1 1)) (y := (Value.slice q3_0_0a q3_0_0n q3_0_0c)) un110 info5 rfl (by kernel_rfl) (by kernel_rfl) (by decide) (by decide) rfl rfl O29 B33.rs hm32 fun v34 w34 O34 Fm34 at_34 nl34 => ?_)
      obtain ⟨v34pa, v34pn, v34pc, rfl⟩ := O34.vals
      have own34 : ∀ k, (Value.slice v34pa v34pn v34pc).ownBlock = some k → w.heap.size ≤ k := app_own (w := w29) at_34 own29 X31.size
      have sp35 : ∀ k, (Value.slice q3_0_0a q3_0_0n q3_0_0c).ownBlock = some k → ¬ (Value.slice v34pa v34pn v34pc).ownBlock = some k := app_nr at_34 sp30 B33
      have X36 : Ext w w34 := Ext.step X31 Fm34 (fun k _ hk => own29 k hk)
      refine da_op rfl (d_as (v := (Value.slice v34pa v34pn v34pc)) rfl ?_)
      refine da_nil ?_
      refine W_seq ?_
      refine W_region rfl ?_
      refine da_op rfl (d_mv (v := (Value.slice v34pa v34pn v34pc)) rfl ?_)
      refine da_op rfl (d_bstr (e := encI_u8) (v := (Value.slice v34pa v34pn v34pc)) rfl un110 un5 un9 rfl O34.rs ?_)
      refine da_op rfl (d_as (v := .string (bs (u8s m32))) rfl ?_)
      refine da_nil ?_
      refine W_ret ?_
      obtain rfl := Option.some.inj hr
      refine ⟨_, res1 (rv_tmp rfl), ?_⟩
      exact ⟨rfl, X36⟩
    · skip
      replace hr := bif_f hr hc28
      refine W_skip ?_
      refine W_seq ?_
      refine W_region rfl ?_
      refine da_op rfl (d_mv (v := (Value.slice q3_0_0a q3_0_0n q3_0_0c)) q3_0_S3 ?_)
      refine da_op rfl (d_bstr (e := encI_u8) (v := (Value.slice q3_0_0a q3_0_0n q3_0_0c)) rfl un110 un5 un9 rfl q3_0_0R.rs ?_)
      refine da_op rfl (d_as (v := .string (bs (u8s m3))) rfl ?_)
      refine da_nil ?_
      refine W_ret ?_
      obtain rfl := Option.some.inj hr
      refine ⟨_, res1 (rv_tmp rfl), ?_⟩
      exact ⟨rfl, q3_0_X⟩
set_option maxHeartbeats 4000000 in
theorem c63 (p0 : List UInt8) (r : Int × Bool) (w : World) (hr : M.spec_l01Value p0 = some r)  :
    Calls Tryz.prog 63 #[.string (bs p0)] w fun e w' => e = .returned (.tuple #[.int .i64 r.1, .bool r.2]) ∧ Ext w w' := by
  refine calls_of_W Tryz.func63 rfl (Nat.le_of_ble_eq_true rfl) ?_
  refine W_seq ?_
  refine W_region rfl ?_
  refine da_op rfl (d_as (v := .int .i64 0) rfl ?_)
  refine da_op rfl (d_as (v := .bool false) rfl ?_)
  refine da_nil ?_
  refine W_seq ?_
  refine W_seq ?_
  obtain ⟨m1, hm1, hr⟩ := letv_out hr
  refine W_cut (fun σ' w' => σ' 13 = .bool m1 ∧ Ext w w') rfl ?_ ?_
  · skip
    have hr := hm1
    refine da_op rfl (d_mv (v := .string (bs p0)) rfl ?_)
    refine da_op rfl (d_slen un9 rfl ?_)
    refine da_op rfl (d_icmp cLss rfl rfl ?_)
    refine da_op rfl (d_mv (v := .bool (icmp .lss ((p0).length : Int) 1)) rfl ?_)
    rcases Bool.eq_false_or_eq_true (icmp .lss ((p0).length : Int) 1) with hc2 | hc2
    · skip
      replace hr := bif_t hr hc2
      refine da_off rfl (Eq.trans (show sl _ _ _ = .bool (icmp .lss ((p0).length : Int) 1) from rfl) (congrArg Value.bool hc2)) (by decide) ?_
      refine da_off rfl (Eq.trans (show sl _ _ _ = .bool (icmp .lss ((p0).length : Int) 1) from rfl) (congrArg Value.bool hc2)) (by decide) ?_
      refine da_off rfl (Eq.trans (show sl _ _ _ = .bool (icmp .lss ((p0).length : Int) 1) from rfl) (congrArg Value.bool hc2)) (by decide) ?_
      refine da_op rfl (d_pick (b := true) (Eq.trans (show ev _ _ = .bool (icmp .lss ((p0).length : Int) 1) from rfl) (congrArg Value.bool hc2)) ?_)
      refine da_nil ?_
      subst hr
      exact ⟨rfl, (Ext.refl w)⟩
    · skip
      replace hr := bif_f hr hc2
      refine da_on rfl (Eq.trans (show sl _ _ _ = .bool (icmp .lss ((p0).length : Int) 1) from rfl) (congrArg Value.bool hc2)) (d_mv (v := .string (bs p0)) rfl ?_)
      refine da_on rfl (Eq.trans (show sl _ _ _ = .bool (icmp .lss ((p0).length : Int) 1) from rfl) (congrArg Value.bool hc2)) (d_slen un9 rfl ?_)
      refine da_on rfl (Eq.trans (show sl _ _ _ = .bool (icmp .lss ((p0).length : Int) 1) from rfl) (congrArg Value.bool hc2)) (d_icmp cGtr rfl rfl ?_)
      refine da_op rfl (d_pick (b := false) (Eq.trans (show ev _ _ = .bool (icmp .lss ((p0).length : Int) 1) from rfl) (congrArg Value.bool hc2)) ?_)
      refine da_nil ?_
      subst hr
      exact ⟨rfl, (Ext.refl w)⟩
  · skip
    rintro σ1 w1 o1 ⟨s13_1, E1⟩
    have s0_1 : σ1 0 = .string (bs p0) := (o1 0 rfl).trans rfl
    have X3 : Ext w w1 := (Ext.refl w).trans E1
    refine W_cond (b := m1) s13_1 (fun hc4 => ?_) (fun hc4 => ?_)
    · skip
      replace hr := bif_t hr hc4
      refine W_seq ?_
      refine W_region rfl ?_
      refine da_op rfl (d_as (v := .int .i64 0) rfl ?_)
      refine da_op rfl (d_as (v := .bool false) rfl ?_)
      refine da_nil ?_
      refine W_ret ?_
      obtain rfl := Option.some.inj hr
      refine ⟨_, res2 (rv_tmp rfl) (rv_tmp rfl), ?_⟩
      exact ⟨rfl, X3⟩
    · skip
      replace hr := bif_f hr hc4
      refine W_skip ?_
      refine W_seq ?_
      refine W_region rfl ?_
      refine da_op rfl (d_as (v := .int .i64 0) rfl ?_)
      refine da_nil ?_
      refine W_seq ?_
      refine W_seq ?_
      refine W_region rfl ?_
      refine da_op rfl (d_as (v := .int .i64 0) rfl ?_)
      refine da_nil ?_
      refine W_block ?_
      obtain ⟨m5, hm5, hr⟩ := bind_out hr
      refine W_loopM hm5 (fun (s5 : Int × Int) σ w' => σ 4 = .int .i64 s5.1 ∧ σ 5 = .int .i64 s5.2 ∧ σ 0 = .string (bs p0) ∧ Ext w w') (fun (e5 : Int) ex σ w' => ex = .exit 0 ∧ σ 4 = .int .i64 e5 ∧ σ 0 = .string (bs p0) ∧ Ext w w') ⟨rfl, rfl, s0_1, X3⟩ ?_ ?_
      · skip
        rintro s5 σl5 wl5 r5l ⟨i5_S4, i5_S5, i5_S0, i5_X⟩ hr
        refine W_seq ?_
        refine W_seq ?_
        refine W_region rfl ?_
        refine da_op rfl (d_mv (v := .int .i64 s5.2) i5_S5 ?_)
        refine da_op rfl (d_mv (v := .string (bs p0)) i5_S0 ?_)
        refine da_op rfl (d_slen un9 rfl ?_)
        refine da_op rfl (d_icmp cLss rfl rfl ?_)
        refine da_nil ?_
        refine W_cond (b := (icmp .lss s5.2 ((p0).length : Int))) rfl (fun hc6 => ?_) (fun hc6 => ?_)
        · skip
          replace hr := bif_t hr hc6
          refine W_skip ?_
          refine W_seq ?_
          refine W_block ?_
          refine W_seq ?_
          obtain ⟨m7, hm7, hr⟩ := bind_out hr
          refine W_cut (fun σ' w' => σ' 29 = .bool m7 ∧ Ext wl5 w') rfl ?_ ?_
          · skip
            have hr := hm7
            refine da_op rfl (d_mv (v := .string (bs p0)) i5_S0 ?_)
            refine da_op rfl (d_mv (v := .int .i64 s5.2) i5_S5 ?_)
            obtain ⟨m8, hm8, hr⟩ := bind_out hr
            refine da_op rfl (d_sidx un9 rfl rfl hm8 ?_)
            refine da_op rfl (d_icmp cGeq rfl rfl ?_)
            refine da_op rfl (d_mv (v := .bool (icmp .geq m8 48)) rfl ?_)
            rcases Bool.eq_false_or_eq_true (icmp .geq m8 48) with hc9 | hc9
            · skip
              replace hr := bif_t hr hc9
              refine da_on rfl (Eq.trans (show sl _ _ _ = .bool (icmp .geq m8 48) from rfl) (congrArg Value.bool hc9)) (d_mv (v := .string (bs p0)) i5_S0 ?_)
              refine da_on rfl (Eq.trans (show sl _ _ _ = .bool (icmp .geq m8 48) from rfl) (congrArg Value.bool hc9)) (d_mv (v := .int .i64 s5.2) i5_S5 ?_)
              obtain ⟨m10, hm10, hr⟩ := bind_out hr
              refine da_on rfl (Eq.trans (show sl _ _ _ = .bool (icmp .geq m8 48) from rfl) (congrArg Value.bool hc9)) (d_sidx un9 rfl rfl hm10 ?_)
              refine da_on rfl (Eq.trans (show sl _ _ _ = .bool (icmp .geq m8 48) from rfl) (congrArg Value.bool hc9)) (d_icmp cLeq rfl rfl ?_)
              refine da_op rfl (d_pick (b := true) (Eq.trans (show ev _ _ = .bool (icmp .geq m8 48) from rfl) (congrArg Value.bool hc9)) ?_)
              refine da_nil ?_
              obtain rfl := Option.some.inj hr
              exact ⟨rfl, (Ext.refl wl5)⟩
            · skip
              replace hr := bif_f hr hc9
              refine da_off rfl (Eq.trans (show sl _ _ _ = .bool (icmp .geq m8 48) from rfl) (congrArg Value.bool hc9)) (by decide) ?_
              refine da_off rfl (Eq.trans (show sl _ _ _ = .bool (icmp .geq m8 48) from rfl) (congrArg Value.bool hc9)) (by decide) ?_
              refine da_off rfl (Eq.trans (show sl _ _ _ = .bool (icmp .geq m8 48) from rfl) (congrArg Value.bool hc9)) (by decide) ?_
              refine da_off rfl (Eq.trans (show sl _ _ _ = .bool (icmp .geq m8 48) from rfl) (congrArg Value.bool hc9)) (by decide) ?_
              refine da_op rfl (d_pick (b := false) (Eq.trans (show ev _ _ = .bool (icmp .geq m8 48) from rfl) (congrArg Value.bool hc9)) ?_)
              refine da_nil ?_
              obtain rfl := Option.some.inj hr
              exact ⟨rfl, (Ext.refl wl5)⟩
          · skip
            rintro σ7 w7 o7 ⟨s29_7, E7⟩
            have s4_7 : σ7 4 = .int .i64 s5.1 := (o7 4 rfl).trans i5_S4
            have s5_7 : σ7 5 = .int .i64 s5.2 := (o7 5 rfl).trans i5_S5
            have s0_7 : σ7 0 = .string (bs p0) := (o7 0 rfl).trans i5_S0
            have X11 : Ext w w7 := i5_X.trans E7
            refine W_cond (b := m7) s29_7 (fun hc12 => ?_) (fun hc12 => ?_)
            · skip
              replace hr := bif_t hr hc12
              refine W_region rfl ?_
              refine da_op rfl (d_mv (v := .int .i64 s5.1) s4_7 ?_)
              refine da_op rfl (d_iarith rfl rfl (.inr (.inr ⟨rfl, rfl⟩)) ?_)
              refine da_op rfl (d_mv (v := .string (bs p0)) s0_7 ?_)
              refine da_op rfl (d_mv (v := .int .i64 s5.2) s5_7 ?_)
              obtain ⟨m13, hm13, hr⟩ := bind_out hr
              refine da_op rfl (d_sidx un9 rfl rfl hm13 ?_)
              refine da_op rfl (d_iarith rfl rfl (.inr (.inl ⟨rfl, rfl⟩)) ?_)
              refine da_op rfl (d_iconv un5 un2 rfl ?_)
              refine da_op rfl (d_iarith rfl rfl (.inl ⟨rfl, rfl⟩) ?_)
              refine da_op rfl (d_as (v := .int .i64 (IntKind.i64.wrap ((IntKind.i64.wrap (10 * s5.1)) + (IntKind.i64.wrap (IntKind.u8.wrap (m13 - 48)))))) rfl ?_)
              refine da_nil ?_
              refine W_region rfl ?_
              refine da_op rfl (d_mv (v := .int .i64 s5.2) s5_7 ?_)
              refine da_op rfl (d_iarith rfl rfl (.inl ⟨rfl, rfl⟩) ?_)
              refine da_op rfl (d_as (v := .int .i64 (IntKind.i64.wrap (s5.2 + 1))) rfl ?_)
              refine da_nil ?_
              obtain rfl := Option.some.inj hr
              exact ⟨_, rfl, ⟨rfl, rfl, s0_7, X11⟩⟩
            · skip
              replace hr := bif_f hr hc12
              refine W_skip ?_
              refine W_region rfl ?_
              refine da_op rfl (d_mv (v := .int .i64 s5.2) s5_7 ?_)
              refine da_op rfl (d_iarith rfl rfl (.inl ⟨rfl, rfl⟩) ?_)
              refine da_op rfl (d_as (v := .int .i64 (IntKind.i64.wrap (s5.2 + 1))) rfl ?_)
              refine da_nil ?_
              obtain rfl := Option.some.inj hr
              exact ⟨_, rfl, ⟨s4_7, rfl, s0_7, X11⟩⟩
        · skip
          replace hr := bif_f hr hc6
          refine W_exit ?_
          obtain rfl := Option.some.inj hr
          exact ⟨_, rfl, rfl, i5_S4, i5_S0, i5_X⟩
      · skip
        intro ex σx5 wx5 hq
        obtain ⟨rfl, q5_0_S4, q5_0_S0, q5_0_X⟩ := hq
        refine W_seq ?_
        refine W_seq ?_
        refine W_region rfl ?_
        refine da_op rfl (d_mv (v := .string (bs p0)) q5_0_S0 ?_)
        obtain ⟨m14, hm14, hr⟩ := bind_out hr
        refine da_op rfl (d_sidx un9 rfl rfl hm14 ?_)
        refine da_op rfl (d_icmp cEql rfl rfl ?_)
        refine da_nil ?_
        refine W_cond (b := (icmp .eql m14 45)) rfl (fun hc15 => ?_) (fun hc15 => ?_)
        · skip
          replace hr := bif_t hr hc15
          refine W_region rfl ?_
          refine da_op rfl (d_mv (v := .int .i64 m5) q5_0_S4 ?_)
          refine da_op rfl (d_ineg rfl ?_)
          refine da_op rfl (d_as (v := .int .i64 (IntKind.i64.wrap (0 - m5))) rfl ?_)
          refine da_nil ?_
          refine W_seq ?_
          refine W_seq ?_
          obtain ⟨m16, hm16, hr⟩ := bind_out hr
          refine W_cut (fun σ' w' => σ' 51 = .bool m16 ∧ Ext wx5 w') rfl ?_ ?_
          · skip
            have hr := hm16
            refine da_op rfl (d_mv (v := .int .i64 (IntKind.i64.wrap (0 - m5))) rfl ?_)
            obtain ⟨m17, hm17, hr⟩ := letv_out hr
            refine da_op rfl (d_cl (vs := [.int .i64 (IntKind.i64.wrap (0 - m5)), .int .i64 (-1000000000000000), .int .i64 1000000000000000]) en66 (ac rfl (ac rfl (ac rfl rfl))) rfl ?_)
            refine (c66 (IntKind.i64.wrap (0 - m5)) (-1000000000000000) 1000000000000000 m17 wx5 hm17 ).mono ?_
            rintro _ w18 ⟨rfl, E18⟩
            refine ⟨_, rfl, ?_⟩
            have X19 : Ext w w18 := q5_0_X.trans E18
            refine da_op rfl (d_not rfl ?_)
            refine da_op rfl (d_mv (v := .bool (!m17)) rfl ?_)
            rcases Bool.eq_false_or_eq_true m17 with hc20 | hc20
            · skip
              replace hr := bif_t hr hc20
              refine da_on rfl (Eq.trans (show sl _ _ _ = .bool (!m17) from rfl) (congrArg Value.bool (congrArg not hc20))) (d_mv (v := .int .i64 (IntKind.i64.wrap (0 - m5))) rfl ?_)
              obtain ⟨m21, hm21, hr⟩ := bind_out hr
              refine da_on rfl (Eq.trans (show sl _ _ _ = .bool (!m17) from rfl) (congrArg Value.bool (congrArg not hc20))) (d_cl (vs := [.int .i64 (IntKind.i64.wrap (0 - m5))]) en81 (ac rfl rfl) rfl ?_)
              refine (c81 (IntKind.i64.wrap (0 - m5)) m21 w18 hm21 ).mono ?_
              rintro _ w22 ⟨rfl, E22⟩
              refine ⟨_, rfl, ?_⟩
              have X23 : Ext w w22 := X19.trans E22
              refine da_on rfl (Eq.trans (show sl _ _ _ = .bool (!m17) from rfl) (congrArg Value.bool (congrArg not hc20))) (d_mv (v := .string (bs p0)) q5_0_S0 ?_)
              refine da_on rfl (Eq.trans (show sl _ _ _ = .bool (!m17) from rfl) (congrArg Value.bool (congrArg not hc20))) (d_sne rfl rfl ?_)
              refine da_op rfl (d_pick (b := false) (Eq.trans (show ev _ _ = .bool (!m17) from rfl) (congrArg Value.bool (congrArg not hc20))) ?_)
              refine da_nil ?_
              obtain rfl := Option.some.inj hr
              exact ⟨rfl, (Ext.trans (Ext.trans (Ext.refl wx5) E18) E22)⟩
            · skip
              replace hr := bif_f hr hc20
              refine da_off rfl (Eq.trans (show sl _ _ _ = .bool (!m17) from rfl) (congrArg Value.bool (congrArg not hc20))) (by decide) ?_
              refine da_off rfl (Eq.trans (show sl _ _ _ = .bool (!m17) from rfl) (congrArg Value.bool (congrArg not hc20))) (by decide) ?_
              refine da_off rfl (Eq.trans (show sl _ _ _ = .bool (!m17) from rfl) (congrArg Value.bool (congrArg not hc20))) (by decide) ?_
              refine da_off rfl (Eq.trans (show sl _ _ _ = .bool (!m17) from rfl) (congrArg Value.bool (congrArg not hc20))) (by decide) ?_
              refine da_op rfl (d_pick (b := true) (Eq.trans (show ev _ _ = .bool (!m17) from rfl) (congrArg Value.bool (congrArg not hc20))) ?_)
              refine da_nil ?_
              obtain rfl := Option.some.inj hr
              exact ⟨rfl, (Ext.trans (Ext.refl wx5) E18)⟩
          · skip
            rintro σ16 w16 o16 ⟨s51_16, E16⟩
            have s4_16 : σ16 4 = .int .i64 (IntKind.i64.wrap (0 - m5)) := (o16 4 rfl).trans rfl
            have X24 : Ext w w16 := q5_0_X.trans E16
            refine W_cond (b := m16) s51_16 (fun hc25 => ?_) (fun hc25 => ?_)
            · skip
              replace hr := bif_t hr hc25
              refine W_seq ?_
              refine W_region rfl ?_
              refine da_op rfl (d_as (v := .int .i64 0) rfl ?_)
              refine da_op rfl (d_as (v := .bool false) rfl ?_)
              refine da_nil ?_
              refine W_ret ?_
              obtain rfl := Option.some.inj hr
              refine ⟨_, res2 (rv_tmp rfl) (rv_tmp rfl), ?_⟩
              exact ⟨rfl, X24⟩
            · skip
              replace hr := bif_f hr hc25
              refine W_skip ?_
              refine W_seq ?_
              refine W_region rfl ?_
              refine da_op rfl (d_mv (v := .int .i64 (IntKind.i64.wrap (0 - m5))) s4_16 ?_)
              refine da_op rfl (d_as (v := .int .i64 (IntKind.i64.wrap (0 - m5))) rfl ?_)
              refine da_op rfl (d_as (v := .bool true) rfl ?_)
              refine da_nil ?_
              refine W_ret ?_
              obtain rfl := Option.some.inj hr
              refine ⟨_, res2 (rv_tmp rfl) (rv_tmp rfl), ?_⟩
              exact ⟨rfl, X24⟩
        · skip
          replace hr := bif_f hr hc15
          refine W_skip ?_
          refine W_seq ?_
          refine W_seq ?_
          obtain ⟨m26, hm26, hr⟩ := bind_out hr
          refine W_cut (fun σ' w' => σ' 51 = .bool m26 ∧ Ext wx5 w') rfl ?_ ?_
          · skip
            have hr := hm26
            refine da_op rfl (d_mv (v := .int .i64 m5) q5_0_S4 ?_)
            obtain ⟨m27, hm27, hr⟩ := letv_out hr
            refine da_op rfl (d_cl (vs := [.int .i64 m5, .int .i64 (-1000000000000000), .int .i64 1000000000000000]) en66 (ac rfl (ac rfl (ac rfl rfl))) rfl ?_)
            refine (c66 m5 (-1000000000000000) 1000000000000000 m27 wx5 hm27 ).mono ?_
            rintro _ w28 ⟨rfl, E28⟩
            refine ⟨_, rfl, ?_⟩
            have X29 : Ext w w28 := q5_0_X.trans E28
            refine da_op rfl (d_not rfl ?_)
            refine da_op rfl (d_mv (v := .bool (!m27)) rfl ?_)
            rcases Bool.eq_false_or_eq_true m27 with hc30 | hc30
            · skip
              replace hr := bif_t hr hc30
              refine da_on rfl (Eq.trans (show sl _ _ _ = .bool (!m27) from rfl) (congrArg Value.bool (congrArg not hc30))) (d_mv (v := .int .i64 m5) q5_0_S4 ?_)
              obtain ⟨m31, hm31, hr⟩ := bind_out hr
              refine da_on rfl (Eq.trans (show sl _ _ _ = .bool (!m27) from rfl) (congrArg Value.bool (congrArg not hc30))) (d_cl (vs := [.int .i64 m5]) en81 (ac rfl rfl) rfl ?_)
              refine (c81 m5 m31 w28 hm31 ).mono ?_
              rintro _ w32 ⟨rfl, E32⟩
              refine ⟨_, rfl, ?_⟩
              have X33 : Ext w w32 := X29.trans E32
              refine da_on rfl (Eq.trans (show sl _ _ _ = .bool (!m27) from rfl) (congrArg Value.bool (congrArg not hc30))) (d_mv (v := .string (bs p0)) q5_0_S0 ?_)
              refine da_on rfl (Eq.trans (show sl _ _ _ = .bool (!m27) from rfl) (congrArg Value.bool (congrArg not hc30))) (d_sne rfl rfl ?_)
              refine da_op rfl (d_pick (b := false) (Eq.trans (show ev _ _ = .bool (!m27) from rfl) (congrArg Value.bool (congrArg not hc30))) ?_)
              refine da_nil ?_
              obtain rfl := Option.some.inj hr
              exact ⟨rfl, (Ext.trans (Ext.trans (Ext.refl wx5) E28) E32)⟩
            · skip
              replace hr := bif_f hr hc30
              refine da_off rfl (Eq.trans (show sl _ _ _ = .bool (!m27) from rfl) (congrArg Value.bool (congrArg not hc30))) (by decide) ?_
              refine da_off rfl (Eq.trans (show sl _ _ _ = .bool (!m27) from rfl) (congrArg Value.bool (congrArg not hc30))) (by decide) ?_
              refine da_off rfl (Eq.trans (show sl _ _ _ = .bool (!m27) from rfl) (congrArg Value.bool (congrArg not hc30))) (by decide) ?_
              refine da_off rfl (Eq.trans (show sl _ _ _ = .bool (!m27) from rfl) (congrArg Value.bool (congrArg not hc30))) (by decide) ?_
              refine da_op rfl (d_pick (b := true) (Eq.trans (show ev _ _ = .bool (!m27) from rfl) (congrArg Value.bool (congrArg not hc30))) ?_)
              refine da_nil ?_
              obtain rfl := Option.some.inj hr
              exact ⟨rfl, (Ext.trans (Ext.refl wx5) E28)⟩
          · skip
            rintro σ26 w26 o26 ⟨s51_26, E26⟩
            have s4_26 : σ26 4 = .int .i64 m5 := (o26 4 rfl).trans q5_0_S4
            have X34 : Ext w w26 := q5_0_X.trans E26
            refine W_cond (b := m26) s51_26 (fun hc35 => ?_) (fun hc35 => ?_)
            · skip
              replace hr := bif_t hr hc35
              refine W_seq ?_
              refine W_region rfl ?_
              refine da_op rfl (d_as (v := .int .i64 0) rfl ?_)
              refine da_op rfl (d_as (v := .bool false) rfl ?_)
              refine da_nil ?_
              refine W_ret ?_
              obtain rfl := Option.some.inj hr
              refine ⟨_, res2 (rv_tmp rfl) (rv_tmp rfl), ?_⟩
              exact ⟨rfl, X34⟩
            · skip
              replace hr := bif_f hr hc35
              refine W_skip ?_
              refine W_seq ?_
              refine W_region rfl ?_
              refine da_op rfl (d_mv (v := .int .i64 m5) s4_26 ?_)
              refine da_op rfl (d_as (v := .int .i64 m5) rfl ?_)
              refine da_op rfl (d_as (v := .bool true) rfl ?_)
              refine da_nil ?_
              refine W_ret ?_
              obtain rfl := Option.some.inj hr
              refine ⟨_, res2 (rv_tmp rfl) (rv_tmp rfl), ?_⟩
              exact ⟨rfl, X34⟩
set_option maxHeartbeats 4000000 in
theorem c44 (p0 : List UInt8) (r : List Int × Bool) (w : World) (hr : M.spec_l01Numbers p0 = some r)  :
    Calls Tryz.prog 44 #[.string (bs p0)] w fun e w' => ∃ q0a : Option Addr, ∃ q0n : Nat, ∃ q0c : Nat, e = .returned (.tuple #[(Value.slice q0a q0n q0c), .bool r.2]) ∧ OS w' 2 encI_i64 (Value.slice q0a q0n q0c) r.1 ∧ (∀ k, (Value.slice q0a q0n q0c).ownBlock = some k → w.heap.size ≤ k) ∧ Ext w w' := by
  refine calls_of_W Tryz.func44 rfl (Nat.le_of_ble_eq_true rfl) ?_
  refine W_seq ?_
  refine W_region rfl ?_
  refine da_op rfl (d_as (v := .slice none 0 0) rfl ?_)
  refine da_op rfl (d_as (v := .bool false) rfl ?_)
  refine da_nil ?_
  refine W_seq ?_
  refine W_region rfl ?_
  refine da_op rfl (d_bslice0 un65 size2 fun w1 B1 E1 => ?_)
  have fr1 : ∀ k, (Value.slice (some ⟨w.heap.size, 0, none⟩) 0 0).ownBlock = some k → w.heap.size ≤ k := fun k hk => by cases hk; exact Nat.le_refl _
  have own1 : ∀ k, (Value.slice (some ⟨w.heap.size, 0, none⟩) 0 0).ownBlock = some k → w.heap.size ≤ k := fun k hk => Nat.le_trans (Ext.refl w).size (fr1 k hk)
  have X2 : Ext w w1 := (Ext.refl w).trans E1
  have O1 : OS w1 2 encI_i64 (Value.slice (some ⟨w.heap.size, 0, none⟩) 0 0) ([] : List Int) := OS.box (xs := ([] : List Int)) B1 rfl (Nat.le_of_ble_eq_true rfl)
  refine da_op rfl (d_as (v := (Value.slice (some ⟨w.heap.size, 0, none⟩) 0 0)) rfl ?_)
  refine da_nil ?_
  refine W_seq ?_
  refine W_seq ?_
  refine W_region rfl ?_
  refine da_op rfl (d_mv (v := .string (bs p0)) rfl ?_)
  refine da_op rfl (d_seq rfl rfl ?_)
  refine da_nil ?_
  refine W_cond (b := (p0 == ([110, 111, 110, 101] : List UInt8))) rfl (fun hc3 => ?_) (fun hc3 => ?_)
  · skip
    replace hr := bif_t hr hc3
    refine W_seq ?_
    refine W_region rfl ?_
    refine da_op rfl (d_mv (v := (Value.slice (some ⟨w.heap.size, 0, none⟩) 0 0)) rfl ?_)
    refine da_op rfl (d_as (v := (Value.slice (some ⟨w.heap.size, 0, none⟩) 0 0)) rfl ?_)
    refine da_op rfl (d_as (v := .bool true) rfl ?_)
    refine da_nil ?_
    refine W_ret ?_
    obtain rfl := Option.some.inj hr
    refine ⟨_, res2 (rv_tmp rfl) (rv_tmp rfl), ?_⟩
    exact ⟨(some ⟨w.heap.size, 0, none⟩), 0, 0, rfl, O1, own1, X2⟩
  · skip
    replace hr := bif_f hr hc3
    refine W_skip ?_
    refine W_seq ?_
    refine W_region rfl ?_
    refine da_op rfl (d_mv (v := .string (bs p0)) rfl ?_)
    obtain ⟨m4, hm4, hr⟩ := bind_out hr
    refine da_op rfl (d_cl (vs := [.string (bs p0), .int .u8 44]) en25 (ac rfl (ac rfl rfl)) rfl ?_)
    refine (c25 p0 44 m4 w1 hm4 ).mono ?_
    rintro _ w5 ⟨q5_0a, q5_0n, q5_0c, rfl, q5_0R, q5_0F, E5⟩
    refine ⟨_, rfl, ?_⟩
    have own6 : ∀ k, (Value.slice q5_0a q5_0n q5_0c).ownBlock = some k → w.heap.size ≤ k := fun k hk => Nat.le_trans X2.size (q5_0F k hk)
    have sp7 : ∀ k, (Value.slice (some ⟨w.heap.size, 0, none⟩) 0 0).ownBlock = some k → ¬ (Value.slice q5_0a q5_0n q5_0c).ownBlock = some k := apart_fresh O1 q5_0F
    have X8 : Ext w w5 := X2.trans E5
    refine da_op rfl (d_as (v := (Value.slice q5_0a q5_0n q5_0c)) rfl ?_)
    refine da_nil ?_
    refine W_seq ?_
    refine W_seq ?_
    refine W_region rfl ?_
    refine da_op rfl (d_mv (v := (Value.slice q5_0a q5_0n q5_0c)) rfl ?_)
    refine da_op rfl (d_len (e := encS) un32 rfl q5_0R.rs ?_)
    refine da_op rfl (d_icmp cGtr rfl rfl ?_)
    refine da_nil ?_
    refine W_cond (b := (icmp .gtr ((m4).length : Int) 64)) rfl (fun hc9 => ?_) (fun hc9 => ?_)
    · skip
      replace hr := bif_t hr hc9
      refine W_seq ?_
      refine W_region rfl ?_
      refine da_op rfl (d_as (v := .slice none 0 0) rfl ?_)
      refine da_op rfl (d_as (v := .bool false) rfl ?_)
      refine da_nil ?_
      refine W_ret ?_
      obtain rfl := Option.some.inj hr
      refine ⟨_, res2 (rv_tmp rfl) (rv_tmp rfl), ?_⟩
      exact ⟨none, 0, 0, rfl, (OS.nil _ 2 encI_i64), (fun k hk => by cases hk), X8⟩
    · skip
      replace hr := bif_f hr hc9
      refine W_skip ?_
      refine W_seq ?_
      refine W_seq ?_
      refine W_region rfl ?_
      refine da_op rfl (d_as (v := .int .i64 0) rfl ?_)
      refine da_nil ?_
      refine W_block ?_
      have B11 : OS w5 2 encI_i64 (Value.slice (some ⟨w.heap.size, 0, none⟩) 0 0) ([] : List Int) := O1.ext E5
      obtain ⟨m10, hm10, hr⟩ := bind_out hr
      refine W_loopM hm10 (fun (s10 : List Int × Int) σ w' => ∃ i10_0a : Option Addr, ∃ i10_0n : Nat, ∃ i10_0c : Nat, σ 4 = (Value.slice i10_0a i10_0n i10_0c) ∧ σ 6 = .int .i64 s10.2 ∧ σ 5 = (Value.slice q5_0a q5_0n q5_0c) ∧ OS w' 2 encI_i64 (Value.slice i10_0a i10_0n i10_0c) s10.1 ∧ (∀ k, (Value.slice i10_0a i10_0n i10_0c).ownBlock = some k → w.heap.size ≤ k) ∧ OS w' 9 encS (Value.slice q5_0a q5_0n q5_0c) m4 ∧ (∀ k, (Value.slice q5_0a q5_0n q5_0c).ownBlock = some k → ¬ (Value.slice i10_0a i10_0n i10_0c).ownBlock = some k) ∧ Ext w w') (fun (e10 : ((List Int) ⊕ (List Int × Bool))) ex σ w' => sel e10 (fun e10 => ex = .exit 0 ∧ ∃ q10_0_0a : Option Addr, ∃ q10_0_0n : Nat, ∃ q10_0_0c : Nat, σ 4 = (Value.slice q10_0_0a q10_0_0n q10_0_0c) ∧ OS w' 2 encI_i64 (Value.slice q10_0_0a q10_0_0n q10_0_0c) e10 ∧ (∀ k, (Value.slice q10_0_0a q10_0_0n q10_0_0c).ownBlock = some k → w.heap.size ≤ k) ∧ Ext w w') (fun e10 => ex = .ret ∧ ∃ q10_1_0a : Option Addr, ∃ q10_1_0n : Nat, ∃ q10_1_0c : Nat, σ 2 = (Value.slice q10_1_0a q10_1_0n q10_1_0c) ∧ σ 3 = .bool e10.2 ∧ OS w' 2 encI_i64 (Value.slice q10_1_0a q10_1_0n q10_1_0c) e10.1 ∧ (∀ k, (Value.slice q10_1_0a q10_1_0n q10_1_0c).ownBlock = some k → w.heap.size ≤ k) ∧ Ext w w')) ⟨(some ⟨w.heap.size, 0, none⟩), 0, 0, rfl, rfl, rfl, B11, own1, q5_0R, (apart_symm sp7), X8⟩ ?_ ?_
      · skip
        rintro s10 σl10 wl10 r10l ⟨i10_0a, i10_0n, i10_0c, i10_S4, i10_S6, i10_S5, i10_0R, i10_0O, i10_K0, i10_A0, i10_X⟩ hr
        refine W_seq ?_
        refine W_seq ?_
        refine W_region rfl ?_
        refine da_op rfl (d_mv (v := .int .i64 s10.2) i10_S6 ?_)
        refine da_op rfl (d_mv (v := (Value.slice q5_0a q5_0n q5_0c)) i10_S5 ?_)
        refine da_op rfl (d_len (e := encS) un32 rfl i10_K0.rs ?_)
        refine da_op rfl (d_icmp cLss rfl rfl ?_)
        refine da_nil ?_
        refine W_cond (b := (icmp .lss s10.2 ((m4).length : Int))) rfl (fun hc12 => ?_) (fun hc12 => ?_)
        · skip
          replace hr := bif_t hr hc12
          refine W_skip ?_
          refine W_seq ?_
          refine W_block ?_
          refine W_seq ?_
          refine W_region rfl ?_
          refine da_op rfl (d_mv (v := (Value.slice q5_0a q5_0n q5_0c)) i10_S5 ?_)
          refine da_op rfl (d_mv (v := .int .i64 s10.2) i10_S6 ?_)
          obtain ⟨m13, hm13, hr⟩ := bind_out hr
          refine da_op rfl (d_indexO (e := encS) (v := (Value.slice q5_0a q5_0n q5_0c)) un32 size9 rfl rfl i10_K0 hm13 fun g14 fr14 cu14 vs14 hv14 hg14 hp14 hq14 => ?_)
          obtain rfl := dec_encS hq14
          have sp15 : ¬ (Value.slice i10_0a i10_0n i10_0c).ownBlock = some g14 := fun e => (apart_symm i10_A0) _ e (by rw [hv14]; rfl)
          refine da_op rfl (d_load (v := .string (bs m13)) rfl agg9 hg14 (sub_get (vs := #[.string (bs m13)]) hp14 (i := 0) rfl) ?_)
          obtain ⟨m16, hm16, hr⟩ := bind_out hr
          refine da_op rfl (d_cl (vs := [.string (bs m13)]) en63 (ac rfl rfl) rfl ?_)
          refine (c63 m13 m16 wl10 hm16 ).mono ?_
          rintro _ w17 ⟨rfl, E17⟩
          refine ⟨_, rfl, ?_⟩
          have X18 : Ext w w17 := i10_X.trans E17
          refine da_op rfl (d_mv (v := .tuple #[.int .i64 m16.1, .bool m16.2]) rfl ?_)
          refine da_op rfl (d_extract (v := .int .i64 m16.1) rfl rfl ?_)
          refine da_op rfl (d_extract (v := .bool m16.2) rfl rfl ?_)
          refine da_op rfl (d_as (v := .int .i64 m16.1) rfl ?_)
          refine da_op rfl (d_as (v := .bool m16.2) rfl ?_)
          refine da_nil ?_
          refine W_seq ?_
          refine W_seq ?_
          refine W_region rfl ?_
          refine da_op rfl (d_mv (v := .bool m16.2) rfl ?_)
          refine da_op rfl (d_not rfl ?_)
          refine da_nil ?_
          refine W_cond (b := (!m16.2)) rfl (fun hc19 => ?_) (fun hc19 => ?_)
          · skip
            replace hr := bif_t hr hc19
            refine W_seq ?_
            refine W_region rfl ?_
            refine da_op rfl (d_as (v := .slice none 0 0) rfl ?_)
            refine da_op rfl (d_as (v := .bool false) rfl ?_)
            refine da_nil ?_
            refine W_ret ?_
            obtain rfl := Option.some.inj hr
            exact ⟨_, rfl, rfl, none, 0, 0, rfl, rfl, (OS.nil _ 2 encI_i64), (fun k hk => by cases hk), X18⟩
          · skip
            replace hr := bif_f hr hc19
            refine W_skip ?_
            refine W_region rfl ?_
            refine da_op rfl (d_mv (v := (Value.slice i10_0a i10_0n i10_0c)) i10_S4 ?_)
            refine da_op rfl (d_mv (v := .int .i64 m16.1) rfl ?_)
            have B21 : OS w17 9 encS (Value.slice q5_0a q5_0n q5_0c) m4 := i10_K0.ext E17
            have B22 : OS w17 2 encI_i64 (Value.slice i10_0a i10_0n i10_0c) s10.1 := i10_0R.ext E17
            refine da_op rfl (d_bslice (vs := [(0, .int .i64 m16.1)]) (cs := #[.int .i64 m16.1]) un65 (pc rfl rfl) (by kernel_rfl) fun w20 B20 E20 => ?_)
            have fr20 : ∀ k, (Value.slice (some ⟨w17.heap.size, 0, none⟩) 1 1).ownBlock = some k → w17.heap.size ≤ k := fun k hk => by cases hk; exact Nat.le_refl _
            have own20 : ∀ k, (Value.slice (some ⟨w17.heap.size, 0, none⟩) 1 1).ownBlock = some k → w.heap.size ≤ k := fun k hk => Nat.le_trans X18.size (fr20 k hk)
            have sp23 : ∀ k, (Value.slice q5_0a q5_0n q5_0c).ownBlock = some k → ¬ (Value.slice (some ⟨w17.heap.size, 0, none⟩) 1 1).ownBlock = some k := apart_fresh B21 fr20
            have sp24 : ∀ k, (Value.slice i10_0a i10_0n i10_0c).ownBlock = some k → ¬ (Value.slice (some ⟨w17.heap.size, 0, none⟩) 1 1).ownBlock = some k := apart_fresh B22 fr20
            have X25 : Ext w w20 := X18.trans E20
            have O20 : OS w20 2 encI_i64 (Value.slice (some ⟨w17.heap.size, 0, none⟩) 1 1) [m16.1] := OS.box (xs := [m16.1]) B20 (lc_v rfl rfl) (Nat.le_of_ble_eq_true rfl)
            obtain ⟨m26, hm26, hr⟩ := bind_out hr
            have B27 : OS w20 2 encI_i64 (Value.slice i10_0a i10_0n i10_0c) s10.1 := B22.ext E20
            have B28 : OS w20 9 encS (Value.slice q5_0a q5_0n q5_0c) m4 := B21.ext E20
            refine da_op rfl (d_append (e := encI_i64) (v := (Value.slice i10_0a i10_0n i10_0c)) (y := (Value.slice (some ⟨w17.heap.size, 0, none⟩) 1 1)) un65 info2 rfl (by kernel_rfl) (by kernel_rfl) (by decide) (by decide) rfl rfl B27 O20.rs hm26 fun v29 w29 O29 Fm29 at_29 nl29 => ?_)
            obtain ⟨v29pa, v29pn, v29pc, rfl⟩ := O29.vals
            have own29 : ∀ k, (Value.slice v29pa v29pn v29pc).ownBlock = some k → w.heap.size ≤ k := app_own (w := w20) at_29 i10_0O X25.size
            have sp30 : ∀ k, (Value.slice q5_0a q5_0n q5_0c).ownBlock = some k → ¬ (Value.slice v29pa v29pn v29pc).ownBlock = some k := app_nr at_29 i10_A0 B28
            have sp31 : ∀ k, (Value.slice (some ⟨w17.heap.size, 0, none⟩) 1 1).ownBlock = some k → ¬ (Value.slice v29pa v29pn v29pc).ownBlock = some k := app_nr at_29 (apart_symm sp24) O20
            have X32 : Ext w w29 := Ext.step X25 Fm29 (fun k _ hk => i10_0O k hk)
            refine da_op rfl (d_as (v := (Value.slice v29pa v29pn v29pc)) rfl ?_)
            refine da_nil ?_
            refine W_region rfl ?_
            refine da_op rfl (d_mv (v := .int .i64 s10.2) i10_S6 ?_)
            refine da_op rfl (d_iarith rfl rfl (.inl ⟨rfl, rfl⟩) ?_)
            refine da_op rfl (d_as (v := .int .i64 (IntKind.i64.wrap (s10.2 + 1))) rfl ?_)
            refine da_nil ?_
            have B33 : OS w29 9 encS (Value.slice q5_0a q5_0n q5_0c) m4 := B28.frm Fm29 i10_A0
            obtain rfl := Option.some.inj hr
            exact ⟨_, rfl, ⟨v29pa, v29pn, v29pc, rfl, rfl, i10_S5, O29, own29, B33, sp30, X32⟩⟩
        · skip
          replace hr := bif_f hr hc12
          refine W_exit ?_
          obtain rfl := Option.some.inj hr
          exact ⟨_, rfl, rfl, i10_0a, i10_0n, i10_0c, i10_S4, i10_0R, i10_0O, i10_X⟩
      · skip
        intro ex σx10 wx10 hq
        rcases m10 with m10 | m10
        · skip
          obtain ⟨rfl, q10_0_0a, q10_0_0n, q10_0_0c, q10_0_S4, q10_0_0R, q10_0_0O, q10_0_X⟩ := hq
          refine W_seq ?_
          refine W_region rfl ?_
          refine da_op rfl (d_mv (v := (Value.slice q10_0_0a q10_0_0n q10_0_0c)) q10_0_S4 ?_)
          refine da_op rfl (d_as (v := (Value.slice q10_0_0a q10_0_0n q10_0_0c)) rfl ?_)
          refine da_op rfl (d_as (v := .bool true) rfl ?_)
          refine da_nil ?_
          refine W_ret ?_
          obtain rfl := Option.some.inj hr
          refine ⟨_, res2 (rv_tmp rfl) (rv_tmp rfl), ?_⟩
          exact ⟨q10_0_0a, q10_0_0n, q10_0_0c, rfl, q10_0_0R, q10_0_0O, q10_0_X⟩
        · skip
          obtain ⟨rfl, q10_1_0a, q10_1_0n, q10_1_0c, q10_1_S2, q10_1_S3, q10_1_0R, q10_1_0O, q10_1_X⟩ := hq
          obtain rfl := Option.some.inj hr
          refine ⟨_, res2 (rv_tmp q10_1_S2) (rv_tmp q10_1_S3), ?_⟩
          exact ⟨q10_1_0a, q10_1_0n, q10_1_0c, rfl, q10_1_0R, q10_1_0O, q10_1_X⟩
set_option maxHeartbeats 4000000 in
theorem c28 (p0 : List UInt8) (r : List SRod × Bool) (w : World) (hr : M.spec_l08ReadRods p0 = some r)  :
    Calls Tryz.prog 28 #[.string (bs p0)] w fun e w' => ∃ q0a : Option Addr, ∃ q0n : Nat, ∃ q0c : Nat, e = .returned (.tuple #[(Value.slice q0a q0n q0c), .bool r.2]) ∧ OS w' 42 encSRod (Value.slice q0a q0n q0c) r.1 ∧ (∀ k, (Value.slice q0a q0n q0c).ownBlock = some k → w.heap.size ≤ k) ∧ Ext w w' := by
  refine calls_of_W Tryz.func28 rfl (Nat.le_of_ble_eq_true rfl) ?_
  refine W_seq ?_
  refine W_region rfl ?_
  refine da_op rfl (d_as (v := .slice none 0 0) rfl ?_)
  refine da_op rfl (d_as (v := .bool false) rfl ?_)
  refine da_nil ?_
  refine W_seq ?_
  refine W_region rfl ?_
  refine da_op rfl (d_bslice0 un24 size42 fun w1 B1 E1 => ?_)
  have fr1 : ∀ k, (Value.slice (some ⟨w.heap.size, 0, none⟩) 0 0).ownBlock = some k → w.heap.size ≤ k := fun k hk => by cases hk; exact Nat.le_refl _
  have own1 : ∀ k, (Value.slice (some ⟨w.heap.size, 0, none⟩) 0 0).ownBlock = some k → w.heap.size ≤ k := fun k hk => Nat.le_trans (Ext.refl w).size (fr1 k hk)
  have X2 : Ext w w1 := (Ext.refl w).trans E1
  have O1 : OS w1 42 encSRod (Value.slice (some ⟨w.heap.size, 0, none⟩) 0 0) ([] : List SRod) := OS.box (xs := ([] : List SRod)) B1 rfl (Nat.le_of_ble_eq_true rfl)
  refine da_op rfl (d_as (v := (Value.slice (some ⟨w.heap.size, 0, none⟩) 0 0)) rfl ?_)
  refine da_nil ?_
  refine W_seq ?_
  refine W_seq ?_
  refine W_region rfl ?_
  refine da_op rfl (d_mv (v := .string (bs p0)) rfl ?_)
  refine da_op rfl (d_seq rfl rfl ?_)
  refine da_nil ?_
  refine W_cond (b := (p0 == ([110, 111, 110, 101] : List UInt8))) rfl (fun hc3 => ?_) (fun hc3 => ?_)
  · skip
    replace hr := bif_t hr hc3
    refine W_seq ?_
    refine W_region rfl ?_
    refine da_op rfl (d_mv (v := (Value.slice (some ⟨w.heap.size, 0, none⟩) 0 0)) rfl ?_)
    refine da_op rfl (d_as (v := (Value.slice (some ⟨w.heap.size, 0, none⟩) 0 0)) rfl ?_)
    refine da_op rfl (d_as (v := .bool true) rfl ?_)
    refine da_nil ?_
    refine W_ret ?_
    obtain rfl := Option.some.inj hr
    refine ⟨_, res2 (rv_tmp rfl) (rv_tmp rfl), ?_⟩
    exact ⟨(some ⟨w.heap.size, 0, none⟩), 0, 0, rfl, O1, own1, X2⟩
  · skip
    replace hr := bif_f hr hc3
    refine W_skip ?_
    refine W_seq ?_
    refine W_region rfl ?_
    refine da_op rfl (d_mv (v := .string (bs p0)) rfl ?_)
    obtain ⟨m4, hm4, hr⟩ := bind_out hr
    refine da_op rfl (d_cl (vs := [.string (bs p0), .int .u8 47]) en25 (ac rfl (ac rfl rfl)) rfl ?_)
    refine (c25 p0 47 m4 w1 hm4 ).mono ?_
    rintro _ w5 ⟨q5_0a, q5_0n, q5_0c, rfl, q5_0R, q5_0F, E5⟩
    refine ⟨_, rfl, ?_⟩
    have own6 : ∀ k, (Value.slice q5_0a q5_0n q5_0c).ownBlock = some k → w.heap.size ≤ k := fun k hk => Nat.le_trans X2.size (q5_0F k hk)
    have sp7 : ∀ k, (Value.slice (some ⟨w.heap.size, 0, none⟩) 0 0).ownBlock = some k → ¬ (Value.slice q5_0a q5_0n q5_0c).ownBlock = some k := apart_fresh O1 q5_0F
    have X8 : Ext w w5 := X2.trans E5
    refine da_op rfl (d_as (v := (Value.slice q5_0a q5_0n q5_0c)) rfl ?_)
    refine da_nil ?_
    refine W_seq ?_
    refine W_seq ?_
    refine W_region rfl ?_
    refine da_op rfl (d_as (v := .int .i64 0) rfl ?_)
    refine da_nil ?_
    refine W_block ?_
    have B10 : OS w5 42 encSRod (Value.slice (some ⟨w.heap.size, 0, none⟩) 0 0) ([] : List SRod) := O1.ext E5
    obtain ⟨m9, hm9, hr⟩ := bind_out hr
    refine W_loopM hm9 (fun (s9 : List SRod × Int) σ w' => ∃ i9_0a : Option Addr, ∃ i9_0n : Nat, ∃ i9_0c : Nat, σ 4 = (Value.slice i9_0a i9_0n i9_0c) ∧ σ 6 = .int .i64 s9.2 ∧ σ 5 = (Value.slice q5_0a q5_0n q5_0c) ∧ OS w' 42 encSRod (Value.slice i9_0a i9_0n i9_0c) s9.1 ∧ (∀ k, (Value.slice i9_0a i9_0n i9_0c).ownBlock = some k → w.heap.size ≤ k) ∧ OS w' 9 encS (Value.slice q5_0a q5_0n q5_0c) m4 ∧ (∀ k, (Value.slice q5_0a q5_0n q5_0c).ownBlock = some k → ¬ (Value.slice i9_0a i9_0n i9_0c).ownBlock = some k) ∧ Ext w w') (fun (e9 : ((List SRod) ⊕ (List SRod × Bool))) ex σ w' => sel e9 (fun e9 => ex = .exit 0 ∧ ∃ q9_0_0a : Option Addr, ∃ q9_0_0n : Nat, ∃ q9_0_0c : Nat, σ 4 = (Value.slice q9_0_0a q9_0_0n q9_0_0c) ∧ OS w' 42 encSRod (Value.slice q9_0_0a q9_0_0n q9_0_0c) e9 ∧ (∀ k, (Value.slice q9_0_0a q9_0_0n q9_0_0c).ownBlock = some k → w.heap.size ≤ k) ∧ Ext w w') (fun e9 => ex = .ret ∧ ∃ q9_1_0a : Option Addr, ∃ q9_1_0n : Nat, ∃ q9_1_0c : Nat, σ 2 = (Value.slice q9_1_0a q9_1_0n q9_1_0c) ∧ σ 3 = .bool e9.2 ∧ OS w' 42 encSRod (Value.slice q9_1_0a q9_1_0n q9_1_0c) e9.1 ∧ (∀ k, (Value.slice q9_1_0a q9_1_0n q9_1_0c).ownBlock = some k → w.heap.size ≤ k) ∧ Ext w w')) ⟨(some ⟨w.heap.size, 0, none⟩), 0, 0, rfl, rfl, rfl, B10, own1, q5_0R, (apart_symm sp7), X8⟩ ?_ ?_
    · skip
      rintro s9 σl9 wl9 r9l ⟨i9_0a, i9_0n, i9_0c, i9_S4, i9_S6, i9_S5, i9_0R, i9_0O, i9_K0, i9_A0, i9_X⟩ hr
      refine W_seq ?_
      refine W_seq ?_
      refine W_region rfl ?_
      refine da_op rfl (d_mv (v := .int .i64 s9.2) i9_S6 ?_)
      refine da_op rfl (d_mv (v := (Value.slice q5_0a q5_0n q5_0c)) i9_S5 ?_)
      refine da_op rfl (d_len (e := encS) un32 rfl i9_K0.rs ?_)
      refine da_op rfl (d_icmp cLss rfl rfl ?_)
      refine da_nil ?_
      refine W_cond (b := (icmp .lss s9.2 ((m4).length : Int))) rfl (fun hc11 => ?_) (fun hc11 => ?_)
      · skip
        replace hr := bif_t hr hc11
        refine W_skip ?_
        refine W_seq ?_
        refine W_block ?_
        refine W_seq ?_
        refine W_region rfl ?_
        refine da_op rfl (d_mv (v := (Value.slice q5_0a q5_0n q5_0c)) i9_S5 ?_)
        refine da_op rfl (d_mv (v := .int .i64 s9.2) i9_S6 ?_)
        obtain ⟨m12, hm12, hr⟩ := bind_out hr
        refine da_op rfl (d_indexO (e := encS) (v := (Value.slice q5_0a q5_0n q5_0c)) un32 size9 rfl rfl i9_K0 hm12 fun g13 fr13 cu13 vs13 hv13 hg13 hp13 hq13 => ?_)
        obtain rfl := dec_encS hq13
        have sp14 : ¬ (Value.slice i9_0a i9_0n i9_0c).ownBlock = some g13 := fun e => (apart_symm i9_A0) _ e (by rw [hv13]; rfl)
        refine da_op rfl (d_load (v := .string (bs m12)) rfl agg9 hg13 (sub_get (vs := #[.string (bs m12)]) hp13 (i := 0) rfl) ?_)
        obtain ⟨m15, hm15, hr⟩ := bind_out hr
        refine da_op rfl (d_cl (vs := [.string (bs m12), .int .u8 58]) en25 (ac rfl (ac rfl rfl)) rfl ?_)
        refine (c25 m12 58 m15 wl9 hm15 ).mono ?_
        rintro _ w16 ⟨q16_0a, q16_0n, q16_0c, rfl, q16_0R, q16_0F, E16⟩
        refine ⟨_, rfl, ?_⟩
        have own17 : ∀ k, (Value.slice q16_0a q16_0n q16_0c).ownBlock = some k → w.heap.size ≤ k := fun k hk => Nat.le_trans i9_X.size (q16_0F k hk)
        have sp18 : ∀ k, (Value.slice q5_0a q5_0n q5_0c).ownBlock = some k → ¬ (Value.slice q16_0a q16_0n q16_0c).ownBlock = some k := apart_fresh i9_K0 q16_0F
        have sp19 : ∀ k, (Value.slice i9_0a i9_0n i9_0c).ownBlock = some k → ¬ (Value.slice q16_0a q16_0n q16_0c).ownBlock = some k := apart_fresh i9_0R q16_0F
        have sp20 : ¬ (Value.slice q16_0a q16_0n q16_0c).ownBlock = some g13 := ne_fresh q16_0F (lt_heap hg13)
        have X21 : Ext w w16 := i9_X.trans E16
        refine da_op rfl (d_as (v := (Value.slice q16_0a q16_0n q16_0c)) rfl ?_)
        refine da_nil ?_
        refine W_seq ?_
        refine W_seq ?_
        refine W_region rfl ?_
        refine da_op rfl (d_mv (v := (Value.slice q16_0a q16_0n q16_0c)) rfl ?_)
        refine da_op rfl (d_len (e := encS) un32 rfl q16_0R.rs ?_)
        refine da_op rfl (d_icmp cNeq rfl rfl ?_)
        refine da_nil ?_
        refine W_cond (b := (icmp .neq ((m15).length : Int) 2)) rfl (fun hc22 => ?_) (fun hc22 => ?_)
        · skip
          replace hr := bif_t hr hc22
          refine W_seq ?_
          refine W_region rfl ?_
          refine da_op rfl (d_as (v := .slice none 0 0) rfl ?_)
          refine da_op rfl (d_as (v := .bool false) rfl ?_)
          refine da_nil ?_
          refine W_ret ?_
          obtain rfl := Option.some.inj hr
          exact ⟨_, rfl, rfl, none, 0, 0, rfl, rfl, (OS.nil _ 42 encSRod), (fun k hk => by cases hk), X21⟩
        · skip
          replace hr := bif_f hr hc22
          refine W_skip ?_
          refine W_seq ?_
          refine W_region rfl ?_
          refine da_op rfl (d_mv (v := (Value.slice q16_0a q16_0n q16_0c)) rfl ?_)
          obtain ⟨m23, hm23, hr⟩ := bind_out hr
          refine da_op rfl (d_indexO (e := encS) (v := (Value.slice q16_0a q16_0n q16_0c)) un32 size9 rfl rfl q16_0R hm23 fun g24 fr24 cu24 vs24 hv24 hg24 hp24 hq24 => ?_)
          obtain rfl := dec_encS hq24
          have sp25 : ¬ (Value.slice q5_0a q5_0n q5_0c).ownBlock = some g24 := fun e => sp18 _ e (by rw [hv24]; rfl)
          have sp26 : ¬ (Value.slice i9_0a i9_0n i9_0c).ownBlock = some g24 := fun e => sp19 _ e (by rw [hv24]; rfl)
          refine da_op rfl (d_load (v := .string (bs m23)) rfl agg9 hg24 (sub_get (vs := #[.string (bs m23)]) hp24 (i := 0) rfl) ?_)
          obtain ⟨m27, hm27, hr⟩ := bind_out hr
          have B28 : OS w16 9 encS (Value.slice q5_0a q5_0n q5_0c) m4 := i9_K0.ext E16
          have B29 : OS w16 42 encSRod (Value.slice i9_0a i9_0n i9_0c) s9.1 := i9_0R.ext E16
          refine da_op rfl (d_cl (vs := [.string (bs m23)]) en44 (ac rfl rfl) rfl ?_)
          refine (c44 m23 m27 w16 hm27 ).mono ?_
          rintro _ w30 ⟨q30_0a, q30_0n, q30_0c, rfl, q30_0R, q30_0F, E30⟩
          refine ⟨_, rfl, ?_⟩
          have own31 : ∀ k, (Value.slice q30_0a q30_0n q30_0c).ownBlock = some k → w.heap.size ≤ k := fun k hk => Nat.le_trans X21.size (q30_0F k hk)
          have sp32 : ∀ k, (Value.slice q5_0a q5_0n q5_0c).ownBlock = some k → ¬ (Value.slice q30_0a q30_0n q30_0c).ownBlock = some k := apart_fresh B28 q30_0F
          have sp33 : ∀ k, (Value.slice i9_0a i9_0n i9_0c).ownBlock = some k → ¬ (Value.slice q30_0a q30_0n q30_0c).ownBlock = some k := apart_fresh B29 q30_0F
          have sp34 : ∀ k, (Value.slice q16_0a q16_0n q16_0c).ownBlock = some k → ¬ (Value.slice q30_0a q30_0n q30_0c).ownBlock = some k := apart_fresh q16_0R q30_0F
          have sp35 : ¬ (Value.slice q30_0a q30_0n q30_0c).ownBlock = some g24 := ne_fresh q30_0F (lt_heap hg24)
          have X36 : Ext w w30 := X21.trans E30
          refine da_op rfl (d_mv (v := .tuple #[(Value.slice q30_0a q30_0n q30_0c), .bool m27.2]) rfl ?_)
          refine da_op rfl (d_extract (v := (Value.slice q30_0a q30_0n q30_0c)) rfl rfl ?_)
          refine da_op rfl (d_extract (v := .bool m27.2) rfl rfl ?_)
          refine da_op rfl (d_as (v := (Value.slice q30_0a q30_0n q30_0c)) rfl ?_)
          refine da_op rfl (d_as (v := .bool m27.2) rfl ?_)
          refine da_nil ?_
          refine W_seq ?_
          refine W_region rfl ?_
          refine da_op rfl (d_mv (v := (Value.slice q16_0a q16_0n q16_0c)) rfl ?_)
          obtain ⟨m37, hm37, hr⟩ := bind_out hr
          have B39 : OS w30 9 encS (Value.slice q16_0a q16_0n q16_0c) m15 := q16_0R.ext E30
          refine da_op rfl (d_indexO (e := encS) (v := (Value.slice q16_0a q16_0n q16_0c)) un32 size9 rfl rfl B39 hm37 fun g38 fr38 cu38 vs38 hv38 hg38 hp38 hq38 => ?_)
          obtain rfl := dec_encS hq38
          have sp40 : ¬ (Value.slice q5_0a q5_0n q5_0c).ownBlock = some g38 := fun e => sp18 _ e (by rw [hv38]; rfl)
          have sp41 : ¬ (Value.slice i9_0a i9_0n i9_0c).ownBlock = some g38 := fun e => sp19 _ e (by rw [hv38]; rfl)
          have sp42 : ¬ (Value.slice q30_0a q30_0n q30_0c).ownBlock = some g38 := fun e => (apart_symm sp34) _ e (by rw [hv38]; rfl)
          refine da_op rfl (d_load (v := .string (bs m37)) rfl agg9 hg38 (sub_get (vs := #[.string (bs m37)]) hp38 (i := 0) rfl) ?_)
          obtain ⟨m43, hm43, hr⟩ := bind_out hr
          have B44 : OS w30 9 encS (Value.slice q5_0a q5_0n q5_0c) m4 := B28.ext E30
          have B45 : OS w30 42 encSRod (Value.slice i9_0a i9_0n i9_0c) s9.1 := B29.ext E30
          refine da_op rfl (d_cl (vs := [.string (bs m37)]) en27 (ac rfl rfl) rfl ?_)
          refine (c27 m37 m43 w30 hm43 ).mono ?_
          rintro _ w46 ⟨q46_0a, q46_0n, q46_0c, rfl, q46_0R, q46_0F, E46⟩
          refine ⟨_, rfl, ?_⟩
          have own47 : ∀ k, (Value.slice q46_0a q46_0n q46_0c).ownBlock = some k → w.heap.size ≤ k := fun k hk => Nat.le_trans X36.size (q46_0F k hk)
          have sp48 : ∀ k, (Value.slice q5_0a q5_0n q5_0c).ownBlock = some k → ¬ (Value.slice q46_0a q46_0n q46_0c).ownBlock = some k := apart_fresh B44 q46_0F
          have sp49 : ∀ k, (Value.slice i9_0a i9_0n i9_0c).ownBlock = some k → ¬ (Value.slice q46_0a q46_0n q46_0c).ownBlock = some k := apart_fresh B45 q46_0F
          have sp50 : ∀ k, (Value.slice q16_0a q16_0n q16_0c).ownBlock = some k → ¬ (Value.slice q46_0a q46_0n q46_0c).ownBlock = some k := apart_fresh B39 q46_0F
          have sp51 : ∀ k, (Value.slice q30_0a q30_0n q30_0c).ownBlock = some k → ¬ (Value.slice q46_0a q46_0n q46_0c).ownBlock = some k := apart_fresh q30_0R q46_0F
          have sp52 : ¬ (Value.slice q46_0a q46_0n q46_0c).ownBlock = some g38 := ne_fresh q46_0F (lt_heap hg38)
          have X53 : Ext w w46 := X36.trans E46
          refine da_op rfl (d_mv (v := .tuple #[(Value.slice q46_0a q46_0n q46_0c), .bool m43.2]) rfl ?_)
          refine da_op rfl (d_extract (v := (Value.slice q46_0a q46_0n q46_0c)) rfl rfl ?_)
          refine da_op rfl (d_extract (v := .bool m43.2) rfl rfl ?_)
          refine da_op rfl (d_as (v := (Value.slice q46_0a q46_0n q46_0c)) rfl ?_)
          refine da_op rfl (d_as (v := .bool m43.2) rfl ?_)
          refine da_nil ?_
          refine W_seq ?_
          refine W_seq ?_
          have B55 : OS w46 9 encS (Value.slice q5_0a q5_0n q5_0c) m4 := B44.ext E46
          have B56 : OS w46 42 encSRod (Value.slice i9_0a i9_0n i9_0c) s9.1 := B45.ext E46
          have B57 : OS w46 2 encI_i64 (Value.slice q30_0a q30_0n q30_0c) m27.1 := q30_0R.ext E46
          obtain ⟨m54, hm54, hr⟩ := letv_out hr
          refine W_cut (fun σ' w' => σ' 61 = .bool m54 ∧ Ext w46 w') rfl ?_ ?_
          · skip
            have hr := hm54
            refine da_op rfl (d_mv (v := .bool m27.2) rfl ?_)
            refine da_op rfl (d_not rfl ?_)
            refine da_op rfl (d_mv (v := .bool (!m27.2)) rfl ?_)
            rcases Bool.eq_false_or_eq_true m27.2 with hc58 | hc58
            · skip
              replace hr := bif_t hr hc58
              refine da_on rfl (Eq.trans (show sl _ _ _ = .bool (!m27.2) from rfl) (congrArg Value.bool (congrArg not hc58))) (d_mv (v := .bool m43.2) rfl ?_)
              refine da_on rfl (Eq.trans (show sl _ _ _ = .bool (!m27.2) from rfl) (congrArg Value.bool (congrArg not hc58))) (d_not rfl ?_)
              refine da_op rfl (d_pick (b := false) (Eq.trans (show ev _ _ = .bool (!m27.2) from rfl) (congrArg Value.bool (congrArg not hc58))) ?_)
              refine da_op rfl (d_mv (v := .bool (!m43.2)) rfl ?_)
              rcases Bool.eq_false_or_eq_true m43.2 with hc59 | hc59
              · skip
                replace hr := bif_t hr hc59
                refine da_on rfl (Eq.trans (show sl _ _ _ = .bool (!m43.2) from rfl) (congrArg Value.bool (congrArg not hc59))) (d_mv (v := (Value.slice q30_0a q30_0n q30_0c)) rfl ?_)
                refine da_on rfl (Eq.trans (show sl _ _ _ = .bool (!m43.2) from rfl) (congrArg Value.bool (congrArg not hc59))) (d_len (e := encI_i64) un65 rfl B57.rs ?_)
                refine da_on rfl (Eq.trans (show sl _ _ _ = .bool (!m43.2) from rfl) (congrArg Value.bool (congrArg not hc59))) (d_icmp cNeq rfl rfl ?_)
                refine da_op rfl (d_pick (b := false) (Eq.trans (show ev _ _ = .bool (!m43.2) from rfl) (congrArg Value.bool (congrArg not hc59))) ?_)
                refine da_op rfl (d_mv (v := .bool (icmp .neq ((m27.1).length : Int) 2)) rfl ?_)
                rcases Bool.eq_false_or_eq_true (icmp .neq ((m27.1).length : Int) 2) with hc60 | hc60
                · skip
                  replace hr := bif_t hr hc60
                  refine da_off rfl (Eq.trans (show sl _ _ _ = .bool (icmp .neq ((m27.1).length : Int) 2) from rfl) (congrArg Value.bool hc60)) (by decide) ?_
                  refine da_off rfl (Eq.trans (show sl _ _ _ = .bool (icmp .neq ((m27.1).length : Int) 2) from rfl) (congrArg Value.bool hc60)) (by decide) ?_
                  refine da_off rfl (Eq.trans (show sl _ _ _ = .bool (icmp .neq ((m27.1).length : Int) 2) from rfl) (congrArg Value.bool hc60)) (by decide) ?_
                  refine da_op rfl (d_pick (b := true) (Eq.trans (show ev _ _ = .bool (icmp .neq ((m27.1).length : Int) 2) from rfl) (congrArg Value.bool hc60)) ?_)
                  refine da_nil ?_
                  subst hr
                  exact ⟨rfl, (Ext.refl w46)⟩
                · skip
                  replace hr := bif_f hr hc60
                  refine da_on rfl (Eq.trans (show sl _ _ _ = .bool (icmp .neq ((m27.1).length : Int) 2) from rfl) (congrArg Value.bool hc60)) (d_mv (v := (Value.slice q46_0a q46_0n q46_0c)) rfl ?_)
                  refine da_on rfl (Eq.trans (show sl _ _ _ = .bool (icmp .neq ((m27.1).length : Int) 2) from rfl) (congrArg Value.bool hc60)) (d_len (e := encF_f32) un23 rfl q46_0R.rs ?_)
                  refine da_on rfl (Eq.trans (show sl _ _ _ = .bool (icmp .neq ((m27.1).length : Int) 2) from rfl) (congrArg Value.bool hc60)) (d_icmp cNeq rfl rfl ?_)
                  refine da_op rfl (d_pick (b := false) (Eq.trans (show ev _ _ = .bool (icmp .neq ((m27.1).length : Int) 2) from rfl) (congrArg Value.bool hc60)) ?_)
                  refine da_nil ?_
                  subst hr
                  exact ⟨rfl, (Ext.refl w46)⟩
              · skip
                replace hr := bif_f hr hc59
                refine da_off rfl (Eq.trans (show sl _ _ _ = .bool (!m43.2) from rfl) (congrArg Value.bool (congrArg not hc59))) (by decide) ?_
                refine da_off rfl (Eq.trans (show sl _ _ _ = .bool (!m43.2) from rfl) (congrArg Value.bool (congrArg not hc59))) (by decide) ?_
                refine da_off rfl (Eq.trans (show sl _ _ _ = .bool (!m43.2) from rfl) (congrArg Value.bool (congrArg not hc59))) (by decide) ?_
                refine da_op rfl (d_pick (b := true) (Eq.trans (show ev _ _ = .bool (!m43.2) from rfl) (congrArg Value.bool (congrArg not hc59))) ?_)
                refine da_op rfl (d_mv (v := .bool true) rfl ?_)
                refine da_off rfl rfl (by decide) ?_
                refine da_off rfl rfl (by decide) ?_
                refine da_off rfl rfl (by decide) ?_
                refine da_op rfl (d_pick (b := true) rfl ?_)
                refine da_nil ?_
                subst hr
                exact ⟨rfl, (Ext.refl w46)⟩
            · skip
              replace hr := bif_f hr hc58
              refine da_off rfl (Eq.trans (show sl _ _ _ = .bool (!m27.2) from rfl) (congrArg Value.bool (congrArg not hc58))) (by decide) ?_
              refine da_off rfl (Eq.trans (show sl _ _ _ = .bool (!m27.2) from rfl) (congrArg Value.bool (congrArg not hc58))) (by decide) ?_
              refine da_op rfl (d_pick (b := true) (Eq.trans (show ev _ _ = .bool (!m27.2) from rfl) (congrArg Value.bool (congrArg not hc58))) ?_)
              refine da_op rfl (d_mv (v := .bool true) rfl ?_)
              refine da_off rfl rfl (by decide) ?_
              refine da_off rfl rfl (by decide) ?_
              refine da_off rfl rfl (by decide) ?_
              refine da_op rfl (d_pick (b := true) rfl ?_)
              refine da_op rfl (d_mv (v := .bool true) rfl ?_)
              refine da_off rfl rfl (by decide) ?_
              refine da_off rfl rfl (by decide) ?_
              refine da_off rfl rfl (by decide) ?_
              refine da_op rfl (d_pick (b := true) rfl ?_)
              refine da_nil ?_
              subst hr
              exact ⟨rfl, (Ext.refl w46)⟩
          · skip
            rintro σ54 w54 o54 ⟨s61_54, E54⟩
            have s4_54 : σ54 4 = (Value.slice i9_0a i9_0n i9_0c) := (o54 4 rfl).trans i9_S4
            have s6_54 : σ54 6 = .int .i64 s9.2 := (o54 6 rfl).trans i9_S6
            have s5_54 : σ54 5 = (Value.slice q5_0a q5_0n q5_0c) := (o54 5 rfl).trans i9_S5
            have s8_54 : σ54 8 = (Value.slice q30_0a q30_0n q30_0c) := (o54 8 rfl).trans rfl
            have s10_54 : σ54 10 = (Value.slice q46_0a q46_0n q46_0c) := (o54 10 rfl).trans rfl
            have X61 : Ext w w54 := X53.trans E54
            refine W_cond (b := m54) s61_54 (fun hc62 => ?_) (fun hc62 => ?_)
            · skip
              replace hr := bif_t hr hc62
              refine W_seq ?_
              refine W_region rfl ?_
              refine da_op rfl (d_as (v := .slice none 0 0) rfl ?_)
              refine da_op rfl (d_as (v := .bool false) rfl ?_)
              refine da_nil ?_
              refine W_ret ?_
              obtain rfl := Option.some.inj hr
              exact ⟨_, rfl, rfl, none, 0, 0, rfl, rfl, (OS.nil _ 42 encSRod), (fun k hk => by cases hk), X61⟩
            · skip
              replace hr := bif_f hr hc62
              refine W_skip ?_
              have B64 : OS w54 9 encS (Value.slice q5_0a q5_0n q5_0c) m4 := B55.ext E54
              have B65 : OS w54 42 encSRod (Value.slice i9_0a i9_0n i9_0c) s9.1 := B56.ext E54
              have B66 : OS w54 2 encI_i64 (Value.slice q30_0a q30_0n q30_0c) m27.1 := B57.ext E54
              have B67 : OS w54 40 encF_f32 (Value.slice q46_0a q46_0n q46_0c) m43.1 := q46_0R.ext E54
              obtain ⟨m68, hm68, hr⟩ := bind_out hr
              obtain ⟨m69, hm69, hr⟩ := bind_out hr
              obtain ⟨m70, hm70, hr⟩ := bind_out hr
              obtain ⟨m71, hm71, hr⟩ := bind_out hr
              refine W_any [fun k _ => (Value.slice i9_0a i9_0n i9_0c).ownBlock = some k] [{ V := fun _ v _ => v = (Value.slice i9_0a i9_0n i9_0c) }, { V := fun _ v _ => v = (Value.slice q30_0a q30_0n q30_0c) }, { V := fun _ v _ => ∃ d63_2g : Nat, ∃ d63_2o : Nat, v = (.pointer (some ⟨d63_2g, d63_2o, none⟩)) ∧ EL encI_i64 (Value.slice q30_0a q30_0n q30_0c) (m27.1).length 0 d63_2g d63_2o }, { V := fun _ v _ => v = (.int .i64 m68) }, { V := fun _ v _ => v = (Value.slice q30_0a q30_0n q30_0c) }, { V := fun _ v _ => ∃ d63_5g : Nat, ∃ d63_5o : Nat, v = (.pointer (some ⟨d63_5g, d63_5o, none⟩)) ∧ EL encI_i64 (Value.slice q30_0a q30_0n q30_0c) (m27.1).length 1 d63_5g d63_5o }, { V := fun _ v _ => v = (.int .i64 m69) }, { V := fun _ v _ => v = (Value.slice q46_0a q46_0n q46_0c) }, { V := fun _ v _ => ∃ d63_8g : Nat, ∃ d63_8o : Nat, v = (.pointer (some ⟨d63_8g, d63_8o, none⟩)) ∧ EL encF_f32 (Value.slice q46_0a q46_0n q46_0c) (m43.1).length 0 d63_8g d63_8o }, { V := fun _ v _ => ∃ d63_8r0 : Nat, v = (.float .f32 d63_8r0) ∧ cn .f32 d63_8r0 = m70 }, { V := fun _ v _ => ∃ d63_8r0 : Nat, v = (.agg #[.int .i64 m68, .int .i64 m69, .float .f32 d63_8r0]) ∧ cn .f32 d63_8r0 = m70 }, { V := fun _ v w' => ∃ d63_11a : Option Addr, ∃ d63_11n : Nat, ∃ d63_11c : Nat, v = (Value.slice d63_11a d63_11n d63_11c) ∧ (∀ k, (Value.slice d63_11a d63_11n d63_11c).ownBlock = some k → w54.heap.size ≤ k) ∧ OS w' 42 encSRod (Value.slice d63_11a d63_11n d63_11c) ([(⟨m68, m69, m70⟩ : SRod)]) }, ⟨fun _ v w' => ∃ d63_12a : Option Addr, ∃ d63_12n : Nat, ∃ d63_12c : Nat, v = (Value.slice d63_12a d63_12n d63_12c) ∧ (∀ k, (Value.slice d63_12a d63_12n d63_12c).ownBlock = some k → (Value.slice i9_0a i9_0n i9_0c).ownBlock = some k ∨ w54.heap.size ≤ k) ∧ OS w' 42 encSRod (Value.slice d63_12a d63_12n d63_12c) m71, some 0, fun w' => OS w' 42 encSRod (Value.slice i9_0a i9_0n i9_0c) s9.1⟩, { V := fun sg v _ => v = sg 74 }] mixed (by kernel_rfl) ⟨trivial, trivial, trivial, trivial, trivial, trivial, trivial, trivial, trivial, trivial, trivial, trivial, B65, trivial, trivial⟩ ⟨?_, ?_, ?_, ?_, ?_, ?_, ?_, ?_, ?_, ?_, ?_, ?_, ?_, ?_, trivial⟩ ?_
              · skip
                refine ⟨fun _ _ _ _ _ _ h _ => h, fun _ _ h _ => h, fun σ' w' hA hE hD hP => ?_⟩
                have t4 : σ' 4 = (Value.slice i9_0a i9_0n i9_0c) := ((hP 13 _ _ rfl rfl (.inr rfl)).2 4 rfl).trans s4_54
                have B0_72 : OS w' 42 encSRod (Value.slice i9_0a i9_0n i9_0c) s9.1 := (hP 12 _ _ rfl rfl (.inr rfl)).1
                refine dg_op rfl (d_mv (v := (Value.slice i9_0a i9_0n i9_0c)) t4 ?_)
                exact ⟨rfl, own_none (Ext.refl w')⟩
              · skip
                refine ⟨fun _ _ _ _ _ _ h _ => h, fun _ _ h _ => h, fun σ' w' hA hE hD hP => ?_⟩
                have t8 : σ' 8 = (Value.slice q30_0a q30_0n q30_0c) := (hA 8 rfl).trans s8_54
                have B0_73 : OS w' 2 encI_i64 (Value.slice q30_0a q30_0n q30_0c) m27.1 := B66.frm hE (fun k hk => (not_oth1 ((apart_symm sp33) k hk)))
                refine dg_op rfl (d_mv (v := (Value.slice q30_0a q30_0n q30_0c)) t8 ?_)
                exact ⟨rfl, own_none (Ext.refl w')⟩
              · skip
                refine ⟨fun _ _ _ _ _ _ h _ => h, fun _ _ h _ => h, fun σ' w' hA hE hD hP => ?_⟩
                have t63 : σ' 63 = (Value.slice q30_0a q30_0n q30_0c) := hD 1 rfl
                have B0_74 : OS w' 2 encI_i64 (Value.slice q30_0a q30_0n q30_0c) m27.1 := B66.frm hE (fun k hk => (not_oth1 ((apart_symm sp33) k hk)))
                refine dg_op rfl (d_indexE (e := encI_i64) (v := (Value.slice q30_0a q30_0n q30_0c)) un65 size2 t63 rfl B0_74.rs hm68 fun g75 o75 l75 => ?_)
                exact ⟨⟨g75, o75, rfl, l75⟩, own_none (Ext.refl _)⟩
              · skip
                refine ⟨fun _ _ _ _ _ _ h _ => h, fun _ _ h _ => h, fun σ' w' hA hE hD hP => ?_⟩
                obtain ⟨d63_2g, d63_2o, t64, d63_2gE⟩ : ∃ d63_2g : Nat, ∃ d63_2o : Nat, σ' 64 = (.pointer (some ⟨d63_2g, d63_2o, none⟩)) ∧ EL encI_i64 (Value.slice q30_0a q30_0n q30_0c) (m27.1).length 0 d63_2g d63_2o := hD 2 rfl
                have B0_76 : OS w' 2 encI_i64 (Value.slice q30_0a q30_0n q30_0c) m27.1 := B66.frm hE (fun k hk => (not_oth1 ((apart_symm sp33) k hk)))
                obtain ⟨d63_2c, d63_2T, d63_2f, d63_2vs, d63_2hg, d63_2P, d63_2hq⟩ := RS.el B0_76.rs d63_2gE hm68
                obtain rfl := dec_encI_i64 d63_2hq
                refine dg_op rfl (d_load (v := .int .i64 m68) t64 agg2 d63_2hg (sub_get (vs := #[.int .i64 m68]) d63_2P (i := 0) rfl) ?_)
                exact ⟨rfl, own_none (Ext.refl w')⟩
              · skip
                refine ⟨fun _ _ _ _ _ _ h _ => h, fun _ _ h _ => h, fun σ' w' hA hE hD hP => ?_⟩
                have t8 : σ' 8 = (Value.slice q30_0a q30_0n q30_0c) := (hA 8 rfl).trans s8_54
                have B0_77 : OS w' 2 encI_i64 (Value.slice q30_0a q30_0n q30_0c) m27.1 := B66.frm hE (fun k hk => (not_oth1 ((apart_symm sp33) k hk)))
                refine dg_op rfl (d_mv (v := (Value.slice q30_0a q30_0n q30_0c)) t8 ?_)
                exact ⟨rfl, own_none (Ext.refl w')⟩
              · skip
                refine ⟨fun _ _ _ _ _ _ h _ => h, fun _ _ h _ => h, fun σ' w' hA hE hD hP => ?_⟩
                have t66 : σ' 66 = (Value.slice q30_0a q30_0n q30_0c) := hD 4 rfl
                have B0_78 : OS w' 2 encI_i64 (Value.slice q30_0a q30_0n q30_0c) m27.1 := B66.frm hE (fun k hk => (not_oth1 ((apart_symm sp33) k hk)))
                refine dg_op rfl (d_indexE (e := encI_i64) (v := (Value.slice q30_0a q30_0n q30_0c)) un65 size2 t66 rfl B0_78.rs hm69 fun g79 o79 l79 => ?_)
                exact ⟨⟨g79, o79, rfl, l79⟩, own_none (Ext.refl _)⟩
              · skip
                refine ⟨fun _ _ _ _ _ _ h _ => h, fun _ _ h _ => h, fun σ' w' hA hE hD hP => ?_⟩
                obtain ⟨d63_5g, d63_5o, t67, d63_5gE⟩ : ∃ d63_5g : Nat, ∃ d63_5o : Nat, σ' 67 = (.pointer (some ⟨d63_5g, d63_5o, none⟩)) ∧ EL encI_i64 (Value.slice q30_0a q30_0n q30_0c) (m27.1).length 1 d63_5g d63_5o := hD 5 rfl
                have B0_80 : OS w' 2 encI_i64 (Value.slice q30_0a q30_0n q30_0c) m27.1 := B66.frm hE (fun k hk => (not_oth1 ((apart_symm sp33) k hk)))
                obtain ⟨d63_5c, d63_5T, d63_5f, d63_5vs, d63_5hg, d63_5P, d63_5hq⟩ := RS.el B0_80.rs d63_5gE hm69
                obtain rfl := dec_encI_i64 d63_5hq
                refine dg_op rfl (d_load (v := .int .i64 m69) t67 agg2 d63_5hg (sub_get (vs := #[.int .i64 m69]) d63_5P (i := 0) rfl) ?_)
                exact ⟨rfl, own_none (Ext.refl w')⟩
              · skip
                refine ⟨fun _ _ _ _ _ _ h _ => h, fun _ _ h _ => h, fun σ' w' hA hE hD hP => ?_⟩
                have t10 : σ' 10 = (Value.slice q46_0a q46_0n q46_0c) := (hA 10 rfl).trans s10_54
                have B0_81 : OS w' 40 encF_f32 (Value.slice q46_0a q46_0n q46_0c) m43.1 := B67.frm hE (fun k hk => (not_oth1 ((apart_symm sp49) k hk)))
                refine dg_op rfl (d_mv (v := (Value.slice q46_0a q46_0n q46_0c)) t10 ?_)
                exact ⟨rfl, own_none (Ext.refl w')⟩
              · skip
                refine ⟨fun _ _ _ _ _ _ h _ => h, fun _ _ h _ => h, fun σ' w' hA hE hD hP => ?_⟩
                have t69 : σ' 69 = (Value.slice q46_0a q46_0n q46_0c) := hD 7 rfl
                have B0_82 : OS w' 40 encF_f32 (Value.slice q46_0a q46_0n q46_0c) m43.1 := B67.frm hE (fun k hk => (not_oth1 ((apart_symm sp49) k hk)))
                refine dg_op rfl (d_indexE (e := encF_f32) (v := (Value.slice q46_0a q46_0n q46_0c)) un23 size40 t69 rfl B0_82.rs hm70 fun g83 o83 l83 => ?_)
                exact ⟨⟨g83, o83, rfl, l83⟩, own_none (Ext.refl _)⟩
              · skip
                refine ⟨fun _ _ _ _ _ _ h _ => h, fun _ _ h _ => h, fun σ' w' hA hE hD hP => ?_⟩
                obtain ⟨d63_8g, d63_8o, t70, d63_8gE⟩ : ∃ d63_8g : Nat, ∃ d63_8o : Nat, σ' 70 = (.pointer (some ⟨d63_8g, d63_8o, none⟩)) ∧ EL encF_f32 (Value.slice q46_0a q46_0n q46_0c) (m43.1).length 0 d63_8g d63_8o := hD 8 rfl
                have B0_84 : OS w' 40 encF_f32 (Value.slice q46_0a q46_0n q46_0c) m43.1 := B67.frm hE (fun k hk => (not_oth1 ((apart_symm sp49) k hk)))
                obtain ⟨d63_8c, d63_8T, d63_8f, d63_8vs, d63_8hg, d63_8P, d63_8hq⟩ := RS.el B0_84.rs d63_8gE hm70
                obtain ⟨d63_8r0, rfl, d63_8h0⟩ := dec_encF_f32 d63_8hq
                refine dg_op rfl (d_load (v := .float .f32 d63_8r0) t70 agg40 d63_8hg (sub_get (vs := #[.float .f32 d63_8r0]) d63_8P (i := 0) rfl) ?_)
                exact ⟨⟨d63_8r0, rfl, d63_8h0⟩, own_none (Ext.refl w')⟩
              · skip
                refine ⟨fun _ _ _ _ _ _ h _ => h, fun _ _ h _ => h, fun σ' w' hA hE hD hP => ?_⟩
                have t65 : σ' 65 = (.int .i64 m68) := hD 3 rfl
                have t68 : σ' 68 = (.int .i64 m69) := hD 6 rfl
                obtain ⟨d63_8r0, t71, d63_8h0⟩ : ∃ d63_8r0 : Nat, σ' 71 = (.float .f32 d63_8r0) ∧ cn .f32 d63_8r0 = m70 := hD 9 rfl
                refine dg_op rfl (d_bd (vs := [(0, .int .i64 m68), (1, .int .i64 m69), (2, .float .f32 d63_8r0)]) (cs := #[.int .i64 m68, .int .i64 m69, .float .f32 d63_8r0]) (pc t65 (pc t68 (pc t71 rfl))) (by kernel_rfl) ?_)
                exact ⟨⟨d63_8r0, rfl, d63_8h0⟩, own_none (Ext.refl w')⟩
              · skip
                refine ⟨fun _ _ _ w' w'' _ ⟨d63_11a, d63_11n, d63_11c, hv, d63_11L, d63_11R⟩ hF => ⟨d63_11a, d63_11n, d63_11c, hv, d63_11L, d63_11R.frm hF (fun k hk => (not_oth1 (nb_row B65 (d63_11L k hk))))⟩, fun _ _ h _ => h, fun σ' w' hA hE hD hP => ?_⟩
                obtain ⟨d63_8r0, t72, d63_8h0⟩ : ∃ d63_8r0 : Nat, σ' 72 = (.agg #[.int .i64 m68, .int .i64 m69, .float .f32 d63_8r0]) ∧ cn .f32 d63_8r0 = m70 := hD 10 rfl
                refine dg_op rfl (d_bslice (vs := [(0, .agg #[.int .i64 m68, .int .i64 m69, .float .f32 d63_8r0])]) (cs := #[.int .i64 m68, .int .i64 m69, .float .f32 d63_8r0]) un24 (pc t72 rfl) (by kernel_rfl) fun w85 B85 E85 => ?_)
                have fr85 : ∀ k, (Value.slice (some ⟨w'.heap.size, 0, none⟩) 1 1).ownBlock = some k → w'.heap.size ≤ k := fun k hk => by cases hk; exact Nat.le_refl _
                have X86 : Ext w' w85 := (Ext.refl w').trans E85
                have O85 : OS w85 42 encSRod (Value.slice (some ⟨w'.heap.size, 0, none⟩) 1 1) [(⟨m68, m69, m70⟩ : SRod)] := OS.box (xs := [(⟨m68, m69, m70⟩ : SRod)]) B85 (lc_v rfl (lc_v rfl (lc_f d63_8h0 rfl))) (Nat.le_of_ble_eq_true rfl)
                exact ⟨⟨(some ⟨w'.heap.size, 0, none⟩), 1, 1, rfl, (fun k hk => Nat.le_trans hE.size (fr85 k hk)), O85⟩, own_none X86⟩
              · skip
                refine ⟨fun _ _ _ w' w'' _ ⟨d63_12a, d63_12n, d63_12c, hv, d63_12L, d63_12R⟩ hF => ⟨d63_12a, d63_12n, d63_12c, hv, d63_12L, d63_12R.frm hF (fun k hk => not_oth1s)⟩, fun _ _ h hF => h.frm hF (fun k hk => not_oth1s), fun σ' w' hA hE hD hP => ?_⟩
                have t62 : σ' 62 = (Value.slice i9_0a i9_0n i9_0c) := hD 0 rfl
                obtain ⟨d63_11a, d63_11n, d63_11c, t73, d63_11L, d63_11R⟩ : ∃ d63_11a : Option Addr, ∃ d63_11n : Nat, ∃ d63_11c : Nat, σ' 73 = (Value.slice d63_11a d63_11n d63_11c) ∧ (∀ k, (Value.slice d63_11a d63_11n d63_11c).ownBlock = some k → w54.heap.size ≤ k) ∧ OS w' 42 encSRod (Value.slice d63_11a d63_11n d63_11c) ([(⟨m68, m69, m70⟩ : SRod)]) := hD 11 rfl
                have B0_87 : OS w' 42 encSRod (Value.slice i9_0a i9_0n i9_0c) s9.1 := (hP 12 _ _ rfl rfl (.inl rfl)).1
                refine dg_op rfl (d_append (e := encSRod) (v := (Value.slice i9_0a i9_0n i9_0c)) (y := (Value.slice d63_11a d63_11n d63_11c)) un24 info42 rfl (by kernel_rfl) (by kernel_rfl) (by decide) (by decide) t62 t73 B0_87 d63_11R.rs hm71 fun v88 w88 O88 Fm88 at_88 nl88 => ?_)
                obtain ⟨v88pa, v88pn, v88pc, rfl⟩ := O88.vals
                exact ⟨⟨v88pa, v88pn, v88pc, rfl, (app_loc at_88 hE.size), O88⟩, own_some (j := 0) rfl Fm88⟩
              · skip
                refine ⟨fun _ _ _ _ _ hs h _ => h.trans (hs 12 rfl).symm, fun _ _ h _ => h, fun σ' w' hA hE hD hP => ?_⟩
                exact dg_op rfl (d_as rfl ⟨rfl, own_none (Ext.refl _)⟩)
              · skip
                intro σ63 w63 A63 E63 V63
                obtain ⟨z63_4_12a, z63_4_12n, z63_4_12c, s4_63, z63_4_12L, z63_4_12R⟩ : ∃ z63_4_12a : Option Addr, ∃ z63_4_12n : Nat, ∃ z63_4_12c : Nat, σ63 74 = (Value.slice z63_4_12a z63_4_12n z63_4_12c) ∧ (∀ k, (Value.slice z63_4_12a z63_4_12n z63_4_12c).ownBlock = some k → (Value.slice i9_0a i9_0n i9_0c).ownBlock = some k ∨ w54.heap.size ≤ k) ∧ OS w63 42 encSRod (Value.slice z63_4_12a z63_4_12n z63_4_12c) m71 := V63 12 (Nat.le_of_ble_eq_true rfl)
                have own89 : ∀ k, (Value.slice z63_4_12a z63_4_12n z63_4_12c).ownBlock = some k → w.heap.size ≤ k := app_own2 z63_4_12L i9_0O X61.size
                have sp90 : ∀ k, (Value.slice q5_0a q5_0n q5_0c).ownBlock = some k → ¬ (Value.slice z63_4_12a z63_4_12n z63_4_12c).ownBlock = some k := app_nr2 z63_4_12L i9_A0 B64
                have sp91 : ∀ k, (Value.slice q30_0a q30_0n q30_0c).ownBlock = some k → ¬ (Value.slice z63_4_12a z63_4_12n z63_4_12c).ownBlock = some k := app_nr2 z63_4_12L (apart_symm sp33) B66
                have sp92 : ∀ k, (Value.slice q46_0a q46_0n q46_0c).ownBlock = some k → ¬ (Value.slice z63_4_12a z63_4_12n z63_4_12c).ownBlock = some k := app_nr2 z63_4_12L (apart_symm sp49) B67
                have s6_63 : σ63 6 = .int .i64 s9.2 := (A63 6 rfl).trans s6_54
                have s5_63 : σ63 5 = (Value.slice q5_0a q5_0n q5_0c) := (A63 5 rfl).trans s5_54
                have X93 : Ext w w63 := Ext.step X61 E63 (oth_own1 (fun k _ hk => i9_0O k hk))
                refine W_region rfl ?_
                refine da_op rfl (d_mv (v := .int .i64 s9.2) s6_63 ?_)
                refine da_op rfl (d_iarith rfl rfl (.inl ⟨rfl, rfl⟩) ?_)
                refine da_op rfl (d_as (v := .int .i64 (IntKind.i64.wrap (s9.2 + 1))) rfl ?_)
                refine da_nil ?_
                have B94 : OS w63 9 encS (Value.slice q5_0a q5_0n q5_0c) m4 := B64.frm E63 (fun k hk => (not_oth1 (i9_A0 k hk)))
                obtain rfl := Option.some.inj hr
                exact ⟨_, rfl, ⟨z63_4_12a, z63_4_12n, z63_4_12c, (Eq.trans (show σ63 4 = σ63 74 from V63 13 (Nat.le_of_ble_eq_true rfl)) s4_63), rfl, s5_63, z63_4_12R, own89, B94, sp90, X93⟩⟩
      · skip
        replace hr := bif_f hr hc11
        refine W_exit ?_
        obtain rfl := Option.some.inj hr
        exact ⟨_, rfl, rfl, i9_0a, i9_0n, i9_0c, i9_S4, i9_0R, i9_0O, i9_X⟩
    · skip
      intro ex σx9 wx9 hq
      rcases m9 with m9 | m9
      · skip
        obtain ⟨rfl, q9_0_0a, q9_0_0n, q9_0_0c, q9_0_S4, q9_0_0R, q9_0_0O, q9_0_X⟩ := hq
        refine W_seq ?_
        refine W_region rfl ?_
        refine da_op rfl (d_mv (v := (Value.slice q9_0_0a q9_0_0n q9_0_0c)) q9_0_S4 ?_)
        refine da_op rfl (d_as (v := (Value.slice q9_0_0a q9_0_0n q9_0_0c)) rfl ?_)
        refine da_op rfl (d_as (v := .bool true) rfl ?_)
        refine da_nil ?_
        refine W_ret ?_
        obtain rfl := Option.some.inj hr
        refine ⟨_, res2 (rv_tmp rfl) (rv_tmp rfl), ?_⟩
        exact ⟨q9_0_0a, q9_0_0n, q9_0_0c, rfl, q9_0_0R, q9_0_0O, q9_0_X⟩
      · skip
        obtain ⟨rfl, q9_1_0a, q9_1_0n, q9_1_0c, q9_1_S2, q9_1_S3, q9_1_0R, q9_1_0O, q9_1_X⟩ := hq
        obtain rfl := Option.some.inj hr
        refine ⟨_, res2 (rv_tmp q9_1_S2) (rv_tmp q9_1_S3), ?_⟩
        exact ⟨q9_1_0a, q9_1_0n, q9_1_0c, rfl, q9_1_0R, q9_1_0O, q9_1_X⟩
set_option maxHeartbeats 4000000 in
theorem c82 (p0 : Nat) (p0r : Nat) (r : Bool) (w : World) (hr : M.spec_l01Finite p0 = r) (p0h : cn .f32 p0r = p0) :
    Calls Tryz.prog 82 #[.float .f32 p0r] w fun e w' => e = .returned (.bool r) ∧ Ext w w' := by
  refine calls_of_W Tryz.func82 rfl (Nat.le_of_ble_eq_true rfl) ?_
  refine W_seq ?_
  refine W_region rfl ?_
  refine da_op rfl (d_as (v := .bool false) rfl ?_)
  refine da_nil ?_
  refine W_seq ?_
  refine W_region rfl ?_
  refine da_op rfl (d_mv (v := .float .f32 p0r) rfl ?_)
  refine da_op rfl (d_mv (v := .float .f32 p0r) rfl ?_)
  refine da_op rfl (d_fop (k := .f32) fSub rfl rfl p0h p0h fun r1 w1 h1 _ E1 => ?_)
  have X2 : Ext w w1 := (Ext.refl w).trans E1
  refine da_op rfl (d_fcmp (k := .f32) cEql rfl rfl h1 cn_f32_0 ?_)
  refine da_op rfl (d_as (v := .bool (fcmp .eql .f32 (fop .sub .f32 p0 p0) 0)) rfl ?_)
  refine da_nil ?_
  refine W_ret ?_
  subst hr
  refine ⟨_, res1 (rv_tmp rfl), ?_⟩
  exact ⟨rfl, X2⟩
set_option maxHeartbeats 4000000 in
theorem c64 (p0 : SVector) (p0r0 : Nat) (p0r1 : Nat) (p0r2 : Nat) (r : Bool) (w : World) (hr : M.spec_l01VFinite p0 = r) (p0h0 : cn .f32 p0r0 = p0.x) (p0h1 : cn .f32 p0r1 = p0.y) (p0h2 : cn .f32 p0r2 = p0.z) :
    Calls Tryz.prog 64 #[.agg #[.float .f32 p0r0, .float .f32 p0r1, .float .f32 p0r2]] w fun e w' => e = .returned (.bool r) ∧ Ext w w' := by
  refine calls_of_W Tryz.func64 rfl (Nat.le_of_ble_eq_true rfl) ?_
  refine W_seq ?_
  refine W_region rfl ?_
  refine da_op rfl (d_box (cs := #[.float .f32 p0r0, .float .f32 p0r1, .float .f32 p0r2]) rfl fun w1 B1 E1 => ?_)
  have own2 : w.heap.size ≤ w.heap.size := Nat.le_trans (Ext.refl w).size (Nat.le_refl _)
  have X3 : Ext w w1 := (Ext.refl w).trans E1
  refine da_op rfl (d_as (v := .bool false) rfl ?_)
  refine da_nil ?_
  refine W_seq ?_
  obtain ⟨m4, hm4, hr⟩ := letv_out hr
  refine W_cut (fun σ' w' => σ' 2 = .bool m4 ∧ Ext w1 w') rfl ?_ ?_
  · skip
    have hr := hm4
    refine da_op rfl (d_fieldAddr rfl (fa57_0 _ _) ?_)
    refine da_op rfl (d_load (v := .float .f32 p0r0) rfl agg40 B1 rfl ?_)
    obtain ⟨m5, hm5, hr⟩ := letv_out hr
    refine da_op rfl (d_cl (vs := [.float .f32 p0r0]) en82 (ac rfl rfl) rfl ?_)
    refine (c82 p0.x p0r0 m5 w1 hm5 p0h0).mono ?_
    rintro _ w6 ⟨rfl, E6⟩
    refine ⟨_, rfl, ?_⟩
    have X7 : Ext w w6 := X3.trans E6
    refine da_op rfl (d_mv (v := .bool m5) rfl ?_)
    rcases Bool.eq_false_or_eq_true m5 with hc8 | hc8
    · skip
      replace hr := bif_t hr hc8
      refine da_on rfl (Eq.trans (show sl _ _ _ = .bool m5 from rfl) (congrArg Value.bool hc8)) (d_fieldAddr rfl (fa57_1 _ _) ?_)
      have B9 : w6.heap[w.heap.size]? = some (.cells #[.float .f32 p0r0, .float .f32 p0r1, .float .f32 p0r2] 57 (0, 0)) := E6.heap B1
      refine da_on rfl (Eq.trans (show sl _ _ _ = .bool m5 from rfl) (congrArg Value.bool hc8)) (d_load (v := .float .f32 p0r1) rfl agg40 B9 rfl ?_)
      obtain ⟨m10, hm10, hr⟩ := letv_out hr
      refine da_on rfl (Eq.trans (show sl _ _ _ = .bool m5 from rfl) (congrArg Value.bool hc8)) (d_cl (vs := [.float .f32 p0r1]) en82 (ac rfl rfl) rfl ?_)
      refine (c82 p0.y p0r1 m10 w6 hm10 p0h1).mono ?_
      rintro _ w11 ⟨rfl, E11⟩
      refine ⟨_, rfl, ?_⟩
      have X12 : Ext w w11 := X7.trans E11
      refine da_op rfl (d_pick (b := true) (Eq.trans (show ev _ _ = .bool m5 from rfl) (congrArg Value.bool hc8)) ?_)
      refine da_op rfl (d_mv (v := .bool m10) rfl ?_)
      rcases Bool.eq_false_or_eq_true m10 with hc13 | hc13
      · skip
        replace hr := bif_t hr hc13
        refine da_on rfl (Eq.trans (show sl _ _ _ = .bool m10 from rfl) (congrArg Value.bool hc13)) (d_fieldAddr rfl (fa57_2 _ _) ?_)
        have B14 : w11.heap[w.heap.size]? = some (.cells #[.float .f32 p0r0, .float .f32 p0r1, .float .f32 p0r2] 57 (0, 0)) := E11.heap B9
        refine da_on rfl (Eq.trans (show sl _ _ _ = .bool m10 from rfl) (congrArg Value.bool hc13)) (d_load (v := .float .f32 p0r2) rfl agg40 B14 rfl ?_)
        obtain ⟨m15, hm15, hr⟩ := letv_out hr
        refine da_on rfl (Eq.trans (show sl _ _ _ = .bool m10 from rfl) (congrArg Value.bool hc13)) (d_cl (vs := [.float .f32 p0r2]) en82 (ac rfl rfl) rfl ?_)
        refine (c82 p0.z p0r2 m15 w11 hm15 p0h2).mono ?_
        rintro _ w16 ⟨rfl, E16⟩
        refine ⟨_, rfl, ?_⟩
        have X17 : Ext w w16 := X12.trans E16
        refine da_op rfl (d_pick (b := true) (Eq.trans (show ev _ _ = .bool m10 from rfl) (congrArg Value.bool hc13)) ?_)
        refine da_op rfl (d_as (v := .bool m15) rfl ?_)
        refine da_nil ?_
        subst hr
        exact ⟨rfl, (Ext.trans (Ext.trans (Ext.trans (Ext.refl w1) E6) E11) E16)⟩
      · skip
        replace hr := bif_f hr hc13
        refine da_off rfl (Eq.trans (show sl _ _ _ = .bool m10 from rfl) (congrArg Value.bool hc13)) (by decide) ?_
        refine da_off rfl (Eq.trans (show sl _ _ _ = .bool m10 from rfl) (congrArg Value.bool hc13)) (by decide) ?_
        refine da_off rfl (Eq.trans (show sl _ _ _ = .bool m10 from rfl) (congrArg Value.bool hc13)) (by decide) ?_
        refine da_op rfl (d_pick (b := false) (Eq.trans (show ev _ _ = .bool m10 from rfl) (congrArg Value.bool hc13)) ?_)
        refine da_op rfl (d_as (v := .bool false) rfl ?_)
        refine da_nil ?_
        subst hr
        exact ⟨rfl, (Ext.trans (Ext.trans (Ext.refl w1) E6) E11)⟩
    · skip
      replace hr := bif_f hr hc8
      refine da_off rfl (Eq.trans (show sl _ _ _ = .bool m5 from rfl) (congrArg Value.bool hc8)) (by decide) ?_
      refine da_off rfl (Eq.trans (show sl _ _ _ = .bool m5 from rfl) (congrArg Value.bool hc8)) (by decide) ?_
      refine da_off rfl (Eq.trans (show sl _ _ _ = .bool m5 from rfl) (congrArg Value.bool hc8)) (by decide) ?_
      refine da_op rfl (d_pick (b := false) (Eq.trans (show ev _ _ = .bool m5 from rfl) (congrArg Value.bool hc8)) ?_)
      refine da_op rfl (d_mv (v := .bool false) rfl ?_)
      refine da_off rfl rfl (by decide) ?_
      refine da_off rfl rfl (by decide) ?_
      refine da_off rfl rfl (by decide) ?_
      refine da_op rfl (d_pick (b := false) rfl ?_)
      refine da_op rfl (d_as (v := .bool false) rfl ?_)
      refine da_nil ?_
      subst hr
      exact ⟨rfl, (Ext.trans (Ext.refl w1) E6)⟩
  · skip
    rintro σ4 w4 o4 ⟨s2_4, E4⟩
    have X18 : Ext w w4 := X3.trans E4
    refine W_ret ?_
    subst hr
    refine ⟨_, res1 (rv_tmp s2_4), ?_⟩
    exact ⟨rfl, X18⟩
set_option maxHeartbeats 4000000 in
theorem c65 (p0 : Nat) (p0r : Nat) (r : Bool) (w : World) (hr : M.spec_l03Least p0 = r) (p0h : cn .f32 p0r = p0) :
    Calls Tryz.prog 65 #[.float .f32 p0r] w fun e w' => e = .returned (.bool r) ∧ Ext w w' := by
  refine calls_of_W Tryz.func65 rfl (Nat.le_of_ble_eq_true rfl) ?_
  refine W_seq ?_
  refine W_region rfl ?_
  refine da_op rfl (d_as (v := .bool false) rfl ?_)
  refine da_nil ?_
  refine W_seq ?_
  obtain ⟨m1, hm1, hr⟩ := letv_out hr
  refine W_cut (fun σ' w' => σ' 2 = .bool m1 ∧ Ext w w') rfl ?_ ?_
  · skip
    have hr := hm1
    refine da_op rfl (d_mv (v := .float .f32 p0r) rfl ?_)
    obtain ⟨m2, hm2, hr⟩ := letv_out hr
    refine da_op rfl (d_cl (vs := [.float .f32 p0r]) en82 (ac rfl rfl) rfl ?_)
    refine (c82 p0 p0r m2 w hm2 p0h).mono ?_
    rintro _ w3 ⟨rfl, E3⟩
    refine ⟨_, rfl, ?_⟩
    have X4 : Ext w w3 := (Ext.refl w).trans E3
    refine da_op rfl (d_mv (v := .bool m2) rfl ?_)
    rcases Bool.eq_false_or_eq_true m2 with hc5 | hc5
    · skip
      replace hr := bif_t hr hc5
      refine da_on rfl (Eq.trans (show sl _ _ _ = .bool m2 from rfl) (congrArg Value.bool hc5)) (d_mv (v := .float .f32 p0r) rfl ?_)
      refine da_on rfl (Eq.trans (show sl _ _ _ = .bool m2 from rfl) (congrArg Value.bool hc5)) (d_fcmp (k := .f32) cGeq rfl rfl p0h cn_f32_0 ?_)
      refine da_op rfl (d_pick (b := true) (Eq.trans (show ev _ _ = .bool m2 from rfl) (congrArg Value.bool hc5)) ?_)
      refine da_op rfl (d_as (v := .bool (fcmp .geq .f32 p0 0)) rfl ?_)
      refine da_nil ?_
      subst hr
      exact ⟨rfl, (Ext.trans (Ext.refl w) E3)⟩
    · skip
      replace hr := bif_f hr hc5
      refine da_off rfl (Eq.trans (show sl _ _ _ = .bool m2 from rfl) (congrArg Value.bool hc5)) (by decide) ?_
      refine da_off rfl (Eq.trans (show sl _ _ _ = .bool m2 from rfl) (congrArg Value.bool hc5)) (by decide) ?_
      refine da_op rfl (d_pick (b := false) (Eq.trans (show ev _ _ = .bool m2 from rfl) (congrArg Value.bool hc5)) ?_)
      refine da_op rfl (d_as (v := .bool false) rfl ?_)
      refine da_nil ?_
      subst hr
      exact ⟨rfl, (Ext.trans (Ext.refl w) E3)⟩
  · skip
    rintro σ1 w1 o1 ⟨s2_1, E1⟩
    have X6 : Ext w w1 := (Ext.refl w).trans E1
    refine W_ret ?_
    subst hr
    refine ⟨_, res1 (rv_tmp s2_1), ?_⟩
    exact ⟨rfl, X6⟩
set_option maxHeartbeats 4000000 in
theorem c45 (p0 : SChain) (p0b p0o : Nat) (p0c : Array Value) (p0T : TypeId) (p0f : Nat × Nat) (p0v0a : Option Addr) (p0v0n : Nat) (p0v0c : Nat) (p0v1a : Option Addr) (p0v1n : Nat) (p0v1c : Nat) (p0v2a : Option Addr) (p0v2n : Nat) (p0v2c : Nat) (p0v3a : Option Addr) (p0v3n : Nat) (p0v3c : Nat) (r : Bool) (w : World) (hr : M.spec_l03Is p0 = some r) (p0v0R : RS w encSVector (Value.slice p0v0a p0v0n p0v0c) p0.places) (p0v1R : RS w encSVector (Value.slice p0v1a p0v1n p0v1c) p0.before) (p0v2R : RS w encF_f32 (Value.slice p0v2a p0v2n p0v2c) p0.weights) (p0v3R : RS w encSRod (Value.slice p0v3a p0v3n p0v3c) p0.rods) (p0B : w.heap[p0b]? = some (.cells p0c p0T p0f)) (p0P : (p0c.toList.drop p0o).take 4 = [(Value.slice p0v0a p0v0n p0v0c), (Value.slice p0v1a p0v1n p0v1c), (Value.slice p0v2a p0v2n p0v2c), (Value.slice p0v3a p0v3n p0v3c)]) :
    Calls Tryz.prog 45 #[.pointer (some ⟨p0b, p0o, none⟩)] w fun e w' => e = .returned (.bool r) ∧ Ext w w' := by
  refine calls_of_W Tryz.func45 rfl (Nat.le_of_ble_eq_true rfl) ?_
  refine W_seq ?_
  refine W_region rfl ?_
  refine da_op rfl (d_as (v := .bool false) rfl ?_)
  refine da_nil ?_
  refine W_seq ?_
  refine W_region rfl ?_
  refine da_op rfl (d_mv (v := .pointer (some ⟨p0b, p0o, none⟩)) rfl ?_)
  refine da_op rfl (d_nil rfl ?_)
  refine da_op rfl (d_fieldAddr rfl (fa26_0 _ _) ?_)
  refine da_op rfl (d_load (v := (Value.slice p0v0a p0v0n p0v0c)) rfl agg22 p0B (sub_get (vs := #[(Value.slice p0v0a p0v0n p0v0c), (Value.slice p0v1a p0v1n p0v1c), (Value.slice p0v2a p0v2n p0v2c), (Value.slice p0v3a p0v3n p0v3c)]) p0P (i := 0) rfl) ?_)
  refine da_op rfl (d_len (e := encSVector) un22 rfl p0v0R ?_)
  refine da_op rfl (d_as (v := .int .i64 ((p0.places).length : Int)) rfl ?_)
  refine da_nil ?_
  refine W_seq ?_
  refine W_seq ?_
  obtain ⟨m1, hm1, hr⟩ := letv_out hr
  refine W_cut (fun σ' w' => σ' 39 = .bool m1 ∧ Ext w w') rfl ?_ ?_
  · skip
    have hr := hm1
    refine da_op rfl (d_mv (v := .int .i64 ((p0.places).length : Int)) rfl ?_)
    refine da_op rfl (d_icmp cGtr rfl rfl ?_)
    refine da_op rfl (d_mv (v := .bool (icmp .gtr ((p0.places).length : Int) 24)) rfl ?_)
    rcases Bool.eq_false_or_eq_true (icmp .gtr ((p0.places).length : Int) 24) with hc2 | hc2
    · skip
      replace hr := bif_t hr hc2
      refine da_off rfl (Eq.trans (show sl _ _ _ = .bool (icmp .gtr ((p0.places).length : Int) 24) from rfl) (congrArg Value.bool hc2)) (by decide) ?_
      refine da_off rfl (Eq.trans (show sl _ _ _ = .bool (icmp .gtr ((p0.places).length : Int) 24) from rfl) (congrArg Value.bool hc2)) (by decide) ?_
      refine da_off rfl (Eq.trans (show sl _ _ _ = .bool (icmp .gtr ((p0.places).length : Int) 24) from rfl) (congrArg Value.bool hc2)) (by decide) ?_
      refine da_off rfl (Eq.trans (show sl _ _ _ = .bool (icmp .gtr ((p0.places).length : Int) 24) from rfl) (congrArg Value.bool hc2)) (by decide) ?_
      refine da_off rfl (Eq.trans (show sl _ _ _ = .bool (icmp .gtr ((p0.places).length : Int) 24) from rfl) (congrArg Value.bool hc2)) (by decide) ?_
      refine da_off rfl (Eq.trans (show sl _ _ _ = .bool (icmp .gtr ((p0.places).length : Int) 24) from rfl) (congrArg Value.bool hc2)) (by decide) ?_
      refine da_off rfl (Eq.trans (show sl _ _ _ = .bool (icmp .gtr ((p0.places).length : Int) 24) from rfl) (congrArg Value.bool hc2)) (by decide) ?_
      refine da_op rfl (d_pick (b := true) (Eq.trans (show ev _ _ = .bool (icmp .gtr ((p0.places).length : Int) 24) from rfl) (congrArg Value.bool hc2)) ?_)
      refine da_op rfl (d_mv (v := .bool true) rfl ?_)
      refine da_off rfl rfl (by decide) ?_
      refine da_off rfl rfl (by decide) ?_
      refine da_off rfl rfl (by decide) ?_
      refine da_off rfl rfl (by decide) ?_
      refine da_off rfl rfl (by decide) ?_
      refine da_off rfl rfl (by decide) ?_
      refine da_off rfl rfl (by decide) ?_
      refine da_op rfl (d_pick (b := true) rfl ?_)
      refine da_op rfl (d_mv (v := .bool true) rfl ?_)
      refine da_off rfl rfl (by decide) ?_
      refine da_off rfl rfl (by decide) ?_
      refine da_off rfl rfl (by decide) ?_
      refine da_off rfl rfl (by decide) ?_
      refine da_off rfl rfl (by decide) ?_
      refine da_off rfl rfl (by decide) ?_
      refine da_op rfl (d_pick (b := true) rfl ?_)
      refine da_nil ?_
      subst hr
      exact ⟨rfl, (Ext.refl w)⟩
    · skip
      replace hr := bif_f hr hc2
      refine da_on rfl (Eq.trans (show sl _ _ _ = .bool (icmp .gtr ((p0.places).length : Int) 24) from rfl) (congrArg Value.bool hc2)) (d_mv (v := .pointer (some ⟨p0b, p0o, none⟩)) rfl ?_)
      refine da_on rfl (Eq.trans (show sl _ _ _ = .bool (icmp .gtr ((p0.places).length : Int) 24) from rfl) (congrArg Value.bool hc2)) (d_nil rfl ?_)
      refine da_on rfl (Eq.trans (show sl _ _ _ = .bool (icmp .gtr ((p0.places).length : Int) 24) from rfl) (congrArg Value.bool hc2)) (d_fieldAddr rfl (fa26_1 _ _) ?_)
      refine da_on rfl (Eq.trans (show sl _ _ _ = .bool (icmp .gtr ((p0.places).length : Int) 24) from rfl) (congrArg Value.bool hc2)) (d_load (v := (Value.slice p0v1a p0v1n p0v1c)) rfl agg22 p0B (sub_get (vs := #[(Value.slice p0v0a p0v0n p0v0c), (Value.slice p0v1a p0v1n p0v1c), (Value.slice p0v2a p0v2n p0v2c), (Value.slice p0v3a p0v3n p0v3c)]) p0P (i := 1) rfl) ?_)
      refine da_on rfl (Eq.trans (show sl _ _ _ = .bool (icmp .gtr ((p0.places).length : Int) 24) from rfl) (congrArg Value.bool hc2)) (d_len (e := encSVector) un22 rfl p0v1R ?_)
      refine da_on rfl (Eq.trans (show sl _ _ _ = .bool (icmp .gtr ((p0.places).length : Int) 24) from rfl) (congrArg Value.bool hc2)) (d_mv (v := .int .i64 ((p0.places).length : Int)) rfl ?_)
      refine da_on rfl (Eq.trans (show sl _ _ _ = .bool (icmp .gtr ((p0.places).length : Int) 24) from rfl) (congrArg Value.bool hc2)) (d_icmp cNeq rfl rfl ?_)
      refine da_op rfl (d_pick (b := false) (Eq.trans (show ev _ _ = .bool (icmp .gtr ((p0.places).length : Int) 24) from rfl) (congrArg Value.bool hc2)) ?_)
      refine da_op rfl (d_mv (v := .bool (icmp .neq ((p0.before).length : Int) ((p0.places).length : Int))) rfl ?_)
      rcases Bool.eq_false_or_eq_true (icmp .neq ((p0.before).length : Int) ((p0.places).length : Int)) with hc3 | hc3
      · skip
        replace hr := bif_t hr hc3
        refine da_off rfl (Eq.trans (show sl _ _ _ = .bool (icmp .neq ((p0.before).length : Int) ((p0.places).length : Int)) from rfl) (congrArg Value.bool hc3)) (by decide) ?_
        refine da_off rfl (Eq.trans (show sl _ _ _ = .bool (icmp .neq ((p0.before).length : Int) ((p0.places).length : Int)) from rfl) (congrArg Value.bool hc3)) (by decide) ?_
        refine da_off rfl (Eq.trans (show sl _ _ _ = .bool (icmp .neq ((p0.before).length : Int) ((p0.places).length : Int)) from rfl) (congrArg Value.bool hc3)) (by decide) ?_
        refine da_off rfl (Eq.trans (show sl _ _ _ = .bool (icmp .neq ((p0.before).length : Int) ((p0.places).length : Int)) from rfl) (congrArg Value.bool hc3)) (by decide) ?_
        refine da_off rfl (Eq.trans (show sl _ _ _ = .bool (icmp .neq ((p0.before).length : Int) ((p0.places).length : Int)) from rfl) (congrArg Value.bool hc3)) (by decide) ?_
        refine da_off rfl (Eq.trans (show sl _ _ _ = .bool (icmp .neq ((p0.before).length : Int) ((p0.places).length : Int)) from rfl) (congrArg Value.bool hc3)) (by decide) ?_
        refine da_off rfl (Eq.trans (show sl _ _ _ = .bool (icmp .neq ((p0.before).length : Int) ((p0.places).length : Int)) from rfl) (congrArg Value.bool hc3)) (by decide) ?_
        refine da_op rfl (d_pick (b := true) (Eq.trans (show ev _ _ = .bool (icmp .neq ((p0.before).length : Int) ((p0.places).length : Int)) from rfl) (congrArg Value.bool hc3)) ?_)
        refine da_op rfl (d_mv (v := .bool true) rfl ?_)
        refine da_off rfl rfl (by decide) ?_
        refine da_off rfl rfl (by decide) ?_
        refine da_off rfl rfl (by decide) ?_
        refine da_off rfl rfl (by decide) ?_
        refine da_off rfl rfl (by decide) ?_
        refine da_off rfl rfl (by decide) ?_
        refine da_op rfl (d_pick (b := true) rfl ?_)
        refine da_nil ?_
        subst hr
        exact ⟨rfl, (Ext.refl w)⟩
      · skip
        replace hr := bif_f hr hc3
        refine da_on rfl (Eq.trans (show sl _ _ _ = .bool (icmp .neq ((p0.before).length : Int) ((p0.places).length : Int)) from rfl) (congrArg Value.bool hc3)) (d_mv (v := .pointer (some ⟨p0b, p0o, none⟩)) rfl ?_)
        refine da_on rfl (Eq.trans (show sl _ _ _ = .bool (icmp .neq ((p0.before).length : Int) ((p0.places).length : Int)) from rfl) (congrArg Value.bool hc3)) (d_nil rfl ?_)
        refine da_on rfl (Eq.trans (show sl _ _ _ = .bool (icmp .neq ((p0.before).length : Int) ((p0.places).length : Int)) from rfl) (congrArg Value.bool hc3)) (d_fieldAddr rfl (fa26_2 _ _) ?_)
        refine da_on rfl (Eq.trans (show sl _ _ _ = .bool (icmp .neq ((p0.before).length : Int) ((p0.places).length : Int)) from rfl) (congrArg Value.bool hc3)) (d_load (v := (Value.slice p0v2a p0v2n p0v2c)) rfl agg23 p0B (sub_get (vs := #[(Value.slice p0v0a p0v0n p0v0c), (Value.slice p0v1a p0v1n p0v1c), (Value.slice p0v2a p0v2n p0v2c), (Value.slice p0v3a p0v3n p0v3c)]) p0P (i := 2) rfl) ?_)
        refine da_on rfl (Eq.trans (show sl _ _ _ = .bool (icmp .neq ((p0.before).length : Int) ((p0.places).length : Int)) from rfl) (congrArg Value.bool hc3)) (d_len (e := encF_f32) un23 rfl p0v2R ?_)
        refine da_on rfl (Eq.trans (show sl _ _ _ = .bool (icmp .neq ((p0.before).length : Int) ((p0.places).length : Int)) from rfl) (congrArg Value.bool hc3)) (d_mv (v := .int .i64 ((p0.places).length : Int)) rfl ?_)
        refine da_on rfl (Eq.trans (show sl _ _ _ = .bool (icmp .neq ((p0.before).length : Int) ((p0.places).length : Int)) from rfl) (congrArg Value.bool hc3)) (d_icmp cNeq rfl rfl ?_)
        refine da_op rfl (d_pick (b := false) (Eq.trans (show ev _ _ = .bool (icmp .neq ((p0.before).length : Int) ((p0.places).length : Int)) from rfl) (congrArg Value.bool hc3)) ?_)
        refine da_op rfl (d_mv (v := .bool (icmp .neq ((p0.weights).length : Int) ((p0.places).length : Int))) rfl ?_)
        rcases Bool.eq_false_or_eq_true (icmp .neq ((p0.weights).length : Int) ((p0.places).length : Int)) with hc4 | hc4
        · skip
          replace hr := bif_t hr hc4
          refine da_off rfl (Eq.trans (show sl _ _ _ = .bool (icmp .neq ((p0.weights).length : Int) ((p0.places).length : Int)) from rfl) (congrArg Value.bool hc4)) (by decide) ?_
          refine da_off rfl (Eq.trans (show sl _ _ _ = .bool (icmp .neq ((p0.weights).length : Int) ((p0.places).length : Int)) from rfl) (congrArg Value.bool hc4)) (by decide) ?_
          refine da_off rfl (Eq.trans (show sl _ _ _ = .bool (icmp .neq ((p0.weights).length : Int) ((p0.places).length : Int)) from rfl) (congrArg Value.bool hc4)) (by decide) ?_
          refine da_off rfl (Eq.trans (show sl _ _ _ = .bool (icmp .neq ((p0.weights).length : Int) ((p0.places).length : Int)) from rfl) (congrArg Value.bool hc4)) (by decide) ?_
          refine da_off rfl (Eq.trans (show sl _ _ _ = .bool (icmp .neq ((p0.weights).length : Int) ((p0.places).length : Int)) from rfl) (congrArg Value.bool hc4)) (by decide) ?_
          refine da_off rfl (Eq.trans (show sl _ _ _ = .bool (icmp .neq ((p0.weights).length : Int) ((p0.places).length : Int)) from rfl) (congrArg Value.bool hc4)) (by decide) ?_
          refine da_op rfl (d_pick (b := true) (Eq.trans (show ev _ _ = .bool (icmp .neq ((p0.weights).length : Int) ((p0.places).length : Int)) from rfl) (congrArg Value.bool hc4)) ?_)
          refine da_nil ?_
          subst hr
          exact ⟨rfl, (Ext.refl w)⟩
        · skip
          replace hr := bif_f hr hc4
          refine da_on rfl (Eq.trans (show sl _ _ _ = .bool (icmp .neq ((p0.weights).length : Int) ((p0.places).length : Int)) from rfl) (congrArg Value.bool hc4)) (d_mv (v := .pointer (some ⟨p0b, p0o, none⟩)) rfl ?_)
          refine da_on rfl (Eq.trans (show sl _ _ _ = .bool (icmp .neq ((p0.weights).length : Int) ((p0.places).length : Int)) from rfl) (congrArg Value.bool hc4)) (d_nil rfl ?_)
          refine da_on rfl (Eq.trans (show sl _ _ _ = .bool (icmp .neq ((p0.weights).length : Int) ((p0.places).length : Int)) from rfl) (congrArg Value.bool hc4)) (d_fieldAddr rfl (fa26_3 _ _) ?_)
          refine da_on rfl (Eq.trans (show sl _ _ _ = .bool (icmp .neq ((p0.weights).length : Int) ((p0.places).length : Int)) from rfl) (congrArg Value.bool hc4)) (d_load (v := (Value.slice p0v3a p0v3n p0v3c)) rfl agg24 p0B (sub_get (vs := #[(Value.slice p0v0a p0v0n p0v0c), (Value.slice p0v1a p0v1n p0v1c), (Value.slice p0v2a p0v2n p0v2c), (Value.slice p0v3a p0v3n p0v3c)]) p0P (i := 3) rfl) ?_)
          refine da_on rfl (Eq.trans (show sl _ _ _ = .bool (icmp .neq ((p0.weights).length : Int) ((p0.places).length : Int)) from rfl) (congrArg Value.bool hc4)) (d_len (e := encSRod) un24 rfl p0v3R ?_)
          refine da_on rfl (Eq.trans (show sl _ _ _ = .bool (icmp .neq ((p0.weights).length : Int) ((p0.places).length : Int)) from rfl) (congrArg Value.bool hc4)) (d_icmp cGtr rfl rfl ?_)
          refine da_op rfl (d_pick (b := false) (Eq.trans (show ev _ _ = .bool (icmp .neq ((p0.weights).length : Int) ((p0.places).length : Int)) from rfl) (congrArg Value.bool hc4)) ?_)
          refine da_nil ?_
          subst hr
          exact ⟨rfl, (Ext.refl w)⟩
  · skip
    rintro σ1 w1 o1 ⟨s39_1, E1⟩
    have s0_1 : σ1 0 = .pointer (some ⟨p0b, p0o, none⟩) := (o1 0 rfl).trans rfl
    have s3_1 : σ1 3 = .int .i64 ((p0.places).length : Int) := (o1 3 rfl).trans rfl
    have X5 : Ext w w1 := (Ext.refl w).trans E1
    refine W_cond (b := m1) s39_1 (fun hc6 => ?_) (fun hc6 => ?_)
    · skip
      replace hr := bif_t hr hc6
      refine W_seq ?_
      refine W_region rfl ?_
      refine da_op rfl (d_as (v := .bool false) rfl ?_)
      refine da_nil ?_
      refine W_ret ?_
      obtain rfl := Option.some.inj hr
      refine ⟨_, res1 (rv_tmp rfl), ?_⟩
      exact ⟨rfl, X5⟩
    · skip
      replace hr := bif_f hr hc6
      refine W_skip ?_
      refine W_seq ?_
      refine W_seq ?_
      refine W_region rfl ?_
      refine da_op rfl (d_mv (v := .pointer (some ⟨p0b, p0o, none⟩)) s0_1 ?_)
      refine da_op rfl (d_nil rfl ?_)
      refine da_op rfl (d_fieldAddr rfl (fa26_0 _ _) ?_)
      have B7 : w1.heap[p0b]? = some (.cells p0c p0T p0f) := X5.heap p0B
      refine da_op rfl (d_load (v := (Value.slice p0v0a p0v0n p0v0c)) rfl agg22 B7 (sub_get (vs := #[(Value.slice p0v0a p0v0n p0v0c), (Value.slice p0v1a p0v1n p0v1c), (Value.slice p0v2a p0v2n p0v2c), (Value.slice p0v3a p0v3n p0v3c)]) p0P (i := 0) rfl) ?_)
      have B8 : RS w1 encSVector (Value.slice p0v0a p0v0n p0v0c) p0.places := p0v0R.ext X5
      refine da_op rfl (d_len (e := encSVector) un22 rfl B8 ?_)
      refine da_op rfl (d_mv (v := .int .i64 0) rfl ?_)
      refine da_nil ?_
      refine W_block ?_
      obtain ⟨m9, hm9, hr⟩ := bind_out hr
      refine W_loopM hm9 (fun (s9 : Int) σ w' => σ 45 = .int .i64 s9 ∧ σ 0 = .pointer (some ⟨p0b, p0o, none⟩) ∧ σ 3 = .int .i64 ((p0.places).length : Int) ∧ σ 44 = .int .i64 ((p0.places).length : Int) ∧ Ext w w') (fun (e9 : (Unit ⊕ Bool)) ex σ w' => sel e9 (fun e9 => ex = .exit 0 ∧ σ 0 = .pointer (some ⟨p0b, p0o, none⟩) ∧ σ 3 = .int .i64 ((p0.places).length : Int) ∧ Ext w w') (fun e9 => ex = .ret ∧ σ 2 = .bool e9 ∧ Ext w w')) ⟨rfl, s0_1, s3_1, rfl, X5⟩ ?_ ?_
      · skip
        rintro s9 σl9 wl9 r9l ⟨i9_S45, i9_S0, i9_S3, i9_S44, i9_X⟩ hr
        refine W_seq ?_
        refine W_region rfl ?_
        refine da_op rfl (d_icmp cLss i9_S45 i9_S44 ?_)
        refine da_nil ?_
        refine W_seq ?_
        refine W_cond (b := (icmp .lss s9 ((p0.places).length : Int))) rfl (fun hc10 => ?_) (fun hc10 => ?_)
        · skip
          replace hr := bif_t hr hc10
          refine W_skip ?_
          refine W_seq ?_
          refine W_block ?_
          refine W_seq ?_
          refine W_region rfl ?_
          refine da_op rfl (d_mv (v := .int .i64 s9) i9_S45 ?_)
          refine da_op rfl (d_as (v := .int .i64 s9) rfl ?_)
          refine da_nil ?_
          refine W_seq ?_
          obtain ⟨m11, hm11, hr⟩ := bind_out hr
          refine W_cut (fun σ' w' => σ' 78 = .bool m11 ∧ Ext wl9 w') rfl ?_ ?_
          · skip
            have hr := hm11
            refine da_op rfl (d_mv (v := .pointer (some ⟨p0b, p0o, none⟩)) i9_S0 ?_)
            refine da_op rfl (d_nil rfl ?_)
            refine da_op rfl (d_fieldAddr rfl (fa26_0 _ _) ?_)
            have B12 : wl9.heap[p0b]? = some (.cells p0c p0T p0f) := i9_X.heap p0B
            refine da_op rfl (d_load (v := (Value.slice p0v0a p0v0n p0v0c)) rfl agg22 B12 (sub_get (vs := #[(Value.slice p0v0a p0v0n p0v0c), (Value.slice p0v1a p0v1n p0v1c), (Value.slice p0v2a p0v2n p0v2c), (Value.slice p0v3a p0v3n p0v3c)]) p0P (i := 0) rfl) ?_)
            refine da_op rfl (d_mv (v := .int .i64 s9) rfl ?_)
            obtain ⟨m13, hm13, hr⟩ := bind_out hr
            have B15 : RS wl9 encSVector (Value.slice p0v0a p0v0n p0v0c) p0.places := p0v0R.ext i9_X
            refine da_op rfl (d_index (e := encSVector) (v := (Value.slice p0v0a p0v0n p0v0c)) un22 size57 rfl rfl B15 hm13 fun g14 o14 cu14 T14 fr14 vs14 hv14 hg14 hp14 hq14 => ?_)
            obtain ⟨e14_r0, e14_r1, e14_r2, rfl, e14_h0, e14_h1, e14_h2⟩ := dec_encSVector hq14
            refine da_op rfl (d_loads (vs := #[.float .f32 e14_r0, .float .f32 e14_r1, .float .f32 e14_r2]) rfl agg57 size57 hg14 (sub_take (vs := #[.float .f32 e14_r0, .float .f32 e14_r1, .float .f32 e14_r2]) (us := #[.float .f32 e14_r0, .float .f32 e14_r1, .float .f32 e14_r2]) (i := 0) hp14 rfl (Nat.le_of_ble_eq_true rfl)) ?_)
            obtain ⟨m16, hm16, hr⟩ := letv_out hr
            refine da_op rfl (d_cl (vs := [.agg #[.float .f32 e14_r0, .float .f32 e14_r1, .float .f32 e14_r2]]) en64 (ac rfl rfl) rfl ?_)
            refine (c64 m13 e14_r0 e14_r1 e14_r2 m16 wl9 hm16 e14_h0 e14_h1 e14_h2).mono ?_
            rintro _ w17 ⟨rfl, E17⟩
            refine ⟨_, rfl, ?_⟩
            have X18 : Ext w w17 := i9_X.trans E17
            refine da_op rfl (d_not rfl ?_)
            refine da_op rfl (d_mv (v := .bool (!m16)) rfl ?_)
            rcases Bool.eq_false_or_eq_true m16 with hc19 | hc19
            · skip
              replace hr := bif_t hr hc19
              refine da_on rfl (Eq.trans (show sl _ _ _ = .bool (!m16) from rfl) (congrArg Value.bool (congrArg not hc19))) (d_mv (v := .pointer (some ⟨p0b, p0o, none⟩)) i9_S0 ?_)
              refine da_on rfl (Eq.trans (show sl _ _ _ = .bool (!m16) from rfl) (congrArg Value.bool (congrArg not hc19))) (d_nil rfl ?_)
              refine da_on rfl (Eq.trans (show sl _ _ _ = .bool (!m16) from rfl) (congrArg Value.bool (congrArg not hc19))) (d_fieldAddr rfl (fa26_1 _ _) ?_)
              have B20 : w17.heap[p0b]? = some (.cells p0c p0T p0f) := X18.heap p0B
              refine da_on rfl (Eq.trans (show sl _ _ _ = .bool (!m16) from rfl) (congrArg Value.bool (congrArg not hc19))) (d_load (v := (Value.slice p0v1a p0v1n p0v1c)) rfl agg22 B20 (sub_get (vs := #[(Value.slice p0v0a p0v0n p0v0c), (Value.slice p0v1a p0v1n p0v1c), (Value.slice p0v2a p0v2n p0v2c), (Value.slice p0v3a p0v3n p0v3c)]) p0P (i := 1) rfl) ?_)
              refine da_on rfl (Eq.trans (show sl _ _ _ = .bool (!m16) from rfl) (congrArg Value.bool (congrArg not hc19))) (d_mv (v := .int .i64 s9) rfl ?_)
              obtain ⟨m21, hm21, hr⟩ := bind_out hr
              have B23 : RS w17 encSVector (Value.slice p0v1a p0v1n p0v1c) p0.before := p0v1R.ext X18
              refine da_on rfl (Eq.trans (show sl _ _ _ = .bool (!m16) from rfl) (congrArg Value.bool (congrArg not hc19))) (d_index (e := encSVector) (v := (Value.slice p0v1a p0v1n p0v1c)) un22 size57 rfl rfl B23 hm21 fun g22 o22 cu22 T22 fr22 vs22 hv22 hg22 hp22 hq22 => ?_)
              obtain ⟨e22_r0, e22_r1, e22_r2, rfl, e22_h0, e22_h1, e22_h2⟩ := dec_encSVector hq22
              refine da_on rfl (Eq.trans (show sl _ _ _ = .bool (!m16) from rfl) (congrArg Value.bool (congrArg not hc19))) (d_loads (vs := #[.float .f32 e22_r0, .float .f32 e22_r1, .float .f32 e22_r2]) rfl agg57 size57 hg22 (sub_take (vs := #[.float .f32 e22_r0, .float .f32 e22_r1, .float .f32 e22_r2]) (us := #[.float .f32 e22_r0, .float .f32 e22_r1, .float .f32 e22_r2]) (i := 0) hp22 rfl (Nat.le_of_ble_eq_true rfl)) ?_)
              obtain ⟨m24, hm24, hr⟩ := letv_out hr
              have B25 : w17.heap[g14]? = some (.cells cu14 T14 fr14) := E17.heap hg14
              refine da_on rfl (Eq.trans (show sl _ _ _ = .bool (!m16) from rfl) (congrArg Value.bool (congrArg not hc19))) (d_cl (vs := [.agg #[.float .f32 e22_r0, .float .f32 e22_r1, .float .f32 e22_r2]]) en64 (ac rfl rfl) rfl ?_)
              refine (c64 m21 e22_r0 e22_r1 e22_r2 m24 w17 hm24 e22_h0 e22_h1 e22_h2).mono ?_
              rintro _ w26 ⟨rfl, E26⟩
              refine ⟨_, rfl, ?_⟩
              have X27 : Ext w w26 := X18.trans E26
              refine da_on rfl (Eq.trans (show sl _ _ _ = .bool (!m16) from rfl) (congrArg Value.bool (congrArg not hc19))) (d_not rfl ?_)
              refine da_op rfl (d_pick (b := false) (Eq.trans (show ev _ _ = .bool (!m16) from rfl) (congrArg Value.bool (congrArg not hc19))) ?_)
              refine da_op rfl (d_mv (v := .bool (!m24)) rfl ?_)
              rcases Bool.eq_false_or_eq_true m24 with hc28 | hc28
              · skip
                replace hr := bif_t hr hc28
                refine da_on rfl (Eq.trans (show sl _ _ _ = .bool (!m24) from rfl) (congrArg Value.bool (congrArg not hc28))) (d_mv (v := .pointer (some ⟨p0b, p0o, none⟩)) i9_S0 ?_)
                refine da_on rfl (Eq.trans (show sl _ _ _ = .bool (!m24) from rfl) (congrArg Value.bool (congrArg not hc28))) (d_nil rfl ?_)
                refine da_on rfl (Eq.trans (show sl _ _ _ = .bool (!m24) from rfl) (congrArg Value.bool (congrArg not hc28))) (d_fieldAddr rfl (fa26_2 _ _) ?_)
                have B29 : w26.heap[p0b]? = some (.cells p0c p0T p0f) := X27.heap p0B
                refine da_on rfl (Eq.trans (show sl _ _ _ = .bool (!m24) from rfl) (congrArg Value.bool (congrArg not hc28))) (d_load (v := (Value.slice p0v2a p0v2n p0v2c)) rfl agg23 B29 (sub_get (vs := #[(Value.slice p0v0a p0v0n p0v0c), (Value.slice p0v1a p0v1n p0v1c), (Value.slice p0v2a p0v2n p0v2c), (Value.slice p0v3a p0v3n p0v3c)]) p0P (i := 2) rfl) ?_)
                refine da_on rfl (Eq.trans (show sl _ _ _ = .bool (!m24) from rfl) (congrArg Value.bool (congrArg not hc28))) (d_mv (v := .int .i64 s9) rfl ?_)
                obtain ⟨m30, hm30, hr⟩ := bind_out hr
                have B32 : RS w26 encF_f32 (Value.slice p0v2a p0v2n p0v2c) p0.weights := p0v2R.ext X27
                refine da_on rfl (Eq.trans (show sl _ _ _ = .bool (!m24) from rfl) (congrArg Value.bool (congrArg not hc28))) (d_index (e := encF_f32) (v := (Value.slice p0v2a p0v2n p0v2c)) un23 size40 rfl rfl B32 hm30 fun g31 o31 cu31 T31 fr31 vs31 hv31 hg31 hp31 hq31 => ?_)
                obtain ⟨e31_r0, rfl, e31_h0⟩ := dec_encF_f32 hq31
                refine da_on rfl (Eq.trans (show sl _ _ _ = .bool (!m24) from rfl) (congrArg Value.bool (congrArg not hc28))) (d_load (v := .float .f32 e31_r0) rfl agg40 hg31 (sub_get (vs := #[.float .f32 e31_r0]) hp31 (i := 0) rfl) ?_)
                obtain ⟨m33, hm33, hr⟩ := letv_out hr
                have B34 : w26.heap[g14]? = some (.cells cu14 T14 fr14) := E26.heap B25
                have B35 : w26.heap[g22]? = some (.cells cu22 T22 fr22) := E26.heap hg22
                refine da_on rfl (Eq.trans (show sl _ _ _ = .bool (!m24) from rfl) (congrArg Value.bool (congrArg not hc28))) (d_cl (vs := [.float .f32 e31_r0]) en65 (ac rfl rfl) rfl ?_)
                refine (c65 m30 e31_r0 m33 w26 hm33 e31_h0).mono ?_
                rintro _ w36 ⟨rfl, E36⟩
                refine ⟨_, rfl, ?_⟩
                have X37 : Ext w w36 := X27.trans E36
                refine da_on rfl (Eq.trans (show sl _ _ _ = .bool (!m24) from rfl) (congrArg Value.bool (congrArg not hc28))) (d_not rfl ?_)
                refine da_op rfl (d_pick (b := false) (Eq.trans (show ev _ _ = .bool (!m24) from rfl) (congrArg Value.bool (congrArg not hc28))) ?_)
                refine da_nil ?_
                obtain rfl := Option.some.inj hr
                exact ⟨rfl, (Ext.trans (Ext.trans (Ext.trans (Ext.refl wl9) E17) E26) E36)⟩
              · skip
                replace hr := bif_f hr hc28
                refine da_off rfl (Eq.trans (show sl _ _ _ = .bool (!m24) from rfl) (congrArg Value.bool (congrArg not hc28))) (by decide) ?_
                refine da_off rfl (Eq.trans (show sl _ _ _ = .bool (!m24) from rfl) (congrArg Value.bool (congrArg not hc28))) (by decide) ?_
                refine da_off rfl (Eq.trans (show sl _ _ _ = .bool (!m24) from rfl) (congrArg Value.bool (congrArg not hc28))) (by decide) ?_
                refine da_off rfl (Eq.trans (show sl _ _ _ = .bool (!m24) from rfl) (congrArg Value.bool (congrArg not hc28))) (by decide) ?_
                refine da_off rfl (Eq.trans (show sl _ _ _ = .bool (!m24) from rfl) (congrArg Value.bool (congrArg not hc28))) (by decide) ?_
                refine da_off rfl (Eq.trans (show sl _ _ _ = .bool (!m24) from rfl) (congrArg Value.bool (congrArg not hc28))) (by decide) ?_
                refine da_off rfl (Eq.trans (show sl _ _ _ = .bool (!m24) from rfl) (congrArg Value.bool (congrArg not hc28))) (by decide) ?_
                refine da_off rfl (Eq.trans (show sl _ _ _ = .bool (!m24) from rfl) (congrArg Value.bool (congrArg not hc28))) (by decide) ?_
                refine da_off rfl (Eq.trans (show sl _ _ _ = .bool (!m24) from rfl) (congrArg Value.bool (congrArg not hc28))) (by decide) ?_
                refine da_op rfl (d_pick (b := true) (Eq.trans (show ev _ _ = .bool (!m24) from rfl) (congrArg Value.bool (congrArg not hc28))) ?_)
                refine da_nil ?_
                obtain rfl := Option.some.inj hr
                exact ⟨rfl, (Ext.trans (Ext.trans (Ext.refl wl9) E17) E26)⟩
            · skip
              replace hr := bif_f hr hc19
              refine da_off rfl (Eq.trans (show sl _ _ _ = .bool (!m16) from rfl) (congrArg Value.bool (congrArg not hc19))) (by decide) ?_
              refine da_off rfl (Eq.trans (show sl _ _ _ = .bool (!m16) from rfl) (congrArg Value.bool (congrArg not hc19))) (by decide) ?_
              refine da_off rfl (Eq.trans (show sl _ _ _ = .bool (!m16) from rfl) (congrArg Value.bool (congrArg not hc19))) (by decide) ?_
              refine da_off rfl (Eq.trans (show sl _ _ _ = .bool (!m16) from rfl) (congrArg Value.bool (congrArg not hc19))) (by decide) ?_
              refine da_off rfl (Eq.trans (show sl _ _ _ = .bool (!m16) from rfl) (congrArg Value.bool (congrArg not hc19))) (by decide) ?_
              refine da_off rfl (Eq.trans (show sl _ _ _ = .bool (!m16) from rfl) (congrArg Value.bool (congrArg not hc19))) (by decide) ?_
              refine da_off rfl (Eq.trans (show sl _ _ _ = .bool (!m16) from rfl) (congrArg Value.bool (congrArg not hc19))) (by decide) ?_
              refine da_off rfl (Eq.trans (show sl _ _ _ = .bool (!m16) from rfl) (congrArg Value.bool (congrArg not hc19))) (by decide) ?_
              refine da_off rfl (Eq.trans (show sl _ _ _ = .bool (!m16) from rfl) (congrArg Value.bool (congrArg not hc19))) (by decide) ?_
              refine da_op rfl (d_pick (b := true) (Eq.trans (show ev _ _ = .bool (!m16) from rfl) (congrArg Value.bool (congrArg not hc19))) ?_)
              refine da_op rfl (d_mv (v := .bool true) rfl ?_)
              refine da_off rfl rfl (by decide) ?_
              refine da_off rfl rfl (by decide) ?_
              refine da_off rfl rfl (by decide) ?_
              refine da_off rfl rfl (by decide) ?_
              refine da_off rfl rfl (by decide) ?_
              refine da_off rfl rfl (by decide) ?_
              refine da_off rfl rfl (by decide) ?_
              refine da_off rfl rfl (by decide) ?_
              refine da_off rfl rfl (by decide) ?_
              refine da_op rfl (d_pick (b := true) rfl ?_)
              refine da_nil ?_
              obtain rfl := Option.some.inj hr
              exact ⟨rfl, (Ext.trans (Ext.refl wl9) E17)⟩
          · skip
            rintro σ11 w11 o11 ⟨s78_11, E11⟩
            have s45_11 : σ11 45 = .int .i64 s9 := (o11 45 rfl).trans i9_S45
            have s0_11 : σ11 0 = .pointer (some ⟨p0b, p0o, none⟩) := (o11 0 rfl).trans i9_S0
            have s3_11 : σ11 3 = .int .i64 ((p0.places).length : Int) := (o11 3 rfl).trans i9_S3
            have s44_11 : σ11 44 = .int .i64 ((p0.places).length : Int) := (o11 44 rfl).trans i9_S44
            have X38 : Ext w w11 := i9_X.trans E11
            refine W_cond (b := m11) s78_11 (fun hc39 => ?_) (fun hc39 => ?_)
            · skip
              replace hr := bif_t hr hc39
              refine W_seq ?_
              refine W_region rfl ?_
              refine da_op rfl (d_as (v := .bool false) rfl ?_)
              refine da_nil ?_
              refine W_ret ?_
              obtain rfl := Option.some.inj hr
              exact ⟨_, rfl, rfl, rfl, X38⟩
            · skip
              replace hr := bif_f hr hc39
              refine W_skip ?_
              refine W_region rfl ?_
              refine da_op rfl (d_iarith s45_11 rfl (.inl ⟨rfl, rfl⟩) ?_)
              refine da_op rfl (d_mv (v := .int .i64 (IntKind.i64.wrap (s9 + 1))) rfl ?_)
              refine da_nil ?_
              obtain rfl := Option.some.inj hr
              exact ⟨_, rfl, ⟨rfl, s0_11, s3_11, s44_11, X38⟩⟩
        · skip
          replace hr := bif_f hr hc10
          refine W_exit ?_
          obtain rfl := Option.some.inj hr
          exact ⟨_, rfl, rfl, i9_S0, i9_S3, i9_X⟩
      · skip
        intro ex σx9 wx9 hq
        rcases m9 with m9 | m9
        · skip
          obtain ⟨rfl, q9_0_S0, q9_0_S3, q9_0_X⟩ := hq
          refine W_seq ?_
          refine W_seq ?_
          refine W_region rfl ?_
          refine da_op rfl (d_mv (v := .pointer (some ⟨p0b, p0o, none⟩)) q9_0_S0 ?_)
          refine da_op rfl (d_nil rfl ?_)
          refine da_op rfl (d_fieldAddr rfl (fa26_3 _ _) ?_)
          have B40 : wx9.heap[p0b]? = some (.cells p0c p0T p0f) := q9_0_X.heap p0B
          refine da_op rfl (d_load (v := (Value.slice p0v3a p0v3n p0v3c)) rfl agg24 B40 (sub_get (vs := #[(Value.slice p0v0a p0v0n p0v0c), (Value.slice p0v1a p0v1n p0v1c), (Value.slice p0v2a p0v2n p0v2c), (Value.slice p0v3a p0v3n p0v3c)]) p0P (i := 3) rfl) ?_)
          have B41 : RS wx9 encSRod (Value.slice p0v3a p0v3n p0v3c) p0.rods := p0v3R.ext q9_0_X
          refine da_op rfl (d_len (e := encSRod) un24 rfl B41 ?_)
          refine da_op rfl (d_mv (v := .int .i64 0) rfl ?_)
          refine da_nil ?_
          refine W_block ?_
          obtain ⟨m42, hm42, hr⟩ := bind_out hr
          refine W_loopM hm42 (fun (s42 : Int) σ w' => σ 85 = .int .i64 s42 ∧ σ 0 = .pointer (some ⟨p0b, p0o, none⟩) ∧ σ 3 = .int .i64 ((p0.places).length : Int) ∧ σ 84 = .int .i64 ((p0.rods).length : Int) ∧ Ext w w') (fun (e42 : (Unit ⊕ Bool)) ex σ w' => sel e42 (fun e42 => ex = .exit 2 ∧ Ext w w') (fun e42 => ex = .ret ∧ σ 2 = .bool e42 ∧ Ext w w')) ⟨rfl, q9_0_S0, q9_0_S3, rfl, q9_0_X⟩ ?_ ?_
          · skip
            rintro s42 σl42 wl42 r42l ⟨i42_S85, i42_S0, i42_S3, i42_S84, i42_X⟩ hr
            refine W_seq ?_
            refine W_region rfl ?_
            refine da_op rfl (d_icmp cLss i42_S85 i42_S84 ?_)
            refine da_nil ?_
            refine W_seq ?_
            refine W_cond (b := (icmp .lss s42 ((p0.rods).length : Int))) rfl (fun hc43 => ?_) (fun hc43 => ?_)
            · skip
              replace hr := bif_t hr hc43
              refine W_skip ?_
              refine W_seq ?_
              refine W_block ?_
              refine W_seq ?_
              refine W_region rfl ?_
              refine da_op rfl (d_mv (v := .int .i64 s42) i42_S85 ?_)
              refine da_op rfl (d_as (v := .int .i64 s42) rfl ?_)
              refine da_nil ?_
              refine W_seq ?_
              refine W_region rfl ?_
              refine da_op rfl (d_mv (v := .pointer (some ⟨p0b, p0o, none⟩)) i42_S0 ?_)
              refine da_op rfl (d_nil rfl ?_)
              refine da_op rfl (d_fieldAddr rfl (fa26_3 _ _) ?_)
              have B44 : wl42.heap[p0b]? = some (.cells p0c p0T p0f) := i42_X.heap p0B
              refine da_op rfl (d_load (v := (Value.slice p0v3a p0v3n p0v3c)) rfl agg24 B44 (sub_get (vs := #[(Value.slice p0v0a p0v0n p0v0c), (Value.slice p0v1a p0v1n p0v1c), (Value.slice p0v2a p0v2n p0v2c), (Value.slice p0v3a p0v3n p0v3c)]) p0P (i := 3) rfl) ?_)
              refine da_op rfl (d_mv (v := .int .i64 s42) rfl ?_)
              obtain ⟨m45, hm45, hr⟩ := bind_out hr
              have B47 : RS wl42 encSRod (Value.slice p0v3a p0v3n p0v3c) p0.rods := p0v3R.ext i42_X
              refine da_op rfl (d_index (e := encSRod) (v := (Value.slice p0v3a p0v3n p0v3c)) un24 size42 rfl rfl B47 hm45 fun g46 o46 cu46 T46 fr46 vs46 hv46 hg46 hp46 hq46 => ?_)
              obtain ⟨e46_r2, rfl, e46_h2⟩ := dec_encSRod hq46
              refine da_op rfl (d_loads (vs := #[.int .i64 m45.a, .int .i64 m45.b, .float .f32 e46_r2]) rfl agg42 size42 hg46 (sub_take (vs := #[.int .i64 m45.a, .int .i64 m45.b, .float .f32 e46_r2]) (us := #[.int .i64 m45.a, .int .i64 m45.b, .float .f32 e46_r2]) (i := 0) hp46 rfl (Nat.le_of_ble_eq_true rfl)) ?_)
              refine da_op rfl (d_alloc (cs := #[.int .i64 0, .int .i64 0, .float .f32 0]) zero42 rfl fun w48 B48 E48 => ?_)
              have own49 : w.heap.size ≤ wl42.heap.size := Nat.le_trans i42_X.size (Nat.le_refl _)
              have sp50 : g46 ≠ wl42.heap.size := Nat.ne_of_lt (Nat.lt_of_lt_of_le (lt_heap hg46) (Nat.le_refl _))
              have X51 : Ext w w48 := i42_X.trans E48
              refine da_op rfl (d_store (vs := #[.int .i64 m45.a, .int .i64 m45.b, .float .f32 e46_r2]) rfl rfl B48 size42 (Nat.le_of_ble_eq_true rfl) rfl fun w52 S52 => ?_)
              have X53 : Ext w w52 := Ext.step X51 S52.frmb (fun k _ hk => hk ▸ own49)
              have B54 : w52.heap[wl42.heap.size]? = some (.cells #[.int .i64 m45.a, .int .i64 m45.b, .float .f32 e46_r2] 42 (0, 0)) := S52.here
              refine da_nil ?_
              refine W_seq ?_
              obtain ⟨m55, hm55, hr⟩ := letv_out hr
              refine W_cut (fun σ' w' => σ' 121 = .bool m55 ∧ Ext w52 w') rfl ?_ ?_
              · skip
                have hr := hm55
                refine da_op rfl (d_fieldAddr rfl (fa42_0 _ _) ?_)
                refine da_op rfl (d_load (v := .int .i64 m45.a) rfl agg2 B54 rfl ?_)
                refine da_op rfl (d_mv (v := .int .i64 ((p0.places).length : Int)) i42_S3 ?_)
                refine da_op rfl (d_iarith rfl rfl (.inr (.inl ⟨rfl, rfl⟩)) ?_)
                obtain ⟨m56, hm56, hr⟩ := letv_out hr
                refine da_op rfl (d_cl (vs := [.int .i64 m45.a, .int .i64 0, .int .i64 (IntKind.i64.wrap (((p0.places).length : Int) - 1))]) en66 (ac rfl (ac rfl (ac rfl rfl))) rfl ?_)
                refine (c66 m45.a 0 (IntKind.i64.wrap (((p0.places).length : Int) - 1)) m56 w52 hm56 ).mono ?_
                rintro _ w57 ⟨rfl, E57⟩
                refine ⟨_, rfl, ?_⟩
                have X58 : Ext w w57 := X53.trans E57
                refine da_op rfl (d_not rfl ?_)
                refine da_op rfl (d_mv (v := .bool (!m56)) rfl ?_)
                rcases Bool.eq_false_or_eq_true m56 with hc59 | hc59
                · skip
                  replace hr := bif_t hr hc59
                  refine da_on rfl (Eq.trans (show sl _ _ _ = .bool (!m56) from rfl) (congrArg Value.bool (congrArg not hc59))) (d_fieldAddr rfl (fa42_1 _ _) ?_)
                  have B60 : w57.heap[wl42.heap.size]? = some (.cells #[.int .i64 m45.a, .int .i64 m45.b, .float .f32 e46_r2] 42 (0, 0)) := E57.heap B54
                  refine da_on rfl (Eq.trans (show sl _ _ _ = .bool (!m56) from rfl) (congrArg Value.bool (congrArg not hc59))) (d_load (v := .int .i64 m45.b) rfl agg2 B60 rfl ?_)
                  refine da_on rfl (Eq.trans (show sl _ _ _ = .bool (!m56) from rfl) (congrArg Value.bool (congrArg not hc59))) (d_mv (v := .int .i64 ((p0.places).length : Int)) i42_S3 ?_)
                  refine da_on rfl (Eq.trans (show sl _ _ _ = .bool (!m56) from rfl) (congrArg Value.bool (congrArg not hc59))) (d_iarith rfl rfl (.inr (.inl ⟨rfl, rfl⟩)) ?_)
                  obtain ⟨m61, hm61, hr⟩ := letv_out hr
                  refine da_on rfl (Eq.trans (show sl _ _ _ = .bool (!m56) from rfl) (congrArg Value.bool (congrArg not hc59))) (d_cl (vs := [.int .i64 m45.b, .int .i64 0, .int .i64 (IntKind.i64.wrap (((p0.places).length : Int) - 1))]) en66 (ac rfl (ac rfl (ac rfl rfl))) rfl ?_)
                  refine (c66 m45.b 0 (IntKind.i64.wrap (((p0.places).length : Int) - 1)) m61 w57 hm61 ).mono ?_
                  rintro _ w62 ⟨rfl, E62⟩
                  refine ⟨_, rfl, ?_⟩
                  have X63 : Ext w w62 := X58.trans E62
                  refine da_on rfl (Eq.trans (show sl _ _ _ = .bool (!m56) from rfl) (congrArg Value.bool (congrArg not hc59))) (d_not rfl ?_)
                  refine da_op rfl (d_pick (b := false) (Eq.trans (show ev _ _ = .bool (!m56) from rfl) (congrArg Value.bool (congrArg not hc59))) ?_)
                  refine da_op rfl (d_mv (v := .bool (!m61)) rfl ?_)
                  rcases Bool.eq_false_or_eq_true m61 with hc64 | hc64
                  · skip
                    replace hr := bif_t hr hc64
                    refine da_on rfl (Eq.trans (show sl _ _ _ = .bool (!m61) from rfl) (congrArg Value.bool (congrArg not hc64))) (d_fieldAddr rfl (fa42_0 _ _) ?_)
                    have B65 : w62.heap[wl42.heap.size]? = some (.cells #[.int .i64 m45.a, .int .i64 m45.b, .float .f32 e46_r2] 42 (0, 0)) := E62.heap B60
                    refine da_on rfl (Eq.trans (show sl _ _ _ = .bool (!m61) from rfl) (congrArg Value.bool (congrArg not hc64))) (d_load (v := .int .i64 m45.a) rfl agg2 B65 rfl ?_)
                    refine da_on rfl (Eq.trans (show sl _ _ _ = .bool (!m61) from rfl) (congrArg Value.bool (congrArg not hc64))) (d_fieldAddr rfl (fa42_1 _ _) ?_)
                    refine da_on rfl (Eq.trans (show sl _ _ _ = .bool (!m61) from rfl) (congrArg Value.bool (congrArg not hc64))) (d_load (v := .int .i64 m45.b) rfl agg2 B65 rfl ?_)
                    refine da_on rfl (Eq.trans (show sl _ _ _ = .bool (!m61) from rfl) (congrArg Value.bool (congrArg not hc64))) (d_icmp cEql rfl rfl ?_)
                    refine da_op rfl (d_pick (b := false) (Eq.trans (show ev _ _ = .bool (!m61) from rfl) (congrArg Value.bool (congrArg not hc64))) ?_)
                    refine da_op rfl (d_mv (v := .bool (icmp .eql m45.a m45.b)) rfl ?_)
                    rcases Bool.eq_false_or_eq_true (icmp .eql m45.a m45.b) with hc66 | hc66
                    · skip
                      replace hr := bif_t hr hc66
                      refine da_off rfl (Eq.trans (show sl _ _ _ = .bool (icmp .eql m45.a m45.b) from rfl) (congrArg Value.bool hc66)) (by decide) ?_
                      refine da_off rfl (Eq.trans (show sl _ _ _ = .bool (icmp .eql m45.a m45.b) from rfl) (congrArg Value.bool hc66)) (by decide) ?_
                      refine da_off rfl (Eq.trans (show sl _ _ _ = .bool (icmp .eql m45.a m45.b) from rfl) (congrArg Value.bool hc66)) (by decide) ?_
                      refine da_off rfl (Eq.trans (show sl _ _ _ = .bool (icmp .eql m45.a m45.b) from rfl) (congrArg Value.bool hc66)) (by decide) ?_
                      refine da_op rfl (d_pick (b := true) (Eq.trans (show ev _ _ = .bool (icmp .eql m45.a m45.b) from rfl) (congrArg Value.bool hc66)) ?_)
                      refine da_nil ?_
                      subst hr
                      exact ⟨rfl, (Ext.trans (Ext.trans (Ext.refl w52) E57) E62)⟩
                    · skip
                      replace hr := bif_f hr hc66
                      refine da_on rfl (Eq.trans (show sl _ _ _ = .bool (icmp .eql m45.a m45.b) from rfl) (congrArg Value.bool hc66)) (d_fieldAddr rfl (fa42_2 _ _) ?_)
                      refine da_on rfl (Eq.trans (show sl _ _ _ = .bool (icmp .eql m45.a m45.b) from rfl) (congrArg Value.bool hc66)) (d_load (v := .float .f32 e46_r2) rfl agg40 B65 rfl ?_)
                      obtain ⟨m67, hm67, hr⟩ := letv_out hr
                      refine da_on rfl (Eq.trans (show sl _ _ _ = .bool (icmp .eql m45.a m45.b) from rfl) (congrArg Value.bool hc66)) (d_cl (vs := [.float .f32 e46_r2]) en65 (ac rfl rfl) rfl ?_)
                      refine (c65 m45.long e46_r2 m67 w62 hm67 e46_h2).mono ?_
                      rintro _ w68 ⟨rfl, E68⟩
                      refine ⟨_, rfl, ?_⟩
                      have X69 : Ext w w68 := X63.trans E68
                      refine da_on rfl (Eq.trans (show sl _ _ _ = .bool (icmp .eql m45.a m45.b) from rfl) (congrArg Value.bool hc66)) (d_not rfl ?_)
                      refine da_op rfl (d_pick (b := false) (Eq.trans (show ev _ _ = .bool (icmp .eql m45.a m45.b) from rfl) (congrArg Value.bool hc66)) ?_)
                      refine da_nil ?_
                      subst hr
                      exact ⟨rfl, (Ext.trans (Ext.trans (Ext.trans (Ext.refl w52) E57) E62) E68)⟩
                  · skip
                    replace hr := bif_f hr hc64
                    refine da_off rfl (Eq.trans (show sl _ _ _ = .bool (!m61) from rfl) (congrArg Value.bool (congrArg not hc64))) (by decide) ?_
                    refine da_off rfl (Eq.trans (show sl _ _ _ = .bool (!m61) from rfl) (congrArg Value.bool (congrArg not hc64))) (by decide) ?_
                    refine da_off rfl (Eq.trans (show sl _ _ _ = .bool (!m61) from rfl) (congrArg Value.bool (congrArg not hc64))) (by decide) ?_
                    refine da_off rfl (Eq.trans (show sl _ _ _ = .bool (!m61) from rfl) (congrArg Value.bool (congrArg not hc64))) (by decide) ?_
                    refine da_off rfl (Eq.trans (show sl _ _ _ = .bool (!m61) from rfl) (congrArg Value.bool (congrArg not hc64))) (by decide) ?_
                    refine da_op rfl (d_pick (b := true) (Eq.trans (show ev _ _ = .bool (!m61) from rfl) (congrArg Value.bool (congrArg not hc64))) ?_)
                    refine da_op rfl (d_mv (v := .bool true) rfl ?_)
                    refine da_off rfl rfl (by decide) ?_
                    refine da_off rfl rfl (by decide) ?_
                    refine da_off rfl rfl (by decide) ?_
                    refine da_off rfl rfl (by decide) ?_
                    refine da_op rfl (d_pick (b := true) rfl ?_)
                    refine da_nil ?_
                    subst hr
                    exact ⟨rfl, (Ext.trans (Ext.trans (Ext.refl w52) E57) E62)⟩
                · skip
                  replace hr := bif_f hr hc59
                  refine da_off rfl (Eq.trans (show sl _ _ _ = .bool (!m56) from rfl) (congrArg Value.bool (congrArg not hc59))) (by decide) ?_
                  refine da_off rfl (Eq.trans (show sl _ _ _ = .bool (!m56) from rfl) (congrArg Value.bool (congrArg not hc59))) (by decide) ?_
                  refine da_off rfl (Eq.trans (show sl _ _ _ = .bool (!m56) from rfl) (congrArg Value.bool (congrArg not hc59))) (by decide) ?_
                  refine da_off rfl (Eq.trans (show sl _ _ _ = .bool (!m56) from rfl) (congrArg Value.bool (congrArg not hc59))) (by decide) ?_
                  refine da_off rfl (Eq.trans (show sl _ _ _ = .bool (!m56) from rfl) (congrArg Value.bool (congrArg not hc59))) (by decide) ?_
                  refine da_off rfl (Eq.trans (show sl _ _ _ = .bool (!m56) from rfl) (congrArg Value.bool (congrArg not hc59))) (by decide) ?_
                  refine da_op rfl (d_pick (b := true) (Eq.trans (show ev _ _ = .bool (!m56) from rfl) (congrArg Value.bool (congrArg not hc59))) ?_)
                  refine da_op rfl (d_mv (v := .bool true) rfl ?_)
                  refine da_off rfl rfl (by decide) ?_
                  refine da_off rfl rfl (by decide) ?_
                  refine da_off rfl rfl (by decide) ?_
                  refine da_off rfl rfl (by decide) ?_
                  refine da_off rfl rfl (by decide) ?_
                  refine da_op rfl (d_pick (b := true) rfl ?_)
                  refine da_op rfl (d_mv (v := .bool true) rfl ?_)
                  refine da_off rfl rfl (by decide) ?_
                  refine da_off rfl rfl (by decide) ?_
                  refine da_off rfl rfl (by decide) ?_
                  refine da_off rfl rfl (by decide) ?_
                  refine da_op rfl (d_pick (b := true) rfl ?_)
                  refine da_nil ?_
                  subst hr
                  exact ⟨rfl, (Ext.trans (Ext.refl w52) E57)⟩
              · skip
                rintro σ55 w55 o55 ⟨s121_55, E55⟩
                have s85_55 : σ55 85 = .int .i64 s42 := (o55 85 rfl).trans i42_S85
                have s0_55 : σ55 0 = .pointer (some ⟨p0b, p0o, none⟩) := (o55 0 rfl).trans i42_S0
                have s3_55 : σ55 3 = .int .i64 ((p0.places).length : Int) := (o55 3 rfl).trans i42_S3
                have s84_55 : σ55 84 = .int .i64 ((p0.rods).length : Int) := (o55 84 rfl).trans i42_S84
                have X70 : Ext w w55 := X53.trans E55
                refine W_cond (b := m55) s121_55 (fun hc71 => ?_) (fun hc71 => ?_)
                · skip
                  replace hr := bif_t hr hc71
                  refine W_seq ?_
                  refine W_region rfl ?_
                  refine da_op rfl (d_as (v := .bool false) rfl ?_)
                  refine da_nil ?_
                  refine W_ret ?_
                  obtain rfl := Option.some.inj hr
                  exact ⟨_, rfl, rfl, rfl, X70⟩
                · skip
                  replace hr := bif_f hr hc71
                  refine W_skip ?_
                  refine W_region rfl ?_
                  refine da_op rfl (d_iarith s85_55 rfl (.inl ⟨rfl, rfl⟩) ?_)
                  refine da_op rfl (d_mv (v := .int .i64 (IntKind.i64.wrap (s42 + 1))) rfl ?_)
                  refine da_nil ?_
                  obtain rfl := Option.some.inj hr
                  exact ⟨_, rfl, ⟨rfl, s0_55, s3_55, s84_55, X70⟩⟩
            · skip
              replace hr := bif_f hr hc43
              refine W_exit ?_
              obtain rfl := Option.some.inj hr
              exact ⟨_, rfl, rfl, i42_X⟩
          · skip
            intro ex σx42 wx42 hq
            rcases m42 with m42 | m42
            · skip
              obtain ⟨rfl, q42_0_X⟩ := hq
              refine W_seq ?_
              refine W_region rfl ?_
              refine da_op rfl (d_as (v := .bool true) rfl ?_)
              refine da_nil ?_
              refine W_ret ?_
              obtain rfl := Option.some.inj hr
              refine ⟨_, res1 (rv_tmp rfl), ?_⟩
              exact ⟨rfl, q42_0_X⟩
            · skip
              obtain ⟨rfl, q42_1_S2, q42_1_X⟩ := hq
              obtain rfl := Option.some.inj hr
              refine ⟨_, res1 (rv_tmp q42_1_S2), ?_⟩
              exact ⟨rfl, q42_1_X⟩
        · skip
          obtain ⟨rfl, q9_1_S2, q9_1_X⟩ := hq
          obtain rfl := Option.some.inj hr
          refine ⟨_, res1 (rv_tmp q9_1_S2), ?_⟩
          exact ⟨rfl, q9_1_X⟩
end Go.Proofs
