import Derived.Test.YtdcienojgkioiaaDoorBTCf
namespace Go.Proofs
open Go Go.Fl Go.RowKit Go.Rg
set_option maxRecDepth 100000
set_option linter.unusedVariables false
attribute [local irreducible] Go.Calls doAll Does DoesG W Wr
set_option maxHeartbeats 4000000 in
theorem c119 (p0 : List UInt8) (p1 : Int) (r : List (List UInt8)) (w : World) (hr : M.spec_l01Cut p0 p1 = some r)  :
    Calls Tryd.prog 119 #[.string (bs p0), .int .u8 p1] w fun e w' => ∃ q0a : Option Addr, ∃ q0n : Nat, ∃ q0c : Nat, e = .returned ((Value.slice q0a q0n q0c)) ∧ OS w' 9 encS (Value.slice q0a q0n q0c) r ∧ (∀ k, (Value.slice q0a q0n q0c).ownBlock = some k → w.heap.size ≤ k) ∧ Ext w w' := by
  refine calls_of_W Tryd.func119 rfl (Nat.le_of_ble_eq_true rfl) ?_
  refine W_seq ?_
  refine W_region rfl ?_
  refine da_op rfl (d_as (v := .slice none 0 0) rfl ?_)
  refine da_nil ?_
  refine W_seq ?_
  refine W_region rfl ?_
  refine da_op rfl (d_bslice0 un34 size9 fun w1 B1 E1 => ?_)
  have fr1 : ∀ k, (Value.slice (some ⟨w.heap.size, 0, none⟩) 0 0).ownBlock = some k → w.heap.size ≤ k := fun k hk => by cases hk; exact Nat.le_refl _
  have own1 : ∀ k, (Value.slice (some ⟨w.heap.size, 0, none⟩) 0 0).ownBlock = some k → w.heap.size ≤ k := fun k hk => Nat.le_trans (Ext.refl w).size (fr1 k hk)
  have X2 : Ext w w1 := (Ext.refl w).trans E1
  have O1 : OS w1 9 encS (Value.slice (some ⟨w.heap.size, 0, none⟩) 0 0) ([] : List (List UInt8)) := OS.box (xs := ([] : List (List UInt8))) B1 rfl (Nat.le_of_ble_eq_true rfl)
  refine da_op rfl (d_as (v := (Value.slice (some ⟨w.heap.size, 0, none⟩) 0 0)) rfl ?_)
  refine da_nil ?_
  refine W_seq ?_
  refine W_region rfl ?_
  refine da_op rfl (d_as (v := .int .i64 0) rfl ?_)
  refine da_nil ?_
  refine W_seq ?_
  refine W_seq ?_
  refine W_region rfl ?_
  refine da_op rfl (d_as (v := .int .i64 0) rfl ?_)
  refine da_nil ?_
  refine W_block ?_
  obtain ⟨m3, hm3, hr⟩ := bind_out hr
  refine W_loopM hm3 (fun (s3 : List (List UInt8) × Int × Int) σ w' => ∃ i3_0a : Option Addr, ∃ i3_0n : Nat, ∃ i3_0c : Nat, σ 5 = (Value.slice i3_0a i3_0n i3_0c) ∧ σ 6 = .int .i64 s3.2.1 ∧ σ 7 = .int .i64 s3.2.2 ∧ σ 0 = .string (bs p0) ∧ σ 1 = .int .u8 p1 ∧ OS w' 9 encS (Value.slice i3_0a i3_0n i3_0c) s3.1 ∧ (∀ k, (Value.slice i3_0a i3_0n i3_0c).ownBlock = some k → w.heap.size ≤ k) ∧ Ext w w') (fun (e3 : (List (List UInt8))) ex σ w' => ex = .exit 0 ∧ ∃ q3_0_0a : Option Addr, ∃ q3_0_0n : Nat, ∃ q3_0_0c : Nat, σ 5 = (Value.slice q3_0_0a q3_0_0n q3_0_0c) ∧ OS w' 9 encS (Value.slice q3_0_0a q3_0_0n q3_0_0c) e3 ∧ (∀ k, (Value.slice q3_0_0a q3_0_0n q3_0_0c).ownBlock = some k → w.heap.size ≤ k) ∧ Ext w w') ⟨(some ⟨w.heap.size, 0, none⟩), 0, 0, rfl, rfl, rfl, rfl, rfl, O1, own1, X2⟩ ?_ ?_
  · skip
    rintro s3 σl3 wl3 r3l ⟨i3_0a, i3_0n, i3_0c, i3_S5, i3_S6, i3_S7, i3_S0, i3_S1, i3_0R, i3_0O, i3_X⟩ hr
    refine W_seq ?_
    refine W_seq ?_
    refine W_region rfl ?_
    refine da_op rfl (d_mv (v := .int .i64 s3.2.2) i3_S7 ?_)
    refine da_op rfl (d_mv (v := .string (bs p0)) i3_S0 ?_)
    refine da_op rfl (d_slen un9 rfl ?_)
    refine da_op rfl (d_icmp cLeq rfl rfl ?_)
    refine da_nil ?_
    refine W_cond (b := (icmp .leq s3.2.2 ((p0).length : Int))) rfl (fun hc4 => ?_) (fun hc4 => ?_)
    · skip
      replace hr := bif_t hr hc4
      refine W_skip ?_
      refine W_seq ?_
      refine W_block ?_
      refine W_seq ?_
      obtain ⟨m5, hm5, hr⟩ := bind_out hr
      refine W_cut (fun σ' w' => σ' 25 = .bool m5 ∧ Ext wl3 w') rfl ?_ ?_
      · skip
        have hr := hm5
        refine da_op rfl (d_mv (v := .int .i64 s3.2.2) i3_S7 ?_)
        refine da_op rfl (d_mv (v := .string (bs p0)) i3_S0 ?_)
        refine da_op rfl (d_slen un9 rfl ?_)
        refine da_op rfl (d_icmp cEql rfl rfl ?_)
        refine da_op rfl (d_mv (v := .bool (icmp .eql s3.2.2 ((p0).length : Int))) rfl ?_)
        rcases Bool.eq_false_or_eq_true (icmp .eql s3.2.2 ((p0).length : Int)) with hc6 | hc6
        · skip
          replace hr := bif_t hr hc6
          refine da_off rfl (Eq.trans (show sl _ _ _ = .bool (icmp .eql s3.2.2 ((p0).length : Int)) from rfl) (congrArg Value.bool hc6)) (by decide) ?_
          refine da_off rfl (Eq.trans (show sl _ _ _ = .bool (icmp .eql s3.2.2 ((p0).length : Int)) from rfl) (congrArg Value.bool hc6)) (by decide) ?_
          refine da_off rfl (Eq.trans (show sl _ _ _ = .bool (icmp .eql s3.2.2 ((p0).length : Int)) from rfl) (congrArg Value.bool hc6)) (by decide) ?_
          refine da_off rfl (Eq.trans (show sl _ _ _ = .bool (icmp .eql s3.2.2 ((p0).length : Int)) from rfl) (congrArg Value.bool hc6)) (by decide) ?_
          refine da_off rfl (Eq.trans (show sl _ _ _ = .bool (icmp .eql s3.2.2 ((p0).length : Int)) from rfl) (congrArg Value.bool hc6)) (by decide) ?_
          refine da_op rfl (d_pick (b := true) (Eq.trans (show ev _ _ = .bool (icmp .eql s3.2.2 ((p0).length : Int)) from rfl) (congrArg Value.bool hc6)) ?_)
          refine da_nil ?_
          obtain rfl := Option.some.inj hr
          exact ⟨rfl, (Ext.refl wl3)⟩
        · skip
          replace hr := bif_f hr hc6
          refine da_on rfl (Eq.trans (show sl _ _ _ = .bool (icmp .eql s3.2.2 ((p0).length : Int)) from rfl) (congrArg Value.bool hc6)) (d_mv (v := .string (bs p0)) i3_S0 ?_)
          refine da_on rfl (Eq.trans (show sl _ _ _ = .bool (icmp .eql s3.2.2 ((p0).length : Int)) from rfl) (congrArg Value.bool hc6)) (d_mv (v := .int .i64 s3.2.2) i3_S7 ?_)
          obtain ⟨m7, hm7, hr⟩ := bind_out hr
          refine da_on rfl (Eq.trans (show sl _ _ _ = .bool (icmp .eql s3.2.2 ((p0).length : Int)) from rfl) (congrArg Value.bool hc6)) (d_sidx un9 rfl rfl hm7 ?_)
          refine da_on rfl (Eq.trans (show sl _ _ _ = .bool (icmp .eql s3.2.2 ((p0).length : Int)) from rfl) (congrArg Value.bool hc6)) (d_mv (v := .int .u8 p1) i3_S1 ?_)
          refine da_on rfl (Eq.trans (show sl _ _ _ = .bool (icmp .eql s3.2.2 ((p0).length : Int)) from rfl) (congrArg Value.bool hc6)) (d_icmp cEql rfl rfl ?_)
          refine da_op rfl (d_pick (b := false) (Eq.trans (show ev _ _ = .bool (icmp .eql s3.2.2 ((p0).length : Int)) from rfl) (congrArg Value.bool hc6)) ?_)
          refine da_nil ?_
          obtain rfl := Option.some.inj hr
          exact ⟨rfl, (Ext.refl wl3)⟩
      · skip
        rintro σ5 w5 o5 ⟨s25_5, E5⟩
        have s5_5 : σ5 5 = (Value.slice i3_0a i3_0n i3_0c) := (o5 5 rfl).trans i3_S5
        have s6_5 : σ5 6 = .int .i64 s3.2.1 := (o5 6 rfl).trans i3_S6
        have s7_5 : σ5 7 = .int .i64 s3.2.2 := (o5 7 rfl).trans i3_S7
        have s0_5 : σ5 0 = .string (bs p0) := (o5 0 rfl).trans i3_S0
        have s1_5 : σ5 1 = .int .u8 p1 := (o5 1 rfl).trans i3_S1
        have X8 : Ext w w5 := i3_X.trans E5
        refine W_cond (b := m5) s25_5 (fun hc9 => ?_) (fun hc9 => ?_)
        · skip
          replace hr := bif_t hr hc9
          refine W_seq ?_
          refine W_region rfl ?_
          refine da_op rfl (d_mv (v := (Value.slice i3_0a i3_0n i3_0c)) s5_5 ?_)
          refine da_op rfl (d_mv (v := .string (bs p0)) s0_5 ?_)
          refine da_op rfl (d_mv (v := .int .i64 s3.2.1) s6_5 ?_)
          refine da_op rfl (d_mv (v := .int .i64 s3.2.2) s7_5 ?_)
          obtain ⟨m10, hm10, hr⟩ := bind_out hr
          refine da_op rfl (d_ssub (a := s3.2.1) (b := s3.2.2) un9 rfl (.inr ⟨_, _, rfl, rfl⟩) (.inr ⟨_, _, rfl, rfl⟩) hm10 ?_)
          have B12 : OS w5 9 encS (Value.slice i3_0a i3_0n i3_0c) s3.1 := i3_0R.ext E5
          refine da_op rfl (d_bslice (vs := [(0, .string (bs m10))]) (cs := #[.string (bs m10)]) un34 (pc rfl rfl) (by kernel_rfl) fun w11 B11 E11 => ?_)
          have fr11 : ∀ k, (Value.slice (some ⟨w5.heap.size, 0, none⟩) 1 1).ownBlock = some k → w5.heap.size ≤ k := fun k hk => by cases hk; exact Nat.le_refl _
          have own11 : ∀ k, (Value.slice (some ⟨w5.heap.size, 0, none⟩) 1 1).ownBlock = some k → w.heap.size ≤ k := fun k hk => Nat.le_trans X8.size (fr11 k hk)
          have sp13 : ∀ k, (Value.slice i3_0a i3_0n i3_0c).ownBlock = some k → ¬ (Value.slice (some ⟨w5.heap.size, 0, none⟩) 1 1).ownBlock = some k := apart_fresh B12 fr11
          have X14 : Ext w w11 := X8.trans E11
          have O11 : OS w11 9 encS (Value.slice (some ⟨w5.heap.size, 0, none⟩) 1 1) [m10] := OS.box (xs := [m10]) B11 (lc_v rfl rfl) (Nat.le_of_ble_eq_true rfl)
          obtain ⟨m15, hm15, hr⟩ := bind_out hr
          have B16 : OS w11 9 encS (Value.slice i3_0a i3_0n i3_0c) s3.1 := B12.ext E11
          refine da_op rfl (d_append (e := encS) (v := (Value.slice i3_0a i3_0n i3_0c)) (y := (Value.slice (some ⟨w5.heap.size, 0, none⟩) 1 1)) un34 info9 rfl (by kernel_rfl) (by kernel_rfl) (by decide) (by decide) rfl rfl B16 O11.rs hm15 fun v17 w17 O17 Fm17 at_17 nl17 => ?_)
          obtain ⟨v17pa, v17pn, v17pc, rfl⟩ := O17.vals
          have own17 : ∀ k, (Value.slice v17pa v17pn v17pc).ownBlock = some k → w.heap.size ≤ k := app_own (w := w11) at_17 i3_0O X14.size
          have sp18 : ∀ k, (Value.slice (some ⟨w5.heap.size, 0, none⟩) 1 1).ownBlock = some k → ¬ (Value.slice v17pa v17pn v17pc).ownBlock = some k := app_nr at_17 (apart_symm sp13) O11
          have X19 : Ext w w17 := Ext.step X14 Fm17 (fun k _ hk => i3_0O k hk)
          refine da_op rfl (d_as (v := (Value.slice v17pa v17pn v17pc)) rfl ?_)
          refine da_nil ?_
          refine W_region rfl ?_
          refine da_op rfl (d_mv (v := .int .i64 s3.2.2) s7_5 ?_)
          refine da_op rfl (d_iarith rfl rfl (.inl ⟨rfl, rfl⟩) ?_)
          refine da_op rfl (d_as (v := .int .i64 (IntKind.i64.wrap (s3.2.2 + 1))) rfl ?_)
          refine da_nil ?_
          refine W_region rfl ?_
          refine da_op rfl (d_mv (v := .int .i64 s3.2.2) s7_5 ?_)
          refine da_op rfl (d_iarith rfl rfl (.inl ⟨rfl, rfl⟩) ?_)
          refine da_op rfl (d_as (v := .int .i64 (IntKind.i64.wrap (s3.2.2 + 1))) rfl ?_)
          refine da_nil ?_
          obtain rfl := Option.some.inj hr
          exact ⟨_, rfl, ⟨v17pa, v17pn, v17pc, rfl, rfl, rfl, s0_5, s1_5, O17, own17, X19⟩⟩
        · skip
          replace hr := bif_f hr hc9
          refine W_skip ?_
          refine W_region rfl ?_
          refine da_op rfl (d_mv (v := .int .i64 s3.2.2) s7_5 ?_)
          refine da_op rfl (d_iarith rfl rfl (.inl ⟨rfl, rfl⟩) ?_)
          refine da_op rfl (d_as (v := .int .i64 (IntKind.i64.wrap (s3.2.2 + 1))) rfl ?_)
          refine da_nil ?_
          have B20 : OS w5 9 encS (Value.slice i3_0a i3_0n i3_0c) s3.1 := i3_0R.ext E5
          obtain rfl := Option.some.inj hr
          exact ⟨_, rfl, ⟨i3_0a, i3_0n, i3_0c, s5_5, s6_5, rfl, s0_5, s1_5, B20, i3_0O, X8⟩⟩
    · skip
      replace hr := bif_f hr hc4
      refine W_exit ?_
      obtain rfl := Option.some.inj hr
      exact ⟨_, rfl, rfl, i3_0a, i3_0n, i3_0c, i3_S5, i3_0R, i3_0O, i3_X⟩
  · skip
    intro ex σx3 wx3 hq
    obtain ⟨rfl, q3_0_0a, q3_0_0n, q3_0_0c, q3_0_S5, q3_0_0R, q3_0_0O, q3_0_X⟩ := hq
    refine W_seq ?_
    refine W_region rfl ?_
    refine da_op rfl (d_mv (v := (Value.slice q3_0_0a q3_0_0n q3_0_0c)) q3_0_S5 ?_)
    refine da_op rfl (d_as (v := (Value.slice q3_0_0a q3_0_0n q3_0_0c)) rfl ?_)
    refine da_nil ?_
    refine W_ret ?_
    obtain rfl := Option.some.inj hr
    refine ⟨_, res1 (rv_tmp rfl), ?_⟩
    exact ⟨q3_0_0a, q3_0_0n, q3_0_0c, rfl, q3_0_0R, q3_0_0O, q3_0_X⟩
set_option maxHeartbeats 4000000 in
theorem c158 (p0 : Int) (r : Nat) (w : World) (hr : M.spec_l01From p0 = r)  :
    Calls Tryd.prog 158 #[.int .i64 p0] w fun e w' => ∃ q0r : Nat, e = .returned (.float .f32 q0r) ∧ cn .f32 q0r = r ∧ Ext w w' := by
  refine calls_of_W Tryd.func158 rfl (Nat.le_of_ble_eq_true rfl) ?_
  refine W_seq ?_
  refine W_region rfl ?_
  refine da_op rfl (d_as (v := .float .f32 0) rfl ?_)
  refine da_nil ?_
  refine W_seq ?_
  refine W_region rfl ?_
  refine da_op rfl (d_mv (v := .int .i64 p0) rfl ?_)
  refine da_op rfl (d_iconv un2 un193 rfl ?_)
  refine da_op rfl (d_f32from ext186_0 ext186_1 ext186_2 (Option.isNone_iff_eq_none.1 ext186_3) ext186_4 rfl rfl ?_)
  refine da_op rfl (d_as (v := .float .f32 ((IntKind.u32.wrap p0)).toNat) rfl ?_)
  refine da_nil ?_
  refine W_ret ?_
  subst hr
  refine ⟨_, res1 (rv_tmp rfl), ?_⟩
  exact ⟨((IntKind.u32.wrap p0)).toNat, rfl, rfl, (Ext.refl w)⟩
set_option maxHeartbeats 4000000 in
theorem c159 (p0 : Nat) (p0r : Nat) (r : Int) (w : World) (hr : M.spec_l01Bits p0 = r) (p0h : cn .f32 p0r = p0) :
    Calls Tryd.prog 159 #[.float .f32 p0r] w fun e w' => e = .returned (.int .i64 r) ∧ Ext w w' := by
  refine calls_of_W Tryd.func159 rfl (Nat.le_of_ble_eq_true rfl) ?_
  refine W_seq ?_
  refine W_region rfl ?_
  refine da_op rfl (d_as (v := .int .i64 0) rfl ?_)
  refine da_nil ?_
  refine W_seq ?_
  refine W_seq ?_
  refine W_region rfl ?_
  refine da_op rfl (d_mv (v := .float .f32 p0r) rfl ?_)
  refine da_op rfl (d_mv (v := .float .f32 p0r) rfl ?_)
  refine da_op rfl (d_fcmp (k := .f32) cNeq rfl rfl p0h p0h ?_)
  refine da_nil ?_
  refine W_cond (b := (fcmp .neq .f32 p0 p0)) rfl (fun hc1 => ?_) (fun hc1 => ?_)
  · skip
    replace hr := bif_t hr hc1
    refine W_seq ?_
    refine W_region rfl ?_
    refine da_op rfl (d_as (v := .int .i64 2143289344) rfl ?_)
    refine da_nil ?_
    refine W_ret ?_
    subst hr
    refine ⟨_, res1 (rv_tmp rfl), ?_⟩
    exact ⟨rfl, (Ext.refl w)⟩
  · skip
    replace hr := bif_f hr hc1
    refine W_skip ?_
    refine W_seq ?_
    refine W_region rfl ?_
    refine da_op rfl (d_mv (v := .float .f32 p0r) rfl ?_)
    refine da_op rfl (d_f32bits ext154_0 ext154_1 ext154_2 (Option.isNone_iff_eq_none.1 ext154_3) ext154_4 rfl rfl p0h (nn_ne hc1) ?_)
    refine da_op rfl (d_iconv un193 un2 rfl ?_)
    refine da_op rfl (d_as (v := .int .i64 (IntKind.i64.wrap (p0 : Int))) rfl ?_)
    refine da_nil ?_
    refine W_ret ?_
    subst hr
    refine ⟨_, res1 (rv_tmp rfl), ?_⟩
    exact ⟨rfl, (Ext.refl w)⟩
set_option maxHeartbeats 4000000 in
theorem c105 (p0 : List UInt8) (r : List Nat × Bool) (w : World) (hr : M.spec_l01NRead p0 = some r)  :
    Calls Tryd.prog 105 #[.string (bs p0)] w fun e w' => ∃ q0a : Option Addr, ∃ q0n : Nat, ∃ q0c : Nat, e = .returned (.tuple #[(Value.slice q0a q0n q0c), .bool r.2]) ∧ OS w' 22 encF_f32 (Value.slice q0a q0n q0c) r.1 ∧ (∀ k, (Value.slice q0a q0n q0c).ownBlock = some k → w.heap.size ≤ k) ∧ Ext w w' := by
  refine calls_of_W Tryd.func105 rfl (Nat.le_of_ble_eq_true rfl) ?_
  refine W_seq ?_
  refine W_region rfl ?_
  refine da_op rfl (d_as (v := .slice none 0 0) rfl ?_)
  refine da_op rfl (d_as (v := .bool false) rfl ?_)
  refine da_nil ?_
  refine W_seq ?_
  refine W_region rfl ?_
  refine da_op rfl (d_bslice0 un53 size22 fun w1 B1 E1 => ?_)
  have fr1 : ∀ k, (Value.slice (some ⟨w.heap.size, 0, none⟩) 0 0).ownBlock = some k → w.heap.size ≤ k := fun k hk => by cases hk; exact Nat.le_refl _
  have own1 : ∀ k, (Value.slice (some ⟨w.heap.size, 0, none⟩) 0 0).ownBlock = some k → w.heap.size ≤ k := fun k hk => Nat.le_trans (Ext.refl w).size (fr1 k hk)
  have X2 : Ext w w1 := (Ext.refl w).trans E1
  have O1 : OS w1 22 encF_f32 (Value.slice (some ⟨w.heap.size, 0, none⟩) 0 0) ([] : List Nat) := OS.box (xs := ([] : List Nat)) B1 rfl (Nat.le_of_ble_eq_true rfl)
  refine da_op rfl (d_as (v := (Value.slice (some ⟨w.heap.size, 0, none⟩) 0 0)) rfl ?_)
  refine da_nil ?_
  refine W_seq ?_
  refine W_seq ?_
  refine W_region rfl ?_
  refine da_op rfl (d_mv (v := .string (bs p0)) rfl ?_)
  refine da_op rfl (d_seq rfl rfl ?_)
  refine da_nil ?_
  refine W_cond (b := (p0 == ([110, 111, 110, 101] : List UInt8))) rfl (fun hc3 => ?_) (fun hc3 => ?_)
  · skip
    replace hr := bif_t hr hc3
    refine W_seq ?_
    refine W_region rfl ?_
    refine da_op rfl (d_mv (v := (Value.slice (some ⟨w.heap.size, 0, none⟩) 0 0)) rfl ?_)
    refine da_op rfl (d_as (v := (Value.slice (some ⟨w.heap.size, 0, none⟩) 0 0)) rfl ?_)
    refine da_op rfl (d_as (v := .bool true) rfl ?_)
    refine da_nil ?_
    refine W_ret ?_
    obtain rfl := Option.some.inj hr
    refine ⟨_, res2 (rv_tmp rfl) (rv_tmp rfl), ?_⟩
    exact ⟨(some ⟨w.heap.size, 0, none⟩), 0, 0, rfl, O1, own1, X2⟩
  · skip
    replace hr := bif_f hr hc3
    refine W_skip ?_
    refine W_seq ?_
    refine W_region rfl ?_
    refine da_op rfl (d_mv (v := .string (bs p0)) rfl ?_)
    obtain ⟨m4, hm4, hr⟩ := bind_out hr
    refine da_op rfl (d_cl (vs := [.string (bs p0), .int .u8 44]) en119 (ac rfl (ac rfl rfl)) rfl ?_)
    refine (c119 p0 44 m4 w1 hm4 ).mono ?_
    rintro _ w5 ⟨q5_0a, q5_0n, q5_0c, rfl, q5_0R, q5_0F, E5⟩
    refine ⟨_, rfl, ?_⟩
    have own6 : ∀ k, (Value.slice q5_0a q5_0n q5_0c).ownBlock = some k → w.heap.size ≤ k := fun k hk => Nat.le_trans X2.size (q5_0F k hk)
    have sp7 : ∀ k, (Value.slice (some ⟨w.heap.size, 0, none⟩) 0 0).ownBlock = some k → ¬ (Value.slice q5_0a q5_0n q5_0c).ownBlock = some k := apart_fresh O1 q5_0F
    have X8 : Ext w w5 := X2.trans E5
    refine da_op rfl (d_as (v := (Value.slice q5_0a q5_0n q5_0c)) rfl ?_)
    refine da_nil ?_
    refine W_seq ?_
    refine W_seq ?_
    refine W_region rfl ?_
    refine da_op rfl (d_mv (v := (Value.slice q5_0a q5_0n q5_0c)) rfl ?_)
    refine da_op rfl (d_len (e := encS) un34 rfl q5_0R.rs ?_)
    refine da_op rfl (d_icmp cGtr rfl rfl ?_)
    refine da_nil ?_
    refine W_cond (b := (icmp .gtr ((m4).length : Int) 256)) rfl (fun hc9 => ?_) (fun hc9 => ?_)
    · skip
      replace hr := bif_t hr hc9
      refine W_seq ?_
      refine W_region rfl ?_
      refine da_op rfl (d_as (v := .slice none 0 0) rfl ?_)
      refine da_op rfl (d_as (v := .bool false) rfl ?_)
      refine da_nil ?_
      refine W_ret ?_
      obtain rfl := Option.some.inj hr
      refine ⟨_, res2 (rv_tmp rfl) (rv_tmp rfl), ?_⟩
      exact ⟨none, 0, 0, rfl, (OS.nil _ 22 encF_f32), (fun k hk => by cases hk), X8⟩
    · skip
      replace hr := bif_f hr hc9
      refine W_skip ?_
      refine W_seq ?_
      refine W_seq ?_
      refine W_region rfl ?_
      refine da_op rfl (d_as (v := .int .i64 0) rfl ?_)
      refine da_nil ?_
      refine W_block ?_
      have B11 : OS w5 22 encF_f32 (Value.slice (some ⟨w.heap.size, 0, none⟩) 0 0) ([] : List Nat) := O1.ext E5
      obtain ⟨m10, hm10, hr⟩ := bind_out hr
      refine W_loopM hm10 (fun (s10 : List Nat × Int) σ w' => ∃ i10_0a : Option Addr, ∃ i10_0n : Nat, ∃ i10_0c : Nat, σ 4 = (Value.slice i10_0a i10_0n i10_0c) ∧ σ 6 = .int .i64 s10.2 ∧ σ 5 = (Value.slice q5_0a q5_0n q5_0c) ∧ OS w' 22 encF_f32 (Value.slice i10_0a i10_0n i10_0c) s10.1 ∧ (∀ k, (Value.slice i10_0a i10_0n i10_0c).ownBlock = some k → w.heap.size ≤ k) ∧ OS w' 9 encS (Value.slice q5_0a q5_0n q5_0c) m4 ∧ (∀ k, (Value.slice q5_0a q5_0n q5_0c).ownBlock = some k → ¬ (Value.slice i10_0a i10_0n i10_0c).ownBlock = some k) ∧ Ext w w') (fun (e10 : ((List Nat) ⊕ (List Nat × Bool))) ex σ w' => sel e10 (fun e10 => ex = .exit 0 ∧ ∃ q10_0_0a : Option Addr, ∃ q10_0_0n : Nat, ∃ q10_0_0c : Nat, σ 4 = (Value.slice q10_0_0a q10_0_0n q10_0_0c) ∧ OS w' 22 encF_f32 (Value.slice q10_0_0a q10_0_0n q10_0_0c) e10 ∧ (∀ k, (Value.slice q10_0_0a q10_0_0n q10_0_0c).ownBlock = some k → w.heap.size ≤ k) ∧ Ext w w') (fun e10 => ex = .ret ∧ ∃ q10_1_0a : Option Addr, ∃ q10_1_0n : Nat, ∃ q10_1_0c : Nat, σ 2 = (Value.slice q10_1_0a q10_1_0n q10_1_0c) ∧ σ 3 = .bool e10.2 ∧ OS w' 22 encF_f32 (Value.slice q10_1_0a q10_1_0n q10_1_0c) e10.1 ∧ (∀ k, (Value.slice q10_1_0a q10_1_0n q10_1_0c).ownBlock = some k → w.heap.size ≤ k) ∧ Ext w w')) ⟨(some ⟨w.heap.size, 0, none⟩), 0, 0, rfl, rfl, rfl, B11, own1, q5_0R, (apart_symm sp7), X8⟩ ?_ ?_
      · skip
        rintro s10 σl10 wl10 r10l ⟨i10_0a, i10_0n, i10_0c, i10_S4, i10_S6, i10_S5, i10_0R, i10_0O, i10_K0, i10_A0, i10_X⟩ hr
        refine W_seq ?_
        refine W_seq ?_
        refine W_region rfl ?_
        refine da_op rfl (d_mv (v := .int .i64 s10.2) i10_S6 ?_)
        refine da_op rfl (d_mv (v := (Value.slice q5_0a q5_0n q5_0c)) i10_S5 ?_)
        refine da_op rfl (d_len (e := encS) un34 rfl i10_K0.rs ?_)
        refine da_op rfl (d_icmp cLss rfl rfl ?_)
        refine da_nil ?_
        refine W_cond (b := (icmp .lss s10.2 ((m4).length : Int))) rfl (fun hc12 => ?_) (fun hc12 => ?_)
        · skip
          replace hr := bif_t hr hc12
          refine W_skip ?_
          refine W_seq ?_
          refine W_block ?_
          refine W_seq ?_
          refine W_seq ?_
          refine W_region rfl ?_
          refine da_op rfl (d_mv (v := (Value.slice q5_0a q5_0n q5_0c)) i10_S5 ?_)
          refine da_op rfl (d_mv (v := .int .i64 s10.2) i10_S6 ?_)
          obtain ⟨m13, hm13, hr⟩ := bind_out hr
          refine da_op rfl (d_indexO (e := encS) (v := (Value.slice q5_0a q5_0n q5_0c)) un34 size9 rfl rfl i10_K0 hm13 fun g14 fr14 cu14 vs14 hv14 hg14 hp14 hq14 => ?_)
          obtain rfl := dec_encS hq14
          have sp15 : ¬ (Value.slice i10_0a i10_0n i10_0c).ownBlock = some g14 := fun e => (apart_symm i10_A0) _ e (by rw [hv14]; rfl)
          refine da_op rfl (d_load (v := .string (bs m13)) rfl agg9 hg14 (sub_get (vs := #[.string (bs m13)]) hp14 (i := 0) rfl) ?_)
          refine da_op rfl (d_slen un9 rfl ?_)
          refine da_op rfl (d_icmp cNeq rfl rfl ?_)
          refine da_nil ?_
          refine W_cond (b := (icmp .neq ((m13).length : Int) 8)) rfl (fun hc16 => ?_) (fun hc16 => ?_)
          · skip
            replace hr := bif_t hr hc16
            refine W_seq ?_
            refine W_region rfl ?_
            refine da_op rfl (d_as (v := .slice none 0 0) rfl ?_)
            refine da_op rfl (d_as (v := .bool false) rfl ?_)
            refine da_nil ?_
            refine W_ret ?_
            obtain rfl := Option.some.inj hr
            exact ⟨_, rfl, rfl, none, 0, 0, rfl, rfl, (OS.nil _ 22 encF_f32), (fun k hk => by cases hk), i10_X⟩
          · skip
            replace hr := bif_f hr hc16
            refine W_skip ?_
            refine W_seq ?_
            refine W_region rfl ?_
            refine da_op rfl (d_as (v := .int .i64 0) rfl ?_)
            refine da_nil ?_
            refine W_seq ?_
            refine W_seq ?_
            refine W_region rfl ?_
            refine da_op rfl (d_as (v := .int .i64 0) rfl ?_)
            refine da_nil ?_
            refine W_block ?_
            obtain ⟨m17, hm17, hr⟩ := bind_out hr
            refine W_loopM hm17 (fun (s17 : Int × Int) σ w' => σ 7 = .int .i64 s17.1 ∧ σ 8 = .int .i64 s17.2 ∧ σ 4 = (Value.slice i10_0a i10_0n i10_0c) ∧ σ 5 = (Value.slice q5_0a q5_0n q5_0c) ∧ σ 6 = .int .i64 s10.2 ∧ OS w' 9 encS (Value.slice q5_0a q5_0n q5_0c) m4 ∧ OS w' 22 encF_f32 (Value.slice i10_0a i10_0n i10_0c) s10.1 ∧ Ext w w') (fun (e17 : (Int ⊕ (List Nat × Bool))) ex σ w' => sel e17 (fun e17 => ex = .exit 2 ∧ σ 7 = .int .i64 e17 ∧ σ 4 = (Value.slice i10_0a i10_0n i10_0c) ∧ σ 5 = (Value.slice q5_0a q5_0n q5_0c) ∧ σ 6 = .int .i64 s10.2 ∧ OS w' 9 encS (Value.slice q5_0a q5_0n q5_0c) m4 ∧ OS w' 22 encF_f32 (Value.slice i10_0a i10_0n i10_0c) s10.1 ∧ Ext w w') (fun e17 => ex = .ret ∧ ∃ q17_1_0a : Option Addr, ∃ q17_1_0n : Nat, ∃ q17_1_0c : Nat, σ 2 = (Value.slice q17_1_0a q17_1_0n q17_1_0c) ∧ σ 3 = .bool e17.2 ∧ OS w' 22 encF_f32 (Value.slice q17_1_0a q17_1_0n q17_1_0c) e17.1 ∧ (∀ k, (Value.slice q17_1_0a q17_1_0n q17_1_0c).ownBlock = some k → w.heap.size ≤ k) ∧ Ext w w')) ⟨rfl, rfl, i10_S4, i10_S5, i10_S6, i10_K0, i10_0R, i10_X⟩ ?_ ?_
            · skip
              rintro s17 σl17 wl17 r17l ⟨i17_S7, i17_S8, i17_S4, i17_S5, i17_S6, i17_K0, i17_K1, i17_X⟩ hr
              refine W_seq ?_
              refine W_seq ?_
              refine W_region rfl ?_
              refine da_op rfl (d_mv (v := .int .i64 s17.2) i17_S8 ?_)
              refine da_op rfl (d_icmp cLss rfl rfl ?_)
              refine da_nil ?_
              refine W_cond (b := (icmp .lss s17.2 8)) rfl (fun hc18 => ?_) (fun hc18 => ?_)
              · skip
                replace hr := bif_t hr hc18
                refine W_skip ?_
                refine W_seq ?_
                refine W_block ?_
                refine W_seq ?_
                refine W_region rfl ?_
                refine da_op rfl (d_mv (v := (Value.slice q5_0a q5_0n q5_0c)) i17_S5 ?_)
                refine da_op rfl (d_mv (v := .int .i64 s10.2) i17_S6 ?_)
                obtain ⟨m19, hm19, hr⟩ := bind_out hr
                refine da_op rfl (d_indexO (e := encS) (v := (Value.slice q5_0a q5_0n q5_0c)) un34 size9 rfl rfl i17_K0 hm19 fun g20 fr20 cu20 vs20 hv20 hg20 hp20 hq20 => ?_)
                obtain rfl := dec_encS hq20
                have sp21 : ¬ (Value.slice i10_0a i10_0n i10_0c).ownBlock = some g20 := fun e => (apart_symm i10_A0) _ e (by rw [hv20]; rfl)
                refine da_op rfl (d_load (v := .string (bs m19)) rfl agg9 hg20 (sub_get (vs := #[.string (bs m19)]) hp20 (i := 0) rfl) ?_)
                refine da_op rfl (d_mv (v := .int .i64 s17.2) i17_S8 ?_)
                obtain ⟨m22, hm22, hr⟩ := bind_out hr
                refine da_op rfl (d_sidx un9 rfl rfl hm22 ?_)
                refine da_op rfl (d_as (v := .int .u8 m22) rfl ?_)
                refine da_nil ?_
                refine W_seq ?_
                refine W_region rfl ?_
                refine da_op rfl (d_as (v := .int .i64 (-1)) rfl ?_)
                refine da_nil ?_
                refine W_seq ?_
                refine W_seq ?_
                obtain ⟨m23, hm23, hr⟩ := letv_out hr
                refine W_cut (fun σ' w' => σ' 48 = .bool m23 ∧ Ext wl17 w') rfl ?_ ?_
                · skip
                  have hr := hm23
                  refine da_op rfl (d_mv (v := .int .u8 m22) rfl ?_)
                  refine da_op rfl (d_icmp cGeq rfl rfl ?_)
                  refine da_op rfl (d_mv (v := .bool (icmp .geq m22 48)) rfl ?_)
                  rcases Bool.eq_false_or_eq_true (icmp .geq m22 48) with hc24 | hc24
                  · skip
                    replace hr := bif_t hr hc24
                    refine da_on rfl (Eq.trans (show sl _ _ _ = .bool (icmp .geq m22 48) from rfl) (congrArg Value.bool hc24)) (d_mv (v := .int .u8 m22) rfl ?_)
                    refine da_on rfl (Eq.trans (show sl _ _ _ = .bool (icmp .geq m22 48) from rfl) (congrArg Value.bool hc24)) (d_icmp cLeq rfl rfl ?_)
                    refine da_op rfl (d_pick (b := true) (Eq.trans (show ev _ _ = .bool (icmp .geq m22 48) from rfl) (congrArg Value.bool hc24)) ?_)
                    refine da_nil ?_
                    subst hr
                    exact ⟨rfl, (Ext.refl wl17)⟩
                  · skip
                    replace hr := bif_f hr hc24
                    refine da_off rfl (Eq.trans (show sl _ _ _ = .bool (icmp .geq m22 48) from rfl) (congrArg Value.bool hc24)) (by decide) ?_
                    refine da_off rfl (Eq.trans (show sl _ _ _ = .bool (icmp .geq m22 48) from rfl) (congrArg Value.bool hc24)) (by decide) ?_
                    refine da_op rfl (d_pick (b := false) (Eq.trans (show ev _ _ = .bool (icmp .geq m22 48) from rfl) (congrArg Value.bool hc24)) ?_)
                    refine da_nil ?_
                    subst hr
                    exact ⟨rfl, (Ext.refl wl17)⟩
                · skip
                  rintro σ23 w23 o23 ⟨s48_23, E23⟩
                  have s7_23 : σ23 7 = .int .i64 s17.1 := (o23 7 rfl).trans i17_S7
                  have s8_23 : σ23 8 = .int .i64 s17.2 := (o23 8 rfl).trans i17_S8
                  have s4_23 : σ23 4 = (Value.slice i10_0a i10_0n i10_0c) := (o23 4 rfl).trans i17_S4
                  have s5_23 : σ23 5 = (Value.slice q5_0a q5_0n q5_0c) := (o23 5 rfl).trans i17_S5
                  have s6_23 : σ23 6 = .int .i64 s10.2 := (o23 6 rfl).trans i17_S6
                  have s9_23 : σ23 9 = .int .u8 m22 := (o23 9 rfl).trans rfl
                  have s10_23 : σ23 10 = .int .i64 (-1) := (o23 10 rfl).trans rfl
                  have X25 : Ext w w23 := i17_X.trans E23
                  refine W_cond (b := m23) s48_23 (fun hc26 => ?_) (fun hc26 => ?_)
                  · skip
                    replace hr := bif_t hr hc26
                    refine W_region rfl ?_
                    refine da_op rfl (d_mv (v := .int .u8 m22) s9_23 ?_)
                    refine da_op rfl (d_iarith rfl rfl (.inr (.inl ⟨rfl, rfl⟩)) ?_)
                    refine da_op rfl (d_iconv un5 un2 rfl ?_)
                    refine da_op rfl (d_as (v := .int .i64 (IntKind.i64.wrap (IntKind.u8.wrap (m22 - 48)))) rfl ?_)
                    refine da_nil ?_
                    refine W_seq ?_
                    refine W_seq ?_
                    have B28 : OS w23 9 encS (Value.slice q5_0a q5_0n q5_0c) m4 := i17_K0.ext E23
                    have B29 : OS w23 22 encF_f32 (Value.slice i10_0a i10_0n i10_0c) s10.1 := i17_K1.ext E23
                    obtain ⟨m27, hm27, hr⟩ := letv_out hr
                    refine W_cut (fun σ' w' => σ' 57 = .bool m27 ∧ Ext w23 w') rfl ?_ ?_
                    · skip
                      have hr := hm27
                      refine da_op rfl (d_mv (v := .int .u8 m22) s9_23 ?_)
                      refine da_op rfl (d_icmp cGeq rfl rfl ?_)
                      refine da_op rfl (d_mv (v := .bool (icmp .geq m22 97)) rfl ?_)
                      rcases Bool.eq_false_or_eq_true (icmp .geq m22 97) with hc30 | hc30
                      · skip
                        replace hr := bif_t hr hc30
                        refine da_on rfl (Eq.trans (show sl _ _ _ = .bool (icmp .geq m22 97) from rfl) (congrArg Value.bool hc30)) (d_mv (v := .int .u8 m22) s9_23 ?_)
                        refine da_on rfl (Eq.trans (show sl _ _ _ = .bool (icmp .geq m22 97) from rfl) (congrArg Value.bool hc30)) (d_icmp cLeq rfl rfl ?_)
                        refine da_op rfl (d_pick (b := true) (Eq.trans (show ev _ _ = .bool (icmp .geq m22 97) from rfl) (congrArg Value.bool hc30)) ?_)
                        refine da_nil ?_
                        subst hr
                        exact ⟨rfl, (Ext.refl w23)⟩
                      · skip
                        replace hr := bif_f hr hc30
                        refine da_off rfl (Eq.trans (show sl _ _ _ = .bool (icmp .geq m22 97) from rfl) (congrArg Value.bool hc30)) (by decide) ?_
                        refine da_off rfl (Eq.trans (show sl _ _ _ = .bool (icmp .geq m22 97) from rfl) (congrArg Value.bool hc30)) (by decide) ?_
                        refine da_op rfl (d_pick (b := false) (Eq.trans (show ev _ _ = .bool (icmp .geq m22 97) from rfl) (congrArg Value.bool hc30)) ?_)
                        refine da_nil ?_
                        subst hr
                        exact ⟨rfl, (Ext.refl w23)⟩
                    · skip
                      rintro σ27 w27 o27 ⟨s57_27, E27⟩
                      have s7_27 : σ27 7 = .int .i64 s17.1 := (o27 7 rfl).trans s7_23
                      have s8_27 : σ27 8 = .int .i64 s17.2 := (o27 8 rfl).trans s8_23
                      have s4_27 : σ27 4 = (Value.slice i10_0a i10_0n i10_0c) := (o27 4 rfl).trans s4_23
                      have s5_27 : σ27 5 = (Value.slice q5_0a q5_0n q5_0c) := (o27 5 rfl).trans s5_23
                      have s6_27 : σ27 6 = .int .i64 s10.2 := (o27 6 rfl).trans s6_23
                      have s9_27 : σ27 9 = .int .u8 m22 := (o27 9 rfl).trans s9_23
                      have s10_27 : σ27 10 = .int .i64 (IntKind.i64.wrap (IntKind.u8.wrap (m22 - 48))) := (o27 10 rfl).trans rfl
                      have X31 : Ext w w27 := X25.trans E27
                      refine W_cond (b := m27) s57_27 (fun hc32 => ?_) (fun hc32 => ?_)
                      · skip
                        replace hr := bif_t hr hc32
                        refine W_region rfl ?_
                        refine da_op rfl (d_mv (v := .int .u8 m22) s9_27 ?_)
                        refine da_op rfl (d_iarith rfl rfl (.inr (.inl ⟨rfl, rfl⟩)) ?_)
                        refine da_op rfl (d_iconv un5 un2 rfl ?_)
                        refine da_op rfl (d_iarith rfl rfl (.inl ⟨rfl, rfl⟩) ?_)
                        refine da_op rfl (d_as (v := .int .i64 (IntKind.i64.wrap ((IntKind.i64.wrap (IntKind.u8.wrap (m22 - 97))) + 10))) rfl ?_)
                        refine da_nil ?_
                        refine W_seq ?_
                        refine W_seq ?_
                        refine W_region rfl ?_
                        refine da_op rfl (d_mv (v := .int .i64 (IntKind.i64.wrap ((IntKind.i64.wrap (IntKind.u8.wrap (m22 - 97))) + 10))) rfl ?_)
                        refine da_op rfl (d_icmp cLss rfl rfl ?_)
                        refine da_nil ?_
                        refine W_cond (b := (icmp .lss (IntKind.i64.wrap ((IntKind.i64.wrap (IntKind.u8.wrap (m22 - 97))) + 10)) 0)) rfl (fun hc33 => ?_) (fun hc33 => ?_)
                        · skip
                          replace hr := bif_t hr hc33
                          refine W_seq ?_
                          refine W_region rfl ?_
                          refine da_op rfl (d_as (v := .slice none 0 0) rfl ?_)
                          refine da_op rfl (d_as (v := .bool false) rfl ?_)
                          refine da_nil ?_
                          refine W_ret ?_
                          obtain rfl := Option.some.inj hr
                          exact ⟨_, rfl, rfl, none, 0, 0, rfl, rfl, (OS.nil _ 22 encF_f32), (fun k hk => by cases hk), X31⟩
                        · skip
                          replace hr := bif_f hr hc33
                          refine W_skip ?_
                          refine W_region rfl ?_
                          refine da_op rfl (d_mv (v := .int .i64 s17.1) s7_27 ?_)
                          refine da_op rfl (d_iarith rfl rfl (.inr (.inr ⟨rfl, rfl⟩)) ?_)
                          refine da_op rfl (d_mv (v := .int .i64 (IntKind.i64.wrap ((IntKind.i64.wrap (IntKind.u8.wrap (m22 - 97))) + 10))) rfl ?_)
                          refine da_op rfl (d_iarith rfl rfl (.inl ⟨rfl, rfl⟩) ?_)
                          refine da_op rfl (d_as (v := .int .i64 (IntKind.i64.wrap ((IntKind.i64.wrap (16 * s17.1)) + (IntKind.i64.wrap ((IntKind.i64.wrap (IntKind.u8.wrap (m22 - 97))) + 10))))) rfl ?_)
                          refine da_nil ?_
                          refine W_region rfl ?_
                          refine da_op rfl (d_mv (v := .int .i64 s17.2) s8_27 ?_)
                          refine da_op rfl (d_iarith rfl rfl (.inl ⟨rfl, rfl⟩) ?_)
                          refine da_op rfl (d_as (v := .int .i64 (IntKind.i64.wrap (s17.2 + 1))) rfl ?_)
                          refine da_nil ?_
                          have B34 : OS w27 9 encS (Value.slice q5_0a q5_0n q5_0c) m4 := B28.ext E27
                          have B35 : OS w27 22 encF_f32 (Value.slice i10_0a i10_0n i10_0c) s10.1 := B29.ext E27
                          obtain rfl := Option.some.inj hr
                          exact ⟨_, rfl, ⟨rfl, rfl, s4_27, s5_27, s6_27, B34, B35, X31⟩⟩
                      · skip
                        replace hr := bif_f hr hc32
                        refine W_skip ?_
                        refine W_seq ?_
                        refine W_seq ?_
                        refine W_region rfl ?_
                        refine da_op rfl (d_mv (v := .int .i64 (IntKind.i64.wrap (IntKind.u8.wrap (m22 - 48)))) s10_27 ?_)
                        refine da_op rfl (d_icmp cLss rfl rfl ?_)
                        refine da_nil ?_
                        refine W_cond (b := (icmp .lss (IntKind.i64.wrap (IntKind.u8.wrap (m22 - 48))) 0)) rfl (fun hc36 => ?_) (fun hc36 => ?_)
                        · skip
                          replace hr := bif_t hr hc36
                          refine W_seq ?_
                          refine W_region rfl ?_
                          refine da_op rfl (d_as (v := .slice none 0 0) rfl ?_)
                          refine da_op rfl (d_as (v := .bool false) rfl ?_)
                          refine da_nil ?_
                          refine W_ret ?_
                          obtain rfl := Option.some.inj hr
                          exact ⟨_, rfl, rfl, none, 0, 0, rfl, rfl, (OS.nil _ 22 encF_f32), (fun k hk => by cases hk), X31⟩
                        · skip
                          replace hr := bif_f hr hc36
                          refine W_skip ?_
                          refine W_region rfl ?_
                          refine da_op rfl (d_mv (v := .int .i64 s17.1) s7_27 ?_)
                          refine da_op rfl (d_iarith rfl rfl (.inr (.inr ⟨rfl, rfl⟩)) ?_)
                          refine da_op rfl (d_mv (v := .int .i64 (IntKind.i64.wrap (IntKind.u8.wrap (m22 - 48)))) s10_27 ?_)
                          refine da_op rfl (d_iarith rfl rfl (.inl ⟨rfl, rfl⟩) ?_)
                          refine da_op rfl (d_as (v := .int .i64 (IntKind.i64.wrap ((IntKind.i64.wrap (16 * s17.1)) + (IntKind.i64.wrap (IntKind.u8.wrap (m22 - 48)))))) rfl ?_)
                          refine da_nil ?_
                          refine W_region rfl ?_
                          refine da_op rfl (d_mv (v := .int .i64 s17.2) s8_27 ?_)
                          refine da_op rfl (d_iarith rfl rfl (.inl ⟨rfl, rfl⟩) ?_)
                          refine da_op rfl (d_as (v := .int .i64 (IntKind.i64.wrap (s17.2 + 1))) rfl ?_)
                          refine da_nil ?_
                          have B37 : OS w27 9 encS (Value.slice q5_0a q5_0n q5_0c) m4 := B28.ext E27
                          have B38 : OS w27 22 encF_f32 (Value.slice i10_0a i10_0n i10_0c) s10.1 := B29.ext E27
                          obtain rfl := Option.some.inj hr
                          exact ⟨_, rfl, ⟨rfl, rfl, s4_27, s5_27, s6_27, B37, B38, X31⟩⟩
                  · skip
                    replace hr := bif_f hr hc26
                    refine W_skip ?_
                    refine W_seq ?_
                    refine W_seq ?_
                    have B40 : OS w23 9 encS (Value.slice q5_0a q5_0n q5_0c) m4 := i17_K0.ext E23
                    have B41 : OS w23 22 encF_f32 (Value.slice i10_0a i10_0n i10_0c) s10.1 := i17_K1.ext E23
                    obtain ⟨m39, hm39, hr⟩ := letv_out hr
                    refine W_cut (fun σ' w' => σ' 57 = .bool m39 ∧ Ext w23 w') rfl ?_ ?_
                    · skip
                      have hr := hm39
                      refine da_op rfl (d_mv (v := .int .u8 m22) s9_23 ?_)
                      refine da_op rfl (d_icmp cGeq rfl rfl ?_)
                      refine da_op rfl (d_mv (v := .bool (icmp .geq m22 97)) rfl ?_)
                      rcases Bool.eq_false_or_eq_true (icmp .geq m22 97) with hc42 | hc42
                      · skip
                        replace hr := bif_t hr hc42
                        refine da_on rfl (Eq.trans (show sl _ _ _ = .bool (icmp .geq m22 97) from rfl) (congrArg Value.bool hc42)) (d_mv (v := .int .u8 m22) s9_23 ?_)
                        refine da_on rfl (Eq.trans (show sl _ _ _ = .bool (icmp .geq m22 97) from rfl) (congrArg Value.bool hc42)) (d_icmp cLeq rfl rfl ?_)
                        refine da_op rfl (d_pick (b := true) (Eq.trans (show ev _ _ = .bool (icmp .geq m22 97) from rfl) (congrArg Value.bool hc42)) ?_)
                        refine da_nil ?_
                        subst hr
                        exact ⟨rfl, (Ext.refl w23)⟩
                      · skip
                        replace hr := bif_f hr hc42
                        refine da_off rfl (Eq.trans (show sl _ _ _ = .bool (icmp .geq m22 97) from rfl) (congrArg Value.bool hc42)) (by decide) ?_
                        refine da_off rfl (Eq.trans (show sl _ _ _ = .bool (icmp .geq m22 97) from rfl) (congrArg Value.bool hc42)) (by decide) ?_
                        refine da_op rfl (d_pick (b := false) (Eq.trans (show ev _ _ = .bool (icmp .geq m22 97) from rfl) (congrArg Value.bool hc42)) ?_)
                        refine da_nil ?_
                        subst hr
                        exact ⟨rfl, (Ext.refl w23)⟩
                    · skip
                      rintro σ39 w39 o39 ⟨s57_39, E39⟩
                      have s7_39 : σ39 7 = .int .i64 s17.1 := (o39 7 rfl).trans s7_23
                      have s8_39 : σ39 8 = .int .i64 s17.2 := (o39 8 rfl).trans s8_23
                      have s4_39 : σ39 4 = (Value.slice i10_0a i10_0n i10_0c) := (o39 4 rfl).trans s4_23
                      have s5_39 : σ39 5 = (Value.slice q5_0a q5_0n q5_0c) := (o39 5 rfl).trans s5_23
                      have s6_39 : σ39 6 = .int .i64 s10.2 := (o39 6 rfl).trans s6_23
                      have s9_39 : σ39 9 = .int .u8 m22 := (o39 9 rfl).trans s9_23
                      have s10_39 : σ39 10 = .int .i64 (-1) := (o39 10 rfl).trans s10_23
                      have X43 : Ext w w39 := X25.trans E39
                      refine W_cond (b := m39) s57_39 (fun hc44 => ?_) (fun hc44 => ?_)
                      · skip
                        replace hr := bif_t hr hc44
                        refine W_region rfl ?_
                        refine da_op rfl (d_mv (v := .int .u8 m22) s9_39 ?_)
                        refine da_op rfl (d_iarith rfl rfl (.inr (.inl ⟨rfl, rfl⟩)) ?_)
                        refine da_op rfl (d_iconv un5 un2 rfl ?_)
                        refine da_op rfl (d_iarith rfl rfl (.inl ⟨rfl, rfl⟩) ?_)
                        refine da_op rfl (d_as (v := .int .i64 (IntKind.i64.wrap ((IntKind.i64.wrap (IntKind.u8.wrap (m22 - 97))) + 10))) rfl ?_)
                        refine da_nil ?_
                        refine W_seq ?_
                        refine W_seq ?_
                        refine W_region rfl ?_
                        refine da_op rfl (d_mv (v := .int .i64 (IntKind.i64.wrap ((IntKind.i64.wrap (IntKind.u8.wrap (m22 - 97))) + 10))) rfl ?_)
                        refine da_op rfl (d_icmp cLss rfl rfl ?_)
                        refine da_nil ?_
                        refine W_cond (b := (icmp .lss (IntKind.i64.wrap ((IntKind.i64.wrap (IntKind.u8.wrap (m22 - 97))) + 10)) 0)) rfl (fun hc45 => ?_) (fun hc45 => ?_)
                        · skip
                          replace hr := bif_t hr hc45
                          refine W_seq ?_
                          refine W_region rfl ?_
                          refine da_op rfl (d_as (v := .slice none 0 0) rfl ?_)
                          refine da_op rfl (d_as (v := .bool false) rfl ?_)
                          refine da_nil ?_
                          refine W_ret ?_
                          obtain rfl := Option.some.inj hr
                          exact ⟨_, rfl, rfl, none, 0, 0, rfl, rfl, (OS.nil _ 22 encF_f32), (fun k hk => by cases hk), X43⟩
                        · skip
                          replace hr := bif_f hr hc45
                          refine W_skip ?_
                          refine W_region rfl ?_
                          refine da_op rfl (d_mv (v := .int .i64 s17.1) s7_39 ?_)
                          refine da_op rfl (d_iarith rfl rfl (.inr (.inr ⟨rfl, rfl⟩)) ?_)
                          refine da_op rfl (d_mv (v := .int .i64 (IntKind.i64.wrap ((IntKind.i64.wrap (IntKind.u8.wrap (m22 - 97))) + 10))) rfl ?_)
                          refine da_op rfl (d_iarith rfl rfl (.inl ⟨rfl, rfl⟩) ?_)
                          refine da_op rfl (d_as (v := .int .i64 (IntKind.i64.wrap ((IntKind.i64.wrap (16 * s17.1)) + (IntKind.i64.wrap ((IntKind.i64.wrap (IntKind.u8.wrap (m22 - 97))) + 10))))) rfl ?_)
                          refine da_nil ?_
                          refine W_region rfl ?_
                          refine da_op rfl (d_mv (v := .int .i64 s17.2) s8_39 ?_)
                          refine da_op rfl (d_iarith rfl rfl (.inl ⟨rfl, rfl⟩) ?_)
                          refine da_op rfl (d_as (v := .int .i64 (IntKind.i64.wrap (s17.2 + 1))) rfl ?_)
                          refine da_nil ?_
                          have B46 : OS w39 9 encS (Value.slice q5_0a q5_0n q5_0c) m4 := B40.ext E39
                          have B47 : OS w39 22 encF_f32 (Value.slice i10_0a i10_0n i10_0c) s10.1 := B41.ext E39
                          obtain rfl := Option.some.inj hr
                          exact ⟨_, rfl, ⟨rfl, rfl, s4_39, s5_39, s6_39, B46, B47, X43⟩⟩
                      · skip
                        replace hr := bif_f hr hc44
                        refine W_skip ?_
                        refine W_seq ?_
                        refine W_seq ?_
                        refine W_region rfl ?_
                        refine da_op rfl (d_mv (v := .int .i64 (-1)) s10_39 ?_)
                        refine da_op rfl (d_icmpL (b := true) cLss rfl rfl (by decide) ?_)
                        refine da_nil ?_
                        refine W_true rfl ?_
                        refine W_seq ?_
                        refine W_region rfl ?_
                        refine da_op rfl (d_as (v := .slice none 0 0) rfl ?_)
                        refine da_op rfl (d_as (v := .bool false) rfl ?_)
                        refine da_nil ?_
                        refine W_ret ?_
                        obtain rfl := Option.some.inj hr
                        exact ⟨_, rfl, rfl, none, 0, 0, rfl, rfl, (OS.nil _ 22 encF_f32), (fun k hk => by cases hk), X43⟩
              · skip
                replace hr := bif_f hr hc18
                refine W_exit ?_
                obtain rfl := Option.some.inj hr
                exact ⟨_, rfl, rfl, i17_S7, i17_S4, i17_S5, i17_S6, i17_K0, i17_K1, i17_X⟩
            · skip
              intro ex σx17 wx17 hq
              rcases m17 with m17 | m17
              · skip
                obtain ⟨rfl, q17_0_S7, q17_0_S4, q17_0_S5, q17_0_S6, q17_0_K0, q17_0_K1, q17_0_X⟩ := hq
                refine W_seq ?_
                refine W_region rfl ?_
                refine da_op rfl (d_mv (v := .int .i64 m17) q17_0_S7 ?_)
                obtain ⟨m48, hm48, hr⟩ := letv_out hr
                refine da_op rfl (d_cl (vs := [.int .i64 m17]) en158 (ac rfl rfl) rfl ?_)
                refine (c158 m17 m48 wx17 hm48 ).mono ?_
                rintro _ w49 ⟨q49_0r, rfl, q49_0h, E49⟩
                refine ⟨_, rfl, ?_⟩
                have X50 : Ext w w49 := q17_0_X.trans E49
                refine da_op rfl (d_as (v := .float .f32 q49_0r) rfl ?_)
                refine da_nil ?_
                refine W_seq ?_
                refine W_seq ?_
                refine W_region rfl ?_
                refine da_op rfl (d_mv (v := .float .f32 q49_0r) rfl ?_)
                obtain ⟨m51, hm51, hr⟩ := letv_out hr
                have B52 : OS w49 9 encS (Value.slice q5_0a q5_0n q5_0c) m4 := q17_0_K0.ext E49
                have B53 : OS w49 22 encF_f32 (Value.slice i10_0a i10_0n i10_0c) s10.1 := q17_0_K1.ext E49
                refine da_op rfl (d_cl (vs := [.float .f32 q49_0r]) en159 (ac rfl rfl) rfl ?_)
                refine (c159 m48 q49_0r m51 w49 hm51 q49_0h).mono ?_
                rintro _ w54 ⟨rfl, E54⟩
                refine ⟨_, rfl, ?_⟩
                have X55 : Ext w w54 := X50.trans E54
                refine da_op rfl (d_mv (v := .int .i64 m17) q17_0_S7 ?_)
                refine da_op rfl (d_icmp cNeq rfl rfl ?_)
                refine da_nil ?_
                refine W_cond (b := (icmp .neq m51 m17)) rfl (fun hc56 => ?_) (fun hc56 => ?_)
                · skip
                  replace hr := bif_t hr hc56
                  refine W_seq ?_
                  refine W_region rfl ?_
                  refine da_op rfl (d_as (v := .slice none 0 0) rfl ?_)
                  refine da_op rfl (d_as (v := .bool false) rfl ?_)
                  refine da_nil ?_
                  refine W_ret ?_
                  obtain rfl := Option.some.inj hr
                  exact ⟨_, rfl, rfl, none, 0, 0, rfl, rfl, (OS.nil _ 22 encF_f32), (fun k hk => by cases hk), X55⟩
                · skip
                  replace hr := bif_f hr hc56
                  refine W_skip ?_
                  refine W_region rfl ?_
                  refine da_op rfl (d_mv (v := (Value.slice i10_0a i10_0n i10_0c)) q17_0_S4 ?_)
                  refine da_op rfl (d_mv (v := .float .f32 q49_0r) rfl ?_)
                  have B58 : OS w54 9 encS (Value.slice q5_0a q5_0n q5_0c) m4 := B52.ext E54
                  have B59 : OS w54 22 encF_f32 (Value.slice i10_0a i10_0n i10_0c) s10.1 := B53.ext E54
                  refine da_op rfl (d_bslice (vs := [(0, .float .f32 q49_0r)]) (cs := #[.float .f32 q49_0r]) un53 (pc rfl rfl) (by kernel_rfl) fun w57 B57 E57 => ?_)
                  have fr57 : ∀ k, (Value.slice (some ⟨w54.heap.size, 0, none⟩) 1 1).ownBlock = some k → w54.heap.size ≤ k := fun k hk => by cases hk; exact Nat.le_refl _
                  have own57 : ∀ k, (Value.slice (some ⟨w54.heap.size, 0, none⟩) 1 1).ownBlock = some k → w.heap.size ≤ k := fun k hk => Nat.le_trans X55.size (fr57 k hk)
                  have sp60 : ∀ k, (Value.slice q5_0a q5_0n q5_0c).ownBlock = some k → ¬ (Value.slice (some ⟨w54.heap.size, 0, none⟩) 1 1).ownBlock = some k := apart_fresh B58 fr57
                  have sp61 : ∀ k, (Value.slice i10_0a i10_0n i10_0c).ownBlock = some k → ¬ (Value.slice (some ⟨w54.heap.size, 0, none⟩) 1 1).ownBlock = some k := apart_fresh B59 fr57
                  have X62 : Ext w w57 := X55.trans E57
                  have O57 : OS w57 22 encF_f32 (Value.slice (some ⟨w54.heap.size, 0, none⟩) 1 1) [m48] := OS.box (xs := [m48]) B57 (lc_f q49_0h rfl) (Nat.le_of_ble_eq_true rfl)
                  obtain ⟨m63, hm63, hr⟩ := bind_out hr
                  have B64 : OS w57 22 encF_f32 (Value.slice i10_0a i10_0n i10_0c) s10.1 := B59.ext E57
                  have B65 : OS w57 9 encS (Value.slice q5_0a q5_0n q5_0c) m4 := B58.ext E57
                  refine da_op rfl (d_append (e := encF_f32) (v := (Value.slice i10_0a i10_0n i10_0c)) (y := (Value.slice (some ⟨w54.heap.size, 0, none⟩) 1 1)) un53 info22 rfl (by kernel_rfl) (by kernel_rfl) (by decide) (by decide) rfl rfl B64 O57.rs hm63 fun v66 w66 O66 Fm66 at_66 nl66 => ?_)
                  obtain ⟨v66pa, v66pn, v66pc, rfl⟩ := O66.vals
                  have own66 : ∀ k, (Value.slice v66pa v66pn v66pc).ownBlock = some k → w.heap.size ≤ k := app_own (w := w57) at_66 i10_0O X62.size
                  have sp67 : ∀ k, (Value.slice q5_0a q5_0n q5_0c).ownBlock = some k → ¬ (Value.slice v66pa v66pn v66pc).ownBlock = some k := app_nr at_66 i10_A0 B65
                  have sp68 : ∀ k, (Value.slice (some ⟨w54.heap.size, 0, none⟩) 1 1).ownBlock = some k → ¬ (Value.slice v66pa v66pn v66pc).ownBlock = some k := app_nr at_66 (apart_symm sp61) O57
                  have X69 : Ext w w66 := Ext.step X62 Fm66 (fun k _ hk => i10_0O k hk)
                  refine da_op rfl (d_as (v := (Value.slice v66pa v66pn v66pc)) rfl ?_)
                  refine da_nil ?_
                  refine W_region rfl ?_
                  refine da_op rfl (d_mv (v := .int .i64 s10.2) q17_0_S6 ?_)
                  refine da_op rfl (d_iarith rfl rfl (.inl ⟨rfl, rfl⟩) ?_)
                  refine da_op rfl (d_as (v := .int .i64 (IntKind.i64.wrap (s10.2 + 1))) rfl ?_)
                  refine da_nil ?_
                  have B70 : OS w66 9 encS (Value.slice q5_0a q5_0n q5_0c) m4 := B65.frm Fm66 i10_A0
                  obtain rfl := Option.some.inj hr
                  exact ⟨_, rfl, ⟨v66pa, v66pn, v66pc, rfl, rfl, q17_0_S5, O66, own66, B70, sp67, X69⟩⟩
              · skip
                obtain ⟨rfl, q17_1_0a, q17_1_0n, q17_1_0c, q17_1_S2, q17_1_S3, q17_1_0R, q17_1_0O, q17_1_X⟩ := hq
                obtain rfl := Option.some.inj hr
                exact ⟨_, rfl, rfl, q17_1_0a, q17_1_0n, q17_1_0c, q17_1_S2, q17_1_S3, q17_1_0R, q17_1_0O, q17_1_X⟩
        · skip
          replace hr := bif_f hr hc12
          refine W_exit ?_
          obtain rfl := Option.some.inj hr
          exact ⟨_, rfl, rfl, i10_0a, i10_0n, i10_0c, i10_S4, i10_0R, i10_0O, i10_X⟩
      · skip
        intro ex σx10 wx10 hq
        rcases m10 with m10 | m10
        · skip
          obtain ⟨rfl, q10_0_0a, q10_0_0n, q10_0_0c, q10_0_S4, q10_0_0R, q10_0_0O, q10_0_X⟩ := hq
          refine W_seq ?_
          refine W_region rfl ?_
          refine da_op rfl (d_mv (v := (Value.slice q10_0_0a q10_0_0n q10_0_0c)) q10_0_S4 ?_)
          refine da_op rfl (d_as (v := (Value.slice q10_0_0a q10_0_0n q10_0_0c)) rfl ?_)
          refine da_op rfl (d_as (v := .bool true) rfl ?_)
          refine da_nil ?_
          refine W_ret ?_
          obtain rfl := Option.some.inj hr
          refine ⟨_, res2 (rv_tmp rfl) (rv_tmp rfl), ?_⟩
          exact ⟨q10_0_0a, q10_0_0n, q10_0_0c, rfl, q10_0_0R, q10_0_0O, q10_0_X⟩
        · skip
          obtain ⟨rfl, q10_1_0a, q10_1_0n, q10_1_0c, q10_1_S2, q10_1_S3, q10_1_0R, q10_1_0O, q10_1_X⟩ := hq
          obtain rfl := Option.some.inj hr
          refine ⟨_, res2 (rv_tmp q10_1_S2) (rv_tmp q10_1_S3), ?_⟩
          exact ⟨q10_1_0a, q10_1_0n, q10_1_0c, rfl, q10_1_0R, q10_1_0O, q10_1_X⟩
set_option maxHeartbeats 4000000 in
theorem c120 (p0 : List UInt8) (r : SVector × Bool) (w : World) (hr : M.spec_l01VRead p0 = some r)  :
    Calls Tryd.prog 120 #[.string (bs p0)] w fun e w' => ∃ q0r0 : Nat, ∃ q0r1 : Nat, ∃ q0r2 : Nat, e = .returned (.tuple #[.agg #[.float .f32 q0r0, .float .f32 q0r1, .float .f32 q0r2], .bool r.2]) ∧ cn .f32 q0r0 = r.1.x ∧ cn .f32 q0r1 = r.1.y ∧ cn .f32 q0r2 = r.1.z ∧ Ext w w' := by
  refine calls_of_W Tryd.func120 rfl (Nat.le_of_ble_eq_true rfl) ?_
  refine W_seq ?_
  refine W_region rfl ?_
  refine da_op rfl (d_alloc (cs := #[.float .f32 0, .float .f32 0, .float .f32 0]) zero44 rfl fun w1 B1 E1 => ?_)
  have own2 : w.heap.size ≤ w.heap.size := Nat.le_trans (Ext.refl w).size (Nat.le_refl _)
  have X3 : Ext w w1 := (Ext.refl w).trans E1
  refine da_op rfl (d_as (v := .bool false) rfl ?_)
  refine da_nil ?_
  refine W_seq ?_
  refine W_region rfl ?_
  refine da_op rfl (d_mv (v := .string (bs p0)) rfl ?_)
  obtain ⟨m4, hm4, hr⟩ := bind_out hr
  refine da_op rfl (d_cl (vs := [.string (bs p0)]) en105 (ac rfl rfl) rfl ?_)
  refine (c105 p0 m4 w1 hm4 ).mono ?_
  rintro _ w5 ⟨q5_0a, q5_0n, q5_0c, rfl, q5_0R, q5_0F, E5⟩
  refine ⟨_, rfl, ?_⟩
  have own6 : ∀ k, (Value.slice q5_0a q5_0n q5_0c).ownBlock = some k → w.heap.size ≤ k := fun k hk => Nat.le_trans X3.size (q5_0F k hk)
  have sp7 : ¬ (Value.slice q5_0a q5_0n q5_0c).ownBlock = some w.heap.size := ne_fresh q5_0F (lt_heap B1)
  have X8 : Ext w w5 := X3.trans E5
  refine da_op rfl (d_mv (v := .tuple #[(Value.slice q5_0a q5_0n q5_0c), .bool m4.2]) rfl ?_)
  refine da_op rfl (d_extract (v := (Value.slice q5_0a q5_0n q5_0c)) rfl rfl ?_)
  refine da_op rfl (d_extract (v := .bool m4.2) rfl rfl ?_)
  refine da_op rfl (d_as (v := (Value.slice q5_0a q5_0n q5_0c)) rfl ?_)
  refine da_op rfl (d_as (v := .bool m4.2) rfl ?_)
  refine da_nil ?_
  refine W_seq ?_
  refine W_seq ?_
  have B10 : w5.heap[w.heap.size]? = some (.cells #[.float .f32 0, .float .f32 0, .float .f32 0] 44 (0, 0)) := E5.heap B1
  obtain ⟨m9, hm9, hr⟩ := letv_out hr
  refine W_cut (fun σ' w' => σ' 17 = .bool m9 ∧ Ext w5 w') rfl ?_ ?_
  · skip
    have hr := hm9
    refine da_op rfl (d_mv (v := .bool m4.2) rfl ?_)
    refine da_op rfl (d_not rfl ?_)
    refine da_op rfl (d_mv (v := .bool (!m4.2)) rfl ?_)
    rcases Bool.eq_false_or_eq_true m4.2 with hc11 | hc11
    · skip
      replace hr := bif_t hr hc11
      refine da_on rfl (Eq.trans (show sl _ _ _ = .bool (!m4.2) from rfl) (congrArg Value.bool (congrArg not hc11))) (d_mv (v := (Value.slice q5_0a q5_0n q5_0c)) rfl ?_)
      refine da_on rfl (Eq.trans (show sl _ _ _ = .bool (!m4.2) from rfl) (congrArg Value.bool (congrArg not hc11))) (d_len (e := encF_f32) un53 rfl q5_0R.rs ?_)
      refine da_on rfl (Eq.trans (show sl _ _ _ = .bool (!m4.2) from rfl) (congrArg Value.bool (congrArg not hc11))) (d_icmp cNeq rfl rfl ?_)
      refine da_op rfl (d_pick (b := false) (Eq.trans (show ev _ _ = .bool (!m4.2) from rfl) (congrArg Value.bool (congrArg not hc11))) ?_)
      refine da_nil ?_
      subst hr
      exact ⟨rfl, (Ext.refl w5)⟩
    · skip
      replace hr := bif_f hr hc11
      refine da_off rfl (Eq.trans (show sl _ _ _ = .bool (!m4.2) from rfl) (congrArg Value.bool (congrArg not hc11))) (by decide) ?_
      refine da_off rfl (Eq.trans (show sl _ _ _ = .bool (!m4.2) from rfl) (congrArg Value.bool (congrArg not hc11))) (by decide) ?_
      refine da_off rfl (Eq.trans (show sl _ _ _ = .bool (!m4.2) from rfl) (congrArg Value.bool (congrArg not hc11))) (by decide) ?_
      refine da_op rfl (d_pick (b := true) (Eq.trans (show ev _ _ = .bool (!m4.2) from rfl) (congrArg Value.bool (congrArg not hc11))) ?_)
      refine da_nil ?_
      subst hr
      exact ⟨rfl, (Ext.refl w5)⟩
  · skip
    rintro σ9 w9 o9 ⟨s17_9, E9⟩
    have s2_9 : σ9 2 = .pointer (some ⟨w.heap.size, 0, none⟩) := (o9 2 rfl).trans rfl
    have s4_9 : σ9 4 = (Value.slice q5_0a q5_0n q5_0c) := (o9 4 rfl).trans rfl
    have X12 : Ext w w9 := X8.trans E9
    refine W_cond (b := m9) s17_9 (fun hc13 => ?_) (fun hc13 => ?_)
    · skip
      replace hr := bif_t hr hc13
      refine W_seq ?_
      refine W_region rfl ?_
      refine da_op rfl (d_bd (vs := []) (cs := #[.float .f32 0, .float .f32 0, .float .f32 0]) rfl (by kernel_rfl) ?_)
      have B14 : w9.heap[w.heap.size]? = some (.cells #[.float .f32 0, .float .f32 0, .float .f32 0] 44 (0, 0)) := E9.heap B10
      refine da_op rfl (d_store (vs := #[.float .f32 0, .float .f32 0, .float .f32 0]) s2_9 rfl B14 size44 (Nat.le_of_ble_eq_true rfl) rfl fun w15 S15 => ?_)
      have X16 : Ext w w15 := Ext.step X12 S15.frmb (fun k _ hk => hk ▸ own2)
      have B17 : w15.heap[w.heap.size]? = some (.cells #[.float .f32 0, .float .f32 0, .float .f32 0] 44 (0, 0)) := S15.here
      refine da_op rfl (d_as (v := .bool false) rfl ?_)
      refine da_nil ?_
      refine W_ret ?_
      obtain rfl := Option.some.inj hr
      refine ⟨_, res2 (rv_cells (vs := #[.float .f32 0, .float .f32 0, .float .f32 0]) s2_9 agg44 size44 B17 rfl) (rv_tmp rfl), ?_⟩
      exact ⟨0, 0, 0, rfl, cn_f32_0, cn_f32_0, cn_f32_0, X16⟩
    · skip
      replace hr := bif_f hr hc13
      refine W_skip ?_
      refine W_seq ?_
      have B19 : w9.heap[w.heap.size]? = some (.cells #[.float .f32 0, .float .f32 0, .float .f32 0] 44 (0, 0)) := E9.heap B10
      have B20 : OS w9 22 encF_f32 (Value.slice q5_0a q5_0n q5_0c) m4.1 := q5_0R.ext E9
      obtain ⟨m21, hm21, hr⟩ := bind_out hr
      obtain ⟨m22, hm22, hr⟩ := bind_out hr
      obtain ⟨m23, hm23, hr⟩ := bind_out hr
      refine W_anyT 10 [] [{ V := fun _ v _ => v = (Value.slice q5_0a q5_0n q5_0c) }, { V := fun _ v _ => ∃ d18_1g : Nat, ∃ d18_1o : Nat, v = (.pointer (some ⟨d18_1g, d18_1o, none⟩)) ∧ EL encF_f32 (Value.slice q5_0a q5_0n q5_0c) (m4.1).length 0 d18_1g d18_1o }, { V := fun _ v _ => ∃ d18_1r0 : Nat, v = (.float .f32 d18_1r0) ∧ cn .f32 d18_1r0 = m21 }, { V := fun _ v _ => v = (Value.slice q5_0a q5_0n q5_0c) }, { V := fun _ v _ => ∃ d18_4g : Nat, ∃ d18_4o : Nat, v = (.pointer (some ⟨d18_4g, d18_4o, none⟩)) ∧ EL encF_f32 (Value.slice q5_0a q5_0n q5_0c) (m4.1).length 1 d18_4g d18_4o }, { V := fun _ v _ => ∃ d18_4r0 : Nat, v = (.float .f32 d18_4r0) ∧ cn .f32 d18_4r0 = m22 }, { V := fun _ v _ => v = (Value.slice q5_0a q5_0n q5_0c) }, { V := fun _ v _ => ∃ d18_7g : Nat, ∃ d18_7o : Nat, v = (.pointer (some ⟨d18_7g, d18_7o, none⟩)) ∧ EL encF_f32 (Value.slice q5_0a q5_0n q5_0c) (m4.1).length 2 d18_7g d18_7o }, { V := fun _ v _ => ∃ d18_7r0 : Nat, v = (.float .f32 d18_7r0) ∧ cn .f32 d18_7r0 = m23 }, { V := fun _ v _ => ∃ d18_1r0 : Nat, ∃ d18_4r0 : Nat, ∃ d18_7r0 : Nat, v = (.agg #[.float .f32 d18_1r0, .float .f32 d18_4r0, .float .f32 d18_7r0]) ∧ cn .f32 d18_1r0 = m21 ∧ cn .f32 d18_4r0 = m22 ∧ cn .f32 d18_7r0 = m23 }] mixed (by kernel_rfl) ⟨trivial, trivial, trivial, trivial, trivial, trivial, trivial, trivial, trivial, trivial, trivial⟩ ⟨?_, ?_, ?_, ?_, ?_, ?_, ?_, ?_, ?_, ?_, trivial⟩ ?_
      · skip
        refine ⟨fun _ _ _ _ _ _ h _ => h, fun _ _ h _ => h, fun σ' w' hA hE hD hP => ?_⟩
        have t4 : σ' 4 = (Value.slice q5_0a q5_0n q5_0c) := (hA 4 rfl).trans s4_9
        have B0_24 : OS w' 22 encF_f32 (Value.slice q5_0a q5_0n q5_0c) m4.1 := B20.frm hE (fun k hk => not_oth0)
        refine dg_op rfl (d_mv (v := (Value.slice q5_0a q5_0n q5_0c)) t4 ?_)
        exact ⟨rfl, own_none (Ext.refl w')⟩
      · skip
        refine ⟨fun _ _ _ _ _ _ h _ => h, fun _ _ h _ => h, fun σ' w' hA hE hD hP => ?_⟩
        have t19 : σ' 19 = (Value.slice q5_0a q5_0n q5_0c) := hD 0 rfl
        have B0_25 : OS w' 22 encF_f32 (Value.slice q5_0a q5_0n q5_0c) m4.1 := B20.frm hE (fun k hk => not_oth0)
        refine dg_op rfl (d_indexE (e := encF_f32) (v := (Value.slice q5_0a q5_0n q5_0c)) un53 size22 t19 rfl B0_25.rs hm21 fun g26 o26 l26 => ?_)
        exact ⟨⟨g26, o26, rfl, l26⟩, own_none (Ext.refl _)⟩
      · skip
        refine ⟨fun _ _ _ _ _ _ h _ => h, fun _ _ h _ => h, fun σ' w' hA hE hD hP => ?_⟩
        obtain ⟨d18_1g, d18_1o, t20, d18_1gE⟩ : ∃ d18_1g : Nat, ∃ d18_1o : Nat, σ' 20 = (.pointer (some ⟨d18_1g, d18_1o, none⟩)) ∧ EL encF_f32 (Value.slice q5_0a q5_0n q5_0c) (m4.1).length 0 d18_1g d18_1o := hD 1 rfl
        have B0_27 : OS w' 22 encF_f32 (Value.slice q5_0a q5_0n q5_0c) m4.1 := B20.frm hE (fun k hk => not_oth0)
        obtain ⟨d18_1c, d18_1T, d18_1f, d18_1vs, d18_1hg, d18_1P, d18_1hq⟩ := RS.el B0_27.rs d18_1gE hm21
        obtain ⟨d18_1r0, rfl, d18_1h0⟩ := dec_encF_f32 d18_1hq
        refine dg_op rfl (d_load (v := .float .f32 d18_1r0) t20 agg22 d18_1hg (sub_get (vs := #[.float .f32 d18_1r0]) d18_1P (i := 0) rfl) ?_)
        exact ⟨⟨d18_1r0, rfl, d18_1h0⟩, own_none (Ext.refl w')⟩
      · skip
        refine ⟨fun _ _ _ _ _ _ h _ => h, fun _ _ h _ => h, fun σ' w' hA hE hD hP => ?_⟩
        have t4 : σ' 4 = (Value.slice q5_0a q5_0n q5_0c) := (hA 4 rfl).trans s4_9
        have B0_28 : OS w' 22 encF_f32 (Value.slice q5_0a q5_0n q5_0c) m4.1 := B20.frm hE (fun k hk => not_oth0)
        refine dg_op rfl (d_mv (v := (Value.slice q5_0a q5_0n q5_0c)) t4 ?_)
        exact ⟨rfl, own_none (Ext.refl w')⟩
      · skip
        refine ⟨fun _ _ _ _ _ _ h _ => h, fun _ _ h _ => h, fun σ' w' hA hE hD hP => ?_⟩
        have t22 : σ' 22 = (Value.slice q5_0a q5_0n q5_0c) := hD 3 rfl
        have B0_29 : OS w' 22 encF_f32 (Value.slice q5_0a q5_0n q5_0c) m4.1 := B20.frm hE (fun k hk => not_oth0)
        refine dg_op rfl (d_indexE (e := encF_f32) (v := (Value.slice q5_0a q5_0n q5_0c)) un53 size22 t22 rfl B0_29.rs hm22 fun g30 o30 l30 => ?_)
        exact ⟨⟨g30, o30, rfl, l30⟩, own_none (Ext.refl _)⟩
      · skip
        refine ⟨fun _ _ _ _ _ _ h _ => h, fun _ _ h _ => h, fun σ' w' hA hE hD hP => ?_⟩
        obtain ⟨d18_4g, d18_4o, t23, d18_4gE⟩ : ∃ d18_4g : Nat, ∃ d18_4o : Nat, σ' 23 = (.pointer (some ⟨d18_4g, d18_4o, none⟩)) ∧ EL encF_f32 (Value.slice q5_0a q5_0n q5_0c) (m4.1).length 1 d18_4g d18_4o := hD 4 rfl
        have B0_31 : OS w' 22 encF_f32 (Value.slice q5_0a q5_0n q5_0c) m4.1 := B20.frm hE (fun k hk => not_oth0)
        obtain ⟨d18_4c, d18_4T, d18_4f, d18_4vs, d18_4hg, d18_4P, d18_4hq⟩ := RS.el B0_31.rs d18_4gE hm22
        obtain ⟨d18_4r0, rfl, d18_4h0⟩ := dec_encF_f32 d18_4hq
        refine dg_op rfl (d_load (v := .float .f32 d18_4r0) t23 agg22 d18_4hg (sub_get (vs := #[.float .f32 d18_4r0]) d18_4P (i := 0) rfl) ?_)
        exact ⟨⟨d18_4r0, rfl, d18_4h0⟩, own_none (Ext.refl w')⟩
      · skip
        refine ⟨fun _ _ _ _ _ _ h _ => h, fun _ _ h _ => h, fun σ' w' hA hE hD hP => ?_⟩
        have t4 : σ' 4 = (Value.slice q5_0a q5_0n q5_0c) := (hA 4 rfl).trans s4_9
        have B0_32 : OS w' 22 encF_f32 (Value.slice q5_0a q5_0n q5_0c) m4.1 := B20.frm hE (fun k hk => not_oth0)
        refine dg_op rfl (d_mv (v := (Value.slice q5_0a q5_0n q5_0c)) t4 ?_)
        exact ⟨rfl, own_none (Ext.refl w')⟩
      · skip
        refine ⟨fun _ _ _ _ _ _ h _ => h, fun _ _ h _ => h, fun σ' w' hA hE hD hP => ?_⟩
        have t25 : σ' 25 = (Value.slice q5_0a q5_0n q5_0c) := hD 6 rfl
        have B0_33 : OS w' 22 encF_f32 (Value.slice q5_0a q5_0n q5_0c) m4.1 := B20.frm hE (fun k hk => not_oth0)
        refine dg_op rfl (d_indexE (e := encF_f32) (v := (Value.slice q5_0a q5_0n q5_0c)) un53 size22 t25 rfl B0_33.rs hm23 fun g34 o34 l34 => ?_)
        exact ⟨⟨g34, o34, rfl, l34⟩, own_none (Ext.refl _)⟩
      · skip
        refine ⟨fun _ _ _ _ _ _ h _ => h, fun _ _ h _ => h, fun σ' w' hA hE hD hP => ?_⟩
        obtain ⟨d18_7g, d18_7o, t26, d18_7gE⟩ : ∃ d18_7g : Nat, ∃ d18_7o : Nat, σ' 26 = (.pointer (some ⟨d18_7g, d18_7o, none⟩)) ∧ EL encF_f32 (Value.slice q5_0a q5_0n q5_0c) (m4.1).length 2 d18_7g d18_7o := hD 7 rfl
        have B0_35 : OS w' 22 encF_f32 (Value.slice q5_0a q5_0n q5_0c) m4.1 := B20.frm hE (fun k hk => not_oth0)
        obtain ⟨d18_7c, d18_7T, d18_7f, d18_7vs, d18_7hg, d18_7P, d18_7hq⟩ := RS.el B0_35.rs d18_7gE hm23
        obtain ⟨d18_7r0, rfl, d18_7h0⟩ := dec_encF_f32 d18_7hq
        refine dg_op rfl (d_load (v := .float .f32 d18_7r0) t26 agg22 d18_7hg (sub_get (vs := #[.float .f32 d18_7r0]) d18_7P (i := 0) rfl) ?_)
        exact ⟨⟨d18_7r0, rfl, d18_7h0⟩, own_none (Ext.refl w')⟩
      · skip
        refine ⟨fun _ _ _ _ _ _ h _ => h, fun _ _ h _ => h, fun σ' w' hA hE hD hP => ?_⟩
        obtain ⟨d18_1r0, t21, d18_1h0⟩ : ∃ d18_1r0 : Nat, σ' 21 = (.float .f32 d18_1r0) ∧ cn .f32 d18_1r0 = m21 := hD 2 rfl
        obtain ⟨d18_4r0, t24, d18_4h0⟩ : ∃ d18_4r0 : Nat, σ' 24 = (.float .f32 d18_4r0) ∧ cn .f32 d18_4r0 = m22 := hD 5 rfl
        obtain ⟨d18_7r0, t27, d18_7h0⟩ : ∃ d18_7r0 : Nat, σ' 27 = (.float .f32 d18_7r0) ∧ cn .f32 d18_7r0 = m23 := hD 8 rfl
        refine dg_op rfl (d_bd (vs := [(0, .float .f32 d18_1r0), (1, .float .f32 d18_4r0), (2, .float .f32 d18_7r0)]) (cs := #[.float .f32 d18_1r0, .float .f32 d18_4r0, .float .f32 d18_7r0]) (pc t21 (pc t24 (pc t27 rfl))) (by kernel_rfl) ?_)
        exact ⟨⟨d18_1r0, d18_4r0, d18_7r0, rfl, d18_1h0, d18_4h0, d18_7h0⟩, own_none (Ext.refl w')⟩
      · skip
        intro σ18 w18 A18 E18 V18
        have E18x : Ext w9 w18 := ext_of_oth0 E18
        obtain ⟨z18_28_1r0, z18_28_4r0, z18_28_7r0, s28_18, z18_28_1h0, z18_28_4h0, z18_28_7h0⟩ : ∃ z18_28_1r0 : Nat, ∃ z18_28_4r0 : Nat, ∃ z18_28_7r0 : Nat, σ18 28 = (.agg #[.float .f32 z18_28_1r0, .float .f32 z18_28_4r0, .float .f32 z18_28_7r0]) ∧ cn .f32 z18_28_1r0 = m21 ∧ cn .f32 z18_28_4r0 = m22 ∧ cn .f32 z18_28_7r0 = m23 := V18 9 (Nat.le_of_ble_eq_true rfl)
        have s2_18 : σ18 2 = .pointer (some ⟨w.heap.size, 0, none⟩) := (A18 2 rfl).trans s2_9
        have X36 : Ext w w18 := X12.trans E18x
        have B37 : w18.heap[w.heap.size]? = some (.cells #[.float .f32 0, .float .f32 0, .float .f32 0] 44 (0, 0)) := E18x.heap B19
        refine da_op rfl (d_store (vs := #[.float .f32 z18_28_1r0, .float .f32 z18_28_4r0, .float .f32 z18_28_7r0]) s2_18 (congrArg Value.cells s28_18) B37 size44 (Nat.le_of_ble_eq_true rfl) rfl fun w38 S38 => ?_)
        have X39 : Ext w w38 := Ext.step X36 S38.frmb (fun k _ hk => hk ▸ own2)
        have B40 : w38.heap[w.heap.size]? = some (.cells #[.float .f32 z18_28_1r0, .float .f32 z18_28_4r0, .float .f32 z18_28_7r0] 44 (0, 0)) := S38.here
        refine da_op rfl (d_as (v := .bool true) rfl ?_)
        refine da_nil ?_
        refine W_ret ?_
        obtain rfl := Option.some.inj hr
        refine ⟨_, res2 (rv_cells (vs := #[.float .f32 z18_28_1r0, .float .f32 z18_28_4r0, .float .f32 z18_28_7r0]) s2_18 agg44 size44 B40 rfl) (rv_tmp rfl), ?_⟩
        exact ⟨z18_28_1r0, z18_28_4r0, z18_28_7r0, rfl, z18_28_1h0, z18_28_4h0, z18_28_7h0, X39⟩
set_option maxHeartbeats 4000000 in
theorem c164 (p0 : Nat) (p0r : Nat) (r : Bool) (w : World) (hr : M.spec_l01Finite p0 = r) (p0h : cn .f32 p0r = p0) :
    Calls Tryd.prog 164 #[.float .f32 p0r] w fun e w' => e = .returned (.bool r) ∧ Ext w w' := by
  refine calls_of_W Tryd.func164 rfl (Nat.le_of_ble_eq_true rfl) ?_
  refine W_seq ?_
  refine W_region rfl ?_
  refine da_op rfl (d_as (v := .bool false) rfl ?_)
  refine da_nil ?_
  refine W_seq ?_
  refine W_region rfl ?_
  refine da_op rfl (d_mv (v := .float .f32 p0r) rfl ?_)
  refine da_op rfl (d_mv (v := .float .f32 p0r) rfl ?_)
  refine da_op rfl (d_fop (k := .f32) fSub rfl rfl p0h p0h fun r1 w1 h1 _ E1 => ?_)
  have X2 : Ext w w1 := (Ext.refl w).trans E1
  refine da_op rfl (d_fcmp (k := .f32) cEql rfl rfl h1 cn_f32_0 ?_)
  refine da_op rfl (d_as (v := .bool (fcmp .eql .f32 (fop .sub .f32 p0 p0) 0)) rfl ?_)
  refine da_nil ?_
  refine W_ret ?_
  subst hr
  refine ⟨_, res1 (rv_tmp rfl), ?_⟩
  exact ⟨rfl, X2⟩
set_option maxHeartbeats 4000000 in
theorem c162 (p0 : Nat) (p0r : Nat) (r : Bool) (w : World) (hr : M.spec_l02Above p0 = r) (p0h : cn .f32 p0r = p0) :
    Calls Tryd.prog 162 #[.float .f32 p0r] w fun e w' => e = .returned (.bool r) ∧ Ext w w' := by
  refine calls_of_W Tryd.func162 rfl (Nat.le_of_ble_eq_true rfl) ?_
  refine W_seq ?_
  refine W_region rfl ?_
  refine da_op rfl (d_as (v := .bool false) rfl ?_)
  refine da_nil ?_
  refine W_seq ?_
  obtain ⟨m1, hm1, hr⟩ := letv_out hr
  refine W_cut (fun σ' w' => σ' 2 = .bool m1 ∧ Ext w w') rfl ?_ ?_
  · skip
    have hr := hm1
    refine da_op rfl (d_mv (v := .float .f32 p0r) rfl ?_)
    obtain ⟨m2, hm2, hr⟩ := letv_out hr
    refine da_op rfl (d_cl (vs := [.float .f32 p0r]) en164 (ac rfl rfl) rfl ?_)
    refine (c164 p0 p0r m2 w hm2 p0h).mono ?_
    rintro _ w3 ⟨rfl, E3⟩
    refine ⟨_, rfl, ?_⟩
    have X4 : Ext w w3 := (Ext.refl w).trans E3
    refine da_op rfl (d_mv (v := .bool m2) rfl ?_)
    rcases Bool.eq_false_or_eq_true m2 with hc5 | hc5
    · skip
      replace hr := bif_t hr hc5
      refine da_on rfl (Eq.trans (show sl _ _ _ = .bool m2 from rfl) (congrArg Value.bool hc5)) (d_mv (v := .float .f32 p0r) rfl ?_)
      refine da_on rfl (Eq.trans (show sl _ _ _ = .bool m2 from rfl) (congrArg Value.bool hc5)) (d_fcmp (k := .f32) cGtr rfl rfl p0h cn_f32_0 ?_)
      refine da_op rfl (d_pick (b := true) (Eq.trans (show ev _ _ = .bool m2 from rfl) (congrArg Value.bool hc5)) ?_)
      refine da_op rfl (d_as (v := .bool (fcmp .gtr .f32 p0 0)) rfl ?_)
      refine da_nil ?_
      subst hr
      exact ⟨rfl, (Ext.trans (Ext.refl w) E3)⟩
    · skip
      replace hr := bif_f hr hc5
      refine da_off rfl (Eq.trans (show sl _ _ _ = .bool m2 from rfl) (congrArg Value.bool hc5)) (by decide) ?_
      refine da_off rfl (Eq.trans (show sl _ _ _ = .bool m2 from rfl) (congrArg Value.bool hc5)) (by decide) ?_
      refine da_op rfl (d_pick (b := false) (Eq.trans (show ev _ _ = .bool m2 from rfl) (congrArg Value.bool hc5)) ?_)
      refine da_op rfl (d_as (v := .bool false) rfl ?_)
      refine da_nil ?_
      subst hr
      exact ⟨rfl, (Ext.trans (Ext.refl w) E3)⟩
  · skip
    rintro σ1 w1 o1 ⟨s2_1, E1⟩
    have X6 : Ext w w1 := (Ext.refl w).trans E1
    refine W_ret ?_
    subst hr
    refine ⟨_, res1 (rv_tmp s2_1), ?_⟩
    exact ⟨rfl, X6⟩
set_option maxHeartbeats 4000000 in
theorem c169 (p0 : SSpin) (p0b p0o : Nat) (p0c : Array Value) (p0T : TypeId) (p0f : Nat × Nat) (p0r0 : Nat) (p0r1 : Nat) (p0r2 : Nat) (p0r3 : Nat) (r : Bool) (w : World) (hr : M.spec_l04Spin p0 = r) (p0h0 : cn .f32 p0r0 = p0.w) (p0h1 : cn .f32 p0r1 = p0.x) (p0h2 : cn .f32 p0r2 = p0.y) (p0h3 : cn .f32 p0r3 = p0.z) (p0B : w.heap[p0b]? = some (.cells p0c p0T p0f)) (p0P : (p0c.toList.drop p0o).take 4 = [.float .f32 p0r0, .float .f32 p0r1, .float .f32 p0r2, .float .f32 p0r3]) :
    Calls Tryd.prog 169 #[.pointer (some ⟨p0b, p0o, none⟩)] w fun e w' => e = .returned (.bool r) ∧ Ext w w' := by
  refine calls_of_W Tryd.func169 rfl (Nat.le_of_ble_eq_true rfl) ?_
  refine W_seq ?_
  refine W_region rfl ?_
  refine da_op rfl (d_as (v := .bool false) rfl ?_)
  refine da_nil ?_
  refine W_seq ?_
  refine W_seq ?_
  obtain ⟨m1, hm1, hr⟩ := letv_out hr
  refine W_cut (fun σ' w' => σ' 32 = .bool m1 ∧ Ext w w') rfl ?_ ?_
  · skip
    have hr := hm1
    refine da_op rfl (d_mv (v := .pointer (some ⟨p0b, p0o, none⟩)) rfl ?_)
    refine da_op rfl (d_nil rfl ?_)
    refine da_op rfl (d_fieldAddr rfl (fa46_0 _ _) ?_)
    refine da_op rfl (d_load (v := .float .f32 p0r0) rfl agg22 p0B (sub_get (vs := #[.float .f32 p0r0, .float .f32 p0r1, .float .f32 p0r2, .float .f32 p0r3]) p0P (i := 0) rfl) ?_)
    obtain ⟨m2, hm2, hr⟩ := letv_out hr
    refine da_op rfl (d_cl (vs := [.float .f32 p0r0]) en164 (ac rfl rfl) rfl ?_)
    refine (c164 p0.w p0r0 m2 w hm2 p0h0).mono ?_
    rintro _ w3 ⟨rfl, E3⟩
    refine ⟨_, rfl, ?_⟩
    have X4 : Ext w w3 := (Ext.refl w).trans E3
    refine da_op rfl (d_not rfl ?_)
    refine da_op rfl (d_mv (v := .bool (!m2)) rfl ?_)
    rcases Bool.eq_false_or_eq_true m2 with hc5 | hc5
    · skip
      replace hr := bif_t hr hc5
      refine da_on rfl (Eq.trans (show sl _ _ _ = .bool (!m2) from rfl) (congrArg Value.bool (congrArg not hc5))) (d_mv (v := .pointer (some ⟨p0b, p0o, none⟩)) rfl ?_)
      refine da_on rfl (Eq.trans (show sl _ _ _ = .bool (!m2) from rfl) (congrArg Value.bool (congrArg not hc5))) (d_nil rfl ?_)
      refine da_on rfl (Eq.trans (show sl _ _ _ = .bool (!m2) from rfl) (congrArg Value.bool (congrArg not hc5))) (d_fieldAddr rfl (fa46_1 _ _) ?_)
      have B6 : w3.heap[p0b]? = some (.cells p0c p0T p0f) := X4.heap p0B
      refine da_on rfl (Eq.trans (show sl _ _ _ = .bool (!m2) from rfl) (congrArg Value.bool (congrArg not hc5))) (d_load (v := .float .f32 p0r1) rfl agg22 B6 (sub_get (vs := #[.float .f32 p0r0, .float .f32 p0r1, .float .f32 p0r2, .float .f32 p0r3]) p0P (i := 1) rfl) ?_)
      obtain ⟨m7, hm7, hr⟩ := letv_out hr
      refine da_on rfl (Eq.trans (show sl _ _ _ = .bool (!m2) from rfl) (congrArg Value.bool (congrArg not hc5))) (d_cl (vs := [.float .f32 p0r1]) en164 (ac rfl rfl) rfl ?_)
      refine (c164 p0.x p0r1 m7 w3 hm7 p0h1).mono ?_
      rintro _ w8 ⟨rfl, E8⟩
      refine ⟨_, rfl, ?_⟩
      have X9 : Ext w w8 := X4.trans E8
      refine da_on rfl (Eq.trans (show sl _ _ _ = .bool (!m2) from rfl) (congrArg Value.bool (congrArg not hc5))) (d_not rfl ?_)
      refine da_op rfl (d_pick (b := false) (Eq.trans (show ev _ _ = .bool (!m2) from rfl) (congrArg Value.bool (congrArg not hc5))) ?_)
      refine da_op rfl (d_mv (v := .bool (!m7)) rfl ?_)
      rcases Bool.eq_false_or_eq_true m7 with hc10 | hc10
      · skip
        replace hr := bif_t hr hc10
        refine da_on rfl (Eq.trans (show sl _ _ _ = .bool (!m7) from rfl) (congrArg Value.bool (congrArg not hc10))) (d_mv (v := .pointer (some ⟨p0b, p0o, none⟩)) rfl ?_)
        refine da_on rfl (Eq.trans (show sl _ _ _ = .bool (!m7) from rfl) (congrArg Value.bool (congrArg not hc10))) (d_nil rfl ?_)
        refine da_on rfl (Eq.trans (show sl _ _ _ = .bool (!m7) from rfl) (congrArg Value.bool (congrArg not hc10))) (d_fieldAddr rfl (fa46_2 _ _) ?_)
        have B11 : w8.heap[p0b]? = some (.cells p0c p0T p0f) := X9.heap p0B
        refine da_on rfl (Eq.trans (show sl _ _ _ = .bool (!m7) from rfl) (congrArg Value.bool (congrArg not hc10))) (d_load (v := .float .f32 p0r2) rfl agg22 B11 (sub_get (vs := #[.float .f32 p0r0, .float .f32 p0r1, .float .f32 p0r2, .float .f32 p0r3]) p0P (i := 2) rfl) ?_)
        obtain ⟨m12, hm12, hr⟩ := letv_out hr
        refine da_on rfl (Eq.trans (show sl _ _ _ = .bool (!m7) from rfl) (congrArg Value.bool (congrArg not hc10))) (d_cl (vs := [.float .f32 p0r2]) en164 (ac rfl rfl) rfl ?_)
        refine (c164 p0.y p0r2 m12 w8 hm12 p0h2).mono ?_
        rintro _ w13 ⟨rfl, E13⟩
        refine ⟨_, rfl, ?_⟩
        have X14 : Ext w w13 := X9.trans E13
        refine da_on rfl (Eq.trans (show sl _ _ _ = .bool (!m7) from rfl) (congrArg Value.bool (congrArg not hc10))) (d_not rfl ?_)
        refine da_op rfl (d_pick (b := false) (Eq.trans (show ev _ _ = .bool (!m7) from rfl) (congrArg Value.bool (congrArg not hc10))) ?_)
        refine da_op rfl (d_mv (v := .bool (!m12)) rfl ?_)
        rcases Bool.eq_false_or_eq_true m12 with hc15 | hc15
        · skip
          replace hr := bif_t hr hc15
          refine da_on rfl (Eq.trans (show sl _ _ _ = .bool (!m12) from rfl) (congrArg Value.bool (congrArg not hc15))) (d_mv (v := .pointer (some ⟨p0b, p0o, none⟩)) rfl ?_)
          refine da_on rfl (Eq.trans (show sl _ _ _ = .bool (!m12) from rfl) (congrArg Value.bool (congrArg not hc15))) (d_nil rfl ?_)
          refine da_on rfl (Eq.trans (show sl _ _ _ = .bool (!m12) from rfl) (congrArg Value.bool (congrArg not hc15))) (d_fieldAddr rfl (fa46_3 _ _) ?_)
          have B16 : w13.heap[p0b]? = some (.cells p0c p0T p0f) := X14.heap p0B
          refine da_on rfl (Eq.trans (show sl _ _ _ = .bool (!m12) from rfl) (congrArg Value.bool (congrArg not hc15))) (d_load (v := .float .f32 p0r3) rfl agg22 B16 (sub_get (vs := #[.float .f32 p0r0, .float .f32 p0r1, .float .f32 p0r2, .float .f32 p0r3]) p0P (i := 3) rfl) ?_)
          obtain ⟨m17, hm17, hr⟩ := letv_out hr
          refine da_on rfl (Eq.trans (show sl _ _ _ = .bool (!m12) from rfl) (congrArg Value.bool (congrArg not hc15))) (d_cl (vs := [.float .f32 p0r3]) en164 (ac rfl rfl) rfl ?_)
          refine (c164 p0.z p0r3 m17 w13 hm17 p0h3).mono ?_
          rintro _ w18 ⟨rfl, E18⟩
          refine ⟨_, rfl, ?_⟩
          have X19 : Ext w w18 := X14.trans E18
          refine da_on rfl (Eq.trans (show sl _ _ _ = .bool (!m12) from rfl) (congrArg Value.bool (congrArg not hc15))) (d_not rfl ?_)
          refine da_op rfl (d_pick (b := false) (Eq.trans (show ev _ _ = .bool (!m12) from rfl) (congrArg Value.bool (congrArg not hc15))) ?_)
          refine da_nil ?_
          subst hr
          exact ⟨rfl, (Ext.trans (Ext.trans (Ext.trans (Ext.trans (Ext.refl w) E3) E8) E13) E18)⟩
        · skip
          replace hr := bif_f hr hc15
          refine da_off rfl (Eq.trans (show sl _ _ _ = .bool (!m12) from rfl) (congrArg Value.bool (congrArg not hc15))) (by decide) ?_
          refine da_off rfl (Eq.trans (show sl _ _ _ = .bool (!m12) from rfl) (congrArg Value.bool (congrArg not hc15))) (by decide) ?_
          refine da_off rfl (Eq.trans (show sl _ _ _ = .bool (!m12) from rfl) (congrArg Value.bool (congrArg not hc15))) (by decide) ?_
          refine da_off rfl (Eq.trans (show sl _ _ _ = .bool (!m12) from rfl) (congrArg Value.bool (congrArg not hc15))) (by decide) ?_
          refine da_off rfl (Eq.trans (show sl _ _ _ = .bool (!m12) from rfl) (congrArg Value.bool (congrArg not hc15))) (by decide) ?_
          refine da_off rfl (Eq.trans (show sl _ _ _ = .bool (!m12) from rfl) (congrArg Value.bool (congrArg not hc15))) (by decide) ?_
          refine da_op rfl (d_pick (b := true) (Eq.trans (show ev _ _ = .bool (!m12) from rfl) (congrArg Value.bool (congrArg not hc15))) ?_)
          refine da_nil ?_
          subst hr
          exact ⟨rfl, (Ext.trans (Ext.trans (Ext.trans (Ext.refl w) E3) E8) E13)⟩
      · skip
        replace hr := bif_f hr hc10
        refine da_off rfl (Eq.trans (show sl _ _ _ = .bool (!m7) from rfl) (congrArg Value.bool (congrArg not hc10))) (by decide) ?_
        refine da_off rfl (Eq.trans (show sl _ _ _ = .bool (!m7) from rfl) (congrArg Value.bool (congrArg not hc10))) (by decide) ?_
        refine da_off rfl (Eq.trans (show sl _ _ _ = .bool (!m7) from rfl) (congrArg Value.bool (congrArg not hc10))) (by decide) ?_
        refine da_off rfl (Eq.trans (show sl _ _ _ = .bool (!m7) from rfl) (congrArg Value.bool (congrArg not hc10))) (by decide) ?_
        refine da_off rfl (Eq.trans (show sl _ _ _ = .bool (!m7) from rfl) (congrArg Value.bool (congrArg not hc10))) (by decide) ?_
        refine da_off rfl (Eq.trans (show sl _ _ _ = .bool (!m7) from rfl) (congrArg Value.bool (congrArg not hc10))) (by decide) ?_
        refine da_op rfl (d_pick (b := true) (Eq.trans (show ev _ _ = .bool (!m7) from rfl) (congrArg Value.bool (congrArg not hc10))) ?_)
        refine da_op rfl (d_mv (v := .bool true) rfl ?_)
        refine da_off rfl rfl (by decide) ?_
        refine da_off rfl rfl (by decide) ?_
        refine da_off rfl rfl (by decide) ?_
        refine da_off rfl rfl (by decide) ?_
        refine da_off rfl rfl (by decide) ?_
        refine da_off rfl rfl (by decide) ?_
        refine da_op rfl (d_pick (b := true) rfl ?_)
        refine da_nil ?_
        subst hr
        exact ⟨rfl, (Ext.trans (Ext.trans (Ext.refl w) E3) E8)⟩
    · skip
      replace hr := bif_f hr hc5
      refine da_off rfl (Eq.trans (show sl _ _ _ = .bool (!m2) from rfl) (congrArg Value.bool (congrArg not hc5))) (by decide) ?_
      refine da_off rfl (Eq.trans (show sl _ _ _ = .bool (!m2) from rfl) (congrArg Value.bool (congrArg not hc5))) (by decide) ?_
      refine da_off rfl (Eq.trans (show sl _ _ _ = .bool (!m2) from rfl) (congrArg Value.bool (congrArg not hc5))) (by decide) ?_
      refine da_off rfl (Eq.trans (show sl _ _ _ = .bool (!m2) from rfl) (congrArg Value.bool (congrArg not hc5))) (by decide) ?_
      refine da_off rfl (Eq.trans (show sl _ _ _ = .bool (!m2) from rfl) (congrArg Value.bool (congrArg not hc5))) (by decide) ?_
      refine da_off rfl (Eq.trans (show sl _ _ _ = .bool (!m2) from rfl) (congrArg Value.bool (congrArg not hc5))) (by decide) ?_
      refine da_op rfl (d_pick (b := true) (Eq.trans (show ev _ _ = .bool (!m2) from rfl) (congrArg Value.bool (congrArg not hc5))) ?_)
      refine da_op rfl (d_mv (v := .bool true) rfl ?_)
      refine da_off rfl rfl (by decide) ?_
      refine da_off rfl rfl (by decide) ?_
      refine da_off rfl rfl (by decide) ?_
      refine da_off rfl rfl (by decide) ?_
      refine da_off rfl rfl (by decide) ?_
      refine da_off rfl rfl (by decide) ?_
      refine da_op rfl (d_pick (b := true) rfl ?_)
      refine da_op rfl (d_mv (v := .bool true) rfl ?_)
      refine da_off rfl rfl (by decide) ?_
      refine da_off rfl rfl (by decide) ?_
      refine da_off rfl rfl (by decide) ?_
      refine da_off rfl rfl (by decide) ?_
      refine da_off rfl rfl (by decide) ?_
      refine da_off rfl rfl (by decide) ?_
      refine da_op rfl (d_pick (b := true) rfl ?_)
      refine da_nil ?_
      subst hr
      exact ⟨rfl, (Ext.trans (Ext.refl w) E3)⟩
  · skip
    rintro σ1 w1 o1 ⟨s32_1, E1⟩
    have s0_1 : σ1 0 = .pointer (some ⟨p0b, p0o, none⟩) := (o1 0 rfl).trans rfl
    have X20 : Ext w w1 := (Ext.refl w).trans E1
    refine W_cond (b := m1) s32_1 (fun hc21 => ?_) (fun hc21 => ?_)
    · skip
      replace hr := bif_t hr hc21
      refine W_seq ?_
      refine W_region rfl ?_
      refine da_op rfl (d_as (v := .bool false) rfl ?_)
      refine da_nil ?_
      refine W_ret ?_
      subst hr
      refine ⟨_, res1 (rv_tmp rfl), ?_⟩
      exact ⟨rfl, X20⟩
    · skip
      replace hr := bif_f hr hc21
      refine W_skip ?_
      refine W_seq ?_
      obtain ⟨m22, hm22, hr⟩ := letv_out hr
      refine W_cut (fun σ' w' => σ' 2 = .bool m22 ∧ Ext w1 w') rfl ?_ ?_
      · skip
        have hr := hm22
        refine da_op rfl (d_mv (v := .pointer (some ⟨p0b, p0o, none⟩)) s0_1 ?_)
        refine da_op rfl (d_nil rfl ?_)
        refine da_op rfl (d_fieldAddr rfl (fa46_0 _ _) ?_)
        have B23 : w1.heap[p0b]? = some (.cells p0c p0T p0f) := X20.heap p0B
        refine da_op rfl (d_load (v := .float .f32 p0r0) rfl agg22 B23 (sub_get (vs := #[.float .f32 p0r0, .float .f32 p0r1, .float .f32 p0r2, .float .f32 p0r3]) p0P (i := 0) rfl) ?_)
        refine da_op rfl (d_fcmp (k := .f32) cNeq rfl rfl p0h0 cn_f32_0 ?_)
        refine da_op rfl (d_mv (v := .bool (fcmp .neq .f32 p0.w 0)) rfl ?_)
        rcases Bool.eq_false_or_eq_true (fcmp .neq .f32 p0.w 0) with hc24 | hc24
        · skip
          replace hr := bif_t hr hc24
          refine da_off rfl (Eq.trans (show sl _ _ _ = .bool (fcmp .neq .f32 p0.w 0) from rfl) (congrArg Value.bool hc24)) (by decide) ?_
          refine da_off rfl (Eq.trans (show sl _ _ _ = .bool (fcmp .neq .f32 p0.w 0) from rfl) (congrArg Value.bool hc24)) (by decide) ?_
          refine da_off rfl (Eq.trans (show sl _ _ _ = .bool (fcmp .neq .f32 p0.w 0) from rfl) (congrArg Value.bool hc24)) (by decide) ?_
          refine da_off rfl (Eq.trans (show sl _ _ _ = .bool (fcmp .neq .f32 p0.w 0) from rfl) (congrArg Value.bool hc24)) (by decide) ?_
          refine da_off rfl (Eq.trans (show sl _ _ _ = .bool (fcmp .neq .f32 p0.w 0) from rfl) (congrArg Value.bool hc24)) (by decide) ?_
          refine da_op rfl (d_pick (b := true) (Eq.trans (show ev _ _ = .bool (fcmp .neq .f32 p0.w 0) from rfl) (congrArg Value.bool hc24)) ?_)
          refine da_op rfl (d_mv (v := .bool true) rfl ?_)
          refine da_off rfl rfl (by decide) ?_
          refine da_off rfl rfl (by decide) ?_
          refine da_off rfl rfl (by decide) ?_
          refine da_off rfl rfl (by decide) ?_
          refine da_off rfl rfl (by decide) ?_
          refine da_op rfl (d_pick (b := true) rfl ?_)
          refine da_op rfl (d_mv (v := .bool true) rfl ?_)
          refine da_off rfl rfl (by decide) ?_
          refine da_off rfl rfl (by decide) ?_
          refine da_off rfl rfl (by decide) ?_
          refine da_off rfl rfl (by decide) ?_
          refine da_off rfl rfl (by decide) ?_
          refine da_op rfl (d_pick (b := true) rfl ?_)
          refine da_op rfl (d_as (v := .bool true) rfl ?_)
          refine da_nil ?_
          subst hr
          exact ⟨rfl, (Ext.refl w1)⟩
        · skip
          replace hr := bif_f hr hc24
          refine da_on rfl (Eq.trans (show sl _ _ _ = .bool (fcmp .neq .f32 p0.w 0) from rfl) (congrArg Value.bool hc24)) (d_mv (v := .pointer (some ⟨p0b, p0o, none⟩)) s0_1 ?_)
          refine da_on rfl (Eq.trans (show sl _ _ _ = .bool (fcmp .neq .f32 p0.w 0) from rfl) (congrArg Value.bool hc24)) (d_nil rfl ?_)
          refine da_on rfl (Eq.trans (show sl _ _ _ = .bool (fcmp .neq .f32 p0.w 0) from rfl) (congrArg Value.bool hc24)) (d_fieldAddr rfl (fa46_1 _ _) ?_)
          refine da_on rfl (Eq.trans (show sl _ _ _ = .bool (fcmp .neq .f32 p0.w 0) from rfl) (congrArg Value.bool hc24)) (d_load (v := .float .f32 p0r1) rfl agg22 B23 (sub_get (vs := #[.float .f32 p0r0, .float .f32 p0r1, .float .f32 p0r2, .float .f32 p0r3]) p0P (i := 1) rfl) ?_)
          refine da_on rfl (Eq.trans (show sl _ _ _ = .bool (fcmp .neq .f32 p0.w 0) from rfl) (congrArg Value.bool hc24)) (d_fcmp (k := .f32) cNeq rfl rfl p0h1 cn_f32_0 ?_)
          refine da_op rfl (d_pick (b := false) (Eq.trans (show ev _ _ = .bool (fcmp .neq .f32 p0.w 0) from rfl) (congrArg Value.bool hc24)) ?_)
          refine da_op rfl (d_mv (v := .bool (fcmp .neq .f32 p0.x 0)) rfl ?_)
          rcases Bool.eq_false_or_eq_true (fcmp .neq .f32 p0.x 0) with hc25 | hc25
          · skip
            replace hr := bif_t hr hc25
            refine da_off rfl (Eq.trans (show sl _ _ _ = .bool (fcmp .neq .f32 p0.x 0) from rfl) (congrArg Value.bool hc25)) (by decide) ?_
            refine da_off rfl (Eq.trans (show sl _ _ _ = .bool (fcmp .neq .f32 p0.x 0) from rfl) (congrArg Value.bool hc25)) (by decide) ?_
            refine da_off rfl (Eq.trans (show sl _ _ _ = .bool (fcmp .neq .f32 p0.x 0) from rfl) (congrArg Value.bool hc25)) (by decide) ?_
            refine da_off rfl (Eq.trans (show sl _ _ _ = .bool (fcmp .neq .f32 p0.x 0) from rfl) (congrArg Value.bool hc25)) (by decide) ?_
            refine da_off rfl (Eq.trans (show sl _ _ _ = .bool (fcmp .neq .f32 p0.x 0) from rfl) (congrArg Value.bool hc25)) (by decide) ?_
            refine da_op rfl (d_pick (b := true) (Eq.trans (show ev _ _ = .bool (fcmp .neq .f32 p0.x 0) from rfl) (congrArg Value.bool hc25)) ?_)
            refine da_op rfl (d_mv (v := .bool true) rfl ?_)
            refine da_off rfl rfl (by decide) ?_
            refine da_off rfl rfl (by decide) ?_
            refine da_off rfl rfl (by decide) ?_
            refine da_off rfl rfl (by decide) ?_
            refine da_off rfl rfl (by decide) ?_
            refine da_op rfl (d_pick (b := true) rfl ?_)
            refine da_op rfl (d_as (v := .bool true) rfl ?_)
            refine da_nil ?_
            subst hr
            exact ⟨rfl, (Ext.refl w1)⟩
          · skip
            replace hr := bif_f hr hc25
            refine da_on rfl (Eq.trans (show sl _ _ _ = .bool (fcmp .neq .f32 p0.x 0) from rfl) (congrArg Value.bool hc25)) (d_mv (v := .pointer (some ⟨p0b, p0o, none⟩)) s0_1 ?_)
            refine da_on rfl (Eq.trans (show sl _ _ _ = .bool (fcmp .neq .f32 p0.x 0) from rfl) (congrArg Value.bool hc25)) (d_nil rfl ?_)
            refine da_on rfl (Eq.trans (show sl _ _ _ = .bool (fcmp .neq .f32 p0.x 0) from rfl) (congrArg Value.bool hc25)) (d_fieldAddr rfl (fa46_2 _ _) ?_)
            refine da_on rfl (Eq.trans (show sl _ _ _ = .bool (fcmp .neq .f32 p0.x 0) from rfl) (congrArg Value.bool hc25)) (d_load (v := .float .f32 p0r2) rfl agg22 B23 (sub_get (vs := #[.float .f32 p0r0, .float .f32 p0r1, .float .f32 p0r2, .float .f32 p0r3]) p0P (i := 2) rfl) ?_)
            refine da_on rfl (Eq.trans (show sl _ _ _ = .bool (fcmp .neq .f32 p0.x 0) from rfl) (congrArg Value.bool hc25)) (d_fcmp (k := .f32) cNeq rfl rfl p0h2 cn_f32_0 ?_)
            refine da_op rfl (d_pick (b := false) (Eq.trans (show ev _ _ = .bool (fcmp .neq .f32 p0.x 0) from rfl) (congrArg Value.bool hc25)) ?_)
            refine da_op rfl (d_mv (v := .bool (fcmp .neq .f32 p0.y 0)) rfl ?_)
            rcases Bool.eq_false_or_eq_true (fcmp .neq .f32 p0.y 0) with hc26 | hc26
            · skip
              replace hr := bif_t hr hc26
              refine da_off rfl (Eq.trans (show sl _ _ _ = .bool (fcmp .neq .f32 p0.y 0) from rfl) (congrArg Value.bool hc26)) (by decide) ?_
              refine da_off rfl (Eq.trans (show sl _ _ _ = .bool (fcmp .neq .f32 p0.y 0) from rfl) (congrArg Value.bool hc26)) (by decide) ?_
              refine da_off rfl (Eq.trans (show sl _ _ _ = .bool (fcmp .neq .f32 p0.y 0) from rfl) (congrArg Value.bool hc26)) (by decide) ?_
              refine da_off rfl (Eq.trans (show sl _ _ _ = .bool (fcmp .neq .f32 p0.y 0) from rfl) (congrArg Value.bool hc26)) (by decide) ?_
              refine da_off rfl (Eq.trans (show sl _ _ _ = .bool (fcmp .neq .f32 p0.y 0) from rfl) (congrArg Value.bool hc26)) (by decide) ?_
              refine da_op rfl (d_pick (b := true) (Eq.trans (show ev _ _ = .bool (fcmp .neq .f32 p0.y 0) from rfl) (congrArg Value.bool hc26)) ?_)
              refine da_op rfl (d_as (v := .bool true) rfl ?_)
              refine da_nil ?_
              subst hr
              exact ⟨rfl, (Ext.refl w1)⟩
            · skip
              replace hr := bif_f hr hc26
              refine da_on rfl (Eq.trans (show sl _ _ _ = .bool (fcmp .neq .f32 p0.y 0) from rfl) (congrArg Value.bool hc26)) (d_mv (v := .pointer (some ⟨p0b, p0o, none⟩)) s0_1 ?_)
              refine da_on rfl (Eq.trans (show sl _ _ _ = .bool (fcmp .neq .f32 p0.y 0) from rfl) (congrArg Value.bool hc26)) (d_nil rfl ?_)
              refine da_on rfl (Eq.trans (show sl _ _ _ = .bool (fcmp .neq .f32 p0.y 0) from rfl) (congrArg Value.bool hc26)) (d_fieldAddr rfl (fa46_3 _ _) ?_)
              refine da_on rfl (Eq.trans (show sl _ _ _ = .bool (fcmp .neq .f32 p0.y 0) from rfl) (congrArg Value.bool hc26)) (d_load (v := .float .f32 p0r3) rfl agg22 B23 (sub_get (vs := #[.float .f32 p0r0, .float .f32 p0r1, .float .f32 p0r2, .float .f32 p0r3]) p0P (i := 3) rfl) ?_)
              refine da_on rfl (Eq.trans (show sl _ _ _ = .bool (fcmp .neq .f32 p0.y 0) from rfl) (congrArg Value.bool hc26)) (d_fcmp (k := .f32) cNeq rfl rfl p0h3 cn_f32_0 ?_)
              refine da_op rfl (d_pick (b := false) (Eq.trans (show ev _ _ = .bool (fcmp .neq .f32 p0.y 0) from rfl) (congrArg Value.bool hc26)) ?_)
              refine da_op rfl (d_as (v := .bool (fcmp .neq .f32 p0.z 0)) rfl ?_)
              refine da_nil ?_
              subst hr
              exact ⟨rfl, (Ext.refl w1)⟩
      · skip
        rintro σ22 w22 o22 ⟨s2_22, E22⟩
        have X27 : Ext w w22 := X20.trans E22
        refine W_ret ?_
        subst hr
        refine ⟨_, res1 (rv_tmp s2_22), ?_⟩
        exact ⟨rfl, X27⟩
set_option maxHeartbeats 4000000 in
theorem c132 (p0 : SVector) (p0r0 : Nat) (p0r1 : Nat) (p0r2 : Nat) (r : Bool) (w : World) (hr : M.spec_l01VFinite p0 = r) (p0h0 : cn .f32 p0r0 = p0.x) (p0h1 : cn .f32 p0r1 = p0.y) (p0h2 : cn .f32 p0r2 = p0.z) :
    Calls Tryd.prog 132 #[.agg #[.float .f32 p0r0, .float .f32 p0r1, .float .f32 p0r2]] w fun e w' => e = .returned (.bool r) ∧ Ext w w' := by
  refine calls_of_W Tryd.func132 rfl (Nat.le_of_ble_eq_true rfl) ?_
  refine W_seq ?_
  refine W_region rfl ?_
  refine da_op rfl (d_box (cs := #[.float .f32 p0r0, .float .f32 p0r1, .float .f32 p0r2]) rfl fun w1 B1 E1 => ?_)
  have own2 : w.heap.size ≤ w.heap.size := Nat.le_trans (Ext.refl w).size (Nat.le_refl _)
  have X3 : Ext w w1 := (Ext.refl w).trans E1
  refine da_op rfl (d_as (v := .bool false) rfl ?_)
  refine da_nil ?_
  refine W_seq ?_
  obtain ⟨m4, hm4, hr⟩ := letv_out hr
  refine W_cut (fun σ' w' => σ' 2 = .bool m4 ∧ Ext w1 w') rfl ?_ ?_
  · skip
    have hr := hm4
    refine da_op rfl (d_fieldAddr rfl (fa44_0 _ _) ?_)
    refine da_op rfl (d_load (v := .float .f32 p0r0) rfl agg22 B1 rfl ?_)
    obtain ⟨m5, hm5, hr⟩ := letv_out hr
    refine da_op rfl (d_cl (vs := [.float .f32 p0r0]) en164 (ac rfl rfl) rfl ?_)
    refine (c164 p0.x p0r0 m5 w1 hm5 p0h0).mono ?_
    rintro _ w6 ⟨rfl, E6⟩
    refine ⟨_, rfl, ?_⟩
    have X7 : Ext w w6 := X3.trans E6
    refine da_op rfl (d_mv (v := .bool m5) rfl ?_)
    rcases Bool.eq_false_or_eq_true m5 with hc8 | hc8
    · skip
      replace hr := bif_t hr hc8
      refine da_on rfl (Eq.trans (show sl _ _ _ = .bool m5 from rfl) (congrArg Value.bool hc8)) (d_fieldAddr rfl (fa44_1 _ _) ?_)
      have B9 : w6.heap[w.heap.size]? = some (.cells #[.float .f32 p0r0, .float .f32 p0r1, .float .f32 p0r2] 44 (0, 0)) := E6.heap B1
      refine da_on rfl (Eq.trans (show sl _ _ _ = .bool m5 from rfl) (congrArg Value.bool hc8)) (d_load (v := .float .f32 p0r1) rfl agg22 B9 rfl ?_)
      obtain ⟨m10, hm10, hr⟩ := letv_out hr
      refine da_on rfl (Eq.trans (show sl _ _ _ = .bool m5 from rfl) (congrArg Value.bool hc8)) (d_cl (vs := [.float .f32 p0r1]) en164 (ac rfl rfl) rfl ?_)
      refine (c164 p0.y p0r1 m10 w6 hm10 p0h1).mono ?_
      rintro _ w11 ⟨rfl, E11⟩
      refine ⟨_, rfl, ?_⟩
      have X12 : Ext w w11 := X7.trans E11
      refine da_op rfl (d_pick (b := true) (Eq.trans (show ev _ _ = .bool m5 from rfl) (congrArg Value.bool hc8)) ?_)
      refine da_op rfl (d_mv (v := .bool m10) rfl ?_)
      rcases Bool.eq_false_or_eq_true m10 with hc13 | hc13
      · skip
        replace hr := bif_t hr hc13
        refine da_on rfl (Eq.trans (show sl _ _ _ = .bool m10 from rfl) (congrArg Value.bool hc13)) (d_fieldAddr rfl (fa44_2 _ _) ?_)
        have B14 : w11.heap[w.heap.size]? = some (.cells #[.float .f32 p0r0, .float .f32 p0r1, .float .f32 p0r2] 44 (0, 0)) := E11.heap B9
        refine da_on rfl (Eq.trans (show sl _ _ _ = .bool m10 from rfl) (congrArg Value.bool hc13)) (d_load (v := .float .f32 p0r2) rfl agg22 B14 rfl ?_)
        obtain ⟨m15, hm15, hr⟩ := letv_out hr
        refine da_on rfl (Eq.trans (show sl _ _ _ = .bool m10 from rfl) (congrArg Value.bool hc13)) (d_cl (vs := [.float .f32 p0r2]) en164 (ac rfl rfl) rfl ?_)
        refine (c164 p0.z p0r2 m15 w11 hm15 p0h2).mono ?_
        rintro _ w16 ⟨rfl, E16⟩
        refine ⟨_, rfl, ?_⟩
        have X17 : Ext w w16 := X12.trans E16
        refine da_op rfl (d_pick (b := true) (Eq.trans (show ev _ _ = .bool m10 from rfl) (congrArg Value.bool hc13)) ?_)
        refine da_op rfl (d_as (v := .bool m15) rfl ?_)
        refine da_nil ?_
        subst hr
        exact ⟨rfl, (Ext.trans (Ext.trans (Ext.trans (Ext.refl w1) E6) E11) E16)⟩
      · skip
        replace hr := bif_f hr hc13
        refine da_off rfl (Eq.trans (show sl _ _ _ = .bool m10 from rfl) (congrArg Value.bool hc13)) (by decide) ?_
        refine da_off rfl (Eq.trans (show sl _ _ _ = .bool m10 from rfl) (congrArg Value.bool hc13)) (by decide) ?_
        refine da_off rfl (Eq.trans (show sl _ _ _ = .bool m10 from rfl) (congrArg Value.bool hc13)) (by decide) ?_
        refine da_op rfl (d_pick (b := false) (Eq.trans (show ev _ _ = .bool m10 from rfl) (congrArg Value.bool hc13)) ?_)
        refine da_op rfl (d_as (v := .bool false) rfl ?_)
        refine da_nil ?_
        subst hr
        exact ⟨rfl, (Ext.trans (Ext.trans (Ext.refl w1) E6) E11)⟩
    · skip
      replace hr := bif_f hr hc8
      refine da_off rfl (Eq.trans (show sl _ _ _ = .bool m5 from rfl) (congrArg Value.bool hc8)) (by decide) ?_
      refine da_off rfl (Eq.trans (show sl _ _ _ = .bool m5 from rfl) (congrArg Value.bool hc8)) (by decide) ?_
      refine da_off rfl (Eq.trans (show sl _ _ _ = .bool m5 from rfl) (congrArg Value.bool hc8)) (by decide) ?_
      refine da_op rfl (d_pick (b := false) (Eq.trans (show ev _ _ = .bool m5 from rfl) (congrArg Value.bool hc8)) ?_)
      refine da_op rfl (d_mv (v := .bool false) rfl ?_)
      refine da_off rfl rfl (by decide) ?_
      refine da_off rfl rfl (by decide) ?_
      refine da_off rfl rfl (by decide) ?_
      refine da_op rfl (d_pick (b := false) rfl ?_)
      refine da_op rfl (d_as (v := .bool false) rfl ?_)
      refine da_nil ?_
      subst hr
      exact ⟨rfl, (Ext.trans (Ext.refl w1) E6)⟩
  · skip
    rintro σ4 w4 o4 ⟨s2_4, E4⟩
    have X18 : Ext w w4 := X3.trans E4
    refine W_ret ?_
    subst hr
    refine ⟨_, res1 (rv_tmp s2_4), ?_⟩
    exact ⟨rfl, X18⟩
set_option maxHeartbeats 4000000 in
theorem c121 (p0 : STop) (p0b p0o : Nat) (p0c : Array Value) (p0T : TypeId) (p0f : Nat × Nat) (p0r0 : Nat) (p0r1 : Nat) (p0r2 : Nat) (p0r3 : Nat) (p0r4 : Nat) (p0r5 : Nat) (p0r6 : Nat) (p0r7 : Nat) (p0r8 : Nat) (p0r9 : Nat) (r : Bool) (w : World) (hr : M.spec_l04Is p0 = r) (p0h0 : cn .f32 p0r0 = p0.moments.x) (p0h1 : cn .f32 p0r1 = p0.moments.y) (p0h2 : cn .f32 p0r2 = p0.moments.z) (p0h3 : cn .f32 p0r3 = p0.turn.w) (p0h4 : cn .f32 p0r4 = p0.turn.x) (p0h5 : cn .f32 p0r5 = p0.turn.y) (p0h6 : cn .f32 p0r6 = p0.turn.z) (p0h7 : cn .f32 p0r7 = p0.speed.x) (p0h8 : cn .f32 p0r8 = p0.speed.y) (p0h9 : cn .f32 p0r9 = p0.speed.z) (p0B : w.heap[p0b]? = some (.cells p0c p0T p0f)) (p0P : (p0c.toList.drop p0o).take 10 = [.float .f32 p0r0, .float .f32 p0r1, .float .f32 p0r2, .float .f32 p0r3, .float .f32 p0r4, .float .f32 p0r5, .float .f32 p0r6, .float .f32 p0r7, .float .f32 p0r8, .float .f32 p0r9]) :
    Calls Tryd.prog 121 #[.pointer (some ⟨p0b, p0o, none⟩)] w fun e w' => e = .returned (.bool r) ∧ Ext w w' := by
  refine calls_of_W Tryd.func121 rfl (Nat.le_of_ble_eq_true rfl) ?_
  refine W_seq ?_
  refine W_region rfl ?_
  refine da_op rfl (d_as (v := .bool false) rfl ?_)
  refine da_nil ?_
  refine W_seq ?_
  obtain ⟨m1, hm1, hr⟩ := letv_out hr
  refine W_cut (fun σ' w' => σ' 2 = .bool m1 ∧ Ext w w') rfl ?_ ?_
  · skip
    have hr := hm1
    refine da_op rfl (d_mv (v := .pointer (some ⟨p0b, p0o, none⟩)) rfl ?_)
    refine da_op rfl (d_nil rfl ?_)
    refine da_op rfl (d_fieldAddr rfl (fa48_0 _ _) ?_)
    refine da_op rfl (d_fieldAddr rfl (fa44_0 _ _) ?_)
    refine da_op rfl (d_load (v := .float .f32 p0r0) rfl agg22 p0B (sub_get (vs := #[.float .f32 p0r0, .float .f32 p0r1, .float .f32 p0r2, .float .f32 p0r3, .float .f32 p0r4, .float .f32 p0r5, .float .f32 p0r6, .float .f32 p0r7, .float .f32 p0r8, .float .f32 p0r9]) p0P (i := 0) rfl) ?_)
    obtain ⟨m2, hm2, hr⟩ := letv_out hr
    refine da_op rfl (d_cl (vs := [.float .f32 p0r0]) en162 (ac rfl rfl) rfl ?_)
    refine (c162 p0.moments.x p0r0 m2 w hm2 p0h0).mono ?_
    rintro _ w3 ⟨rfl, E3⟩
    refine ⟨_, rfl, ?_⟩
    have X4 : Ext w w3 := (Ext.refl w).trans E3
    refine da_op rfl (d_mv (v := .bool m2) rfl ?_)
    rcases Bool.eq_false_or_eq_true m2 with hc5 | hc5
    · skip
      replace hr := bif_t hr hc5
      refine da_on rfl (Eq.trans (show sl _ _ _ = .bool m2 from rfl) (congrArg Value.bool hc5)) (d_mv (v := .pointer (some ⟨p0b, p0o, none⟩)) rfl ?_)
      refine da_on rfl (Eq.trans (show sl _ _ _ = .bool m2 from rfl) (congrArg Value.bool hc5)) (d_nil rfl ?_)
      refine da_on rfl (Eq.trans (show sl _ _ _ = .bool m2 from rfl) (congrArg Value.bool hc5)) (d_fieldAddr rfl (fa48_0 _ _) ?_)
      refine da_on rfl (Eq.trans (show sl _ _ _ = .bool m2 from rfl) (congrArg Value.bool hc5)) (d_fieldAddr rfl (fa44_1 _ _) ?_)
      have B6 : w3.heap[p0b]? = some (.cells p0c p0T p0f) := X4.heap p0B
      refine da_on rfl (Eq.trans (show sl _ _ _ = .bool m2 from rfl) (congrArg Value.bool hc5)) (d_load (v := .float .f32 p0r1) rfl agg22 B6 (sub_get (vs := #[.float .f32 p0r0, .float .f32 p0r1, .float .f32 p0r2, .float .f32 p0r3, .float .f32 p0r4, .float .f32 p0r5, .float .f32 p0r6, .float .f32 p0r7, .float .f32 p0r8, .float .f32 p0r9]) p0P (i := 1) rfl) ?_)
      obtain ⟨m7, hm7, hr⟩ := letv_out hr
      refine da_on rfl (Eq.trans (show sl _ _ _ = .bool m2 from rfl) (congrArg Value.bool hc5)) (d_cl (vs := [.float .f32 p0r1]) en162 (ac rfl rfl) rfl ?_)
      refine (c162 p0.moments.y p0r1 m7 w3 hm7 p0h1).mono ?_
      rintro _ w8 ⟨rfl, E8⟩
      refine ⟨_, rfl, ?_⟩
      have X9 : Ext w w8 := X4.trans E8
      refine da_op rfl (d_pick (b := true) (Eq.trans (show ev _ _ = .bool m2 from rfl) (congrArg Value.bool hc5)) ?_)
      refine da_op rfl (d_mv (v := .bool m7) rfl ?_)
      rcases Bool.eq_false_or_eq_true m7 with hc10 | hc10
      · skip
        replace hr := bif_t hr hc10
        refine da_on rfl (Eq.trans (show sl _ _ _ = .bool m7 from rfl) (congrArg Value.bool hc10)) (d_mv (v := .pointer (some ⟨p0b, p0o, none⟩)) rfl ?_)
        refine da_on rfl (Eq.trans (show sl _ _ _ = .bool m7 from rfl) (congrArg Value.bool hc10)) (d_nil rfl ?_)
        refine da_on rfl (Eq.trans (show sl _ _ _ = .bool m7 from rfl) (congrArg Value.bool hc10)) (d_fieldAddr rfl (fa48_0 _ _) ?_)
        refine da_on rfl (Eq.trans (show sl _ _ _ = .bool m7 from rfl) (congrArg Value.bool hc10)) (d_fieldAddr rfl (fa44_2 _ _) ?_)
        have B11 : w8.heap[p0b]? = some (.cells p0c p0T p0f) := X9.heap p0B
        refine da_on rfl (Eq.trans (show sl _ _ _ = .bool m7 from rfl) (congrArg Value.bool hc10)) (d_load (v := .float .f32 p0r2) rfl agg22 B11 (sub_get (vs := #[.float .f32 p0r0, .float .f32 p0r1, .float .f32 p0r2, .float .f32 p0r3, .float .f32 p0r4, .float .f32 p0r5, .float .f32 p0r6, .float .f32 p0r7, .float .f32 p0r8, .float .f32 p0r9]) p0P (i := 2) rfl) ?_)
        obtain ⟨m12, hm12, hr⟩ := letv_out hr
        refine da_on rfl (Eq.trans (show sl _ _ _ = .bool m7 from rfl) (congrArg Value.bool hc10)) (d_cl (vs := [.float .f32 p0r2]) en162 (ac rfl rfl) rfl ?_)
        refine (c162 p0.moments.z p0r2 m12 w8 hm12 p0h2).mono ?_
        rintro _ w13 ⟨rfl, E13⟩
        refine ⟨_, rfl, ?_⟩
        have X14 : Ext w w13 := X9.trans E13
        refine da_op rfl (d_pick (b := true) (Eq.trans (show ev _ _ = .bool m7 from rfl) (congrArg Value.bool hc10)) ?_)
        refine da_op rfl (d_mv (v := .bool m12) rfl ?_)
        rcases Bool.eq_false_or_eq_true m12 with hc15 | hc15
        · skip
          replace hr := bif_t hr hc15
          refine da_on rfl (Eq.trans (show sl _ _ _ = .bool m12 from rfl) (congrArg Value.bool hc15)) (d_mv (v := .pointer (some ⟨p0b, p0o, none⟩)) rfl ?_)
          refine da_on rfl (Eq.trans (show sl _ _ _ = .bool m12 from rfl) (congrArg Value.bool hc15)) (d_nil rfl ?_)
          refine da_on rfl (Eq.trans (show sl _ _ _ = .bool m12 from rfl) (congrArg Value.bool hc15)) (d_fieldAddr rfl (fa48_1 _ _) ?_)
          obtain ⟨m16, hm16, hr⟩ := letv_out hr
          have B17 : w13.heap[p0b]? = some (.cells p0c p0T p0f) := X14.heap p0B
          refine da_on rfl (Eq.trans (show sl _ _ _ = .bool m12 from rfl) (congrArg Value.bool hc15)) (d_cl (vs := [.pointer (some ⟨p0b, p0o + 3, none⟩)]) en169 (ac rfl rfl) rfl ?_)
          refine (c169 (⟨p0.turn.w, p0.turn.x, p0.turn.y, p0.turn.z⟩ : SSpin) p0b (p0o + 3) p0c p0T p0f p0r3 p0r4 p0r5 p0r6 m16 w13 hm16 p0h3 p0h4 p0h5 p0h6 B17 (sub_take (vs := #[.float .f32 p0r0, .float .f32 p0r1, .float .f32 p0r2, .float .f32 p0r3, .float .f32 p0r4, .float .f32 p0r5, .float .f32 p0r6, .float .f32 p0r7, .float .f32 p0r8, .float .f32 p0r9]) (us := #[.float .f32 p0r3, .float .f32 p0r4, .float .f32 p0r5, .float .f32 p0r6]) (i := 3) p0P rfl (Nat.le_of_ble_eq_true rfl))).mono ?_
          rintro _ w18 ⟨rfl, E18⟩
          refine ⟨_, rfl, ?_⟩
          have X19 : Ext w w18 := X14.trans E18
          refine da_op rfl (d_pick (b := true) (Eq.trans (show ev _ _ = .bool m12 from rfl) (congrArg Value.bool hc15)) ?_)
          refine da_op rfl (d_mv (v := .bool m16) rfl ?_)
          rcases Bool.eq_false_or_eq_true m16 with hc20 | hc20
          · skip
            replace hr := bif_t hr hc20
            refine da_on rfl (Eq.trans (show sl _ _ _ = .bool m16 from rfl) (congrArg Value.bool hc20)) (d_mv (v := .pointer (some ⟨p0b, p0o, none⟩)) rfl ?_)
            refine da_on rfl (Eq.trans (show sl _ _ _ = .bool m16 from rfl) (congrArg Value.bool hc20)) (d_nil rfl ?_)
            refine da_on rfl (Eq.trans (show sl _ _ _ = .bool m16 from rfl) (congrArg Value.bool hc20)) (d_fieldAddr rfl (fa48_2 _ _) ?_)
            have B21 : w18.heap[p0b]? = some (.cells p0c p0T p0f) := X19.heap p0B
            refine da_on rfl (Eq.trans (show sl _ _ _ = .bool m16 from rfl) (congrArg Value.bool hc20)) (d_loads (vs := #[.float .f32 p0r7, .float .f32 p0r8, .float .f32 p0r9]) rfl agg44 size44 B21 (sub_take (vs := #[.float .f32 p0r0, .float .f32 p0r1, .float .f32 p0r2, .float .f32 p0r3, .float .f32 p0r4, .float .f32 p0r5, .float .f32 p0r6, .float .f32 p0r7, .float .f32 p0r8, .float .f32 p0r9]) (us := #[.float .f32 p0r7, .float .f32 p0r8, .float .f32 p0r9]) (i := 7) p0P rfl (Nat.le_of_ble_eq_true rfl)) ?_)
            obtain ⟨m22, hm22, hr⟩ := letv_out hr
            refine da_on rfl (Eq.trans (show sl _ _ _ = .bool m16 from rfl) (congrArg Value.bool hc20)) (d_cl (vs := [.agg #[.float .f32 p0r7, .float .f32 p0r8, .float .f32 p0r9]]) en132 (ac rfl rfl) rfl ?_)
            refine (c132 (⟨p0.speed.x, p0.speed.y, p0.speed.z⟩ : SVector) p0r7 p0r8 p0r9 m22 w18 hm22 p0h7 p0h8 p0h9).mono ?_
            rintro _ w23 ⟨rfl, E23⟩
            refine ⟨_, rfl, ?_⟩
            have X24 : Ext w w23 := X19.trans E23
            refine da_op rfl (d_pick (b := true) (Eq.trans (show ev _ _ = .bool m16 from rfl) (congrArg Value.bool hc20)) ?_)
            refine da_op rfl (d_as (v := .bool m22) rfl ?_)
            refine da_nil ?_
            subst hr
            exact ⟨rfl, (Ext.trans (Ext.trans (Ext.trans (Ext.trans (Ext.trans (Ext.refl w) E3) E8) E13) E18) E23)⟩
          · skip
            replace hr := bif_f hr hc20
            refine da_off rfl (Eq.trans (show sl _ _ _ = .bool m16 from rfl) (congrArg Value.bool hc20)) (by decide) ?_
            refine da_off rfl (Eq.trans (show sl _ _ _ = .bool m16 from rfl) (congrArg Value.bool hc20)) (by decide) ?_
            refine da_off rfl (Eq.trans (show sl _ _ _ = .bool m16 from rfl) (congrArg Value.bool hc20)) (by decide) ?_
            refine da_off rfl (Eq.trans (show sl _ _ _ = .bool m16 from rfl) (congrArg Value.bool hc20)) (by decide) ?_
            refine da_off rfl (Eq.trans (show sl _ _ _ = .bool m16 from rfl) (congrArg Value.bool hc20)) (by decide) ?_
            refine da_op rfl (d_pick (b := false) (Eq.trans (show ev _ _ = .bool m16 from rfl) (congrArg Value.bool hc20)) ?_)
            refine da_op rfl (d_as (v := .bool false) rfl ?_)
            refine da_nil ?_
            subst hr
            exact ⟨rfl, (Ext.trans (Ext.trans (Ext.trans (Ext.trans (Ext.refl w) E3) E8) E13) E18)⟩
        · skip
          replace hr := bif_f hr hc15
          refine da_off rfl (Eq.trans (show sl _ _ _ = .bool m12 from rfl) (congrArg Value.bool hc15)) (by decide) ?_
          refine da_off rfl (Eq.trans (show sl _ _ _ = .bool m12 from rfl) (congrArg Value.bool hc15)) (by decide) ?_
          refine da_off rfl (Eq.trans (show sl _ _ _ = .bool m12 from rfl) (congrArg Value.bool hc15)) (by decide) ?_
          refine da_off rfl (Eq.trans (show sl _ _ _ = .bool m12 from rfl) (congrArg Value.bool hc15)) (by decide) ?_
          refine da_op rfl (d_pick (b := false) (Eq.trans (show ev _ _ = .bool m12 from rfl) (congrArg Value.bool hc15)) ?_)
          refine da_op rfl (d_mv (v := .bool false) rfl ?_)
          refine da_off rfl rfl (by decide) ?_
          refine da_off rfl rfl (by decide) ?_
          refine da_off rfl rfl (by decide) ?_
          refine da_off rfl rfl (by decide) ?_
          refine da_off rfl rfl (by decide) ?_
          refine da_op rfl (d_pick (b := false) rfl ?_)
          refine da_op rfl (d_as (v := .bool false) rfl ?_)
          refine da_nil ?_
          subst hr
          exact ⟨rfl, (Ext.trans (Ext.trans (Ext.trans (Ext.refl w) E3) E8) E13)⟩
      · skip
        replace hr := bif_f hr hc10
        refine da_off rfl (Eq.trans (show sl _ _ _ = .bool m7 from rfl) (congrArg Value.bool hc10)) (by decide) ?_
        refine da_off rfl (Eq.trans (show sl _ _ _ = .bool m7 from rfl) (congrArg Value.bool hc10)) (by decide) ?_
        refine da_off rfl (Eq.trans (show sl _ _ _ = .bool m7 from rfl) (congrArg Value.bool hc10)) (by decide) ?_
        refine da_off rfl (Eq.trans (show sl _ _ _ = .bool m7 from rfl) (congrArg Value.bool hc10)) (by decide) ?_
        refine da_off rfl (Eq.trans (show sl _ _ _ = .bool m7 from rfl) (congrArg Value.bool hc10)) (by decide) ?_
        refine da_off rfl (Eq.trans (show sl _ _ _ = .bool m7 from rfl) (congrArg Value.bool hc10)) (by decide) ?_
        refine da_op rfl (d_pick (b := false) (Eq.trans (show ev _ _ = .bool m7 from rfl) (congrArg Value.bool hc10)) ?_)
        refine da_op rfl (d_mv (v := .bool false) rfl ?_)
        refine da_off rfl rfl (by decide) ?_
        refine da_off rfl rfl (by decide) ?_
        refine da_off rfl rfl (by decide) ?_
        refine da_off rfl rfl (by decide) ?_
        refine da_op rfl (d_pick (b := false) rfl ?_)
        refine da_op rfl (d_mv (v := .bool false) rfl ?_)
        refine da_off rfl rfl (by decide) ?_
        refine da_off rfl rfl (by decide) ?_
        refine da_off rfl rfl (by decide) ?_
        refine da_off rfl rfl (by decide) ?_
        refine da_off rfl rfl (by decide) ?_
        refine da_op rfl (d_pick (b := false) rfl ?_)
        refine da_op rfl (d_as (v := .bool false) rfl ?_)
        refine da_nil ?_
        subst hr
        exact ⟨rfl, (Ext.trans (Ext.trans (Ext.refl w) E3) E8)⟩
    · skip
      replace hr := bif_f hr hc5
      refine da_off rfl (Eq.trans (show sl _ _ _ = .bool m2 from rfl) (congrArg Value.bool hc5)) (by decide) ?_
      refine da_off rfl (Eq.trans (show sl _ _ _ = .bool m2 from rfl) (congrArg Value.bool hc5)) (by decide) ?_
      refine da_off rfl (Eq.trans (show sl _ _ _ = .bool m2 from rfl) (congrArg Value.bool hc5)) (by decide) ?_
      refine da_off rfl (Eq.trans (show sl _ _ _ = .bool m2 from rfl) (congrArg Value.bool hc5)) (by decide) ?_
      refine da_off rfl (Eq.trans (show sl _ _ _ = .bool m2 from rfl) (congrArg Value.bool hc5)) (by decide) ?_
      refine da_off rfl (Eq.trans (show sl _ _ _ = .bool m2 from rfl) (congrArg Value.bool hc5)) (by decide) ?_
      refine da_op rfl (d_pick (b := false) (Eq.trans (show ev _ _ = .bool m2 from rfl) (congrArg Value.bool hc5)) ?_)
      refine da_op rfl (d_mv (v := .bool false) rfl ?_)
      refine da_off rfl rfl (by decide) ?_
      refine da_off rfl rfl (by decide) ?_
      refine da_off rfl rfl (by decide) ?_
      refine da_off rfl rfl (by decide) ?_
      refine da_off rfl rfl (by decide) ?_
      refine da_off rfl rfl (by decide) ?_
      refine da_op rfl (d_pick (b := false) rfl ?_)
      refine da_op rfl (d_mv (v := .bool false) rfl ?_)
      refine da_off rfl rfl (by decide) ?_
      refine da_off rfl rfl (by decide) ?_
      refine da_off rfl rfl (by decide) ?_
      refine da_off rfl rfl (by decide) ?_
      refine da_op rfl (d_pick (b := false) rfl ?_)
      refine da_op rfl (d_mv (v := .bool false) rfl ?_)
      refine da_off rfl rfl (by decide) ?_
      refine da_off rfl rfl (by decide) ?_
      refine da_off rfl rfl (by decide) ?_
      refine da_off rfl rfl (by decide) ?_
      refine da_off rfl rfl (by decide) ?_
      refine da_op rfl (d_pick (b := false) rfl ?_)
      refine da_op rfl (d_as (v := .bool false) rfl ?_)
      refine da_nil ?_
      subst hr
      exact ⟨rfl, (Ext.trans (Ext.refl w) E3)⟩
  · skip
    rintro σ1 w1 o1 ⟨s2_1, E1⟩
    have X25 : Ext w w1 := (Ext.refl w).trans E1
    refine W_ret ?_
    subst hr
    refine ⟨_, res1 (rv_tmp s2_1), ?_⟩
    exact ⟨rfl, X25⟩
set_option maxHeartbeats 4000000 in
theorem c65 (p0 : List UInt8) (r : STop × Bool) (w : World) (hr : M.spec_l08ReadTop p0 = some r)  :
    Calls Tryd.prog 65 #[.string (bs p0)] w fun e w' => ∃ q0r0 : Nat, ∃ q0r1 : Nat, ∃ q0r2 : Nat, ∃ q0r3 : Nat, ∃ q0r4 : Nat, ∃ q0r5 : Nat, ∃ q0r6 : Nat, ∃ q0r7 : Nat, ∃ q0r8 : Nat, ∃ q0r9 : Nat, e = .returned (.tuple #[.agg #[.float .f32 q0r0, .float .f32 q0r1, .float .f32 q0r2, .float .f32 q0r3, .float .f32 q0r4, .float .f32 q0r5, .float .f32 q0r6, .float .f32 q0r7, .float .f32 q0r8, .float .f32 q0r9], .bool r.2]) ∧ cn .f32 q0r0 = r.1.moments.x ∧ cn .f32 q0r1 = r.1.moments.y ∧ cn .f32 q0r2 = r.1.moments.z ∧ cn .f32 q0r3 = r.1.turn.w ∧ cn .f32 q0r4 = r.1.turn.x ∧ cn .f32 q0r5 = r.1.turn.y ∧ cn .f32 q0r6 = r.1.turn.z ∧ cn .f32 q0r7 = r.1.speed.x ∧ cn .f32 q0r8 = r.1.speed.y ∧ cn .f32 q0r9 = r.1.speed.z ∧ Ext w w' := by
  refine calls_of_W Tryd.func65 rfl (Nat.le_of_ble_eq_true rfl) ?_
  refine W_seq ?_
  refine W_region rfl ?_
  refine da_op rfl (d_alloc (cs := #[.float .f32 0, .float .f32 0, .float .f32 0, .float .f32 0, .float .f32 0, .float .f32 0, .float .f32 0, .float .f32 0, .float .f32 0, .float .f32 0]) zero48 rfl fun w1 B1 E1 => ?_)
  have own2 : w.heap.size ≤ w.heap.size := Nat.le_trans (Ext.refl w).size (Nat.le_refl _)
  have X3 : Ext w w1 := (Ext.refl w).trans E1
  refine da_op rfl (d_as (v := .bool false) rfl ?_)
  refine da_nil ?_
  refine W_seq ?_
  refine W_region rfl ?_
  refine da_op rfl (d_mv (v := .string (bs p0)) rfl ?_)
  obtain ⟨m4, hm4, hr⟩ := bind_out hr
  refine da_op rfl (d_cl (vs := [.string (bs p0), .int .u8 59]) en119 (ac rfl (ac rfl rfl)) rfl ?_)
  refine (c119 p0 59 m4 w1 hm4 ).mono ?_
  rintro _ w5 ⟨q5_0a, q5_0n, q5_0c, rfl, q5_0R, q5_0F, E5⟩
  refine ⟨_, rfl, ?_⟩
  have own6 : ∀ k, (Value.slice q5_0a q5_0n q5_0c).ownBlock = some k → w.heap.size ≤ k := fun k hk => Nat.le_trans X3.size (q5_0F k hk)
  have sp7 : ¬ (Value.slice q5_0a q5_0n q5_0c).ownBlock = some w.heap.size := ne_fresh q5_0F (lt_heap B1)
  have X8 : Ext w w5 := X3.trans E5
  refine da_op rfl (d_as (v := (Value.slice q5_0a q5_0n q5_0c)) rfl ?_)
  refine da_nil ?_
  refine W_seq ?_
  refine W_seq ?_
  refine W_region rfl ?_
  refine da_op rfl (d_mv (v := (Value.slice q5_0a q5_0n q5_0c)) rfl ?_)
  refine da_op rfl (d_len (e := encS) un34 rfl q5_0R.rs ?_)
  refine da_op rfl (d_icmp cNeq rfl rfl ?_)
  refine da_nil ?_
  refine W_cond (b := (icmp .neq ((m4).length : Int) 3)) rfl (fun hc9 => ?_) (fun hc9 => ?_)
  · skip
    replace hr := bif_t hr hc9
    refine W_seq ?_
    refine W_region rfl ?_
    refine da_op rfl (d_bd (vs := []) (cs := #[.float .f32 0, .float .f32 0, .float .f32 0, .float .f32 0, .float .f32 0, .float .f32 0, .float .f32 0, .float .f32 0, .float .f32 0, .float .f32 0]) rfl (by kernel_rfl) ?_)
    have B10 : w5.heap[w.heap.size]? = some (.cells #[.float .f32 0, .float .f32 0, .float .f32 0, .float .f32 0, .float .f32 0, .float .f32 0, .float .f32 0, .float .f32 0, .float .f32 0, .float .f32 0] 48 (0, 0)) := E5.heap B1
    refine da_op rfl (d_store (vs := #[.float .f32 0, .float .f32 0, .float .f32 0, .float .f32 0, .float .f32 0, .float .f32 0, .float .f32 0, .float .f32 0, .float .f32 0, .float .f32 0]) rfl rfl B10 size48 (Nat.le_of_ble_eq_true rfl) rfl fun w11 S11 => ?_)
    have X12 : Ext w w11 := Ext.step X8 S11.frmb (fun k _ hk => hk ▸ own2)
    have B13 : w11.heap[w.heap.size]? = some (.cells #[.float .f32 0, .float .f32 0, .float .f32 0, .float .f32 0, .float .f32 0, .float .f32 0, .float .f32 0, .float .f32 0, .float .f32 0, .float .f32 0] 48 (0, 0)) := S11.here
    refine da_op rfl (d_as (v := .bool false) rfl ?_)
    refine da_nil ?_
    refine W_ret ?_
    obtain rfl := Option.some.inj hr
    refine ⟨_, res2 (rv_cells (vs := #[.float .f32 0, .float .f32 0, .float .f32 0, .float .f32 0, .float .f32 0, .float .f32 0, .float .f32 0, .float .f32 0, .float .f32 0, .float .f32 0]) rfl agg48 size48 B13 rfl) (rv_tmp rfl), ?_⟩
    exact ⟨0, 0, 0, 0, 0, 0, 0, 0, 0, 0, rfl, cn_f32_0, cn_f32_0, cn_f32_0, cn_f32_0, cn_f32_0, cn_f32_0, cn_f32_0, cn_f32_0, cn_f32_0, cn_f32_0, X12⟩
  · skip
    replace hr := bif_f hr hc9
    refine W_skip ?_
    refine W_seq ?_
    refine W_region rfl ?_
    refine da_op rfl (d_mv (v := (Value.slice q5_0a q5_0n q5_0c)) rfl ?_)
    obtain ⟨m14, hm14, hr⟩ := bind_out hr
    refine da_op rfl (d_indexO (e := encS) (v := (Value.slice q5_0a q5_0n q5_0c)) un34 size9 rfl rfl q5_0R hm14 fun g15 fr15 cu15 vs15 hv15 hg15 hp15 hq15 => ?_)
    obtain rfl := dec_encS hq15
    have sp16 : g15 ≠ w.heap.size := fun e => sp7 (by rw [hv15, e]; rfl)
    refine da_op rfl (d_load (v := .string (bs m14)) rfl agg9 hg15 (sub_get (vs := #[.string (bs m14)]) hp15 (i := 0) rfl) ?_)
    obtain ⟨m17, hm17, hr⟩ := bind_out hr
    have B18 : w5.heap[w.heap.size]? = some (.cells #[.float .f32 0, .float .f32 0, .float .f32 0, .float .f32 0, .float .f32 0, .float .f32 0, .float .f32 0, .float .f32 0, .float .f32 0, .float .f32 0] 48 (0, 0)) := E5.heap B1
    refine da_op rfl (d_cl (vs := [.string (bs m14)]) en120 (ac rfl rfl) rfl ?_)
    refine (c120 m14 m17 w5 hm17 ).mono ?_
    rintro _ w19 ⟨q19_0r0, q19_0r1, q19_0r2, rfl, q19_0h0, q19_0h1, q19_0h2, E19⟩
    refine ⟨_, rfl, ?_⟩
    have X20 : Ext w w19 := X8.trans E19
    refine da_op rfl (d_mv (v := .tuple #[.agg #[.float .f32 q19_0r0, .float .f32 q19_0r1, .float .f32 q19_0r2], .bool m17.2]) rfl ?_)
    refine da_op rfl (d_extract (v := .agg #[.float .f32 q19_0r0, .float .f32 q19_0r1, .float .f32 q19_0r2]) rfl rfl ?_)
    refine da_op rfl (d_extract (v := .bool m17.2) rfl rfl ?_)
    have B22 : w19.heap[w.heap.size]? = some (.cells #[.float .f32 0, .float .f32 0, .float .f32 0, .float .f32 0, .float .f32 0, .float .f32 0, .float .f32 0, .float .f32 0, .float .f32 0, .float .f32 0] 48 (0, 0)) := E19.heap B18
    have B23 : OS w19 9 encS (Value.slice q5_0a q5_0n q5_0c) m4 := q5_0R.ext E19
    have B24 : w19.heap[g15]? = some (.cells cu15 9 (0, 0)) := E19.heap hg15
    refine da_op rfl (d_alloc (cs := #[.float .f32 0, .float .f32 0, .float .f32 0]) zero44 rfl fun w21 B21 E21 => ?_)
    have own25 : w.heap.size ≤ w19.heap.size := Nat.le_trans X20.size (Nat.le_refl _)
    have sp26 : w.heap.size ≠ w19.heap.size := Nat.ne_of_lt (Nat.lt_of_lt_of_le (lt_heap B22) (Nat.le_refl _))
    have sp27 : ¬ (Value.slice q5_0a q5_0n q5_0c).ownBlock = some w19.heap.size := OS.ne_new B23 (Nat.le_refl _)
    have sp28 : g15 ≠ w19.heap.size := Nat.ne_of_lt (Nat.lt_of_lt_of_le (lt_heap B24) (Nat.le_refl _))
    have X29 : Ext w w21 := X20.trans E21
    refine da_op rfl (d_store (vs := #[.float .f32 q19_0r0, .float .f32 q19_0r1, .float .f32 q19_0r2]) rfl rfl B21 size44 (Nat.le_of_ble_eq_true rfl) rfl fun w30 S30 => ?_)
    have X31 : Ext w w30 := Ext.step X29 S30.frmb (fun k _ hk => hk ▸ own25)
    have B32 : w30.heap[w19.heap.size]? = some (.cells #[.float .f32 q19_0r0, .float .f32 q19_0r1, .float .f32 q19_0r2] 44 (0, 0)) := S30.here
    refine da_op rfl (d_as (v := .bool m17.2) rfl ?_)
    refine da_nil ?_
    refine W_seq ?_
    refine W_region rfl ?_
    refine da_op rfl (d_mv (v := (Value.slice q5_0a q5_0n q5_0c)) rfl ?_)
    obtain ⟨m33, hm33, hr⟩ := bind_out hr
    have B35 : OS w30 9 encS (Value.slice q5_0a q5_0n q5_0c) m4 := (B23.ext E21).frm S30.frmb (rb sp27)
    refine da_op rfl (d_indexO (e := encS) (v := (Value.slice q5_0a q5_0n q5_0c)) un34 size9 rfl rfl B35 hm33 fun g34 fr34 cu34 vs34 hv34 hg34 hp34 hq34 => ?_)
    obtain rfl := dec_encS hq34
    have sp36 : g34 ≠ w.heap.size := fun e => sp7 (by rw [hv34, e]; rfl)
    have sp37 : g34 ≠ w19.heap.size := fun e => sp27 (by rw [hv34, e]; rfl)
    refine da_op rfl (d_load (v := .string (bs m33)) rfl agg9 hg34 (sub_get (vs := #[.string (bs m33)]) hp34 (i := 0) rfl) ?_)
    obtain ⟨m38, hm38, hr⟩ := bind_out hr
    have B39 : w30.heap[w.heap.size]? = some (.cells #[.float .f32 0, .float .f32 0, .float .f32 0, .float .f32 0, .float .f32 0, .float .f32 0, .float .f32 0, .float .f32 0, .float .f32 0, .float .f32 0] 48 (0, 0)) := S30.frmb.heap sp26 (E21.heap B22)
    refine da_op rfl (d_cl (vs := [.string (bs m33)]) en105 (ac rfl rfl) rfl ?_)
    refine (c105 m33 m38 w30 hm38 ).mono ?_
    rintro _ w40 ⟨q40_0a, q40_0n, q40_0c, rfl, q40_0R, q40_0F, E40⟩
    refine ⟨_, rfl, ?_⟩
    have own41 : ∀ k, (Value.slice q40_0a q40_0n q40_0c).ownBlock = some k → w.heap.size ≤ k := fun k hk => Nat.le_trans X31.size (q40_0F k hk)
    have sp42 : ¬ (Value.slice q40_0a q40_0n q40_0c).ownBlock = some w.heap.size := ne_fresh q40_0F (lt_heap B39)
    have sp43 : ∀ k, (Value.slice q5_0a q5_0n q5_0c).ownBlock = some k → ¬ (Value.slice q40_0a q40_0n q40_0c).ownBlock = some k := apart_fresh B35 q40_0F
    have sp44 : ¬ (Value.slice q40_0a q40_0n q40_0c).ownBlock = some w19.heap.size := ne_fresh q40_0F (lt_heap B32)
    have sp45 : ¬ (Value.slice q40_0a q40_0n q40_0c).ownBlock = some g34 := ne_fresh q40_0F (lt_heap hg34)
    have X46 : Ext w w40 := X31.trans E40
    refine da_op rfl (d_mv (v := .tuple #[(Value.slice q40_0a q40_0n q40_0c), .bool m38.2]) rfl ?_)
    refine da_op rfl (d_extract (v := (Value.slice q40_0a q40_0n q40_0c)) rfl rfl ?_)
    refine da_op rfl (d_extract (v := .bool m38.2) rfl rfl ?_)
    refine da_op rfl (d_as (v := (Value.slice q40_0a q40_0n q40_0c)) rfl ?_)
    refine da_op rfl (d_as (v := .bool m38.2) rfl ?_)
    refine da_nil ?_
    refine W_seq ?_
    refine W_region rfl ?_
    refine da_op rfl (d_mv (v := (Value.slice q5_0a q5_0n q5_0c)) rfl ?_)
    obtain ⟨m47, hm47, hr⟩ := bind_out hr
    have B49 : OS w40 9 encS (Value.slice q5_0a q5_0n q5_0c) m4 := B35.ext E40
    refine da_op rfl (d_indexO (e := encS) (v := (Value.slice q5_0a q5_0n q5_0c)) un34 size9 rfl rfl B49 hm47 fun g48 fr48 cu48 vs48 hv48 hg48 hp48 hq48 => ?_)
    obtain rfl := dec_encS hq48
    have sp50 : g48 ≠ w.heap.size := fun e => sp7 (by rw [hv48, e]; rfl)
    have sp51 : g48 ≠ w19.heap.size := fun e => sp27 (by rw [hv48, e]; rfl)
    have sp52 : ¬ (Value.slice q40_0a q40_0n q40_0c).ownBlock = some g48 := fun e => (apart_symm sp43) _ e (by rw [hv48]; rfl)
    refine da_op rfl (d_load (v := .string (bs m47)) rfl agg9 hg48 (sub_get (vs := #[.string (bs m47)]) hp48 (i := 0) rfl) ?_)
    obtain ⟨m53, hm53, hr⟩ := bind_out hr
    have B54 : w40.heap[w.heap.size]? = some (.cells #[.float .f32 0, .float .f32 0, .float .f32 0, .float .f32 0, .float .f32 0, .float .f32 0, .float .f32 0, .float .f32 0, .float .f32 0, .float .f32 0] 48 (0, 0)) := E40.heap B39
    have B55 : w40.heap[w19.heap.size]? = some (.cells #[.float .f32 q19_0r0, .float .f32 q19_0r1, .float .f32 q19_0r2] 44 (0, 0)) := E40.heap B32
    refine da_op rfl (d_cl (vs := [.string (bs m47)]) en120 (ac rfl rfl) rfl ?_)
    refine (c120 m47 m53 w40 hm53 ).mono ?_
    rintro _ w56 ⟨q56_0r0, q56_0r1, q56_0r2, rfl, q56_0h0, q56_0h1, q56_0h2, E56⟩
    refine ⟨_, rfl, ?_⟩
    have X57 : Ext w w56 := X46.trans E56
    refine da_op rfl (d_mv (v := .tuple #[.agg #[.float .f32 q56_0r0, .float .f32 q56_0r1, .float .f32 q56_0r2], .bool m53.2]) rfl ?_)
    refine da_op rfl (d_extract (v := .agg #[.float .f32 q56_0r0, .float .f32 q56_0r1, .float .f32 q56_0r2]) rfl rfl ?_)
    refine da_op rfl (d_extract (v := .bool m53.2) rfl rfl ?_)
    have B59 : w56.heap[w.heap.size]? = some (.cells #[.float .f32 0, .float .f32 0, .float .f32 0, .float .f32 0, .float .f32 0, .float .f32 0, .float .f32 0, .float .f32 0, .float .f32 0, .float .f32 0] 48 (0, 0)) := E56.heap B54
    have B60 : OS w56 9 encS (Value.slice q5_0a q5_0n q5_0c) m4 := B49.ext E56
    have B61 : w56.heap[w19.heap.size]? = some (.cells #[.float .f32 q19_0r0, .float .f32 q19_0r1, .float .f32 q19_0r2] 44 (0, 0)) := E56.heap B55
    have B62 : OS w56 22 encF_f32 (Value.slice q40_0a q40_0n q40_0c) m38.1 := q40_0R.ext E56
    have B63 : w56.heap[g48]? = some (.cells cu48 9 (0, 0)) := E56.heap hg48
    refine da_op rfl (d_alloc (cs := #[.float .f32 0, .float .f32 0, .float .f32 0]) zero44 rfl fun w58 B58 E58 => ?_)
    have own64 : w.heap.size ≤ w56.heap.size := Nat.le_trans X57.size (Nat.le_refl _)
    have sp65 : w.heap.size ≠ w56.heap.size := Nat.ne_of_lt (Nat.lt_of_lt_of_le (lt_heap B59) (Nat.le_refl _))
    have sp66 : ¬ (Value.slice q5_0a q5_0n q5_0c).ownBlock = some w56.heap.size := OS.ne_new B60 (Nat.le_refl _)
    have sp67 : w19.heap.size ≠ w56.heap.size := Nat.ne_of_lt (Nat.lt_of_lt_of_le (lt_heap B61) (Nat.le_refl _))
    have sp68 : ¬ (Value.slice q40_0a q40_0n q40_0c).ownBlock = some w56.heap.size := OS.ne_new B62 (Nat.le_refl _)
    have sp69 : g48 ≠ w56.heap.size := Nat.ne_of_lt (Nat.lt_of_lt_of_le (lt_heap B63) (Nat.le_refl _))
    have X70 : Ext w w58 := X57.trans E58
    refine da_op rfl (d_store (vs := #[.float .f32 q56_0r0, .float .f32 q56_0r1, .float .f32 q56_0r2]) rfl rfl B58 size44 (Nat.le_of_ble_eq_true rfl) rfl fun w71 S71 => ?_)
    have X72 : Ext w w71 := Ext.step X70 S71.frmb (fun k _ hk => hk ▸ own64)
    have B73 : w71.heap[w56.heap.size]? = some (.cells #[.float .f32 q56_0r0, .float .f32 q56_0r1, .float .f32 q56_0r2] 44 (0, 0)) := S71.here
    refine da_op rfl (d_as (v := .bool m53.2) rfl ?_)
    refine da_nil ?_
    refine W_seq ?_
    refine W_seq ?_
    have B75 : w71.heap[w.heap.size]? = some (.cells #[.float .f32 0, .float .f32 0, .float .f32 0, .float .f32 0, .float .f32 0, .float .f32 0, .float .f32 0, .float .f32 0, .float .f32 0, .float .f32 0] 48 (0, 0)) := S71.frmb.heap sp65 (E58.heap B59)
    have B76 : w71.heap[w19.heap.size]? = some (.cells #[.float .f32 q19_0r0, .float .f32 q19_0r1, .float .f32 q19_0r2] 44 (0, 0)) := S71.frmb.heap sp67 (E58.heap B61)
    have B77 : OS w71 22 encF_f32 (Value.slice q40_0a q40_0n q40_0c) m38.1 := (B62.ext E58).frm S71.frmb (rb sp68)
    obtain ⟨m74, hm74, hr⟩ := letv_out hr
    refine W_cut (fun σ' w' => σ' 53 = .bool m74 ∧ Ext w71 w') rfl ?_ ?_
    · skip
      have hr := hm74
      refine da_op rfl (d_mv (v := .bool m17.2) rfl ?_)
      refine da_op rfl (d_not rfl ?_)
      refine da_op rfl (d_mv (v := .bool (!m17.2)) rfl ?_)
      rcases Bool.eq_false_or_eq_true m17.2 with hc78 | hc78
      · skip
        replace hr := bif_t hr hc78
        refine da_on rfl (Eq.trans (show sl _ _ _ = .bool (!m17.2) from rfl) (congrArg Value.bool (congrArg not hc78))) (d_mv (v := .bool m38.2) rfl ?_)
        refine da_on rfl (Eq.trans (show sl _ _ _ = .bool (!m17.2) from rfl) (congrArg Value.bool (congrArg not hc78))) (d_not rfl ?_)
        refine da_op rfl (d_pick (b := false) (Eq.trans (show ev _ _ = .bool (!m17.2) from rfl) (congrArg Value.bool (congrArg not hc78))) ?_)
        refine da_op rfl (d_mv (v := .bool (!m38.2)) rfl ?_)
        rcases Bool.eq_false_or_eq_true m38.2 with hc79 | hc79
        · skip
          replace hr := bif_t hr hc79
          refine da_on rfl (Eq.trans (show sl _ _ _ = .bool (!m38.2) from rfl) (congrArg Value.bool (congrArg not hc79))) (d_mv (v := .bool m53.2) rfl ?_)
          refine da_on rfl (Eq.trans (show sl _ _ _ = .bool (!m38.2) from rfl) (congrArg Value.bool (congrArg not hc79))) (d_not rfl ?_)
          refine da_op rfl (d_pick (b := false) (Eq.trans (show ev _ _ = .bool (!m38.2) from rfl) (congrArg Value.bool (congrArg not hc79))) ?_)
          refine da_op rfl (d_mv (v := .bool (!m53.2)) rfl ?_)
          rcases Bool.eq_false_or_eq_true m53.2 with hc80 | hc80
          · skip
            replace hr := bif_t hr hc80
            refine da_on rfl (Eq.trans (show sl _ _ _ = .bool (!m53.2) from rfl) (congrArg Value.bool (congrArg not hc80))) (d_mv (v := (Value.slice q40_0a q40_0n q40_0c)) rfl ?_)
            refine da_on rfl (Eq.trans (show sl _ _ _ = .bool (!m53.2) from rfl) (congrArg Value.bool (congrArg not hc80))) (d_len (e := encF_f32) un53 rfl B77.rs ?_)
            refine da_on rfl (Eq.trans (show sl _ _ _ = .bool (!m53.2) from rfl) (congrArg Value.bool (congrArg not hc80))) (d_icmp cNeq rfl rfl ?_)
            refine da_op rfl (d_pick (b := false) (Eq.trans (show ev _ _ = .bool (!m53.2) from rfl) (congrArg Value.bool (congrArg not hc80))) ?_)
            refine da_nil ?_
            subst hr
            exact ⟨rfl, (Ext.refl w71)⟩
          · skip
            replace hr := bif_f hr hc80
            refine da_off rfl (Eq.trans (show sl _ _ _ = .bool (!m53.2) from rfl) (congrArg Value.bool (congrArg not hc80))) (by decide) ?_
            refine da_off rfl (Eq.trans (show sl _ _ _ = .bool (!m53.2) from rfl) (congrArg Value.bool (congrArg not hc80))) (by decide) ?_
            refine da_off rfl (Eq.trans (show sl _ _ _ = .bool (!m53.2) from rfl) (congrArg Value.bool (congrArg not hc80))) (by decide) ?_
            refine da_op rfl (d_pick (b := true) (Eq.trans (show ev _ _ = .bool (!m53.2) from rfl) (congrArg Value.bool (congrArg not hc80))) ?_)
            refine da_nil ?_
            subst hr
            exact ⟨rfl, (Ext.refl w71)⟩
        · skip
          replace hr := bif_f hr hc79
          refine da_off rfl (Eq.trans (show sl _ _ _ = .bool (!m38.2) from rfl) (congrArg Value.bool (congrArg not hc79))) (by decide) ?_
          refine da_off rfl (Eq.trans (show sl _ _ _ = .bool (!m38.2) from rfl) (congrArg Value.bool (congrArg not hc79))) (by decide) ?_
          refine da_op rfl (d_pick (b := true) (Eq.trans (show ev _ _ = .bool (!m38.2) from rfl) (congrArg Value.bool (congrArg not hc79))) ?_)
          refine da_op rfl (d_mv (v := .bool true) rfl ?_)
          refine da_off rfl rfl (by decide) ?_
          refine da_off rfl rfl (by decide) ?_
          refine da_off rfl rfl (by decide) ?_
          refine da_op rfl (d_pick (b := true) rfl ?_)
          refine da_nil ?_
          subst hr
          exact ⟨rfl, (Ext.refl w71)⟩
      · skip
        replace hr := bif_f hr hc78
        refine da_off rfl (Eq.trans (show sl _ _ _ = .bool (!m17.2) from rfl) (congrArg Value.bool (congrArg not hc78))) (by decide) ?_
        refine da_off rfl (Eq.trans (show sl _ _ _ = .bool (!m17.2) from rfl) (congrArg Value.bool (congrArg not hc78))) (by decide) ?_
        refine da_op rfl (d_pick (b := true) (Eq.trans (show ev _ _ = .bool (!m17.2) from rfl) (congrArg Value.bool (congrArg not hc78))) ?_)
        refine da_op rfl (d_mv (v := .bool true) rfl ?_)
        refine da_off rfl rfl (by decide) ?_
        refine da_off rfl rfl (by decide) ?_
        refine da_op rfl (d_pick (b := true) rfl ?_)
        refine da_op rfl (d_mv (v := .bool true) rfl ?_)
        refine da_off rfl rfl (by decide) ?_
        refine da_off rfl rfl (by decide) ?_
        refine da_off rfl rfl (by decide) ?_
        refine da_op rfl (d_pick (b := true) rfl ?_)
        refine da_nil ?_
        subst hr
        exact ⟨rfl, (Ext.refl w71)⟩
    · skip
      rintro σ74 w74 o74 ⟨s53_74, E74⟩
      have s2_74 : σ74 2 = .pointer (some ⟨w.heap.size, 0, none⟩) := (o74 2 rfl).trans rfl
      have s5_74 : σ74 5 = .pointer (some ⟨w19.heap.size, 0, none⟩) := (o74 5 rfl).trans rfl
      have s7_74 : σ74 7 = (Value.slice q40_0a q40_0n q40_0c) := (o74 7 rfl).trans rfl
      have s9_74 : σ74 9 = .pointer (some ⟨w56.heap.size, 0, none⟩) := (o74 9 rfl).trans rfl
      have X81 : Ext w w74 := X72.trans E74
      refine W_cond (b := m74) s53_74 (fun hc82 => ?_) (fun hc82 => ?_)
      · skip
        replace hr := bif_t hr hc82
        refine W_seq ?_
        refine W_region rfl ?_
        refine da_op rfl (d_bd (vs := []) (cs := #[.float .f32 0, .float .f32 0, .float .f32 0, .float .f32 0, .float .f32 0, .float .f32 0, .float .f32 0, .float .f32 0, .float .f32 0, .float .f32 0]) rfl (by kernel_rfl) ?_)
        have B83 : w74.heap[w.heap.size]? = some (.cells #[.float .f32 0, .float .f32 0, .float .f32 0, .float .f32 0, .float .f32 0, .float .f32 0, .float .f32 0, .float .f32 0, .float .f32 0, .float .f32 0] 48 (0, 0)) := E74.heap B75
        refine da_op rfl (d_store (vs := #[.float .f32 0, .float .f32 0, .float .f32 0, .float .f32 0, .float .f32 0, .float .f32 0, .float .f32 0, .float .f32 0, .float .f32 0, .float .f32 0]) s2_74 rfl B83 size48 (Nat.le_of_ble_eq_true rfl) rfl fun w84 S84 => ?_)
        have X85 : Ext w w84 := Ext.step X81 S84.frmb (fun k _ hk => hk ▸ own2)
        have B86 : w84.heap[w.heap.size]? = some (.cells #[.float .f32 0, .float .f32 0, .float .f32 0, .float .f32 0, .float .f32 0, .float .f32 0, .float .f32 0, .float .f32 0, .float .f32 0, .float .f32 0] 48 (0, 0)) := S84.here
        refine da_op rfl (d_as (v := .bool false) rfl ?_)
        refine da_nil ?_
        refine W_ret ?_
        obtain rfl := Option.some.inj hr
        refine ⟨_, res2 (rv_cells (vs := #[.float .f32 0, .float .f32 0, .float .f32 0, .float .f32 0, .float .f32 0, .float .f32 0, .float .f32 0, .float .f32 0, .float .f32 0, .float .f32 0]) s2_74 agg48 size48 B86 rfl) (rv_tmp rfl), ?_⟩
        exact ⟨0, 0, 0, 0, 0, 0, 0, 0, 0, 0, rfl, cn_f32_0, cn_f32_0, cn_f32_0, cn_f32_0, cn_f32_0, cn_f32_0, cn_f32_0, cn_f32_0, cn_f32_0, cn_f32_0, X85⟩
      · skip
        replace hr := bif_f hr hc82
        refine W_skip ?_
        refine W_seq ?_
        have B88 : w74.heap[w.heap.size]? = some (.cells #[.float .f32 0, .float .f32 0, .float .f32 0, .float .f32 0, .float .f32 0, .float .f32 0, .float .f32 0, .float .f32 0, .float .f32 0, .float .f32 0] 48 (0, 0)) := E74.heap B75
        have B89 : w74.heap[w19.heap.size]? = some (.cells #[.float .f32 q19_0r0, .float .f32 q19_0r1, .float .f32 q19_0r2] 44 (0, 0)) := E74.heap B76
        have B90 : OS w74 22 encF_f32 (Value.slice q40_0a q40_0n q40_0c) m38.1 := B77.ext E74
        have B91 : w74.heap[w56.heap.size]? = some (.cells #[.float .f32 q56_0r0, .float .f32 q56_0r1, .float .f32 q56_0r2] 44 (0, 0)) := E74.heap B73
        obtain ⟨m92, hm92, hr⟩ := bind_out hr
        obtain ⟨m93, hm93, hr⟩ := bind_out hr
        obtain ⟨m94, hm94, hr⟩ := bind_out hr
        obtain ⟨m95, hm95, hr⟩ := bind_out hr
        refine W_anyT 17 [] [{ V := fun _ v _ => v = (.agg #[.float .f32 q19_0r0, .float .f32 q19_0r1, .float .f32 q19_0r2]) }, { V := fun _ v _ => v = (Value.slice q40_0a q40_0n q40_0c) }, { V := fun _ v _ => ∃ d87_2g : Nat, ∃ d87_2o : Nat, v = (.pointer (some ⟨d87_2g, d87_2o, none⟩)) ∧ EL encF_f32 (Value.slice q40_0a q40_0n q40_0c) (m38.1).length 0 d87_2g d87_2o }, { V := fun _ v _ => ∃ d87_2r0 : Nat, v = (.float .f32 d87_2r0) ∧ cn .f32 d87_2r0 = m92 }, { V := fun _ v _ => v = (Value.slice q40_0a q40_0n q40_0c) }, { V := fun _ v _ => ∃ d87_5g : Nat, ∃ d87_5o : Nat, v = (.pointer (some ⟨d87_5g, d87_5o, none⟩)) ∧ EL encF_f32 (Value.slice q40_0a q40_0n q40_0c) (m38.1).length 1 d87_5g d87_5o }, { V := fun _ v _ => ∃ d87_5r0 : Nat, v = (.float .f32 d87_5r0) ∧ cn .f32 d87_5r0 = m93 }, { V := fun _ v _ => v = (Value.slice q40_0a q40_0n q40_0c) }, { V := fun _ v _ => ∃ d87_8g : Nat, ∃ d87_8o : Nat, v = (.pointer (some ⟨d87_8g, d87_8o, none⟩)) ∧ EL encF_f32 (Value.slice q40_0a q40_0n q40_0c) (m38.1).length 2 d87_8g d87_8o }, { V := fun _ v _ => ∃ d87_8r0 : Nat, v = (.float .f32 d87_8r0) ∧ cn .f32 d87_8r0 = m94 }, { V := fun _ v _ => v = (Value.slice q40_0a q40_0n q40_0c) }, { V := fun _ v _ => ∃ d87_11g : Nat, ∃ d87_11o : Nat, v = (.pointer (some ⟨d87_11g, d87_11o, none⟩)) ∧ EL encF_f32 (Value.slice q40_0a q40_0n q40_0c) (m38.1).length 3 d87_11g d87_11o }, { V := fun _ v _ => ∃ d87_11r0 : Nat, v = (.float .f32 d87_11r0) ∧ cn .f32 d87_11r0 = m95 }, { V := fun _ v _ => ∃ d87_2r0 : Nat, ∃ d87_5r0 : Nat, ∃ d87_8r0 : Nat, ∃ d87_11r0 : Nat, v = (.agg #[.float .f32 d87_2r0, .float .f32 d87_5r0, .float .f32 d87_8r0, .float .f32 d87_11r0]) ∧ cn .f32 d87_2r0 = m92 ∧ cn .f32 d87_5r0 = m93 ∧ cn .f32 d87_8r0 = m94 ∧ cn .f32 d87_11r0 = m95 }, { V := fun _ v _ => v = (.agg #[.float .f32 q56_0r0, .float .f32 q56_0r1, .float .f32 q56_0r2]) }, { V := fun _ v _ => ∃ d87_2r0 : Nat, ∃ d87_5r0 : Nat, ∃ d87_8r0 : Nat, ∃ d87_11r0 : Nat, v = (.agg #[.float .f32 q19_0r0, .float .f32 q19_0r1, .float .f32 q19_0r2, .float .f32 d87_2r0, .float .f32 d87_5r0, .float .f32 d87_8r0, .float .f32 d87_11r0, .float .f32 q56_0r0, .float .f32 q56_0r1, .float .f32 q56_0r2]) ∧ cn .f32 d87_2r0 = m92 ∧ cn .f32 d87_5r0 = m93 ∧ cn .f32 d87_8r0 = m94 ∧ cn .f32 d87_11r0 = m95 }, { V := fun _ v w' => ∃ d87_16b : Nat, v = (.pointer (some ⟨d87_16b, 0, none⟩)) ∧ w74.heap.size ≤ d87_16b ∧ w'.heap[d87_16b]? = some (.cells #[.float .f32 0, .float .f32 0, .float .f32 0, .float .f32 0, .float .f32 0, .float .f32 0, .float .f32 0, .float .f32 0, .float .f32 0, .float .f32 0] 48 (0, 0)) }] mixed (by kernel_rfl) ⟨trivial, trivial, trivial, trivial, trivial, trivial, trivial, trivial, trivial, trivial, trivial, trivial, trivial, trivial, trivial, trivial, trivial, trivial⟩ ⟨?_, ?_, ?_, ?_, ?_, ?_, ?_, ?_, ?_, ?_, ?_, ?_, ?_, ?_, ?_, ?_, ?_, trivial⟩ ?_
        · skip
          refine ⟨fun _ _ _ _ _ _ h _ => h, fun _ _ h _ => h, fun σ' w' hA hE hD hP => ?_⟩
          have t5 : σ' 5 = .pointer (some ⟨w19.heap.size, 0, none⟩) := (hA 5 rfl).trans s5_74
          have B0_96 : w'.heap[w19.heap.size]? = some (.cells #[.float .f32 q19_0r0, .float .f32 q19_0r1, .float .f32 q19_0r2] 44 (0, 0)) := hE.heap not_oth0 B89
          refine dg_op rfl (d_loads (vs := #[.float .f32 q19_0r0, .float .f32 q19_0r1, .float .f32 q19_0r2]) t5 agg44 size44 B0_96 rfl ?_)
          exact ⟨rfl, own_none (Ext.refl w')⟩
        · skip
          refine ⟨fun _ _ _ _ _ _ h _ => h, fun _ _ h _ => h, fun σ' w' hA hE hD hP => ?_⟩
          have t7 : σ' 7 = (Value.slice q40_0a q40_0n q40_0c) := (hA 7 rfl).trans s7_74
          have B0_97 : OS w' 22 encF_f32 (Value.slice q40_0a q40_0n q40_0c) m38.1 := B90.frm hE (fun k hk => not_oth0)
          refine dg_op rfl (d_mv (v := (Value.slice q40_0a q40_0n q40_0c)) t7 ?_)
          exact ⟨rfl, own_none (Ext.refl w')⟩
        · skip
          refine ⟨fun _ _ _ _ _ _ h _ => h, fun _ _ h _ => h, fun σ' w' hA hE hD hP => ?_⟩
          have t56 : σ' 56 = (Value.slice q40_0a q40_0n q40_0c) := hD 1 rfl
          have B0_98 : OS w' 22 encF_f32 (Value.slice q40_0a q40_0n q40_0c) m38.1 := B90.frm hE (fun k hk => not_oth0)
          refine dg_op rfl (d_indexE (e := encF_f32) (v := (Value.slice q40_0a q40_0n q40_0c)) un53 size22 t56 rfl B0_98.rs hm92 fun g99 o99 l99 => ?_)
          exact ⟨⟨g99, o99, rfl, l99⟩, own_none (Ext.refl _)⟩
        · skip
          refine ⟨fun _ _ _ _ _ _ h _ => h, fun _ _ h _ => h, fun σ' w' hA hE hD hP => ?_⟩
          obtain ⟨d87_2g, d87_2o, t57, d87_2gE⟩ : ∃ d87_2g : Nat, ∃ d87_2o : Nat, σ' 57 = (.pointer (some ⟨d87_2g, d87_2o, none⟩)) ∧ EL encF_f32 (Value.slice q40_0a q40_0n q40_0c) (m38.1).length 0 d87_2g d87_2o := hD 2 rfl
          have B0_100 : OS w' 22 encF_f32 (Value.slice q40_0a q40_0n q40_0c) m38.1 := B90.frm hE (fun k hk => not_oth0)
          obtain ⟨d87_2c, d87_2T, d87_2f, d87_2vs, d87_2hg, d87_2P, d87_2hq⟩ := RS.el B0_100.rs d87_2gE hm92
          obtain ⟨d87_2r0, rfl, d87_2h0⟩ := dec_encF_f32 d87_2hq
          refine dg_op rfl (d_load (v := .float .f32 d87_2r0) t57 agg22 d87_2hg (sub_get (vs := #[.float .f32 d87_2r0]) d87_2P (i := 0) rfl) ?_)
          exact ⟨⟨d87_2r0, rfl, d87_2h0⟩, own_none (Ext.refl w')⟩
        · skip
          refine ⟨fun _ _ _ _ _ _ h _ => h, fun _ _ h _ => h, fun σ' w' hA hE hD hP => ?_⟩
          have t7 : σ' 7 = (Value.slice q40_0a q40_0n q40_0c) := (hA 7 rfl).trans s7_74
          have B0_101 : OS w' 22 encF_f32 (Value.slice q40_0a q40_0n q40_0c) m38.1 := B90.frm hE (fun k hk => not_oth0)
          refine dg_op rfl (d_mv (v := (Value.slice q40_0a q40_0n q40_0c)) t7 ?_)
          exact ⟨rfl, own_none (Ext.refl w')⟩
        · skip
          refine ⟨fun _ _ _ _ _ _ h _ => h, fun _ _ h _ => h, fun σ' w' hA hE hD hP => ?_⟩
          have t59 : σ' 59 = (Value.slice q40_0a q40_0n q40_0c) := hD 4 rfl
          have B0_102 : OS w' 22 encF_f32 (Value.slice q40_0a q40_0n q40_0c) m38.1 := B90.frm hE (fun k hk => not_oth0)
          refine dg_op rfl (d_indexE (e := encF_f32) (v := (Value.slice q40_0a q40_0n q40_0c)) un53 size22 t59 rfl B0_102.rs hm93 fun g103 o103 l103 => ?_)
          exact ⟨⟨g103, o103, rfl, l103⟩, own_none (Ext.refl _)⟩
        · skip
          refine ⟨fun _ _ _ _ _ _ h _ => h, fun _ _ h _ => h, fun σ' w' hA hE hD hP => ?_⟩
          obtain ⟨d87_5g, d87_5o, t60, d87_5gE⟩ : ∃ d87_5g : Nat, ∃ d87_5o : Nat, σ' 60 = (.pointer (some ⟨d87_5g, d87_5o, none⟩)) ∧ EL encF_f32 (Value.slice q40_0a q40_0n q40_0c) (m38.1).length 1 d87_5g d87_5o := hD 5 rfl
          have B0_104 : OS w' 22 encF_f32 (Value.slice q40_0a q40_0n q40_0c) m38.1 := B90.frm hE (fun k hk => not_oth0)
          obtain ⟨d87_5c, d87_5T, d87_5f, d87_5vs, d87_5hg, d87_5P, d87_5hq⟩ := RS.el B0_104.rs d87_5gE hm93
          obtain ⟨d87_5r0, rfl, d87_5h0⟩ := dec_encF_f32 d87_5hq
          refine dg_op rfl (d_load (v := .float .f32 d87_5r0) t60 agg22 d87_5hg (sub_get (vs := #[.float .f32 d87_5r0]) d87_5P (i := 0) rfl) ?_)
          exact ⟨⟨d87_5r0, rfl, d87_5h0⟩, own_none (Ext.refl w')⟩
        · skip
          refine ⟨fun _ _ _ _ _ _ h _ => h, fun _ _ h _ => h, fun σ' w' hA hE hD hP => ?_⟩
          have t7 : σ' 7 = (Value.slice q40_0a q40_0n q40_0c) := (hA 7 rfl).trans s7_74
          have B0_105 : OS w' 22 encF_f32 (Value.slice q40_0a q40_0n q40_0c) m38.1 := B90.frm hE (fun k hk => not_oth0)
          refine dg_op rfl (d_mv (v := (Value.slice q40_0a q40_0n q40_0c)) t7 ?_)
          exact ⟨rfl, own_none (Ext.refl w')⟩
        · skip
          refine ⟨fun _ _ _ _ _ _ h _ => h, fun _ _ h _ => h, fun σ' w' hA hE hD hP => ?_⟩
          have t62 : σ' 62 = (Value.slice q40_0a q40_0n q40_0c) := hD 7 rfl
          have B0_106 : OS w' 22 encF_f32 (Value.slice q40_0a q40_0n q40_0c) m38.1 := B90.frm hE (fun k hk => not_oth0)
          refine dg_op rfl (d_indexE (e := encF_f32) (v := (Value.slice q40_0a q40_0n q40_0c)) un53 size22 t62 rfl B0_106.rs hm94 fun g107 o107 l107 => ?_)
          exact ⟨⟨g107, o107, rfl, l107⟩, own_none (Ext.refl _)⟩
        · skip
          refine ⟨fun _ _ _ _ _ _ h _ => h, fun _ _ h _ => h, fun σ' w' hA hE hD hP => ?_⟩
          obtain ⟨d87_8g, d87_8o, t63, d87_8gE⟩ : ∃ d87_8g : Nat, ∃ d87_8o : Nat, σ' 63 = (.pointer (some ⟨d87_8g, d87_8o, none⟩)) ∧ EL encF_f32 (Value.slice q40_0a q40_0n q40_0c) (m38.1).length 2 d87_8g d87_8o := hD 8 rfl
          have B0_108 : OS w' 22 encF_f32 (Value.slice q40_0a q40_0n q40_0c) m38.1 := B90.frm hE (fun k hk => not_oth0)
          obtain ⟨d87_8c, d87_8T, d87_8f, d87_8vs, d87_8hg, d87_8P, d87_8hq⟩ := RS.el B0_108.rs d87_8gE hm94
          obtain ⟨d87_8r0, rfl, d87_8h0⟩ := dec_encF_f32 d87_8hq
          refine dg_op rfl (d_load (v := .float .f32 d87_8r0) t63 agg22 d87_8hg (sub_get (vs := #[.float .f32 d87_8r0]) d87_8P (i := 0) rfl) ?_)
          exact ⟨⟨d87_8r0, rfl, d87_8h0⟩, own_none (Ext.refl w')⟩
        · skip
          refine ⟨fun _ _ _ _ _ _ h _ => h, fun _ _ h _ => h, fun σ' w' hA hE hD hP => ?_⟩
          have t7 : σ' 7 = (Value.slice q40_0a q40_0n q40_0c) := (hA 7 rfl).trans s7_74
          have B0_109 : OS w' 22 encF_f32 (Value.slice q40_0a q40_0n q40_0c) m38.1 := B90.frm hE (fun k hk => not_oth0)
          refine dg_op rfl (d_mv (v := (Value.slice q40_0a q40_0n q40_0c)) t7 ?_)
          exact ⟨rfl, own_none (Ext.refl w')⟩
        · skip
          refine ⟨fun _ _ _ _ _ _ h _ => h, fun _ _ h _ => h, fun σ' w' hA hE hD hP => ?_⟩
          have t65 : σ' 65 = (Value.slice q40_0a q40_0n q40_0c) := hD 10 rfl
          have B0_110 : OS w' 22 encF_f32 (Value.slice q40_0a q40_0n q40_0c) m38.1 := B90.frm hE (fun k hk => not_oth0)
          refine dg_op rfl (d_indexE (e := encF_f32) (v := (Value.slice q40_0a q40_0n q40_0c)) un53 size22 t65 rfl B0_110.rs hm95 fun g111 o111 l111 => ?_)
          exact ⟨⟨g111, o111, rfl, l111⟩, own_none (Ext.refl _)⟩
        · skip
          refine ⟨fun _ _ _ _ _ _ h _ => h, fun _ _ h _ => h, fun σ' w' hA hE hD hP => ?_⟩
          obtain ⟨d87_11g, d87_11o, t66, d87_11gE⟩ : ∃ d87_11g : Nat, ∃ d87_11o : Nat, σ' 66 = (.pointer (some ⟨d87_11g, d87_11o, none⟩)) ∧ EL encF_f32 (Value.slice q40_0a q40_0n q40_0c) (m38.1).length 3 d87_11g d87_11o := hD 11 rfl
          have B0_112 : OS w' 22 encF_f32 (Value.slice q40_0a q40_0n q40_0c) m38.1 := B90.frm hE (fun k hk => not_oth0)
          obtain ⟨d87_11c, d87_11T, d87_11f, d87_11vs, d87_11hg, d87_11P, d87_11hq⟩ := RS.el B0_112.rs d87_11gE hm95
          obtain ⟨d87_11r0, rfl, d87_11h0⟩ := dec_encF_f32 d87_11hq
          refine dg_op rfl (d_load (v := .float .f32 d87_11r0) t66 agg22 d87_11hg (sub_get (vs := #[.float .f32 d87_11r0]) d87_11P (i := 0) rfl) ?_)
          exact ⟨⟨d87_11r0, rfl, d87_11h0⟩, own_none (Ext.refl w')⟩
        · skip
          refine ⟨fun _ _ _ _ _ _ h _ => h, fun _ _ h _ => h, fun σ' w' hA hE hD hP => ?_⟩
          obtain ⟨d87_2r0, t58, d87_2h0⟩ : ∃ d87_2r0 : Nat, σ' 58 = (.float .f32 d87_2r0) ∧ cn .f32 d87_2r0 = m92 := hD 3 rfl
          obtain ⟨d87_5r0, t61, d87_5h0⟩ : ∃ d87_5r0 : Nat, σ' 61 = (.float .f32 d87_5r0) ∧ cn .f32 d87_5r0 = m93 := hD 6 rfl
          obtain ⟨d87_8r0, t64, d87_8h0⟩ : ∃ d87_8r0 : Nat, σ' 64 = (.float .f32 d87_8r0) ∧ cn .f32 d87_8r0 = m94 := hD 9 rfl
          obtain ⟨d87_11r0, t67, d87_11h0⟩ : ∃ d87_11r0 : Nat, σ' 67 = (.float .f32 d87_11r0) ∧ cn .f32 d87_11r0 = m95 := hD 12 rfl
          refine dg_op rfl (d_bd (vs := [(0, .float .f32 d87_2r0), (1, .float .f32 d87_5r0), (2, .float .f32 d87_8r0), (3, .float .f32 d87_11r0)]) (cs := #[.float .f32 d87_2r0, .float .f32 d87_5r0, .float .f32 d87_8r0, .float .f32 d87_11r0]) (pc t58 (pc t61 (pc t64 (pc t67 rfl)))) (by kernel_rfl) ?_)
          exact ⟨⟨d87_2r0, d87_5r0, d87_8r0, d87_11r0, rfl, d87_2h0, d87_5h0, d87_8h0, d87_11h0⟩, own_none (Ext.refl w')⟩
        · skip
          refine ⟨fun _ _ _ _ _ _ h _ => h, fun _ _ h _ => h, fun σ' w' hA hE hD hP => ?_⟩
          have t9 : σ' 9 = .pointer (some ⟨w56.heap.size, 0, none⟩) := (hA 9 rfl).trans s9_74
          have B0_113 : w'.heap[w56.heap.size]? = some (.cells #[.float .f32 q56_0r0, .float .f32 q56_0r1, .float .f32 q56_0r2] 44 (0, 0)) := hE.heap not_oth0 B91
          refine dg_op rfl (d_loads (vs := #[.float .f32 q56_0r0, .float .f32 q56_0r1, .float .f32 q56_0r2]) t9 agg44 size44 B0_113 rfl ?_)
          exact ⟨rfl, own_none (Ext.refl w')⟩
        · skip
          refine ⟨fun _ _ _ _ _ _ h _ => h, fun _ _ h _ => h, fun σ' w' hA hE hD hP => ?_⟩
          have t55 : σ' 55 = (.agg #[.float .f32 q19_0r0, .float .f32 q19_0r1, .float .f32 q19_0r2]) := hD 0 rfl
          obtain ⟨d87_2r0, d87_5r0, d87_8r0, d87_11r0, t68, d87_2h0, d87_5h0, d87_8h0, d87_11h0⟩ : ∃ d87_2r0 : Nat, ∃ d87_5r0 : Nat, ∃ d87_8r0 : Nat, ∃ d87_11r0 : Nat, σ' 68 = (.agg #[.float .f32 d87_2r0, .float .f32 d87_5r0, .float .f32 d87_8r0, .float .f32 d87_11r0]) ∧ cn .f32 d87_2r0 = m92 ∧ cn .f32 d87_5r0 = m93 ∧ cn .f32 d87_8r0 = m94 ∧ cn .f32 d87_11r0 = m95 := hD 13 rfl
          have t69 : σ' 69 = (.agg #[.float .f32 q56_0r0, .float .f32 q56_0r1, .float .f32 q56_0r2]) := hD 14 rfl
          refine dg_op rfl (d_bd (vs := [(0, .agg #[.float .f32 q19_0r0, .float .f32 q19_0r1, .float .f32 q19_0r2]), (1, .agg #[.float .f32 d87_2r0, .float .f32 d87_5r0, .float .f32 d87_8r0, .float .f32 d87_11r0]), (2, .agg #[.float .f32 q56_0r0, .float .f32 q56_0r1, .float .f32 q56_0r2])]) (cs := #[.float .f32 q19_0r0, .float .f32 q19_0r1, .float .f32 q19_0r2, .float .f32 d87_2r0, .float .f32 d87_5r0, .float .f32 d87_8r0, .float .f32 d87_11r0, .float .f32 q56_0r0, .float .f32 q56_0r1, .float .f32 q56_0r2]) (pc t55 (pc t68 (pc t69 rfl))) (by kernel_rfl) ?_)
          exact ⟨⟨d87_2r0, d87_5r0, d87_8r0, d87_11r0, rfl, d87_2h0, d87_5h0, d87_8h0, d87_11h0⟩, own_none (Ext.refl w')⟩
        · skip
          refine ⟨fun _ _ _ w' w'' _ ⟨d87_16b, hv, d87_16ble, d87_16bB⟩ hF => ⟨d87_16b, hv, d87_16ble, hF.heap not_oth0 d87_16bB⟩, fun _ _ h _ => h, fun σ' w' hA hE hD hP => ?_⟩
          refine dg_op rfl (d_alloc (cs := #[.float .f32 0, .float .f32 0, .float .f32 0, .float .f32 0, .float .f32 0, .float .f32 0, .float .f32 0, .float .f32 0, .float .f32 0, .float .f32 0]) zero48 rfl fun w114 B114 E114 => ?_)
          have X116 : Ext w' w114 := (Ext.refl w').trans E114
          exact ⟨⟨w'.heap.size, rfl, hE.size, B114⟩, own_none X116⟩
        · skip
          intro σ87 w87 A87 E87 V87
          have E87x : Ext w74 w87 := ext_of_oth0 E87
          obtain ⟨z87_11_16b, s11_87, z87_11_16ble, z87_11_16bB⟩ : ∃ z87_11_16b : Nat, σ87 11 = (.pointer (some ⟨z87_11_16b, 0, none⟩)) ∧ w74.heap.size ≤ z87_11_16b ∧ w87.heap[z87_11_16b]? = some (.cells #[.float .f32 0, .float .f32 0, .float .f32 0, .float .f32 0, .float .f32 0, .float .f32 0, .float .f32 0, .float .f32 0, .float .f32 0, .float .f32 0] 48 (0, 0)) := V87 16 (Nat.le_of_ble_eq_true rfl)
          obtain ⟨z87_70_2r0, z87_70_5r0, z87_70_8r0, z87_70_11r0, s70_87, z87_70_2h0, z87_70_5h0, z87_70_8h0, z87_70_11h0⟩ : ∃ z87_70_2r0 : Nat, ∃ z87_70_5r0 : Nat, ∃ z87_70_8r0 : Nat, ∃ z87_70_11r0 : Nat, σ87 70 = (.agg #[.float .f32 q19_0r0, .float .f32 q19_0r1, .float .f32 q19_0r2, .float .f32 z87_70_2r0, .float .f32 z87_70_5r0, .float .f32 z87_70_8r0, .float .f32 z87_70_11r0, .float .f32 q56_0r0, .float .f32 q56_0r1, .float .f32 q56_0r2]) ∧ cn .f32 z87_70_2r0 = m92 ∧ cn .f32 z87_70_5r0 = m93 ∧ cn .f32 z87_70_8r0 = m94 ∧ cn .f32 z87_70_11r0 = m95 := V87 15 (Nat.le_of_ble_eq_true rfl)
          have own117 : w.heap.size ≤ z87_11_16b := Nat.le_trans X81.size z87_11_16ble
          have sp118 : w.heap.size ≠ z87_11_16b := Nat.ne_of_lt (Nat.lt_of_lt_of_le (lt_heap B88) z87_11_16ble)
          have sp119 : w19.heap.size ≠ z87_11_16b := Nat.ne_of_lt (Nat.lt_of_lt_of_le (lt_heap B89) z87_11_16ble)
          have sp120 : ¬ (Value.slice q40_0a q40_0n q40_0c).ownBlock = some z87_11_16b := OS.ne_new B90 z87_11_16ble
          have sp121 : w56.heap.size ≠ z87_11_16b := Nat.ne_of_lt (Nat.lt_of_lt_of_le (lt_heap B91) z87_11_16ble)
          have s2_87 : σ87 2 = .pointer (some ⟨w.heap.size, 0, none⟩) := (A87 2 rfl).trans s2_74
          have X122 : Ext w w87 := X81.trans E87x
          refine da_op rfl (d_store (vs := #[.float .f32 q19_0r0, .float .f32 q19_0r1, .float .f32 q19_0r2, .float .f32 z87_70_2r0, .float .f32 z87_70_5r0, .float .f32 z87_70_8r0, .float .f32 z87_70_11r0, .float .f32 q56_0r0, .float .f32 q56_0r1, .float .f32 q56_0r2]) s11_87 (congrArg Value.cells s70_87) z87_11_16bB size48 (Nat.le_of_ble_eq_true rfl) rfl fun w123 S123 => ?_)
          have X124 : Ext w w123 := Ext.step X122 S123.frmb (fun k _ hk => hk ▸ own117)
          have B125 : w123.heap[z87_11_16b]? = some (.cells #[.float .f32 q19_0r0, .float .f32 q19_0r1, .float .f32 q19_0r2, .float .f32 z87_70_2r0, .float .f32 z87_70_5r0, .float .f32 z87_70_8r0, .float .f32 z87_70_11r0, .float .f32 q56_0r0, .float .f32 q56_0r1, .float .f32 q56_0r2] 48 (0, 0)) := S123.here
          refine da_nil ?_
          refine W_seq ?_
          refine W_seq ?_
          refine W_region rfl ?_
          obtain ⟨m126, hm126, hr⟩ := letv_out hr
          have B127 : w123.heap[w.heap.size]? = some (.cells #[.float .f32 0, .float .f32 0, .float .f32 0, .float .f32 0, .float .f32 0, .float .f32 0, .float .f32 0, .float .f32 0, .float .f32 0, .float .f32 0] 48 (0, 0)) := S123.frmb.heap sp118 (E87x.heap B88)
          refine da_op rfl (d_cl (vs := [.pointer (some ⟨z87_11_16b, 0, none⟩)]) en121 (ac s11_87 rfl) rfl ?_)
          refine (c121 (⟨(⟨m17.1.x, m17.1.y, m17.1.z⟩ : SVector), (⟨m92, m93, m94, m95⟩ : SSpin), (⟨m53.1.x, m53.1.y, m53.1.z⟩ : SVector)⟩ : STop) z87_11_16b 0 #[.float .f32 q19_0r0, .float .f32 q19_0r1, .float .f32 q19_0r2, .float .f32 z87_70_2r0, .float .f32 z87_70_5r0, .float .f32 z87_70_8r0, .float .f32 z87_70_11r0, .float .f32 q56_0r0, .float .f32 q56_0r1, .float .f32 q56_0r2] 48 (0, 0) q19_0r0 q19_0r1 q19_0r2 z87_70_2r0 z87_70_5r0 z87_70_8r0 z87_70_11r0 q56_0r0 q56_0r1 q56_0r2 m126 w123 hm126 q19_0h0 q19_0h1 q19_0h2 z87_70_2h0 z87_70_5h0 z87_70_8h0 z87_70_11h0 q56_0h0 q56_0h1 q56_0h2 B125 rfl).mono ?_
          rintro _ w128 ⟨rfl, E128⟩
          refine ⟨_, rfl, ?_⟩
          have X129 : Ext w w128 := X124.trans E128
          refine da_op rfl (d_not rfl ?_)
          refine da_nil ?_
          refine W_cond (b := (!m126)) rfl (fun hc130 => ?_) (fun hc130 => ?_)
          · skip
            replace hr := bif_t hr hc130
            refine W_seq ?_
            refine W_region rfl ?_
            refine da_op rfl (d_bd (vs := []) (cs := #[.float .f32 0, .float .f32 0, .float .f32 0, .float .f32 0, .float .f32 0, .float .f32 0, .float .f32 0, .float .f32 0, .float .f32 0, .float .f32 0]) rfl (by kernel_rfl) ?_)
            have B131 : w128.heap[w.heap.size]? = some (.cells #[.float .f32 0, .float .f32 0, .float .f32 0, .float .f32 0, .float .f32 0, .float .f32 0, .float .f32 0, .float .f32 0, .float .f32 0, .float .f32 0] 48 (0, 0)) := E128.heap B127
            refine da_op rfl (d_store (vs := #[.float .f32 0, .float .f32 0, .float .f32 0, .float .f32 0, .float .f32 0, .float .f32 0, .float .f32 0, .float .f32 0, .float .f32 0, .float .f32 0]) s2_87 rfl B131 size48 (Nat.le_of_ble_eq_true rfl) rfl fun w132 S132 => ?_)
            have X133 : Ext w w132 := Ext.step X129 S132.frmb (fun k _ hk => hk ▸ own2)
            have B134 : w132.heap[w.heap.size]? = some (.cells #[.float .f32 0, .float .f32 0, .float .f32 0, .float .f32 0, .float .f32 0, .float .f32 0, .float .f32 0, .float .f32 0, .float .f32 0, .float .f32 0] 48 (0, 0)) := S132.here
            refine da_op rfl (d_as (v := .bool false) rfl ?_)
            refine da_nil ?_
            refine W_ret ?_
            obtain rfl := Option.some.inj hr
            refine ⟨_, res2 (rv_cells (vs := #[.float .f32 0, .float .f32 0, .float .f32 0, .float .f32 0, .float .f32 0, .float .f32 0, .float .f32 0, .float .f32 0, .float .f32 0, .float .f32 0]) s2_87 agg48 size48 B134 rfl) (rv_tmp rfl), ?_⟩
            exact ⟨0, 0, 0, 0, 0, 0, 0, 0, 0, 0, rfl, cn_f32_0, cn_f32_0, cn_f32_0, cn_f32_0, cn_f32_0, cn_f32_0, cn_f32_0, cn_f32_0, cn_f32_0, cn_f32_0, X133⟩
          · skip
            replace hr := bif_f hr hc130
            refine W_skip ?_
            refine W_seq ?_
            refine W_region rfl ?_
            have B135 : w128.heap[z87_11_16b]? = some (.cells #[.float .f32 q19_0r0, .float .f32 q19_0r1, .float .f32 q19_0r2, .float .f32 z87_70_2r0, .float .f32 z87_70_5r0, .float .f32 z87_70_8r0, .float .f32 z87_70_11r0, .float .f32 q56_0r0, .float .f32 q56_0r1, .float .f32 q56_0r2] 48 (0, 0)) := E128.heap B125
            refine da_op rfl (d_loads (vs := #[.float .f32 q19_0r0, .float .f32 q19_0r1, .float .f32 q19_0r2, .float .f32 z87_70_2r0, .float .f32 z87_70_5r0, .float .f32 z87_70_8r0, .float .f32 z87_70_11r0, .float .f32 q56_0r0, .float .f32 q56_0r1, .float .f32 q56_0r2]) s11_87 agg48 size48 B135 rfl ?_)
            have B136 : w128.heap[w.heap.size]? = some (.cells #[.float .f32 0, .float .f32 0, .float .f32 0, .float .f32 0, .float .f32 0, .float .f32 0, .float .f32 0, .float .f32 0, .float .f32 0, .float .f32 0] 48 (0, 0)) := E128.heap B127
            refine da_op rfl (d_store (vs := #[.float .f32 q19_0r0, .float .f32 q19_0r1, .float .f32 q19_0r2, .float .f32 z87_70_2r0, .float .f32 z87_70_5r0, .float .f32 z87_70_8r0, .float .f32 z87_70_11r0, .float .f32 q56_0r0, .float .f32 q56_0r1, .float .f32 q56_0r2]) s2_87 rfl B136 size48 (Nat.le_of_ble_eq_true rfl) rfl fun w137 S137 => ?_)
            have X138 : Ext w w137 := Ext.step X129 S137.frmb (fun k _ hk => hk ▸ own2)
            have B139 : w137.heap[w.heap.size]? = some (.cells #[.float .f32 q19_0r0, .float .f32 q19_0r1, .float .f32 q19_0r2, .float .f32 z87_70_2r0, .float .f32 z87_70_5r0, .float .f32 z87_70_8r0, .float .f32 z87_70_11r0, .float .f32 q56_0r0, .float .f32 q56_0r1, .float .f32 q56_0r2] 48 (0, 0)) := S137.here
            refine da_op rfl (d_as (v := .bool true) rfl ?_)
            refine da_nil ?_
            refine W_ret ?_
            obtain rfl := Option.some.inj hr
            refine ⟨_, res2 (rv_cells (vs := #[.float .f32 q19_0r0, .float .f32 q19_0r1, .float .f32 q19_0r2, .float .f32 z87_70_2r0, .float .f32 z87_70_5r0, .float .f32 z87_70_8r0, .float .f32 z87_70_11r0, .float .f32 q56_0r0, .float .f32 q56_0r1, .float .f32 q56_0r2]) s2_87 agg48 size48 B139 rfl) (rv_tmp rfl), ?_⟩
            exact ⟨q19_0r0, q19_0r1, q19_0r2, z87_70_2r0, z87_70_5r0, z87_70_8r0, z87_70_11r0, q56_0r0, q56_0r1, q56_0r2, rfl, q19_0h0, q19_0h1, q19_0h2, z87_70_2h0, z87_70_5h0, z87_70_8h0, z87_70_11h0, q56_0h0, q56_0h1, q56_0h2, X138⟩
set_option maxHeartbeats 4000000 in
theorem c26 (p0 : List UInt8) (r : STop × Bool) (w : World) (hr : M.spec_ReadTop p0 = some r)  :
    Calls Tryd.prog 26 #[.string (bs p0)] w fun e w' => ∃ q0r0 : Nat, ∃ q0r1 : Nat, ∃ q0r2 : Nat, ∃ q0r3 : Nat, ∃ q0r4 : Nat, ∃ q0r5 : Nat, ∃ q0r6 : Nat, ∃ q0r7 : Nat, ∃ q0r8 : Nat, ∃ q0r9 : Nat, e = .returned (.tuple #[.agg #[.float .f32 q0r0, .float .f32 q0r1, .float .f32 q0r2, .float .f32 q0r3, .float .f32 q0r4, .float .f32 q0r5, .float .f32 q0r6, .float .f32 q0r7, .float .f32 q0r8, .float .f32 q0r9], .bool r.2]) ∧ cn .f32 q0r0 = r.1.moments.x ∧ cn .f32 q0r1 = r.1.moments.y ∧ cn .f32 q0r2 = r.1.moments.z ∧ cn .f32 q0r3 = r.1.turn.w ∧ cn .f32 q0r4 = r.1.turn.x ∧ cn .f32 q0r5 = r.1.turn.y ∧ cn .f32 q0r6 = r.1.turn.z ∧ cn .f32 q0r7 = r.1.speed.x ∧ cn .f32 q0r8 = r.1.speed.y ∧ cn .f32 q0r9 = r.1.speed.z ∧ Ext w w' := by
  refine calls_of_W Tryd.func26 rfl (Nat.le_of_ble_eq_true rfl) ?_
  refine W_seq ?_
  refine W_region rfl ?_
  refine da_op rfl (d_alloc (cs := #[.float .f32 0, .float .f32 0, .float .f32 0, .float .f32 0, .float .f32 0, .float .f32 0, .float .f32 0, .float .f32 0, .float .f32 0, .float .f32 0]) zero48 rfl fun w1 B1 E1 => ?_)
  have own2 : w.heap.size ≤ w.heap.size := Nat.le_trans (Ext.refl w).size (Nat.le_refl _)
  have X3 : Ext w w1 := (Ext.refl w).trans E1
  refine da_op rfl (d_as (v := .bool false) rfl ?_)
  refine da_nil ?_
  refine W_seq ?_
  refine W_region rfl ?_
  refine da_op rfl (d_mv (v := .string (bs p0)) rfl ?_)
  obtain ⟨m4, hm4, hr⟩ := bind_out hr
  refine da_op rfl (d_cl (vs := [.string (bs p0)]) en65 (ac rfl rfl) rfl ?_)
  refine (c65 p0 m4 w1 hm4 ).mono ?_
  rintro _ w5 ⟨q5_0r0, q5_0r1, q5_0r2, q5_0r3, q5_0r4, q5_0r5, q5_0r6, q5_0r7, q5_0r8, q5_0r9, rfl, q5_0h0, q5_0h1, q5_0h2, q5_0h3, q5_0h4, q5_0h5, q5_0h6, q5_0h7, q5_0h8, q5_0h9, E5⟩
  refine ⟨_, rfl, ?_⟩
  have X6 : Ext w w5 := X3.trans E5
  refine da_op rfl (d_extract (v := .agg #[.float .f32 q5_0r0, .float .f32 q5_0r1, .float .f32 q5_0r2, .float .f32 q5_0r3, .float .f32 q5_0r4, .float .f32 q5_0r5, .float .f32 q5_0r6, .float .f32 q5_0r7, .float .f32 q5_0r8, .float .f32 q5_0r9]) rfl rfl ?_)
  refine da_op rfl (d_extract (v := .bool m4.2) rfl rfl ?_)
  have B7 : w5.heap[w.heap.size]? = some (.cells #[.float .f32 0, .float .f32 0, .float .f32 0, .float .f32 0, .float .f32 0, .float .f32 0, .float .f32 0, .float .f32 0, .float .f32 0, .float .f32 0] 48 (0, 0)) := E5.heap B1
  refine da_op rfl (d_store (vs := #[.float .f32 q5_0r0, .float .f32 q5_0r1, .float .f32 q5_0r2, .float .f32 q5_0r3, .float .f32 q5_0r4, .float .f32 q5_0r5, .float .f32 q5_0r6, .float .f32 q5_0r7, .float .f32 q5_0r8, .float .f32 q5_0r9]) rfl rfl B7 size48 (Nat.le_of_ble_eq_true rfl) rfl fun w8 S8 => ?_)
  have X9 : Ext w w8 := Ext.step X6 S8.frmb (fun k _ hk => hk ▸ own2)
  have B10 : w8.heap[w.heap.size]? = some (.cells #[.float .f32 q5_0r0, .float .f32 q5_0r1, .float .f32 q5_0r2, .float .f32 q5_0r3, .float .f32 q5_0r4, .float .f32 q5_0r5, .float .f32 q5_0r6, .float .f32 q5_0r7, .float .f32 q5_0r8, .float .f32 q5_0r9] 48 (0, 0)) := S8.here
  refine da_op rfl (d_as (v := .bool m4.2) rfl ?_)
  refine da_nil ?_
  refine W_ret ?_
  obtain rfl := Option.some.inj hr
  refine ⟨_, res2 (rv_cells (vs := #[.float .f32 q5_0r0, .float .f32 q5_0r1, .float .f32 q5_0r2, .float .f32 q5_0r3, .float .f32 q5_0r4, .float .f32 q5_0r5, .float .f32 q5_0r6, .float .f32 q5_0r7, .float .f32 q5_0r8, .float .f32 q5_0r9]) rfl agg48 size48 B10 rfl) (rv_tmp rfl), ?_⟩
  exact ⟨q5_0r0, q5_0r1, q5_0r2, q5_0r3, q5_0r4, q5_0r5, q5_0r6, q5_0r7, q5_0r8, q5_0r9, rfl, q5_0h0, q5_0h1, q5_0h2, q5_0h3, q5_0h4, q5_0h5, q5_0h6, q5_0h7, q5_0h8, q5_0h9, X9⟩
set_option maxHeartbeats 4000000 in
theorem c171_s3b (p0 : List UInt8) (r : Int) (w : World) (hr : M.strings_Count_s3b p0 = some r)  :
    Calls Tryd.prog 171 #[.string (bs p0), .string (bs ([59] : List UInt8))] w fun e w' => e = .returned (.int .i64 r) ∧ Ext w w' := by
  refine calls_of_W Tryd.func171 rfl (Nat.le_of_ble_eq_true rfl) ?_
  refine W_seq ?_
  refine W_region rfl ?_
  refine da_op rfl (d_as (v := .int .i64 0) rfl ?_)
  refine da_nil ?_
  refine W_seq ?_
  refine W_seq ?_
  refine W_region rfl ?_
  refine da_op rfl (d_mv (v := .string (bs ([59] : List UInt8))) rfl ?_)
  refine da_op rfl (d_slenL (n := 1) un9 rfl rfl ?_)
  refine da_op rfl (d_icmpL (b := false) cEql rfl rfl (by decide) ?_)
  refine da_nil ?_
  refine W_false rfl ?_
  refine W_skip ?_
  refine W_seq ?_
  refine W_seq ?_
  refine W_region rfl ?_
  refine da_op rfl (d_mv (v := .string (bs ([59] : List UInt8))) rfl ?_)
  refine da_op rfl (d_slenL (n := 1) un9 rfl rfl ?_)
  refine da_op rfl (d_icmpL (b := true) cEql rfl rfl (by decide) ?_)
  refine da_nil ?_
  refine W_true rfl ?_
  refine W_seq ?_
  refine W_region rfl ?_
  refine da_op rfl (d_mv (v := .string (bs p0)) rfl ?_)
  refine da_op rfl (d_mv (v := .string (bs ([59] : List UInt8))) rfl ?_)
  obtain ⟨m1, hm1, hr⟩ := bind_out hr
  refine da_op rfl (d_sidx un9 rfl rfl hm1 ?_)
  refine da_op rfl (d_scount ext198_0 ext198_1 ext198_2 (Option.isNone_iff_eq_none.1 ext198_3) ext198_4 rfl rfl rfl ?_)
  refine da_op rfl (d_as (v := .int .i64 (scount p0 m1)) rfl ?_)
  refine da_nil ?_
  refine W_ret ?_
  obtain rfl := Option.some.inj hr
  refine ⟨_, res1 (rv_tmp rfl), ?_⟩
  exact ⟨rfl, (Ext.refl w)⟩
set_option maxHeartbeats 4000000 in
theorem c117 (p0 : List UInt8) (p1 : Int) (r : Int) (w : World) (hr : M.internal_stringslite_IndexByte p0 p1 = r)  :
    Calls Tryd.prog 117 #[.string (bs p0), .int .u8 p1] w fun e w' => e = .returned (.int .i64 r) ∧ Ext w w' := by
  refine calls_of_W Tryd.func117 rfl (Nat.le_of_ble_eq_true rfl) ?_
  refine W_seq ?_
  refine W_region rfl ?_
  refine da_op rfl (d_as (v := .int .i64 0) rfl ?_)
  refine da_nil ?_
  refine W_seq ?_
  refine W_region rfl ?_
  refine da_op rfl (d_mv (v := .string (bs p0)) rfl ?_)
  refine da_op rfl (d_mv (v := .int .u8 p1) rfl ?_)
  refine da_op rfl (d_sfind ext168_0 ext168_1 ext168_2 (Option.isNone_iff_eq_none.1 ext168_3) ext168_4 rfl rfl rfl ?_)
  refine da_op rfl (d_as (v := .int .i64 (sfind p0 p1)) rfl ?_)
  refine da_nil ?_
  refine W_ret ?_
  subst hr
  refine ⟨_, res1 (rv_tmp rfl), ?_⟩
  exact ⟨rfl, (Ext.refl w)⟩
set_option maxHeartbeats 4000000 in
theorem c165_s3b (p0 : List UInt8) (r : Int) (w : World) (hr : M.internal_stringslite_Index_s3b p0 = some r)  :
    Calls Tryd.prog 165 #[.string (bs p0), .string (bs ([59] : List UInt8))] w fun e w' => e = .returned (.int .i64 r) ∧ Ext w w' := by
  refine calls_of_W Tryd.func165 rfl (Nat.le_of_ble_eq_true rfl) ?_
  refine W_seq ?_
  refine W_region rfl ?_
  refine da_op rfl (d_as (v := .int .i64 0) rfl ?_)
  refine da_nil ?_
  refine W_seq ?_
  refine W_region rfl ?_
  refine da_op rfl (d_mv (v := .string (bs ([59] : List UInt8))) rfl ?_)
  refine da_op rfl (d_slenL (n := 1) un9 rfl rfl ?_)
  refine da_op rfl (d_as (v := .int .i64 1) rfl ?_)
  refine da_nil ?_
  refine W_seq ?_
  refine W_block ?_
  refine W_seq ?_
  refine W_cut (fun σ' w' => σ' 16 = .bool (([59] : List UInt8) == p0) ∧ Ext w w') rfl ?_ ?_
  · skip
    clear hr
    refine da_op rfl (d_mv (v := .int .i64 1) rfl ?_)
    refine da_op rfl (d_icmpL (b := false) cEql rfl rfl (by decide) ?_)
    refine da_op rfl (d_mv (v := .bool false) rfl ?_)
    refine da_on rfl rfl (d_mv (v := .string (bs ([59] : List UInt8))) rfl ?_)
    refine da_on rfl rfl (d_mv (v := .string (bs p0)) rfl ?_)
    refine da_on rfl rfl (d_seq rfl rfl ?_)
    refine da_op rfl (d_pick (b := false) rfl ?_)
    refine da_op rfl (d_as (v := .bool (([59] : List UInt8) == p0)) rfl ?_)
    refine da_nil ?_
    exact ⟨rfl, (Ext.refl w)⟩
  · skip
    rintro σ1 w1 o1 ⟨s16_1, E1⟩
    have s0_1 : σ1 0 = .string (bs p0) := (o1 0 rfl).trans rfl
    have s1_1 : σ1 1 = .string (bs ([59] : List UInt8)) := (o1 1 rfl).trans rfl
    have s5_1 : σ1 5 = .int .i64 1 := (o1 5 rfl).trans rfl
    have X2 : Ext w w1 := (Ext.refl w).trans E1
    refine W_cond (b := (([59] : List UInt8) == p0)) s16_1 (fun hc3 => ?_) (fun hc3 => ?_)
    · skip
      replace hr := bif_t hr hc3
      refine W_seq ?_
      refine W_region rfl ?_
      refine da_op rfl (d_as (v := .int .i64 0) rfl ?_)
      refine da_nil ?_
      refine W_ret ?_
      obtain rfl := Option.some.inj hr
      refine ⟨_, res1 (rv_tmp rfl), ?_⟩
      exact ⟨rfl, X2⟩
    · skip
      replace hr := bif_f hr hc3
      refine W_seq ?_
      refine W_region rfl ?_
      refine da_op rfl (d_mv (v := .int .i64 1) s5_1 ?_)
      refine da_op rfl (d_icmpL (b := true) cEql rfl rfl (by decide) ?_)
      refine da_op rfl (d_as (v := .bool true) rfl ?_)
      refine da_nil ?_
      refine W_true rfl ?_
      refine W_seq ?_
      refine W_region rfl ?_
      refine da_op rfl (d_mv (v := .string (bs p0)) s0_1 ?_)
      refine da_op rfl (d_mv (v := .string (bs ([59] : List UInt8))) s1_1 ?_)
      obtain ⟨m4, hm4, hr⟩ := bind_out hr
      refine da_op rfl (d_sidx un9 rfl rfl hm4 ?_)
      obtain ⟨m5, hm5, hr⟩ := letv_out hr
      refine da_op rfl (d_cl (vs := [.string (bs p0), .int .u8 m4]) en117 (ac rfl (ac rfl rfl)) rfl ?_)
      refine (c117 p0 m4 m5 w1 hm5 ).mono ?_
      rintro _ w6 ⟨rfl, E6⟩
      refine ⟨_, rfl, ?_⟩
      have X7 : Ext w w6 := X2.trans E6
      refine da_op rfl (d_as (v := .int .i64 m5) rfl ?_)
      refine da_nil ?_
      refine W_ret ?_
      obtain rfl := Option.some.inj hr
      refine ⟨_, res1 (rv_tmp rfl), ?_⟩
      exact ⟨rfl, X7⟩
set_option maxHeartbeats 4000000 in
theorem c113_s3b (p0 : List UInt8) (r : Int) (w : World) (hr : M.strings_Index_s3b p0 = some r)  :
    Calls Tryd.prog 113 #[.string (bs p0), .string (bs ([59] : List UInt8))] w fun e w' => e = .returned (.int .i64 r) ∧ Ext w w' := by
  refine calls_of_W Tryd.func113 rfl (Nat.le_of_ble_eq_true rfl) ?_
  refine W_seq ?_
  refine W_region rfl ?_
  refine da_op rfl (d_as (v := .int .i64 0) rfl ?_)
  refine da_nil ?_
  refine W_seq ?_
  refine W_region rfl ?_
  refine da_op rfl (d_mv (v := .string (bs p0)) rfl ?_)
  refine da_op rfl (d_mv (v := .string (bs ([59] : List UInt8))) rfl ?_)
  obtain ⟨m1, hm1, hr⟩ := bind_out hr
  refine da_op rfl (d_cl (vs := [.string (bs p0), .string (bs ([59] : List UInt8))]) en165 (ac rfl (ac rfl rfl)) rfl ?_)
  refine (c165_s3b p0 m1 w hm1 ).mono ?_
  rintro _ w2 ⟨rfl, E2⟩
  refine ⟨_, rfl, ?_⟩
  have X3 : Ext w w2 := (Ext.refl w).trans E2
  refine da_op rfl (d_as (v := .int .i64 m1) rfl ?_)
  refine da_nil ?_
  refine W_ret ?_
  obtain rfl := Option.some.inj hr
  refine ⟨_, res1 (rv_tmp rfl), ?_⟩
  exact ⟨rfl, X3⟩
set_option maxHeartbeats 4000000 in
theorem c122_s3b_i64n0_i64m1 (p0 : List UInt8) (r : List (List UInt8)) (w : World) (hr : M.strings_genSplit_s3b_i64n0_i64m1 p0 = some r)  :
    Calls Tryd.prog 122 #[.string (bs p0), .string (bs ([59] : List UInt8)), .int .i64 0, .int .i64 (-1)] w fun e w' => ∃ q0a : Option Addr, ∃ q0n : Nat, ∃ q0c : Nat, e = .returned ((Value.slice q0a q0n q0c)) ∧ RS w' encS (Value.slice q0a q0n q0c) r ∧ (∀ k, (Value.slice q0a q0n q0c).ownBlock = some k → w.heap.size ≤ k) ∧ Ext w w' := by
  refine calls_of_W Tryd.func122 rfl (Nat.le_of_ble_eq_true rfl) ?_
  refine W_seq ?_
  refine W_region rfl ?_
  refine da_op rfl (d_as (v := .slice none 0 0) rfl ?_)
  refine da_nil ?_
  refine W_seq ?_
  refine W_seq ?_
  refine W_region rfl ?_
  refine da_op rfl (d_mv (v := .int .i64 (-1)) rfl ?_)
  refine da_op rfl (d_icmpL (b := false) cEql rfl rfl (by decide) ?_)
  refine da_nil ?_
  refine W_false rfl ?_
  refine W_skip ?_
  refine W_seq ?_
  refine W_seq ?_
  refine W_region rfl ?_
  refine da_op rfl (d_mv (v := .string (bs ([59] : List UInt8))) rfl ?_)
  refine da_op rfl (d_seqL (b := false) rfl rfl (by decide) ?_)
  refine da_nil ?_
  refine W_false rfl ?_
  refine W_skip ?_
  refine W_seq ?_
  refine W_seq ?_
  refine W_region rfl ?_
  refine da_op rfl (d_mv (v := .int .i64 (-1)) rfl ?_)
  refine da_op rfl (d_icmpL (b := true) cLss rfl rfl (by decide) ?_)
  refine da_nil ?_
  refine W_true rfl ?_
  refine W_region rfl ?_
  refine da_op rfl (d_mv (v := .string (bs p0)) rfl ?_)
  refine da_op rfl (d_mv (v := .string (bs ([59] : List UInt8))) rfl ?_)
  obtain ⟨m1, hm1, hr⟩ := bind_out hr
  refine da_op rfl (d_cl (vs := [.string (bs p0), .string (bs ([59] : List UInt8))]) en171 (ac rfl (ac rfl rfl)) rfl ?_)
  refine (c171_s3b p0 m1 w hm1 ).mono ?_
  rintro _ w2 ⟨rfl, E2⟩
  refine ⟨_, rfl, ?_⟩
  have X3 : Ext w w2 := (Ext.refl w).trans E2
  refine da_op rfl (d_iarith rfl rfl (.inl ⟨rfl, rfl⟩) ?_)
  refine da_op rfl (d_as (v := .int .i64 (IntKind.i64.wrap (m1 + 1))) rfl ?_)
  refine da_nil ?_
  refine W_seq ?_
  refine W_region rfl ?_
  refine da_op rfl (d_mv (v := .int .i64 (IntKind.i64.wrap (m1 + 1))) rfl ?_)
  refine da_op rfl (d_mv (v := .string (bs p0)) rfl ?_)
  refine da_op rfl (d_slen un9 rfl ?_)
  refine da_op rfl (d_iarith rfl rfl (.inl ⟨rfl, rfl⟩) ?_)
  refine da_op rfl (d_min rfl rfl ?_)
  refine da_op rfl (d_as (v := .int .i64 (imin (IntKind.i64.wrap (m1 + 1)) (IntKind.i64.wrap (((p0).length : Int) + 1)))) rfl ?_)
  refine da_nil ?_
  refine W_seq ?_
  refine W_region rfl ?_
  refine da_op rfl (d_mv (v := .int .i64 (imin (IntKind.i64.wrap (m1 + 1)) (IntKind.i64.wrap (((p0).length : Int) + 1)))) rfl ?_)
  obtain ⟨m4, hm4, hr⟩ := bind_out hr
  refine da_op rfl (d_make (e := encS) un34 info9 rfl (by kernel_rfl) (by kernel_rfl) (by decide) (by decide) rfl rfl hm4 fun v5 w5 O5 E5 fr5 => ?_)
  obtain ⟨v5pa, v5pn, v5pc, rfl⟩ := O5.vals
  have own5 : ∀ k, (Value.slice v5pa v5pn v5pc).ownBlock = some k → w.heap.size ≤ k := fun k hk => Nat.le_trans X3.size (fr5 k hk)
  have X6 : Ext w w5 := X3.trans E5
  refine da_op rfl (d_as (v := (Value.slice v5pa v5pn v5pc)) rfl ?_)
  refine da_nil ?_
  refine W_seq ?_
  refine W_region rfl ?_
  refine da_op rfl (d_mv (v := .int .i64 (imin (IntKind.i64.wrap (m1 + 1)) (IntKind.i64.wrap (((p0).length : Int) + 1)))) rfl ?_)
  refine da_op rfl (d_iarith rfl rfl (.inr (.inl ⟨rfl, rfl⟩)) ?_)
  refine da_op rfl (d_as (v := .int .i64 (IntKind.i64.wrap ((imin (IntKind.i64.wrap (m1 + 1)) (IntKind.i64.wrap (((p0).length : Int) + 1))) - 1))) rfl ?_)
  refine da_nil ?_
  refine W_seq ?_
  refine W_region rfl ?_
  refine da_op rfl (d_as (v := .int .i64 0) rfl ?_)
  refine da_nil ?_
  refine W_seq ?_
  refine W_block ?_
  obtain ⟨m7, hm7, hr⟩ := bind_out hr
  refine W_loopM hm7 (fun (s7 : List UInt8 × Int × List (List UInt8)) σ w' => σ 0 = .string (bs s7.1) ∧ σ 10 = .int .i64 s7.2.1 ∧ σ 1 = .string (bs ([59] : List UInt8)) ∧ σ 2 = .int .i64 0 ∧ σ 3 = .int .i64 (IntKind.i64.wrap ((imin (IntKind.i64.wrap (m1 + 1)) (IntKind.i64.wrap (((p0).length : Int) + 1))) - 1)) ∧ σ 9 = (Value.slice v5pa v5pn v5pc) ∧ OS w' 9 encS (Value.slice v5pa v5pn v5pc) s7.2.2 ∧ Ext w w') (fun (e7 : (List UInt8 × Int × List (List UInt8))) ex σ w' => ex = .exit 0 ∧ σ 0 = .string (bs e7.1) ∧ σ 10 = .int .i64 e7.2.1 ∧ σ 9 = (Value.slice v5pa v5pn v5pc) ∧ OS w' 9 encS (Value.slice v5pa v5pn v5pc) e7.2.2 ∧ Ext w w') ⟨rfl, rfl, rfl, rfl, rfl, rfl, O5, X6⟩ ?_ ?_
  · skip
    rintro s7 σl7 wl7 r7l ⟨i7_S0, i7_S10, i7_S1, i7_S2, i7_S3, i7_S9, i7_2R, i7_X⟩ hr
    refine W_seq ?_
    refine W_seq ?_
    refine W_region rfl ?_
    refine da_op rfl (d_mv (v := .int .i64 s7.2.1) i7_S10 ?_)
    refine da_op rfl (d_mv (v := .int .i64 (IntKind.i64.wrap ((imin (IntKind.i64.wrap (m1 + 1)) (IntKind.i64.wrap (((p0).length : Int) + 1))) - 1))) i7_S3 ?_)
    refine da_op rfl (d_icmp cLss rfl rfl ?_)
    refine da_nil ?_
    refine W_cond (b := (icmp .lss s7.2.1 (IntKind.i64.wrap ((imin (IntKind.i64.wrap (m1 + 1)) (IntKind.i64.wrap (((p0).length : Int) + 1))) - 1)))) rfl (fun hc8 => ?_) (fun hc8 => ?_)
    · skip
      replace hr := bif_t hr hc8
      refine W_skip ?_
      refine W_block ?_
      refine W_seq ?_
      refine W_region rfl ?_
      refine da_op rfl (d_mv (v := .string (bs s7.1)) i7_S0 ?_)
      refine da_op rfl (d_mv (v := .string (bs ([59] : List UInt8))) i7_S1 ?_)
      obtain ⟨m9, hm9, hr⟩ := bind_out hr
      refine da_op rfl (d_cl (vs := [.string (bs s7.1), .string (bs ([59] : List UInt8))]) en113 (ac rfl (ac rfl rfl)) rfl ?_)
      refine (c113_s3b s7.1 m9 wl7 hm9 ).mono ?_
      rintro _ w10 ⟨rfl, E10⟩
      refine ⟨_, rfl, ?_⟩
      have X11 : Ext w w10 := i7_X.trans E10
      refine da_op rfl (d_as (v := .int .i64 m9) rfl ?_)
      refine da_nil ?_
      refine W_seq ?_
      refine W_seq ?_
      refine W_region rfl ?_
      refine da_op rfl (d_mv (v := .int .i64 m9) rfl ?_)
      refine da_op rfl (d_icmp cLss rfl rfl ?_)
      refine da_nil ?_
      refine W_cond (b := (icmp .lss m9 0)) rfl (fun hc12 => ?_) (fun hc12 => ?_)
      · skip
        replace hr := bif_t hr hc12
        refine W_exit ?_
        have B13 : OS w10 9 encS (Value.slice v5pa v5pn v5pc) s7.2.2 := i7_2R.ext E10
        obtain rfl := Option.some.inj hr
        exact ⟨_, rfl, rfl, i7_S0, i7_S10, i7_S9, B13, X11⟩
      · skip
        replace hr := bif_f hr hc12
        refine W_skip ?_
        refine W_seq ?_
        refine W_region rfl ?_
        refine da_op rfl (d_mv (v := (Value.slice v5pa v5pn v5pc)) i7_S9 ?_)
        refine da_op rfl (d_mv (v := .int .i64 s7.2.1) i7_S10 ?_)
        refine da_op rfl (d_mv (v := .string (bs s7.1)) i7_S0 ?_)
        refine da_op rfl (d_mv (v := .int .i64 m9) rfl ?_)
        refine da_op rfl (d_mv (v := .int .i64 0) i7_S2 ?_)
        refine da_op rfl (d_iarith rfl rfl (.inl ⟨rfl, rfl⟩) ?_)
        obtain ⟨m14, hm14, hr⟩ := bind_out hr
        refine da_op rfl (d_ssub (a := 0) (b := (IntKind.i64.wrap (m9 + 0))) un9 rfl (.inl ⟨rfl, rfl⟩) (.inr ⟨_, _, rfl, rfl⟩) hm14 ?_)
        obtain ⟨m15, hm15, hr⟩ := bind_out hr
        have B17 : OS w10 9 encS (Value.slice v5pa v5pn v5pc) s7.2.2 := i7_2R.ext E10
        refine da_op rfl (d_indexO (e := encS) (v := (Value.slice v5pa v5pn v5pc)) un34 size9 rfl rfl B17 hm15 fun g16 fr16 cu16 vs16 hv16 hg16 hp16 hq16 => ?_)
        obtain rfl := dec_encS hq16
        refine da_op rfl (d_store_elem (e := encS) (i := s7.2.1) (k := 0) (old := [.string (bs m15)]) (vs := #[.string (bs m14)]) (new := [.string (bs m14)]) (x2 := m14) rfl rfl hv16 B17 hg16 hp16 hm15 size9 (by kernel_rfl) (Nat.le_of_ble_eq_true rfl) rfl rfl (lc_v rfl rfl) rfl fun w18 S18 O19 => ?_)
        have X20 : Ext w w18 := Ext.step X11 S18.frmb (fun k _ hk => own5 k (by rw [hv16, hk]; rfl))
        refine da_nil ?_
        refine W_seq ?_
        refine W_region rfl ?_
        refine da_op rfl (d_mv (v := .string (bs s7.1)) i7_S0 ?_)
        refine da_op rfl (d_mv (v := .int .i64 m9) rfl ?_)
        refine da_op rfl (d_mv (v := .string (bs ([59] : List UInt8))) i7_S1 ?_)
        refine da_op rfl (d_slenL (n := 1) un9 rfl rfl ?_)
        refine da_op rfl (d_iarith rfl rfl (.inl ⟨rfl, rfl⟩) ?_)
        obtain ⟨m21, hm21, hr⟩ := bind_out hr
        refine da_op rfl (d_ssub (a := (IntKind.i64.wrap (m9 + 1))) (b := ((s7.1).length : Int)) un9 rfl (.inr ⟨_, _, rfl, rfl⟩) (.inl ⟨rfl, rfl⟩) hm21 ?_)
        refine da_op rfl (d_as (v := .string (bs m21)) rfl ?_)
        refine da_nil ?_
        refine W_region rfl ?_
        refine da_op rfl (d_mv (v := .int .i64 s7.2.1) i7_S10 ?_)
        refine da_op rfl (d_iarith rfl rfl (.inl ⟨rfl, rfl⟩) ?_)
        refine da_op rfl (d_as (v := .int .i64 (IntKind.i64.wrap (s7.2.1 + 1))) rfl ?_)
        refine da_nil ?_
        obtain rfl := Option.some.inj hr
        exact ⟨_, rfl, ⟨rfl, rfl, i7_S1, i7_S2, i7_S3, i7_S9, O19, X20⟩⟩
    · skip
      replace hr := bif_f hr hc8
      refine W_exit ?_
      obtain rfl := Option.some.inj hr
      exact ⟨_, rfl, rfl, i7_S0, i7_S10, i7_S9, i7_2R, i7_X⟩
  · skip
    intro ex σx7 wx7 hq
    obtain ⟨rfl, q7_0_S0, q7_0_S10, q7_0_S9, q7_0_2R, q7_0_X⟩ := hq
    refine W_seq ?_
    refine W_region rfl ?_
    refine da_op rfl (d_mv (v := (Value.slice v5pa v5pn v5pc)) q7_0_S9 ?_)
    refine da_op rfl (d_mv (v := .int .i64 m7.2.1) q7_0_S10 ?_)
    refine da_op rfl (d_mv (v := .string (bs m7.1)) q7_0_S0 ?_)
    obtain ⟨m22, hm22, hr⟩ := bind_out hr
    refine da_op rfl (d_indexO (e := encS) (v := (Value.slice v5pa v5pn v5pc)) un34 size9 rfl rfl q7_0_2R hm22 fun g23 fr23 cu23 vs23 hv23 hg23 hp23 hq23 => ?_)
    obtain rfl := dec_encS hq23
    refine da_op rfl (d_store_elem (e := encS) (i := m7.2.1) (k := 0) (old := [.string (bs m22)]) (vs := #[.string (bs m7.1)]) (new := [.string (bs m7.1)]) (x2 := m7.1) rfl rfl hv23 q7_0_2R hg23 hp23 hm22 size9 (by kernel_rfl) (Nat.le_of_ble_eq_true rfl) rfl rfl (lc_v rfl rfl) rfl fun w24 S24 O25 => ?_)
    have X26 : Ext w w24 := Ext.step q7_0_X S24.frmb (fun k _ hk => own5 k (by rw [hv23, hk]; rfl))
    refine da_nil ?_
    refine W_seq ?_
    refine W_region rfl ?_
    refine da_op rfl (d_mv (v := (Value.slice v5pa v5pn v5pc)) q7_0_S9 ?_)
    refine da_op rfl (d_mv (v := .int .i64 m7.2.1) q7_0_S10 ?_)
    refine da_op rfl (d_iarith rfl rfl (.inl ⟨rfl, rfl⟩) ?_)
    obtain ⟨m27, hm27, hr⟩ := bind_out hr
    refine da_op rfl (d_lsub (e := encS) (v := (Value.slice v5pa v5pn v5pc)) (a := 0) (b := (IntKind.i64.wrap (m7.2.1 + 1))) un34 size9 rfl O25.rs (.inl ⟨rfl, rfl⟩) (.inr ⟨_, _, rfl, rfl⟩) hm27 fun v28 R28 L28 => ?_)
    obtain ⟨v28pa, v28pn, v28pc, rfl⟩ := R28.vals
    refine da_op rfl (d_as (v := (Value.slice v28pa v28pn v28pc)) rfl ?_)
    refine da_nil ?_
    refine W_ret ?_
    obtain rfl := Option.some.inj hr
    refine ⟨_, res1 (rv_tmp rfl), ?_⟩
    exact ⟨v28pa, v28pn, v28pc, rfl, R28, (fun k hk => own5 k (L28 k hk)), X26⟩
set_option maxHeartbeats 4000000 in
theorem c66_s3b (p0 : List UInt8) (r : List (List UInt8)) (w : World) (hr : M.strings_Split_s3b p0 = some r)  :
    Calls Tryd.prog 66 #[.string (bs p0), .string (bs ([59] : List UInt8))] w fun e w' => ∃ q0a : Option Addr, ∃ q0n : Nat, ∃ q0c : Nat, e = .returned ((Value.slice q0a q0n q0c)) ∧ RS w' encS (Value.slice q0a q0n q0c) r ∧ (∀ k, (Value.slice q0a q0n q0c).ownBlock = some k → w.heap.size ≤ k) ∧ Ext w w' := by
  refine calls_of_W Tryd.func66 rfl (Nat.le_of_ble_eq_true rfl) ?_
  refine W_seq ?_
  refine W_region rfl ?_
  refine da_op rfl (d_as (v := .slice none 0 0) rfl ?_)
  refine da_nil ?_
  refine W_seq ?_
  refine W_region rfl ?_
  refine da_op rfl (d_mv (v := .string (bs p0)) rfl ?_)
  refine da_op rfl (d_mv (v := .string (bs ([59] : List UInt8))) rfl ?_)
  obtain ⟨m1, hm1, hr⟩ := bind_out hr
  refine da_op rfl (d_cl (vs := [.string (bs p0), .string (bs ([59] : List UInt8)), .int .i64 0, .int .i64 (-1)]) en122 (ac rfl (ac rfl (ac rfl (ac rfl rfl)))) rfl ?_)
  refine (c122_s3b_i64n0_i64m1 p0 m1 w hm1 ).mono ?_
  rintro _ w2 ⟨q2_0a, q2_0n, q2_0c, rfl, q2_0R, q2_0F, E2⟩
  refine ⟨_, rfl, ?_⟩
  have own3 : ∀ k, (Value.slice q2_0a q2_0n q2_0c).ownBlock = some k → w.heap.size ≤ k := fun k hk => Nat.le_trans (Ext.refl w).size (q2_0F k hk)
  have X4 : Ext w w2 := (Ext.refl w).trans E2
  refine da_op rfl (d_as (v := (Value.slice q2_0a q2_0n q2_0c)) rfl ?_)
  refine da_nil ?_
  refine W_ret ?_
  obtain rfl := Option.some.inj hr
  refine ⟨_, res1 (rv_tmp rfl), ?_⟩
  exact ⟨q2_0a, q2_0n, q2_0c, rfl, q2_0R, own3, X4⟩
set_option maxHeartbeats 4000000 in
theorem c171_s2c (p0 : List UInt8) (r : Int) (w : World) (hr : M.strings_Count_s2c p0 = some r)  :
    Calls Tryd.prog 171 #[.string (bs p0), .string (bs ([44] : List UInt8))] w fun e w' => e = .returned (.int .i64 r) ∧ Ext w w' := by
  refine calls_of_W Tryd.func171 rfl (Nat.le_of_ble_eq_true rfl) ?_
  refine W_seq ?_
  refine W_region rfl ?_
  refine da_op rfl (d_as (v := .int .i64 0) rfl ?_)
  refine da_nil ?_
  refine W_seq ?_
  refine W_seq ?_
  refine W_region rfl ?_
  refine da_op rfl (d_mv (v := .string (bs ([44] : List UInt8))) rfl ?_)
  refine da_op rfl (d_slenL (n := 1) un9 rfl rfl ?_)
  refine da_op rfl (d_icmpL (b := false) cEql rfl rfl (by decide) ?_)
  refine da_nil ?_
  refine W_false rfl ?_
  refine W_skip ?_
  refine W_seq ?_
  refine W_seq ?_
  refine W_region rfl ?_
  refine da_op rfl (d_mv (v := .string (bs ([44] : List UInt8))) rfl ?_)
  refine da_op rfl (d_slenL (n := 1) un9 rfl rfl ?_)
  refine da_op rfl (d_icmpL (b := true) cEql rfl rfl (by decide) ?_)
  refine da_nil ?_
  refine W_true rfl ?_
  refine W_seq ?_
  refine W_region rfl ?_
  refine da_op rfl (d_mv (v := .string (bs p0)) rfl ?_)
  refine da_op rfl (d_mv (v := .string (bs ([44] : List UInt8))) rfl ?_)
  obtain ⟨m1, hm1, hr⟩ := bind_out hr
  refine da_op rfl (d_sidx un9 rfl rfl hm1 ?_)
  refine da_op rfl (d_scount ext198_0 ext198_1 ext198_2 (Option.isNone_iff_eq_none.1 ext198_3) ext198_4 rfl rfl rfl ?_)
  refine da_op rfl (d_as (v := .int .i64 (scount p0 m1)) rfl ?_)
  refine da_nil ?_
  refine W_ret ?_
  obtain rfl := Option.some.inj hr
  refine ⟨_, res1 (rv_tmp rfl), ?_⟩
  exact ⟨rfl, (Ext.refl w)⟩
set_option maxHeartbeats 4000000 in
theorem c165_s2c (p0 : List UInt8) (r : Int) (w : World) (hr : M.internal_stringslite_Index_s2c p0 = some r)  :
    Calls Tryd.prog 165 #[.string (bs p0), .string (bs ([44] : List UInt8))] w fun e w' => e = .returned (.int .i64 r) ∧ Ext w w' := by
  refine calls_of_W Tryd.func165 rfl (Nat.le_of_ble_eq_true rfl) ?_
  refine W_seq ?_
  refine W_region rfl ?_
  refine da_op rfl (d_as (v := .int .i64 0) rfl ?_)
  refine da_nil ?_
  refine W_seq ?_
  refine W_region rfl ?_
  refine da_op rfl (d_mv (v := .string (bs ([44] : List UInt8))) rfl ?_)
  refine da_op rfl (d_slenL (n := 1) un9 rfl rfl ?_)
  refine da_op rfl (d_as (v := .int .i64 1) rfl ?_)
  refine da_nil ?_
  refine W_seq ?_
  refine W_block ?_
  refine W_seq ?_
  refine W_cut (fun σ' w' => σ' 16 = .bool (([44] : List UInt8) == p0) ∧ Ext w w') rfl ?_ ?_
  · skip
    clear hr
    refine da_op rfl (d_mv (v := .int .i64 1) rfl ?_)
    refine da_op rfl (d_icmpL (b := false) cEql rfl rfl (by decide) ?_)
    refine da_op rfl (d_mv (v := .bool false) rfl ?_)
    refine da_on rfl rfl (d_mv (v := .string (bs ([44] : List UInt8))) rfl ?_)
    refine da_on rfl rfl (d_mv (v := .string (bs p0)) rfl ?_)
    refine da_on rfl rfl (d_seq rfl rfl ?_)
    refine da_op rfl (d_pick (b := false) rfl ?_)
    refine da_op rfl (d_as (v := .bool (([44] : List UInt8) == p0)) rfl ?_)
    refine da_nil ?_
    exact ⟨rfl, (Ext.refl w)⟩
  · skip
    rintro σ1 w1 o1 ⟨s16_1, E1⟩
    have s0_1 : σ1 0 = .string (bs p0) := (o1 0 rfl).trans rfl
    have s1_1 : σ1 1 = .string (bs ([44] : List UInt8)) := (o1 1 rfl).trans rfl
    have s5_1 : σ1 5 = .int .i64 1 := (o1 5 rfl).trans rfl
    have X2 : Ext w w1 := (Ext.refl w).trans E1
    refine W_cond (b := (([44] : List UInt8) == p0)) s16_1 (fun hc3 => ?_) (fun hc3 => ?_)
    · skip
      replace hr := bif_t hr hc3
      refine W_seq ?_
      refine W_region rfl ?_
      refine da_op rfl (d_as (v := .int .i64 0) rfl ?_)
      refine da_nil ?_
      refine W_ret ?_
      obtain rfl := Option.some.inj hr
      refine ⟨_, res1 (rv_tmp rfl), ?_⟩
      exact ⟨rfl, X2⟩
    · skip
      replace hr := bif_f hr hc3
      refine W_seq ?_
      refine W_region rfl ?_
      refine da_op rfl (d_mv (v := .int .i64 1) s5_1 ?_)
      refine da_op rfl (d_icmpL (b := true) cEql rfl rfl (by decide) ?_)
      refine da_op rfl (d_as (v := .bool true) rfl ?_)
      refine da_nil ?_
      refine W_true rfl ?_
      refine W_seq ?_
      refine W_region rfl ?_
      refine da_op rfl (d_mv (v := .string (bs p0)) s0_1 ?_)
      refine da_op rfl (d_mv (v := .string (bs ([44] : List UInt8))) s1_1 ?_)
      obtain ⟨m4, hm4, hr⟩ := bind_out hr
      refine da_op rfl (d_sidx un9 rfl rfl hm4 ?_)
      obtain ⟨m5, hm5, hr⟩ := letv_out hr
      refine da_op rfl (d_cl (vs := [.string (bs p0), .int .u8 m4]) en117 (ac rfl (ac rfl rfl)) rfl ?_)
      refine (c117 p0 m4 m5 w1 hm5 ).mono ?_
      rintro _ w6 ⟨rfl, E6⟩
      refine ⟨_, rfl, ?_⟩
      have X7 : Ext w w6 := X2.trans E6
      refine da_op rfl (d_as (v := .int .i64 m5) rfl ?_)
      refine da_nil ?_
      refine W_ret ?_
      obtain rfl := Option.some.inj hr
      refine ⟨_, res1 (rv_tmp rfl), ?_⟩
      exact ⟨rfl, X7⟩
set_option maxHeartbeats 4000000 in
theorem c113_s2c (p0 : List UInt8) (r : Int) (w : World) (hr : M.strings_Index_s2c p0 = some r)  :
    Calls Tryd.prog 113 #[.string (bs p0), .string (bs ([44] : List UInt8))] w fun e w' => e = .returned (.int .i64 r) ∧ Ext w w' := by
  refine calls_of_W Tryd.func113 rfl (Nat.le_of_ble_eq_true rfl) ?_
  refine W_seq ?_
  refine W_region rfl ?_
  refine da_op rfl (d_as (v := .int .i64 0) rfl ?_)
  refine da_nil ?_
  refine W_seq ?_
  refine W_region rfl ?_
  refine da_op rfl (d_mv (v := .string (bs p0)) rfl ?_)
  refine da_op rfl (d_mv (v := .string (bs ([44] : List UInt8))) rfl ?_)
  obtain ⟨m1, hm1, hr⟩ := bind_out hr
  refine da_op rfl (d_cl (vs := [.string (bs p0), .string (bs ([44] : List UInt8))]) en165 (ac rfl (ac rfl rfl)) rfl ?_)
  refine (c165_s2c p0 m1 w hm1 ).mono ?_
  rintro _ w2 ⟨rfl, E2⟩
  refine ⟨_, rfl, ?_⟩
  have X3 : Ext w w2 := (Ext.refl w).trans E2
  refine da_op rfl (d_as (v := .int .i64 m1) rfl ?_)
  refine da_nil ?_
  refine W_ret ?_
  obtain rfl := Option.some.inj hr
  refine ⟨_, res1 (rv_tmp rfl), ?_⟩
  exact ⟨rfl, X3⟩
set_option maxHeartbeats 4000000 in
theorem c122_s2c_i64n0_i64m1 (p0 : List UInt8) (r : List (List UInt8)) (w : World) (hr : M.strings_genSplit_s2c_i64n0_i64m1 p0 = some r)  :
    Calls Tryd.prog 122 #[.string (bs p0), .string (bs ([44] : List UInt8)), .int .i64 0, .int .i64 (-1)] w fun e w' => ∃ q0a : Option Addr, ∃ q0n : Nat, ∃ q0c : Nat, e = .returned ((Value.slice q0a q0n q0c)) ∧ RS w' encS (Value.slice q0a q0n q0c) r ∧ (∀ k, (Value.slice q0a q0n q0c).ownBlock = some k → w.heap.size ≤ k) ∧ Ext w w' := by
  refine calls_of_W Tryd.func122 rfl (Nat.le_of_ble_eq_true rfl) ?_
  refine W_seq ?_
  refine W_region rfl ?_
  refine da_op rfl (d_as (v := .slice none 0 0) rfl ?_)
  refine da_nil ?_
  refine W_seq ?_
  refine W_seq ?_
  refine W_region rfl ?_
  refine da_op rfl (d_mv (v := .int .i64 (-1)) rfl ?_)
  refine da_op rfl (d_icmpL (b := false) cEql rfl rfl (by decide) ?_)
  refine da_nil ?_
  refine W_false rfl ?_
  refine W_skip ?_
  refine W_seq ?_
  refine W_seq ?_
  refine W_region rfl ?_
  refine da_op rfl (d_mv (v := .string (bs ([44] : List UInt8))) rfl ?_)
  refine da_op rfl (d_seqL (b := false) rfl rfl (by decide) ?_)
  refine da_nil ?_
  refine W_false rfl ?_
  refine W_skip ?_
  refine W_seq ?_
  refine W_seq ?_
  refine W_region rfl ?_
  refine da_op rfl (d_mv (v := .int .i64 (-1)) rfl ?_)
  refine da_op rfl (d_icmpL (b := true) cLss rfl rfl (by decide) ?_)
  refine da_nil ?_
  refine W_true rfl ?_
  refine W_region rfl ?_
  refine da_op rfl (d_mv (v := .string (bs p0)) rfl ?_)
  refine da_op rfl (d_mv (v := .string (bs ([44] : List UInt8))) rfl ?_)
  obtain ⟨m1, hm1, hr⟩ := bind_out hr
  refine da_op rfl (d_cl (vs := [.string (bs p0), .string (bs ([44] : List UInt8))]) en171 (ac rfl (ac rfl rfl)) rfl ?_)
  refine (c171_s2c p0 m1 w hm1 ).mono ?_
  rintro _ w2 ⟨rfl, E2⟩
  refine ⟨_, rfl, ?_⟩
  have X3 : Ext w w2 := (Ext.refl w).trans E2
  refine da_op rfl (d_iarith rfl rfl (.inl ⟨rfl, rfl⟩) ?_)
  refine da_op rfl (d_as (v := .int .i64 (IntKind.i64.wrap (m1 + 1))) rfl ?_)
  refine da_nil ?_
  refine W_seq ?_
  refine W_region rfl ?_
  refine da_op rfl (d_mv (v := .int .i64 (IntKind.i64.wrap (m1 + 1))) rfl ?_)
  refine da_op rfl (d_mv (v := .string (bs p0)) rfl ?_)
  refine da_op rfl (d_slen un9 rfl ?_)
  refine da_op rfl (d_iarith rfl rfl (.inl ⟨rfl, rfl⟩) ?_)
  refine da_op rfl (d_min rfl rfl ?_)
  refine da_op rfl (d_as (v := .int .i64 (imin (IntKind.i64.wrap (m1 + 1)) (IntKind.i64.wrap (((p0).length : Int) + 1)))) rfl ?_)
  refine da_nil ?_
  refine W_seq ?_
  refine W_region rfl ?_
  refine da_op rfl (d_mv (v := .int .i64 (imin (IntKind.i64.wrap (m1 + 1)) (IntKind.i64.wrap (((p0).length : Int) + 1)))) rfl ?_)
  obtain ⟨m4, hm4, hr⟩ := bind_out hr
  refine da_op rfl (d_make (e := encS) un34 info9 rfl (by kernel_rfl) (by kernel_rfl) (by decide) (by decide) rfl rfl hm4 fun v5 w5 O5 E5 fr5 => ?_)
  obtain ⟨v5pa, v5pn, v5pc, rfl⟩ := O5.vals
  have own5 : ∀ k, (Value.slice v5pa v5pn v5pc).ownBlock = some k → w.heap.size ≤ k := fun k hk => Nat.le_trans X3.size (fr5 k hk)
  have X6 : Ext w w5 := X3.trans E5
  refine da_op rfl (d_as (v := (Value.slice v5pa v5pn v5pc)) rfl ?_)
  refine da_nil ?_
  refine W_seq ?_
  refine W_region rfl ?_
  refine da_op rfl (d_mv (v := .int .i64 (imin (IntKind.i64.wrap (m1 + 1)) (IntKind.i64.wrap (((p0).length : Int) + 1)))) rfl ?_)
  refine da_op rfl (d_iarith rfl rfl (.inr (.inl ⟨rfl, rfl⟩)) ?_)
  refine da_op rfl (d_as (v := .int .i64 (IntKind.i64.wrap ((imin (IntKind.i64.wrap (m1 + 1)) (IntKind.i64.wrap (((p0).length : Int) + 1))) - 1))) rfl ?_)
  refine da_nil ?_
  refine W_seq ?_
  refine W_region rfl ?_
  refine da_op rfl (d_as (v := .int .i64 0) rfl ?_)
  refine da_nil ?_
  refine W_seq ?_
  refine W_block ?_
  obtain ⟨m7, hm7, hr⟩ := bind_out hr
  refine W_loopM hm7 (fun (s7 : List UInt8 × Int × List (List UInt8)) σ w' => σ 0 = .string (bs s7.1) ∧ σ 10 = .int .i64 s7.2.1 ∧ σ 1 = .string (bs ([44] : List UInt8)) ∧ σ 2 = .int .i64 0 ∧ σ 3 = .int .i64 (IntKind.i64.wrap ((imin (IntKind.i64.wrap (m1 + 1)) (IntKind.i64.wrap (((p0).length : Int) + 1))) - 1)) ∧ σ 9 = (Value.slice v5pa v5pn v5pc) ∧ OS w' 9 encS (Value.slice v5pa v5pn v5pc) s7.2.2 ∧ Ext w w') (fun (e7 : (List UInt8 × Int × List (List UInt8))) ex σ w' => ex = .exit 0 ∧ σ 0 = .string (bs e7.1) ∧ σ 10 = .int .i64 e7.2.1 ∧ σ 9 = (Value.slice v5pa v5pn v5pc) ∧ OS w' 9 encS (Value.slice v5pa v5pn v5pc) e7.2.2 ∧ Ext w w') ⟨rfl, rfl, rfl, rfl, rfl, rfl, O5, X6⟩ ?_ ?_
  · skip
    rintro s7 σl7 wl7 r7l ⟨i7_S0, i7_S10, i7_S1, i7_S2, i7_S3, i7_S9, i7_2R, i7_X⟩ hr
    refine W_seq ?_
    refine W_seq ?_
    refine W_region rfl ?_
    refine da_op rfl (d_mv (v := .int .i64 s7.2.1) i7_S10 ?_)
    refine da_op rfl (d_mv (v := .int .i64 (IntKind.i64.wrap ((imin (IntKind.i64.wrap (m1 + 1)) (IntKind.i64.wrap (((p0).length : Int) + 1))) - 1))) i7_S3 ?_)
    refine da_op rfl (d_icmp cLss rfl rfl ?_)
    refine da_nil ?_
    refine W_cond (b := (icmp .lss s7.2.1 (IntKind.i64.wrap ((imin (IntKind.i64.wrap (m1 + 1)) (IntKind.i64.wrap (((p0).length : Int) + 1))) - 1)))) rfl (fun hc8 => ?_) (fun hc8 => ?_)
    · skip
      replace hr := bif_t hr hc8
      refine W_skip ?_
      refine W_block ?_
      refine W_seq ?_
      refine W_region rfl ?_
      refine da_op rfl (d_mv (v := .string (bs s7.1)) i7_S0 ?_)
      refine da_op rfl (d_mv (v := .string (bs ([44] : List UInt8))) i7_S1 ?_)
      obtain ⟨m9, hm9, hr⟩ := bind_out hr
      refine da_op rfl (d_cl (vs := [.string (bs s7.1), .string (bs ([44] : List UInt8))]) en113 (ac rfl (ac rfl rfl)) rfl ?_)
      refine (c113_s2c s7.1 m9 wl7 hm9 ).mono ?_
      rintro _ w10 ⟨rfl, E10⟩
      refine ⟨_, rfl, ?_⟩
      have X11 : Ext w w10 := i7_X.trans E10
      refine da_op rfl (d_as (v := .int .i64 m9) rfl ?_)
      refine da_nil ?_
      refine W_seq ?_
      refine W_seq ?_
      refine W_region rfl ?_
      refine da_op rfl (d_mv (v := .int .i64 m9) rfl ?_)
      refine da_op rfl (d_icmp cLss rfl rfl ?_)
      refine da_nil ?_
      refine W_cond (b := (icmp .lss m9 0)) rfl (fun hc12 => ?_) (fun hc12 => ?_)
      · skip
        replace hr := bif_t hr hc12
        refine W_exit ?_
        have B13 : OS w10 9 encS (Value.slice v5pa v5pn v5pc) s7.2.2 := i7_2R.ext E10
        obtain rfl := Option.some.inj hr
        exact ⟨_, rfl, rfl, i7_S0, i7_S10, i7_S9, B13, X11⟩
      · skip
        replace hr := bif_f hr hc12
        refine W_skip ?_
        refine W_seq ?_
        refine W_region rfl ?_
        refine da_op rfl (d_mv (v := (Value.slice v5pa v5pn v5pc)) i7_S9 ?_)
        refine da_op rfl (d_mv (v := .int .i64 s7.2.1) i7_S10 ?_)
        refine da_op rfl (d_mv (v := .string (bs s7.1)) i7_S0 ?_)
        refine da_op rfl (d_mv (v := .int .i64 m9) rfl ?_)
        refine da_op rfl (d_mv (v := .int .i64 0) i7_S2 ?_)
        refine da_op rfl (d_iarith rfl rfl (.inl ⟨rfl, rfl⟩) ?_)
        obtain ⟨m14, hm14, hr⟩ := bind_out hr
        refine da_op rfl (d_ssub (a := 0) (b := (IntKind.i64.wrap (m9 + 0))) un9 rfl (.inl ⟨rfl, rfl⟩) (.inr ⟨_, _, rfl, rfl⟩) hm14 ?_)
        obtain ⟨m15, hm15, hr⟩ := bind_out hr
        have B17 : OS w10 9 encS (Value.slice v5pa v5pn v5pc) s7.2.2 := i7_2R.ext E10
        refine da_op rfl (d_indexO (e := encS) (v := (Value.slice v5pa v5pn v5pc)) un34 size9 rfl rfl B17 hm15 fun g16 fr16 cu16 vs16 hv16 hg16 hp16 hq16 => ?_)
        obtain rfl := dec_encS hq16
        refine da_op rfl (d_store_elem (e := encS) (i := s7.2.1) (k := 0) (old := [.string (bs m15)]) (vs := #[.string (bs m14)]) (new := [.string (bs m14)]) (x2 := m14) rfl rfl hv16 B17 hg16 hp16 hm15 size9 (by kernel_rfl) (Nat.le_of_ble_eq_true rfl) rfl rfl (lc_v rfl rfl) rfl fun w18 S18 O19 => ?_)
        have X20 : Ext w w18 := Ext.step X11 S18.frmb (fun k _ hk => own5 k (by rw [hv16, hk]; rfl))
        refine da_nil ?_
        refine W_seq ?_
        refine W_region rfl ?_
        refine da_op rfl (d_mv (v := .string (bs s7.1)) i7_S0 ?_)
        refine da_op rfl (d_mv (v := .int .i64 m9) rfl ?_)
        refine da_op rfl (d_mv (v := .string (bs ([44] : List UInt8))) i7_S1 ?_)
        refine da_op rfl (d_slenL (n := 1) un9 rfl rfl ?_)
        refine da_op rfl (d_iarith rfl rfl (.inl ⟨rfl, rfl⟩) ?_)
        obtain ⟨m21, hm21, hr⟩ := bind_out hr
        refine da_op rfl (d_ssub (a := (IntKind.i64.wrap (m9 + 1))) (b := ((s7.1).length : Int)) un9 rfl (.inr ⟨_, _, rfl, rfl⟩) (.inl ⟨rfl, rfl⟩) hm21 ?_)
        refine da_op rfl (d_as (v := .string (bs m21)) rfl ?_)
        refine da_nil ?_
        refine W_region rfl ?_
        refine da_op rfl (d_mv (v := .int .i64 s7.2.1) i7_S10 ?_)
        refine da_op rfl (d_iarith rfl rfl (.inl ⟨rfl, rfl⟩) ?_)
        refine da_op rfl (d_as (v := .int .i64 (IntKind.i64.wrap (s7.2.1 + 1))) rfl ?_)
        refine da_nil ?_
        obtain rfl := Option.some.inj hr
        exact ⟨_, rfl, ⟨rfl, rfl, i7_S1, i7_S2, i7_S3, i7_S9, O19, X20⟩⟩
    · skip
      replace hr := bif_f hr hc8
      refine W_exit ?_
      obtain rfl := Option.some.inj hr
      exact ⟨_, rfl, rfl, i7_S0, i7_S10, i7_S9, i7_2R, i7_X⟩
  · skip
    intro ex σx7 wx7 hq
    obtain ⟨rfl, q7_0_S0, q7_0_S10, q7_0_S9, q7_0_2R, q7_0_X⟩ := hq
    refine W_seq ?_
    refine W_region rfl ?_
    refine da_op rfl (d_mv (v := (Value.slice v5pa v5pn v5pc)) q7_0_S9 ?_)
    refine da_op rfl (d_mv (v := .int .i64 m7.2.1) q7_0_S10 ?_)
    refine da_op rfl (d_mv (v := .string (bs m7.1)) q7_0_S0 ?_)
    obtain ⟨m22, hm22, hr⟩ := bind_out hr
    refine da_op rfl (d_indexO (e := encS) (v := (Value.slice v5pa v5pn v5pc)) un34 size9 rfl rfl q7_0_2R hm22 fun g23 fr23 cu23 vs23 hv23 hg23 hp23 hq23 => ?_)
    obtain rfl := dec_encS hq23
    refine da_op rfl (d_store_elem (e := encS) (i := m7.2.1) (k := 0) (old := [.string (bs m22)]) (vs := #[.string (bs m7.1)]) (new := [.string (bs m7.1)]) (x2 := m7.1) rfl rfl hv23 q7_0_2R hg23 hp23 hm22 size9 (by kernel_rfl) (Nat.le_of_ble_eq_true rfl) rfl rfl (lc_v rfl rfl) rfl fun w24 S24 O25 => ?_)
    have X26 : Ext w w24 := Ext.step q7_0_X S24.frmb (fun k _ hk => own5 k (by rw [hv23, hk]; rfl))
    refine da_nil ?_
    refine W_seq ?_
    refine W_region rfl ?_
    refine da_op rfl (d_mv (v := (Value.slice v5pa v5pn v5pc)) q7_0_S9 ?_)
    refine da_op rfl (d_mv (v := .int .i64 m7.2.1) q7_0_S10 ?_)
    refine da_op rfl (d_iarith rfl rfl (.inl ⟨rfl, rfl⟩) ?_)
    obtain ⟨m27, hm27, hr⟩ := bind_out hr
    refine da_op rfl (d_lsub (e := encS) (v := (Value.slice v5pa v5pn v5pc)) (a := 0) (b := (IntKind.i64.wrap (m7.2.1 + 1))) un34 size9 rfl O25.rs (.inl ⟨rfl, rfl⟩) (.inr ⟨_, _, rfl, rfl⟩) hm27 fun v28 R28 L28 => ?_)
    obtain ⟨v28pa, v28pn, v28pc, rfl⟩ := R28.vals
    refine da_op rfl (d_as (v := (Value.slice v28pa v28pn v28pc)) rfl ?_)
    refine da_nil ?_
    refine W_ret ?_
    obtain rfl := Option.some.inj hr
    refine ⟨_, res1 (rv_tmp rfl), ?_⟩
    exact ⟨v28pa, v28pn, v28pc, rfl, R28, (fun k hk => own5 k (L28 k hk)), X26⟩
set_option maxHeartbeats 4000000 in
theorem c66_s2c (p0 : List UInt8) (r : List (List UInt8)) (w : World) (hr : M.strings_Split_s2c p0 = some r)  :
    Calls Tryd.prog 66 #[.string (bs p0), .string (bs ([44] : List UInt8))] w fun e w' => ∃ q0a : Option Addr, ∃ q0n : Nat, ∃ q0c : Nat, e = .returned ((Value.slice q0a q0n q0c)) ∧ RS w' encS (Value.slice q0a q0n q0c) r ∧ (∀ k, (Value.slice q0a q0n q0c).ownBlock = some k → w.heap.size ≤ k) ∧ Ext w w' := by
  refine calls_of_W Tryd.func66 rfl (Nat.le_of_ble_eq_true rfl) ?_
  refine W_seq ?_
  refine W_region rfl ?_
  refine da_op rfl (d_as (v := .slice none 0 0) rfl ?_)
  refine da_nil ?_
  refine W_seq ?_
  refine W_region rfl ?_
  refine da_op rfl (d_mv (v := .string (bs p0)) rfl ?_)
  refine da_op rfl (d_mv (v := .string (bs ([44] : List UInt8))) rfl ?_)
  obtain ⟨m1, hm1, hr⟩ := bind_out hr
  refine da_op rfl (d_cl (vs := [.string (bs p0), .string (bs ([44] : List UInt8)), .int .i64 0, .int .i64 (-1)]) en122 (ac rfl (ac rfl (ac rfl (ac rfl rfl)))) rfl ?_)
  refine (c122_s2c_i64n0_i64m1 p0 m1 w hm1 ).mono ?_
  rintro _ w2 ⟨q2_0a, q2_0n, q2_0c, rfl, q2_0R, q2_0F, E2⟩
  refine ⟨_, rfl, ?_⟩
  have own3 : ∀ k, (Value.slice q2_0a q2_0n q2_0c).ownBlock = some k → w.heap.size ≤ k := fun k hk => Nat.le_trans (Ext.refl w).size (q2_0F k hk)
  have X4 : Ext w w2 := (Ext.refl w).trans E2
  refine da_op rfl (d_as (v := (Value.slice q2_0a q2_0n q2_0c)) rfl ?_)
  refine da_nil ?_
  refine W_ret ?_
  obtain rfl := Option.some.inj hr
  refine ⟨_, res1 (rv_tmp rfl), ?_⟩
  exact ⟨q2_0a, q2_0n, q2_0c, rfl, q2_0R, own3, X4⟩
set_option maxHeartbeats 4000000 in
theorem c100 (p0 : List UInt8) (r : List (List UInt8)) (w : World) (hr : M.impl_parted p0 = some r)  :
    Calls Tryd.prog 100 #[.string (bs p0)] w fun e w' => ∃ q0a : Option Addr, ∃ q0n : Nat, ∃ q0c : Nat, e = .returned ((Value.slice q0a q0n q0c)) ∧ RS w' encS (Value.slice q0a q0n q0c) r ∧ (∀ k, (Value.slice q0a q0n q0c).ownBlock = some k → w.heap.size ≤ k) ∧ Ext w w' := by
  refine calls_of_W Tryd.func100 rfl (Nat.le_of_ble_eq_true rfl) ?_
  refine W_seq ?_
  refine W_region rfl ?_
  refine da_op rfl (d_as (v := .slice none 0 0) rfl ?_)
  refine da_nil ?_
  refine W_seq ?_
  refine W_seq ?_
  refine W_region rfl ?_
  refine da_op rfl (d_mv (v := .string (bs p0)) rfl ?_)
  refine da_op rfl (d_seq rfl rfl ?_)
  refine da_nil ?_
  refine W_cond (b := (p0 == ([110, 111, 110, 101] : List UInt8))) rfl (fun hc1 => ?_) (fun hc1 => ?_)
  · skip
    replace hr := bif_t hr hc1
    refine W_seq ?_
    refine W_region rfl ?_
    refine da_op rfl (d_as (v := .slice none 0 0) rfl ?_)
    refine da_nil ?_
    refine W_ret ?_
    obtain rfl := Option.some.inj hr
    refine ⟨_, res1 (rv_tmp rfl), ?_⟩
    exact ⟨none, 0, 0, rfl, (RS.nil _ encS), (fun k hk => by cases hk), (Ext.refl w)⟩
  · skip
    replace hr := bif_f hr hc1
    refine W_skip ?_
    refine W_seq ?_
    refine W_region rfl ?_
    refine da_op rfl (d_mv (v := .string (bs p0)) rfl ?_)
    obtain ⟨m2, hm2, hr⟩ := bind_out hr
    refine da_op rfl (d_cl (vs := [.string (bs p0), .string (bs ([44] : List UInt8))]) en66 (ac rfl (ac rfl rfl)) rfl ?_)
    refine (c66_s2c p0 m2 w hm2 ).mono ?_
    rintro _ w3 ⟨q3_0a, q3_0n, q3_0c, rfl, q3_0R, q3_0F, E3⟩
    refine ⟨_, rfl, ?_⟩
    have own4 : ∀ k, (Value.slice q3_0a q3_0n q3_0c).ownBlock = some k → w.heap.size ≤ k := fun k hk => Nat.le_trans (Ext.refl w).size (q3_0F k hk)
    have X5 : Ext w w3 := (Ext.refl w).trans E3
    refine da_op rfl (d_as (v := (Value.slice q3_0a q3_0n q3_0c)) rfl ?_)
    refine da_nil ?_
    refine W_ret ?_
    obtain rfl := Option.some.inj hr
    refine ⟨_, res1 (rv_tmp rfl), ?_⟩
    exact ⟨q3_0a, q3_0n, q3_0c, rfl, q3_0R, own4, X5⟩
set_option maxHeartbeats 4000000 in
theorem c117_s30313233343536373839616263646566 (p1 : Int) (r : Int) (w : World) (hr : M.internal_stringslite_IndexByte_s30313233343536373839616263646566 p1 = r)  :
    Calls Tryd.prog 117 #[.string (bs ([48, 49, 50, 51, 52, 53, 54, 55, 56, 57, 97, 98, 99, 100, 101, 102] : List UInt8)), .int .u8 p1] w fun e w' => e = .returned (.int .i64 r) ∧ Ext w w' := by
  refine calls_of_W Tryd.func117 rfl (Nat.le_of_ble_eq_true rfl) ?_
  refine W_seq ?_
  refine W_region rfl ?_
  refine da_op rfl (d_as (v := .int .i64 0) rfl ?_)
  refine da_nil ?_
  refine W_seq ?_
  refine W_region rfl ?_
  refine da_op rfl (d_mv (v := .string (bs ([48, 49, 50, 51, 52, 53, 54, 55, 56, 57, 97, 98, 99, 100, 101, 102] : List UInt8))) rfl ?_)
  refine da_op rfl (d_mv (v := .int .u8 p1) rfl ?_)
  refine da_op rfl (d_sfind ext168_0 ext168_1 ext168_2 (Option.isNone_iff_eq_none.1 ext168_3) ext168_4 rfl rfl rfl ?_)
  refine da_op rfl (d_as (v := .int .i64 (sfind ([48, 49, 50, 51, 52, 53, 54, 55, 56, 57, 97, 98, 99, 100, 101, 102] : List UInt8) p1)) rfl ?_)
  refine da_nil ?_
  refine W_ret ?_
  subst hr
  refine ⟨_, res1 (rv_tmp rfl), ?_⟩
  exact ⟨rfl, (Ext.refl w)⟩
set_option maxHeartbeats 4000000 in
theorem c62_s30313233343536373839616263646566 (p1 : Int) (r : Int) (w : World) (hr : M.strings_IndexByte_s30313233343536373839616263646566 p1 = r)  :
    Calls Tryd.prog 62 #[.string (bs ([48, 49, 50, 51, 52, 53, 54, 55, 56, 57, 97, 98, 99, 100, 101, 102] : List UInt8)), .int .u8 p1] w fun e w' => e = .returned (.int .i64 r) ∧ Ext w w' := by
  refine calls_of_W Tryd.func62 rfl (Nat.le_of_ble_eq_true rfl) ?_
  refine W_seq ?_
  refine W_region rfl ?_
  refine da_op rfl (d_as (v := .int .i64 0) rfl ?_)
  refine da_nil ?_
  refine W_seq ?_
  refine W_region rfl ?_
  refine da_op rfl (d_mv (v := .string (bs ([48, 49, 50, 51, 52, 53, 54, 55, 56, 57, 97, 98, 99, 100, 101, 102] : List UInt8))) rfl ?_)
  refine da_op rfl (d_mv (v := .int .u8 p1) rfl ?_)
  obtain ⟨m1, hm1, hr⟩ := letv_out hr
  refine da_op rfl (d_cl (vs := [.string (bs ([48, 49, 50, 51, 52, 53, 54, 55, 56, 57, 97, 98, 99, 100, 101, 102] : List UInt8)), .int .u8 p1]) en117 (ac rfl (ac rfl rfl)) rfl ?_)
  refine (c117_s30313233343536373839616263646566 p1 m1 w hm1 ).mono ?_
  rintro _ w2 ⟨rfl, E2⟩
  refine ⟨_, rfl, ?_⟩
  have X3 : Ext w w2 := (Ext.refl w).trans E2
  refine da_op rfl (d_as (v := .int .i64 m1) rfl ?_)
  refine da_nil ?_
  refine W_ret ?_
  subst hr
  refine ⟨_, res1 (rv_tmp rfl), ?_⟩
  exact ⟨rfl, X3⟩
set_option maxHeartbeats 4000000 in
theorem c103 (p0 : Int) (p1 : Int) (p2 : Int) (r : Bool) (w : World) (hr : M.impl_in p0 p1 p2 = r)  :
    Calls Tryd.prog 103 #[.int .i64 p0, .int .i64 p1, .int .i64 p2] w fun e w' => e = .returned (.bool r) ∧ Ext w w' := by
  refine calls_of_W Tryd.func103 rfl (Nat.le_of_ble_eq_true rfl) ?_
  refine W_seq ?_
  refine W_region rfl ?_
  refine da_op rfl (d_as (v := .bool false) rfl ?_)
  refine da_nil ?_
  refine W_seq ?_
  obtain ⟨m1, hm1, hr⟩ := letv_out hr
  refine W_cut (fun σ' w' => σ' 6 = .bool m1 ∧ Ext w w') rfl ?_ ?_
  · skip
    have hr := hm1
    refine da_op rfl (d_mv (v := .int .i64 p0) rfl ?_)
    refine da_op rfl (d_mv (v := .int .i64 p1) rfl ?_)
    refine da_op rfl (d_icmp cGeq rfl rfl ?_)
    refine da_op rfl (d_mv (v := .bool (icmp .geq p0 p1)) rfl ?_)
    rcases Bool.eq_false_or_eq_true (icmp .geq p0 p1) with hc2 | hc2
    · skip
      replace hr := bif_t hr hc2
      refine da_on rfl (Eq.trans (show sl _ _ _ = .bool (icmp .geq p0 p1) from rfl) (congrArg Value.bool hc2)) (d_mv (v := .int .i64 p0) rfl ?_)
      refine da_on rfl (Eq.trans (show sl _ _ _ = .bool (icmp .geq p0 p1) from rfl) (congrArg Value.bool hc2)) (d_mv (v := .int .i64 p2) rfl ?_)
      refine da_on rfl (Eq.trans (show sl _ _ _ = .bool (icmp .geq p0 p1) from rfl) (congrArg Value.bool hc2)) (d_icmp cLeq rfl rfl ?_)
      refine da_op rfl (d_pick (b := true) (Eq.trans (show ev _ _ = .bool (icmp .geq p0 p1) from rfl) (congrArg Value.bool hc2)) ?_)
      refine da_op rfl (d_as (v := .bool (icmp .leq p0 p2)) rfl ?_)
      refine da_nil ?_
      subst hr
      exact ⟨rfl, (Ext.refl w)⟩
    · skip
      replace hr := bif_f hr hc2
      refine da_off rfl (Eq.trans (show sl _ _ _ = .bool (icmp .geq p0 p1) from rfl) (congrArg Value.bool hc2)) (by decide) ?_
      refine da_off rfl (Eq.trans (show sl _ _ _ = .bool (icmp .geq p0 p1) from rfl) (congrArg Value.bool hc2)) (by decide) ?_
      refine da_off rfl (Eq.trans (show sl _ _ _ = .bool (icmp .geq p0 p1) from rfl) (congrArg Value.bool hc2)) (by decide) ?_
      refine da_op rfl (d_pick (b := false) (Eq.trans (show ev _ _ = .bool (icmp .geq p0 p1) from rfl) (congrArg Value.bool hc2)) ?_)
      refine da_op rfl (d_as (v := .bool false) rfl ?_)
      refine da_nil ?_
      subst hr
      exact ⟨rfl, (Ext.refl w)⟩
  · skip
    rintro σ1 w1 o1 ⟨s6_1, E1⟩
    have X3 : Ext w w1 := (Ext.refl w).trans E1
    refine W_ret ?_
    subst hr
    refine ⟨_, res1 (rv_tmp s6_1), ?_⟩
    exact ⟨rfl, X3⟩
set_option maxHeartbeats 4000000 in
theorem c155 (p0 : Int) (r : Nat × Bool) (w : World) (hr : M.impl_FromBits p0 = r)  :
    Calls Tryd.prog 155 #[.int .i64 p0] w fun e w' => ∃ q0r : Nat, e = .returned (.tuple #[.float .f32 q0r, .bool r.2]) ∧ cn .f32 q0r = r.1 ∧ Ext w w' := by
  refine calls_of_W Tryd.func155 rfl (Nat.le_of_ble_eq_true rfl) ?_
  refine W_seq ?_
  refine W_region rfl ?_
  refine da_op rfl (d_as (v := .float .f32 0) rfl ?_)
  refine da_op rfl (d_as (v := .bool false) rfl ?_)
  refine da_nil ?_
  refine W_seq ?_
  refine W_seq ?_
  refine W_region rfl ?_
  refine da_op rfl (d_mv (v := .int .i64 p0) rfl ?_)
  obtain ⟨m1, hm1, hr⟩ := letv_out hr
  refine da_op rfl (d_cl (vs := [.int .i64 p0, .int .i64 0, .int .i64 4294967295]) en103 (ac rfl (ac rfl (ac rfl rfl))) rfl ?_)
  refine (c103 p0 0 4294967295 m1 w hm1 ).mono ?_
  rintro _ w2 ⟨rfl, E2⟩
  refine ⟨_, rfl, ?_⟩
  have X3 : Ext w w2 := (Ext.refl w).trans E2
  refine da_op rfl (d_not rfl ?_)
  refine da_nil ?_
  refine W_cond (b := (!m1)) rfl (fun hc4 => ?_) (fun hc4 => ?_)
  · skip
    replace hr := bif_t hr hc4
    refine W_seq ?_
    refine W_region rfl ?_
    refine da_op rfl (d_as (v := .float .f32 0) rfl ?_)
    refine da_op rfl (d_as (v := .bool false) rfl ?_)
    refine da_nil ?_
    refine W_ret ?_
    subst hr
    refine ⟨_, res2 (rv_tmp rfl) (rv_tmp rfl), ?_⟩
    exact ⟨0, rfl, cn_f32_0, X3⟩
  · skip
    replace hr := bif_f hr hc4
    refine W_skip ?_
    refine W_seq ?_
    refine W_region rfl ?_
    refine da_op rfl (d_mv (v := .int .i64 p0) rfl ?_)
    refine da_op rfl (d_iconv un2 un193 rfl ?_)
    refine da_op rfl (d_f32from ext186_0 ext186_1 ext186_2 (Option.isNone_iff_eq_none.1 ext186_3) ext186_4 rfl rfl ?_)
    refine da_op rfl (d_as (v := .float .f32 ((IntKind.u32.wrap p0)).toNat) rfl ?_)
    refine da_op rfl (d_as (v := .bool true) rfl ?_)
    refine da_nil ?_
    refine W_ret ?_
    subst hr
    refine ⟨_, res2 (rv_tmp rfl) (rv_tmp rfl), ?_⟩
    exact ⟨((IntKind.u32.wrap p0)).toNat, rfl, rfl, X3⟩
set_option maxHeartbeats 4000000 in
theorem c153 (p0 : Nat) (p0r : Nat) (r : Bool) (w : World) (hr : M.impl_isNaN p0 = r) (p0h : cn .f32 p0r = p0) :
    Calls Tryd.prog 153 #[.float .f32 p0r] w fun e w' => e = .returned (.bool r) ∧ Ext w w' := by
  refine calls_of_W Tryd.func153 rfl (Nat.le_of_ble_eq_true rfl) ?_
  refine W_seq ?_
  refine W_region rfl ?_
  refine da_op rfl (d_as (v := .bool false) rfl ?_)
  refine da_nil ?_
  refine W_seq ?_
  refine W_region rfl ?_
  refine da_op rfl (d_mv (v := .float .f32 p0r) rfl ?_)
  refine da_op rfl (d_mv (v := .float .f32 p0r) rfl ?_)
  refine da_op rfl (d_fcmp (k := .f32) cNeq rfl rfl p0h p0h ?_)
  refine da_op rfl (d_as (v := .bool (fcmp .neq .f32 p0 p0)) rfl ?_)
  refine da_nil ?_
  refine W_ret ?_
  subst hr
  refine ⟨_, res1 (rv_tmp rfl), ?_⟩
  exact ⟨rfl, (Ext.refl w)⟩
set_option maxHeartbeats 4000000 in
theorem c98 (p0 : Nat) (p0r : Nat) (r : Int) (w : World) (hr : M.impl_BitsOf p0 = r) (p0h : cn .f32 p0r = p0) :
    Calls Tryd.prog 98 #[.float .f32 p0r] w fun e w' => e = .returned (.int .i64 r) ∧ Ext w w' := by
  refine calls_of_W Tryd.func98 rfl (Nat.le_of_ble_eq_true rfl) ?_
  refine W_seq ?_
  refine W_region rfl ?_
  refine da_op rfl (d_as (v := .int .i64 0) rfl ?_)
  refine da_nil ?_
  refine W_seq ?_
  refine W_seq ?_
  refine W_region rfl ?_
  refine da_op rfl (d_mv (v := .float .f32 p0r) rfl ?_)
  obtain ⟨m1, hm1, hr⟩ := letv_out hr
  refine da_op rfl (d_cl (vs := [.float .f32 p0r]) en153 (ac rfl rfl) rfl ?_)
  refine (c153 p0 p0r m1 w hm1 p0h).mono ?_
  rintro _ w2 ⟨rfl, E2⟩
  refine ⟨_, rfl, ?_⟩
  have X3 : Ext w w2 := (Ext.refl w).trans E2
  refine da_nil ?_
  refine W_cond (b := m1) rfl (fun hc4 => ?_) (fun hc4 => ?_)
  · skip
    replace hr := bif_t hr hc4
    refine W_seq ?_
    refine W_region rfl ?_
    refine da_op rfl (d_as (v := .int .i64 2143289344) rfl ?_)
    refine da_nil ?_
    refine W_ret ?_
    subst hr
    refine ⟨_, res1 (rv_tmp rfl), ?_⟩
    exact ⟨rfl, X3⟩
  · skip
    replace hr := bif_f hr hc4
    refine W_skip ?_
    refine W_seq ?_
    refine W_region rfl ?_
    refine da_op rfl (d_mv (v := .float .f32 p0r) rfl ?_)
    refine da_op rfl (d_f32bits ext154_0 ext154_1 ext154_2 (Option.isNone_iff_eq_none.1 ext154_3) ext154_4 rfl rfl p0h (nn_ne (Eq.trans (show fcmp .neq .f32 p0 p0 = m1 from hm1) hc4)) ?_)
    refine da_op rfl (d_iconv un193 un2 rfl ?_)
    refine da_op rfl (d_as (v := .int .i64 (IntKind.i64.wrap (p0 : Int))) rfl ?_)
    refine da_nil ?_
    refine W_ret ?_
    subst hr
    refine ⟨_, res1 (rv_tmp rfl), ?_⟩
    exact ⟨rfl, X3⟩
set_option maxHeartbeats 4000000 in
theorem c101 (p0 : List UInt8) (r : Nat × Bool) (w : World) (hr : M.impl_readNumber p0 = some r)  :
    Calls Tryd.prog 101 #[.string (bs p0)] w fun e w' => ∃ q0r : Nat, e = .returned (.tuple #[.float .f32 q0r, .bool r.2]) ∧ cn .f32 q0r = r.1 ∧ Ext w w' := by
  refine calls_of_W Tryd.func101 rfl (Nat.le_of_ble_eq_true rfl) ?_
  refine W_seq ?_
  refine W_region rfl ?_
  refine da_op rfl (d_as (v := .float .f32 0) rfl ?_)
  refine da_op rfl (d_as (v := .bool false) rfl ?_)
  refine da_nil ?_
  refine W_seq ?_
  refine W_region rfl ?_
  refine da_op rfl (d_as (v := .int .i64 0) rfl ?_)
  refine da_nil ?_
  refine W_seq ?_
  refine W_seq ?_
  refine W_region rfl ?_
  refine da_op rfl (d_mv (v := .string (bs p0)) rfl ?_)
  refine da_op rfl (d_slen un9 rfl ?_)
  refine da_op rfl (d_mv (v := .int .i64 0) rfl ?_)
  refine da_nil ?_
  refine W_block ?_
  obtain ⟨m1, hm1, hr⟩ := bind_out hr
  refine W_loopM hm1 (fun (s1 : Int × Int) σ w' => σ 4 = .int .i64 s1.1 ∧ σ 11 = .int .i64 s1.2 ∧ σ 0 = .string (bs p0) ∧ σ 10 = .int .i64 ((p0).length : Int) ∧ Ext w w') (fun (e1 : (Int ⊕ (Nat × Bool))) ex σ w' => sel e1 (fun e1 => ex = .exit 0 ∧ σ 4 = .int .i64 e1 ∧ σ 0 = .string (bs p0) ∧ Ext w w') (fun e1 => ex = .ret ∧ ∃ q1_1_0r : Nat, σ 2 = .float .f32 q1_1_0r ∧ σ 3 = .bool e1.2 ∧ cn .f32 q1_1_0r = e1.1 ∧ Ext w w')) ⟨rfl, rfl, rfl, rfl, (Ext.refl w)⟩ ?_ ?_
  · skip
    rintro s1 σl1 wl1 r1l ⟨i1_S4, i1_S11, i1_S0, i1_S10, i1_X⟩ hr
    refine W_seq ?_
    refine W_region rfl ?_
    refine da_op rfl (d_icmp cLss i1_S11 i1_S10 ?_)
    refine da_nil ?_
    refine W_seq ?_
    refine W_cond (b := (icmp .lss s1.2 ((p0).length : Int))) rfl (fun hc2 => ?_) (fun hc2 => ?_)
    · skip
      replace hr := bif_t hr hc2
      refine W_skip ?_
      refine W_seq ?_
      refine W_block ?_
      refine W_seq ?_
      refine W_region rfl ?_
      refine da_op rfl (d_mv (v := .int .i64 s1.2) i1_S11 ?_)
      refine da_op rfl (d_as (v := .int .i64 s1.2) rfl ?_)
      refine da_nil ?_
      refine W_seq ?_
      refine W_region rfl ?_
      refine da_op rfl (d_mv (v := .string (bs p0)) i1_S0 ?_)
      refine da_op rfl (d_mv (v := .int .i64 s1.2) rfl ?_)
      obtain ⟨m3, hm3, hr⟩ := bind_out hr
      refine da_op rfl (d_sidx un9 rfl rfl hm3 ?_)
      obtain ⟨m4, hm4, hr⟩ := letv_out hr
      refine da_op rfl (d_cl (vs := [.string (bs ([48, 49, 50, 51, 52, 53, 54, 55, 56, 57, 97, 98, 99, 100, 101, 102] : List UInt8)), .int .u8 m3]) en62 (ac rfl (ac rfl rfl)) rfl ?_)
      refine (c62_s30313233343536373839616263646566 m3 m4 wl1 hm4 ).mono ?_
      rintro _ w5 ⟨rfl, E5⟩
      refine ⟨_, rfl, ?_⟩
      have X6 : Ext w w5 := i1_X.trans E5
      refine da_op rfl (d_as (v := .int .i64 m4) rfl ?_)
      refine da_nil ?_
      refine W_seq ?_
      refine W_seq ?_
      obtain ⟨m7, hm7, hr⟩ := letv_out hr
      refine W_cut (fun σ' w' => σ' 23 = .bool m7 ∧ Ext w5 w') rfl ?_ ?_
      · skip
        have hr := hm7
        refine da_op rfl (d_mv (v := .int .i64 m4) rfl ?_)
        refine da_op rfl (d_icmp cLss rfl rfl ?_)
        refine da_op rfl (d_mv (v := .bool (icmp .lss m4 0)) rfl ?_)
        rcases Bool.eq_false_or_eq_true (icmp .lss m4 0) with hc8 | hc8
        · skip
          replace hr := bif_t hr hc8
          refine da_off rfl (Eq.trans (show sl _ _ _ = .bool (icmp .lss m4 0) from rfl) (congrArg Value.bool hc8)) (by decide) ?_
          refine da_off rfl (Eq.trans (show sl _ _ _ = .bool (icmp .lss m4 0) from rfl) (congrArg Value.bool hc8)) (by decide) ?_
          refine da_op rfl (d_pick (b := true) (Eq.trans (show ev _ _ = .bool (icmp .lss m4 0) from rfl) (congrArg Value.bool hc8)) ?_)
          refine da_nil ?_
          subst hr
          exact ⟨rfl, (Ext.refl w5)⟩
        · skip
          replace hr := bif_f hr hc8
          refine da_on rfl (Eq.trans (show sl _ _ _ = .bool (icmp .lss m4 0) from rfl) (congrArg Value.bool hc8)) (d_mv (v := .int .i64 s1.2) rfl ?_)
          refine da_on rfl (Eq.trans (show sl _ _ _ = .bool (icmp .lss m4 0) from rfl) (congrArg Value.bool hc8)) (d_icmp cEql rfl rfl ?_)
          refine da_op rfl (d_pick (b := false) (Eq.trans (show ev _ _ = .bool (icmp .lss m4 0) from rfl) (congrArg Value.bool hc8)) ?_)
          refine da_nil ?_
          subst hr
          exact ⟨rfl, (Ext.refl w5)⟩
      · skip
        rintro σ7 w7 o7 ⟨s23_7, E7⟩
        have s4_7 : σ7 4 = .int .i64 s1.1 := (o7 4 rfl).trans i1_S4
        have s11_7 : σ7 11 = .int .i64 s1.2 := (o7 11 rfl).trans i1_S11
        have s0_7 : σ7 0 = .string (bs p0) := (o7 0 rfl).trans i1_S0
        have s10_7 : σ7 10 = .int .i64 ((p0).length : Int) := (o7 10 rfl).trans i1_S10
        have s6_7 : σ7 6 = .int .i64 m4 := (o7 6 rfl).trans rfl
        have X9 : Ext w w7 := X6.trans E7
        refine W_cond (b := m7) s23_7 (fun hc10 => ?_) (fun hc10 => ?_)
        · skip
          replace hr := bif_t hr hc10
          refine W_seq ?_
          refine W_region rfl ?_
          refine da_op rfl (d_as (v := .float .f32 0) rfl ?_)
          refine da_op rfl (d_as (v := .bool false) rfl ?_)
          refine da_nil ?_
          refine W_ret ?_
          obtain rfl := Option.some.inj hr
          exact ⟨_, rfl, rfl, 0, rfl, rfl, cn_f32_0, X9⟩
        · skip
          replace hr := bif_f hr hc10
          refine W_skip ?_
          refine W_region rfl ?_
          refine da_op rfl (d_mv (v := .int .i64 s1.1) s4_7 ?_)
          refine da_op rfl (d_iarith rfl rfl (.inr (.inr ⟨rfl, rfl⟩)) ?_)
          refine da_op rfl (d_mv (v := .int .i64 m4) s6_7 ?_)
          refine da_op rfl (d_iarith rfl rfl (.inl ⟨rfl, rfl⟩) ?_)
          refine da_op rfl (d_as (v := .int .i64 (IntKind.i64.wrap ((IntKind.i64.wrap (s1.1 * 16)) + m4))) rfl ?_)
          refine da_nil ?_
          refine W_region rfl ?_
          refine da_op rfl (d_iarith s11_7 rfl (.inl ⟨rfl, rfl⟩) ?_)
          refine da_op rfl (d_mv (v := .int .i64 (IntKind.i64.wrap (s1.2 + 1))) rfl ?_)
          refine da_nil ?_
          obtain rfl := Option.some.inj hr
          exact ⟨_, rfl, ⟨rfl, rfl, s0_7, s10_7, X9⟩⟩
    · skip
      replace hr := bif_f hr hc2
      refine W_exit ?_
      obtain rfl := Option.some.inj hr
      exact ⟨_, rfl, rfl, i1_S4, i1_S0, i1_X⟩
  · skip
    intro ex σx1 wx1 hq
    rcases m1 with m1 | m1
    · skip
      obtain ⟨rfl, q1_0_S4, q1_0_S0, q1_0_X⟩ := hq
      refine W_seq ?_
      refine W_region rfl ?_
      refine da_op rfl (d_mv (v := .int .i64 m1) q1_0_S4 ?_)
      obtain ⟨m11, hm11, hr⟩ := letv_out hr
      refine da_op rfl (d_cl (vs := [.int .i64 m1]) en155 (ac rfl rfl) rfl ?_)
      refine (c155 m1 m11 wx1 hm11 ).mono ?_
      rintro _ w12 ⟨q12_0r, rfl, q12_0h, E12⟩
      refine ⟨_, rfl, ?_⟩
      have X13 : Ext w w12 := q1_0_X.trans E12
      refine da_op rfl (d_mv (v := .tuple #[.float .f32 q12_0r, .bool m11.2]) rfl ?_)
      refine da_op rfl (d_extract (v := .float .f32 q12_0r) rfl rfl ?_)
      refine da_op rfl (d_extract (v := .bool m11.2) rfl rfl ?_)
      refine da_op rfl (d_as (v := .float .f32 q12_0r) rfl ?_)
      refine da_op rfl (d_as (v := .bool m11.2) rfl ?_)
      refine da_nil ?_
      refine W_seq ?_
      obtain ⟨m14, hm14, hr⟩ := letv_out hr
      refine W_cut (fun σ' w' => σ' 2 = .float .f32 q12_0r ∧ σ' 3 = .bool m14 ∧ Ext w12 w') rfl ?_ ?_
      · skip
        have hr := hm14
        refine da_op rfl (d_mv (v := .float .f32 q12_0r) rfl ?_)
        refine da_op rfl (d_mv (v := .string (bs p0)) q1_0_S0 ?_)
        refine da_op rfl (d_slen un9 rfl ?_)
        refine da_op rfl (d_icmp cEql rfl rfl ?_)
        refine da_op rfl (d_mv (v := .bool (icmp .eql ((p0).length : Int) 8)) rfl ?_)
        rcases Bool.eq_false_or_eq_true (icmp .eql ((p0).length : Int) 8) with hc15 | hc15
        · skip
          replace hr := bif_t hr hc15
          refine da_on rfl (Eq.trans (show sl _ _ _ = .bool (icmp .eql ((p0).length : Int) 8) from rfl) (congrArg Value.bool hc15)) (d_mv (v := .float .f32 q12_0r) rfl ?_)
          obtain ⟨m16, hm16, hr⟩ := letv_out hr
          refine da_on rfl (Eq.trans (show sl _ _ _ = .bool (icmp .eql ((p0).length : Int) 8) from rfl) (congrArg Value.bool hc15)) (d_cl (vs := [.float .f32 q12_0r]) en98 (ac rfl rfl) rfl ?_)
          refine (c98 m11.1 q12_0r m16 w12 hm16 q12_0h).mono ?_
          rintro _ w17 ⟨rfl, E17⟩
          refine ⟨_, rfl, ?_⟩
          have X18 : Ext w w17 := X13.trans E17
          refine da_on rfl (Eq.trans (show sl _ _ _ = .bool (icmp .eql ((p0).length : Int) 8) from rfl) (congrArg Value.bool hc15)) (d_mv (v := .int .i64 m1) q1_0_S4 ?_)
          refine da_on rfl (Eq.trans (show sl _ _ _ = .bool (icmp .eql ((p0).length : Int) 8) from rfl) (congrArg Value.bool hc15)) (d_icmp cEql rfl rfl ?_)
          refine da_op rfl (d_pick (b := true) (Eq.trans (show ev _ _ = .bool (icmp .eql ((p0).length : Int) 8) from rfl) (congrArg Value.bool hc15)) ?_)
          refine da_op rfl (d_as (v := .float .f32 q12_0r) rfl ?_)
          refine da_op rfl (d_as (v := .bool (icmp .eql m16 m1)) rfl ?_)
          refine da_nil ?_
          subst hr
          exact ⟨rfl, rfl, (Ext.trans (Ext.refl w12) E17)⟩
        · skip
          replace hr := bif_f hr hc15
          refine da_off rfl (Eq.trans (show sl _ _ _ = .bool (icmp .eql ((p0).length : Int) 8) from rfl) (congrArg Value.bool hc15)) (by decide) ?_
          refine da_off rfl (Eq.trans (show sl _ _ _ = .bool (icmp .eql ((p0).length : Int) 8) from rfl) (congrArg Value.bool hc15)) (by decide) ?_
          refine da_off rfl (Eq.trans (show sl _ _ _ = .bool (icmp .eql ((p0).length : Int) 8) from rfl) (congrArg Value.bool hc15)) (by decide) ?_
          refine da_off rfl (Eq.trans (show sl _ _ _ = .bool (icmp .eql ((p0).length : Int) 8) from rfl) (congrArg Value.bool hc15)) (by decide) ?_
          refine da_op rfl (d_pick (b := false) (Eq.trans (show ev _ _ = .bool (icmp .eql ((p0).length : Int) 8) from rfl) (congrArg Value.bool hc15)) ?_)
          refine da_op rfl (d_as (v := .float .f32 q12_0r) rfl ?_)
          refine da_op rfl (d_as (v := .bool false) rfl ?_)
          refine da_nil ?_
          subst hr
          exact ⟨rfl, rfl, (Ext.refl w12)⟩
      · skip
        rintro σ14 w14 o14 ⟨s2_14, s3_14, E14⟩
        have X19 : Ext w w14 := X13.trans E14
        refine W_ret ?_
        obtain rfl := Option.some.inj hr
        refine ⟨_, res2 (rv_tmp s2_14) (rv_tmp s3_14), ?_⟩
        exact ⟨q12_0r, rfl, q12_0h, X19⟩
    · skip
      obtain ⟨rfl, q1_1_0r, q1_1_S2, q1_1_S3, q1_1_0h, q1_1_X⟩ := hq
      obtain rfl := Option.some.inj hr
      refine ⟨_, res2 (rv_tmp q1_1_S2) (rv_tmp q1_1_S3), ?_⟩
      exact ⟨q1_1_0r, rfl, q1_1_0h, q1_1_X⟩
end Go.Proofs
