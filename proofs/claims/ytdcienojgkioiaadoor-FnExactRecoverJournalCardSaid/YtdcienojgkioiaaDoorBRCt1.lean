import Derived.Test.YtdcienojgkioiaaDoorBRCf
namespace Go.Proofs
open Go Go.Fl Go.RowKit Go.Rg
set_option maxRecDepth 100000
set_option linter.unusedVariables false
attribute [local irreducible] Go.Calls doAll Does DoesG W Wr
set_option maxHeartbeats 4000000 in
theorem c119 (p0 : List UInt8) (p1 : Int) (r : List (List UInt8)) (w : World) (hr : M.spec_l01Cut p0 p1 = some r)  :
    Calls Tryd.prog 119 #[.string (bs p0), .int .u8 p1] w fun e w' => ∃ q0a : Option Addr, ∃ q0n : Nat, ∃ q0c : Nat, e = .returned ((Value.slice q0a q0n q0c)) ∧ OS w' 9 encS (Value.slice q0a q0n q0c) r ∧ (∀ k, (Value.slice q0a q0n q0c).ownBlock = some k → w.heap.size ≤ k) ∧ Ext w w' := by
  refine calls_of_W Tryd.func119 rfl (Nat.le_of_ble_eq_true rfl) ?_
  refine W_seq ?_
  refine W_region rfl ?_
  refine da_op rfl (d_as (v := .slice none 0 0) rfl ?_)
  refine da_nil ?_
  refine W_seq ?_
  refine W_region rfl ?_
  refine da_op rfl (d_bslice0 un34 size9 fun w1 B1 E1 => ?_)
  have fr1 : ∀ k, (Value.slice (some ⟨w.heap.size, 0, none⟩) 0 0).ownBlock = some k → w.heap.size ≤ k := fun k hk => by cases hk; exact Nat.le_refl _
  have own1 : ∀ k, (Value.slice (some ⟨w.heap.size, 0, none⟩) 0 0).ownBlock = some k → w.heap.size ≤ k := fun k hk => Nat.le_trans (Ext.refl w).size (fr1 k hk)
  have X2 : Ext w w1 := (Ext.refl w).trans E1
  have O1 : OS w1 9 encS (Value.slice (some ⟨w.heap.size, 0, none⟩) 0 0) ([] : List (List UInt8)) := OS.box (xs := ([] : List (List UInt8))) B1 rfl (Nat.le_of_ble_eq_true rfl)
  refine da_op rfl (d_as (v := (Value.slice (some ⟨w.heap.size, 0, none⟩) 0 0)) rfl ?_)
  refine da_nil ?_
  refine W_seq ?_
  refine W_region rfl ?_
  refine da_op rfl (d_as (v := .int .i64 0) rfl ?_)
  refine da_nil ?_
  refine W_seq ?_
  refine W_seq ?_
  refine W_region rfl ?_
  refine da_op rfl (d_as (v := .int .i64 0) rfl ?_)
  refine da_nil ?_
  refine W_block ?_
  obtain ⟨m3, hm3, hr⟩ := bind_out hr
  refine W_loopM hm3 (fun (s3 : List (List UInt8) × Int × Int) σ w' => ∃ i3_0a : Option Addr, ∃ i3_0n : Nat, ∃ i3_0c : Nat, σ 5 = (Value.slice i3_0a i3_0n i3_0c) ∧ σ 6 = .int .i64 s3.2.1 ∧ σ 7 = .int .i64 s3.2.2 ∧ σ 0 = .string (bs p0) ∧ σ 1 = .int .u8 p1 ∧ OS w' 9 encS (Value.slice i3_0a i3_0n i3_0c) s3.1 ∧ (∀ k, (Value.slice i3_0a i3_0n i3_0c).ownBlock = some k → w.heap.size ≤ k) ∧ Ext w w') (fun (e3 : (List (List UInt8))) ex σ w' => ex = .exit 0 ∧ ∃ q3_0_0a : Option Addr, ∃ q3_0_0n : Nat, ∃ q3_0_0c : Nat, σ 5 = (Value.slice q3_0_0a q3_0_0n q3_0_0c) ∧ OS w' 9 encS (Value.slice q3_0_0a q3_0_0n q3_0_0c) e3 ∧ (∀ k, (Value.slice q3_0_0a q3_0_0n q3_0_0c).ownBlock = some k → w.heap.size ≤ k) ∧ Ext w w') ⟨(some ⟨w.heap.size, 0, none⟩), 0, 0, rfl, rfl, rfl, rfl, rfl, O1, own1, X2⟩ ?_ ?_
  · skip
    rintro s3 σl3 wl3 r3l ⟨i3_0a, i3_0n, i3_0c, i3_S5, i3_S6, i3_S7, i3_S0, i3_S1, i3_0R, i3_0O, i3_X⟩ hr
    refine W_seq ?_
    refine W_seq ?_
    refine W_region rfl ?_
    refine da_op rfl (d_mv (v := .int .i64 s3.2.2) i3_S7 ?_)
    refine da_op rfl (d_mv (v := .string (bs p0)) i3_S0 ?_)
    refine da_op rfl (d_slen un9 rfl ?_)
    refine da_op rfl (d_icmp cLeq rfl rfl ?_)
    refine da_nil ?_
    refine W_cond (b := (icmp .leq s3.2.2 ((p0).length : Int))) rfl (fun hc4 => ?_) (fun hc4 => ?_)
    · skip
      replace hr := bif_t hr hc4
      refine W_skip ?_
      refine W_seq ?_
      refine W_block ?_
      refine W_seq ?_
      obtain ⟨m5, hm5, hr⟩ := bind_out hr
      refine W_cut (fun σ' w' => σ' 25 = .bool m5 ∧ Ext wl3 w') rfl ?_ ?_
      · skip
        have hr := hm5
        refine da_op rfl (d_mv (v := .int .i64 s3.2.2) i3_S7 ?_)
        refine da_op rfl (d_mv (v := .string (bs p0)) i3_S0 ?_)
        refine da_op rfl (d_slen un9 rfl ?_)
        refine da_op rfl (d_icmp cEql rfl rfl ?_)
        refine da_op rfl (d_mv (v := .bool (icmp .eql s3.2.2 ((p0).length : Int))) rfl ?_)
        rcases Bool.eq_false_or_eq_true (icmp .eql s3.2.2 ((p0).length : Int)) with hc6 | hc6
        · skip
          replace hr := bif_t hr hc6
          refine da_off rfl (Eq.trans (show sl _ _ _ = .bool (icmp .eql s3.2.2 ((p0).length : Int)) from rfl) (congrArg Value.bool hc6)) (by decide) ?_
          refine da_off rfl (Eq.trans (show sl _ _ _ = .bool (icmp .eql s3.2.2 ((p0).length : Int)) from rfl) (congrArg Value.bool hc6)) (by decide) ?_
          refine da_off rfl (Eq.trans (show sl _ _ _ = .bool (icmp .eql s3.2.2 ((p0).length : Int)) from rfl) (congrArg Value.bool hc6)) (by decide) ?_
          refine da_off rfl (Eq.trans (show sl _ _ _ = .bool (icmp .eql s3.2.2 ((p0).length : Int)) from rfl) (congrArg Value.bool hc6)) (by decide) ?_
          refine da_off rfl (Eq.trans (show sl _ _ _ = .bool (icmp .eql s3.2.2 ((p0).length : Int)) from rfl) (congrArg Value.bool hc6)) (by decide) ?_
          refine da_op rfl (d_pick (b := true) (Eq.trans (show ev _ _ = .bool (icmp .eql s3.2.2 ((p0).length : Int)) from rfl) (congrArg Value.bool hc6)) ?_)
          refine da_nil ?_
          obtain rfl := Option.some.inj hr
          exact ⟨rfl, (Ext.refl wl3)⟩
        · skip
          replace hr := bif_f hr hc6
          refine da_on rfl (Eq.trans (show sl _ _ _ = .bool (icmp .eql s3.2.2 ((p0).length : Int)) from rfl) (congrArg Value.bool hc6)) (d_mv (v := .string (bs p0)) i3_S0 ?_)
          refine da_on rfl (Eq.trans (show sl _ _ _ = .bool (icmp .eql s3.2.2 ((p0).length : Int)) from rfl) (congrArg Value.bool hc6)) (d_mv (v := .int .i64 s3.2.2) i3_S7 ?_)
          obtain ⟨m7, hm7, hr⟩ := bind_out hr
          refine da_on rfl (Eq.trans (show sl _ _ _ = .bool (icmp .eql s3.2.2 ((p0).length : Int)) from rfl) (congrArg Value.bool hc6)) (d_sidx un9 rfl rfl hm7 ?_)
          refine da_on rfl (Eq.trans (show sl _ _ _ = .bool (icmp .eql s3.2.2 ((p0).length : Int)) from rfl) (congrArg Value.bool hc6)) (d_mv (v := .int .u8 p1) i3_S1 ?_)
          refine da_on rfl (Eq.trans (show sl _ _ _ = .bool (icmp .eql s3.2.2 ((p0).length : Int)) from rfl) (congrArg Value.bool hc6)) (d_icmp cEql rfl rfl ?_)
          refine da_op rfl (d_pick (b := false) (Eq.trans (show ev _ _ = .bool (icmp .eql s3.2.2 ((p0).length : Int)) from rfl) (congrArg Value.bool hc6)) ?_)
          refine da_nil ?_
          obtain rfl := Option.some.inj hr
          exact ⟨rfl, (Ext.refl wl3)⟩
      · skip
        rintro σ5 w5 o5 ⟨s25_5, E5⟩
        have s5_5 : σ5 5 = (Value.slice i3_0a i3_0n i3_0c) := (o5 5 rfl).trans i3_S5
        have s6_5 : σ5 6 = .int .i64 s3.2.1 := (o5 6 rfl).trans i3_S6
        have s7_5 : σ5 7 = .int .i64 s3.2.2 := (o5 7 rfl).trans i3_S7
        have s0_5 : σ5 0 = .string (bs p0) := (o5 0 rfl).trans i3_S0
        have s1_5 : σ5 1 = .int .u8 p1 := (o5 1 rfl).trans i3_S1
        have X8 : Ext w w5 := i3_X.trans E5
        refine W_cond (b := m5) s25_5 (fun hc9 => ?_) (fun hc9 => ?_)
        · skip
          replace hr := bif_t hr hc9
          refine W_seq ?_
          refine W_region rfl ?_
          refine da_op rfl (d_mv (v := (Value.slice i3_0a i3_0n i3_0c)) s5_5 ?_)
          refine da_op rfl (d_mv (v := .string (bs p0)) s0_5 ?_)
          refine da_op rfl (d_mv (v := .int .i64 s3.2.1) s6_5 ?_)
          refine da_op rfl (d_mv (v := .int .i64 s3.2.2) s7_5 ?_)
          obtain ⟨m10, hm10, hr⟩ := bind_out hr
          refine da_op rfl (d_ssub (a := s3.2.1) (b := s3.2.2) un9 rfl (.inr ⟨_, _, rfl, rfl⟩) (.inr ⟨_, _, rfl, rfl⟩) hm10 ?_)
          have B12 : OS w5 9 encS (Value.slice i3_0a i3_0n i3_0c) s3.1 := i3_0R.ext E5
          refine da_op rfl (d_bslice (vs := [(0, .string (bs m10))]) (cs := #[.string (bs m10)]) un34 (pc rfl rfl) (by kernel_rfl) fun w11 B11 E11 => ?_)
          have fr11 : ∀ k, (Value.slice (some ⟨w5.heap.size, 0, none⟩) 1 1).ownBlock = some k → w5.heap.size ≤ k := fun k hk => by cases hk; exact Nat.le_refl _
          have own11 : ∀ k, (Value.slice (some ⟨w5.heap.size, 0, none⟩) 1 1).ownBlock = some k → w.heap.size ≤ k := fun k hk => Nat.le_trans X8.size (fr11 k hk)
          have sp13 : ∀ k, (Value.slice i3_0a i3_0n i3_0c).ownBlock = some k → ¬ (Value.slice (some ⟨w5.heap.size, 0, none⟩) 1 1).ownBlock = some k := apart_fresh B12 fr11
          have X14 : Ext w w11 := X8.trans E11
          have O11 : OS w11 9 encS (Value.slice (some ⟨w5.heap.size, 0, none⟩) 1 1) [m10] := OS.box (xs := [m10]) B11 (lc_v rfl rfl) (Nat.le_of_ble_eq_true rfl)
          obtain ⟨m15, hm15, hr⟩ := bind_out hr
          have B16 : OS w11 9 encS (Value.slice i3_0a i3_0n i3_0c) s3.1 := B12.ext E11
          refine da_op rfl (d_append (e := encS) (v := (Value.slice i3_0a i3_0n i3_0c)) (y := (Value.slice (some ⟨w5.heap.size, 0, none⟩) 1 1)) un34 info9 rfl (by kernel_rfl) (by kernel_rfl) (by decide) (by decide) rfl rfl B16 O11.rs hm15 fun v17 w17 O17 Fm17 at_17 nl17 => ?_)
          obtain ⟨v17pa, v17pn, v17pc, rfl⟩ := O17.vals
          have own17 : ∀ k, (Value.slice v17pa v17pn v17pc).ownBlock = some k → w.heap.size ≤ k := app_own (w := w11) at_17 i3_0O X14.size
          have sp18 : ∀ k, (Value.slice (some ⟨w5.heap.size, 0, none⟩) 1 1).ownBlock = some k → ¬ (Value.slice v17pa v17pn v17pc).ownBlock = some k := app_nr at_17 (apart_symm sp13) O11
          have X19 : Ext w w17 := Ext.step X14 Fm17 (fun k _ hk => i3_0O k hk)
          refine da_op rfl (d_as (v := (Value.slice v17pa v17pn v17pc)) rfl ?_)
          refine da_nil ?_
          refine W_region rfl ?_
          refine da_op rfl (d_mv (v := .int .i64 s3.2.2) s7_5 ?_)
          refine da_op rfl (d_iarith rfl rfl (.inl ⟨rfl, rfl⟩) ?_)
          refine da_op rfl (d_as (v := .int .i64 (IntKind.i64.wrap (s3.2.2 + 1))) rfl ?_)
          refine da_nil ?_
          refine W_region rfl ?_
          refine da_op rfl (d_mv (v := .int .i64 s3.2.2) s7_5 ?_)
          refine da_op rfl (d_iarith rfl rfl (.inl ⟨rfl, rfl⟩) ?_)
          refine da_op rfl (d_as (v := .int .i64 (IntKind.i64.wrap (s3.2.2 + 1))) rfl ?_)
          refine da_nil ?_
          obtain rfl := Option.some.inj hr
          exact ⟨_, rfl, ⟨v17pa, v17pn, v17pc, rfl, rfl, rfl, s0_5, s1_5, O17, own17, X19⟩⟩
        · skip
          replace hr := bif_f hr hc9
          refine W_skip ?_
          refine W_region rfl ?_
          refine da_op rfl (d_mv (v := .int .i64 s3.2.2) s7_5 ?_)
          refine da_op rfl (d_iarith rfl rfl (.inl ⟨rfl, rfl⟩) ?_)
          refine da_op rfl (d_as (v := .int .i64 (IntKind.i64.wrap (s3.2.2 + 1))) rfl ?_)
          refine da_nil ?_
          have B20 : OS w5 9 encS (Value.slice i3_0a i3_0n i3_0c) s3.1 := i3_0R.ext E5
          obtain rfl := Option.some.inj hr
          exact ⟨_, rfl, ⟨i3_0a, i3_0n, i3_0c, s5_5, s6_5, rfl, s0_5, s1_5, B20, i3_0O, X8⟩⟩
    · skip
      replace hr := bif_f hr hc4
      refine W_exit ?_
      obtain rfl := Option.some.inj hr
      exact ⟨_, rfl, rfl, i3_0a, i3_0n, i3_0c, i3_S5, i3_0R, i3_0O, i3_X⟩
  · skip
    intro ex σx3 wx3 hq
    obtain ⟨rfl, q3_0_0a, q3_0_0n, q3_0_0c, q3_0_S5, q3_0_0R, q3_0_0O, q3_0_X⟩ := hq
    refine W_seq ?_
    refine W_region rfl ?_
    refine da_op rfl (d_mv (v := (Value.slice q3_0_0a q3_0_0n q3_0_0c)) q3_0_S5 ?_)
    refine da_op rfl (d_as (v := (Value.slice q3_0_0a q3_0_0n q3_0_0c)) rfl ?_)
    refine da_nil ?_
    refine W_ret ?_
    obtain rfl := Option.some.inj hr
    refine ⟨_, res1 (rv_tmp rfl), ?_⟩
    exact ⟨q3_0_0a, q3_0_0n, q3_0_0c, rfl, q3_0_0R, q3_0_0O, q3_0_X⟩
set_option maxHeartbeats 4000000 in
theorem c116 (p0 : List UInt8) (r : List (List UInt8) × List UInt8) (w : World) (hr : M.spec_l08Lines p0 = some r)  :
    Calls Tryd.prog 116 #[.string (bs p0)] w fun e w' => ∃ q0a : Option Addr, ∃ q0n : Nat, ∃ q0c : Nat, e = .returned (.tuple #[(Value.slice q0a q0n q0c), .string (bs r.2)]) ∧ RS w' encS (Value.slice q0a q0n q0c) r.1 ∧ (∀ k, (Value.slice q0a q0n q0c).ownBlock = some k → w.heap.size ≤ k) ∧ Ext w w' := by
  refine calls_of_W Tryd.func116 rfl (Nat.le_of_ble_eq_true rfl) ?_
  refine W_seq ?_
  refine W_region rfl ?_
  refine da_op rfl (d_as (v := .slice none 0 0) rfl ?_)
  refine da_op rfl (d_as (v := .string (bs ([] : List UInt8))) rfl ?_)
  refine da_nil ?_
  refine W_seq ?_
  refine W_region rfl ?_
  refine da_op rfl (d_mv (v := .string (bs p0)) rfl ?_)
  obtain ⟨m1, hm1, hr⟩ := bind_out hr
  refine da_op rfl (d_cl (vs := [.string (bs p0), .int .u8 10]) en119 (ac rfl (ac rfl rfl)) rfl ?_)
  refine (c119 p0 10 m1 w hm1 ).mono ?_
  rintro _ w2 ⟨q2_0a, q2_0n, q2_0c, rfl, q2_0R, q2_0F, E2⟩
  refine ⟨_, rfl, ?_⟩
  have own3 : ∀ k, (Value.slice q2_0a q2_0n q2_0c).ownBlock = some k → w.heap.size ≤ k := fun k hk => Nat.le_trans (Ext.refl w).size (q2_0F k hk)
  have X4 : Ext w w2 := (Ext.refl w).trans E2
  refine da_op rfl (d_as (v := (Value.slice q2_0a q2_0n q2_0c)) rfl ?_)
  refine da_nil ?_
  refine W_seq ?_
  obtain ⟨m6, hm6, hr⟩ := bind_out hr
  obtain ⟨m7, hm7, hr⟩ := bind_out hr
  refine W_any [] [{ V := fun _ v _ => v = (Value.slice q2_0a q2_0n q2_0c) }, { V := fun _ v _ => v = (Value.slice q2_0a q2_0n q2_0c) }, { V := fun _ v _ => v = (.int .i64 ((m1).length : Int)) }, { V := fun _ v _ => v = (.int .i64 (IntKind.i64.wrap (((m1).length : Int) - 1))) }, { V := fun _ v w' => ∃ d5_4a : Option Addr, ∃ d5_4n : Nat, ∃ d5_4c : Nat, v = (Value.slice d5_4a d5_4n d5_4c) ∧ (∀ k, (Value.slice d5_4a d5_4n d5_4c).ownBlock = some k → (Value.slice q2_0a q2_0n q2_0c).ownBlock = some k) ∧ RS w' encS (Value.slice d5_4a d5_4n d5_4c) m6 }, { V := fun _ v _ => v = (Value.slice q2_0a q2_0n q2_0c) }, { V := fun _ v _ => v = (Value.slice q2_0a q2_0n q2_0c) }, { V := fun _ v _ => v = (.int .i64 ((m1).length : Int)) }, { V := fun _ v _ => v = (.int .i64 (IntKind.i64.wrap (((m1).length : Int) - 1))) }, { V := fun _ v _ => ∃ d5_9g : Nat, ∃ d5_9o : Nat, v = (.pointer (some ⟨d5_9g, d5_9o, none⟩)) ∧ EL encS (Value.slice q2_0a q2_0n q2_0c) (m1).length (IntKind.i64.wrap (((m1).length : Int) - 1)) d5_9g d5_9o }, { V := fun _ v _ => v = (.string (bs m7)) }, { V := fun _ v w' => ∃ d5_4a : Option Addr, ∃ d5_4n : Nat, ∃ d5_4c : Nat, v = (Value.slice d5_4a d5_4n d5_4c) ∧ (∀ k, (Value.slice d5_4a d5_4n d5_4c).ownBlock = some k → (Value.slice q2_0a q2_0n q2_0c).ownBlock = some k) ∧ RS w' encS (Value.slice d5_4a d5_4n d5_4c) m6 }, { V := fun _ v _ => v = (.string (bs m7)) }] mixed (by kernel_rfl) ⟨trivial, trivial, trivial, trivial, trivial, trivial, trivial, trivial, trivial, trivial, trivial, trivial, trivial, trivial⟩ ⟨?_, ?_, ?_, ?_, ?_, ?_, ?_, ?_, ?_, ?_, ?_, ?_, ?_, trivial⟩ ?_
  · skip
    refine ⟨fun _ _ _ _ _ _ h _ => h, fun _ _ h _ => h, fun σ' w' hA hE hD hP => ?_⟩
    have t4 : σ' 4 = (Value.slice q2_0a q2_0n q2_0c) := (hA 4 rfl).trans rfl
    have B0_8 : OS w' 9 encS (Value.slice q2_0a q2_0n q2_0c) m1 := q2_0R.frm hE (fun k hk => not_oth0)
    refine dg_op rfl (d_mv (v := (Value.slice q2_0a q2_0n q2_0c)) t4 ?_)
    exact ⟨rfl, own_none (Ext.refl w')⟩
  · skip
    refine ⟨fun _ _ _ _ _ _ h _ => h, fun _ _ h _ => h, fun σ' w' hA hE hD hP => ?_⟩
    have t4 : σ' 4 = (Value.slice q2_0a q2_0n q2_0c) := (hA 4 rfl).trans rfl
    have B0_9 : OS w' 9 encS (Value.slice q2_0a q2_0n q2_0c) m1 := q2_0R.frm hE (fun k hk => not_oth0)
    refine dg_op rfl (d_mv (v := (Value.slice q2_0a q2_0n q2_0c)) t4 ?_)
    exact ⟨rfl, own_none (Ext.refl w')⟩
  · skip
    refine ⟨fun _ _ _ _ _ _ h _ => h, fun _ _ h _ => h, fun σ' w' hA hE hD hP => ?_⟩
    have t8 : σ' 8 = (Value.slice q2_0a q2_0n q2_0c) := hD 1 rfl
    have B0_10 : OS w' 9 encS (Value.slice q2_0a q2_0n q2_0c) m1 := q2_0R.frm hE (fun k hk => not_oth0)
    refine dg_op rfl (d_len (e := encS) un34 t8 B0_10.rs ?_)
    exact ⟨rfl, own_none (Ext.refl w')⟩
  · skip
    refine ⟨fun _ _ _ _ _ _ h _ => h, fun _ _ h _ => h, fun σ' w' hA hE hD hP => ?_⟩
    have t9 : σ' 9 = (.int .i64 ((m1).length : Int)) := hD 2 rfl
    refine dg_op rfl (d_iarith t9 rfl (.inr (.inl ⟨rfl, rfl⟩)) ?_)
    exact ⟨rfl, own_none (Ext.refl w')⟩
  · skip
    refine ⟨fun _ _ _ w' w'' _ ⟨d5_4a, d5_4n, d5_4c, hv, d5_4L, d5_4R⟩ hF => ⟨d5_4a, d5_4n, d5_4c, hv, d5_4L, d5_4R.frm hF (fun k _ hk => not_oth0)⟩, fun _ _ h _ => h, fun σ' w' hA hE hD hP => ?_⟩
    have t7 : σ' 7 = (Value.slice q2_0a q2_0n q2_0c) := hD 0 rfl
    have t10 : σ' 10 = (.int .i64 (IntKind.i64.wrap (((m1).length : Int) - 1))) := hD 3 rfl
    have B0_11 : OS w' 9 encS (Value.slice q2_0a q2_0n q2_0c) m1 := q2_0R.frm hE (fun k hk => not_oth0)
    refine dg_op rfl (d_lsub (e := encS) (v := (Value.slice q2_0a q2_0n q2_0c)) (a := 0) (b := (IntKind.i64.wrap (((m1).length : Int) - 1))) un34 size9 t7 B0_11.rs (.inl ⟨rfl, rfl⟩) (.inr ⟨_, _, rfl, t10⟩) hm6 fun v12 R12 L12 => ?_)
    obtain ⟨v12pa, v12pn, v12pc, rfl⟩ := R12.vals
    exact ⟨⟨v12pa, v12pn, v12pc, rfl, L12, R12⟩, own_none (Ext.refl w')⟩
  · skip
    refine ⟨fun _ _ _ _ _ _ h _ => h, fun _ _ h _ => h, fun σ' w' hA hE hD hP => ?_⟩
    have t4 : σ' 4 = (Value.slice q2_0a q2_0n q2_0c) := (hA 4 rfl).trans rfl
    have B0_13 : OS w' 9 encS (Value.slice q2_0a q2_0n q2_0c) m1 := q2_0R.frm hE (fun k hk => not_oth0)
    refine dg_op rfl (d_mv (v := (Value.slice q2_0a q2_0n q2_0c)) t4 ?_)
    exact ⟨rfl, own_none (Ext.refl w')⟩
  · skip
    refine ⟨fun _ _ _ _ _ _ h _ => h, fun _ _ h _ => h, fun σ' w' hA hE hD hP => ?_⟩
    have t4 : σ' 4 = (Value.slice q2_0a q2_0n q2_0c) := (hA 4 rfl).trans rfl
    have B0_14 : OS w' 9 encS (Value.slice q2_0a q2_0n q2_0c) m1 := q2_0R.frm hE (fun k hk => not_oth0)
    refine dg_op rfl (d_mv (v := (Value.slice q2_0a q2_0n q2_0c)) t4 ?_)
    exact ⟨rfl, own_none (Ext.refl w')⟩
  · skip
    refine ⟨fun _ _ _ _ _ _ h _ => h, fun _ _ h _ => h, fun σ' w' hA hE hD hP => ?_⟩
    have t13 : σ' 13 = (Value.slice q2_0a q2_0n q2_0c) := hD 6 rfl
    have B0_15 : OS w' 9 encS (Value.slice q2_0a q2_0n q2_0c) m1 := q2_0R.frm hE (fun k hk => not_oth0)
    refine dg_op rfl (d_len (e := encS) un34 t13 B0_15.rs ?_)
    exact ⟨rfl, own_none (Ext.refl w')⟩
  · skip
    refine ⟨fun _ _ _ _ _ _ h _ => h, fun _ _ h _ => h, fun σ' w' hA hE hD hP => ?_⟩
    have t14 : σ' 14 = (.int .i64 ((m1).length : Int)) := hD 7 rfl
    refine dg_op rfl (d_iarith t14 rfl (.inr (.inl ⟨rfl, rfl⟩)) ?_)
    exact ⟨rfl, own_none (Ext.refl w')⟩
  · skip
    refine ⟨fun _ _ _ _ _ _ h _ => h, fun _ _ h _ => h, fun σ' w' hA hE hD hP => ?_⟩
    have t12 : σ' 12 = (Value.slice q2_0a q2_0n q2_0c) := hD 5 rfl
    have t15 : σ' 15 = (.int .i64 (IntKind.i64.wrap (((m1).length : Int) - 1))) := hD 8 rfl
    have B0_16 : OS w' 9 encS (Value.slice q2_0a q2_0n q2_0c) m1 := q2_0R.frm hE (fun k hk => not_oth0)
    refine dg_op rfl (d_indexE (e := encS) (v := (Value.slice q2_0a q2_0n q2_0c)) un34 size9 t12 t15 B0_16.rs hm7 fun g17 o17 l17 => ?_)
    exact ⟨⟨g17, o17, rfl, l17⟩, own_none (Ext.refl _)⟩
  · skip
    refine ⟨fun _ _ _ _ _ _ h _ => h, fun _ _ h _ => h, fun σ' w' hA hE hD hP => ?_⟩
    obtain ⟨d5_9g, d5_9o, t16, d5_9gE⟩ : ∃ d5_9g : Nat, ∃ d5_9o : Nat, σ' 16 = (.pointer (some ⟨d5_9g, d5_9o, none⟩)) ∧ EL encS (Value.slice q2_0a q2_0n q2_0c) (m1).length (IntKind.i64.wrap (((m1).length : Int) - 1)) d5_9g d5_9o := hD 9 rfl
    have B0_18 : OS w' 9 encS (Value.slice q2_0a q2_0n q2_0c) m1 := q2_0R.frm hE (fun k hk => not_oth0)
    obtain ⟨d5_9c, d5_9T, d5_9f, d5_9vs, d5_9hg, d5_9P, d5_9hq⟩ := RS.el B0_18.rs d5_9gE hm7
    obtain rfl := dec_encS d5_9hq
    refine dg_op rfl (d_load (v := .string (bs m7)) t16 agg9 d5_9hg (sub_get (vs := #[.string (bs m7)]) d5_9P (i := 0) rfl) ?_)
    exact ⟨rfl, own_none (Ext.refl w')⟩
  · skip
    refine ⟨fun _ _ _ w' w'' _ ⟨d5_4a, d5_4n, d5_4c, hv, d5_4L, d5_4R⟩ hF => ⟨d5_4a, d5_4n, d5_4c, hv, d5_4L, d5_4R.frm hF (fun k _ hk => not_oth0)⟩, fun _ _ h _ => h, fun σ' w' hA hE hD hP => ?_⟩
    obtain ⟨d5_4a, d5_4n, d5_4c, t11, d5_4L, d5_4R⟩ : ∃ d5_4a : Option Addr, ∃ d5_4n : Nat, ∃ d5_4c : Nat, σ' 11 = (Value.slice d5_4a d5_4n d5_4c) ∧ (∀ k, (Value.slice d5_4a d5_4n d5_4c).ownBlock = some k → (Value.slice q2_0a q2_0n q2_0c).ownBlock = some k) ∧ RS w' encS (Value.slice d5_4a d5_4n d5_4c) m6 := hD 4 rfl
    refine dg_op rfl (d_as (v := (Value.slice d5_4a d5_4n d5_4c)) t11 ?_)
    exact ⟨⟨d5_4a, d5_4n, d5_4c, rfl, d5_4L, d5_4R⟩, own_none (Ext.refl w')⟩
  · skip
    refine ⟨fun _ _ _ _ _ _ h _ => h, fun _ _ h _ => h, fun σ' w' hA hE hD hP => ?_⟩
    have t17 : σ' 17 = (.string (bs m7)) := hD 10 rfl
    refine dg_op rfl (d_as (v := .string (bs m7)) t17 ?_)
    exact ⟨rfl, own_none (Ext.refl w')⟩
  · skip
    intro σ5 w5 A5 E5 V5
    have E5x : Ext w2 w5 := ext_of_oth0 E5
    obtain ⟨z5_2_4a, z5_2_4n, z5_2_4c, s2_5, z5_2_4L, z5_2_4R⟩ : ∃ z5_2_4a : Option Addr, ∃ z5_2_4n : Nat, ∃ z5_2_4c : Nat, σ5 2 = (Value.slice z5_2_4a z5_2_4n z5_2_4c) ∧ (∀ k, (Value.slice z5_2_4a z5_2_4n z5_2_4c).ownBlock = some k → (Value.slice q2_0a q2_0n q2_0c).ownBlock = some k) ∧ RS w5 encS (Value.slice z5_2_4a z5_2_4n z5_2_4c) m6 := V5 11 (Nat.le_of_ble_eq_true rfl)
    have s3_5 : σ5 3 = (.string (bs m7)) := V5 12 (Nat.le_of_ble_eq_true rfl)
    have own19 : ∀ k, (Value.slice z5_2_4a z5_2_4n z5_2_4c).ownBlock = some k → w.heap.size ≤ k := fun k hk => own3 k (z5_2_4L k hk)
    have X20 : Ext w w5 := X4.trans E5x
    refine W_ret ?_
    obtain rfl := Option.some.inj hr
    refine ⟨_, res2 (rv_tmp s2_5) (rv_tmp s3_5), ?_⟩
    exact ⟨z5_2_4a, z5_2_4n, z5_2_4c, rfl, z5_2_4R, own19, X20⟩
set_option maxHeartbeats 4000000 in
theorem c111 (p0 : Int) (p1 : List UInt8) (r : Int) (w : World) (hr : M.spec_l01Check p0 p1 = some r)  :
    Calls Tryd.prog 111 #[.int .i64 p0, .string (bs p1)] w fun e w' => e = .returned (.int .i64 r) ∧ Ext w w' := by
  refine calls_of_W Tryd.func111 rfl (Nat.le_of_ble_eq_true rfl) ?_
  refine W_seq ?_
  refine W_region rfl ?_
  refine da_op rfl (d_as (v := .int .i64 0) rfl ?_)
  refine da_nil ?_
  refine W_seq ?_
  refine W_seq ?_
  refine W_region rfl ?_
  refine da_op rfl (d_as (v := .int .i64 0) rfl ?_)
  refine da_nil ?_
  refine W_block ?_
  obtain ⟨m1, hm1, hr⟩ := bind_out hr
  refine W_loopM hm1 (fun (s1 : Int × Int) σ w' => σ 0 = .int .i64 s1.1 ∧ σ 5 = .int .i64 s1.2 ∧ σ 1 = .string (bs p1) ∧ Ext w w') (fun (e1 : Int) ex σ w' => ex = .exit 0 ∧ σ 0 = .int .i64 e1 ∧ Ext w w') ⟨rfl, rfl, rfl, (Ext.refl w)⟩ ?_ ?_
  · skip
    rintro s1 σl1 wl1 r1l ⟨i1_S0, i1_S5, i1_S1, i1_X⟩ hr
    refine W_seq ?_
    refine W_seq ?_
    refine W_region rfl ?_
    refine da_op rfl (d_mv (v := .int .i64 s1.2) i1_S5 ?_)
    refine da_op rfl (d_mv (v := .string (bs p1)) i1_S1 ?_)
    refine da_op rfl (d_slen un9 rfl ?_)
    refine da_op rfl (d_icmp cLss rfl rfl ?_)
    refine da_nil ?_
    refine W_cond (b := (icmp .lss s1.2 ((p1).length : Int))) rfl (fun hc2 => ?_) (fun hc2 => ?_)
    · skip
      replace hr := bif_t hr hc2
      refine W_skip ?_
      refine W_seq ?_
      refine W_block ?_
      refine W_region rfl ?_
      refine da_op rfl (d_mv (v := .int .i64 s1.1) i1_S0 ?_)
      refine da_op rfl (d_iarith rfl rfl (.inr (.inr ⟨rfl, rfl⟩)) ?_)
      refine da_op rfl (d_mv (v := .string (bs p1)) i1_S1 ?_)
      refine da_op rfl (d_mv (v := .int .i64 s1.2) i1_S5 ?_)
      obtain ⟨m3, hm3, hr⟩ := bind_out hr
      refine da_op rfl (d_sidx un9 rfl rfl hm3 ?_)
      refine da_op rfl (d_iconv un5 un2 rfl ?_)
      refine da_op rfl (d_iarith rfl rfl (.inl ⟨rfl, rfl⟩) ?_)
      refine da_op rfl (d_iarith rfl rfl (.inl ⟨rfl, rfl⟩) ?_)
      refine da_op rfl (d_remL rfl rfl (by decide) ?_)
      refine da_op rfl (d_as (v := .int .i64 (((IntKind.i64.wrap ((IntKind.i64.wrap ((IntKind.i64.wrap (757 * s1.1)) + (IntKind.i64.wrap m3))) + 79))).tmod 65003)) rfl ?_)
      refine da_nil ?_
      refine W_region rfl ?_
      refine da_op rfl (d_mv (v := .int .i64 s1.2) i1_S5 ?_)
      refine da_op rfl (d_iarith rfl rfl (.inl ⟨rfl, rfl⟩) ?_)
      refine da_op rfl (d_as (v := .int .i64 (IntKind.i64.wrap (s1.2 + 1))) rfl ?_)
      refine da_nil ?_
      obtain rfl := Option.some.inj hr
      exact ⟨_, rfl, ⟨rfl, rfl, i1_S1, i1_X⟩⟩
    · skip
      replace hr := bif_f hr hc2
      refine W_exit ?_
      obtain rfl := Option.some.inj hr
      exact ⟨_, rfl, rfl, i1_S0, i1_X⟩
  · skip
    intro ex σx1 wx1 hq
    obtain ⟨rfl, q1_0_S0, q1_0_X⟩ := hq
    refine W_seq ?_
    refine W_region rfl ?_
    refine da_op rfl (d_mv (v := .int .i64 m1) q1_0_S0 ?_)
    refine da_op rfl (d_as (v := .int .i64 m1) rfl ?_)
    refine da_nil ?_
    refine W_ret ?_
    obtain rfl := Option.some.inj hr
    refine ⟨_, res1 (rv_tmp rfl), ?_⟩
    exact ⟨rfl, q1_0_X⟩
set_option maxHeartbeats 4000000 in
theorem c112 (p0 : Int) (r : List UInt8) (w : World) (hr : M.spec_l01Dec p0 = some r)  :
    Calls Tryd.prog 112 #[.int .i64 p0] w fun e w' => e = .returned (.string (bs r)) ∧ Ext w w' := by
  refine calls_of_W Tryd.func112 rfl (Nat.le_of_ble_eq_true rfl) ?_
  refine W_seq ?_
  refine W_region rfl ?_
  refine da_op rfl (d_as (v := .string (bs ([] : List UInt8))) rfl ?_)
  refine da_nil ?_
  refine W_seq ?_
  refine W_region rfl ?_
  refine da_op rfl (d_bslice0 un73 size5 fun w1 B1 E1 => ?_)
  have fr1 : ∀ k, (Value.slice (some ⟨w.heap.size, 0, none⟩) 0 0).ownBlock = some k → w.heap.size ≤ k := fun k hk => by cases hk; exact Nat.le_refl _
  have own1 : ∀ k, (Value.slice (some ⟨w.heap.size, 0, none⟩) 0 0).ownBlock = some k → w.heap.size ≤ k := fun k hk => Nat.le_trans (Ext.refl w).size (fr1 k hk)
  have X2 : Ext w w1 := (Ext.refl w).trans E1
  have O1 : OS w1 5 encI_u8 (Value.slice (some ⟨w.heap.size, 0, none⟩) 0 0) ([] : List Int) := OS.box (xs := ([] : List Int)) B1 rfl (Nat.le_of_ble_eq_true rfl)
  refine da_op rfl (d_as (v := (Value.slice (some ⟨w.heap.size, 0, none⟩) 0 0)) rfl ?_)
  refine da_nil ?_
  refine W_seq ?_
  refine W_region rfl ?_
  refine da_op rfl (d_mv (v := .int .i64 p0) rfl ?_)
  refine da_op rfl (d_as (v := .int .i64 p0) rfl ?_)
  refine da_nil ?_
  refine W_seq ?_
  refine W_block ?_
  obtain ⟨m3, hm3, hr⟩ := bind_out hr
  refine W_loopM hm3 (fun (s3 : List Int × Int) σ w' => ∃ i3_0a : Option Addr, ∃ i3_0n : Nat, ∃ i3_0c : Nat, σ 3 = (Value.slice i3_0a i3_0n i3_0c) ∧ σ 4 = .int .i64 s3.2 ∧ σ 0 = .int .i64 p0 ∧ OS w' 5 encI_u8 (Value.slice i3_0a i3_0n i3_0c) s3.1 ∧ (∀ k, (Value.slice i3_0a i3_0n i3_0c).ownBlock = some k → w.heap.size ≤ k) ∧ Ext w w') (fun (e3 : (List Int)) ex σ w' => ex = .exit 0 ∧ ∃ q3_0_0a : Option Addr, ∃ q3_0_0n : Nat, ∃ q3_0_0c : Nat, σ 3 = (Value.slice q3_0_0a q3_0_0n q3_0_0c) ∧ σ 0 = .int .i64 p0 ∧ OS w' 5 encI_u8 (Value.slice q3_0_0a q3_0_0n q3_0_0c) e3 ∧ (∀ k, (Value.slice q3_0_0a q3_0_0n q3_0_0c).ownBlock = some k → w.heap.size ≤ k) ∧ Ext w w') ⟨(some ⟨w.heap.size, 0, none⟩), 0, 0, rfl, rfl, rfl, O1, own1, X2⟩ ?_ ?_
  · skip
    rintro s3 σl3 wl3 r3l ⟨i3_0a, i3_0n, i3_0c, i3_S3, i3_S4, i3_S0, i3_0R, i3_0O, i3_X⟩ hr
    refine W_seq ?_
    refine W_seq ?_
    obtain ⟨m4, hm4, hr⟩ := letv_out hr
    refine W_cut (fun σ' w' => σ' 14 = .bool m4 ∧ Ext wl3 w') rfl ?_ ?_
    · skip
      have hr := hm4
      refine da_op rfl (d_mv (v := (Value.slice i3_0a i3_0n i3_0c)) i3_S3 ?_)
      refine da_op rfl (d_len (e := encI_u8) un73 rfl i3_0R.rs ?_)
      refine da_op rfl (d_icmp cEql rfl rfl ?_)
      refine da_op rfl (d_mv (v := .bool (icmp .eql ((s3.1).length : Int) 0)) rfl ?_)
      rcases Bool.eq_false_or_eq_true (icmp .eql ((s3.1).length : Int) 0) with hc5 | hc5
      · skip
        replace hr := bif_t hr hc5
        refine da_off rfl (Eq.trans (show sl _ _ _ = .bool (icmp .eql ((s3.1).length : Int) 0) from rfl) (congrArg Value.bool hc5)) (by decide) ?_
        refine da_off rfl (Eq.trans (show sl _ _ _ = .bool (icmp .eql ((s3.1).length : Int) 0) from rfl) (congrArg Value.bool hc5)) (by decide) ?_
        refine da_op rfl (d_pick (b := true) (Eq.trans (show ev _ _ = .bool (icmp .eql ((s3.1).length : Int) 0) from rfl) (congrArg Value.bool hc5)) ?_)
        refine da_nil ?_
        subst hr
        exact ⟨rfl, (Ext.refl wl3)⟩
      · skip
        replace hr := bif_f hr hc5
        refine da_on rfl (Eq.trans (show sl _ _ _ = .bool (icmp .eql ((s3.1).length : Int) 0) from rfl) (congrArg Value.bool hc5)) (d_mv (v := .int .i64 s3.2) i3_S4 ?_)
        refine da_on rfl (Eq.trans (show sl _ _ _ = .bool (icmp .eql ((s3.1).length : Int) 0) from rfl) (congrArg Value.bool hc5)) (d_icmp cNeq rfl rfl ?_)
        refine da_op rfl (d_pick (b := false) (Eq.trans (show ev _ _ = .bool (icmp .eql ((s3.1).length : Int) 0) from rfl) (congrArg Value.bool hc5)) ?_)
        refine da_nil ?_
        subst hr
        exact ⟨rfl, (Ext.refl wl3)⟩
    · skip
      rintro σ4 w4 o4 ⟨s14_4, E4⟩
      have s3_4 : σ4 3 = (Value.slice i3_0a i3_0n i3_0c) := (o4 3 rfl).trans i3_S3
      have s4_4 : σ4 4 = .int .i64 s3.2 := (o4 4 rfl).trans i3_S4
      have s0_4 : σ4 0 = .int .i64 p0 := (o4 0 rfl).trans i3_S0
      have X6 : Ext w w4 := i3_X.trans E4
      refine W_cond (b := m4) s14_4 (fun hc7 => ?_) (fun hc7 => ?_)
      · skip
        replace hr := bif_t hr hc7
        refine W_skip ?_
        refine W_block ?_
        refine W_seq ?_
        refine W_region rfl ?_
        refine da_op rfl (d_mv (v := .int .i64 s3.2) s4_4 ?_)
        refine da_op rfl (d_remL rfl rfl (by decide) ?_)
        refine da_op rfl (d_as (v := .int .i64 ((s3.2).tmod 10)) rfl ?_)
        refine da_nil ?_
        refine W_seq ?_
        refine W_seq ?_
        refine W_region rfl ?_
        refine da_op rfl (d_mv (v := .int .i64 ((s3.2).tmod 10)) rfl ?_)
        refine da_op rfl (d_icmp cLss rfl rfl ?_)
        refine da_nil ?_
        refine W_cond (b := (icmp .lss ((s3.2).tmod 10) 0)) rfl (fun hc8 => ?_) (fun hc8 => ?_)
        · skip
          replace hr := bif_t hr hc8
          refine W_region rfl ?_
          refine da_op rfl (d_mv (v := .int .i64 ((s3.2).tmod 10)) rfl ?_)
          refine da_op rfl (d_ineg rfl ?_)
          refine da_op rfl (d_as (v := .int .i64 (IntKind.i64.wrap (0 - ((s3.2).tmod 10)))) rfl ?_)
          refine da_nil ?_
          refine W_seq ?_
          refine W_region rfl ?_
          refine da_op rfl (d_mv (v := .int .i64 (IntKind.i64.wrap (0 - ((s3.2).tmod 10)))) rfl ?_)
          refine da_op rfl (d_iarith rfl rfl (.inl ⟨rfl, rfl⟩) ?_)
          refine da_op rfl (d_iconv un2 un5 rfl ?_)
          have B10 : OS w4 5 encI_u8 (Value.slice i3_0a i3_0n i3_0c) s3.1 := i3_0R.ext E4
          refine da_op rfl (d_bslice (vs := [(0, .int .u8 (IntKind.u8.wrap (IntKind.i64.wrap (48 + (IntKind.i64.wrap (0 - ((s3.2).tmod 10)))))))]) (cs := #[.int .u8 (IntKind.u8.wrap (IntKind.i64.wrap (48 + (IntKind.i64.wrap (0 - ((s3.2).tmod 10))))))]) un73 (pc rfl rfl) (by kernel_rfl) fun w9 B9 E9 => ?_)
          have fr9 : ∀ k, (Value.slice (some ⟨w4.heap.size, 0, none⟩) 1 1).ownBlock = some k → w4.heap.size ≤ k := fun k hk => by cases hk; exact Nat.le_refl _
          have own9 : ∀ k, (Value.slice (some ⟨w4.heap.size, 0, none⟩) 1 1).ownBlock = some k → w.heap.size ≤ k := fun k hk => Nat.le_trans X6.size (fr9 k hk)
          have sp11 : ∀ k, (Value.slice i3_0a i3_0n i3_0c).ownBlock = some k → ¬ (Value.slice (some ⟨w4.heap.size, 0, none⟩) 1 1).ownBlock = some k := apart_fresh B10 fr9
          have X12 : Ext w w9 := X6.trans E9
          have O9 : OS w9 5 encI_u8 (Value.slice (some ⟨w4.heap.size, 0, none⟩) 1 1) [(IntKind.u8.wrap (IntKind.i64.wrap (48 + (IntKind.i64.wrap (0 - ((s3.2).tmod 10))))))] := OS.box (xs := [(IntKind.u8.wrap (IntKind.i64.wrap (48 + (IntKind.i64.wrap (0 - ((s3.2).tmod 10))))))]) B9 (lc_v rfl rfl) (Nat.le_of_ble_eq_true rfl)
          refine da_op rfl (d_mv (v := (Value.slice i3_0a i3_0n i3_0c)) s3_4 ?_)
          obtain ⟨m13, hm13, hr⟩ := bind_out hr
          have B14 : OS w9 5 encI_u8 (Value.slice i3_0a i3_0n i3_0c) s3.1 := B10.ext E9
          refine da_op rfl (d_append (e := encI_u8) (v := (Value.slice (some ⟨w4.heap.size, 0, none⟩) 1 1)) (y := (Value.slice i3_0a i3_0n i3_0c)) un73 info5 rfl (by kernel_rfl) (by kernel_rfl) (by decide) (by decide) rfl rfl O9 B14.rs hm13 fun v15 w15 O15 Fm15 at_15 nl15 => ?_)
          obtain ⟨v15pa, v15pn, v15pc, rfl⟩ := O15.vals
          have own15 : ∀ k, (Value.slice v15pa v15pn v15pc).ownBlock = some k → w.heap.size ≤ k := app_own (w := w9) at_15 own9 X12.size
          have sp16 : ∀ k, (Value.slice i3_0a i3_0n i3_0c).ownBlock = some k → ¬ (Value.slice v15pa v15pn v15pc).ownBlock = some k := app_nr at_15 sp11 B14
          have X17 : Ext w w15 := Ext.step X12 Fm15 (fun k _ hk => own9 k hk)
          refine da_op rfl (d_as (v := (Value.slice v15pa v15pn v15pc)) rfl ?_)
          refine da_nil ?_
          refine W_region rfl ?_
          refine da_op rfl (d_mv (v := .int .i64 s3.2) s4_4 ?_)
          refine da_op rfl (d_quoL rfl rfl (by decide) ?_)
          refine da_op rfl (d_as (v := .int .i64 (IntKind.i64.wrap ((s3.2).tdiv 10))) rfl ?_)
          refine da_nil ?_
          obtain rfl := Option.some.inj hr
          exact ⟨_, rfl, ⟨v15pa, v15pn, v15pc, rfl, rfl, s0_4, O15, own15, X17⟩⟩
        · skip
          replace hr := bif_f hr hc8
          refine W_skip ?_
          refine W_seq ?_
          refine W_region rfl ?_
          refine da_op rfl (d_mv (v := .int .i64 ((s3.2).tmod 10)) rfl ?_)
          refine da_op rfl (d_iarith rfl rfl (.inl ⟨rfl, rfl⟩) ?_)
          refine da_op rfl (d_iconv un2 un5 rfl ?_)
          have B19 : OS w4 5 encI_u8 (Value.slice i3_0a i3_0n i3_0c) s3.1 := i3_0R.ext E4
          refine da_op rfl (d_bslice (vs := [(0, .int .u8 (IntKind.u8.wrap (IntKind.i64.wrap (48 + ((s3.2).tmod 10)))))]) (cs := #[.int .u8 (IntKind.u8.wrap (IntKind.i64.wrap (48 + ((s3.2).tmod 10))))]) un73 (pc rfl rfl) (by kernel_rfl) fun w18 B18 E18 => ?_)
          have fr18 : ∀ k, (Value.slice (some ⟨w4.heap.size, 0, none⟩) 1 1).ownBlock = some k → w4.heap.size ≤ k := fun k hk => by cases hk; exact Nat.le_refl _
          have own18 : ∀ k, (Value.slice (some ⟨w4.heap.size, 0, none⟩) 1 1).ownBlock = some k → w.heap.size ≤ k := fun k hk => Nat.le_trans X6.size (fr18 k hk)
          have sp20 : ∀ k, (Value.slice i3_0a i3_0n i3_0c).ownBlock = some k → ¬ (Value.slice (some ⟨w4.heap.size, 0, none⟩) 1 1).ownBlock = some k := apart_fresh B19 fr18
          have X21 : Ext w w18 := X6.trans E18
          have O18 : OS w18 5 encI_u8 (Value.slice (some ⟨w4.heap.size, 0, none⟩) 1 1) [(IntKind.u8.wrap (IntKind.i64.wrap (48 + ((s3.2).tmod 10))))] := OS.box (xs := [(IntKind.u8.wrap (IntKind.i64.wrap (48 + ((s3.2).tmod 10))))]) B18 (lc_v rfl rfl) (Nat.le_of_ble_eq_true rfl)
          refine da_op rfl (d_mv (v := (Value.slice i3_0a i3_0n i3_0c)) s3_4 ?_)
          obtain ⟨m22, hm22, hr⟩ := bind_out hr
          have B23 : OS w18 5 encI_u8 (Value.slice i3_0a i3_0n i3_0c) s3.1 := B19.ext E18
          refine da_op rfl (d_append (e := encI_u8) (v := (Value.slice (some ⟨w4.heap.size, 0, none⟩) 1 1)) (y := (Value.slice i3_0a i3_0n i3_0c)) un73 info5 rfl (by kernel_rfl) (by kernel_rfl) (by decide) (by decide) rfl rfl O18 B23.rs hm22 fun v24 w24 O24 Fm24 at_24 nl24 => ?_)
          obtain ⟨v24pa, v24pn, v24pc, rfl⟩ := O24.vals
          have own24 : ∀ k, (Value.slice v24pa v24pn v24pc).ownBlock = some k → w.heap.size ≤ k := app_own (w := w18) at_24 own18 X21.size
          have sp25 : ∀ k, (Value.slice i3_0a i3_0n i3_0c).ownBlock = some k → ¬ (Value.slice v24pa v24pn v24pc).ownBlock = some k := app_nr at_24 sp20 B23
          have X26 : Ext w w24 := Ext.step X21 Fm24 (fun k _ hk => own18 k hk)
          refine da_op rfl (d_as (v := (Value.slice v24pa v24pn v24pc)) rfl ?_)
          refine da_nil ?_
          refine W_region rfl ?_
          refine da_op rfl (d_mv (v := .int .i64 s3.2) s4_4 ?_)
          refine da_op rfl (d_quoL rfl rfl (by decide) ?_)
          refine da_op rfl (d_as (v := .int .i64 (IntKind.i64.wrap ((s3.2).tdiv 10))) rfl ?_)
          refine da_nil ?_
          obtain rfl := Option.some.inj hr
          exact ⟨_, rfl, ⟨v24pa, v24pn, v24pc, rfl, rfl, s0_4, O24, own24, X26⟩⟩
      · skip
        replace hr := bif_f hr hc7
        refine W_exit ?_
        have B27 : OS w4 5 encI_u8 (Value.slice i3_0a i3_0n i3_0c) s3.1 := i3_0R.ext E4
        obtain rfl := Option.some.inj hr
        exact ⟨_, rfl, rfl, i3_0a, i3_0n, i3_0c, s3_4, s0_4, B27, i3_0O, X6⟩
  · skip
    intro ex σx3 wx3 hq
    obtain ⟨rfl, q3_0_0a, q3_0_0n, q3_0_0c, q3_0_S3, q3_0_S0, q3_0_0R, q3_0_0O, q3_0_X⟩ := hq
    refine W_seq ?_
    refine W_seq ?_
    refine W_region rfl ?_
    refine da_op rfl (d_mv (v := .int .i64 p0) q3_0_S0 ?_)
    refine da_op rfl (d_icmp cLss rfl rfl ?_)
    refine da_nil ?_
    refine W_cond (b := (icmp .lss p0 0)) rfl (fun hc28 => ?_) (fun hc28 => ?_)
    · skip
      replace hr := bif_t hr hc28
      refine W_region rfl ?_
      refine da_op rfl (d_bslice (vs := [(0, .int .u8 45)]) (cs := #[.int .u8 45]) un73 (pc rfl rfl) (by kernel_rfl) fun w29 B29 E29 => ?_)
      have fr29 : ∀ k, (Value.slice (some ⟨wx3.heap.size, 0, none⟩) 1 1).ownBlock = some k → wx3.heap.size ≤ k := fun k hk => by cases hk; exact Nat.le_refl _
      have own29 : ∀ k, (Value.slice (some ⟨wx3.heap.size, 0, none⟩) 1 1).ownBlock = some k → w.heap.size ≤ k := fun k hk => Nat.le_trans q3_0_X.size (fr29 k hk)
      have sp30 : ∀ k, (Value.slice q3_0_0a q3_0_0n q3_0_0c).ownBlock = some k → ¬ (Value.slice (some ⟨wx3.heap.size, 0, none⟩) 1 1).ownBlock = some k := apart_fresh q3_0_0R fr29
      have X31 : Ext w w29 := q3_0_X.trans E29
      have O29 : OS w29 5 encI_u8 (Value.slice (some ⟨wx3.heap.size, 0, none⟩) 1 1) [45] := OS.box (xs := [45]) B29 (lc_v rfl rfl) (Nat.le_of_ble_eq_true rfl)
      refine da_op rfl (d_mv (v := (Value.slice q3_0_0a q3_0_0n q3_0_0c)) q3_0_S3 ?_)
      obtain ⟨m32, hm32, hr⟩ := bind_out hr
      have B33 : OS w29 5 encI_u8 (Value.slice q3_0_0a q3_0_0n q3_0_0c) m3 := q3_0_0R.ext E29
      refine da_op rfl (d_append (e := encI_u8) (v := (Value.slice (some ⟨wx3.heap.size, 0, none⟩) 1 1)) (y := (Value.slice q3_0_0a q3_0_0n q3_0_0c)) un73 info5 rfl (by kernel_rfl) (by kernel_rfl) (by decide) (by decide) rfl rfl O29 B33.rs hm32 fun v34 w34 O34 Fm34 at_34 nl34 => ?_)
      obtain ⟨v34pa, v34pn, v34pc, rfl⟩ := O34.vals
      have own34 : ∀ k, (Value.slice v34pa v34pn v34pc).ownBlock = some k → w.heap.size ≤ k := app_own (w := w29) at_34 own29 X31.size
      have sp35 : ∀ k, (Value.slice q3_0_0a q3_0_0n q3_0_0c).ownBlock = some k → ¬ (Value.slice v34pa v34pn v34pc).ownBlock = some k := app_nr at_34 sp30 B33
      have X36 : Ext w w34 := Ext.step X31 Fm34 (fun k _ hk => own29 k hk)
      refine da_op rfl (d_as (v := (Value.slice v34pa v34pn v34pc)) rfl ?_)
      refine da_nil ?_
      refine W_seq ?_
      refine W_region rfl ?_
      refine da_op rfl (d_mv (v := (Value.slice v34pa v34pn v34pc)) rfl ?_)
      refine da_op rfl (d_bstr (e := encI_u8) (v := (Value.slice v34pa v34pn v34pc)) rfl un73 un5 un9 rfl O34.rs ?_)
      refine da_op rfl (d_as (v := .string (bs (u8s m32))) rfl ?_)
      refine da_nil ?_
      refine W_ret ?_
      obtain rfl := Option.some.inj hr
      refine ⟨_, res1 (rv_tmp rfl), ?_⟩
      exact ⟨rfl, X36⟩
    · skip
      replace hr := bif_f hr hc28
      refine W_skip ?_
      refine W_seq ?_
      refine W_region rfl ?_
      refine da_op rfl (d_mv (v := (Value.slice q3_0_0a q3_0_0n q3_0_0c)) q3_0_S3 ?_)
      refine da_op rfl (d_bstr (e := encI_u8) (v := (Value.slice q3_0_0a q3_0_0n q3_0_0c)) rfl un73 un5 un9 rfl q3_0_0R.rs ?_)
      refine da_op rfl (d_as (v := .string (bs (u8s m3))) rfl ?_)
      refine da_nil ?_
      refine W_ret ?_
      obtain rfl := Option.some.inj hr
      refine ⟨_, res1 (rv_tmp rfl), ?_⟩
      exact ⟨rfl, q3_0_X⟩
set_option maxHeartbeats 4000000 in
theorem c61 (p0 : List UInt8) (r : List (List UInt8) × Int) (w : World) (hr : M.spec_l08Recover p0 = some r)  :
    Calls Tryd.prog 61 #[.string (bs p0)] w fun e w' => ∃ q0a : Option Addr, ∃ q0n : Nat, ∃ q0c : Nat, e = .returned (.tuple #[(Value.slice q0a q0n q0c), .int .i64 r.2]) ∧ OS w' 9 encS (Value.slice q0a q0n q0c) r.1 ∧ (∀ k, (Value.slice q0a q0n q0c).ownBlock = some k → w.heap.size ≤ k) ∧ Ext w w' := by
  refine calls_of_W Tryd.func61 rfl (Nat.le_of_ble_eq_true rfl) ?_
  refine W_seq ?_
  refine W_region rfl ?_
  refine da_op rfl (d_as (v := .slice none 0 0) rfl ?_)
  refine da_op rfl (d_as (v := .int .i64 0) rfl ?_)
  refine da_nil ?_
  refine W_seq ?_
  refine W_region rfl ?_
  refine da_op rfl (d_mv (v := .string (bs p0)) rfl ?_)
  obtain ⟨m1, hm1, hr⟩ := bind_out hr
  refine da_op rfl (d_cl (vs := [.string (bs p0)]) en116 (ac rfl rfl) rfl ?_)
  refine (c116 p0 m1 w hm1 ).mono ?_
  rintro _ w2 ⟨q2_0a, q2_0n, q2_0c, rfl, q2_0R, q2_0F, E2⟩
  refine ⟨_, rfl, ?_⟩
  have own3 : ∀ k, (Value.slice q2_0a q2_0n q2_0c).ownBlock = some k → w.heap.size ≤ k := fun k hk => Nat.le_trans (Ext.refl w).size (q2_0F k hk)
  have X4 : Ext w w2 := (Ext.refl w).trans E2
  refine da_op rfl (d_mv (v := .tuple #[(Value.slice q2_0a q2_0n q2_0c), .string (bs m1.2)]) rfl ?_)
  refine da_op rfl (d_extract (v := (Value.slice q2_0a q2_0n q2_0c)) rfl rfl ?_)
  refine da_op rfl (d_extract (v := .string (bs m1.2)) rfl rfl ?_)
  refine da_op rfl (d_as (v := (Value.slice q2_0a q2_0n q2_0c)) rfl ?_)
  refine da_op rfl (d_as (v := .string (bs m1.2)) rfl ?_)
  refine da_nil ?_
  refine W_seq ?_
  refine W_region rfl ?_
  refine da_op rfl (d_bslice0 un34 size9 fun w5 B5 E5 => ?_)
  have fr5 : ∀ k, (Value.slice (some ⟨w2.heap.size, 0, none⟩) 0 0).ownBlock = some k → w2.heap.size ≤ k := fun k hk => by cases hk; exact Nat.le_refl _
  have own5 : ∀ k, (Value.slice (some ⟨w2.heap.size, 0, none⟩) 0 0).ownBlock = some k → w.heap.size ≤ k := fun k hk => Nat.le_trans X4.size (fr5 k hk)
  have sp6 : ∀ k, (Value.slice q2_0a q2_0n q2_0c).ownBlock = some k → ¬ (Value.slice (some ⟨w2.heap.size, 0, none⟩) 0 0).ownBlock = some k := apart_freshR q2_0R fr5
  have X7 : Ext w w5 := X4.trans E5
  have O5 : OS w5 9 encS (Value.slice (some ⟨w2.heap.size, 0, none⟩) 0 0) ([] : List (List UInt8)) := OS.box (xs := ([] : List (List UInt8))) B5 rfl (Nat.le_of_ble_eq_true rfl)
  refine da_op rfl (d_as (v := (Value.slice (some ⟨w2.heap.size, 0, none⟩) 0 0)) rfl ?_)
  refine da_nil ?_
  refine W_seq ?_
  refine W_region rfl ?_
  refine da_op rfl (d_as (v := .int .i64 0) rfl ?_)
  refine da_nil ?_
  refine W_seq ?_
  refine W_region rfl ?_
  refine da_op rfl (d_as (v := .int .i64 0) rfl ?_)
  refine da_nil ?_
  refine W_seq ?_
  refine W_seq ?_
  refine W_region rfl ?_
  refine da_op rfl (d_as (v := .int .i64 0) rfl ?_)
  refine da_nil ?_
  refine W_block ?_
  have B9 : RS w5 encS (Value.slice q2_0a q2_0n q2_0c) m1.1 := q2_0R.ext E5
  obtain ⟨m8, hm8, hr⟩ := bind_out hr
  refine W_loopM hm8 (fun (s8 : List (List UInt8) × Int × Int × Int) σ w' => ∃ i8_0a : Option Addr, ∃ i8_0n : Nat, ∃ i8_0c : Nat, σ 6 = (Value.slice i8_0a i8_0n i8_0c) ∧ σ 7 = .int .i64 s8.2.1 ∧ σ 8 = .int .i64 s8.2.2.1 ∧ σ 9 = .int .i64 s8.2.2.2 ∧ σ 4 = (Value.slice q2_0a q2_0n q2_0c) ∧ OS w' 9 encS (Value.slice i8_0a i8_0n i8_0c) s8.1 ∧ (∀ k, (Value.slice i8_0a i8_0n i8_0c).ownBlock = some k → w.heap.size ≤ k) ∧ RS w' encS (Value.slice q2_0a q2_0n q2_0c) m1.1 ∧ (∀ k, (Value.slice q2_0a q2_0n q2_0c).ownBlock = some k → ¬ (Value.slice i8_0a i8_0n i8_0c).ownBlock = some k) ∧ Ext w w') (fun (e8 : (List (List UInt8) × Int)) ex σ w' => ex = .exit 0 ∧ ∃ q8_0_0a : Option Addr, ∃ q8_0_0n : Nat, ∃ q8_0_0c : Nat, σ 6 = (Value.slice q8_0_0a q8_0_0n q8_0_0c) ∧ σ 8 = .int .i64 e8.2 ∧ OS w' 9 encS (Value.slice q8_0_0a q8_0_0n q8_0_0c) e8.1 ∧ (∀ k, (Value.slice q8_0_0a q8_0_0n q8_0_0c).ownBlock = some k → w.heap.size ≤ k) ∧ Ext w w') ⟨(some ⟨w2.heap.size, 0, none⟩), 0, 0, rfl, rfl, rfl, rfl, rfl, O5, own5, B9, sp6, X7⟩ ?_ ?_
  · skip
    rintro s8 σl8 wl8 r8l ⟨i8_0a, i8_0n, i8_0c, i8_S6, i8_S7, i8_S8, i8_S9, i8_S4, i8_0R, i8_0O, i8_K0, i8_A0, i8_X⟩ hr
    refine W_seq ?_
    refine W_seq ?_
    refine W_region rfl ?_
    refine da_op rfl (d_mv (v := .int .i64 s8.2.2.2) i8_S9 ?_)
    refine da_op rfl (d_mv (v := (Value.slice q2_0a q2_0n q2_0c)) i8_S4 ?_)
    refine da_op rfl (d_len (e := encS) un34 rfl i8_K0 ?_)
    refine da_op rfl (d_icmp cLss rfl rfl ?_)
    refine da_nil ?_
    refine W_cond (b := (icmp .lss s8.2.2.2 ((m1.1).length : Int))) rfl (fun hc10 => ?_) (fun hc10 => ?_)
    · skip
      replace hr := bif_t hr hc10
      refine W_skip ?_
      refine W_seq ?_
      refine W_block ?_
      refine W_seq ?_
      refine W_region rfl ?_
      refine da_op rfl (d_as (v := .int .i64 0) rfl ?_)
      refine da_nil ?_
      refine W_seq ?_
      refine W_block ?_
      obtain ⟨m11, hm11, hr⟩ := bind_out hr
      refine W_loopM hm11 (fun (s11 : Int) σ w' => σ 10 = .int .i64 s11 ∧ σ 4 = (Value.slice q2_0a q2_0n q2_0c) ∧ σ 6 = (Value.slice i8_0a i8_0n i8_0c) ∧ σ 7 = .int .i64 s8.2.1 ∧ σ 8 = .int .i64 s8.2.2.1 ∧ σ 9 = .int .i64 s8.2.2.2 ∧ RS w' encS (Value.slice q2_0a q2_0n q2_0c) m1.1 ∧ OS w' 9 encS (Value.slice i8_0a i8_0n i8_0c) s8.1 ∧ Ext w w') (fun (e11 : Int) ex σ w' => ex = .exit 2 ∧ σ 10 = .int .i64 e11 ∧ σ 4 = (Value.slice q2_0a q2_0n q2_0c) ∧ σ 6 = (Value.slice i8_0a i8_0n i8_0c) ∧ σ 7 = .int .i64 s8.2.1 ∧ σ 8 = .int .i64 s8.2.2.1 ∧ σ 9 = .int .i64 s8.2.2.2 ∧ RS w' encS (Value.slice q2_0a q2_0n q2_0c) m1.1 ∧ OS w' 9 encS (Value.slice i8_0a i8_0n i8_0c) s8.1 ∧ Ext w w') ⟨rfl, i8_S4, i8_S6, i8_S7, i8_S8, i8_S9, i8_K0, i8_0R, i8_X⟩ ?_ ?_
      · skip
        rintro s11 σl11 wl11 r11l ⟨i11_S10, i11_S4, i11_S6, i11_S7, i11_S8, i11_S9, i11_K0, i11_K1, i11_X⟩ hr
        refine W_seq ?_
        refine W_seq ?_
        obtain ⟨m12, hm12, hr⟩ := bind_out hr
        refine W_cut (fun σ' w' => σ' 39 = .bool m12 ∧ Ext wl11 w') rfl ?_ ?_
        · skip
          have hr := hm12
          refine da_op rfl (d_mv (v := .int .i64 s11) i11_S10 ?_)
          refine da_op rfl (d_mv (v := (Value.slice q2_0a q2_0n q2_0c)) i11_S4 ?_)
          refine da_op rfl (d_mv (v := .int .i64 s8.2.2.2) i11_S9 ?_)
          obtain ⟨m13, hm13, hr⟩ := bind_out hr
          refine da_op rfl (d_index (e := encS) (v := (Value.slice q2_0a q2_0n q2_0c)) un34 size9 rfl rfl i11_K0 hm13 fun g14 o14 cu14 T14 fr14 vs14 hv14 hg14 hp14 hq14 => ?_)
          obtain rfl := dec_encS hq14
          refine da_op rfl (d_load (v := .string (bs m13)) rfl agg9 hg14 (sub_get (vs := #[.string (bs m13)]) hp14 (i := 0) rfl) ?_)
          refine da_op rfl (d_slen un9 rfl ?_)
          refine da_op rfl (d_icmp cLss rfl rfl ?_)
          refine da_op rfl (d_mv (v := .bool (icmp .lss s11 ((m13).length : Int))) rfl ?_)
          rcases Bool.eq_false_or_eq_true (icmp .lss s11 ((m13).length : Int)) with hc15 | hc15
          · skip
            replace hr := bif_t hr hc15
            refine da_on rfl (Eq.trans (show sl _ _ _ = .bool (icmp .lss s11 ((m13).length : Int)) from rfl) (congrArg Value.bool hc15)) (d_mv (v := (Value.slice q2_0a q2_0n q2_0c)) i11_S4 ?_)
            refine da_on rfl (Eq.trans (show sl _ _ _ = .bool (icmp .lss s11 ((m13).length : Int)) from rfl) (congrArg Value.bool hc15)) (d_mv (v := .int .i64 s8.2.2.2) i11_S9 ?_)
            obtain ⟨m16, hm16, hr⟩ := bind_out hr
            refine da_on rfl (Eq.trans (show sl _ _ _ = .bool (icmp .lss s11 ((m13).length : Int)) from rfl) (congrArg Value.bool hc15)) (d_index (e := encS) (v := (Value.slice q2_0a q2_0n q2_0c)) un34 size9 rfl rfl i11_K0 hm16 fun g17 o17 cu17 T17 fr17 vs17 hv17 hg17 hp17 hq17 => ?_)
            obtain rfl := dec_encS hq17
            refine da_on rfl (Eq.trans (show sl _ _ _ = .bool (icmp .lss s11 ((m13).length : Int)) from rfl) (congrArg Value.bool hc15)) (d_load (v := .string (bs m16)) rfl agg9 hg17 (sub_get (vs := #[.string (bs m16)]) hp17 (i := 0) rfl) ?_)
            refine da_on rfl (Eq.trans (show sl _ _ _ = .bool (icmp .lss s11 ((m13).length : Int)) from rfl) (congrArg Value.bool hc15)) (d_mv (v := .int .i64 s11) i11_S10 ?_)
            obtain ⟨m18, hm18, hr⟩ := bind_out hr
            refine da_on rfl (Eq.trans (show sl _ _ _ = .bool (icmp .lss s11 ((m13).length : Int)) from rfl) (congrArg Value.bool hc15)) (d_sidx un9 rfl rfl hm18 ?_)
            refine da_on rfl (Eq.trans (show sl _ _ _ = .bool (icmp .lss s11 ((m13).length : Int)) from rfl) (congrArg Value.bool hc15)) (d_icmp cNeq rfl rfl ?_)
            refine da_op rfl (d_pick (b := true) (Eq.trans (show ev _ _ = .bool (icmp .lss s11 ((m13).length : Int)) from rfl) (congrArg Value.bool hc15)) ?_)
            refine da_nil ?_
            obtain rfl := Option.some.inj hr
            exact ⟨rfl, (Ext.refl wl11)⟩
          · skip
            replace hr := bif_f hr hc15
            refine da_off rfl (Eq.trans (show sl _ _ _ = .bool (icmp .lss s11 ((m13).length : Int)) from rfl) (congrArg Value.bool hc15)) (by decide) ?_
            refine da_off rfl (Eq.trans (show sl _ _ _ = .bool (icmp .lss s11 ((m13).length : Int)) from rfl) (congrArg Value.bool hc15)) (by decide) ?_
            refine da_off rfl (Eq.trans (show sl _ _ _ = .bool (icmp .lss s11 ((m13).length : Int)) from rfl) (congrArg Value.bool hc15)) (by decide) ?_
            refine da_off rfl (Eq.trans (show sl _ _ _ = .bool (icmp .lss s11 ((m13).length : Int)) from rfl) (congrArg Value.bool hc15)) (by decide) ?_
            refine da_off rfl (Eq.trans (show sl _ _ _ = .bool (icmp .lss s11 ((m13).length : Int)) from rfl) (congrArg Value.bool hc15)) (by decide) ?_
            refine da_off rfl (Eq.trans (show sl _ _ _ = .bool (icmp .lss s11 ((m13).length : Int)) from rfl) (congrArg Value.bool hc15)) (by decide) ?_
            refine da_off rfl (Eq.trans (show sl _ _ _ = .bool (icmp .lss s11 ((m13).length : Int)) from rfl) (congrArg Value.bool hc15)) (by decide) ?_
            refine da_op rfl (d_pick (b := false) (Eq.trans (show ev _ _ = .bool (icmp .lss s11 ((m13).length : Int)) from rfl) (congrArg Value.bool hc15)) ?_)
            refine da_nil ?_
            obtain rfl := Option.some.inj hr
            exact ⟨rfl, (Ext.refl wl11)⟩
        · skip
          rintro σ12 w12 o12 ⟨s39_12, E12⟩
          have s10_12 : σ12 10 = .int .i64 s11 := (o12 10 rfl).trans i11_S10
          have s4_12 : σ12 4 = (Value.slice q2_0a q2_0n q2_0c) := (o12 4 rfl).trans i11_S4
          have s6_12 : σ12 6 = (Value.slice i8_0a i8_0n i8_0c) := (o12 6 rfl).trans i11_S6
          have s7_12 : σ12 7 = .int .i64 s8.2.1 := (o12 7 rfl).trans i11_S7
          have s8_12 : σ12 8 = .int .i64 s8.2.2.1 := (o12 8 rfl).trans i11_S8
          have s9_12 : σ12 9 = .int .i64 s8.2.2.2 := (o12 9 rfl).trans i11_S9
          have X19 : Ext w w12 := i11_X.trans E12
          refine W_cond (b := m12) s39_12 (fun hc20 => ?_) (fun hc20 => ?_)
          · skip
            replace hr := bif_t hr hc20
            refine W_skip ?_
            refine W_block ?_
            refine W_region rfl ?_
            refine da_op rfl (d_mv (v := .int .i64 s11) s10_12 ?_)
            refine da_op rfl (d_iarith rfl rfl (.inl ⟨rfl, rfl⟩) ?_)
            refine da_op rfl (d_as (v := .int .i64 (IntKind.i64.wrap (s11 + 1))) rfl ?_)
            refine da_nil ?_
            have B21 : RS w12 encS (Value.slice q2_0a q2_0n q2_0c) m1.1 := i11_K0.ext E12
            have B22 : OS w12 9 encS (Value.slice i8_0a i8_0n i8_0c) s8.1 := i11_K1.ext E12
            obtain rfl := Option.some.inj hr
            exact ⟨_, rfl, ⟨rfl, s4_12, s6_12, s7_12, s8_12, s9_12, B21, B22, X19⟩⟩
          · skip
            replace hr := bif_f hr hc20
            refine W_exit ?_
            have B23 : RS w12 encS (Value.slice q2_0a q2_0n q2_0c) m1.1 := i11_K0.ext E12
            have B24 : OS w12 9 encS (Value.slice i8_0a i8_0n i8_0c) s8.1 := i11_K1.ext E12
            obtain rfl := Option.some.inj hr
            exact ⟨_, rfl, rfl, s10_12, s4_12, s6_12, s7_12, s8_12, s9_12, B23, B24, X19⟩
      · skip
        intro ex σx11 wx11 hq
        obtain ⟨rfl, q11_0_S10, q11_0_S4, q11_0_S6, q11_0_S7, q11_0_S8, q11_0_S9, q11_0_K0, q11_0_K1, q11_0_X⟩ := hq
        refine W_seq ?_
        refine W_seq ?_
        refine W_region rfl ?_
        refine da_op rfl (d_mv (v := .int .i64 m11) q11_0_S10 ?_)
        refine da_op rfl (d_mv (v := (Value.slice q2_0a q2_0n q2_0c)) q11_0_S4 ?_)
        refine da_op rfl (d_mv (v := .int .i64 s8.2.2.2) q11_0_S9 ?_)
        obtain ⟨m25, hm25, hr⟩ := bind_out hr
        refine da_op rfl (d_index (e := encS) (v := (Value.slice q2_0a q2_0n q2_0c)) un34 size9 rfl rfl q11_0_K0 hm25 fun g26 o26 cu26 T26 fr26 vs26 hv26 hg26 hp26 hq26 => ?_)
        obtain rfl := dec_encS hq26
        refine da_op rfl (d_load (v := .string (bs m25)) rfl agg9 hg26 (sub_get (vs := #[.string (bs m25)]) hp26 (i := 0) rfl) ?_)
        refine da_op rfl (d_slen un9 rfl ?_)
        refine da_op rfl (d_icmp cEql rfl rfl ?_)
        refine da_nil ?_
        refine W_cond (b := (icmp .eql m11 ((m25).length : Int))) rfl (fun hc27 => ?_) (fun hc27 => ?_)
        · skip
          replace hr := bif_t hr hc27
          refine W_exit ?_
          obtain rfl := Option.some.inj hr
          exact ⟨_, rfl, rfl, i8_0a, i8_0n, i8_0c, q11_0_S6, q11_0_S8, q11_0_K1, i8_0O, q11_0_X⟩
        · skip
          replace hr := bif_f hr hc27
          refine W_skip ?_
          refine W_seq ?_
          refine W_region rfl ?_
          refine da_op rfl (d_mv (v := (Value.slice q2_0a q2_0n q2_0c)) q11_0_S4 ?_)
          refine da_op rfl (d_mv (v := .int .i64 s8.2.2.2) q11_0_S9 ?_)
          obtain ⟨m28, hm28, hr⟩ := bind_out hr
          refine da_op rfl (d_index (e := encS) (v := (Value.slice q2_0a q2_0n q2_0c)) un34 size9 rfl rfl q11_0_K0 hm28 fun g29 o29 cu29 T29 fr29 vs29 hv29 hg29 hp29 hq29 => ?_)
          obtain rfl := dec_encS hq29
          refine da_op rfl (d_load (v := .string (bs m28)) rfl agg9 hg29 (sub_get (vs := #[.string (bs m28)]) hp29 (i := 0) rfl) ?_)
          refine da_op rfl (d_mv (v := .int .i64 m11) q11_0_S10 ?_)
          refine da_op rfl (d_iarith rfl rfl (.inl ⟨rfl, rfl⟩) ?_)
          obtain ⟨m30, hm30, hr⟩ := bind_out hr
          refine da_op rfl (d_ssub (a := (IntKind.i64.wrap (m11 + 1))) (b := ((m28).length : Int)) un9 rfl (.inr ⟨_, _, rfl, rfl⟩) (.inl ⟨rfl, rfl⟩) hm30 ?_)
          refine da_op rfl (d_as (v := .string (bs m30)) rfl ?_)
          refine da_nil ?_
          refine W_seq ?_
          refine W_region rfl ?_
          refine da_op rfl (d_mv (v := .int .i64 s8.2.1) q11_0_S7 ?_)
          refine da_op rfl (d_mv (v := .string (bs m30)) rfl ?_)
          obtain ⟨m31, hm31, hr⟩ := bind_out hr
          refine da_op rfl (d_cl (vs := [.int .i64 s8.2.1, .string (bs m30)]) en111 (ac rfl (ac rfl rfl)) rfl ?_)
          refine (c111 s8.2.1 m30 m31 wx11 hm31 ).mono ?_
          rintro _ w32 ⟨rfl, E32⟩
          refine ⟨_, rfl, ?_⟩
          have X33 : Ext w w32 := q11_0_X.trans E32
          refine da_op rfl (d_as (v := .int .i64 m31) rfl ?_)
          refine da_nil ?_
          refine W_seq ?_
          refine W_seq ?_
          have B35 : RS w32 encS (Value.slice q2_0a q2_0n q2_0c) m1.1 := q11_0_K0.ext E32
          have B36 : OS w32 9 encS (Value.slice i8_0a i8_0n i8_0c) s8.1 := q11_0_K1.ext E32
          obtain ⟨m37, hm37, hr⟩ := bind_out hr
          obtain ⟨m38, hm38, hr⟩ := bind_out hr
          obtain ⟨m39, hm39, hr⟩ := bind_out hr
          refine W_any [] [{ V := fun _ v _ => v = (Value.slice q2_0a q2_0n q2_0c) }, { V := fun _ v _ => v = (.int .i64 s8.2.2.2) }, { V := fun _ v _ => ∃ d34_2g : Nat, ∃ d34_2o : Nat, v = (.pointer (some ⟨d34_2g, d34_2o, none⟩)) ∧ EL encS (Value.slice q2_0a q2_0n q2_0c) (m1.1).length s8.2.2.2 d34_2g d34_2o }, { V := fun _ v _ => v = (.string (bs m37)) }, { V := fun _ v _ => v = (.int .i64 m11) }, { V := fun _ v _ => v = (.string (bs m38)) }, { V := fun _ v _ => v = (.int .i64 m31) }, { V := fun _ v _ => v = (.string (bs m39)) }, { V := fun _ v _ => v = (.bool (!(m38 == m39))) }] mixed (by kernel_rfl) ⟨trivial, trivial, trivial, trivial, trivial, trivial, trivial, trivial, trivial, trivial⟩ ⟨?_, ?_, ?_, ?_, ?_, ?_, ?_, ?_, ?_, trivial⟩ ?_
          · skip
            refine ⟨fun _ _ _ _ _ _ h _ => h, fun _ _ h _ => h, fun σ' w' hA hE hD hP => ?_⟩
            have t4 : σ' 4 = (Value.slice q2_0a q2_0n q2_0c) := (hA 4 rfl).trans q11_0_S4
            have B0_40 : RS w' encS (Value.slice q2_0a q2_0n q2_0c) m1.1 := B35.frm hE (fun k _ hk => not_oth0)
            refine dg_op rfl (d_mv (v := (Value.slice q2_0a q2_0n q2_0c)) t4 ?_)
            exact ⟨rfl, own_none (Ext.refl w')⟩
          · skip
            refine ⟨fun _ _ _ _ _ _ h _ => h, fun _ _ h _ => h, fun σ' w' hA hE hD hP => ?_⟩
            have t9 : σ' 9 = .int .i64 s8.2.2.2 := (hA 9 rfl).trans q11_0_S9
            refine dg_op rfl (d_mv (v := .int .i64 s8.2.2.2) t9 ?_)
            exact ⟨rfl, own_none (Ext.refl w')⟩
          · skip
            refine ⟨fun _ _ _ _ _ _ h _ => h, fun _ _ h _ => h, fun σ' w' hA hE hD hP => ?_⟩
            have t59 : σ' 59 = (Value.slice q2_0a q2_0n q2_0c) := hD 0 rfl
            have t60 : σ' 60 = (.int .i64 s8.2.2.2) := hD 1 rfl
            have B0_41 : RS w' encS (Value.slice q2_0a q2_0n q2_0c) m1.1 := B35.frm hE (fun k _ hk => not_oth0)
            refine dg_op rfl (d_indexE (e := encS) (v := (Value.slice q2_0a q2_0n q2_0c)) un34 size9 t59 t60 B0_41 hm37 fun g42 o42 l42 => ?_)
            exact ⟨⟨g42, o42, rfl, l42⟩, own_none (Ext.refl _)⟩
          · skip
            refine ⟨fun _ _ _ _ _ _ h _ => h, fun _ _ h _ => h, fun σ' w' hA hE hD hP => ?_⟩
            obtain ⟨d34_2g, d34_2o, t61, d34_2gE⟩ : ∃ d34_2g : Nat, ∃ d34_2o : Nat, σ' 61 = (.pointer (some ⟨d34_2g, d34_2o, none⟩)) ∧ EL encS (Value.slice q2_0a q2_0n q2_0c) (m1.1).length s8.2.2.2 d34_2g d34_2o := hD 2 rfl
            have B0_43 : RS w' encS (Value.slice q2_0a q2_0n q2_0c) m1.1 := B35.frm hE (fun k _ hk => not_oth0)
            obtain ⟨d34_2c, d34_2T, d34_2f, d34_2vs, d34_2hg, d34_2P, d34_2hq⟩ := RS.el B0_43 d34_2gE hm37
            obtain rfl := dec_encS d34_2hq
            refine dg_op rfl (d_load (v := .string (bs m37)) t61 agg9 d34_2hg (sub_get (vs := #[.string (bs m37)]) d34_2P (i := 0) rfl) ?_)
            exact ⟨rfl, own_none (Ext.refl w')⟩
          · skip
            refine ⟨fun _ _ _ _ _ _ h _ => h, fun _ _ h _ => h, fun σ' w' hA hE hD hP => ?_⟩
            have t10 : σ' 10 = .int .i64 m11 := (hA 10 rfl).trans q11_0_S10
            refine dg_op rfl (d_mv (v := .int .i64 m11) t10 ?_)
            exact ⟨rfl, own_none (Ext.refl w')⟩
          · skip
            refine ⟨fun _ _ _ _ _ _ h _ => h, fun _ _ h _ => h, fun σ' w' hA hE hD hP => ?_⟩
            have t62 : σ' 62 = (.string (bs m37)) := hD 3 rfl
            have t63 : σ' 63 = (.int .i64 m11) := hD 4 rfl
            refine dg_op rfl (d_ssub (a := 0) (b := m11) un9 t62 (.inl ⟨rfl, rfl⟩) (.inr ⟨_, _, rfl, t63⟩) hm38 ?_)
            exact ⟨rfl, own_none (Ext.refl w')⟩
          · skip
            refine ⟨fun _ _ _ _ _ _ h _ => h, fun _ _ h _ => h, fun σ' w' hA hE hD hP => ?_⟩
            have t7 : σ' 7 = .int .i64 m31 := (hA 7 rfl).trans rfl
            refine dg_op rfl (d_mv (v := .int .i64 m31) t7 ?_)
            exact ⟨rfl, own_none (Ext.refl w')⟩
          · skip
            refine ⟨fun _ _ _ _ _ _ h _ => h, fun _ _ h _ => h, fun σ' w' hA hE hD hP => ?_⟩
            have t65 : σ' 65 = (.int .i64 m31) := hD 6 rfl
            refine dg_op rfl (d_cl (vs := [.int .i64 m31]) en112 (ac t65 rfl) rfl ?_)
            refine (c112 m31 m39 w' hm39 ).mono ?_
            rintro _ w44 ⟨rfl, E44⟩
            refine ⟨_, rfl, ?_⟩
            have X45 : Ext w' w44 := (Ext.refl w').trans E44
            exact ⟨rfl, own_none X45⟩
          · skip
            refine ⟨fun _ _ _ _ _ _ h _ => h, fun _ _ h _ => h, fun σ' w' hA hE hD hP => ?_⟩
            have t64 : σ' 64 = (.string (bs m38)) := hD 5 rfl
            have t66 : σ' 66 = (.string (bs m39)) := hD 7 rfl
            refine dg_op rfl (d_sne t64 t66 ?_)
            exact ⟨rfl, own_none (Ext.refl w')⟩
          · skip
            intro σ34 w34 A34 E34 V34
            have E34x : Ext w32 w34 := ext_of_oth0 E34
            have s67_34 : σ34 67 = (.bool (!(m38 == m39))) := V34 8 (Nat.le_of_ble_eq_true rfl)
            have s4_34 : σ34 4 = (Value.slice q2_0a q2_0n q2_0c) := (A34 4 rfl).trans q11_0_S4
            have s6_34 : σ34 6 = (Value.slice i8_0a i8_0n i8_0c) := (A34 6 rfl).trans q11_0_S6
            have s7_34 : σ34 7 = .int .i64 m31 := (A34 7 rfl).trans rfl
            have s8_34 : σ34 8 = .int .i64 s8.2.2.1 := (A34 8 rfl).trans q11_0_S8
            have s9_34 : σ34 9 = .int .i64 s8.2.2.2 := (A34 9 rfl).trans q11_0_S9
            have s11_34 : σ34 11 = .string (bs m30) := (A34 11 rfl).trans rfl
            have X46 : Ext w w34 := X33.trans E34x
            refine W_cond (b := (!(m38 == m39))) s67_34 (fun hc47 => ?_) (fun hc47 => ?_)
            · skip
              replace hr := bif_t hr hc47
              refine W_exit ?_
              have B48 : OS w34 9 encS (Value.slice i8_0a i8_0n i8_0c) s8.1 := B36.ext E34x
              obtain rfl := Option.some.inj hr
              exact ⟨_, rfl, rfl, i8_0a, i8_0n, i8_0c, s6_34, s8_34, B48, i8_0O, X46⟩
            · skip
              replace hr := bif_f hr hc47
              refine W_skip ?_
              refine W_seq ?_
              refine W_region rfl ?_
              refine da_op rfl (d_mv (v := (Value.slice i8_0a i8_0n i8_0c)) s6_34 ?_)
              refine da_op rfl (d_mv (v := .string (bs m30)) s11_34 ?_)
              have B50 : RS w34 encS (Value.slice q2_0a q2_0n q2_0c) m1.1 := B35.ext E34x
              have B51 : OS w34 9 encS (Value.slice i8_0a i8_0n i8_0c) s8.1 := B36.ext E34x
              refine da_op rfl (d_bslice (vs := [(0, .string (bs m30))]) (cs := #[.string (bs m30)]) un34 (pc rfl rfl) (by kernel_rfl) fun w49 B49 E49 => ?_)
              have fr49 : ∀ k, (Value.slice (some ⟨w34.heap.size, 0, none⟩) 1 1).ownBlock = some k → w34.heap.size ≤ k := fun k hk => by cases hk; exact Nat.le_refl _
              have own49 : ∀ k, (Value.slice (some ⟨w34.heap.size, 0, none⟩) 1 1).ownBlock = some k → w.heap.size ≤ k := fun k hk => Nat.le_trans X46.size (fr49 k hk)
              have sp52 : ∀ k, (Value.slice q2_0a q2_0n q2_0c).ownBlock = some k → ¬ (Value.slice (some ⟨w34.heap.size, 0, none⟩) 1 1).ownBlock = some k := apart_freshR B50 fr49
              have sp53 : ∀ k, (Value.slice i8_0a i8_0n i8_0c).ownBlock = some k → ¬ (Value.slice (some ⟨w34.heap.size, 0, none⟩) 1 1).ownBlock = some k := apart_fresh B51 fr49
              have X54 : Ext w w49 := X46.trans E49
              have O49 : OS w49 9 encS (Value.slice (some ⟨w34.heap.size, 0, none⟩) 1 1) [m30] := OS.box (xs := [m30]) B49 (lc_v rfl rfl) (Nat.le_of_ble_eq_true rfl)
              obtain ⟨m55, hm55, hr⟩ := bind_out hr
              have B56 : OS w49 9 encS (Value.slice i8_0a i8_0n i8_0c) s8.1 := B51.ext E49
              have B57 : RS w49 encS (Value.slice q2_0a q2_0n q2_0c) m1.1 := B50.ext E49
              refine da_op rfl (d_append (e := encS) (v := (Value.slice i8_0a i8_0n i8_0c)) (y := (Value.slice (some ⟨w34.heap.size, 0, none⟩) 1 1)) un34 info9 rfl (by kernel_rfl) (by kernel_rfl) (by decide) (by decide) rfl rfl B56 O49.rs hm55 fun v58 w58 O58 Fm58 at_58 nl58 => ?_)
              obtain ⟨v58pa, v58pn, v58pc, rfl⟩ := O58.vals
              have own58 : ∀ k, (Value.slice v58pa v58pn v58pc).ownBlock = some k → w.heap.size ≤ k := app_own (w := w49) at_58 i8_0O X54.size
              have sp59 : ∀ k, (Value.slice q2_0a q2_0n q2_0c).ownBlock = some k → ¬ (Value.slice v58pa v58pn v58pc).ownBlock = some k := app_nrR at_58 i8_A0 B57
              have sp60 : ∀ k, (Value.slice (some ⟨w34.heap.size, 0, none⟩) 1 1).ownBlock = some k → ¬ (Value.slice v58pa v58pn v58pc).ownBlock = some k := app_nr at_58 (apart_symm sp53) O49
              have X61 : Ext w w58 := Ext.step X54 Fm58 (fun k _ hk => i8_0O k hk)
              refine da_op rfl (d_as (v := (Value.slice v58pa v58pn v58pc)) rfl ?_)
              refine da_nil ?_
              refine W_region rfl ?_
              refine da_op rfl (d_mv (v := .int .i64 s8.2.2.1) s8_34 ?_)
              refine da_op rfl (d_mv (v := (Value.slice q2_0a q2_0n q2_0c)) s4_34 ?_)
              refine da_op rfl (d_mv (v := .int .i64 s8.2.2.2) s9_34 ?_)
              obtain ⟨m62, hm62, hr⟩ := bind_out hr
              have B64 : RS w58 encS (Value.slice q2_0a q2_0n q2_0c) m1.1 := B57.frm Fm58 (fun k _ => i8_A0 k)
              refine da_op rfl (d_index (e := encS) (v := (Value.slice q2_0a q2_0n q2_0c)) un34 size9 rfl rfl B64 hm62 fun g63 o63 cu63 T63 fr63 vs63 hv63 hg63 hp63 hq63 => ?_)
              obtain rfl := dec_encS hq63
              refine da_op rfl (d_load (v := .string (bs m62)) rfl agg9 hg63 (sub_get (vs := #[.string (bs m62)]) hp63 (i := 0) rfl) ?_)
              refine da_op rfl (d_slen un9 rfl ?_)
              refine da_op rfl (d_iarith rfl rfl (.inl ⟨rfl, rfl⟩) ?_)
              refine da_op rfl (d_iarith rfl rfl (.inl ⟨rfl, rfl⟩) ?_)
              refine da_op rfl (d_as (v := .int .i64 (IntKind.i64.wrap (s8.2.2.1 + (IntKind.i64.wrap (((m62).length : Int) + 1))))) rfl ?_)
              refine da_nil ?_
              refine W_region rfl ?_
              refine da_op rfl (d_mv (v := .int .i64 s8.2.2.2) s9_34 ?_)
              refine da_op rfl (d_iarith rfl rfl (.inl ⟨rfl, rfl⟩) ?_)
              refine da_op rfl (d_as (v := .int .i64 (IntKind.i64.wrap (s8.2.2.2 + 1))) rfl ?_)
              refine da_nil ?_
              obtain rfl := Option.some.inj hr
              exact ⟨_, rfl, ⟨v58pa, v58pn, v58pc, rfl, s7_34, rfl, rfl, s4_34, O58, own58, B64, sp59, X61⟩⟩
    · skip
      replace hr := bif_f hr hc10
      refine W_exit ?_
      obtain rfl := Option.some.inj hr
      exact ⟨_, rfl, rfl, i8_0a, i8_0n, i8_0c, i8_S6, i8_S8, i8_0R, i8_0O, i8_X⟩
  · skip
    intro ex σx8 wx8 hq
    obtain ⟨rfl, q8_0_0a, q8_0_0n, q8_0_0c, q8_0_S6, q8_0_S8, q8_0_0R, q8_0_0O, q8_0_X⟩ := hq
    refine W_seq ?_
    refine W_region rfl ?_
    refine da_op rfl (d_mv (v := (Value.slice q8_0_0a q8_0_0n q8_0_0c)) q8_0_S6 ?_)
    refine da_op rfl (d_mv (v := .int .i64 m8.2) q8_0_S8 ?_)
    refine da_op rfl (d_as (v := (Value.slice q8_0_0a q8_0_0n q8_0_0c)) rfl ?_)
    refine da_op rfl (d_as (v := .int .i64 m8.2) rfl ?_)
    refine da_nil ?_
    refine W_ret ?_
    obtain rfl := Option.some.inj hr
    refine ⟨_, res2 (rv_tmp rfl) (rv_tmp rfl), ?_⟩
    exact ⟨q8_0_0a, q8_0_0n, q8_0_0c, rfl, q8_0_0R, q8_0_0O, q8_0_X⟩
set_option maxHeartbeats 4000000 in
theorem c22 (p0 : List UInt8) (r : List (List UInt8) × Int × Bool) (w : World) (hr : M.spec_RecoverJournal p0 = some r)  :
    Calls Tryd.prog 22 #[.string (bs p0)] w fun e w' => ∃ q0a : Option Addr, ∃ q0n : Nat, ∃ q0c : Nat, e = .returned (.tuple #[(Value.slice q0a q0n q0c), .int .i64 r.2.1, .bool r.2.2]) ∧ OS w' 9 encS (Value.slice q0a q0n q0c) r.1 ∧ (∀ k, (Value.slice q0a q0n q0c).ownBlock = some k → w.heap.size ≤ k) ∧ Ext w w' := by
  refine calls_of_W Tryd.func22 rfl (Nat.le_of_ble_eq_true rfl) ?_
  refine W_seq ?_
  refine W_region rfl ?_
  refine da_op rfl (d_as (v := .slice none 0 0) rfl ?_)
  refine da_op rfl (d_as (v := .int .i64 0) rfl ?_)
  refine da_op rfl (d_as (v := .bool false) rfl ?_)
  refine da_nil ?_
  refine W_seq ?_
  refine W_seq ?_
  refine W_region rfl ?_
  refine da_op rfl (d_mv (v := .string (bs p0)) rfl ?_)
  refine da_op rfl (d_slen un9 rfl ?_)
  refine da_op rfl (d_icmp cGtr rfl rfl ?_)
  refine da_nil ?_
  refine W_cond (b := (icmp .gtr ((p0).length : Int) 16000)) rfl (fun hc1 => ?_) (fun hc1 => ?_)
  · skip
    replace hr := bif_t hr hc1
    refine W_seq ?_
    refine W_region rfl ?_
    refine da_op rfl (d_as (v := .slice none 0 0) rfl ?_)
    refine da_op rfl (d_as (v := .int .i64 0) rfl ?_)
    refine da_op rfl (d_as (v := .bool false) rfl ?_)
    refine da_nil ?_
    refine W_ret ?_
    obtain rfl := Option.some.inj hr
    refine ⟨_, res3 (rv_tmp rfl) (rv_tmp rfl) (rv_tmp rfl), ?_⟩
    exact ⟨none, 0, 0, rfl, (OS.nil _ 9 encS), (fun k hk => by cases hk), (Ext.refl w)⟩
  · skip
    replace hr := bif_f hr hc1
    refine W_skip ?_
    refine W_seq ?_
    refine W_region rfl ?_
    refine da_op rfl (d_mv (v := .string (bs p0)) rfl ?_)
    obtain ⟨m2, hm2, hr⟩ := bind_out hr
    refine da_op rfl (d_cl (vs := [.string (bs p0)]) en61 (ac rfl rfl) rfl ?_)
    refine (c61 p0 m2 w hm2 ).mono ?_
    rintro _ w3 ⟨q3_0a, q3_0n, q3_0c, rfl, q3_0R, q3_0F, E3⟩
    refine ⟨_, rfl, ?_⟩
    have own4 : ∀ k, (Value.slice q3_0a q3_0n q3_0c).ownBlock = some k → w.heap.size ≤ k := fun k hk => Nat.le_trans (Ext.refl w).size (q3_0F k hk)
    have X5 : Ext w w3 := (Ext.refl w).trans E3
    refine da_op rfl (d_mv (v := .tuple #[(Value.slice q3_0a q3_0n q3_0c), .int .i64 m2.2]) rfl ?_)
    refine da_op rfl (d_extract (v := (Value.slice q3_0a q3_0n q3_0c)) rfl rfl ?_)
    refine da_op rfl (d_extract (v := .int .i64 m2.2) rfl rfl ?_)
    refine da_op rfl (d_as (v := (Value.slice q3_0a q3_0n q3_0c)) rfl ?_)
    refine da_op rfl (d_as (v := .int .i64 m2.2) rfl ?_)
    refine da_nil ?_
    refine W_seq ?_
    refine W_region rfl ?_
    refine da_op rfl (d_mv (v := (Value.slice q3_0a q3_0n q3_0c)) rfl ?_)
    refine da_op rfl (d_mv (v := .int .i64 m2.2) rfl ?_)
    refine da_op rfl (d_as (v := (Value.slice q3_0a q3_0n q3_0c)) rfl ?_)
    refine da_op rfl (d_as (v := .int .i64 m2.2) rfl ?_)
    refine da_op rfl (d_as (v := .bool true) rfl ?_)
    refine da_nil ?_
    refine W_ret ?_
    obtain rfl := Option.some.inj hr
    refine ⟨_, res3 (rv_tmp rfl) (rv_tmp rfl) (rv_tmp rfl), ?_⟩
    exact ⟨q3_0a, q3_0n, q3_0c, rfl, q3_0R, own4, X5⟩
set_option maxHeartbeats 4000000 in
theorem c117_u8n10 (p0 : List UInt8) (r : Int) (w : World) (hr : M.internal_stringslite_IndexByte_u8n10 p0 = r)  :
    Calls Tryd.prog 117 #[.string (bs p0), .int .u8 10] w fun e w' => e = .returned (.int .i64 r) ∧ Ext w w' := by
  refine calls_of_W Tryd.func117 rfl (Nat.le_of_ble_eq_true rfl) ?_
  refine W_seq ?_
  refine W_region rfl ?_
  refine da_op rfl (d_as (v := .int .i64 0) rfl ?_)
  refine da_nil ?_
  refine W_seq ?_
  refine W_region rfl ?_
  refine da_op rfl (d_mv (v := .string (bs p0)) rfl ?_)
  refine da_op rfl (d_mv (v := .int .u8 10) rfl ?_)
  refine da_op rfl (d_sfind ext168_0 ext168_1 ext168_2 (Option.isNone_iff_eq_none.1 ext168_3) ext168_4 rfl rfl rfl ?_)
  refine da_op rfl (d_as (v := .int .i64 (sfind p0 10)) rfl ?_)
  refine da_nil ?_
  refine W_ret ?_
  subst hr
  refine ⟨_, res1 (rv_tmp rfl), ?_⟩
  exact ⟨rfl, (Ext.refl w)⟩
set_option maxHeartbeats 4000000 in
theorem c62_u8n10 (p0 : List UInt8) (r : Int) (w : World) (hr : M.strings_IndexByte_u8n10 p0 = r)  :
    Calls Tryd.prog 62 #[.string (bs p0), .int .u8 10] w fun e w' => e = .returned (.int .i64 r) ∧ Ext w w' := by
  refine calls_of_W Tryd.func62 rfl (Nat.le_of_ble_eq_true rfl) ?_
  refine W_seq ?_
  refine W_region rfl ?_
  refine da_op rfl (d_as (v := .int .i64 0) rfl ?_)
  refine da_nil ?_
  refine W_seq ?_
  refine W_region rfl ?_
  refine da_op rfl (d_mv (v := .string (bs p0)) rfl ?_)
  refine da_op rfl (d_mv (v := .int .u8 10) rfl ?_)
  obtain ⟨m1, hm1, hr⟩ := letv_out hr
  refine da_op rfl (d_cl (vs := [.string (bs p0), .int .u8 10]) en117 (ac rfl (ac rfl rfl)) rfl ?_)
  refine (c117_u8n10 p0 m1 w hm1 ).mono ?_
  rintro _ w2 ⟨rfl, E2⟩
  refine ⟨_, rfl, ?_⟩
  have X3 : Ext w w2 := (Ext.refl w).trans E2
  refine da_op rfl (d_as (v := .int .i64 m1) rfl ?_)
  refine da_nil ?_
  refine W_ret ?_
  subst hr
  refine ⟨_, res1 (rv_tmp rfl), ?_⟩
  exact ⟨rfl, X3⟩
set_option maxHeartbeats 4000000 in
theorem c117 (p0 : List UInt8) (p1 : Int) (r : Int) (w : World) (hr : M.internal_stringslite_IndexByte p0 p1 = r)  :
    Calls Tryd.prog 117 #[.string (bs p0), .int .u8 p1] w fun e w' => e = .returned (.int .i64 r) ∧ Ext w w' := by
  refine calls_of_W Tryd.func117 rfl (Nat.le_of_ble_eq_true rfl) ?_
  refine W_seq ?_
  refine W_region rfl ?_
  refine da_op rfl (d_as (v := .int .i64 0) rfl ?_)
  refine da_nil ?_
  refine W_seq ?_
  refine W_region rfl ?_
  refine da_op rfl (d_mv (v := .string (bs p0)) rfl ?_)
  refine da_op rfl (d_mv (v := .int .u8 p1) rfl ?_)
  refine da_op rfl (d_sfind ext168_0 ext168_1 ext168_2 (Option.isNone_iff_eq_none.1 ext168_3) ext168_4 rfl rfl rfl ?_)
  refine da_op rfl (d_as (v := .int .i64 (sfind p0 p1)) rfl ?_)
  refine da_nil ?_
  refine W_ret ?_
  subst hr
  refine ⟨_, res1 (rv_tmp rfl), ?_⟩
  exact ⟨rfl, (Ext.refl w)⟩
set_option maxHeartbeats 4000000 in
theorem c165_s20 (p0 : List UInt8) (r : Int) (w : World) (hr : M.internal_stringslite_Index_s20 p0 = some r)  :
    Calls Tryd.prog 165 #[.string (bs p0), .string (bs ([32] : List UInt8))] w fun e w' => e = .returned (.int .i64 r) ∧ Ext w w' := by
  refine calls_of_W Tryd.func165 rfl (Nat.le_of_ble_eq_true rfl) ?_
  refine W_seq ?_
  refine W_region rfl ?_
  refine da_op rfl (d_as (v := .int .i64 0) rfl ?_)
  refine da_nil ?_
  refine W_seq ?_
  refine W_region rfl ?_
  refine da_op rfl (d_mv (v := .string (bs ([32] : List UInt8))) rfl ?_)
  refine da_op rfl (d_slenL (n := 1) un9 rfl rfl ?_)
  refine da_op rfl (d_as (v := .int .i64 1) rfl ?_)
  refine da_nil ?_
  refine W_seq ?_
  refine W_block ?_
  refine W_seq ?_
  refine W_cut (fun σ' w' => σ' 16 = .bool (([32] : List UInt8) == p0) ∧ Ext w w') rfl ?_ ?_
  · skip
    clear hr
    refine da_op rfl (d_mv (v := .int .i64 1) rfl ?_)
    refine da_op rfl (d_icmpL (b := false) cEql rfl rfl (by decide) ?_)
    refine da_op rfl (d_mv (v := .bool false) rfl ?_)
    refine da_on rfl rfl (d_mv (v := .string (bs ([32] : List UInt8))) rfl ?_)
    refine da_on rfl rfl (d_mv (v := .string (bs p0)) rfl ?_)
    refine da_on rfl rfl (d_seq rfl rfl ?_)
    refine da_op rfl (d_pick (b := false) rfl ?_)
    refine da_op rfl (d_as (v := .bool (([32] : List UInt8) == p0)) rfl ?_)
    refine da_nil ?_
    exact ⟨rfl, (Ext.refl w)⟩
  · skip
    rintro σ1 w1 o1 ⟨s16_1, E1⟩
    have s0_1 : σ1 0 = .string (bs p0) := (o1 0 rfl).trans rfl
    have s1_1 : σ1 1 = .string (bs ([32] : List UInt8)) := (o1 1 rfl).trans rfl
    have s5_1 : σ1 5 = .int .i64 1 := (o1 5 rfl).trans rfl
    have X2 : Ext w w1 := (Ext.refl w).trans E1
    refine W_cond (b := (([32] : List UInt8) == p0)) s16_1 (fun hc3 => ?_) (fun hc3 => ?_)
    · skip
      replace hr := bif_t hr hc3
      refine W_seq ?_
      refine W_region rfl ?_
      refine da_op rfl (d_as (v := .int .i64 0) rfl ?_)
      refine da_nil ?_
      refine W_ret ?_
      obtain rfl := Option.some.inj hr
      refine ⟨_, res1 (rv_tmp rfl), ?_⟩
      exact ⟨rfl, X2⟩
    · skip
      replace hr := bif_f hr hc3
      refine W_seq ?_
      refine W_region rfl ?_
      refine da_op rfl (d_mv (v := .int .i64 1) s5_1 ?_)
      refine da_op rfl (d_icmpL (b := true) cEql rfl rfl (by decide) ?_)
      refine da_op rfl (d_as (v := .bool true) rfl ?_)
      refine da_nil ?_
      refine W_true rfl ?_
      refine W_seq ?_
      refine W_region rfl ?_
      refine da_op rfl (d_mv (v := .string (bs p0)) s0_1 ?_)
      refine da_op rfl (d_mv (v := .string (bs ([32] : List UInt8))) s1_1 ?_)
      obtain ⟨m4, hm4, hr⟩ := bind_out hr
      refine da_op rfl (d_sidx un9 rfl rfl hm4 ?_)
      obtain ⟨m5, hm5, hr⟩ := letv_out hr
      refine da_op rfl (d_cl (vs := [.string (bs p0), .int .u8 m4]) en117 (ac rfl (ac rfl rfl)) rfl ?_)
      refine (c117 p0 m4 m5 w1 hm5 ).mono ?_
      rintro _ w6 ⟨rfl, E6⟩
      refine ⟨_, rfl, ?_⟩
      have X7 : Ext w w6 := X2.trans E6
      refine da_op rfl (d_as (v := .int .i64 m5) rfl ?_)
      refine da_nil ?_
      refine W_ret ?_
      obtain rfl := Option.some.inj hr
      refine ⟨_, res1 (rv_tmp rfl), ?_⟩
      exact ⟨rfl, X7⟩
set_option maxHeartbeats 4000000 in
theorem c118_s20 (p0 : List UInt8) (r : List UInt8 × List UInt8 × Bool) (w : World) (hr : M.internal_stringslite_Cut_s20 p0 = some r)  :
    Calls Tryd.prog 118 #[.string (bs p0), .string (bs ([32] : List UInt8))] w fun e w' => e = .returned (.tuple #[.string (bs r.1), .string (bs r.2.1), .bool r.2.2]) ∧ Ext w w' := by
  refine calls_of_W Tryd.func118 rfl (Nat.le_of_ble_eq_true rfl) ?_
  refine W_seq ?_
  refine W_region rfl ?_
  refine da_op rfl (d_as (v := .string (bs ([] : List UInt8))) rfl ?_)
  refine da_op rfl (d_as (v := .string (bs ([] : List UInt8))) rfl ?_)
  refine da_op rfl (d_as (v := .bool false) rfl ?_)
  refine da_nil ?_
  refine W_seq ?_
  refine W_seq ?_
  refine W_region rfl ?_
  refine da_op rfl (d_mv (v := .string (bs p0)) rfl ?_)
  refine da_op rfl (d_mv (v := .string (bs ([32] : List UInt8))) rfl ?_)
  obtain ⟨m1, hm1, hr⟩ := bind_out hr
  refine da_op rfl (d_cl (vs := [.string (bs p0), .string (bs ([32] : List UInt8))]) en165 (ac rfl (ac rfl rfl)) rfl ?_)
  refine (c165_s20 p0 m1 w hm1 ).mono ?_
  rintro _ w2 ⟨rfl, E2⟩
  refine ⟨_, rfl, ?_⟩
  have X3 : Ext w w2 := (Ext.refl w).trans E2
  refine da_op rfl (d_as (v := .int .i64 m1) rfl ?_)
  refine da_nil ?_
  refine W_seq ?_
  refine W_region rfl ?_
  refine da_op rfl (d_mv (v := .int .i64 m1) rfl ?_)
  refine da_op rfl (d_icmp cGeq rfl rfl ?_)
  refine da_nil ?_
  refine W_cond (b := (icmp .geq m1 0)) rfl (fun hc4 => ?_) (fun hc4 => ?_)
  · skip
    replace hr := bif_t hr hc4
    refine W_seq ?_
    obtain ⟨m6, hm6, hr⟩ := bind_out hr
    obtain ⟨m7, hm7, hr⟩ := bind_out hr
    refine W_any [] [{ V := fun _ v _ => v = (.string (bs p0)) }, { V := fun _ v _ => v = (.int .i64 m1) }, { V := fun _ v _ => v = (.string (bs m6)) }, { V := fun _ v _ => v = (.string (bs p0)) }, { V := fun _ v _ => v = (.int .i64 m1) }, { V := fun _ v _ => v = (.string (bs ([32] : List UInt8))) }, { V := fun _ v _ => v = (.int .i64 1) }, { V := fun _ v _ => v = (.int .i64 (IntKind.i64.wrap (m1 + 1))) }, { V := fun _ v _ => v = (.string (bs m7)) }, { V := fun _ v _ => v = (.string (bs m6)) }, { V := fun _ v _ => v = (.string (bs m7)) }, { V := fun _ v _ => v = (.bool true) }] mixed (by kernel_rfl) ⟨trivial, trivial, trivial, trivial, trivial, trivial, trivial, trivial, trivial, trivial, trivial, trivial, trivial⟩ ⟨?_, ?_, ?_, ?_, ?_, ?_, ?_, ?_, ?_, ?_, ?_, ?_, trivial⟩ ?_
    · skip
      refine ⟨fun _ _ _ _ _ _ h _ => h, fun _ _ h _ => h, fun σ' w' hA hE hD hP => ?_⟩
      have t0 : σ' 0 = .string (bs p0) := (hA 0 rfl).trans rfl
      refine dg_op rfl (d_mv (v := .string (bs p0)) t0 ?_)
      exact ⟨rfl, own_none (Ext.refl w')⟩
    · skip
      refine ⟨fun _ _ _ _ _ _ h _ => h, fun _ _ h _ => h, fun σ' w' hA hE hD hP => ?_⟩
      have t7 : σ' 7 = .int .i64 m1 := (hA 7 rfl).trans rfl
      refine dg_op rfl (d_mv (v := .int .i64 m1) t7 ?_)
      exact ⟨rfl, own_none (Ext.refl w')⟩
    · skip
      refine ⟨fun _ _ _ _ _ _ h _ => h, fun _ _ h _ => h, fun σ' w' hA hE hD hP => ?_⟩
      have t13 : σ' 13 = (.string (bs p0)) := hD 0 rfl
      have t14 : σ' 14 = (.int .i64 m1) := hD 1 rfl
      refine dg_op rfl (d_ssub (a := 0) (b := m1) un9 t13 (.inl ⟨rfl, rfl⟩) (.inr ⟨_, _, rfl, t14⟩) hm6 ?_)
      exact ⟨rfl, own_none (Ext.refl w')⟩
    · skip
      refine ⟨fun _ _ _ _ _ _ h _ => h, fun _ _ h _ => h, fun σ' w' hA hE hD hP => ?_⟩
      have t0 : σ' 0 = .string (bs p0) := (hA 0 rfl).trans rfl
      refine dg_op rfl (d_mv (v := .string (bs p0)) t0 ?_)
      exact ⟨rfl, own_none (Ext.refl w')⟩
    · skip
      refine ⟨fun _ _ _ _ _ _ h _ => h, fun _ _ h _ => h, fun σ' w' hA hE hD hP => ?_⟩
      have t7 : σ' 7 = .int .i64 m1 := (hA 7 rfl).trans rfl
      refine dg_op rfl (d_mv (v := .int .i64 m1) t7 ?_)
      exact ⟨rfl, own_none (Ext.refl w')⟩
    · skip
      refine ⟨fun _ _ _ _ _ _ h _ => h, fun _ _ h _ => h, fun σ' w' hA hE hD hP => ?_⟩
      have t1 : σ' 1 = .string (bs ([32] : List UInt8)) := (hA 1 rfl).trans rfl
      refine dg_op rfl (d_mv (v := .string (bs ([32] : List UInt8))) t1 ?_)
      exact ⟨rfl, own_none (Ext.refl w')⟩
    · skip
      refine ⟨fun _ _ _ _ _ _ h _ => h, fun _ _ h _ => h, fun σ' w' hA hE hD hP => ?_⟩
      have t18 : σ' 18 = (.string (bs ([32] : List UInt8))) := hD 5 rfl
      refine dg_op rfl (d_slenL (n := 1) un9 t18 rfl ?_)
      exact ⟨rfl, own_none (Ext.refl w')⟩
    · skip
      refine ⟨fun _ _ _ _ _ _ h _ => h, fun _ _ h _ => h, fun σ' w' hA hE hD hP => ?_⟩
      have t17 : σ' 17 = (.int .i64 m1) := hD 4 rfl
      have t19 : σ' 19 = (.int .i64 1) := hD 6 rfl
      refine dg_op rfl (d_iarith t17 t19 (.inl ⟨rfl, rfl⟩) ?_)
      exact ⟨rfl, own_none (Ext.refl w')⟩
    · skip
      refine ⟨fun _ _ _ _ _ _ h _ => h, fun _ _ h _ => h, fun σ' w' hA hE hD hP => ?_⟩
      have t16 : σ' 16 = (.string (bs p0)) := hD 3 rfl
      have t20 : σ' 20 = (.int .i64 (IntKind.i64.wrap (m1 + 1))) := hD 7 rfl
      refine dg_op rfl (d_ssub (a := (IntKind.i64.wrap (m1 + 1))) (b := ((p0).length : Int)) un9 t16 (.inr ⟨_, _, rfl, t20⟩) (.inl ⟨rfl, rfl⟩) hm7 ?_)
      exact ⟨rfl, own_none (Ext.refl w')⟩
    · skip
      refine ⟨fun _ _ _ _ _ _ h _ => h, fun _ _ h _ => h, fun σ' w' hA hE hD hP => ?_⟩
      have t15 : σ' 15 = (.string (bs m6)) := hD 2 rfl
      refine dg_op rfl (d_as (v := .string (bs m6)) t15 ?_)
      exact ⟨rfl, own_none (Ext.refl w')⟩
    · skip
      refine ⟨fun _ _ _ _ _ _ h _ => h, fun _ _ h _ => h, fun σ' w' hA hE hD hP => ?_⟩
      have t21 : σ' 21 = (.string (bs m7)) := hD 8 rfl
      refine dg_op rfl (d_as (v := .string (bs m7)) t21 ?_)
      exact ⟨rfl, own_none (Ext.refl w')⟩
    · skip
      refine ⟨fun _ _ _ _ _ _ h _ => h, fun _ _ h _ => h, fun σ' w' hA hE hD hP => ?_⟩
      refine dg_op rfl (d_as (v := .bool true) rfl ?_)
      exact ⟨rfl, own_none (Ext.refl w')⟩
    · skip
      intro σ5 w5 A5 E5 V5
      have E5x : Ext w2 w5 := ext_of_oth0 E5
      have s4_5 : σ5 4 = (.string (bs m6)) := V5 9 (Nat.le_of_ble_eq_true rfl)
      have s5_5 : σ5 5 = (.string (bs m7)) := V5 10 (Nat.le_of_ble_eq_true rfl)
      have s6_5 : σ5 6 = (.bool true) := V5 11 (Nat.le_of_ble_eq_true rfl)
      have X8 : Ext w w5 := X3.trans E5x
      refine W_ret ?_
      obtain rfl := Option.some.inj hr
      refine ⟨_, res3 (rv_tmp s4_5) (rv_tmp s5_5) (rv_tmp s6_5), ?_⟩
      exact ⟨rfl, X8⟩
  · skip
    replace hr := bif_f hr hc4
    refine W_skip ?_
    refine W_seq ?_
    refine W_region rfl ?_
    refine da_op rfl (d_mv (v := .string (bs p0)) rfl ?_)
    refine da_op rfl (d_as (v := .string (bs p0)) rfl ?_)
    refine da_op rfl (d_as (v := .string (bs ([] : List UInt8))) rfl ?_)
    refine da_op rfl (d_as (v := .bool false) rfl ?_)
    refine da_nil ?_
    refine W_ret ?_
    obtain rfl := Option.some.inj hr
    refine ⟨_, res3 (rv_tmp rfl) (rv_tmp rfl) (rv_tmp rfl), ?_⟩
    exact ⟨rfl, X3⟩
set_option maxHeartbeats 4000000 in
theorem c63_s20 (p0 : List UInt8) (r : List UInt8 × List UInt8 × Bool) (w : World) (hr : M.strings_Cut_s20 p0 = some r)  :
    Calls Tryd.prog 63 #[.string (bs p0), .string (bs ([32] : List UInt8))] w fun e w' => e = .returned (.tuple #[.string (bs r.1), .string (bs r.2.1), .bool r.2.2]) ∧ Ext w w' := by
  refine calls_of_W Tryd.func63 rfl (Nat.le_of_ble_eq_true rfl) ?_
  refine W_seq ?_
  refine W_region rfl ?_
  refine da_op rfl (d_as (v := .string (bs ([] : List UInt8))) rfl ?_)
  refine da_op rfl (d_as (v := .string (bs ([] : List UInt8))) rfl ?_)
  refine da_op rfl (d_as (v := .bool false) rfl ?_)
  refine da_nil ?_
  refine W_seq ?_
  refine W_region rfl ?_
  refine da_op rfl (d_mv (v := .string (bs p0)) rfl ?_)
  refine da_op rfl (d_mv (v := .string (bs ([32] : List UInt8))) rfl ?_)
  obtain ⟨m1, hm1, hr⟩ := bind_out hr
  refine da_op rfl (d_cl (vs := [.string (bs p0), .string (bs ([32] : List UInt8))]) en118 (ac rfl (ac rfl rfl)) rfl ?_)
  refine (c118_s20 p0 m1 w hm1 ).mono ?_
  rintro _ w2 ⟨rfl, E2⟩
  refine ⟨_, rfl, ?_⟩
  have X3 : Ext w w2 := (Ext.refl w).trans E2
  refine da_op rfl (d_extract (v := .string (bs m1.1)) rfl rfl ?_)
  refine da_op rfl (d_extract (v := .string (bs m1.2.1)) rfl rfl ?_)
  refine da_op rfl (d_extract (v := .bool m1.2.2) rfl rfl ?_)
  refine da_op rfl (d_as (v := .string (bs m1.1)) rfl ?_)
  refine da_op rfl (d_as (v := .string (bs m1.2.1)) rfl ?_)
  refine da_op rfl (d_as (v := .bool m1.2.2) rfl ?_)
  refine da_nil ?_
  refine W_ret ?_
  obtain rfl := Option.some.inj hr
  refine ⟨_, res3 (rv_tmp rfl) (rv_tmp rfl) (rv_tmp rfl), ?_⟩
  exact ⟨rfl, X3⟩
set_option maxHeartbeats 4000000 in
theorem c103 (p0 : Int) (p1 : Int) (p2 : Int) (r : Bool) (w : World) (hr : M.impl_in p0 p1 p2 = r)  :
    Calls Tryd.prog 103 #[.int .i64 p0, .int .i64 p1, .int .i64 p2] w fun e w' => e = .returned (.bool r) ∧ Ext w w' := by
  refine calls_of_W Tryd.func103 rfl (Nat.le_of_ble_eq_true rfl) ?_
  refine W_seq ?_
  refine W_region rfl ?_
  refine da_op rfl (d_as (v := .bool false) rfl ?_)
  refine da_nil ?_
  refine W_seq ?_
  obtain ⟨m1, hm1, hr⟩ := letv_out hr
  refine W_cut (fun σ' w' => σ' 6 = .bool m1 ∧ Ext w w') rfl ?_ ?_
  · skip
    have hr := hm1
    refine da_op rfl (d_mv (v := .int .i64 p0) rfl ?_)
    refine da_op rfl (d_mv (v := .int .i64 p1) rfl ?_)
    refine da_op rfl (d_icmp cGeq rfl rfl ?_)
    refine da_op rfl (d_mv (v := .bool (icmp .geq p0 p1)) rfl ?_)
    rcases Bool.eq_false_or_eq_true (icmp .geq p0 p1) with hc2 | hc2
    · skip
      replace hr := bif_t hr hc2
      refine da_on rfl (Eq.trans (show sl _ _ _ = .bool (icmp .geq p0 p1) from rfl) (congrArg Value.bool hc2)) (d_mv (v := .int .i64 p0) rfl ?_)
      refine da_on rfl (Eq.trans (show sl _ _ _ = .bool (icmp .geq p0 p1) from rfl) (congrArg Value.bool hc2)) (d_mv (v := .int .i64 p2) rfl ?_)
      refine da_on rfl (Eq.trans (show sl _ _ _ = .bool (icmp .geq p0 p1) from rfl) (congrArg Value.bool hc2)) (d_icmp cLeq rfl rfl ?_)
      refine da_op rfl (d_pick (b := true) (Eq.trans (show ev _ _ = .bool (icmp .geq p0 p1) from rfl) (congrArg Value.bool hc2)) ?_)
      refine da_op rfl (d_as (v := .bool (icmp .leq p0 p2)) rfl ?_)
      refine da_nil ?_
      subst hr
      exact ⟨rfl, (Ext.refl w)⟩
    · skip
      replace hr := bif_f hr hc2
      refine da_off rfl (Eq.trans (show sl _ _ _ = .bool (icmp .geq p0 p1) from rfl) (congrArg Value.bool hc2)) (by decide) ?_
      refine da_off rfl (Eq.trans (show sl _ _ _ = .bool (icmp .geq p0 p1) from rfl) (congrArg Value.bool hc2)) (by decide) ?_
      refine da_off rfl (Eq.trans (show sl _ _ _ = .bool (icmp .geq p0 p1) from rfl) (congrArg Value.bool hc2)) (by decide) ?_
      refine da_op rfl (d_pick (b := false) (Eq.trans (show ev _ _ = .bool (icmp .geq p0 p1) from rfl) (congrArg Value.bool hc2)) ?_)
      refine da_op rfl (d_as (v := .bool false) rfl ?_)
      refine da_nil ?_
      subst hr
      exact ⟨rfl, (Ext.refl w)⟩
  · skip
    rintro σ1 w1 o1 ⟨s6_1, E1⟩
    have X3 : Ext w w1 := (Ext.refl w).trans E1
    refine W_ret ?_
    subst hr
    refine ⟨_, res1 (rv_tmp s6_1), ?_⟩
    exact ⟨rfl, X3⟩
set_option maxHeartbeats 4000000 in
theorem c57 (p0 : Int) (p1 : List UInt8) (r : Int × Bool) (w : World) (hr : M.impl_CheckOf p0 p1 = some r)  :
    Calls Tryd.prog 57 #[.int .i64 p0, .string (bs p1)] w fun e w' => e = .returned (.tuple #[.int .i64 r.1, .bool r.2]) ∧ Ext w w' := by
  refine calls_of_W Tryd.func57 rfl (Nat.le_of_ble_eq_true rfl) ?_
  refine W_seq ?_
  refine W_region rfl ?_
  refine da_op rfl (d_as (v := .int .i64 0) rfl ?_)
  refine da_op rfl (d_as (v := .bool false) rfl ?_)
  refine da_nil ?_
  refine W_seq ?_
  refine W_seq ?_
  refine W_region rfl ?_
  refine da_op rfl (d_mv (v := .int .i64 p0) rfl ?_)
  obtain ⟨m1, hm1, hr⟩ := letv_out hr
  refine da_op rfl (d_cl (vs := [.int .i64 p0, .int .i64 0, .int .i64 65002]) en103 (ac rfl (ac rfl (ac rfl rfl))) rfl ?_)
  refine (c103 p0 0 65002 m1 w hm1 ).mono ?_
  rintro _ w2 ⟨rfl, E2⟩
  refine ⟨_, rfl, ?_⟩
  have X3 : Ext w w2 := (Ext.refl w).trans E2
  refine da_op rfl (d_not rfl ?_)
  refine da_nil ?_
  refine W_cond (b := (!m1)) rfl (fun hc4 => ?_) (fun hc4 => ?_)
  · skip
    replace hr := bif_t hr hc4
    refine W_seq ?_
    refine W_region rfl ?_
    refine da_op rfl (d_as (v := .int .i64 0) rfl ?_)
    refine da_op rfl (d_as (v := .bool false) rfl ?_)
    refine da_nil ?_
    refine W_ret ?_
    obtain rfl := Option.some.inj hr
    refine ⟨_, res2 (rv_tmp rfl) (rv_tmp rfl), ?_⟩
    exact ⟨rfl, X3⟩
  · skip
    replace hr := bif_f hr hc4
    refine W_skip ?_
    refine W_seq ?_
    refine W_seq ?_
    refine W_region rfl ?_
    refine da_op rfl (d_mv (v := .string (bs p1)) rfl ?_)
    refine da_op rfl (d_slen un9 rfl ?_)
    refine da_op rfl (d_mv (v := .int .i64 0) rfl ?_)
    refine da_nil ?_
    refine W_block ?_
    obtain ⟨m5, hm5, hr⟩ := bind_out hr
    refine W_loopM hm5 (fun (s5 : Int × Int) σ w' => σ 0 = .int .i64 s5.1 ∧ σ 12 = .int .i64 s5.2 ∧ σ 1 = .string (bs p1) ∧ σ 11 = .int .i64 ((p1).length : Int) ∧ Ext w w') (fun (e5 : Int) ex σ w' => ex = .exit 0 ∧ σ 0 = .int .i64 e5 ∧ Ext w w') ⟨rfl, rfl, rfl, rfl, X3⟩ ?_ ?_
    · skip
      rintro s5 σl5 wl5 r5l ⟨i5_S0, i5_S12, i5_S1, i5_S11, i5_X⟩ hr
      refine W_seq ?_
      refine W_region rfl ?_
      refine da_op rfl (d_icmp cLss i5_S12 i5_S11 ?_)
      refine da_nil ?_
      refine W_seq ?_
      refine W_cond (b := (icmp .lss s5.2 ((p1).length : Int))) rfl (fun hc6 => ?_) (fun hc6 => ?_)
      · skip
        replace hr := bif_t hr hc6
        refine W_skip ?_
        refine W_seq ?_
        refine W_block ?_
        refine W_seq ?_
        refine W_region rfl ?_
        refine da_op rfl (d_mv (v := .int .i64 s5.2) i5_S12 ?_)
        refine da_op rfl (d_as (v := .int .i64 s5.2) rfl ?_)
        refine da_nil ?_
        refine W_region rfl ?_
        refine da_op rfl (d_mv (v := .int .i64 s5.1) i5_S0 ?_)
        refine da_op rfl (d_iarith rfl rfl (.inr (.inr ⟨rfl, rfl⟩)) ?_)
        refine da_op rfl (d_mv (v := .string (bs p1)) i5_S1 ?_)
        refine da_op rfl (d_mv (v := .int .i64 s5.2) rfl ?_)
        obtain ⟨m7, hm7, hr⟩ := bind_out hr
        refine da_op rfl (d_sidx un9 rfl rfl hm7 ?_)
        refine da_op rfl (d_iconv un5 un2 rfl ?_)
        refine da_op rfl (d_iarith rfl rfl (.inl ⟨rfl, rfl⟩) ?_)
        refine da_op rfl (d_iarith rfl rfl (.inl ⟨rfl, rfl⟩) ?_)
        refine da_op rfl (d_remL rfl rfl (by decide) ?_)
        refine da_op rfl (d_as (v := .int .i64 (((IntKind.i64.wrap ((IntKind.i64.wrap ((IntKind.i64.wrap (757 * s5.1)) + (IntKind.i64.wrap m7))) + 79))).tmod 65003)) rfl ?_)
        refine da_nil ?_
        refine W_region rfl ?_
        refine da_op rfl (d_iarith i5_S12 rfl (.inl ⟨rfl, rfl⟩) ?_)
        refine da_op rfl (d_mv (v := .int .i64 (IntKind.i64.wrap (s5.2 + 1))) rfl ?_)
        refine da_nil ?_
        obtain rfl := Option.some.inj hr
        exact ⟨_, rfl, ⟨rfl, rfl, i5_S1, i5_S11, i5_X⟩⟩
      · skip
        replace hr := bif_f hr hc6
        refine W_exit ?_
        obtain rfl := Option.some.inj hr
        exact ⟨_, rfl, rfl, i5_S0, i5_X⟩
    · skip
      intro ex σx5 wx5 hq
      obtain ⟨rfl, q5_0_S0, q5_0_X⟩ := hq
      refine W_seq ?_
      refine W_region rfl ?_
      refine da_op rfl (d_mv (v := .int .i64 m5) q5_0_S0 ?_)
      refine da_op rfl (d_as (v := .int .i64 m5) rfl ?_)
      refine da_op rfl (d_as (v := .bool true) rfl ?_)
      refine da_nil ?_
      refine W_ret ?_
      obtain rfl := Option.some.inj hr
      refine ⟨_, res2 (rv_tmp rfl) (rv_tmp rfl), ?_⟩
      exact ⟨rfl, q5_0_X⟩
set_option maxHeartbeats 4000000 in
theorem c59 (p0 : Int) (r : List UInt8) (w : World) (hr : M.impl_Decimal p0 = some r) (t_T10 : T10 Tryd.prog w) :
    Calls Tryd.prog 59 #[.int .i64 p0] w fun e w' => e = .returned (.string (bs r)) ∧ Ext w w' := by
  refine calls_of_W Tryd.func59 rfl (Nat.le_of_ble_eq_true rfl) ?_
  refine W_seq ?_
  refine W_region rfl ?_
  refine da_op rfl (d_as (v := .string (bs ([] : List UInt8))) rfl ?_)
  refine da_nil ?_
  refine W_seq ?_
  refine W_region rfl ?_
  refine da_op rfl (d_mv (v := .int .i64 p0) rfl ?_)
  obtain ⟨m2, hm2, hr⟩ := bind_out hr
  refine da_op rfl (d_cl (vs := [.int .i64 p0, .int .i64 10]) en115 (ac rfl (ac rfl rfl)) rfl ?_)
  refine (sh115 hm2 (t_T10.ext (Ext.refl w))).mono ?_
  rintro _ w1 ⟨rfl, E1⟩
  refine ⟨_, rfl, ?_⟩
  have X3 : Ext w w1 := (Ext.refl w).trans E1
  refine da_op rfl (d_as (v := .string (bs m2)) rfl ?_)
  refine da_nil ?_
  refine W_ret ?_
  obtain rfl := Option.some.inj hr
  refine ⟨_, res1 (rv_tmp rfl), ?_⟩
  exact ⟨rfl, X3⟩
set_option maxHeartbeats 4000000 in
theorem c23 (p0 : List UInt8) (r : List (List UInt8) × Int × Bool) (w : World) (hr : M.impl_RecoverJournal p0 = some r) (t_T10 : T10 Tryd.prog w) :
    Calls Tryd.prog 23 #[.string (bs p0)] w fun e w' => ∃ q0a : Option Addr, ∃ q0n : Nat, ∃ q0c : Nat, e = .returned (.tuple #[(Value.slice q0a q0n q0c), .int .i64 r.2.1, .bool r.2.2]) ∧ OS w' 9 encS (Value.slice q0a q0n q0c) r.1 ∧ (∀ k, (Value.slice q0a q0n q0c).ownBlock = some k → w.heap.size ≤ k) ∧ Ext w w' := by
  refine calls_of_W Tryd.func23 rfl (Nat.le_of_ble_eq_true rfl) ?_
  refine W_seq ?_
  refine W_region rfl ?_
  refine da_op rfl (d_as (v := .slice none 0 0) rfl ?_)
  refine da_op rfl (d_as (v := .int .i64 0) rfl ?_)
  refine da_op rfl (d_as (v := .bool false) rfl ?_)
  refine da_nil ?_
  refine W_seq ?_
  refine W_seq ?_
  refine W_region rfl ?_
  refine da_op rfl (d_mv (v := .string (bs p0)) rfl ?_)
  refine da_op rfl (d_slen un9 rfl ?_)
  refine da_op rfl (d_icmp cGtr rfl rfl ?_)
  refine da_nil ?_
  refine W_cond (b := (icmp .gtr ((p0).length : Int) 16000)) rfl (fun hc1 => ?_) (fun hc1 => ?_)
  · skip
    replace hr := bif_t hr hc1
    refine W_seq ?_
    refine W_region rfl ?_
    refine da_op rfl (d_as (v := .slice none 0 0) rfl ?_)
    refine da_op rfl (d_as (v := .int .i64 0) rfl ?_)
    refine da_op rfl (d_as (v := .bool false) rfl ?_)
    refine da_nil ?_
    refine W_ret ?_
    obtain rfl := Option.some.inj hr
    refine ⟨_, res3 (rv_tmp rfl) (rv_tmp rfl) (rv_tmp rfl), ?_⟩
    exact ⟨none, 0, 0, rfl, (OS.nil _ 9 encS), (fun k hk => by cases hk), (Ext.refl w)⟩
  · skip
    replace hr := bif_f hr hc1
    refine W_skip ?_
    refine W_seq ?_
    refine W_region rfl ?_
    refine da_op rfl (d_bslice0 un34 size9 fun w2 B2 E2 => ?_)
    have fr2 : ∀ k, (Value.slice (some ⟨w.heap.size, 0, none⟩) 0 0).ownBlock = some k → w.heap.size ≤ k := fun k hk => by cases hk; exact Nat.le_refl _
    have own2 : ∀ k, (Value.slice (some ⟨w.heap.size, 0, none⟩) 0 0).ownBlock = some k → w.heap.size ≤ k := fun k hk => Nat.le_trans (Ext.refl w).size (fr2 k hk)
    have X3 : Ext w w2 := (Ext.refl w).trans E2
    have O2 : OS w2 9 encS (Value.slice (some ⟨w.heap.size, 0, none⟩) 0 0) ([] : List (List UInt8)) := OS.box (xs := ([] : List (List UInt8))) B2 rfl (Nat.le_of_ble_eq_true rfl)
    refine da_op rfl (d_as (v := (Value.slice (some ⟨w.heap.size, 0, none⟩) 0 0)) rfl ?_)
    refine da_op rfl (d_as (v := .int .i64 0) rfl ?_)
    refine da_op rfl (d_as (v := .int .i64 0) rfl ?_)
    refine da_nil ?_
    refine W_seq ?_
    refine W_block ?_
    obtain ⟨m4, hm4, hr⟩ := bind_out hr
    refine W_loopM hm4 (fun (s4 : List (List UInt8) × Int × Int) σ w' => ∃ i4_0a : Option Addr, ∃ i4_0n : Nat, ∃ i4_0c : Nat, σ 5 = (Value.slice i4_0a i4_0n i4_0c) ∧ σ 6 = .int .i64 s4.2.1 ∧ σ 7 = .int .i64 s4.2.2 ∧ σ 0 = .string (bs p0) ∧ OS w' 9 encS (Value.slice i4_0a i4_0n i4_0c) s4.1 ∧ (∀ k, (Value.slice i4_0a i4_0n i4_0c).ownBlock = some k → w.heap.size ≤ k) ∧ Ext w w') (fun (e4 : (List (List UInt8) × Int)) ex σ w' => ex = .exit 0 ∧ ∃ q4_0_0a : Option Addr, ∃ q4_0_0n : Nat, ∃ q4_0_0c : Nat, σ 5 = (Value.slice q4_0_0a q4_0_0n q4_0_0c) ∧ σ 6 = .int .i64 e4.2 ∧ OS w' 9 encS (Value.slice q4_0_0a q4_0_0n q4_0_0c) e4.1 ∧ (∀ k, (Value.slice q4_0_0a q4_0_0n q4_0_0c).ownBlock = some k → w.heap.size ≤ k) ∧ Ext w w') ⟨(some ⟨w.heap.size, 0, none⟩), 0, 0, rfl, rfl, rfl, rfl, O2, own2, X3⟩ ?_ ?_
    · skip
      rintro s4 σl4 wl4 r4l ⟨i4_0a, i4_0n, i4_0c, i4_S5, i4_S6, i4_S7, i4_S0, i4_0R, i4_0O, i4_X⟩ hr
      refine W_block ?_
      refine W_seq ?_
      refine W_region rfl ?_
      refine da_op rfl (d_mv (v := .string (bs p0)) i4_S0 ?_)
      refine da_op rfl (d_mv (v := .int .i64 s4.2.1) i4_S6 ?_)
      obtain ⟨m5, hm5, hr⟩ := bind_out hr
      refine da_op rfl (d_ssub (a := s4.2.1) (b := ((p0).length : Int)) un9 rfl (.inr ⟨_, _, rfl, rfl⟩) (.inl ⟨rfl, rfl⟩) hm5 ?_)
      obtain ⟨m6, hm6, hr⟩ := letv_out hr
      refine da_op rfl (d_cl (vs := [.string (bs m5), .int .u8 10]) en62 (ac rfl (ac rfl rfl)) rfl ?_)
      refine (c62_u8n10 m5 m6 wl4 hm6 ).mono ?_
      rintro _ w7 ⟨rfl, E7⟩
      refine ⟨_, rfl, ?_⟩
      have X8 : Ext w w7 := i4_X.trans E7
      refine da_op rfl (d_as (v := .int .i64 m6) rfl ?_)
      refine da_nil ?_
      refine W_seq ?_
      refine W_seq ?_
      refine W_region rfl ?_
      refine da_op rfl (d_mv (v := .int .i64 m6) rfl ?_)
      refine da_op rfl (d_icmp cLss rfl rfl ?_)
      refine da_nil ?_
      refine W_cond (b := (icmp .lss m6 0)) rfl (fun hc9 => ?_) (fun hc9 => ?_)
      · skip
        replace hr := bif_t hr hc9
        refine W_exit ?_
        have B10 : OS w7 9 encS (Value.slice i4_0a i4_0n i4_0c) s4.1 := i4_0R.ext E7
        obtain rfl := Option.some.inj hr
        exact ⟨_, rfl, rfl, i4_0a, i4_0n, i4_0c, i4_S5, i4_S6, B10, i4_0O, X8⟩
      · skip
        replace hr := bif_f hr hc9
        refine W_skip ?_
        refine W_seq ?_
        refine W_region rfl ?_
        refine da_op rfl (d_mv (v := .string (bs p0)) i4_S0 ?_)
        refine da_op rfl (d_mv (v := .int .i64 s4.2.1) i4_S6 ?_)
        refine da_op rfl (d_mv (v := .int .i64 s4.2.1) i4_S6 ?_)
        refine da_op rfl (d_mv (v := .int .i64 m6) rfl ?_)
        refine da_op rfl (d_iarith rfl rfl (.inl ⟨rfl, rfl⟩) ?_)
        obtain ⟨m11, hm11, hr⟩ := bind_out hr
        refine da_op rfl (d_ssub (a := s4.2.1) (b := (IntKind.i64.wrap (s4.2.1 + m6))) un9 rfl (.inr ⟨_, _, rfl, rfl⟩) (.inr ⟨_, _, rfl, rfl⟩) hm11 ?_)
        obtain ⟨m12, hm12, hr⟩ := bind_out hr
        have B13 : OS w7 9 encS (Value.slice i4_0a i4_0n i4_0c) s4.1 := i4_0R.ext E7
        refine da_op rfl (d_cl (vs := [.string (bs m11), .string (bs ([32] : List UInt8))]) en63 (ac rfl (ac rfl rfl)) rfl ?_)
        refine (c63_s20 m11 m12 w7 hm12 ).mono ?_
        rintro _ w14 ⟨rfl, E14⟩
        refine ⟨_, rfl, ?_⟩
        have X15 : Ext w w14 := X8.trans E14
        refine da_op rfl (d_mv (v := .tuple #[.string (bs m12.1), .string (bs m12.2.1), .bool m12.2.2]) rfl ?_)
        refine da_op rfl (d_extract (v := .string (bs m12.1)) rfl rfl ?_)
        refine da_op rfl (d_extract (v := .string (bs m12.2.1)) rfl rfl ?_)
        refine da_op rfl (d_extract (v := .bool m12.2.2) rfl rfl ?_)
        refine da_op rfl (d_as (v := .string (bs m12.1)) rfl ?_)
        refine da_op rfl (d_as (v := .string (bs m12.2.1)) rfl ?_)
        refine da_op rfl (d_as (v := .bool m12.2.2) rfl ?_)
        refine da_nil ?_
        refine W_seq ?_
        refine W_region rfl ?_
        refine da_op rfl (d_mv (v := .int .i64 s4.2.2) i4_S7 ?_)
        refine da_op rfl (d_mv (v := .string (bs m12.2.1)) rfl ?_)
        obtain ⟨m16, hm16, hr⟩ := bind_out hr
        have B17 : OS w14 9 encS (Value.slice i4_0a i4_0n i4_0c) s4.1 := B13.ext E14
        refine da_op rfl (d_cl (vs := [.int .i64 s4.2.2, .string (bs m12.2.1)]) en57 (ac rfl (ac rfl rfl)) rfl ?_)
        refine (c57 s4.2.2 m12.2.1 m16 w14 hm16 ).mono ?_
        rintro _ w18 ⟨rfl, E18⟩
        refine ⟨_, rfl, ?_⟩
        have X19 : Ext w w18 := X15.trans E18
        refine da_op rfl (d_mv (v := .tuple #[.int .i64 m16.1, .bool m16.2]) rfl ?_)
        refine da_op rfl (d_extract (v := .int .i64 m16.1) rfl rfl ?_)
        refine da_op rfl (d_extract (v := .bool m16.2) rfl rfl ?_)
        refine da_op rfl (d_as (v := .int .i64 m16.1) rfl ?_)
        refine da_op rfl (d_as (v := .bool m16.2) rfl ?_)
        refine da_nil ?_
        refine W_seq ?_
        refine W_seq ?_
        have B21 : OS w18 9 encS (Value.slice i4_0a i4_0n i4_0c) s4.1 := B17.ext E18
        obtain ⟨m22, hm22, hr⟩ := bind_out hr
        obtain ⟨m23, hm23, hr⟩ := bind_out hr
        obtain ⟨m24, hm24, hr⟩ := bind_out hr
        obtain ⟨m25, hm25, hr⟩ := bind_out hr
        refine W_any [] [{ V := fun _ v _ => v = (.bool m12.2.2) }, { V := fun _ v _ => v = (.bool (!m12.2.2)) }, { V := fun _ v _ => v = (.bool (!m12.2.2)) }, { V := fun _ v _ => ((!m12.2.2) = false → v = (.int .i64 m16.1)) }, { V := fun _ v _ => ((!m12.2.2) = false → v = (.string (bs m22))) }, { V := fun _ v _ => ((!m12.2.2) = false → v = (.string (bs m23))) }, { V := fun _ v _ => ((!m12.2.2) = false → v = (.string (bs m12.2.1))) }, { V := fun _ v _ => ((!m12.2.2) = false → v = (.string (bs m24))) }, { V := fun _ v _ => ((!m12.2.2) = false → v = (.string (bs p0))) }, { V := fun _ v _ => ((!m12.2.2) = false → v = (.int .i64 s4.2.1)) }, { V := fun _ v _ => ((!m12.2.2) = false → v = (.int .i64 s4.2.1)) }, { V := fun _ v _ => ((!m12.2.2) = false → v = (.int .i64 m6)) }, { V := fun _ v _ => ((!m12.2.2) = false → v = (.int .i64 (IntKind.i64.wrap (s4.2.1 + m6)))) }, { V := fun _ v _ => ((!m12.2.2) = false → v = (.string (bs m25))) }, { V := fun _ v _ => ((!m12.2.2) = false → v = (.bool (!(m24 == m25)))) }, { V := fun _ v _ => v = (.bool (bif (!m12.2.2) then true else (!(m24 == m25)))) }] mixed (by kernel_rfl) ⟨trivial, trivial, trivial, trivial, trivial, trivial, trivial, trivial, trivial, trivial, trivial, trivial, trivial, trivial, trivial, trivial, trivial⟩ ⟨?_, ?_, ?_, ?_, ?_, ?_, ?_, ?_, ?_, ?_, ?_, ?_, ?_, ?_, ?_, ?_, trivial⟩ ?_
        · skip
          refine ⟨fun _ _ _ _ _ _ h _ => h, fun _ _ h _ => h, fun σ' w' hA hE hD hP => ?_⟩
          have t11 : σ' 11 = .bool m12.2.2 := (hA 11 rfl).trans rfl
          refine dg_op rfl (d_mv (v := .bool m12.2.2) t11 ?_)
          exact ⟨rfl, own_none (Ext.refl w')⟩
        · skip
          refine ⟨fun _ _ _ _ _ _ h _ => h, fun _ _ h _ => h, fun σ' w' hA hE hD hP => ?_⟩
          have t41 : σ' 41 = (.bool m12.2.2) := hD 0 rfl
          refine dg_op rfl (d_not t41 ?_)
          exact ⟨rfl, own_none (Ext.refl w')⟩
        · skip
          refine ⟨fun _ _ _ _ _ _ h _ => h, fun _ _ h _ => h, fun σ' w' hA hE hD hP => ?_⟩
          have t42 : σ' 42 = (.bool (!m12.2.2)) := hD 1 rfl
          refine dg_op rfl (d_mv (v := .bool (!m12.2.2)) t42 ?_)
          exact ⟨rfl, own_none (Ext.refl w')⟩
        · skip
          refine ⟨fun _ _ _ _ _ _ h _ => h, fun _ _ h _ => h, fun σ' w' hA hE hD hP => ?_⟩
          have t43 : σ' 43 = (.bool (!m12.2.2)) := hD 2 rfl
          rcases Bool.eq_false_or_eq_true (!m12.2.2) with hg26 | hg26
          · skip
            refine dg_off rfl (Eq.trans (show sl _ _ _ = .bool (!m12.2.2) from t43) (congrArg Value.bool hg26)) (by decide) ?_
            exact ⟨fun hc => Bool.noConfusion (hc.symm.trans hg26), own_none (Ext.refl _)⟩
          · skip
            have t12 : σ' 12 = .int .i64 m16.1 := (hA 12 rfl).trans rfl
            refine dg_on rfl (Eq.trans (show sl _ _ _ = .bool (!m12.2.2) from t43) (congrArg Value.bool hg26)) (d_mv (v := .int .i64 m16.1) t12 ?_)
            exact ⟨fun _ => rfl, own_none (Ext.refl w')⟩
        · skip
          refine ⟨fun _ _ _ _ _ _ h _ => h, fun _ _ h _ => h, fun σ' w' hA hE hD hP => ?_⟩
          have t43 : σ' 43 = (.bool (!m12.2.2)) := hD 2 rfl
          rcases Bool.eq_false_or_eq_true (!m12.2.2) with hg27 | hg27
          · skip
            refine dg_off rfl (Eq.trans (show sl _ _ _ = .bool (!m12.2.2) from t43) (congrArg Value.bool hg27)) (by decide) ?_
            exact ⟨fun hc => Bool.noConfusion (hc.symm.trans hg27), own_none (Ext.refl _)⟩
          · skip
            have t44 : σ' 44 = (.int .i64 m16.1) := (hD 3 rfl : ((!m12.2.2) = false → σ' 44 = (.int .i64 m16.1))) hg27
            refine dg_on rfl (Eq.trans (show sl _ _ _ = .bool (!m12.2.2) from t43) (congrArg Value.bool hg27)) (d_cl (vs := [.int .i64 m16.1]) en59 (ac t44 rfl) rfl ?_)
            refine (c59 m16.1 m22 w' (bif_f hm22 hg27) (t_T10.ext (Ext.trans (Ext.trans X19 (ext_of_oth0 hE)) (Ext.refl w')))).mono ?_
            rintro _ w28 ⟨rfl, E28⟩
            refine ⟨_, rfl, ?_⟩
            have X29 : Ext w' w28 := (Ext.refl w').trans E28
            exact ⟨fun _ => rfl, own_none X29⟩
        · skip
          refine ⟨fun _ _ _ _ _ _ h _ => h, fun _ _ h _ => h, fun σ' w' hA hE hD hP => ?_⟩
          have t43 : σ' 43 = (.bool (!m12.2.2)) := hD 2 rfl
          rcases Bool.eq_false_or_eq_true (!m12.2.2) with hg30 | hg30
          · skip
            refine dg_off rfl (Eq.trans (show sl _ _ _ = .bool (!m12.2.2) from t43) (congrArg Value.bool hg30)) (by decide) ?_
            exact ⟨fun hc => Bool.noConfusion (hc.symm.trans hg30), own_none (Ext.refl _)⟩
          · skip
            have t45 : σ' 45 = (.string (bs m22)) := (hD 4 rfl : ((!m12.2.2) = false → σ' 45 = (.string (bs m22)))) hg30
            refine dg_on rfl (Eq.trans (show sl _ _ _ = .bool (!m12.2.2) from t43) (congrArg Value.bool hg30)) (d_scat t45 rfl (bif_f hm23 hg30) ?_)
            exact ⟨fun _ => rfl, own_none (Ext.refl w')⟩
        · skip
          refine ⟨fun _ _ _ _ _ _ h _ => h, fun _ _ h _ => h, fun σ' w' hA hE hD hP => ?_⟩
          have t43 : σ' 43 = (.bool (!m12.2.2)) := hD 2 rfl
          rcases Bool.eq_false_or_eq_true (!m12.2.2) with hg31 | hg31
          · skip
            refine dg_off rfl (Eq.trans (show sl _ _ _ = .bool (!m12.2.2) from t43) (congrArg Value.bool hg31)) (by decide) ?_
            exact ⟨fun hc => Bool.noConfusion (hc.symm.trans hg31), own_none (Ext.refl _)⟩
          · skip
            have t10 : σ' 10 = .string (bs m12.2.1) := (hA 10 rfl).trans rfl
            refine dg_on rfl (Eq.trans (show sl _ _ _ = .bool (!m12.2.2) from t43) (congrArg Value.bool hg31)) (d_mv (v := .string (bs m12.2.1)) t10 ?_)
            exact ⟨fun _ => rfl, own_none (Ext.refl w')⟩
        · skip
          refine ⟨fun _ _ _ _ _ _ h _ => h, fun _ _ h _ => h, fun σ' w' hA hE hD hP => ?_⟩
          have t43 : σ' 43 = (.bool (!m12.2.2)) := hD 2 rfl
          rcases Bool.eq_false_or_eq_true (!m12.2.2) with hg32 | hg32
          · skip
            refine dg_off rfl (Eq.trans (show sl _ _ _ = .bool (!m12.2.2) from t43) (congrArg Value.bool hg32)) (by decide) ?_
            exact ⟨fun hc => Bool.noConfusion (hc.symm.trans hg32), own_none (Ext.refl _)⟩
          · skip
            have t46 : σ' 46 = (.string (bs m23)) := (hD 5 rfl : ((!m12.2.2) = false → σ' 46 = (.string (bs m23)))) hg32
            have t47 : σ' 47 = (.string (bs m12.2.1)) := (hD 6 rfl : ((!m12.2.2) = false → σ' 47 = (.string (bs m12.2.1)))) hg32
            refine dg_on rfl (Eq.trans (show sl _ _ _ = .bool (!m12.2.2) from t43) (congrArg Value.bool hg32)) (d_scat t46 t47 (bif_f hm24 hg32) ?_)
            exact ⟨fun _ => rfl, own_none (Ext.refl w')⟩
        · skip
          refine ⟨fun _ _ _ _ _ _ h _ => h, fun _ _ h _ => h, fun σ' w' hA hE hD hP => ?_⟩
          have t43 : σ' 43 = (.bool (!m12.2.2)) := hD 2 rfl
          rcases Bool.eq_false_or_eq_true (!m12.2.2) with hg33 | hg33
          · skip
            refine dg_off rfl (Eq.trans (show sl _ _ _ = .bool (!m12.2.2) from t43) (congrArg Value.bool hg33)) (by decide) ?_
            exact ⟨fun hc => Bool.noConfusion (hc.symm.trans hg33), own_none (Ext.refl _)⟩
          · skip
            have t0 : σ' 0 = .string (bs p0) := (hA 0 rfl).trans i4_S0
            refine dg_on rfl (Eq.trans (show sl _ _ _ = .bool (!m12.2.2) from t43) (congrArg Value.bool hg33)) (d_mv (v := .string (bs p0)) t0 ?_)
            exact ⟨fun _ => rfl, own_none (Ext.refl w')⟩
        · skip
          refine ⟨fun _ _ _ _ _ _ h _ => h, fun _ _ h _ => h, fun σ' w' hA hE hD hP => ?_⟩
          have t43 : σ' 43 = (.bool (!m12.2.2)) := hD 2 rfl
          rcases Bool.eq_false_or_eq_true (!m12.2.2) with hg34 | hg34
          · skip
            refine dg_off rfl (Eq.trans (show sl _ _ _ = .bool (!m12.2.2) from t43) (congrArg Value.bool hg34)) (by decide) ?_
            exact ⟨fun hc => Bool.noConfusion (hc.symm.trans hg34), own_none (Ext.refl _)⟩
          · skip
            have t6 : σ' 6 = .int .i64 s4.2.1 := (hA 6 rfl).trans i4_S6
            refine dg_on rfl (Eq.trans (show sl _ _ _ = .bool (!m12.2.2) from t43) (congrArg Value.bool hg34)) (d_mv (v := .int .i64 s4.2.1) t6 ?_)
            exact ⟨fun _ => rfl, own_none (Ext.refl w')⟩
        · skip
          refine ⟨fun _ _ _ _ _ _ h _ => h, fun _ _ h _ => h, fun σ' w' hA hE hD hP => ?_⟩
          have t43 : σ' 43 = (.bool (!m12.2.2)) := hD 2 rfl
          rcases Bool.eq_false_or_eq_true (!m12.2.2) with hg35 | hg35
          · skip
            refine dg_off rfl (Eq.trans (show sl _ _ _ = .bool (!m12.2.2) from t43) (congrArg Value.bool hg35)) (by decide) ?_
            exact ⟨fun hc => Bool.noConfusion (hc.symm.trans hg35), own_none (Ext.refl _)⟩
          · skip
            have t6 : σ' 6 = .int .i64 s4.2.1 := (hA 6 rfl).trans i4_S6
            refine dg_on rfl (Eq.trans (show sl _ _ _ = .bool (!m12.2.2) from t43) (congrArg Value.bool hg35)) (d_mv (v := .int .i64 s4.2.1) t6 ?_)
            exact ⟨fun _ => rfl, own_none (Ext.refl w')⟩
        · skip
          refine ⟨fun _ _ _ _ _ _ h _ => h, fun _ _ h _ => h, fun σ' w' hA hE hD hP => ?_⟩
          have t43 : σ' 43 = (.bool (!m12.2.2)) := hD 2 rfl
          rcases Bool.eq_false_or_eq_true (!m12.2.2) with hg36 | hg36
          · skip
            refine dg_off rfl (Eq.trans (show sl _ _ _ = .bool (!m12.2.2) from t43) (congrArg Value.bool hg36)) (by decide) ?_
            exact ⟨fun hc => Bool.noConfusion (hc.symm.trans hg36), own_none (Ext.refl _)⟩
          · skip
            have t8 : σ' 8 = .int .i64 m6 := (hA 8 rfl).trans rfl
            refine dg_on rfl (Eq.trans (show sl _ _ _ = .bool (!m12.2.2) from t43) (congrArg Value.bool hg36)) (d_mv (v := .int .i64 m6) t8 ?_)
            exact ⟨fun _ => rfl, own_none (Ext.refl w')⟩
        · skip
          refine ⟨fun _ _ _ _ _ _ h _ => h, fun _ _ h _ => h, fun σ' w' hA hE hD hP => ?_⟩
          have t43 : σ' 43 = (.bool (!m12.2.2)) := hD 2 rfl
          rcases Bool.eq_false_or_eq_true (!m12.2.2) with hg37 | hg37
          · skip
            refine dg_off rfl (Eq.trans (show sl _ _ _ = .bool (!m12.2.2) from t43) (congrArg Value.bool hg37)) (by decide) ?_
            exact ⟨fun hc => Bool.noConfusion (hc.symm.trans hg37), own_none (Ext.refl _)⟩
          · skip
            have t51 : σ' 51 = (.int .i64 s4.2.1) := (hD 10 rfl : ((!m12.2.2) = false → σ' 51 = (.int .i64 s4.2.1))) hg37
            have t52 : σ' 52 = (.int .i64 m6) := (hD 11 rfl : ((!m12.2.2) = false → σ' 52 = (.int .i64 m6))) hg37
            refine dg_on rfl (Eq.trans (show sl _ _ _ = .bool (!m12.2.2) from t43) (congrArg Value.bool hg37)) (d_iarith t51 t52 (.inl ⟨rfl, rfl⟩) ?_)
            exact ⟨fun _ => rfl, own_none (Ext.refl w')⟩
        · skip
          refine ⟨fun _ _ _ _ _ _ h _ => h, fun _ _ h _ => h, fun σ' w' hA hE hD hP => ?_⟩
          have t43 : σ' 43 = (.bool (!m12.2.2)) := hD 2 rfl
          rcases Bool.eq_false_or_eq_true (!m12.2.2) with hg38 | hg38
          · skip
            refine dg_off rfl (Eq.trans (show sl _ _ _ = .bool (!m12.2.2) from t43) (congrArg Value.bool hg38)) (by decide) ?_
            exact ⟨fun hc => Bool.noConfusion (hc.symm.trans hg38), own_none (Ext.refl _)⟩
          · skip
            have t49 : σ' 49 = (.string (bs p0)) := (hD 8 rfl : ((!m12.2.2) = false → σ' 49 = (.string (bs p0)))) hg38
            have t50 : σ' 50 = (.int .i64 s4.2.1) := (hD 9 rfl : ((!m12.2.2) = false → σ' 50 = (.int .i64 s4.2.1))) hg38
            have t53 : σ' 53 = (.int .i64 (IntKind.i64.wrap (s4.2.1 + m6))) := (hD 12 rfl : ((!m12.2.2) = false → σ' 53 = (.int .i64 (IntKind.i64.wrap (s4.2.1 + m6))))) hg38
            refine dg_on rfl (Eq.trans (show sl _ _ _ = .bool (!m12.2.2) from t43) (congrArg Value.bool hg38)) (d_ssub (a := s4.2.1) (b := (IntKind.i64.wrap (s4.2.1 + m6))) un9 t49 (.inr ⟨_, _, rfl, t50⟩) (.inr ⟨_, _, rfl, t53⟩) (bif_f hm25 hg38) ?_)
            exact ⟨fun _ => rfl, own_none (Ext.refl w')⟩
        · skip
          refine ⟨fun _ _ _ _ _ _ h _ => h, fun _ _ h _ => h, fun σ' w' hA hE hD hP => ?_⟩
          have t43 : σ' 43 = (.bool (!m12.2.2)) := hD 2 rfl
          rcases Bool.eq_false_or_eq_true (!m12.2.2) with hg39 | hg39
          · skip
            refine dg_off rfl (Eq.trans (show sl _ _ _ = .bool (!m12.2.2) from t43) (congrArg Value.bool hg39)) (by decide) ?_
            exact ⟨fun hc => Bool.noConfusion (hc.symm.trans hg39), own_none (Ext.refl _)⟩
          · skip
            have t48 : σ' 48 = (.string (bs m24)) := (hD 7 rfl : ((!m12.2.2) = false → σ' 48 = (.string (bs m24)))) hg39
            have t54 : σ' 54 = (.string (bs m25)) := (hD 13 rfl : ((!m12.2.2) = false → σ' 54 = (.string (bs m25)))) hg39
            refine dg_on rfl (Eq.trans (show sl _ _ _ = .bool (!m12.2.2) from t43) (congrArg Value.bool hg39)) (d_sne t48 t54 ?_)
            exact ⟨fun _ => rfl, own_none (Ext.refl w')⟩
        · skip
          refine ⟨fun _ _ _ _ _ _ h _ => h, fun _ _ h _ => h, fun σ' w' hA hE hD hP => ?_⟩
          have t43 : σ' 43 = (.bool (!m12.2.2)) := hD 2 rfl
          rcases Bool.eq_false_or_eq_true (!m12.2.2) with hpk | hpk
          · skip
            refine dg_op rfl (d_pick (b := true) (Eq.trans (show ev _ _ = .bool (!m12.2.2) from t43) (congrArg Value.bool hpk)) ?_)
            exact ⟨Eq.trans (b := Value.bool true) rfl (congrArg Value.bool (by rw [hpk] <;> rfl)), own_none (Ext.refl _)⟩
          · skip
            have t55 : σ' 55 = (.bool (!(m24 == m25))) := (hD 14 rfl : ((!m12.2.2) = false → σ' 55 = (.bool (!(m24 == m25))))) hpk
            refine dg_op rfl (d_pick (b := false) (Eq.trans (show ev _ _ = .bool (!m12.2.2) from t43) (congrArg Value.bool hpk)) ?_)
            exact ⟨Eq.trans (b := Value.bool (!(m24 == m25))) t55 (congrArg Value.bool (by rw [hpk] <;> rfl)), own_none (Ext.refl _)⟩
        · skip
          intro σ20 w20 A20 E20 V20
          have E20x : Ext w18 w20 := ext_of_oth0 E20
          have s56_20 : σ20 56 = (.bool (bif (!m12.2.2) then true else (!(m24 == m25)))) := V20 15 (Nat.le_of_ble_eq_true rfl)
          have s5_20 : σ20 5 = (Value.slice i4_0a i4_0n i4_0c) := (A20 5 rfl).trans i4_S5
          have s6_20 : σ20 6 = .int .i64 s4.2.1 := (A20 6 rfl).trans i4_S6
          have s0_20 : σ20 0 = .string (bs p0) := (A20 0 rfl).trans i4_S0
          have s8_20 : σ20 8 = .int .i64 m6 := (A20 8 rfl).trans rfl
          have s10_20 : σ20 10 = .string (bs m12.2.1) := (A20 10 rfl).trans rfl
          have s12_20 : σ20 12 = .int .i64 m16.1 := (A20 12 rfl).trans rfl
          have X40 : Ext w w20 := X19.trans E20x
          refine W_cond (b := (bif (!m12.2.2) then true else (!(m24 == m25)))) s56_20 (fun hc41 => ?_) (fun hc41 => ?_)
          · skip
            replace hr := bif_t hr hc41
            refine W_exit ?_
            have B42 : OS w20 9 encS (Value.slice i4_0a i4_0n i4_0c) s4.1 := B21.ext E20x
            obtain rfl := Option.some.inj hr
            exact ⟨_, rfl, rfl, i4_0a, i4_0n, i4_0c, s5_20, s6_20, B42, i4_0O, X40⟩
          · skip
            replace hr := bif_f hr hc41
            refine W_skip ?_
            refine W_region rfl ?_
            refine da_op rfl (d_mv (v := (Value.slice i4_0a i4_0n i4_0c)) s5_20 ?_)
            refine da_op rfl (d_mv (v := .string (bs m12.2.1)) s10_20 ?_)
            have B44 : OS w20 9 encS (Value.slice i4_0a i4_0n i4_0c) s4.1 := B21.ext E20x
            refine da_op rfl (d_bslice (vs := [(0, .string (bs m12.2.1))]) (cs := #[.string (bs m12.2.1)]) un34 (pc rfl rfl) (by kernel_rfl) fun w43 B43 E43 => ?_)
            have fr43 : ∀ k, (Value.slice (some ⟨w20.heap.size, 0, none⟩) 1 1).ownBlock = some k → w20.heap.size ≤ k := fun k hk => by cases hk; exact Nat.le_refl _
            have own43 : ∀ k, (Value.slice (some ⟨w20.heap.size, 0, none⟩) 1 1).ownBlock = some k → w.heap.size ≤ k := fun k hk => Nat.le_trans X40.size (fr43 k hk)
            have sp45 : ∀ k, (Value.slice i4_0a i4_0n i4_0c).ownBlock = some k → ¬ (Value.slice (some ⟨w20.heap.size, 0, none⟩) 1 1).ownBlock = some k := apart_fresh B44 fr43
            have X46 : Ext w w43 := X40.trans E43
            have O43 : OS w43 9 encS (Value.slice (some ⟨w20.heap.size, 0, none⟩) 1 1) [m12.2.1] := OS.box (xs := [m12.2.1]) B43 (lc_v rfl rfl) (Nat.le_of_ble_eq_true rfl)
            obtain ⟨m47, hm47, hr⟩ := bind_out hr
            have B48 : OS w43 9 encS (Value.slice i4_0a i4_0n i4_0c) s4.1 := B44.ext E43
            refine da_op rfl (d_append (e := encS) (v := (Value.slice i4_0a i4_0n i4_0c)) (y := (Value.slice (some ⟨w20.heap.size, 0, none⟩) 1 1)) un34 info9 rfl (by kernel_rfl) (by kernel_rfl) (by decide) (by decide) rfl rfl B48 O43.rs hm47 fun v49 w49 O49 Fm49 at_49 nl49 => ?_)
            obtain ⟨v49pa, v49pn, v49pc, rfl⟩ := O49.vals
            have own49 : ∀ k, (Value.slice v49pa v49pn v49pc).ownBlock = some k → w.heap.size ≤ k := app_own (w := w43) at_49 i4_0O X46.size
            have sp50 : ∀ k, (Value.slice (some ⟨w20.heap.size, 0, none⟩) 1 1).ownBlock = some k → ¬ (Value.slice v49pa v49pn v49pc).ownBlock = some k := app_nr at_49 (apart_symm sp45) O43
            have X51 : Ext w w49 := Ext.step X46 Fm49 (fun k _ hk => i4_0O k hk)
            refine da_op rfl (d_mv (v := .int .i64 s4.2.1) s6_20 ?_)
            refine da_op rfl (d_mv (v := .int .i64 m6) s8_20 ?_)
            refine da_op rfl (d_iarith rfl rfl (.inl ⟨rfl, rfl⟩) ?_)
            refine da_op rfl (d_iarith rfl rfl (.inl ⟨rfl, rfl⟩) ?_)
            refine da_op rfl (d_mv (v := .int .i64 m16.1) s12_20 ?_)
            refine da_op rfl (d_as (v := (Value.slice v49pa v49pn v49pc)) rfl ?_)
            refine da_op rfl (d_as (v := .int .i64 (IntKind.i64.wrap ((IntKind.i64.wrap (s4.2.1 + m6)) + 1))) rfl ?_)
            refine da_op rfl (d_as (v := .int .i64 m16.1) rfl ?_)
            refine da_nil ?_
            obtain rfl := Option.some.inj hr
            exact ⟨_, rfl, ⟨v49pa, v49pn, v49pc, rfl, rfl, rfl, s0_20, O49, own49, X51⟩⟩
    · skip
      intro ex σx4 wx4 hq
      obtain ⟨rfl, q4_0_0a, q4_0_0n, q4_0_0c, q4_0_S5, q4_0_S6, q4_0_0R, q4_0_0O, q4_0_X⟩ := hq
      refine W_seq ?_
      refine W_region rfl ?_
      refine da_op rfl (d_mv (v := (Value.slice q4_0_0a q4_0_0n q4_0_0c)) q4_0_S5 ?_)
      refine da_op rfl (d_mv (v := .int .i64 m4.2) q4_0_S6 ?_)
      refine da_op rfl (d_as (v := (Value.slice q4_0_0a q4_0_0n q4_0_0c)) rfl ?_)
      refine da_op rfl (d_as (v := .int .i64 m4.2) rfl ?_)
      refine da_op rfl (d_as (v := .bool true) rfl ?_)
      refine da_nil ?_
      refine W_ret ?_
      obtain rfl := Option.some.inj hr
      refine ⟨_, res3 (rv_tmp rfl) (rv_tmp rfl) (rv_tmp rfl), ?_⟩
      exact ⟨q4_0_0a, q4_0_0n, q4_0_0c, rfl, q4_0_0R, q4_0_0O, q4_0_X⟩
set_option maxHeartbeats 4000000 in
theorem c21 (p0 : List (List UInt8)) (p1 : List (List UInt8)) (p0a : Option Addr) (p0n : Nat) (p0c : Nat) (p1a : Option Addr) (p1n : Nat) (p1c : Nat) (r : Bool) (w : World) (hr : M.laws_eqStringS p0 p1 = some r) (p0R : RS w encS (Value.slice p0a p0n p0c) p0) (p1R : RS w encS (Value.slice p1a p1n p1c) p1) :
    Calls Tryd.prog 21 #[(Value.slice p0a p0n p0c), (Value.slice p1a p1n p1c)] w fun e w' => e = .returned (.bool r) ∧ Ext w w' := by
  refine calls_of_W Tryd.func21 rfl (Nat.le_of_ble_eq_true rfl) ?_
  refine W_seq ?_
  refine W_region rfl ?_
  refine da_op rfl (d_as (v := .bool false) rfl ?_)
  refine da_nil ?_
  refine W_seq ?_
  refine W_seq ?_
  refine W_region rfl ?_
  refine da_op rfl (d_mv (v := (Value.slice p0a p0n p0c)) rfl ?_)
  refine da_op rfl (d_len (e := encS) un34 rfl p0R ?_)
  refine da_op rfl (d_mv (v := (Value.slice p1a p1n p1c)) rfl ?_)
  refine da_op rfl (d_len (e := encS) un34 rfl p1R ?_)
  refine da_op rfl (d_icmp cNeq rfl rfl ?_)
  refine da_nil ?_
  refine W_cond (b := (icmp .neq ((p0).length : Int) ((p1).length : Int))) rfl (fun hc1 => ?_) (fun hc1 => ?_)
  · skip
    replace hr := bif_t hr hc1
    refine W_seq ?_
    refine W_region rfl ?_
    refine da_op rfl (d_as (v := .bool false) rfl ?_)
    refine da_nil ?_
    refine W_ret ?_
    obtain rfl := Option.some.inj hr
    refine ⟨_, res1 (rv_tmp rfl), ?_⟩
    exact ⟨rfl, (Ext.refl w)⟩
  · skip
    replace hr := bif_f hr hc1
    refine W_skip ?_
    refine W_seq ?_
    refine W_seq ?_
    refine W_region rfl ?_
    refine da_op rfl (d_as (v := .int .i64 0) rfl ?_)
    refine da_nil ?_
    refine W_block ?_
    obtain ⟨m2, hm2, hr⟩ := bind_out hr
    refine W_loopM hm2 (fun (s2 : Int) σ w' => σ 5 = .int .i64 s2 ∧ σ 0 = (Value.slice p0a p0n p0c) ∧ σ 1 = (Value.slice p1a p1n p1c) ∧ Ext w w') (fun (e2 : (Unit ⊕ Bool)) ex σ w' => sel e2 (fun e2 => ex = .exit 0 ∧ Ext w w') (fun e2 => ex = .ret ∧ σ 4 = .bool e2 ∧ Ext w w')) ⟨rfl, rfl, rfl, (Ext.refl w)⟩ ?_ ?_
    · skip
      rintro s2 σl2 wl2 r2l ⟨i2_S5, i2_S0, i2_S1, i2_X⟩ hr
      refine W_seq ?_
      refine W_seq ?_
      refine W_region rfl ?_
      refine da_op rfl (d_mv (v := .int .i64 s2) i2_S5 ?_)
      refine da_op rfl (d_mv (v := (Value.slice p0a p0n p0c)) i2_S0 ?_)
      have B3 : RS wl2 encS (Value.slice p0a p0n p0c) p0 := p0R.ext i2_X
      refine da_op rfl (d_len (e := encS) un34 rfl B3 ?_)
      refine da_op rfl (d_icmp cLss rfl rfl ?_)
      refine da_nil ?_
      refine W_cond (b := (icmp .lss s2 ((p0).length : Int))) rfl (fun hc4 => ?_) (fun hc4 => ?_)
      · skip
        replace hr := bif_t hr hc4
        refine W_skip ?_
        refine W_seq ?_
        refine W_block ?_
        refine W_seq ?_
        have B6 : RS wl2 encS (Value.slice p1a p1n p1c) p1 := p1R.ext i2_X
        obtain ⟨m7, hm7, hr⟩ := bind_out hr
        obtain ⟨m8, hm8, hr⟩ := bind_out hr
        refine W_any [] [{ V := fun _ v _ => v = (Value.slice p0a p0n p0c) }, { V := fun _ v _ => v = (.int .i64 s2) }, { V := fun _ v _ => ∃ d5_2g : Nat, ∃ d5_2o : Nat, v = (.pointer (some ⟨d5_2g, d5_2o, none⟩)) ∧ EL encS (Value.slice p0a p0n p0c) (p0).length s2 d5_2g d5_2o }, { V := fun _ v _ => v = (.string (bs m7)) }, { V := fun _ v _ => v = (Value.slice p1a p1n p1c) }, { V := fun _ v _ => v = (.int .i64 s2) }, { V := fun _ v _ => ∃ d5_6g : Nat, ∃ d5_6o : Nat, v = (.pointer (some ⟨d5_6g, d5_6o, none⟩)) ∧ EL encS (Value.slice p1a p1n p1c) (p1).length s2 d5_6g d5_6o }, { V := fun _ v _ => v = (.string (bs m8)) }, { V := fun _ v _ => v = (.bool (!(m7 == m8))) }] mixed (by kernel_rfl) ⟨trivial, trivial, trivial, trivial, trivial, trivial, trivial, trivial, trivial, trivial⟩ ⟨?_, ?_, ?_, ?_, ?_, ?_, ?_, ?_, ?_, trivial⟩ ?_
        · skip
          refine ⟨fun _ _ _ _ _ _ h _ => h, fun _ _ h _ => h, fun σ' w' hA hE hD hP => ?_⟩
          have t0 : σ' 0 = (Value.slice p0a p0n p0c) := (hA 0 rfl).trans i2_S0
          have B0_9 : RS w' encS (Value.slice p0a p0n p0c) p0 := B3.frm hE (fun k _ hk => not_oth0)
          refine dg_op rfl (d_mv (v := (Value.slice p0a p0n p0c)) t0 ?_)
          exact ⟨rfl, own_none (Ext.refl w')⟩
        · skip
          refine ⟨fun _ _ _ _ _ _ h _ => h, fun _ _ h _ => h, fun σ' w' hA hE hD hP => ?_⟩
          have t5 : σ' 5 = .int .i64 s2 := (hA 5 rfl).trans i2_S5
          refine dg_op rfl (d_mv (v := .int .i64 s2) t5 ?_)
          exact ⟨rfl, own_none (Ext.refl w')⟩
        · skip
          refine ⟨fun _ _ _ _ _ _ h _ => h, fun _ _ h _ => h, fun σ' w' hA hE hD hP => ?_⟩
          have t17 : σ' 17 = (Value.slice p0a p0n p0c) := hD 0 rfl
          have t18 : σ' 18 = (.int .i64 s2) := hD 1 rfl
          have B0_10 : RS w' encS (Value.slice p0a p0n p0c) p0 := B3.frm hE (fun k _ hk => not_oth0)
          refine dg_op rfl (d_indexE (e := encS) (v := (Value.slice p0a p0n p0c)) un34 size9 t17 t18 B0_10 hm7 fun g11 o11 l11 => ?_)
          exact ⟨⟨g11, o11, rfl, l11⟩, own_none (Ext.refl _)⟩
        · skip
          refine ⟨fun _ _ _ _ _ _ h _ => h, fun _ _ h _ => h, fun σ' w' hA hE hD hP => ?_⟩
          obtain ⟨d5_2g, d5_2o, t19, d5_2gE⟩ : ∃ d5_2g : Nat, ∃ d5_2o : Nat, σ' 19 = (.pointer (some ⟨d5_2g, d5_2o, none⟩)) ∧ EL encS (Value.slice p0a p0n p0c) (p0).length s2 d5_2g d5_2o := hD 2 rfl
          have B0_12 : RS w' encS (Value.slice p0a p0n p0c) p0 := B3.frm hE (fun k _ hk => not_oth0)
          obtain ⟨d5_2c, d5_2T, d5_2f, d5_2vs, d5_2hg, d5_2P, d5_2hq⟩ := RS.el B0_12 d5_2gE hm7
          obtain rfl := dec_encS d5_2hq
          refine dg_op rfl (d_load (v := .string (bs m7)) t19 agg9 d5_2hg (sub_get (vs := #[.string (bs m7)]) d5_2P (i := 0) rfl) ?_)
          exact ⟨rfl, own_none (Ext.refl w')⟩
        · skip
          refine ⟨fun _ _ _ _ _ _ h _ => h, fun _ _ h _ => h, fun σ' w' hA hE hD hP => ?_⟩
          have t1 : σ' 1 = (Value.slice p1a p1n p1c) := (hA 1 rfl).trans i2_S1
          have B0_13 : RS w' encS (Value.slice p1a p1n p1c) p1 := B6.frm hE (fun k _ hk => not_oth0)
          refine dg_op rfl (d_mv (v := (Value.slice p1a p1n p1c)) t1 ?_)
          exact ⟨rfl, own_none (Ext.refl w')⟩
        · skip
          refine ⟨fun _ _ _ _ _ _ h _ => h, fun _ _ h _ => h, fun σ' w' hA hE hD hP => ?_⟩
          have t5 : σ' 5 = .int .i64 s2 := (hA 5 rfl).trans i2_S5
          refine dg_op rfl (d_mv (v := .int .i64 s2) t5 ?_)
          exact ⟨rfl, own_none (Ext.refl w')⟩
        · skip
          refine ⟨fun _ _ _ _ _ _ h _ => h, fun _ _ h _ => h, fun σ' w' hA hE hD hP => ?_⟩
          have t21 : σ' 21 = (Value.slice p1a p1n p1c) := hD 4 rfl
          have t22 : σ' 22 = (.int .i64 s2) := hD 5 rfl
          have B0_14 : RS w' encS (Value.slice p1a p1n p1c) p1 := B6.frm hE (fun k _ hk => not_oth0)
          refine dg_op rfl (d_indexE (e := encS) (v := (Value.slice p1a p1n p1c)) un34 size9 t21 t22 B0_14 hm8 fun g15 o15 l15 => ?_)
          exact ⟨⟨g15, o15, rfl, l15⟩, own_none (Ext.refl _)⟩
        · skip
          refine ⟨fun _ _ _ _ _ _ h _ => h, fun _ _ h _ => h, fun σ' w' hA hE hD hP => ?_⟩
          obtain ⟨d5_6g, d5_6o, t23, d5_6gE⟩ : ∃ d5_6g : Nat, ∃ d5_6o : Nat, σ' 23 = (.pointer (some ⟨d5_6g, d5_6o, none⟩)) ∧ EL encS (Value.slice p1a p1n p1c) (p1).length s2 d5_6g d5_6o := hD 6 rfl
          have B0_16 : RS w' encS (Value.slice p1a p1n p1c) p1 := B6.frm hE (fun k _ hk => not_oth0)
          obtain ⟨d5_6c, d5_6T, d5_6f, d5_6vs, d5_6hg, d5_6P, d5_6hq⟩ := RS.el B0_16 d5_6gE hm8
          obtain rfl := dec_encS d5_6hq
          refine dg_op rfl (d_load (v := .string (bs m8)) t23 agg9 d5_6hg (sub_get (vs := #[.string (bs m8)]) d5_6P (i := 0) rfl) ?_)
          exact ⟨rfl, own_none (Ext.refl w')⟩
        · skip
          refine ⟨fun _ _ _ _ _ _ h _ => h, fun _ _ h _ => h, fun σ' w' hA hE hD hP => ?_⟩
          have t20 : σ' 20 = (.string (bs m7)) := hD 3 rfl
          have t24 : σ' 24 = (.string (bs m8)) := hD 7 rfl
          refine dg_op rfl (d_sne t20 t24 ?_)
          exact ⟨rfl, own_none (Ext.refl w')⟩
        · skip
          intro σ5 w5 A5 E5 V5
          have E5x : Ext wl2 w5 := ext_of_oth0 E5
          have s25_5 : σ5 25 = (.bool (!(m7 == m8))) := V5 8 (Nat.le_of_ble_eq_true rfl)
          have s5_5 : σ5 5 = .int .i64 s2 := (A5 5 rfl).trans i2_S5
          have s0_5 : σ5 0 = (Value.slice p0a p0n p0c) := (A5 0 rfl).trans i2_S0
          have s1_5 : σ5 1 = (Value.slice p1a p1n p1c) := (A5 1 rfl).trans i2_S1
          have X17 : Ext w w5 := i2_X.trans E5x
          refine W_cond (b := (!(m7 == m8))) s25_5 (fun hc18 => ?_) (fun hc18 => ?_)
          · skip
            replace hr := bif_t hr hc18
            refine W_seq ?_
            refine W_region rfl ?_
            refine da_op rfl (d_as (v := .bool false) rfl ?_)
            refine da_nil ?_
            refine W_ret ?_
            obtain rfl := Option.some.inj hr
            exact ⟨_, rfl, rfl, rfl, X17⟩
          · skip
            replace hr := bif_f hr hc18
            refine W_skip ?_
            refine W_region rfl ?_
            refine da_op rfl (d_mv (v := .int .i64 s2) s5_5 ?_)
            refine da_op rfl (d_iarith rfl rfl (.inl ⟨rfl, rfl⟩) ?_)
            refine da_op rfl (d_as (v := .int .i64 (IntKind.i64.wrap (s2 + 1))) rfl ?_)
            refine da_nil ?_
            obtain rfl := Option.some.inj hr
            exact ⟨_, rfl, ⟨rfl, s0_5, s1_5, X17⟩⟩
      · skip
        replace hr := bif_f hr hc4
        refine W_exit ?_
        obtain rfl := Option.some.inj hr
        exact ⟨_, rfl, rfl, i2_X⟩
    · skip
      intro ex σx2 wx2 hq
      rcases m2 with m2 | m2
      · skip
        obtain ⟨rfl, q2_0_X⟩ := hq
        refine W_seq ?_
        refine W_region rfl ?_
        refine da_op rfl (d_as (v := .bool true) rfl ?_)
        refine da_nil ?_
        refine W_ret ?_
        obtain rfl := Option.some.inj hr
        refine ⟨_, res1 (rv_tmp rfl), ?_⟩
        exact ⟨rfl, q2_0_X⟩
      · skip
        obtain ⟨rfl, q2_1_S4, q2_1_X⟩ := hq
        obtain rfl := Option.some.inj hr
        refine ⟨_, res1 (rv_tmp q2_1_S4), ?_⟩
        exact ⟨rfl, q2_1_X⟩
set_option maxHeartbeats 4000000 in
theorem c64 (p0 : Int) (r : List UInt8) (w : World) (hr : M.laws_markText p0 = some r)  :
    Calls Tryd.prog 64 #[.int .i64 p0] w fun e w' => e = .returned (.string (bs r)) ∧ Ext w w' := by
  refine calls_of_W Tryd.func64 rfl (Nat.le_of_ble_eq_true rfl) ?_
  refine W_seq ?_
  refine W_region rfl ?_
  refine da_op rfl (d_as (v := .string (bs ([] : List UInt8))) rfl ?_)
  refine da_nil ?_
  refine W_seq ?_
  refine W_seq ?_
  refine W_region rfl ?_
  refine da_op rfl (d_mv (v := .int .i64 p0) rfl ?_)
  refine da_op rfl (d_icmp cLeq rfl rfl ?_)
  refine da_nil ?_
  refine W_cond (b := (icmp .leq p0 0)) rfl (fun hc1 => ?_) (fun hc1 => ?_)
  · skip
    replace hr := bif_t hr hc1
    refine W_seq ?_
    refine W_region rfl ?_
    refine da_op rfl (d_as (v := .string (bs ([109, 48] : List UInt8))) rfl ?_)
    refine da_nil ?_
    refine W_ret ?_
    obtain rfl := Option.some.inj hr
    refine ⟨_, res1 (rv_tmp rfl), ?_⟩
    exact ⟨rfl, (Ext.refl w)⟩
  · skip
    replace hr := bif_f hr hc1
    refine W_skip ?_
    refine W_seq ?_
    refine W_region rfl ?_
    refine da_op rfl (d_as (v := .string (bs ([] : List UInt8))) rfl ?_)
    refine da_nil ?_
    refine W_seq ?_
    refine W_block ?_
    obtain ⟨m2, hm2, hr⟩ := bind_out hr
    refine W_loopM hm2 (fun (s2 : Int × List UInt8) σ w' => σ 0 = .int .i64 s2.1 ∧ σ 3 = .string (bs s2.2) ∧ Ext w w') (fun (e2 : (List UInt8)) ex σ w' => ex = .exit 0 ∧ σ 3 = .string (bs e2) ∧ Ext w w') ⟨rfl, rfl, (Ext.refl w)⟩ ?_ ?_
    · skip
      rintro s2 σl2 wl2 r2l ⟨i2_S0, i2_S3, i2_X⟩ hr
      refine W_seq ?_
      refine W_seq ?_
      refine W_region rfl ?_
      refine da_op rfl (d_mv (v := .int .i64 s2.1) i2_S0 ?_)
      refine da_op rfl (d_icmp cGtr rfl rfl ?_)
      refine da_nil ?_
      refine W_cond (b := (icmp .gtr s2.1 0)) rfl (fun hc3 => ?_) (fun hc3 => ?_)
      · skip
        replace hr := bif_t hr hc3
        refine W_skip ?_
        refine W_block ?_
        refine W_seq ?_
        refine W_region rfl ?_
        refine da_op rfl (d_mv (v := .int .i64 s2.1) i2_S0 ?_)
        refine da_op rfl (d_remL rfl rfl (by decide) ?_)
        refine da_op rfl (d_iarith rfl rfl (.inl ⟨rfl, rfl⟩) ?_)
        refine da_op rfl (d_iconv un3 un5 rfl ?_)
        refine da_op rfl (d_bslice (vs := [(0, .int .u8 (IntKind.u8.wrap (IntKind.i64.wrap (48 + ((s2.1).tmod 10)))))]) (cs := #[.int .u8 (IntKind.u8.wrap (IntKind.i64.wrap (48 + ((s2.1).tmod 10))))]) un73 (pc rfl rfl) (by kernel_rfl) fun w4 B4 E4 => ?_)
        have fr4 : ∀ k, (Value.slice (some ⟨wl2.heap.size, 0, none⟩) 1 1).ownBlock = some k → wl2.heap.size ≤ k := fun k hk => by cases hk; exact Nat.le_refl _
        have own4 : ∀ k, (Value.slice (some ⟨wl2.heap.size, 0, none⟩) 1 1).ownBlock = some k → w.heap.size ≤ k := fun k hk => Nat.le_trans i2_X.size (fr4 k hk)
        have X5 : Ext w w4 := i2_X.trans E4
        have O4 : OS w4 5 encI_u8 (Value.slice (some ⟨wl2.heap.size, 0, none⟩) 1 1) [(IntKind.u8.wrap (IntKind.i64.wrap (48 + ((s2.1).tmod 10))))] := OS.box (xs := [(IntKind.u8.wrap (IntKind.i64.wrap (48 + ((s2.1).tmod 10))))]) B4 (lc_v rfl rfl) (Nat.le_of_ble_eq_true rfl)
        refine da_op rfl (d_bstr (e := encI_u8) (v := (Value.slice (some ⟨wl2.heap.size, 0, none⟩) 1 1)) rfl un73 un5 un9 rfl O4.rs ?_)
        refine da_op rfl (d_mv (v := .string (bs s2.2)) i2_S3 ?_)
        obtain ⟨m6, hm6, hr⟩ := bind_out hr
        refine da_op rfl (d_scat rfl rfl hm6 ?_)
        refine da_op rfl (d_as (v := .string (bs m6)) rfl ?_)
        refine da_nil ?_
        refine W_region rfl ?_
        refine da_op rfl (d_mv (v := .int .i64 s2.1) i2_S0 ?_)
        refine da_op rfl (d_quoL rfl rfl (by decide) ?_)
        refine da_op rfl (d_as (v := .int .i64 (IntKind.i64.wrap ((s2.1).tdiv 10))) rfl ?_)
        refine da_nil ?_
        obtain rfl := Option.some.inj hr
        exact ⟨_, rfl, ⟨rfl, rfl, X5⟩⟩
      · skip
        replace hr := bif_f hr hc3
        refine W_exit ?_
        obtain rfl := Option.some.inj hr
        exact ⟨_, rfl, rfl, i2_S3, i2_X⟩
    · skip
      intro ex σx2 wx2 hq
      obtain ⟨rfl, q2_0_S3, q2_0_X⟩ := hq
      refine W_seq ?_
      refine W_region rfl ?_
      refine da_op rfl (d_mv (v := .string (bs m2)) q2_0_S3 ?_)
      obtain ⟨m7, hm7, hr⟩ := bind_out hr
      refine da_op rfl (d_scat rfl rfl hm7 ?_)
      refine da_op rfl (d_as (v := .string (bs m7)) rfl ?_)
      refine da_nil ?_
      refine W_ret ?_
      obtain rfl := Option.some.inj hr
      refine ⟨_, res1 (rv_tmp rfl), ?_⟩
      exact ⟨rfl, q2_0_X⟩
set_option maxHeartbeats 4000000 in
theorem c24 (p0 : List (List UInt8)) (p1 : Int) (p0a : Option Addr) (p0n : Nat) (p0c : Nat) (r : Int × List (List UInt8)) (w : World) (hr : M.laws_markStringS p0 p1 = some r) (p0R : OS w 9 encS (Value.slice p0a p0n p0c) p0) :
    Calls Tryd.prog 24 #[(Value.slice p0a p0n p0c), .int .i64 p1] w fun e w' => e = .returned (.int .i64 r.1) ∧ OS w' 9 encS (Value.slice p0a p0n p0c) r.2 ∧ Frm (fun k _ => (Value.slice p0a p0n p0c).ownBlock = some k) w w' := by
  have X0 : Frm (fun k _ => (Value.slice p0a p0n p0c).ownBlock = some k) w w := Frm.refl _ w
  refine calls_of_W Tryd.func24 rfl (Nat.le_of_ble_eq_true rfl) ?_
  refine W_seq ?_
  refine W_region rfl ?_
  refine da_op rfl (d_as (v := .int .i64 0) rfl ?_)
  refine da_nil ?_
  refine W_seq ?_
  refine W_seq ?_
  refine W_region rfl ?_
  refine da_op rfl (d_as (v := .int .i64 0) rfl ?_)
  refine da_nil ?_
  refine W_block ?_
  obtain ⟨m1, hm1, hr⟩ := bind_out hr
  refine W_loopM hm1 (fun (s1 : Int × Int × List (List UInt8)) σ w' => σ 1 = .int .i64 s1.1 ∧ σ 5 = .int .i64 s1.2.1 ∧ σ 0 = (Value.slice p0a p0n p0c) ∧ OS w' 9 encS (Value.slice p0a p0n p0c) s1.2.2 ∧ Frm (fun k _ => (Value.slice p0a p0n p0c).ownBlock = some k) w w') (fun (e1 : (Int × List (List UInt8))) ex σ w' => ex = .exit 0 ∧ σ 1 = .int .i64 e1.1 ∧ OS w' 9 encS (Value.slice p0a p0n p0c) e1.2 ∧ Frm (fun k _ => (Value.slice p0a p0n p0c).ownBlock = some k) w w') ⟨rfl, rfl, rfl, p0R, X0⟩ ?_ ?_
  · skip
    rintro s1 σl1 wl1 r1l ⟨i1_S1, i1_S5, i1_S0, i1_2R, i1_X⟩ hr
    refine W_seq ?_
    refine W_seq ?_
    refine W_region rfl ?_
    refine da_op rfl (d_mv (v := .int .i64 s1.2.1) i1_S5 ?_)
    refine da_op rfl (d_mv (v := (Value.slice p0a p0n p0c)) i1_S0 ?_)
    refine da_op rfl (d_len (e := encS) un34 rfl i1_2R.rs ?_)
    refine da_op rfl (d_icmp cLss rfl rfl ?_)
    refine da_nil ?_
    refine W_cond (b := (icmp .lss s1.2.1 ((s1.2.2).length : Int))) rfl (fun hc2 => ?_) (fun hc2 => ?_)
    · skip
      replace hr := bif_t hr hc2
      refine W_skip ?_
      refine W_seq ?_
      refine W_block ?_
      refine W_seq ?_
      refine W_region rfl ?_
      refine da_op rfl (d_mv (v := (Value.slice p0a p0n p0c)) i1_S0 ?_)
      refine da_op rfl (d_mv (v := .int .i64 s1.2.1) i1_S5 ?_)
      refine da_op rfl (d_mv (v := .int .i64 s1.1) i1_S1 ?_)
      obtain ⟨m3, hm3, hr⟩ := bind_out hr
      refine da_op rfl (d_cl (vs := [.int .i64 s1.1]) en64 (ac rfl rfl) rfl ?_)
      refine (c64 s1.1 m3 wl1 hm3 ).mono ?_
      rintro _ w4 ⟨rfl, E4⟩
      refine ⟨_, rfl, ?_⟩
      have X5 : Frm (fun k _ => (Value.slice p0a p0n p0c).ownBlock = some k) w w4 := i1_X.trans E4.frm
      obtain ⟨m6, hm6, hr⟩ := bind_out hr
      have B8 : OS w4 9 encS (Value.slice p0a p0n p0c) s1.2.2 := i1_2R.ext E4
      refine da_op rfl (d_indexO (e := encS) (v := (Value.slice p0a p0n p0c)) un34 size9 rfl rfl B8 hm6 fun g7 fr7 cu7 vs7 hv7 hg7 hp7 hq7 => ?_)
      obtain rfl := dec_encS hq7
      refine da_op rfl (d_store_elem (e := encS) (i := s1.2.1) (k := 0) (old := [.string (bs m6)]) (vs := #[.string (bs m3)]) (new := [.string (bs m3)]) (x2 := m3) rfl rfl hv7 B8 hg7 hp7 hm6 size9 (by kernel_rfl) (Nat.le_of_ble_eq_true rfl) rfl rfl (lc_v rfl rfl) rfl fun w9 S9 O10 => ?_)
      have X11 : Frm (fun k _ => (Value.slice p0a p0n p0c).ownBlock = some k) w w9 := Frm.step X5 S9.frmb (fun k _ hk => .inl (by rw [hv7, hk]; rfl))
      refine da_nil ?_
      refine W_region rfl ?_
      refine da_op rfl (d_mv (v := .int .i64 s1.1) i1_S1 ?_)
      refine da_op rfl (d_iarith rfl rfl (.inl ⟨rfl, rfl⟩) ?_)
      refine da_op rfl (d_as (v := .int .i64 (IntKind.i64.wrap (s1.1 + 1))) rfl ?_)
      refine da_nil ?_
      refine W_region rfl ?_
      refine da_op rfl (d_mv (v := .int .i64 s1.2.1) i1_S5 ?_)
      refine da_op rfl (d_iarith rfl rfl (.inl ⟨rfl, rfl⟩) ?_)
      refine da_op rfl (d_as (v := .int .i64 (IntKind.i64.wrap (s1.2.1 + 1))) rfl ?_)
      refine da_nil ?_
      obtain rfl := Option.some.inj hr
      exact ⟨_, rfl, ⟨rfl, rfl, i1_S0, O10, X11⟩⟩
    · skip
      replace hr := bif_f hr hc2
      refine W_exit ?_
      obtain rfl := Option.some.inj hr
      exact ⟨_, rfl, rfl, i1_S1, i1_2R, i1_X⟩
  · skip
    intro ex σx1 wx1 hq
    obtain ⟨rfl, q1_0_S1, q1_0_1R, q1_0_X⟩ := hq
    refine W_seq ?_
    refine W_region rfl ?_
    refine da_op rfl (d_mv (v := .int .i64 m1.1) q1_0_S1 ?_)
    refine da_op rfl (d_as (v := .int .i64 m1.1) rfl ?_)
    refine da_nil ?_
    refine W_ret ?_
    obtain rfl := Option.some.inj hr
    refine ⟨_, res1 (rv_tmp rfl), ?_⟩
    exact ⟨rfl, q1_0_1R, q1_0_X⟩
set_option maxHeartbeats 4000000 in
theorem c25 (p0 : List (List UInt8)) (p1 : Int) (p0a : Option Addr) (p0n : Nat) (p0c : Nat) (r : Int) (w : World) (hr : M.laws_heldStringS p0 p1 = some r) (p0R : RS w encS (Value.slice p0a p0n p0c) p0) :
    Calls Tryd.prog 25 #[(Value.slice p0a p0n p0c), .int .i64 p1] w fun e w' => e = .returned (.int .i64 r) ∧ Ext w w' := by
  refine calls_of_W Tryd.func25 rfl (Nat.le_of_ble_eq_true rfl) ?_
  refine W_seq ?_
  refine W_region rfl ?_
  refine da_op rfl (d_as (v := .int .i64 0) rfl ?_)
  refine da_nil ?_
  refine W_seq ?_
  refine W_seq ?_
  refine W_region rfl ?_
  refine da_op rfl (d_as (v := .int .i64 0) rfl ?_)
  refine da_nil ?_
  refine W_block ?_
  obtain ⟨m1, hm1, hr⟩ := bind_out hr
  refine W_loopM hm1 (fun (s1 : Int × Int) σ w' => σ 1 = .int .i64 s1.1 ∧ σ 5 = .int .i64 s1.2 ∧ σ 0 = (Value.slice p0a p0n p0c) ∧ Ext w w') (fun (e1 : (Int ⊕ Int)) ex σ w' => sel e1 (fun e1 => ex = .exit 0 ∧ σ 1 = .int .i64 e1 ∧ Ext w w') (fun e1 => ex = .ret ∧ σ 4 = .int .i64 e1 ∧ Ext w w')) ⟨rfl, rfl, rfl, (Ext.refl w)⟩ ?_ ?_
  · skip
    rintro s1 σl1 wl1 r1l ⟨i1_S1, i1_S5, i1_S0, i1_X⟩ hr
    refine W_seq ?_
    refine W_seq ?_
    refine W_region rfl ?_
    refine da_op rfl (d_mv (v := .int .i64 s1.2) i1_S5 ?_)
    refine da_op rfl (d_mv (v := (Value.slice p0a p0n p0c)) i1_S0 ?_)
    have B2 : RS wl1 encS (Value.slice p0a p0n p0c) p0 := p0R.ext i1_X
    refine da_op rfl (d_len (e := encS) un34 rfl B2 ?_)
    refine da_op rfl (d_icmp cLss rfl rfl ?_)
    refine da_nil ?_
    refine W_cond (b := (icmp .lss s1.2 ((p0).length : Int))) rfl (fun hc3 => ?_) (fun hc3 => ?_)
    · skip
      replace hr := bif_t hr hc3
      refine W_skip ?_
      refine W_seq ?_
      refine W_block ?_
      refine W_seq ?_
      refine W_seq ?_
      obtain ⟨m5, hm5, hr⟩ := bind_out hr
      obtain ⟨m6, hm6, hr⟩ := bind_out hr
      refine W_any [] [{ V := fun _ v _ => v = (Value.slice p0a p0n p0c) }, { V := fun _ v _ => v = (.int .i64 s1.2) }, { V := fun _ v _ => ∃ d4_2g : Nat, ∃ d4_2o : Nat, v = (.pointer (some ⟨d4_2g, d4_2o, none⟩)) ∧ EL encS (Value.slice p0a p0n p0c) (p0).length s1.2 d4_2g d4_2o }, { V := fun _ v _ => v = (.string (bs m5)) }, { V := fun _ v _ => v = (.int .i64 s1.1) }, { V := fun _ v _ => v = (.string (bs m6)) }, { V := fun _ v _ => v = (.bool (!(m5 == m6))) }] mixed (by kernel_rfl) ⟨trivial, trivial, trivial, trivial, trivial, trivial, trivial, trivial⟩ ⟨?_, ?_, ?_, ?_, ?_, ?_, ?_, trivial⟩ ?_
      · skip
        refine ⟨fun _ _ _ _ _ _ h _ => h, fun _ _ h _ => h, fun σ' w' hA hE hD hP => ?_⟩
        have t0 : σ' 0 = (Value.slice p0a p0n p0c) := (hA 0 rfl).trans i1_S0
        have B0_7 : RS w' encS (Value.slice p0a p0n p0c) p0 := B2.frm hE (fun k _ hk => not_oth0)
        refine dg_op rfl (d_mv (v := (Value.slice p0a p0n p0c)) t0 ?_)
        exact ⟨rfl, own_none (Ext.refl w')⟩
      · skip
        refine ⟨fun _ _ _ _ _ _ h _ => h, fun _ _ h _ => h, fun σ' w' hA hE hD hP => ?_⟩
        have t5 : σ' 5 = .int .i64 s1.2 := (hA 5 rfl).trans i1_S5
        refine dg_op rfl (d_mv (v := .int .i64 s1.2) t5 ?_)
        exact ⟨rfl, own_none (Ext.refl w')⟩
      · skip
        refine ⟨fun _ _ _ _ _ _ h _ => h, fun _ _ h _ => h, fun σ' w' hA hE hD hP => ?_⟩
        have t12 : σ' 12 = (Value.slice p0a p0n p0c) := hD 0 rfl
        have t13 : σ' 13 = (.int .i64 s1.2) := hD 1 rfl
        have B0_8 : RS w' encS (Value.slice p0a p0n p0c) p0 := B2.frm hE (fun k _ hk => not_oth0)
        refine dg_op rfl (d_indexE (e := encS) (v := (Value.slice p0a p0n p0c)) un34 size9 t12 t13 B0_8 hm5 fun g9 o9 l9 => ?_)
        exact ⟨⟨g9, o9, rfl, l9⟩, own_none (Ext.refl _)⟩
      · skip
        refine ⟨fun _ _ _ _ _ _ h _ => h, fun _ _ h _ => h, fun σ' w' hA hE hD hP => ?_⟩
        obtain ⟨d4_2g, d4_2o, t14, d4_2gE⟩ : ∃ d4_2g : Nat, ∃ d4_2o : Nat, σ' 14 = (.pointer (some ⟨d4_2g, d4_2o, none⟩)) ∧ EL encS (Value.slice p0a p0n p0c) (p0).length s1.2 d4_2g d4_2o := hD 2 rfl
        have B0_10 : RS w' encS (Value.slice p0a p0n p0c) p0 := B2.frm hE (fun k _ hk => not_oth0)
        obtain ⟨d4_2c, d4_2T, d4_2f, d4_2vs, d4_2hg, d4_2P, d4_2hq⟩ := RS.el B0_10 d4_2gE hm5
        obtain rfl := dec_encS d4_2hq
        refine dg_op rfl (d_load (v := .string (bs m5)) t14 agg9 d4_2hg (sub_get (vs := #[.string (bs m5)]) d4_2P (i := 0) rfl) ?_)
        exact ⟨rfl, own_none (Ext.refl w')⟩
      · skip
        refine ⟨fun _ _ _ _ _ _ h _ => h, fun _ _ h _ => h, fun σ' w' hA hE hD hP => ?_⟩
        have t1 : σ' 1 = .int .i64 s1.1 := (hA 1 rfl).trans i1_S1
        refine dg_op rfl (d_mv (v := .int .i64 s1.1) t1 ?_)
        exact ⟨rfl, own_none (Ext.refl w')⟩
      · skip
        refine ⟨fun _ _ _ _ _ _ h _ => h, fun _ _ h _ => h, fun σ' w' hA hE hD hP => ?_⟩
        have t16 : σ' 16 = (.int .i64 s1.1) := hD 4 rfl
        refine dg_op rfl (d_cl (vs := [.int .i64 s1.1]) en64 (ac t16 rfl) rfl ?_)
        refine (c64 s1.1 m6 w' hm6 ).mono ?_
        rintro _ w11 ⟨rfl, E11⟩
        refine ⟨_, rfl, ?_⟩
        have X12 : Ext w' w11 := (Ext.refl w').trans E11
        exact ⟨rfl, own_none X12⟩
      · skip
        refine ⟨fun _ _ _ _ _ _ h _ => h, fun _ _ h _ => h, fun σ' w' hA hE hD hP => ?_⟩
        have t15 : σ' 15 = (.string (bs m5)) := hD 3 rfl
        have t17 : σ' 17 = (.string (bs m6)) := hD 5 rfl
        refine dg_op rfl (d_sne t15 t17 ?_)
        exact ⟨rfl, own_none (Ext.refl w')⟩
      · skip
        intro σ4 w4 A4 E4 V4
        have E4x : Ext wl1 w4 := ext_of_oth0 E4
        have s18_4 : σ4 18 = (.bool (!(m5 == m6))) := V4 6 (Nat.le_of_ble_eq_true rfl)
        have s1_4 : σ4 1 = .int .i64 s1.1 := (A4 1 rfl).trans i1_S1
        have s5_4 : σ4 5 = .int .i64 s1.2 := (A4 5 rfl).trans i1_S5
        have s0_4 : σ4 0 = (Value.slice p0a p0n p0c) := (A4 0 rfl).trans i1_S0
        have X13 : Ext w w4 := i1_X.trans E4x
        refine W_cond (b := (!(m5 == m6))) s18_4 (fun hc14 => ?_) (fun hc14 => ?_)
        · skip
          replace hr := bif_t hr hc14
          refine W_seq ?_
          refine W_region rfl ?_
          refine da_op rfl (d_as (v := .int .i64 (-1)) rfl ?_)
          refine da_nil ?_
          refine W_ret ?_
          obtain rfl := Option.some.inj hr
          exact ⟨_, rfl, rfl, rfl, X13⟩
        · skip
          replace hr := bif_f hr hc14
          refine W_skip ?_
          refine W_region rfl ?_
          refine da_op rfl (d_mv (v := .int .i64 s1.1) s1_4 ?_)
          refine da_op rfl (d_iarith rfl rfl (.inl ⟨rfl, rfl⟩) ?_)
          refine da_op rfl (d_as (v := .int .i64 (IntKind.i64.wrap (s1.1 + 1))) rfl ?_)
          refine da_nil ?_
          refine W_region rfl ?_
          refine da_op rfl (d_mv (v := .int .i64 s1.2) s5_4 ?_)
          refine da_op rfl (d_iarith rfl rfl (.inl ⟨rfl, rfl⟩) ?_)
          refine da_op rfl (d_as (v := .int .i64 (IntKind.i64.wrap (s1.2 + 1))) rfl ?_)
          refine da_nil ?_
          obtain rfl := Option.some.inj hr
          exact ⟨_, rfl, ⟨rfl, rfl, s0_4, X13⟩⟩
    · skip
      replace hr := bif_f hr hc3
      refine W_exit ?_
      obtain rfl := Option.some.inj hr
      exact ⟨_, rfl, rfl, i1_S1, i1_X⟩
  · skip
    intro ex σx1 wx1 hq
    rcases m1 with m1 | m1
    · skip
      obtain ⟨rfl, q1_0_S1, q1_0_X⟩ := hq
      refine W_seq ?_
      refine W_region rfl ?_
      refine da_op rfl (d_mv (v := .int .i64 m1) q1_0_S1 ?_)
      refine da_op rfl (d_as (v := .int .i64 m1) rfl ?_)
      refine da_nil ?_
      refine W_ret ?_
      obtain rfl := Option.some.inj hr
      refine ⟨_, res1 (rv_tmp rfl), ?_⟩
      exact ⟨rfl, q1_0_X⟩
    · skip
      obtain ⟨rfl, q1_1_S4, q1_1_X⟩ := hq
      obtain rfl := Option.some.inj hr
      refine ⟨_, res1 (rv_tmp q1_1_S4), ?_⟩
      exact ⟨rfl, q1_1_X⟩
set_option maxHeartbeats 4000000 in
theorem c6 (p0 : List UInt8) (r : Bool) (w : World) (hr : M.laws_FnExactRecoverJournal p0 = some r) (t_T10 : T10 Tryd.prog w) :
    Calls Tryd.prog 6 #[.string (bs p0)] w fun e w' => e = .returned (.bool r) ∧ Ext w w' := by
  refine calls_of_W Tryd.func6 rfl (Nat.le_of_ble_eq_true rfl) ?_
  refine W_seq ?_
  refine W_region rfl ?_
  refine da_op rfl (d_as (v := .bool false) rfl ?_)
  refine da_nil ?_
  refine W_seq ?_
  refine W_seq ?_
  refine W_region rfl ?_
  refine da_op rfl (d_mv (v := .string (bs p0)) rfl ?_)
  refine da_op rfl (d_slen un9 rfl ?_)
  refine da_op rfl (d_icmp cGtr rfl rfl ?_)
  refine da_nil ?_
  refine W_cond (b := (icmp .gtr ((p0).length : Int) 1048576)) rfl (fun hc1 => ?_) (fun hc1 => ?_)
  · skip
    replace hr := bif_t hr hc1
    refine W_seq ?_
    refine W_region rfl ?_
    refine da_op rfl (d_as (v := .bool true) rfl ?_)
    refine da_nil ?_
    refine W_ret ?_
    obtain rfl := Option.some.inj hr
    refine ⟨_, res1 (rv_tmp rfl), ?_⟩
    exact ⟨rfl, (Ext.refl w)⟩
  · skip
    replace hr := bif_f hr hc1
    refine W_skip ?_
    refine W_seq ?_
    refine W_region rfl ?_
    refine da_op rfl (d_mv (v := .string (bs p0)) rfl ?_)
    obtain ⟨m2, hm2, hr⟩ := bind_out hr
    refine da_op rfl (d_cl (vs := [.string (bs p0)]) en22 (ac rfl rfl) rfl ?_)
    refine (c22 p0 m2 w hm2 ).mono ?_
    rintro _ w3 ⟨q3_0a, q3_0n, q3_0c, rfl, q3_0R, q3_0F, E3⟩
    refine ⟨_, rfl, ?_⟩
    have own4 : ∀ k, (Value.slice q3_0a q3_0n q3_0c).ownBlock = some k → w.heap.size ≤ k := fun k hk => Nat.le_trans (Ext.refl w).size (q3_0F k hk)
    have X5 : Ext w w3 := (Ext.refl w).trans E3
    refine da_op rfl (d_mv (v := .tuple #[(Value.slice q3_0a q3_0n q3_0c), .int .i64 m2.2.1, .bool m2.2.2]) rfl ?_)
    refine da_op rfl (d_extract (v := (Value.slice q3_0a q3_0n q3_0c)) rfl rfl ?_)
    refine da_op rfl (d_extract (v := .int .i64 m2.2.1) rfl rfl ?_)
    refine da_op rfl (d_extract (v := .bool m2.2.2) rfl rfl ?_)
    refine da_op rfl (d_as (v := (Value.slice q3_0a q3_0n q3_0c)) rfl ?_)
    refine da_op rfl (d_as (v := .int .i64 m2.2.1) rfl ?_)
    refine da_op rfl (d_as (v := .bool m2.2.2) rfl ?_)
    refine da_nil ?_
    refine W_seq ?_
    refine W_region rfl ?_
    refine da_op rfl (d_mv (v := .string (bs p0)) rfl ?_)
    obtain ⟨m6, hm6, hr⟩ := bind_out hr
    refine da_op rfl (d_cl (vs := [.string (bs p0)]) en23 (ac rfl rfl) rfl ?_)
    refine (c23 p0 m6 w3 hm6 (t_T10.ext X5)).mono ?_
    rintro _ w7 ⟨q7_0a, q7_0n, q7_0c, rfl, q7_0R, q7_0F, E7⟩
    refine ⟨_, rfl, ?_⟩
    have own8 : ∀ k, (Value.slice q7_0a q7_0n q7_0c).ownBlock = some k → w.heap.size ≤ k := fun k hk => Nat.le_trans X5.size (q7_0F k hk)
    have sp9 : ∀ k, (Value.slice q3_0a q3_0n q3_0c).ownBlock = some k → ¬ (Value.slice q7_0a q7_0n q7_0c).ownBlock = some k := apart_fresh q3_0R q7_0F
    have X10 : Ext w w7 := X5.trans E7
    refine da_op rfl (d_mv (v := .tuple #[(Value.slice q7_0a q7_0n q7_0c), .int .i64 m6.2.1, .bool m6.2.2]) rfl ?_)
    refine da_op rfl (d_extract (v := (Value.slice q7_0a q7_0n q7_0c)) rfl rfl ?_)
    refine da_op rfl (d_extract (v := .int .i64 m6.2.1) rfl rfl ?_)
    refine da_op rfl (d_extract (v := .bool m6.2.2) rfl rfl ?_)
    refine da_op rfl (d_as (v := (Value.slice q7_0a q7_0n q7_0c)) rfl ?_)
    refine da_op rfl (d_as (v := .int .i64 m6.2.1) rfl ?_)
    refine da_op rfl (d_as (v := .bool m6.2.2) rfl ?_)
    refine da_nil ?_
    refine W_seq ?_
    refine W_seq ?_
    have B12 : OS w7 9 encS (Value.slice q3_0a q3_0n q3_0c) m2.1 := q3_0R.ext E7
    obtain ⟨m11, hm11, hr⟩ := bind_out hr
    refine W_cut (fun σ' w' => σ' 42 = .bool m11 ∧ Ext w7 w') rfl ?_ ?_
    · skip
      have hr := hm11
      refine da_op rfl (d_mv (v := (Value.slice q7_0a q7_0n q7_0c)) rfl ?_)
      refine da_op rfl (d_mv (v := (Value.slice q3_0a q3_0n q3_0c)) rfl ?_)
      obtain ⟨m13, hm13, hr⟩ := bind_out hr
      refine da_op rfl (d_cl (vs := [(Value.slice q7_0a q7_0n q7_0c), (Value.slice q3_0a q3_0n q3_0c)]) en21 (ac rfl (ac rfl rfl)) rfl ?_)
      refine (c21 m6.1 m2.1 q7_0a q7_0n q7_0c q3_0a q3_0n q3_0c m13 w7 hm13 q7_0R.rs B12.rs).mono ?_
      rintro _ w14 ⟨rfl, E14⟩
      refine ⟨_, rfl, ?_⟩
      have X15 : Ext w w14 := X10.trans E14
      refine da_op rfl (d_not rfl ?_)
      refine da_op rfl (d_mv (v := .bool (!m13)) rfl ?_)
      rcases Bool.eq_false_or_eq_true m13 with hc16 | hc16
      · skip
        replace hr := bif_t hr hc16
        refine da_on rfl (Eq.trans (show sl _ _ _ = .bool (!m13) from rfl) (congrArg Value.bool (congrArg not hc16))) (d_mv (v := .int .i64 m6.2.1) rfl ?_)
        refine da_on rfl (Eq.trans (show sl _ _ _ = .bool (!m13) from rfl) (congrArg Value.bool (congrArg not hc16))) (d_mv (v := .int .i64 m2.2.1) rfl ?_)
        refine da_on rfl (Eq.trans (show sl _ _ _ = .bool (!m13) from rfl) (congrArg Value.bool (congrArg not hc16))) (d_icmp cNeq rfl rfl ?_)
        refine da_op rfl (d_pick (b := false) (Eq.trans (show ev _ _ = .bool (!m13) from rfl) (congrArg Value.bool (congrArg not hc16))) ?_)
        refine da_op rfl (d_mv (v := .bool (icmp .neq m6.2.1 m2.2.1)) rfl ?_)
        rcases Bool.eq_false_or_eq_true (icmp .neq m6.2.1 m2.2.1) with hc17 | hc17
        · skip
          replace hr := bif_t hr hc17
          refine da_off rfl (Eq.trans (show sl _ _ _ = .bool (icmp .neq m6.2.1 m2.2.1) from rfl) (congrArg Value.bool hc17)) (by decide) ?_
          refine da_off rfl (Eq.trans (show sl _ _ _ = .bool (icmp .neq m6.2.1 m2.2.1) from rfl) (congrArg Value.bool hc17)) (by decide) ?_
          refine da_off rfl (Eq.trans (show sl _ _ _ = .bool (icmp .neq m6.2.1 m2.2.1) from rfl) (congrArg Value.bool hc17)) (by decide) ?_
          refine da_op rfl (d_pick (b := true) (Eq.trans (show ev _ _ = .bool (icmp .neq m6.2.1 m2.2.1) from rfl) (congrArg Value.bool hc17)) ?_)
          refine da_nil ?_
          obtain rfl := Option.some.inj hr
          exact ⟨rfl, (Ext.trans (Ext.refl w7) E14)⟩
        · skip
          replace hr := bif_f hr hc17
          refine da_on rfl (Eq.trans (show sl _ _ _ = .bool (icmp .neq m6.2.1 m2.2.1) from rfl) (congrArg Value.bool hc17)) (d_mv (v := .bool m6.2.2) rfl ?_)
          refine da_on rfl (Eq.trans (show sl _ _ _ = .bool (icmp .neq m6.2.1 m2.2.1) from rfl) (congrArg Value.bool hc17)) (d_mv (v := .bool m2.2.2) rfl ?_)
          refine da_on rfl (Eq.trans (show sl _ _ _ = .bool (icmp .neq m6.2.1 m2.2.1) from rfl) (congrArg Value.bool hc17)) (d_bne un4 rfl rfl ?_)
          refine da_op rfl (d_pick (b := false) (Eq.trans (show ev _ _ = .bool (icmp .neq m6.2.1 m2.2.1) from rfl) (congrArg Value.bool hc17)) ?_)
          refine da_nil ?_
          obtain rfl := Option.some.inj hr
          exact ⟨rfl, (Ext.trans (Ext.refl w7) E14)⟩
      · skip
        replace hr := bif_f hr hc16
        refine da_off rfl (Eq.trans (show sl _ _ _ = .bool (!m13) from rfl) (congrArg Value.bool (congrArg not hc16))) (by decide) ?_
        refine da_off rfl (Eq.trans (show sl _ _ _ = .bool (!m13) from rfl) (congrArg Value.bool (congrArg not hc16))) (by decide) ?_
        refine da_off rfl (Eq.trans (show sl _ _ _ = .bool (!m13) from rfl) (congrArg Value.bool (congrArg not hc16))) (by decide) ?_
        refine da_op rfl (d_pick (b := true) (Eq.trans (show ev _ _ = .bool (!m13) from rfl) (congrArg Value.bool (congrArg not hc16))) ?_)
        refine da_op rfl (d_mv (v := .bool true) rfl ?_)
        refine da_off rfl rfl (by decide) ?_
        refine da_off rfl rfl (by decide) ?_
        refine da_off rfl rfl (by decide) ?_
        refine da_op rfl (d_pick (b := true) rfl ?_)
        refine da_nil ?_
        obtain rfl := Option.some.inj hr
        exact ⟨rfl, (Ext.trans (Ext.refl w7) E14)⟩
    · skip
      rintro σ11 w11 o11 ⟨s42_11, E11⟩
      have s0_11 : σ11 0 = .string (bs p0) := (o11 0 rfl).trans rfl
      have s3_11 : σ11 3 = (Value.slice q3_0a q3_0n q3_0c) := (o11 3 rfl).trans rfl
      have s4_11 : σ11 4 = .int .i64 m2.2.1 := (o11 4 rfl).trans rfl
      have s5_11 : σ11 5 = .bool m2.2.2 := (o11 5 rfl).trans rfl
      have s6_11 : σ11 6 = (Value.slice q7_0a q7_0n q7_0c) := (o11 6 rfl).trans rfl
      have X18 : Ext w w11 := X10.trans E11
      refine W_cond (b := m11) s42_11 (fun hc19 => ?_) (fun hc19 => ?_)
      · skip
        replace hr := bif_t hr hc19
        refine W_seq ?_
        refine W_region rfl ?_
        refine da_op rfl (d_as (v := .bool false) rfl ?_)
        refine da_nil ?_
        refine W_ret ?_
        obtain rfl := Option.some.inj hr
        refine ⟨_, res1 (rv_tmp rfl), ?_⟩
        exact ⟨rfl, X18⟩
      · skip
        replace hr := bif_f hr hc19
        refine W_skip ?_
        refine W_seq ?_
        refine W_region rfl ?_
        refine da_op rfl (d_as (v := .int .i64 1) rfl ?_)
        refine da_nil ?_
        refine W_seq ?_
        refine W_region rfl ?_
        refine da_op rfl (d_mv (v := (Value.slice q7_0a q7_0n q7_0c)) s6_11 ?_)
        refine da_op rfl (d_mv (v := .int .i64 1) rfl ?_)
        obtain ⟨m20, hm20, hr⟩ := bind_out hr
        have B21 : OS w11 9 encS (Value.slice q7_0a q7_0n q7_0c) m6.1 := q7_0R.ext E11
        have B22 : OS w11 9 encS (Value.slice q3_0a q3_0n q3_0c) m2.1 := B12.ext E11
        refine da_op rfl (d_cl (vs := [(Value.slice q7_0a q7_0n q7_0c), .int .i64 1]) en24 (ac rfl (ac rfl rfl)) rfl ?_)
        refine (c24 m6.1 1 q7_0a q7_0n q7_0c m20 w11 hm20 B21).mono ?_
        rintro _ w23 ⟨rfl, q23_m0R, E23⟩
        refine ⟨_, rfl, ?_⟩
        have X24 : Ext w w23 := Ext.step X18 E23 (fun k _ hk => own8 k hk)
        refine da_op rfl (d_as (v := .int .i64 m20.1) rfl ?_)
        refine da_nil ?_
        refine W_seq ?_
        refine W_region rfl ?_
        refine da_op rfl (d_as (v := .int .i64 1) rfl ?_)
        refine da_nil ?_
        refine W_seq ?_
        refine W_region rfl ?_
        refine da_op rfl (d_mv (v := (Value.slice q7_0a q7_0n q7_0c)) s6_11 ?_)
        refine da_op rfl (d_mv (v := .int .i64 1) rfl ?_)
        obtain ⟨m25, hm25, hr⟩ := bind_out hr
        have B26 : OS w23 9 encS (Value.slice q3_0a q3_0n q3_0c) m2.1 := B22.frm E23 (fun k hk => (sp9 k hk))
        refine da_op rfl (d_cl (vs := [(Value.slice q7_0a q7_0n q7_0c), .int .i64 1]) en25 (ac rfl (ac rfl rfl)) rfl ?_)
        refine (c25 m20.2 1 q7_0a q7_0n q7_0c m25 w23 hm25 q23_m0R.rs).mono ?_
        rintro _ w27 ⟨rfl, E27⟩
        refine ⟨_, rfl, ?_⟩
        have X28 : Ext w w27 := X24.trans E27
        refine da_op rfl (d_as (v := .int .i64 m25) rfl ?_)
        refine da_nil ?_
        refine W_seq ?_
        refine W_seq ?_
        refine W_region rfl ?_
        refine da_op rfl (d_mv (v := .int .i64 m25) rfl ?_)
        refine da_op rfl (d_icmp cLss rfl rfl ?_)
        refine da_nil ?_
        refine W_cond (b := (icmp .lss m25 0)) rfl (fun hc29 => ?_) (fun hc29 => ?_)
        · skip
          replace hr := bif_t hr hc29
          refine W_seq ?_
          refine W_region rfl ?_
          refine da_op rfl (d_as (v := .bool false) rfl ?_)
          refine da_nil ?_
          refine W_ret ?_
          obtain rfl := Option.some.inj hr
          refine ⟨_, res1 (rv_tmp rfl), ?_⟩
          exact ⟨rfl, X28⟩
        · skip
          replace hr := bif_f hr hc29
          refine W_skip ?_
          refine W_seq ?_
          refine W_seq ?_
          refine W_region rfl ?_
          refine da_op rfl (d_mv (v := .int .i64 m25) rfl ?_)
          refine da_op rfl (d_mv (v := .int .i64 m20.1) rfl ?_)
          refine da_op rfl (d_icmp cNeq rfl rfl ?_)
          refine da_nil ?_
          refine W_cond (b := (icmp .neq m25 m20.1)) rfl (fun hc30 => ?_) (fun hc30 => ?_)
          · skip
            replace hr := bif_t hr hc30
            refine W_seq ?_
            refine W_region rfl ?_
            refine da_op rfl (d_as (v := .bool false) rfl ?_)
            refine da_nil ?_
            refine W_ret ?_
            obtain rfl := Option.some.inj hr
            refine ⟨_, res1 (rv_tmp rfl), ?_⟩
            exact ⟨rfl, X28⟩
          · skip
            replace hr := bif_f hr hc30
            refine W_skip ?_
            refine W_seq ?_
            refine W_region rfl ?_
            refine da_op rfl (d_mv (v := .string (bs p0)) s0_11 ?_)
            obtain ⟨m31, hm31, hr⟩ := bind_out hr
            have B32 : OS w27 9 encS (Value.slice q3_0a q3_0n q3_0c) m2.1 := B26.ext E27
            have B33 : OS w27 9 encS (Value.slice q7_0a q7_0n q7_0c) m20.2 := q23_m0R.ext E27
            refine da_op rfl (d_cl (vs := [.string (bs p0)]) en23 (ac rfl rfl) rfl ?_)
            refine (c23 p0 m31 w27 hm31 (t_T10.ext X28)).mono ?_
            rintro _ w34 ⟨q34_0a, q34_0n, q34_0c, rfl, q34_0R, q34_0F, E34⟩
            refine ⟨_, rfl, ?_⟩
            have own35 : ∀ k, (Value.slice q34_0a q34_0n q34_0c).ownBlock = some k → w.heap.size ≤ k := fun k hk => Nat.le_trans X28.size (q34_0F k hk)
            have sp36 : ∀ k, (Value.slice q3_0a q3_0n q3_0c).ownBlock = some k → ¬ (Value.slice q34_0a q34_0n q34_0c).ownBlock = some k := apart_fresh B32 q34_0F
            have sp37 : ∀ k, (Value.slice q7_0a q7_0n q7_0c).ownBlock = some k → ¬ (Value.slice q34_0a q34_0n q34_0c).ownBlock = some k := apart_fresh B33 q34_0F
            have X38 : Ext w w34 := X28.trans E34
            refine da_op rfl (d_mv (v := .tuple #[(Value.slice q34_0a q34_0n q34_0c), .int .i64 m31.2.1, .bool m31.2.2]) rfl ?_)
            refine da_op rfl (d_extract (v := (Value.slice q34_0a q34_0n q34_0c)) rfl rfl ?_)
            refine da_op rfl (d_extract (v := .int .i64 m31.2.1) rfl rfl ?_)
            refine da_op rfl (d_extract (v := .bool m31.2.2) rfl rfl ?_)
            refine da_op rfl (d_as (v := (Value.slice q34_0a q34_0n q34_0c)) rfl ?_)
            refine da_op rfl (d_as (v := .int .i64 m31.2.1) rfl ?_)
            refine da_op rfl (d_as (v := .bool m31.2.2) rfl ?_)
            refine da_nil ?_
            refine W_seq ?_
            refine W_seq ?_
            have B40 : OS w34 9 encS (Value.slice q3_0a q3_0n q3_0c) m2.1 := B32.ext E34
            have B41 : OS w34 9 encS (Value.slice q7_0a q7_0n q7_0c) m20.2 := B33.ext E34
            obtain ⟨m39, hm39, hr⟩ := bind_out hr
            refine W_cut (fun σ' w' => σ' 73 = .bool m39 ∧ Ext w34 w') rfl ?_ ?_
            · skip
              have hr := hm39
              refine da_op rfl (d_mv (v := (Value.slice q34_0a q34_0n q34_0c)) rfl ?_)
              refine da_op rfl (d_mv (v := (Value.slice q3_0a q3_0n q3_0c)) s3_11 ?_)
              obtain ⟨m42, hm42, hr⟩ := bind_out hr
              refine da_op rfl (d_cl (vs := [(Value.slice q34_0a q34_0n q34_0c), (Value.slice q3_0a q3_0n q3_0c)]) en21 (ac rfl (ac rfl rfl)) rfl ?_)
              refine (c21 m31.1 m2.1 q34_0a q34_0n q34_0c q3_0a q3_0n q3_0c m42 w34 hm42 q34_0R.rs B40.rs).mono ?_
              rintro _ w43 ⟨rfl, E43⟩
              refine ⟨_, rfl, ?_⟩
              have X44 : Ext w w43 := X38.trans E43
              refine da_op rfl (d_not rfl ?_)
              refine da_op rfl (d_mv (v := .bool (!m42)) rfl ?_)
              rcases Bool.eq_false_or_eq_true m42 with hc45 | hc45
              · skip
                replace hr := bif_t hr hc45
                refine da_on rfl (Eq.trans (show sl _ _ _ = .bool (!m42) from rfl) (congrArg Value.bool (congrArg not hc45))) (d_mv (v := .int .i64 m31.2.1) rfl ?_)
                refine da_on rfl (Eq.trans (show sl _ _ _ = .bool (!m42) from rfl) (congrArg Value.bool (congrArg not hc45))) (d_mv (v := .int .i64 m2.2.1) s4_11 ?_)
                refine da_on rfl (Eq.trans (show sl _ _ _ = .bool (!m42) from rfl) (congrArg Value.bool (congrArg not hc45))) (d_icmp cNeq rfl rfl ?_)
                refine da_op rfl (d_pick (b := false) (Eq.trans (show ev _ _ = .bool (!m42) from rfl) (congrArg Value.bool (congrArg not hc45))) ?_)
                refine da_op rfl (d_mv (v := .bool (icmp .neq m31.2.1 m2.2.1)) rfl ?_)
                rcases Bool.eq_false_or_eq_true (icmp .neq m31.2.1 m2.2.1) with hc46 | hc46
                · skip
                  replace hr := bif_t hr hc46
                  refine da_off rfl (Eq.trans (show sl _ _ _ = .bool (icmp .neq m31.2.1 m2.2.1) from rfl) (congrArg Value.bool hc46)) (by decide) ?_
                  refine da_off rfl (Eq.trans (show sl _ _ _ = .bool (icmp .neq m31.2.1 m2.2.1) from rfl) (congrArg Value.bool hc46)) (by decide) ?_
                  refine da_off rfl (Eq.trans (show sl _ _ _ = .bool (icmp .neq m31.2.1 m2.2.1) from rfl) (congrArg Value.bool hc46)) (by decide) ?_
                  refine da_op rfl (d_pick (b := true) (Eq.trans (show ev _ _ = .bool (icmp .neq m31.2.1 m2.2.1) from rfl) (congrArg Value.bool hc46)) ?_)
                  refine da_nil ?_
                  obtain rfl := Option.some.inj hr
                  exact ⟨rfl, (Ext.trans (Ext.refl w34) E43)⟩
                · skip
                  replace hr := bif_f hr hc46
                  refine da_on rfl (Eq.trans (show sl _ _ _ = .bool (icmp .neq m31.2.1 m2.2.1) from rfl) (congrArg Value.bool hc46)) (d_mv (v := .bool m31.2.2) rfl ?_)
                  refine da_on rfl (Eq.trans (show sl _ _ _ = .bool (icmp .neq m31.2.1 m2.2.1) from rfl) (congrArg Value.bool hc46)) (d_mv (v := .bool m2.2.2) s5_11 ?_)
                  refine da_on rfl (Eq.trans (show sl _ _ _ = .bool (icmp .neq m31.2.1 m2.2.1) from rfl) (congrArg Value.bool hc46)) (d_bne un4 rfl rfl ?_)
                  refine da_op rfl (d_pick (b := false) (Eq.trans (show ev _ _ = .bool (icmp .neq m31.2.1 m2.2.1) from rfl) (congrArg Value.bool hc46)) ?_)
                  refine da_nil ?_
                  obtain rfl := Option.some.inj hr
                  exact ⟨rfl, (Ext.trans (Ext.refl w34) E43)⟩
              · skip
                replace hr := bif_f hr hc45
                refine da_off rfl (Eq.trans (show sl _ _ _ = .bool (!m42) from rfl) (congrArg Value.bool (congrArg not hc45))) (by decide) ?_
                refine da_off rfl (Eq.trans (show sl _ _ _ = .bool (!m42) from rfl) (congrArg Value.bool (congrArg not hc45))) (by decide) ?_
                refine da_off rfl (Eq.trans (show sl _ _ _ = .bool (!m42) from rfl) (congrArg Value.bool (congrArg not hc45))) (by decide) ?_
                refine da_op rfl (d_pick (b := true) (Eq.trans (show ev _ _ = .bool (!m42) from rfl) (congrArg Value.bool (congrArg not hc45))) ?_)
                refine da_op rfl (d_mv (v := .bool true) rfl ?_)
                refine da_off rfl rfl (by decide) ?_
                refine da_off rfl rfl (by decide) ?_
                refine da_off rfl rfl (by decide) ?_
                refine da_op rfl (d_pick (b := true) rfl ?_)
                refine da_nil ?_
                obtain rfl := Option.some.inj hr
                exact ⟨rfl, (Ext.trans (Ext.refl w34) E43)⟩
            · skip
              rintro σ39 w39 o39 ⟨s73_39, E39⟩
              have s6_39 : σ39 6 = (Value.slice q7_0a q7_0n q7_0c) := (o39 6 rfl).trans s6_11
              have s9_39 : σ39 9 = .int .i64 m20.1 := (o39 9 rfl).trans rfl
              have X47 : Ext w w39 := X38.trans E39
              refine W_cond (b := m39) s73_39 (fun hc48 => ?_) (fun hc48 => ?_)
              · skip
                replace hr := bif_t hr hc48
                refine W_seq ?_
                refine W_region rfl ?_
                refine da_op rfl (d_as (v := .bool false) rfl ?_)
                refine da_nil ?_
                refine W_ret ?_
                obtain rfl := Option.some.inj hr
                refine ⟨_, res1 (rv_tmp rfl), ?_⟩
                exact ⟨rfl, X47⟩
              · skip
                replace hr := bif_f hr hc48
                refine W_skip ?_
                refine W_seq ?_
                refine W_region rfl ?_
                refine da_op rfl (d_as (v := .int .i64 1) rfl ?_)
                refine da_nil ?_
                refine W_seq ?_
                refine W_region rfl ?_
                refine da_op rfl (d_mv (v := (Value.slice q7_0a q7_0n q7_0c)) s6_39 ?_)
                refine da_op rfl (d_mv (v := .int .i64 1) rfl ?_)
                obtain ⟨m49, hm49, hr⟩ := bind_out hr
                have B50 : OS w39 9 encS (Value.slice q7_0a q7_0n q7_0c) m20.2 := B41.ext E39
                refine da_op rfl (d_cl (vs := [(Value.slice q7_0a q7_0n q7_0c), .int .i64 1]) en25 (ac rfl (ac rfl rfl)) rfl ?_)
                refine (c25 m20.2 1 q7_0a q7_0n q7_0c m49 w39 hm49 B50.rs).mono ?_
                rintro _ w51 ⟨rfl, E51⟩
                refine ⟨_, rfl, ?_⟩
                have X52 : Ext w w51 := X47.trans E51
                refine da_op rfl (d_as (v := .int .i64 m49) rfl ?_)
                refine da_nil ?_
                refine W_seq ?_
                refine W_seq ?_
                refine W_region rfl ?_
                refine da_op rfl (d_mv (v := .int .i64 m49) rfl ?_)
                refine da_op rfl (d_icmp cLss rfl rfl ?_)
                refine da_nil ?_
                refine W_cond (b := (icmp .lss m49 0)) rfl (fun hc53 => ?_) (fun hc53 => ?_)
                · skip
                  replace hr := bif_t hr hc53
                  refine W_seq ?_
                  refine W_region rfl ?_
                  refine da_op rfl (d_as (v := .bool false) rfl ?_)
                  refine da_nil ?_
                  refine W_ret ?_
                  obtain rfl := Option.some.inj hr
                  refine ⟨_, res1 (rv_tmp rfl), ?_⟩
                  exact ⟨rfl, X52⟩
                · skip
                  replace hr := bif_f hr hc53
                  refine W_skip ?_
                  refine W_seq ?_
                  refine W_seq ?_
                  refine W_region rfl ?_
                  refine da_op rfl (d_mv (v := .int .i64 m49) rfl ?_)
                  refine da_op rfl (d_mv (v := .int .i64 m20.1) s9_39 ?_)
                  refine da_op rfl (d_icmp cNeq rfl rfl ?_)
                  refine da_nil ?_
                  refine W_cond (b := (icmp .neq m49 m20.1)) rfl (fun hc54 => ?_) (fun hc54 => ?_)
                  · skip
                    replace hr := bif_t hr hc54
                    refine W_seq ?_
                    refine W_region rfl ?_
                    refine da_op rfl (d_as (v := .bool false) rfl ?_)
                    refine da_nil ?_
                    refine W_ret ?_
                    obtain rfl := Option.some.inj hr
                    refine ⟨_, res1 (rv_tmp rfl), ?_⟩
                    exact ⟨rfl, X52⟩
                  · skip
                    replace hr := bif_f hr hc54
                    refine W_skip ?_
                    refine W_seq ?_
                    refine W_region rfl ?_
                    refine da_op rfl (d_as (v := .bool true) rfl ?_)
                    refine da_nil ?_
                    refine W_ret ?_
                    obtain rfl := Option.some.inj hr
                    refine ⟨_, res1 (rv_tmp rfl), ?_⟩
                    exact ⟨rfl, X52⟩
end Go.Proofs
