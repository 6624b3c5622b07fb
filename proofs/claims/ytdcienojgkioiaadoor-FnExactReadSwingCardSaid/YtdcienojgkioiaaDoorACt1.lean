import Derived.Test.YtdcienojgkioiaaDoorACf
namespace Go.Proofs
open Go Go.Fl Go.RowKit Go.Rg
set_option maxRecDepth 100000
set_option linter.unusedVariables false
attribute [local irreducible] Go.Calls doAll Does DoesG W Wr
set_option maxHeartbeats 4000000 in
theorem c119 (p0 : List UInt8) (p1 : Int) (r : List (List UInt8)) (w : World) (hr : M.spec_l01Cut p0 p1 = some r)  :
    Calls Tryd.prog 119 #[.string (bs p0), .int .u8 p1] w fun e w' => ∃ q0v : Value, e = .returned (q0v) ∧ OS w' 9 encS q0v r ∧ (∀ k, q0v.ownBlock = some k → w.heap.size ≤ k) ∧ Ext w w' := by
  refine calls_of_W Tryd.func119 rfl (Nat.le_of_ble_eq_true rfl) ?_
  refine W_seq ?_
  refine W_region rfl ?_
  refine da_op rfl (d_as (v := .slice none 0 0) rfl ?_)
  refine da_nil ?_
  refine W_seq ?_
  refine W_region rfl ?_
  refine da_op rfl (d_bslice0 un34 size9 fun w1 B1 E1 => ?_)
  have fr1 : ∀ k, (Value.slice (some ⟨w.heap.size, 0, none⟩) 0 0).ownBlock = some k → w.heap.size ≤ k := fun k hk => by cases hk; exact Nat.le_refl _
  have own1 : ∀ k, (Value.slice (some ⟨w.heap.size, 0, none⟩) 0 0).ownBlock = some k → w.heap.size ≤ k := fun k hk => Nat.le_trans (Ext.refl w).size (fr1 k hk)
  have X2 : Ext w w1 := (Ext.refl w).trans E1
  have O1 : OS w1 9 encS (Value.slice (some ⟨w.heap.size, 0, none⟩) 0 0) ([] : List (List UInt8)) := OS.box (xs := ([] : List (List UInt8))) B1 rfl (Nat.le_of_ble_eq_true rfl)
  refine da_op rfl (d_as (v := (Value.slice (some ⟨w.heap.size, 0, none⟩) 0 0)) rfl ?_)
  refine da_nil ?_
  refine W_seq ?_
  refine W_region rfl ?_
  refine da_op rfl (d_as (v := .int .i64 0) rfl ?_)
  refine da_nil ?_
  refine W_seq ?_
  refine W_seq ?_
  refine W_region rfl ?_
  refine da_op rfl (d_as (v := .int .i64 0) rfl ?_)
  refine da_nil ?_
  refine W_block ?_
  obtain ⟨m3, hm3, hr⟩ := bind_out hr
  refine W_loopM hm3 (fun (s3 : List (List UInt8) × Int × Int) σ w' => ∃ i3_0v : Value, σ 5 = i3_0v ∧ σ 6 = .int .i64 s3.2.1 ∧ σ 7 = .int .i64 s3.2.2 ∧ σ 0 = .string (bs p0) ∧ σ 1 = .int .u8 p1 ∧ OS w' 9 encS i3_0v s3.1 ∧ (∀ k, i3_0v.ownBlock = some k → w.heap.size ≤ k) ∧ Ext w w') (fun (e3 : (List (List UInt8))) ex σ w' => ex = .exit 0 ∧ ∃ q3_0_0v : Value, σ 5 = q3_0_0v ∧ OS w' 9 encS q3_0_0v e3 ∧ (∀ k, q3_0_0v.ownBlock = some k → w.heap.size ≤ k) ∧ Ext w w') ⟨(Value.slice (some ⟨w.heap.size, 0, none⟩) 0 0), rfl, rfl, rfl, rfl, rfl, O1, own1, X2⟩ ?_ ?_
  · skip
    rintro s3 σl3 wl3 r3l ⟨i3_0v, i3_S5, i3_S6, i3_S7, i3_S0, i3_S1, i3_0R, i3_0O, i3_X⟩ hr
    refine W_seq ?_
    refine W_seq ?_
    refine W_region rfl ?_
    refine da_op rfl (d_mv (v := .int .i64 s3.2.2) i3_S7 ?_)
    refine da_op rfl (d_mv (v := .string (bs p0)) i3_S0 ?_)
    refine da_op rfl (d_slen un9 rfl ?_)
    refine da_op rfl (d_icmp cLeq rfl rfl ?_)
    refine da_nil ?_
    refine W_cond (b := (icmp .leq s3.2.2 ((p0).length : Int))) rfl (fun hc4 => ?_) (fun hc4 => ?_)
    · skip
      replace hr := bif_t hr hc4
      refine W_skip ?_
      refine W_seq ?_
      refine W_block ?_
      refine W_seq ?_
      obtain ⟨m5, hm5, hr⟩ := bind_out hr
      refine W_cut (fun σ' w' => σ' 25 = .bool m5 ∧ Ext wl3 w') rfl ?_ ?_
      · skip
        have hr := hm5
        refine da_op rfl (d_mv (v := .int .i64 s3.2.2) i3_S7 ?_)
        refine da_op rfl (d_mv (v := .string (bs p0)) i3_S0 ?_)
        refine da_op rfl (d_slen un9 rfl ?_)
        refine da_op rfl (d_icmp cEql rfl rfl ?_)
        refine da_op rfl (d_mv (v := .bool (icmp .eql s3.2.2 ((p0).length : Int))) rfl ?_)
        rcases Bool.eq_false_or_eq_true (icmp .eql s3.2.2 ((p0).length : Int)) with hc6 | hc6
        · skip
          replace hr := bif_t hr hc6
          refine da_off rfl (Eq.trans (show sl _ _ _ = .bool (icmp .eql s3.2.2 ((p0).length : Int)) from rfl) (congrArg Value.bool hc6)) (by decide) ?_
          refine da_off rfl (Eq.trans (show sl _ _ _ = .bool (icmp .eql s3.2.2 ((p0).length : Int)) from rfl) (congrArg Value.bool hc6)) (by decide) ?_
          refine da_off rfl (Eq.trans (show sl _ _ _ = .bool (icmp .eql s3.2.2 ((p0).length : Int)) from rfl) (congrArg Value.bool hc6)) (by decide) ?_
          refine da_off rfl (Eq.trans (show sl _ _ _ = .bool (icmp .eql s3.2.2 ((p0).length : Int)) from rfl) (congrArg Value.bool hc6)) (by decide) ?_
          refine da_off rfl (Eq.trans (show sl _ _ _ = .bool (icmp .eql s3.2.2 ((p0).length : Int)) from rfl) (congrArg Value.bool hc6)) (by decide) ?_
          refine da_op rfl (d_pick (b := true) (Eq.trans (show ev _ _ = .bool (icmp .eql s3.2.2 ((p0).length : Int)) from rfl) (congrArg Value.bool hc6)) ?_)
          refine da_nil ?_
          obtain rfl := Option.some.inj hr
          exact ⟨rfl, (Ext.refl wl3)⟩
        · skip
          replace hr := bif_f hr hc6
          refine da_on rfl (Eq.trans (show sl _ _ _ = .bool (icmp .eql s3.2.2 ((p0).length : Int)) from rfl) (congrArg Value.bool hc6)) (d_mv (v := .string (bs p0)) i3_S0 ?_)
          refine da_on rfl (Eq.trans (show sl _ _ _ = .bool (icmp .eql s3.2.2 ((p0).length : Int)) from rfl) (congrArg Value.bool hc6)) (d_mv (v := .int .i64 s3.2.2) i3_S7 ?_)
          obtain ⟨m7, hm7, hr⟩ := bind_out hr
          refine da_on rfl (Eq.trans (show sl _ _ _ = .bool (icmp .eql s3.2.2 ((p0).length : Int)) from rfl) (congrArg Value.bool hc6)) (d_sidx un9 rfl rfl hm7 ?_)
          refine da_on rfl (Eq.trans (show sl _ _ _ = .bool (icmp .eql s3.2.2 ((p0).length : Int)) from rfl) (congrArg Value.bool hc6)) (d_mv (v := .int .u8 p1) i3_S1 ?_)
          refine da_on rfl (Eq.trans (show sl _ _ _ = .bool (icmp .eql s3.2.2 ((p0).length : Int)) from rfl) (congrArg Value.bool hc6)) (d_icmp cEql rfl rfl ?_)
          refine da_op rfl (d_pick (b := false) (Eq.trans (show ev _ _ = .bool (icmp .eql s3.2.2 ((p0).length : Int)) from rfl) (congrArg Value.bool hc6)) ?_)
          refine da_nil ?_
          obtain rfl := Option.some.inj hr
          exact ⟨rfl, (Ext.refl wl3)⟩
      · skip
        rintro σ5 w5 o5 ⟨s25_5, E5⟩
        have s5_5 : σ5 5 = i3_0v := (o5 5 rfl).trans i3_S5
        have s6_5 : σ5 6 = .int .i64 s3.2.1 := (o5 6 rfl).trans i3_S6
        have s7_5 : σ5 7 = .int .i64 s3.2.2 := (o5 7 rfl).trans i3_S7
        have s0_5 : σ5 0 = .string (bs p0) := (o5 0 rfl).trans i3_S0
        have s1_5 : σ5 1 = .int .u8 p1 := (o5 1 rfl).trans i3_S1
        have X8 : Ext w w5 := i3_X.trans E5
        refine W_cond (b := m5) s25_5 (fun hc9 => ?_) (fun hc9 => ?_)
        · skip
          replace hr := bif_t hr hc9
          refine W_seq ?_
          refine W_region rfl ?_
          refine da_op rfl (d_mv (v := i3_0v) s5_5 ?_)
          refine da_op rfl (d_mv (v := .string (bs p0)) s0_5 ?_)
          refine da_op rfl (d_mv (v := .int .i64 s3.2.1) s6_5 ?_)
          refine da_op rfl (d_mv (v := .int .i64 s3.2.2) s7_5 ?_)
          obtain ⟨m10, hm10, hr⟩ := bind_out hr
          refine da_op rfl (d_ssub (a := s3.2.1) (b := s3.2.2) un9 rfl (.inr ⟨_, _, rfl, rfl⟩) (.inr ⟨_, _, rfl, rfl⟩) hm10 ?_)
          have B12 : OS w5 9 encS i3_0v s3.1 := i3_0R.ext E5
          refine da_op rfl (d_bslice (vs := [(0, .string (bs m10))]) (cs := #[.string (bs m10)]) un34 (pc rfl rfl) (by kernel_rfl) fun w11 B11 E11 => ?_)
          have fr11 : ∀ k, (Value.slice (some ⟨w5.heap.size, 0, none⟩) 1 1).ownBlock = some k → w5.heap.size ≤ k := fun k hk => by cases hk; exact Nat.le_refl _
          have own11 : ∀ k, (Value.slice (some ⟨w5.heap.size, 0, none⟩) 1 1).ownBlock = some k → w.heap.size ≤ k := fun k hk => Nat.le_trans X8.size (fr11 k hk)
          have sp13 : ∀ k, i3_0v.ownBlock = some k → ¬ (Value.slice (some ⟨w5.heap.size, 0, none⟩) 1 1).ownBlock = some k := apart_fresh B12 fr11
          have X14 : Ext w w11 := X8.trans E11
          have O11 : OS w11 9 encS (Value.slice (some ⟨w5.heap.size, 0, none⟩) 1 1) [m10] := OS.box (xs := [m10]) B11 (lc_v rfl rfl) (Nat.le_of_ble_eq_true rfl)
          obtain ⟨m15, hm15, hr⟩ := bind_out hr
          have B16 : OS w11 9 encS i3_0v s3.1 := B12.ext E11
          refine da_op rfl (d_append (e := encS) (v := i3_0v) (y := (Value.slice (some ⟨w5.heap.size, 0, none⟩) 1 1)) un34 info9 rfl (by kernel_rfl) (by kernel_rfl) (by decide) (by decide) rfl rfl B16 O11.rs hm15 fun v17 w17 O17 Fm17 at_17 nl17 => ?_)
          have own17 : ∀ k, v17.ownBlock = some k → w.heap.size ≤ k := app_own (w := w11) at_17 i3_0O X14.size
          have sp18 : ∀ k, (Value.slice (some ⟨w5.heap.size, 0, none⟩) 1 1).ownBlock = some k → ¬ v17.ownBlock = some k := app_nr at_17 (apart_symm sp13) O11
          have X19 : Ext w w17 := Ext.step X14 Fm17 (fun k _ hk => i3_0O k hk)
          refine da_op rfl (d_as (v := v17) rfl ?_)
          refine da_nil ?_
          refine W_region rfl ?_
          refine da_op rfl (d_mv (v := .int .i64 s3.2.2) s7_5 ?_)
          refine da_op rfl (d_iarith rfl rfl (.inl ⟨rfl, rfl⟩) ?_)
          refine da_op rfl (d_as (v := .int .i64 (IntKind.i64.wrap (s3.2.2 + 1))) rfl ?_)
          refine da_nil ?_
          refine W_region rfl ?_
          refine da_op rfl (d_mv (v := .int .i64 s3.2.2) s7_5 ?_)
          refine da_op rfl (d_iarith rfl rfl (.inl ⟨rfl, rfl⟩) ?_)
          refine da_op rfl (d_as (v := .int .i64 (IntKind.i64.wrap (s3.2.2 + 1))) rfl ?_)
          refine da_nil ?_
          obtain rfl := Option.some.inj hr
          exact ⟨_, rfl, ⟨v17, rfl, rfl, rfl, s0_5, s1_5, O17, own17, X19⟩⟩
        · skip
          replace hr := bif_f hr hc9
          refine W_skip ?_
          refine W_region rfl ?_
          refine da_op rfl (d_mv (v := .int .i64 s3.2.2) s7_5 ?_)
          refine da_op rfl (d_iarith rfl rfl (.inl ⟨rfl, rfl⟩) ?_)
          refine da_op rfl (d_as (v := .int .i64 (IntKind.i64.wrap (s3.2.2 + 1))) rfl ?_)
          refine da_nil ?_
          have B20 : OS w5 9 encS i3_0v s3.1 := i3_0R.ext E5
          obtain rfl := Option.some.inj hr
          exact ⟨_, rfl, ⟨i3_0v, s5_5, s6_5, rfl, s0_5, s1_5, B20, i3_0O, X8⟩⟩
    · skip
      replace hr := bif_f hr hc4
      refine W_exit ?_
      obtain rfl := Option.some.inj hr
      exact ⟨_, rfl, rfl, i3_0v, i3_S5, i3_0R, i3_0O, i3_X⟩
  · skip
    intro ex σx3 wx3 hq
    obtain ⟨rfl, q3_0_0v, q3_0_S5, q3_0_0R, q3_0_0O, q3_0_X⟩ := hq
    refine W_seq ?_
    refine W_region rfl ?_
    refine da_op rfl (d_mv (v := q3_0_0v) q3_0_S5 ?_)
    refine da_op rfl (d_as (v := q3_0_0v) rfl ?_)
    refine da_nil ?_
    refine W_ret ?_
    obtain rfl := Option.some.inj hr
    refine ⟨_, res1 (rv_tmp rfl), ?_⟩
    exact ⟨q3_0_0v, rfl, q3_0_0R, q3_0_0O, q3_0_X⟩
set_option maxHeartbeats 4000000 in
theorem c158 (p0 : Int) (r : Nat) (w : World) (hr : M.spec_l01From p0 = r)  :
    Calls Tryd.prog 158 #[.int .i64 p0] w fun e w' => ∃ q0r : Nat, e = .returned (.float .f32 q0r) ∧ cn .f32 q0r = r ∧ Ext w w' := by
  refine calls_of_W Tryd.func158 rfl (Nat.le_of_ble_eq_true rfl) ?_
  refine W_seq ?_
  refine W_region rfl ?_
  refine da_op rfl (d_as (v := .float .f32 0) rfl ?_)
  refine da_nil ?_
  refine W_seq ?_
  refine W_region rfl ?_
  refine da_op rfl (d_mv (v := .int .i64 p0) rfl ?_)
  refine da_op rfl (d_iconv un2 un193 rfl ?_)
  refine da_op rfl (d_f32from ext186_0 ext186_1 ext186_2 (Option.isNone_iff_eq_none.1 ext186_3) ext186_4 rfl rfl ?_)
  refine da_op rfl (d_as (v := .float .f32 ((IntKind.u32.wrap p0)).toNat) rfl ?_)
  refine da_nil ?_
  refine W_ret ?_
  subst hr
  refine ⟨_, res1 (rv_tmp rfl), ?_⟩
  exact ⟨((IntKind.u32.wrap p0)).toNat, rfl, rfl, (Ext.refl w)⟩
set_option maxHeartbeats 4000000 in
theorem c159 (p0 : Nat) (p0r : Nat) (r : Int) (w : World) (hr : M.spec_l01Bits p0 = r) (p0h : cn .f32 p0r = p0) :
    Calls Tryd.prog 159 #[.float .f32 p0r] w fun e w' => e = .returned (.int .i64 r) ∧ Ext w w' := by
  refine calls_of_W Tryd.func159 rfl (Nat.le_of_ble_eq_true rfl) ?_
  refine W_seq ?_
  refine W_region rfl ?_
  refine da_op rfl (d_as (v := .int .i64 0) rfl ?_)
  refine da_nil ?_
  refine W_seq ?_
  refine W_seq ?_
  refine W_region rfl ?_
  refine da_op rfl (d_mv (v := .float .f32 p0r) rfl ?_)
  refine da_op rfl (d_mv (v := .float .f32 p0r) rfl ?_)
  refine da_op rfl (d_fcmp (k := .f32) cNeq rfl rfl p0h p0h ?_)
  refine da_nil ?_
  refine W_cond (b := (fcmp .neq .f32 p0 p0)) rfl (fun hc1 => ?_) (fun hc1 => ?_)
  · skip
    replace hr := bif_t hr hc1
    refine W_seq ?_
    refine W_region rfl ?_
    refine da_op rfl (d_as (v := .int .i64 2143289344) rfl ?_)
    refine da_nil ?_
    refine W_ret ?_
    subst hr
    refine ⟨_, res1 (rv_tmp rfl), ?_⟩
    exact ⟨rfl, (Ext.refl w)⟩
  · skip
    replace hr := bif_f hr hc1
    refine W_skip ?_
    refine W_seq ?_
    refine W_region rfl ?_
    refine da_op rfl (d_mv (v := .float .f32 p0r) rfl ?_)
    refine da_op rfl (d_f32bits ext154_0 ext154_1 ext154_2 (Option.isNone_iff_eq_none.1 ext154_3) ext154_4 rfl rfl p0h (nn_ne hc1) ?_)
    refine da_op rfl (d_iconv un193 un2 rfl ?_)
    refine da_op rfl (d_as (v := .int .i64 (IntKind.i64.wrap (p0 : Int))) rfl ?_)
    refine da_nil ?_
    refine W_ret ?_
    subst hr
    refine ⟨_, res1 (rv_tmp rfl), ?_⟩
    exact ⟨rfl, (Ext.refl w)⟩
set_option maxHeartbeats 4000000 in
theorem c105 (p0 : List UInt8) (r : List Nat × Bool) (w : World) (hr : M.spec_l01NRead p0 = some r)  :
    Calls Tryd.prog 105 #[.string (bs p0)] w fun e w' => ∃ q0v : Value, e = .returned (.tuple #[q0v, .bool r.2]) ∧ OS w' 22 encF_f32 q0v r.1 ∧ (∀ k, q0v.ownBlock = some k → w.heap.size ≤ k) ∧ Ext w w' := by
  refine calls_of_W Tryd.func105 rfl (Nat.le_of_ble_eq_true rfl) ?_
  refine W_seq ?_
  refine W_region rfl ?_
  refine da_op rfl (d_as (v := .slice none 0 0) rfl ?_)
  refine da_op rfl (d_as (v := .bool false) rfl ?_)
  refine da_nil ?_
  refine W_seq ?_
  refine W_region rfl ?_
  refine da_op rfl (d_bslice0 un53 size22 fun w1 B1 E1 => ?_)
  have fr1 : ∀ k, (Value.slice (some ⟨w.heap.size, 0, none⟩) 0 0).ownBlock = some k → w.heap.size ≤ k := fun k hk => by cases hk; exact Nat.le_refl _
  have own1 : ∀ k, (Value.slice (some ⟨w.heap.size, 0, none⟩) 0 0).ownBlock = some k → w.heap.size ≤ k := fun k hk => Nat.le_trans (Ext.refl w).size (fr1 k hk)
  have X2 : Ext w w1 := (Ext.refl w).trans E1
  have O1 : OS w1 22 encF_f32 (Value.slice (some ⟨w.heap.size, 0, none⟩) 0 0) ([] : List Nat) := OS.box (xs := ([] : List Nat)) B1 rfl (Nat.le_of_ble_eq_true rfl)
  refine da_op rfl (d_as (v := (Value.slice (some ⟨w.heap.size, 0, none⟩) 0 0)) rfl ?_)
  refine da_nil ?_
  refine W_seq ?_
  refine W_seq ?_
  refine W_region rfl ?_
  refine da_op rfl (d_mv (v := .string (bs p0)) rfl ?_)
  refine da_op rfl (d_seq rfl rfl ?_)
  refine da_nil ?_
  refine W_cond (b := (p0 == ([110, 111, 110, 101] : List UInt8))) rfl (fun hc3 => ?_) (fun hc3 => ?_)
  · skip
    replace hr := bif_t hr hc3
    refine W_seq ?_
    refine W_region rfl ?_
    refine da_op rfl (d_mv (v := (Value.slice (some ⟨w.heap.size, 0, none⟩) 0 0)) rfl ?_)
    refine da_op rfl (d_as (v := (Value.slice (some ⟨w.heap.size, 0, none⟩) 0 0)) rfl ?_)
    refine da_op rfl (d_as (v := .bool true) rfl ?_)
    refine da_nil ?_
    refine W_ret ?_
    obtain rfl := Option.some.inj hr
    refine ⟨_, res2 (rv_tmp rfl) (rv_tmp rfl), ?_⟩
    exact ⟨(Value.slice (some ⟨w.heap.size, 0, none⟩) 0 0), rfl, O1, own1, X2⟩
  · skip
    replace hr := bif_f hr hc3
    refine W_skip ?_
    refine W_seq ?_
    refine W_region rfl ?_
    refine da_op rfl (d_mv (v := .string (bs p0)) rfl ?_)
    obtain ⟨m4, hm4, hr⟩ := bind_out hr
    refine da_op rfl (d_cl (vs := [.string (bs p0), .int .u8 44]) en119 (ac rfl (ac rfl rfl)) rfl ?_)
    refine (c119 p0 44 m4 w1 hm4 ).mono ?_
    rintro _ w5 ⟨q5_0v, rfl, q5_0R, q5_0F, E5⟩
    refine ⟨_, rfl, ?_⟩
    have own6 : ∀ k, q5_0v.ownBlock = some k → w.heap.size ≤ k := fun k hk => Nat.le_trans X2.size (q5_0F k hk)
    have sp7 : ∀ k, (Value.slice (some ⟨w.heap.size, 0, none⟩) 0 0).ownBlock = some k → ¬ q5_0v.ownBlock = some k := apart_fresh O1 q5_0F
    have X8 : Ext w w5 := X2.trans E5
    refine da_op rfl (d_as (v := q5_0v) rfl ?_)
    refine da_nil ?_
    refine W_seq ?_
    refine W_seq ?_
    refine W_region rfl ?_
    refine da_op rfl (d_mv (v := q5_0v) rfl ?_)
    refine da_op rfl (d_len (e := encS) un34 rfl q5_0R.rs ?_)
    refine da_op rfl (d_icmp cGtr rfl rfl ?_)
    refine da_nil ?_
    refine W_cond (b := (icmp .gtr ((m4).length : Int) 256)) rfl (fun hc9 => ?_) (fun hc9 => ?_)
    · skip
      replace hr := bif_t hr hc9
      refine W_seq ?_
      refine W_region rfl ?_
      refine da_op rfl (d_as (v := .slice none 0 0) rfl ?_)
      refine da_op rfl (d_as (v := .bool false) rfl ?_)
      refine da_nil ?_
      refine W_ret ?_
      obtain rfl := Option.some.inj hr
      refine ⟨_, res2 (rv_tmp rfl) (rv_tmp rfl), ?_⟩
      exact ⟨(.slice none 0 0), rfl, (OS.nil _ 22 encF_f32), (fun k hk => by cases hk), X8⟩
    · skip
      replace hr := bif_f hr hc9
      refine W_skip ?_
      refine W_seq ?_
      refine W_seq ?_
      refine W_region rfl ?_
      refine da_op rfl (d_as (v := .int .i64 0) rfl ?_)
      refine da_nil ?_
      refine W_block ?_
      have B11 : OS w5 22 encF_f32 (Value.slice (some ⟨w.heap.size, 0, none⟩) 0 0) ([] : List Nat) := O1.ext E5
      obtain ⟨m10, hm10, hr⟩ := bind_out hr
      refine W_loopM hm10 (fun (s10 : List Nat × Int) σ w' => ∃ i10_0v : Value, σ 4 = i10_0v ∧ σ 6 = .int .i64 s10.2 ∧ σ 5 = q5_0v ∧ OS w' 22 encF_f32 i10_0v s10.1 ∧ (∀ k, i10_0v.ownBlock = some k → w.heap.size ≤ k) ∧ OS w' 9 encS q5_0v m4 ∧ (∀ k, q5_0v.ownBlock = some k → ¬ i10_0v.ownBlock = some k) ∧ Ext w w') (fun (e10 : ((List Nat) ⊕ (List Nat × Bool))) ex σ w' => sel e10 (fun e10 => ex = .exit 0 ∧ ∃ q10_0_0v : Value, σ 4 = q10_0_0v ∧ OS w' 22 encF_f32 q10_0_0v e10 ∧ (∀ k, q10_0_0v.ownBlock = some k → w.heap.size ≤ k) ∧ Ext w w') (fun e10 => ex = .ret ∧ ∃ q10_1_0v : Value, σ 2 = q10_1_0v ∧ σ 3 = .bool e10.2 ∧ OS w' 22 encF_f32 q10_1_0v e10.1 ∧ (∀ k, q10_1_0v.ownBlock = some k → w.heap.size ≤ k) ∧ Ext w w')) ⟨(Value.slice (some ⟨w.heap.size, 0, none⟩) 0 0), rfl, rfl, rfl, B11, own1, q5_0R, (apart_symm sp7), X8⟩ ?_ ?_
      · skip
        rintro s10 σl10 wl10 r10l ⟨i10_0v, i10_S4, i10_S6, i10_S5, i10_0R, i10_0O, i10_K0, i10_A0, i10_X⟩ hr
        refine W_seq ?_
        refine W_seq ?_
        refine W_region rfl ?_
        refine da_op rfl (d_mv (v := .int .i64 s10.2) i10_S6 ?_)
        refine da_op rfl (d_mv (v := q5_0v) i10_S5 ?_)
        refine da_op rfl (d_len (e := encS) un34 rfl i10_K0.rs ?_)
        refine da_op rfl (d_icmp cLss rfl rfl ?_)
        refine da_nil ?_
        refine W_cond (b := (icmp .lss s10.2 ((m4).length : Int))) rfl (fun hc12 => ?_) (fun hc12 => ?_)
        · skip
          replace hr := bif_t hr hc12
          refine W_skip ?_
          refine W_seq ?_
          refine W_block ?_
          refine W_seq ?_
          refine W_seq ?_
          refine W_region rfl ?_
          refine da_op rfl (d_mv (v := q5_0v) i10_S5 ?_)
          refine da_op rfl (d_mv (v := .int .i64 s10.2) i10_S6 ?_)
          obtain ⟨m13, hm13, hr⟩ := bind_out hr
          refine da_op rfl (d_indexO (e := encS) (v := q5_0v) un34 size9 rfl rfl i10_K0 hm13 fun g14 fr14 cu14 vs14 hv14 hg14 hp14 hq14 => ?_)
          obtain rfl := dec_encS hq14
          have sp15 : ¬ i10_0v.ownBlock = some g14 := fun e => (apart_symm i10_A0) _ e (by rw [hv14]; rfl)
          refine da_op rfl (d_load (v := .string (bs m13)) rfl agg9 hg14 (sub_get (vs := #[.string (bs m13)]) hp14 (i := 0) rfl) ?_)
          refine da_op rfl (d_slen un9 rfl ?_)
          refine da_op rfl (d_icmp cNeq rfl rfl ?_)
          refine da_nil ?_
          refine W_cond (b := (icmp .neq ((m13).length : Int) 8)) rfl (fun hc16 => ?_) (fun hc16 => ?_)
          · skip
            replace hr := bif_t hr hc16
            refine W_seq ?_
            refine W_region rfl ?_
            refine da_op rfl (d_as (v := .slice none 0 0) rfl ?_)
            refine da_op rfl (d_as (v := .bool false) rfl ?_)
            refine da_nil ?_
            refine W_ret ?_
            obtain rfl := Option.some.inj hr
            exact ⟨_, rfl, rfl, (.slice none 0 0), rfl, rfl, (OS.nil _ 22 encF_f32), (fun k hk => by cases hk), i10_X⟩
          · skip
            replace hr := bif_f hr hc16
            refine W_skip ?_
            refine W_seq ?_
            refine W_region rfl ?_
            refine da_op rfl (d_as (v := .int .i64 0) rfl ?_)
            refine da_nil ?_
            refine W_seq ?_
            refine W_seq ?_
            refine W_region rfl ?_
            refine da_op rfl (d_as (v := .int .i64 0) rfl ?_)
            refine da_nil ?_
            refine W_block ?_
            obtain ⟨m17, hm17, hr⟩ := bind_out hr
            refine W_loopM hm17 (fun (s17 : Int × Int) σ w' => σ 7 = .int .i64 s17.1 ∧ σ 8 = .int .i64 s17.2 ∧ σ 4 = i10_0v ∧ σ 5 = q5_0v ∧ σ 6 = .int .i64 s10.2 ∧ OS w' 9 encS q5_0v m4 ∧ OS w' 22 encF_f32 i10_0v s10.1 ∧ Ext w w') (fun (e17 : (Int ⊕ (List Nat × Bool))) ex σ w' => sel e17 (fun e17 => ex = .exit 2 ∧ σ 7 = .int .i64 e17 ∧ σ 4 = i10_0v ∧ σ 5 = q5_0v ∧ σ 6 = .int .i64 s10.2 ∧ OS w' 9 encS q5_0v m4 ∧ OS w' 22 encF_f32 i10_0v s10.1 ∧ Ext w w') (fun e17 => ex = .ret ∧ ∃ q17_1_0v : Value, σ 2 = q17_1_0v ∧ σ 3 = .bool e17.2 ∧ OS w' 22 encF_f32 q17_1_0v e17.1 ∧ (∀ k, q17_1_0v.ownBlock = some k → w.heap.size ≤ k) ∧ Ext w w')) ⟨rfl, rfl, i10_S4, i10_S5, i10_S6, i10_K0, i10_0R, i10_X⟩ ?_ ?_
            · skip
              rintro s17 σl17 wl17 r17l ⟨i17_S7, i17_S8, i17_S4, i17_S5, i17_S6, i17_K0, i17_K1, i17_X⟩ hr
              refine W_seq ?_
              refine W_seq ?_
              refine W_region rfl ?_
              refine da_op rfl (d_mv (v := .int .i64 s17.2) i17_S8 ?_)
              refine da_op rfl (d_icmp cLss rfl rfl ?_)
              refine da_nil ?_
              refine W_cond (b := (icmp .lss s17.2 8)) rfl (fun hc18 => ?_) (fun hc18 => ?_)
              · skip
                replace hr := bif_t hr hc18
                refine W_skip ?_
                refine W_seq ?_
                refine W_block ?_
                refine W_seq ?_
                refine W_region rfl ?_
                refine da_op rfl (d_mv (v := q5_0v) i17_S5 ?_)
                refine da_op rfl (d_mv (v := .int .i64 s10.2) i17_S6 ?_)
                obtain ⟨m19, hm19, hr⟩ := bind_out hr
                refine da_op rfl (d_indexO (e := encS) (v := q5_0v) un34 size9 rfl rfl i17_K0 hm19 fun g20 fr20 cu20 vs20 hv20 hg20 hp20 hq20 => ?_)
                obtain rfl := dec_encS hq20
                have sp21 : ¬ i10_0v.ownBlock = some g20 := fun e => (apart_symm i10_A0) _ e (by rw [hv20]; rfl)
                refine da_op rfl (d_load (v := .string (bs m19)) rfl agg9 hg20 (sub_get (vs := #[.string (bs m19)]) hp20 (i := 0) rfl) ?_)
                refine da_op rfl (d_mv (v := .int .i64 s17.2) i17_S8 ?_)
                obtain ⟨m22, hm22, hr⟩ := bind_out hr
                refine da_op rfl (d_sidx un9 rfl rfl hm22 ?_)
                refine da_op rfl (d_as (v := .int .u8 m22) rfl ?_)
                refine da_nil ?_
                refine W_seq ?_
                refine W_region rfl ?_
                refine da_op rfl (d_as (v := .int .i64 (-1)) rfl ?_)
                refine da_nil ?_
                refine W_seq ?_
                refine W_seq ?_
                obtain ⟨m23, hm23, hr⟩ := letv_out hr
                refine W_cut (fun σ' w' => σ' 48 = .bool m23 ∧ Ext wl17 w') rfl ?_ ?_
                · skip
                  have hr := hm23
                  refine da_op rfl (d_mv (v := .int .u8 m22) rfl ?_)
                  refine da_op rfl (d_icmp cGeq rfl rfl ?_)
                  refine da_op rfl (d_mv (v := .bool (icmp .geq m22 48)) rfl ?_)
                  rcases Bool.eq_false_or_eq_true (icmp .geq m22 48) with hc24 | hc24
                  · skip
                    replace hr := bif_t hr hc24
                    refine da_on rfl (Eq.trans (show sl _ _ _ = .bool (icmp .geq m22 48) from rfl) (congrArg Value.bool hc24)) (d_mv (v := .int .u8 m22) rfl ?_)
                    refine da_on rfl (Eq.trans (show sl _ _ _ = .bool (icmp .geq m22 48) from rfl) (congrArg Value.bool hc24)) (d_icmp cLeq rfl rfl ?_)
                    refine da_op rfl (d_pick (b := true) (Eq.trans (show ev _ _ = .bool (icmp .geq m22 48) from rfl) (congrArg Value.bool hc24)) ?_)
                    refine da_nil ?_
                    subst hr
                    exact ⟨rfl, (Ext.refl wl17)⟩
                  · skip
                    replace hr := bif_f hr hc24
                    refine da_off rfl (Eq.trans (show sl _ _ _ = .bool (icmp .geq m22 48) from rfl) (congrArg Value.bool hc24)) (by decide) ?_
                    refine da_off rfl (Eq.trans (show sl _ _ _ = .bool (icmp .geq m22 48) from rfl) (congrArg Value.bool hc24)) (by decide) ?_
                    refine da_op rfl (d_pick (b := false) (Eq.trans (show ev _ _ = .bool (icmp .geq m22 48) from rfl) (congrArg Value.bool hc24)) ?_)
                    refine da_nil ?_
                    subst hr
                    exact ⟨rfl, (Ext.refl wl17)⟩
                · skip
                  rintro σ23 w23 o23 ⟨s48_23, E23⟩
                  have s7_23 : σ23 7 = .int .i64 s17.1 := (o23 7 rfl).trans i17_S7
                  have s8_23 : σ23 8 = .int .i64 s17.2 := (o23 8 rfl).trans i17_S8
                  have s4_23 : σ23 4 = i10_0v := (o23 4 rfl).trans i17_S4
                  have s5_23 : σ23 5 = q5_0v := (o23 5 rfl).trans i17_S5
                  have s6_23 : σ23 6 = .int .i64 s10.2 := (o23 6 rfl).trans i17_S6
                  have s9_23 : σ23 9 = .int .u8 m22 := (o23 9 rfl).trans rfl
                  have s10_23 : σ23 10 = .int .i64 (-1) := (o23 10 rfl).trans rfl
                  have X25 : Ext w w23 := i17_X.trans E23
                  refine W_cond (b := m23) s48_23 (fun hc26 => ?_) (fun hc26 => ?_)
                  · skip
                    replace hr := bif_t hr hc26
                    refine W_region rfl ?_
                    refine da_op rfl (d_mv (v := .int .u8 m22) s9_23 ?_)
                    refine da_op rfl (d_iarith rfl rfl (.inr (.inl ⟨rfl, rfl⟩)) ?_)
                    refine da_op rfl (d_iconv un5 un2 rfl ?_)
                    refine da_op rfl (d_as (v := .int .i64 (IntKind.i64.wrap (IntKind.u8.wrap (m22 - 48)))) rfl ?_)
                    refine da_nil ?_
                    refine W_seq ?_
                    refine W_seq ?_
                    have B28 : OS w23 9 encS q5_0v m4 := i17_K0.ext E23
                    have B29 : OS w23 22 encF_f32 i10_0v s10.1 := i17_K1.ext E23
                    obtain ⟨m27, hm27, hr⟩ := letv_out hr
                    refine W_cut (fun σ' w' => σ' 57 = .bool m27 ∧ Ext w23 w') rfl ?_ ?_
                    · skip
                      have hr := hm27
                      refine da_op rfl (d_mv (v := .int .u8 m22) s9_23 ?_)
                      refine da_op rfl (d_icmp cGeq rfl rfl ?_)
                      refine da_op rfl (d_mv (v := .bool (icmp .geq m22 97)) rfl ?_)
                      rcases Bool.eq_false_or_eq_true (icmp .geq m22 97) with hc30 | hc30
                      · skip
                        replace hr := bif_t hr hc30
                        refine da_on rfl (Eq.trans (show sl _ _ _ = .bool (icmp .geq m22 97) from rfl) (congrArg Value.bool hc30)) (d_mv (v := .int .u8 m22) s9_23 ?_)
                        refine da_on rfl (Eq.trans (show sl _ _ _ = .bool (icmp .geq m22 97) from rfl) (congrArg Value.bool hc30)) (d_icmp cLeq rfl rfl ?_)
                        refine da_op rfl (d_pick (b := true) (Eq.trans (show ev _ _ = .bool (icmp .geq m22 97) from rfl) (congrArg Value.bool hc30)) ?_)
                        refine da_nil ?_
                        subst hr
                        exact ⟨rfl, (Ext.refl w23)⟩
                      · skip
                        replace hr := bif_f hr hc30
                        refine da_off rfl (Eq.trans (show sl _ _ _ = .bool (icmp .geq m22 97) from rfl) (congrArg Value.bool hc30)) (by decide) ?_
                        refine da_off rfl (Eq.trans (show sl _ _ _ = .bool (icmp .geq m22 97) from rfl) (congrArg Value.bool hc30)) (by decide) ?_
                        refine da_op rfl (d_pick (b := false) (Eq.trans (show ev _ _ = .bool (icmp .geq m22 97) from rfl) (congrArg Value.bool hc30)) ?_)
                        refine da_nil ?_
                        subst hr
                        exact ⟨rfl, (Ext.refl w23)⟩
                    · skip
                      rintro σ27 w27 o27 ⟨s57_27, E27⟩
                      have s7_27 : σ27 7 = .int .i64 s17.1 := (o27 7 rfl).trans s7_23
                      have s8_27 : σ27 8 = .int .i64 s17.2 := (o27 8 rfl).trans s8_23
                      have s4_27 : σ27 4 = i10_0v := (o27 4 rfl).trans s4_23
                      have s5_27 : σ27 5 = q5_0v := (o27 5 rfl).trans s5_23
                      have s6_27 : σ27 6 = .int .i64 s10.2 := (o27 6 rfl).trans s6_23
                      have s9_27 : σ27 9 = .int .u8 m22 := (o27 9 rfl).trans s9_23
                      have s10_27 : σ27 10 = .int .i64 (IntKind.i64.wrap (IntKind.u8.wrap (m22 - 48))) := (o27 10 rfl).trans rfl
                      have X31 : Ext w w27 := X25.trans E27
                      refine W_cond (b := m27) s57_27 (fun hc32 => ?_) (fun hc32 => ?_)
                      · skip
                        replace hr := bif_t hr hc32
                        refine W_region rfl ?_
                        refine da_op rfl (d_mv (v := .int .u8 m22) s9_27 ?_)
                        refine da_op rfl (d_iarith rfl rfl (.inr (.inl ⟨rfl, rfl⟩)) ?_)
                        refine da_op rfl (d_iconv un5 un2 rfl ?_)
                        refine da_op rfl (d_iarith rfl rfl (.inl ⟨rfl, rfl⟩) ?_)
                        refine da_op rfl (d_as (v := .int .i64 (IntKind.i64.wrap ((IntKind.i64.wrap (IntKind.u8.wrap (m22 - 97))) + 10))) rfl ?_)
                        refine da_nil ?_
                        refine W_seq ?_
                        refine W_seq ?_
                        refine W_region rfl ?_
                        refine da_op rfl (d_mv (v := .int .i64 (IntKind.i64.wrap ((IntKind.i64.wrap (IntKind.u8.wrap (m22 - 97))) + 10))) rfl ?_)
                        refine da_op rfl (d_icmp cLss rfl rfl ?_)
                        refine da_nil ?_
                        refine W_cond (b := (icmp .lss (IntKind.i64.wrap ((IntKind.i64.wrap (IntKind.u8.wrap (m22 - 97))) + 10)) 0)) rfl (fun hc33 => ?_) (fun hc33 => ?_)
                        · skip
                          replace hr := bif_t hr hc33
                          refine W_seq ?_
                          refine W_region rfl ?_
                          refine da_op rfl (d_as (v := .slice none 0 0) rfl ?_)
                          refine da_op rfl (d_as (v := .bool false) rfl ?_)
                          refine da_nil ?_
                          refine W_ret ?_
                          obtain rfl := Option.some.inj hr
                          exact ⟨_, rfl, rfl, (.slice none 0 0), rfl, rfl, (OS.nil _ 22 encF_f32), (fun k hk => by cases hk), X31⟩
                        · skip
                          replace hr := bif_f hr hc33
                          refine W_skip ?_
                          refine W_region rfl ?_
                          refine da_op rfl (d_mv (v := .int .i64 s17.1) s7_27 ?_)
                          refine da_op rfl (d_iarith rfl rfl (.inr (.inr ⟨rfl, rfl⟩)) ?_)
                          refine da_op rfl (d_mv (v := .int .i64 (IntKind.i64.wrap ((IntKind.i64.wrap (IntKind.u8.wrap (m22 - 97))) + 10))) rfl ?_)
                          refine da_op rfl (d_iarith rfl rfl (.inl ⟨rfl, rfl⟩) ?_)
                          refine da_op rfl (d_as (v := .int .i64 (IntKind.i64.wrap ((IntKind.i64.wrap (16 * s17.1)) + (IntKind.i64.wrap ((IntKind.i64.wrap (IntKind.u8.wrap (m22 - 97))) + 10))))) rfl ?_)
                          refine da_nil ?_
                          refine W_region rfl ?_
                          refine da_op rfl (d_mv (v := .int .i64 s17.2) s8_27 ?_)
                          refine da_op rfl (d_iarith rfl rfl (.inl ⟨rfl, rfl⟩) ?_)
                          refine da_op rfl (d_as (v := .int .i64 (IntKind.i64.wrap (s17.2 + 1))) rfl ?_)
                          refine da_nil ?_
                          have B34 : OS w27 9 encS q5_0v m4 := B28.ext E27
                          have B35 : OS w27 22 encF_f32 i10_0v s10.1 := B29.ext E27
                          obtain rfl := Option.some.inj hr
                          exact ⟨_, rfl, ⟨rfl, rfl, s4_27, s5_27, s6_27, B34, B35, X31⟩⟩
                      · skip
                        replace hr := bif_f hr hc32
                        refine W_skip ?_
                        refine W_seq ?_
                        refine W_seq ?_
                        refine W_region rfl ?_
                        refine da_op rfl (d_mv (v := .int .i64 (IntKind.i64.wrap (IntKind.u8.wrap (m22 - 48)))) s10_27 ?_)
                        refine da_op rfl (d_icmp cLss rfl rfl ?_)
                        refine da_nil ?_
                        refine W_cond (b := (icmp .lss (IntKind.i64.wrap (IntKind.u8.wrap (m22 - 48))) 0)) rfl (fun hc36 => ?_) (fun hc36 => ?_)
                        · skip
                          replace hr := bif_t hr hc36
                          refine W_seq ?_
                          refine W_region rfl ?_
                          refine da_op rfl (d_as (v := .slice none 0 0) rfl ?_)
                          refine da_op rfl (d_as (v := .bool false) rfl ?_)
                          refine da_nil ?_
                          refine W_ret ?_
                          obtain rfl := Option.some.inj hr
                          exact ⟨_, rfl, rfl, (.slice none 0 0), rfl, rfl, (OS.nil _ 22 encF_f32), (fun k hk => by cases hk), X31⟩
                        · skip
                          replace hr := bif_f hr hc36
                          refine W_skip ?_
                          refine W_region rfl ?_
                          refine da_op rfl (d_mv (v := .int .i64 s17.1) s7_27 ?_)
                          refine da_op rfl (d_iarith rfl rfl (.inr (.inr ⟨rfl, rfl⟩)) ?_)
                          refine da_op rfl (d_mv (v := .int .i64 (IntKind.i64.wrap (IntKind.u8.wrap (m22 - 48)))) s10_27 ?_)
                          refine da_op rfl (d_iarith rfl rfl (.inl ⟨rfl, rfl⟩) ?_)
                          refine da_op rfl (d_as (v := .int .i64 (IntKind.i64.wrap ((IntKind.i64.wrap (16 * s17.1)) + (IntKind.i64.wrap (IntKind.u8.wrap (m22 - 48)))))) rfl ?_)
                          refine da_nil ?_
                          refine W_region rfl ?_
                          refine da_op rfl (d_mv (v := .int .i64 s17.2) s8_27 ?_)
                          refine da_op rfl (d_iarith rfl rfl (.inl ⟨rfl, rfl⟩) ?_)
                          refine da_op rfl (d_as (v := .int .i64 (IntKind.i64.wrap (s17.2 + 1))) rfl ?_)
                          refine da_nil ?_
                          have B37 : OS w27 9 encS q5_0v m4 := B28.ext E27
                          have B38 : OS w27 22 encF_f32 i10_0v s10.1 := B29.ext E27
                          obtain rfl := Option.some.inj hr
                          exact ⟨_, rfl, ⟨rfl, rfl, s4_27, s5_27, s6_27, B37, B38, X31⟩⟩
                  · skip
                    replace hr := bif_f hr hc26
                    refine W_skip ?_
                    refine W_seq ?_
                    refine W_seq ?_
                    have B40 : OS w23 9 encS q5_0v m4 := i17_K0.ext E23
                    have B41 : OS w23 22 encF_f32 i10_0v s10.1 := i17_K1.ext E23
                    obtain ⟨m39, hm39, hr⟩ := letv_out hr
                    refine W_cut (fun σ' w' => σ' 57 = .bool m39 ∧ Ext w23 w') rfl ?_ ?_
                    · skip
                      have hr := hm39
                      refine da_op rfl (d_mv (v := .int .u8 m22) s9_23 ?_)
                      refine da_op rfl (d_icmp cGeq rfl rfl ?_)
                      refine da_op rfl (d_mv (v := .bool (icmp .geq m22 97)) rfl ?_)
                      rcases Bool.eq_false_or_eq_true (icmp .geq m22 97) with hc42 | hc42
                      · skip
                        replace hr := bif_t hr hc42
                        refine da_on rfl (Eq.trans (show sl _ _ _ = .bool (icmp .geq m22 97) from rfl) (congrArg Value.bool hc42)) (d_mv (v := .int .u8 m22) s9_23 ?_)
                        refine da_on rfl (Eq.trans (show sl _ _ _ = .bool (icmp .geq m22 97) from rfl) (congrArg Value.bool hc42)) (d_icmp cLeq rfl rfl ?_)
                        refine da_op rfl (d_pick (b := true) (Eq.trans (show ev _ _ = .bool (icmp .geq m22 97) from rfl) (congrArg Value.bool hc42)) ?_)
                        refine da_nil ?_
                        subst hr
                        exact ⟨rfl, (Ext.refl w23)⟩
                      · skip
                        replace hr := bif_f hr hc42
                        refine da_off rfl (Eq.trans (show sl _ _ _ = .bool (icmp .geq m22 97) from rfl) (congrArg Value.bool hc42)) (by decide) ?_
                        refine da_off rfl (Eq.trans (show sl _ _ _ = .bool (icmp .geq m22 97) from rfl) (congrArg Value.bool hc42)) (by decide) ?_
                        refine da_op rfl (d_pick (b := false) (Eq.trans (show ev _ _ = .bool (icmp .geq m22 97) from rfl) (congrArg Value.bool hc42)) ?_)
                        refine da_nil ?_
                        subst hr
                        exact ⟨rfl, (Ext.refl w23)⟩
                    · skip
                      rintro σ39 w39 o39 ⟨s57_39, E39⟩
                      have s7_39 : σ39 7 = .int .i64 s17.1 := (o39 7 rfl).trans s7_23
                      have s8_39 : σ39 8 = .int .i64 s17.2 := (o39 8 rfl).trans s8_23
                      have s4_39 : σ39 4 = i10_0v := (o39 4 rfl).trans s4_23
                      have s5_39 : σ39 5 = q5_0v := (o39 5 rfl).trans s5_23
                      have s6_39 : σ39 6 = .int .i64 s10.2 := (o39 6 rfl).trans s6_23
                      have s9_39 : σ39 9 = .int .u8 m22 := (o39 9 rfl).trans s9_23
                      have s10_39 : σ39 10 = .int .i64 (-1) := (o39 10 rfl).trans s10_23
                      have X43 : Ext w w39 := X25.trans E39
                      refine W_cond (b := m39) s57_39 (fun hc44 => ?_) (fun hc44 => ?_)
                      · skip
                        replace hr := bif_t hr hc44
                        refine W_region rfl ?_
                        refine da_op rfl (d_mv (v := .int .u8 m22) s9_39 ?_)
                        refine da_op rfl (d_iarith rfl rfl (.inr (.inl ⟨rfl, rfl⟩)) ?_)
                        refine da_op rfl (d_iconv un5 un2 rfl ?_)
                        refine da_op rfl (d_iarith rfl rfl (.inl ⟨rfl, rfl⟩) ?_)
                        refine da_op rfl (d_as (v := .int .i64 (IntKind.i64.wrap ((IntKind.i64.wrap (IntKind.u8.wrap (m22 - 97))) + 10))) rfl ?_)
                        refine da_nil ?_
                        refine W_seq ?_
                        refine W_seq ?_
                        refine W_region rfl ?_
                        refine da_op rfl (d_mv (v := .int .i64 (IntKind.i64.wrap ((IntKind.i64.wrap (IntKind.u8.wrap (m22 - 97))) + 10))) rfl ?_)
                        refine da_op rfl (d_icmp cLss rfl rfl ?_)
                        refine da_nil ?_
                        refine W_cond (b := (icmp .lss (IntKind.i64.wrap ((IntKind.i64.wrap (IntKind.u8.wrap (m22 - 97))) + 10)) 0)) rfl (fun hc45 => ?_) (fun hc45 => ?_)
                        · skip
                          replace hr := bif_t hr hc45
                          refine W_seq ?_
                          refine W_region rfl ?_
                          refine da_op rfl (d_as (v := .slice none 0 0) rfl ?_)
                          refine da_op rfl (d_as (v := .bool false) rfl ?_)
                          refine da_nil ?_
                          refine W_ret ?_
                          obtain rfl := Option.some.inj hr
                          exact ⟨_, rfl, rfl, (.slice none 0 0), rfl, rfl, (OS.nil _ 22 encF_f32), (fun k hk => by cases hk), X43⟩
                        · skip
                          replace hr := bif_f hr hc45
                          refine W_skip ?_
                          refine W_region rfl ?_
                          refine da_op rfl (d_mv (v := .int .i64 s17.1) s7_39 ?_)
                          refine da_op rfl (d_iarith rfl rfl (.inr (.inr ⟨rfl, rfl⟩)) ?_)
                          refine da_op rfl (d_mv (v := .int .i64 (IntKind.i64.wrap ((IntKind.i64.wrap (IntKind.u8.wrap (m22 - 97))) + 10))) rfl ?_)
                          refine da_op rfl (d_iarith rfl rfl (.inl ⟨rfl, rfl⟩) ?_)
                          refine da_op rfl (d_as (v := .int .i64 (IntKind.i64.wrap ((IntKind.i64.wrap (16 * s17.1)) + (IntKind.i64.wrap ((IntKind.i64.wrap (IntKind.u8.wrap (m22 - 97))) + 10))))) rfl ?_)
                          refine da_nil ?_
                          refine W_region rfl ?_
                          refine da_op rfl (d_mv (v := .int .i64 s17.2) s8_39 ?_)
                          refine da_op rfl (d_iarith rfl rfl (.inl ⟨rfl, rfl⟩) ?_)
                          refine da_op rfl (d_as (v := .int .i64 (IntKind.i64.wrap (s17.2 + 1))) rfl ?_)
                          refine da_nil ?_
                          have B46 : OS w39 9 encS q5_0v m4 := B40.ext E39
                          have B47 : OS w39 22 encF_f32 i10_0v s10.1 := B41.ext E39
                          obtain rfl := Option.some.inj hr
                          exact ⟨_, rfl, ⟨rfl, rfl, s4_39, s5_39, s6_39, B46, B47, X43⟩⟩
                      · skip
                        replace hr := bif_f hr hc44
                        refine W_skip ?_
                        refine W_seq ?_
                        refine W_seq ?_
                        refine W_region rfl ?_
                        refine da_op rfl (d_mv (v := .int .i64 (-1)) s10_39 ?_)
                        refine da_op rfl (d_icmpL (b := true) cLss rfl rfl (by decide) ?_)
                        refine da_nil ?_
                        refine W_true rfl ?_
                        refine W_seq ?_
                        refine W_region rfl ?_
                        refine da_op rfl (d_as (v := .slice none 0 0) rfl ?_)
                        refine da_op rfl (d_as (v := .bool false) rfl ?_)
                        refine da_nil ?_
                        refine W_ret ?_
                        obtain rfl := Option.some.inj hr
                        exact ⟨_, rfl, rfl, (.slice none 0 0), rfl, rfl, (OS.nil _ 22 encF_f32), (fun k hk => by cases hk), X43⟩
              · skip
                replace hr := bif_f hr hc18
                refine W_exit ?_
                obtain rfl := Option.some.inj hr
                exact ⟨_, rfl, rfl, i17_S7, i17_S4, i17_S5, i17_S6, i17_K0, i17_K1, i17_X⟩
            · skip
              intro ex σx17 wx17 hq
              rcases m17 with m17 | m17
              · skip
                obtain ⟨rfl, q17_0_S7, q17_0_S4, q17_0_S5, q17_0_S6, q17_0_K0, q17_0_K1, q17_0_X⟩ := hq
                refine W_seq ?_
                refine W_region rfl ?_
                refine da_op rfl (d_mv (v := .int .i64 m17) q17_0_S7 ?_)
                obtain ⟨m48, hm48, hr⟩ := letv_out hr
                refine da_op rfl (d_cl (vs := [.int .i64 m17]) en158 (ac rfl rfl) rfl ?_)
                refine (c158 m17 m48 wx17 hm48 ).mono ?_
                rintro _ w49 ⟨q49_0r, rfl, q49_0h, E49⟩
                refine ⟨_, rfl, ?_⟩
                have X50 : Ext w w49 := q17_0_X.trans E49
                refine da_op rfl (d_as (v := .float .f32 q49_0r) rfl ?_)
                refine da_nil ?_
                refine W_seq ?_
                refine W_seq ?_
                refine W_region rfl ?_
                refine da_op rfl (d_mv (v := .float .f32 q49_0r) rfl ?_)
                obtain ⟨m51, hm51, hr⟩ := letv_out hr
                have B52 : OS w49 9 encS q5_0v m4 := q17_0_K0.ext E49
                have B53 : OS w49 22 encF_f32 i10_0v s10.1 := q17_0_K1.ext E49
                refine da_op rfl (d_cl (vs := [.float .f32 q49_0r]) en159 (ac rfl rfl) rfl ?_)
                refine (c159 m48 q49_0r m51 w49 hm51 q49_0h).mono ?_
                rintro _ w54 ⟨rfl, E54⟩
                refine ⟨_, rfl, ?_⟩
                have X55 : Ext w w54 := X50.trans E54
                refine da_op rfl (d_mv (v := .int .i64 m17) q17_0_S7 ?_)
                refine da_op rfl (d_icmp cNeq rfl rfl ?_)
                refine da_nil ?_
                refine W_cond (b := (icmp .neq m51 m17)) rfl (fun hc56 => ?_) (fun hc56 => ?_)
                · skip
                  replace hr := bif_t hr hc56
                  refine W_seq ?_
                  refine W_region rfl ?_
                  refine da_op rfl (d_as (v := .slice none 0 0) rfl ?_)
                  refine da_op rfl (d_as (v := .bool false) rfl ?_)
                  refine da_nil ?_
                  refine W_ret ?_
                  obtain rfl := Option.some.inj hr
                  exact ⟨_, rfl, rfl, (.slice none 0 0), rfl, rfl, (OS.nil _ 22 encF_f32), (fun k hk => by cases hk), X55⟩
                · skip
                  replace hr := bif_f hr hc56
                  refine W_skip ?_
                  refine W_region rfl ?_
                  refine da_op rfl (d_mv (v := i10_0v) q17_0_S4 ?_)
                  refine da_op rfl (d_mv (v := .float .f32 q49_0r) rfl ?_)
                  have B58 : OS w54 9 encS q5_0v m4 := B52.ext E54
                  have B59 : OS w54 22 encF_f32 i10_0v s10.1 := B53.ext E54
                  refine da_op rfl (d_bslice (vs := [(0, .float .f32 q49_0r)]) (cs := #[.float .f32 q49_0r]) un53 (pc rfl rfl) (by kernel_rfl) fun w57 B57 E57 => ?_)
                  have fr57 : ∀ k, (Value.slice (some ⟨w54.heap.size, 0, none⟩) 1 1).ownBlock = some k → w54.heap.size ≤ k := fun k hk => by cases hk; exact Nat.le_refl _
                  have own57 : ∀ k, (Value.slice (some ⟨w54.heap.size, 0, none⟩) 1 1).ownBlock = some k → w.heap.size ≤ k := fun k hk => Nat.le_trans X55.size (fr57 k hk)
                  have sp60 : ∀ k, q5_0v.ownBlock = some k → ¬ (Value.slice (some ⟨w54.heap.size, 0, none⟩) 1 1).ownBlock = some k := apart_fresh B58 fr57
                  have sp61 : ∀ k, i10_0v.ownBlock = some k → ¬ (Value.slice (some ⟨w54.heap.size, 0, none⟩) 1 1).ownBlock = some k := apart_fresh B59 fr57
                  have X62 : Ext w w57 := X55.trans E57
                  have O57 : OS w57 22 encF_f32 (Value.slice (some ⟨w54.heap.size, 0, none⟩) 1 1) [m48] := OS.box (xs := [m48]) B57 (lc_f q49_0h rfl) (Nat.le_of_ble_eq_true rfl)
                  obtain ⟨m63, hm63, hr⟩ := bind_out hr
                  have B64 : OS w57 22 encF_f32 i10_0v s10.1 := B59.ext E57
                  have B65 : OS w57 9 encS q5_0v m4 := B58.ext E57
                  refine da_op rfl (d_append (e := encF_f32) (v := i10_0v) (y := (Value.slice (some ⟨w54.heap.size, 0, none⟩) 1 1)) un53 info22 rfl (by kernel_rfl) (by kernel_rfl) (by decide) (by decide) rfl rfl B64 O57.rs hm63 fun v66 w66 O66 Fm66 at_66 nl66 => ?_)
                  have own66 : ∀ k, v66.ownBlock = some k → w.heap.size ≤ k := app_own (w := w57) at_66 i10_0O X62.size
                  have sp67 : ∀ k, q5_0v.ownBlock = some k → ¬ v66.ownBlock = some k := app_nr at_66 i10_A0 B65
                  have sp68 : ∀ k, (Value.slice (some ⟨w54.heap.size, 0, none⟩) 1 1).ownBlock = some k → ¬ v66.ownBlock = some k := app_nr at_66 (apart_symm sp61) O57
                  have X69 : Ext w w66 := Ext.step X62 Fm66 (fun k _ hk => i10_0O k hk)
                  refine da_op rfl (d_as (v := v66) rfl ?_)
                  refine da_nil ?_
                  refine W_region rfl ?_
                  refine da_op rfl (d_mv (v := .int .i64 s10.2) q17_0_S6 ?_)
                  refine da_op rfl (d_iarith rfl rfl (.inl ⟨rfl, rfl⟩) ?_)
                  refine da_op rfl (d_as (v := .int .i64 (IntKind.i64.wrap (s10.2 + 1))) rfl ?_)
                  refine da_nil ?_
                  have B70 : OS w66 9 encS q5_0v m4 := B65.frm Fm66 i10_A0
                  obtain rfl := Option.some.inj hr
                  exact ⟨_, rfl, ⟨v66, rfl, rfl, q17_0_S5, O66, own66, B70, sp67, X69⟩⟩
              · skip
                obtain ⟨rfl, q17_1_0v, q17_1_S2, q17_1_S3, q17_1_0R, q17_1_0O, q17_1_X⟩ := hq
                obtain rfl := Option.some.inj hr
                exact ⟨_, rfl, rfl, q17_1_0v, q17_1_S2, q17_1_S3, q17_1_0R, q17_1_0O, q17_1_X⟩
        · skip
          replace hr := bif_f hr hc12
          refine W_exit ?_
          obtain rfl := Option.some.inj hr
          exact ⟨_, rfl, rfl, i10_0v, i10_S4, i10_0R, i10_0O, i10_X⟩
      · skip
        intro ex σx10 wx10 hq
        rcases m10 with m10 | m10
        · skip
          obtain ⟨rfl, q10_0_0v, q10_0_S4, q10_0_0R, q10_0_0O, q10_0_X⟩ := hq
          refine W_seq ?_
          refine W_region rfl ?_
          refine da_op rfl (d_mv (v := q10_0_0v) q10_0_S4 ?_)
          refine da_op rfl (d_as (v := q10_0_0v) rfl ?_)
          refine da_op rfl (d_as (v := .bool true) rfl ?_)
          refine da_nil ?_
          refine W_ret ?_
          obtain rfl := Option.some.inj hr
          refine ⟨_, res2 (rv_tmp rfl) (rv_tmp rfl), ?_⟩
          exact ⟨q10_0_0v, rfl, q10_0_0R, q10_0_0O, q10_0_X⟩
        · skip
          obtain ⟨rfl, q10_1_0v, q10_1_S2, q10_1_S3, q10_1_0R, q10_1_0O, q10_1_X⟩ := hq
          obtain rfl := Option.some.inj hr
          refine ⟨_, res2 (rv_tmp q10_1_S2) (rv_tmp q10_1_S3), ?_⟩
          exact ⟨q10_1_0v, rfl, q10_1_0R, q10_1_0O, q10_1_X⟩
set_option maxHeartbeats 4000000 in
theorem c164 (p0 : Nat) (p0r : Nat) (r : Bool) (w : World) (hr : M.spec_l01Finite p0 = r) (p0h : cn .f32 p0r = p0) :
    Calls Tryd.prog 164 #[.float .f32 p0r] w fun e w' => e = .returned (.bool r) ∧ Ext w w' := by
  refine calls_of_W Tryd.func164 rfl (Nat.le_of_ble_eq_true rfl) ?_
  refine W_seq ?_
  refine W_region rfl ?_
  refine da_op rfl (d_as (v := .bool false) rfl ?_)
  refine da_nil ?_
  refine W_seq ?_
  refine W_region rfl ?_
  refine da_op rfl (d_mv (v := .float .f32 p0r) rfl ?_)
  refine da_op rfl (d_mv (v := .float .f32 p0r) rfl ?_)
  refine da_op rfl (d_fop (k := .f32) fSub rfl rfl p0h p0h fun r1 w1 h1 _ E1 => ?_)
  have X2 : Ext w w1 := (Ext.refl w).trans E1
  refine da_op rfl (d_fcmp (k := .f32) cEql rfl rfl h1 cn_f32_0 ?_)
  refine da_op rfl (d_as (v := .bool (fcmp .eql .f32 (fop .sub .f32 p0 p0) 0)) rfl ?_)
  refine da_nil ?_
  refine W_ret ?_
  subst hr
  refine ⟨_, res1 (rv_tmp rfl), ?_⟩
  exact ⟨rfl, X2⟩
set_option maxHeartbeats 4000000 in
theorem c160 (p0 : SSwing) (p0b p0o : Nat) (p0c : Array Value) (p0T : TypeId) (p0f : Nat × Nat) (p0r0 : Nat) (p0r1 : Nat) (p0r2 : Nat) (r : Bool) (w : World) (hr : M.spec_l02Swing p0 = r) (p0h0 : cn .f32 p0r0 = p0.turn) (p0h1 : cn .f32 p0r1 = p0.speed) (p0h2 : cn .f32 p0r2 = p0.time) (p0B : w.heap[p0b]? = some (.cells p0c p0T p0f)) (p0P : (p0c.toList.drop p0o).take 3 = [.float .f32 p0r0, .float .f32 p0r1, .float .f32 p0r2]) :
    Calls Tryd.prog 160 #[.pointer (some ⟨p0b, p0o, none⟩)] w fun e w' => e = .returned (.bool r) ∧ Ext w w' := by
  refine calls_of_W Tryd.func160 rfl (Nat.le_of_ble_eq_true rfl) ?_
  refine W_seq ?_
  refine W_region rfl ?_
  refine da_op rfl (d_as (v := .bool false) rfl ?_)
  refine da_nil ?_
  refine W_seq ?_
  obtain ⟨m1, hm1, hr⟩ := letv_out hr
  refine W_cut (fun σ' w' => σ' 2 = .bool m1 ∧ Ext w w') rfl ?_ ?_
  · skip
    have hr := hm1
    refine da_op rfl (d_mv (v := .pointer (some ⟨p0b, p0o, none⟩)) rfl ?_)
    refine da_op rfl (d_nil rfl ?_)
    refine da_op rfl (d_fieldAddr rfl (fa24_0 _ _) ?_)
    refine da_op rfl (d_load (v := .float .f32 p0r0) rfl agg22 p0B (sub_get (vs := #[.float .f32 p0r0, .float .f32 p0r1, .float .f32 p0r2]) p0P (i := 0) rfl) ?_)
    obtain ⟨m2, hm2, hr⟩ := letv_out hr
    refine da_op rfl (d_cl (vs := [.float .f32 p0r0]) en164 (ac rfl rfl) rfl ?_)
    refine (c164 p0.turn p0r0 m2 w hm2 p0h0).mono ?_
    rintro _ w3 ⟨rfl, E3⟩
    refine ⟨_, rfl, ?_⟩
    have X4 : Ext w w3 := (Ext.refl w).trans E3
    refine da_op rfl (d_mv (v := .bool m2) rfl ?_)
    rcases Bool.eq_false_or_eq_true m2 with hc5 | hc5
    · skip
      replace hr := bif_t hr hc5
      refine da_on rfl (Eq.trans (show sl _ _ _ = .bool m2 from rfl) (congrArg Value.bool hc5)) (d_mv (v := .pointer (some ⟨p0b, p0o, none⟩)) rfl ?_)
      refine da_on rfl (Eq.trans (show sl _ _ _ = .bool m2 from rfl) (congrArg Value.bool hc5)) (d_nil rfl ?_)
      refine da_on rfl (Eq.trans (show sl _ _ _ = .bool m2 from rfl) (congrArg Value.bool hc5)) (d_fieldAddr rfl (fa24_1 _ _) ?_)
      have B6 : w3.heap[p0b]? = some (.cells p0c p0T p0f) := X4.heap p0B
      refine da_on rfl (Eq.trans (show sl _ _ _ = .bool m2 from rfl) (congrArg Value.bool hc5)) (d_load (v := .float .f32 p0r1) rfl agg22 B6 (sub_get (vs := #[.float .f32 p0r0, .float .f32 p0r1, .float .f32 p0r2]) p0P (i := 1) rfl) ?_)
      obtain ⟨m7, hm7, hr⟩ := letv_out hr
      refine da_on rfl (Eq.trans (show sl _ _ _ = .bool m2 from rfl) (congrArg Value.bool hc5)) (d_cl (vs := [.float .f32 p0r1]) en164 (ac rfl rfl) rfl ?_)
      refine (c164 p0.speed p0r1 m7 w3 hm7 p0h1).mono ?_
      rintro _ w8 ⟨rfl, E8⟩
      refine ⟨_, rfl, ?_⟩
      have X9 : Ext w w8 := X4.trans E8
      refine da_op rfl (d_pick (b := true) (Eq.trans (show ev _ _ = .bool m2 from rfl) (congrArg Value.bool hc5)) ?_)
      refine da_op rfl (d_mv (v := .bool m7) rfl ?_)
      rcases Bool.eq_false_or_eq_true m7 with hc10 | hc10
      · skip
        replace hr := bif_t hr hc10
        refine da_on rfl (Eq.trans (show sl _ _ _ = .bool m7 from rfl) (congrArg Value.bool hc10)) (d_mv (v := .pointer (some ⟨p0b, p0o, none⟩)) rfl ?_)
        refine da_on rfl (Eq.trans (show sl _ _ _ = .bool m7 from rfl) (congrArg Value.bool hc10)) (d_nil rfl ?_)
        refine da_on rfl (Eq.trans (show sl _ _ _ = .bool m7 from rfl) (congrArg Value.bool hc10)) (d_fieldAddr rfl (fa24_2 _ _) ?_)
        have B11 : w8.heap[p0b]? = some (.cells p0c p0T p0f) := X9.heap p0B
        refine da_on rfl (Eq.trans (show sl _ _ _ = .bool m7 from rfl) (congrArg Value.bool hc10)) (d_load (v := .float .f32 p0r2) rfl agg22 B11 (sub_get (vs := #[.float .f32 p0r0, .float .f32 p0r1, .float .f32 p0r2]) p0P (i := 2) rfl) ?_)
        obtain ⟨m12, hm12, hr⟩ := letv_out hr
        refine da_on rfl (Eq.trans (show sl _ _ _ = .bool m7 from rfl) (congrArg Value.bool hc10)) (d_cl (vs := [.float .f32 p0r2]) en164 (ac rfl rfl) rfl ?_)
        refine (c164 p0.time p0r2 m12 w8 hm12 p0h2).mono ?_
        rintro _ w13 ⟨rfl, E13⟩
        refine ⟨_, rfl, ?_⟩
        have X14 : Ext w w13 := X9.trans E13
        refine da_op rfl (d_pick (b := true) (Eq.trans (show ev _ _ = .bool m7 from rfl) (congrArg Value.bool hc10)) ?_)
        refine da_op rfl (d_as (v := .bool m12) rfl ?_)
        refine da_nil ?_
        subst hr
        exact ⟨rfl, (Ext.trans (Ext.trans (Ext.trans (Ext.refl w) E3) E8) E13)⟩
      · skip
        replace hr := bif_f hr hc10
        refine da_off rfl (Eq.trans (show sl _ _ _ = .bool m7 from rfl) (congrArg Value.bool hc10)) (by decide) ?_
        refine da_off rfl (Eq.trans (show sl _ _ _ = .bool m7 from rfl) (congrArg Value.bool hc10)) (by decide) ?_
        refine da_off rfl (Eq.trans (show sl _ _ _ = .bool m7 from rfl) (congrArg Value.bool hc10)) (by decide) ?_
        refine da_off rfl (Eq.trans (show sl _ _ _ = .bool m7 from rfl) (congrArg Value.bool hc10)) (by decide) ?_
        refine da_off rfl (Eq.trans (show sl _ _ _ = .bool m7 from rfl) (congrArg Value.bool hc10)) (by decide) ?_
        refine da_op rfl (d_pick (b := false) (Eq.trans (show ev _ _ = .bool m7 from rfl) (congrArg Value.bool hc10)) ?_)
        refine da_op rfl (d_as (v := .bool false) rfl ?_)
        refine da_nil ?_
        subst hr
        exact ⟨rfl, (Ext.trans (Ext.trans (Ext.refl w) E3) E8)⟩
    · skip
      replace hr := bif_f hr hc5
      refine da_off rfl (Eq.trans (show sl _ _ _ = .bool m2 from rfl) (congrArg Value.bool hc5)) (by decide) ?_
      refine da_off rfl (Eq.trans (show sl _ _ _ = .bool m2 from rfl) (congrArg Value.bool hc5)) (by decide) ?_
      refine da_off rfl (Eq.trans (show sl _ _ _ = .bool m2 from rfl) (congrArg Value.bool hc5)) (by decide) ?_
      refine da_off rfl (Eq.trans (show sl _ _ _ = .bool m2 from rfl) (congrArg Value.bool hc5)) (by decide) ?_
      refine da_off rfl (Eq.trans (show sl _ _ _ = .bool m2 from rfl) (congrArg Value.bool hc5)) (by decide) ?_
      refine da_op rfl (d_pick (b := false) (Eq.trans (show ev _ _ = .bool m2 from rfl) (congrArg Value.bool hc5)) ?_)
      refine da_op rfl (d_mv (v := .bool false) rfl ?_)
      refine da_off rfl rfl (by decide) ?_
      refine da_off rfl rfl (by decide) ?_
      refine da_off rfl rfl (by decide) ?_
      refine da_off rfl rfl (by decide) ?_
      refine da_off rfl rfl (by decide) ?_
      refine da_op rfl (d_pick (b := false) rfl ?_)
      refine da_op rfl (d_as (v := .bool false) rfl ?_)
      refine da_nil ?_
      subst hr
      exact ⟨rfl, (Ext.trans (Ext.refl w) E3)⟩
  · skip
    rintro σ1 w1 o1 ⟨s2_1, E1⟩
    have X15 : Ext w w1 := (Ext.refl w).trans E1
    refine W_ret ?_
    subst hr
    refine ⟨_, res1 (rv_tmp s2_1), ?_⟩
    exact ⟨rfl, X15⟩
set_option maxHeartbeats 4000000 in
theorem c106 (p0 : SSwing) (p0r0 : Nat) (p0r1 : Nat) (p0r2 : Nat) (r : SSwing × Bool) (w : World) (hr : M.spec_l02Give p0 = r) (p0h0 : cn .f32 p0r0 = p0.turn) (p0h1 : cn .f32 p0r1 = p0.speed) (p0h2 : cn .f32 p0r2 = p0.time) :
    Calls Tryd.prog 106 #[.agg #[.float .f32 p0r0, .float .f32 p0r1, .float .f32 p0r2]] w fun e w' => ∃ q0r0 : Nat, ∃ q0r1 : Nat, ∃ q0r2 : Nat, e = .returned (.tuple #[.agg #[.float .f32 q0r0, .float .f32 q0r1, .float .f32 q0r2], .bool r.2]) ∧ cn .f32 q0r0 = r.1.turn ∧ cn .f32 q0r1 = r.1.speed ∧ cn .f32 q0r2 = r.1.time ∧ Ext w w' := by
  refine calls_of_W Tryd.func106 rfl (Nat.le_of_ble_eq_true rfl) ?_
  refine W_seq ?_
  refine W_region rfl ?_
  refine da_op rfl (d_box (cs := #[.float .f32 p0r0, .float .f32 p0r1, .float .f32 p0r2]) rfl fun w1 B1 E1 => ?_)
  have own2 : w.heap.size ≤ w.heap.size := Nat.le_trans (Ext.refl w).size (Nat.le_refl _)
  have X3 : Ext w w1 := (Ext.refl w).trans E1
  refine da_op rfl (d_alloc (cs := #[.float .f32 0, .float .f32 0, .float .f32 0]) zero24 rfl fun w4 B4 E4 => ?_)
  have own5 : w.heap.size ≤ w1.heap.size := Nat.le_trans X3.size (Nat.le_refl _)
  have sp6 : w.heap.size ≠ w1.heap.size := Nat.ne_of_lt (Nat.lt_of_lt_of_le (lt_heap B1) (Nat.le_refl _))
  have X7 : Ext w w4 := X3.trans E4
  refine da_op rfl (d_as (v := .bool false) rfl ?_)
  refine da_nil ?_
  refine W_seq ?_
  refine W_seq ?_
  refine W_region rfl ?_
  obtain ⟨m8, hm8, hr⟩ := letv_out hr
  have B9 : w4.heap[w.heap.size]? = some (.cells #[.float .f32 p0r0, .float .f32 p0r1, .float .f32 p0r2] 24 (0, 0)) := E4.heap B1
  refine da_op rfl (d_cl (vs := [.pointer (some ⟨w.heap.size, 0, none⟩)]) en160 (ac rfl rfl) rfl ?_)
  refine (c160 (⟨p0.turn, p0.speed, p0.time⟩ : SSwing) w.heap.size 0 #[.float .f32 p0r0, .float .f32 p0r1, .float .f32 p0r2] 24 (0, 0) p0r0 p0r1 p0r2 m8 w4 hm8 p0h0 p0h1 p0h2 B9 rfl).mono ?_
  rintro _ w10 ⟨rfl, E10⟩
  refine ⟨_, rfl, ?_⟩
  have X11 : Ext w w10 := X7.trans E10
  refine da_op rfl (d_not rfl ?_)
  refine da_nil ?_
  refine W_cond (b := (!m8)) rfl (fun hc12 => ?_) (fun hc12 => ?_)
  · skip
    replace hr := bif_t hr hc12
    refine W_seq ?_
    refine W_region rfl ?_
    refine da_op rfl (d_bd (vs := []) (cs := #[.float .f32 0, .float .f32 0, .float .f32 0]) rfl (by kernel_rfl) ?_)
    have B13 : w10.heap[w1.heap.size]? = some (.cells #[.float .f32 0, .float .f32 0, .float .f32 0] 24 (0, 0)) := E10.heap B4
    refine da_op rfl (d_store (vs := #[.float .f32 0, .float .f32 0, .float .f32 0]) rfl rfl B13 size24 (Nat.le_of_ble_eq_true rfl) rfl fun w14 S14 => ?_)
    have X15 : Ext w w14 := Ext.step X11 S14.frmb (fun k _ hk => hk ▸ own5)
    have B16 : w14.heap[w1.heap.size]? = some (.cells #[.float .f32 0, .float .f32 0, .float .f32 0] 24 (0, 0)) := S14.here
    refine da_op rfl (d_as (v := .bool false) rfl ?_)
    refine da_nil ?_
    refine W_ret ?_
    subst hr
    refine ⟨_, res2 (rv_cells (vs := #[.float .f32 0, .float .f32 0, .float .f32 0]) rfl agg24 size24 B16 rfl) (rv_tmp rfl), ?_⟩
    exact ⟨0, 0, 0, rfl, cn_f32_0, cn_f32_0, cn_f32_0, X15⟩
  · skip
    replace hr := bif_f hr hc12
    refine W_skip ?_
    refine W_seq ?_
    refine W_region rfl ?_
    have B17 : w10.heap[w.heap.size]? = some (.cells #[.float .f32 p0r0, .float .f32 p0r1, .float .f32 p0r2] 24 (0, 0)) := E10.heap B9
    refine da_op rfl (d_loads (vs := #[.float .f32 p0r0, .float .f32 p0r1, .float .f32 p0r2]) rfl agg24 size24 B17 rfl ?_)
    have B18 : w10.heap[w1.heap.size]? = some (.cells #[.float .f32 0, .float .f32 0, .float .f32 0] 24 (0, 0)) := E10.heap B4
    refine da_op rfl (d_store (vs := #[.float .f32 p0r0, .float .f32 p0r1, .float .f32 p0r2]) rfl rfl B18 size24 (Nat.le_of_ble_eq_true rfl) rfl fun w19 S19 => ?_)
    have X20 : Ext w w19 := Ext.step X11 S19.frmb (fun k _ hk => hk ▸ own5)
    have B21 : w19.heap[w1.heap.size]? = some (.cells #[.float .f32 p0r0, .float .f32 p0r1, .float .f32 p0r2] 24 (0, 0)) := S19.here
    refine da_op rfl (d_as (v := .bool true) rfl ?_)
    refine da_nil ?_
    refine W_ret ?_
    subst hr
    refine ⟨_, res2 (rv_cells (vs := #[.float .f32 p0r0, .float .f32 p0r1, .float .f32 p0r2]) rfl agg24 size24 B21 rfl) (rv_tmp rfl), ?_⟩
    exact ⟨p0r0, p0r1, p0r2, rfl, p0h0, p0h1, p0h2, X20⟩
set_option maxHeartbeats 4000000 in
theorem c48 (p0 : List UInt8) (r : SSwing × Bool) (w : World) (hr : M.spec_l08ReadSwing p0 = some r)  :
    Calls Tryd.prog 48 #[.string (bs p0)] w fun e w' => ∃ q0r0 : Nat, ∃ q0r1 : Nat, ∃ q0r2 : Nat, e = .returned (.tuple #[.agg #[.float .f32 q0r0, .float .f32 q0r1, .float .f32 q0r2], .bool r.2]) ∧ cn .f32 q0r0 = r.1.turn ∧ cn .f32 q0r1 = r.1.speed ∧ cn .f32 q0r2 = r.1.time ∧ Ext w w' := by
  refine calls_of_W Tryd.func48 rfl (Nat.le_of_ble_eq_true rfl) ?_
  refine W_seq ?_
  refine W_region rfl ?_
  refine da_op rfl (d_alloc (cs := #[.float .f32 0, .float .f32 0, .float .f32 0]) zero24 rfl fun w1 B1 E1 => ?_)
  have own2 : w.heap.size ≤ w.heap.size := Nat.le_trans (Ext.refl w).size (Nat.le_refl _)
  have X3 : Ext w w1 := (Ext.refl w).trans E1
  refine da_op rfl (d_as (v := .bool false) rfl ?_)
  refine da_nil ?_
  refine W_seq ?_
  refine W_region rfl ?_
  refine da_op rfl (d_mv (v := .string (bs p0)) rfl ?_)
  obtain ⟨m4, hm4, hr⟩ := bind_out hr
  refine da_op rfl (d_cl (vs := [.string (bs p0)]) en105 (ac rfl rfl) rfl ?_)
  refine (c105 p0 m4 w1 hm4 ).mono ?_
  rintro _ w5 ⟨q5_0v, rfl, q5_0R, q5_0F, E5⟩
  refine ⟨_, rfl, ?_⟩
  have own6 : ∀ k, q5_0v.ownBlock = some k → w.heap.size ≤ k := fun k hk => Nat.le_trans X3.size (q5_0F k hk)
  have sp7 : ¬ q5_0v.ownBlock = some w.heap.size := ne_fresh q5_0F (lt_heap B1)
  have X8 : Ext w w5 := X3.trans E5
  refine da_op rfl (d_mv (v := .tuple #[q5_0v, .bool m4.2]) rfl ?_)
  refine da_op rfl (d_extract (v := q5_0v) rfl rfl ?_)
  refine da_op rfl (d_extract (v := .bool m4.2) rfl rfl ?_)
  refine da_op rfl (d_as (v := q5_0v) rfl ?_)
  refine da_op rfl (d_as (v := .bool m4.2) rfl ?_)
  refine da_nil ?_
  refine W_seq ?_
  refine W_seq ?_
  have B10 : w5.heap[w.heap.size]? = some (.cells #[.float .f32 0, .float .f32 0, .float .f32 0] 24 (0, 0)) := E5.heap B1
  obtain ⟨m9, hm9, hr⟩ := letv_out hr
  refine W_cut (fun σ' w' => σ' 17 = .bool m9 ∧ Ext w5 w') rfl ?_ ?_
  · skip
    have hr := hm9
    refine da_op rfl (d_mv (v := .bool m4.2) rfl ?_)
    refine da_op rfl (d_not rfl ?_)
    refine da_op rfl (d_mv (v := .bool (!m4.2)) rfl ?_)
    rcases Bool.eq_false_or_eq_true m4.2 with hc11 | hc11
    · skip
      replace hr := bif_t hr hc11
      refine da_on rfl (Eq.trans (show sl _ _ _ = .bool (!m4.2) from rfl) (congrArg Value.bool (congrArg not hc11))) (d_mv (v := q5_0v) rfl ?_)
      refine da_on rfl (Eq.trans (show sl _ _ _ = .bool (!m4.2) from rfl) (congrArg Value.bool (congrArg not hc11))) (d_len (e := encF_f32) un53 rfl q5_0R.rs ?_)
      refine da_on rfl (Eq.trans (show sl _ _ _ = .bool (!m4.2) from rfl) (congrArg Value.bool (congrArg not hc11))) (d_icmp cNeq rfl rfl ?_)
      refine da_op rfl (d_pick (b := false) (Eq.trans (show ev _ _ = .bool (!m4.2) from rfl) (congrArg Value.bool (congrArg not hc11))) ?_)
      refine da_nil ?_
      subst hr
      exact ⟨rfl, (Ext.refl w5)⟩
    · skip
      replace hr := bif_f hr hc11
      refine da_off rfl (Eq.trans (show sl _ _ _ = .bool (!m4.2) from rfl) (congrArg Value.bool (congrArg not hc11))) (by decide) ?_
      refine da_off rfl (Eq.trans (show sl _ _ _ = .bool (!m4.2) from rfl) (congrArg Value.bool (congrArg not hc11))) (by decide) ?_
      refine da_off rfl (Eq.trans (show sl _ _ _ = .bool (!m4.2) from rfl) (congrArg Value.bool (congrArg not hc11))) (by decide) ?_
      refine da_op rfl (d_pick (b := true) (Eq.trans (show ev _ _ = .bool (!m4.2) from rfl) (congrArg Value.bool (congrArg not hc11))) ?_)
      refine da_nil ?_
      subst hr
      exact ⟨rfl, (Ext.refl w5)⟩
  · skip
    rintro σ9 w9 o9 ⟨s17_9, E9⟩
    have s2_9 : σ9 2 = .pointer (some ⟨w.heap.size, 0, none⟩) := (o9 2 rfl).trans rfl
    have s4_9 : σ9 4 = q5_0v := (o9 4 rfl).trans rfl
    have X12 : Ext w w9 := X8.trans E9
    refine W_cond (b := m9) s17_9 (fun hc13 => ?_) (fun hc13 => ?_)
    · skip
      replace hr := bif_t hr hc13
      refine W_seq ?_
      refine W_region rfl ?_
      refine da_op rfl (d_bd (vs := []) (cs := #[.float .f32 0, .float .f32 0, .float .f32 0]) rfl (by kernel_rfl) ?_)
      have B14 : w9.heap[w.heap.size]? = some (.cells #[.float .f32 0, .float .f32 0, .float .f32 0] 24 (0, 0)) := E9.heap B10
      refine da_op rfl (d_store (vs := #[.float .f32 0, .float .f32 0, .float .f32 0]) s2_9 rfl B14 size24 (Nat.le_of_ble_eq_true rfl) rfl fun w15 S15 => ?_)
      have X16 : Ext w w15 := Ext.step X12 S15.frmb (fun k _ hk => hk ▸ own2)
      have B17 : w15.heap[w.heap.size]? = some (.cells #[.float .f32 0, .float .f32 0, .float .f32 0] 24 (0, 0)) := S15.here
      refine da_op rfl (d_as (v := .bool false) rfl ?_)
      refine da_nil ?_
      refine W_ret ?_
      obtain rfl := Option.some.inj hr
      refine ⟨_, res2 (rv_cells (vs := #[.float .f32 0, .float .f32 0, .float .f32 0]) s2_9 agg24 size24 B17 rfl) (rv_tmp rfl), ?_⟩
      exact ⟨0, 0, 0, rfl, cn_f32_0, cn_f32_0, cn_f32_0, X16⟩
    · skip
      replace hr := bif_f hr hc13
      refine W_skip ?_
      refine W_seq ?_
      have B19 : w9.heap[w.heap.size]? = some (.cells #[.float .f32 0, .float .f32 0, .float .f32 0] 24 (0, 0)) := E9.heap B10
      have B20 : OS w9 22 encF_f32 q5_0v m4.1 := q5_0R.ext E9
      obtain ⟨m21, hm21, hr⟩ := bind_out hr
      obtain ⟨m22, hm22, hr⟩ := bind_out hr
      obtain ⟨m23, hm23, hr⟩ := bind_out hr
      obtain ⟨m24, hm24, hr⟩ := letv_out hr
      refine W_any [fun k _ => k = w.heap.size] [{ V := fun _ v _ => v = q5_0v }, { V := fun _ v _ => ∃ d18_1g : Nat, ∃ d18_1o : Nat, v = (.pointer (some ⟨d18_1g, d18_1o, none⟩)) ∧ EL encF_f32 q5_0v (m4.1).length 0 d18_1g d18_1o }, { V := fun _ v _ => ∃ d18_1r0 : Nat, v = (.float .f32 d18_1r0) ∧ cn .f32 d18_1r0 = m21 }, { V := fun _ v _ => v = q5_0v }, { V := fun _ v _ => ∃ d18_4g : Nat, ∃ d18_4o : Nat, v = (.pointer (some ⟨d18_4g, d18_4o, none⟩)) ∧ EL encF_f32 q5_0v (m4.1).length 1 d18_4g d18_4o }, { V := fun _ v _ => ∃ d18_4r0 : Nat, v = (.float .f32 d18_4r0) ∧ cn .f32 d18_4r0 = m22 }, { V := fun _ v _ => v = q5_0v }, { V := fun _ v _ => ∃ d18_7g : Nat, ∃ d18_7o : Nat, v = (.pointer (some ⟨d18_7g, d18_7o, none⟩)) ∧ EL encF_f32 q5_0v (m4.1).length 2 d18_7g d18_7o }, { V := fun _ v _ => ∃ d18_7r0 : Nat, v = (.float .f32 d18_7r0) ∧ cn .f32 d18_7r0 = m23 }, { V := fun _ v _ => ∃ d18_1r0 : Nat, ∃ d18_4r0 : Nat, ∃ d18_7r0 : Nat, v = (.agg #[.float .f32 d18_1r0, .float .f32 d18_4r0, .float .f32 d18_7r0]) ∧ cn .f32 d18_1r0 = m21 ∧ cn .f32 d18_4r0 = m22 ∧ cn .f32 d18_7r0 = m23 }, { V := fun _ v _ => ∃ d18_10_0r0 : Nat, ∃ d18_10_0r1 : Nat, ∃ d18_10_0r2 : Nat, v = (.tuple #[.agg #[.float .f32 d18_10_0r0, .float .f32 d18_10_0r1, .float .f32 d18_10_0r2], .bool m24.2]) ∧ cn .f32 d18_10_0r0 = m24.1.turn ∧ cn .f32 d18_10_0r1 = m24.1.speed ∧ cn .f32 d18_10_0r2 = m24.1.time }, { V := fun _ v _ => ∃ d18_10_0r0 : Nat, ∃ d18_10_0r1 : Nat, ∃ d18_10_0r2 : Nat, v = (.agg #[.float .f32 d18_10_0r0, .float .f32 d18_10_0r1, .float .f32 d18_10_0r2]) ∧ cn .f32 d18_10_0r0 = m24.1.turn ∧ cn .f32 d18_10_0r1 = m24.1.speed ∧ cn .f32 d18_10_0r2 = m24.1.time }, { V := fun _ v _ => v = (.bool m24.2) }, ⟨fun _ _ w' => ∃ d18_10_0r0 : Nat, ∃ d18_10_0r1 : Nat, ∃ d18_10_0r2 : Nat, w'.heap[w.heap.size]? = some (.cells #[.float .f32 d18_10_0r0, .float .f32 d18_10_0r1, .float .f32 d18_10_0r2] 24 (0, 0)) ∧ cn .f32 d18_10_0r0 = m24.1.turn ∧ cn .f32 d18_10_0r1 = m24.1.speed ∧ cn .f32 d18_10_0r2 = m24.1.time, some 0, fun w' => w'.heap[w.heap.size]? = some (.cells #[.float .f32 0, .float .f32 0, .float .f32 0] 24 (0, 0))⟩, { V := fun _ v _ => v = (.bool m24.2) }] mixed (by kernel_rfl) ⟨trivial, trivial, trivial, trivial, trivial, trivial, trivial, trivial, trivial, trivial, trivial, trivial, trivial, B19, trivial, trivial⟩ ⟨?_, ?_, ?_, ?_, ?_, ?_, ?_, ?_, ?_, ?_, ?_, ?_, ?_, ?_, ?_, trivial⟩ ?_
      · skip
        refine ⟨fun _ _ _ _ _ _ h _ => h, fun _ _ h _ => h, fun σ' w' hA hE hD hP => ?_⟩
        have t4 : σ' 4 = q5_0v := (hA 4 rfl).trans s4_9
        have B0_25 : OS w' 22 encF_f32 q5_0v m4.1 := B20.frm hE (fun k hk => (not_oth1 ((rb sp7) k hk)))
        refine dg_op rfl (d_mv (v := q5_0v) t4 ?_)
        exact ⟨rfl, own_none (Ext.refl w')⟩
      · skip
        refine ⟨fun _ _ _ _ _ _ h _ => h, fun _ _ h _ => h, fun σ' w' hA hE hD hP => ?_⟩
        have t19 : σ' 19 = q5_0v := hD 0 rfl
        have B0_26 : OS w' 22 encF_f32 q5_0v m4.1 := B20.frm hE (fun k hk => (not_oth1 ((rb sp7) k hk)))
        refine dg_op rfl (d_indexE (e := encF_f32) (v := q5_0v) un53 size22 t19 rfl B0_26.rs hm21 fun g27 o27 l27 => ?_)
        exact ⟨⟨g27, o27, rfl, l27⟩, own_none (Ext.refl _)⟩
      · skip
        refine ⟨fun _ _ _ _ _ _ h _ => h, fun _ _ h _ => h, fun σ' w' hA hE hD hP => ?_⟩
        obtain ⟨d18_1g, d18_1o, t20, d18_1gE⟩ : ∃ d18_1g : Nat, ∃ d18_1o : Nat, σ' 20 = (.pointer (some ⟨d18_1g, d18_1o, none⟩)) ∧ EL encF_f32 q5_0v (m4.1).length 0 d18_1g d18_1o := hD 1 rfl
        have B0_28 : OS w' 22 encF_f32 q5_0v m4.1 := B20.frm hE (fun k hk => (not_oth1 ((rb sp7) k hk)))
        obtain ⟨d18_1c, d18_1T, d18_1f, d18_1vs, d18_1hg, d18_1P, d18_1hq⟩ := RS.el B0_28.rs d18_1gE hm21
        obtain ⟨d18_1r0, rfl, d18_1h0⟩ := dec_encF_f32 d18_1hq
        refine dg_op rfl (d_load (v := .float .f32 d18_1r0) t20 agg22 d18_1hg (sub_get (vs := #[.float .f32 d18_1r0]) d18_1P (i := 0) rfl) ?_)
        exact ⟨⟨d18_1r0, rfl, d18_1h0⟩, own_none (Ext.refl w')⟩
      · skip
        refine ⟨fun _ _ _ _ _ _ h _ => h, fun _ _ h _ => h, fun σ' w' hA hE hD hP => ?_⟩
        have t4 : σ' 4 = q5_0v := (hA 4 rfl).trans s4_9
        have B0_29 : OS w' 22 encF_f32 q5_0v m4.1 := B20.frm hE (fun k hk => (not_oth1 ((rb sp7) k hk)))
        refine dg_op rfl (d_mv (v := q5_0v) t4 ?_)
        exact ⟨rfl, own_none (Ext.refl w')⟩
      · skip
        refine ⟨fun _ _ _ _ _ _ h _ => h, fun _ _ h _ => h, fun σ' w' hA hE hD hP => ?_⟩
        have t22 : σ' 22 = q5_0v := hD 3 rfl
        have B0_30 : OS w' 22 encF_f32 q5_0v m4.1 := B20.frm hE (fun k hk => (not_oth1 ((rb sp7) k hk)))
        refine dg_op rfl (d_indexE (e := encF_f32) (v := q5_0v) un53 size22 t22 rfl B0_30.rs hm22 fun g31 o31 l31 => ?_)
        exact ⟨⟨g31, o31, rfl, l31⟩, own_none (Ext.refl _)⟩
      · skip
        refine ⟨fun _ _ _ _ _ _ h _ => h, fun _ _ h _ => h, fun σ' w' hA hE hD hP => ?_⟩
        obtain ⟨d18_4g, d18_4o, t23, d18_4gE⟩ : ∃ d18_4g : Nat, ∃ d18_4o : Nat, σ' 23 = (.pointer (some ⟨d18_4g, d18_4o, none⟩)) ∧ EL encF_f32 q5_0v (m4.1).length 1 d18_4g d18_4o := hD 4 rfl
        have B0_32 : OS w' 22 encF_f32 q5_0v m4.1 := B20.frm hE (fun k hk => (not_oth1 ((rb sp7) k hk)))
        obtain ⟨d18_4c, d18_4T, d18_4f, d18_4vs, d18_4hg, d18_4P, d18_4hq⟩ := RS.el B0_32.rs d18_4gE hm22
        obtain ⟨d18_4r0, rfl, d18_4h0⟩ := dec_encF_f32 d18_4hq
        refine dg_op rfl (d_load (v := .float .f32 d18_4r0) t23 agg22 d18_4hg (sub_get (vs := #[.float .f32 d18_4r0]) d18_4P (i := 0) rfl) ?_)
        exact ⟨⟨d18_4r0, rfl, d18_4h0⟩, own_none (Ext.refl w')⟩
      · skip
        refine ⟨fun _ _ _ _ _ _ h _ => h, fun _ _ h _ => h, fun σ' w' hA hE hD hP => ?_⟩
        have t4 : σ' 4 = q5_0v := (hA 4 rfl).trans s4_9
        have B0_33 : OS w' 22 encF_f32 q5_0v m4.1 := B20.frm hE (fun k hk => (not_oth1 ((rb sp7) k hk)))
        refine dg_op rfl (d_mv (v := q5_0v) t4 ?_)
        exact ⟨rfl, own_none (Ext.refl w')⟩
      · skip
        refine ⟨fun _ _ _ _ _ _ h _ => h, fun _ _ h _ => h, fun σ' w' hA hE hD hP => ?_⟩
        have t25 : σ' 25 = q5_0v := hD 6 rfl
        have B0_34 : OS w' 22 encF_f32 q5_0v m4.1 := B20.frm hE (fun k hk => (not_oth1 ((rb sp7) k hk)))
        refine dg_op rfl (d_indexE (e := encF_f32) (v := q5_0v) un53 size22 t25 rfl B0_34.rs hm23 fun g35 o35 l35 => ?_)
        exact ⟨⟨g35, o35, rfl, l35⟩, own_none (Ext.refl _)⟩
      · skip
        refine ⟨fun _ _ _ _ _ _ h _ => h, fun _ _ h _ => h, fun σ' w' hA hE hD hP => ?_⟩
        obtain ⟨d18_7g, d18_7o, t26, d18_7gE⟩ : ∃ d18_7g : Nat, ∃ d18_7o : Nat, σ' 26 = (.pointer (some ⟨d18_7g, d18_7o, none⟩)) ∧ EL encF_f32 q5_0v (m4.1).length 2 d18_7g d18_7o := hD 7 rfl
        have B0_36 : OS w' 22 encF_f32 q5_0v m4.1 := B20.frm hE (fun k hk => (not_oth1 ((rb sp7) k hk)))
        obtain ⟨d18_7c, d18_7T, d18_7f, d18_7vs, d18_7hg, d18_7P, d18_7hq⟩ := RS.el B0_36.rs d18_7gE hm23
        obtain ⟨d18_7r0, rfl, d18_7h0⟩ := dec_encF_f32 d18_7hq
        refine dg_op rfl (d_load (v := .float .f32 d18_7r0) t26 agg22 d18_7hg (sub_get (vs := #[.float .f32 d18_7r0]) d18_7P (i := 0) rfl) ?_)
        exact ⟨⟨d18_7r0, rfl, d18_7h0⟩, own_none (Ext.refl w')⟩
      · skip
        refine ⟨fun _ _ _ _ _ _ h _ => h, fun _ _ h _ => h, fun σ' w' hA hE hD hP => ?_⟩
        obtain ⟨d18_1r0, t21, d18_1h0⟩ : ∃ d18_1r0 : Nat, σ' 21 = (.float .f32 d18_1r0) ∧ cn .f32 d18_1r0 = m21 := hD 2 rfl
        obtain ⟨d18_4r0, t24, d18_4h0⟩ : ∃ d18_4r0 : Nat, σ' 24 = (.float .f32 d18_4r0) ∧ cn .f32 d18_4r0 = m22 := hD 5 rfl
        obtain ⟨d18_7r0, t27, d18_7h0⟩ : ∃ d18_7r0 : Nat, σ' 27 = (.float .f32 d18_7r0) ∧ cn .f32 d18_7r0 = m23 := hD 8 rfl
        refine dg_op rfl (d_bd (vs := [(0, .float .f32 d18_1r0), (1, .float .f32 d18_4r0), (2, .float .f32 d18_7r0)]) (cs := #[.float .f32 d18_1r0, .float .f32 d18_4r0, .float .f32 d18_7r0]) (pc t21 (pc t24 (pc t27 rfl))) (by kernel_rfl) ?_)
        exact ⟨⟨d18_1r0, d18_4r0, d18_7r0, rfl, d18_1h0, d18_4h0, d18_7h0⟩, own_none (Ext.refl w')⟩
      · skip
        refine ⟨fun _ _ _ _ _ _ h _ => h, fun _ _ h _ => h, fun σ' w' hA hE hD hP => ?_⟩
        obtain ⟨d18_1r0, d18_4r0, d18_7r0, t28, d18_1h0, d18_4h0, d18_7h0⟩ : ∃ d18_1r0 : Nat, ∃ d18_4r0 : Nat, ∃ d18_7r0 : Nat, σ' 28 = (.agg #[.float .f32 d18_1r0, .float .f32 d18_4r0, .float .f32 d18_7r0]) ∧ cn .f32 d18_1r0 = m21 ∧ cn .f32 d18_4r0 = m22 ∧ cn .f32 d18_7r0 = m23 := hD 9 rfl
        refine dg_op rfl (d_cl (vs := [.agg #[.float .f32 d18_1r0, .float .f32 d18_4r0, .float .f32 d18_7r0]]) en106 (ac t28 rfl) rfl ?_)
        refine (c106 (⟨m21, m22, m23⟩ : SSwing) d18_1r0 d18_4r0 d18_7r0 m24 w' hm24 d18_1h0 d18_4h0 d18_7h0).mono ?_
        rintro _ w37 ⟨q37_0r0, q37_0r1, q37_0r2, rfl, q37_0h0, q37_0h1, q37_0h2, E37⟩
        refine ⟨_, rfl, ?_⟩
        have X38 : Ext w' w37 := (Ext.refl w').trans E37
        exact ⟨⟨q37_0r0, q37_0r1, q37_0r2, rfl, q37_0h0, q37_0h1, q37_0h2⟩, own_none X38⟩
      · skip
        refine ⟨fun _ _ _ _ _ _ h _ => h, fun _ _ h _ => h, fun σ' w' hA hE hD hP => ?_⟩
        obtain ⟨d18_10_0r0, d18_10_0r1, d18_10_0r2, t29, d18_10_0h0, d18_10_0h1, d18_10_0h2⟩ : ∃ d18_10_0r0 : Nat, ∃ d18_10_0r1 : Nat, ∃ d18_10_0r2 : Nat, σ' 29 = (.tuple #[.agg #[.float .f32 d18_10_0r0, .float .f32 d18_10_0r1, .float .f32 d18_10_0r2], .bool m24.2]) ∧ cn .f32 d18_10_0r0 = m24.1.turn ∧ cn .f32 d18_10_0r1 = m24.1.speed ∧ cn .f32 d18_10_0r2 = m24.1.time := hD 10 rfl
        refine dg_op rfl (d_extract (v := .agg #[.float .f32 d18_10_0r0, .float .f32 d18_10_0r1, .float .f32 d18_10_0r2]) t29 rfl ?_)
        exact ⟨⟨d18_10_0r0, d18_10_0r1, d18_10_0r2, rfl, d18_10_0h0, d18_10_0h1, d18_10_0h2⟩, own_none (Ext.refl w')⟩
      · skip
        refine ⟨fun _ _ _ _ _ _ h _ => h, fun _ _ h _ => h, fun σ' w' hA hE hD hP => ?_⟩
        obtain ⟨d18_10_0r0, d18_10_0r1, d18_10_0r2, t29, d18_10_0h0, d18_10_0h1, d18_10_0h2⟩ : ∃ d18_10_0r0 : Nat, ∃ d18_10_0r1 : Nat, ∃ d18_10_0r2 : Nat, σ' 29 = (.tuple #[.agg #[.float .f32 d18_10_0r0, .float .f32 d18_10_0r1, .float .f32 d18_10_0r2], .bool m24.2]) ∧ cn .f32 d18_10_0r0 = m24.1.turn ∧ cn .f32 d18_10_0r1 = m24.1.speed ∧ cn .f32 d18_10_0r2 = m24.1.time := hD 10 rfl
        refine dg_op rfl (d_extract (v := .bool m24.2) t29 rfl ?_)
        exact ⟨rfl, own_none (Ext.refl w')⟩
      · skip
        refine ⟨fun _ _ _ w' w'' _ ⟨d18_10_0r0, d18_10_0r1, d18_10_0r2, hB, d18_10_0h0, d18_10_0h1, d18_10_0h2⟩ hF => ⟨d18_10_0r0, d18_10_0r1, d18_10_0r2, hF.heap not_oth1s hB, d18_10_0h0, d18_10_0h1, d18_10_0h2⟩, fun _ _ h hF => hF.heap not_oth1s h, fun σ' w' hA hE hD hP => ?_⟩
        have t2 : σ' 2 = .pointer (some ⟨w.heap.size, 0, none⟩) := (hA 2 rfl).trans s2_9
        obtain ⟨d18_10_0r0, d18_10_0r1, d18_10_0r2, t30, d18_10_0h0, d18_10_0h1, d18_10_0h2⟩ : ∃ d18_10_0r0 : Nat, ∃ d18_10_0r1 : Nat, ∃ d18_10_0r2 : Nat, σ' 30 = (.agg #[.float .f32 d18_10_0r0, .float .f32 d18_10_0r1, .float .f32 d18_10_0r2]) ∧ cn .f32 d18_10_0r0 = m24.1.turn ∧ cn .f32 d18_10_0r1 = m24.1.speed ∧ cn .f32 d18_10_0r2 = m24.1.time := hD 11 rfl
        have B0_39 : w'.heap[w.heap.size]? = some (.cells #[.float .f32 0, .float .f32 0, .float .f32 0] 24 (0, 0)) := (hP 13 _ _ rfl rfl (.inl rfl)).1
        refine dg_op rfl (d_store (vs := #[.float .f32 d18_10_0r0, .float .f32 d18_10_0r1, .float .f32 d18_10_0r2]) t2 (congrArg Value.cells t30) B0_39 size24 (Nat.le_of_ble_eq_true rfl) rfl fun w40 S40 => ?_)
        have B41 : w40.heap[w.heap.size]? = some (.cells #[.float .f32 d18_10_0r0, .float .f32 d18_10_0r1, .float .f32 d18_10_0r2] 24 (0, 0)) := S40.here
        exact ⟨⟨d18_10_0r0, d18_10_0r1, d18_10_0r2, B41, d18_10_0h0, d18_10_0h1, d18_10_0h2⟩, own_some (j := 0) rfl S40.frmb⟩
      · skip
        refine ⟨fun _ _ _ _ _ _ h _ => h, fun _ _ h _ => h, fun σ' w' hA hE hD hP => ?_⟩
        have t31 : σ' 31 = (.bool m24.2) := hD 12 rfl
        refine dg_op rfl (d_as (v := .bool m24.2) t31 ?_)
        exact ⟨rfl, own_none (Ext.refl w')⟩
      · skip
        intro σ18 w18 A18 E18 V18
        have s3_18 : σ18 3 = (.bool m24.2) := V18 14 (Nat.le_of_ble_eq_true rfl)
        obtain ⟨z18_m0_10_0r0, z18_m0_10_0r1, z18_m0_10_0r2, Bm0_18, z18_m0_10_0h0, z18_m0_10_0h1, z18_m0_10_0h2⟩ : ∃ z18_m0_10_0r0 : Nat, ∃ z18_m0_10_0r1 : Nat, ∃ z18_m0_10_0r2 : Nat, w18.heap[w.heap.size]? = some (.cells #[.float .f32 z18_m0_10_0r0, .float .f32 z18_m0_10_0r1, .float .f32 z18_m0_10_0r2] 24 (0, 0)) ∧ cn .f32 z18_m0_10_0r0 = m24.1.turn ∧ cn .f32 z18_m0_10_0r1 = m24.1.speed ∧ cn .f32 z18_m0_10_0r2 = m24.1.time := V18 13 (Nat.le_of_ble_eq_true rfl)
        have s2_18 : σ18 2 = .pointer (some ⟨w.heap.size, 0, none⟩) := (A18 2 rfl).trans s2_9
        have X42 : Ext w w18 := Ext.step X12 E18 (oth_own1 (fun k _ hk => hk ▸ own2))
        refine W_ret ?_
        obtain rfl := Option.some.inj hr
        refine ⟨_, res2 (rv_cells (vs := #[.float .f32 z18_m0_10_0r0, .float .f32 z18_m0_10_0r1, .float .f32 z18_m0_10_0r2]) s2_18 agg24 size24 Bm0_18 rfl) (rv_tmp s3_18), ?_⟩
        exact ⟨z18_m0_10_0r0, z18_m0_10_0r1, z18_m0_10_0r2, rfl, z18_m0_10_0h0, z18_m0_10_0h1, z18_m0_10_0h2, X42⟩
set_option maxHeartbeats 4000000 in
theorem c11 (p0 : List UInt8) (r : SSwing × Bool) (w : World) (hr : M.spec_ReadSwing p0 = some r)  :
    Calls Tryd.prog 11 #[.string (bs p0)] w fun e w' => ∃ q0r0 : Nat, ∃ q0r1 : Nat, ∃ q0r2 : Nat, e = .returned (.tuple #[.agg #[.float .f32 q0r0, .float .f32 q0r1, .float .f32 q0r2], .bool r.2]) ∧ cn .f32 q0r0 = r.1.turn ∧ cn .f32 q0r1 = r.1.speed ∧ cn .f32 q0r2 = r.1.time ∧ Ext w w' := by
  refine calls_of_W Tryd.func11 rfl (Nat.le_of_ble_eq_true rfl) ?_
  refine W_seq ?_
  refine W_region rfl ?_
  refine da_op rfl (d_alloc (cs := #[.float .f32 0, .float .f32 0, .float .f32 0]) zero24 rfl fun w1 B1 E1 => ?_)
  have own2 : w.heap.size ≤ w.heap.size := Nat.le_trans (Ext.refl w).size (Nat.le_refl _)
  have X3 : Ext w w1 := (Ext.refl w).trans E1
  refine da_op rfl (d_as (v := .bool false) rfl ?_)
  refine da_nil ?_
  refine W_seq ?_
  refine W_region rfl ?_
  refine da_op rfl (d_mv (v := .string (bs p0)) rfl ?_)
  obtain ⟨m4, hm4, hr⟩ := bind_out hr
  refine da_op rfl (d_cl (vs := [.string (bs p0)]) en48 (ac rfl rfl) rfl ?_)
  refine (c48 p0 m4 w1 hm4 ).mono ?_
  rintro _ w5 ⟨q5_0r0, q5_0r1, q5_0r2, rfl, q5_0h0, q5_0h1, q5_0h2, E5⟩
  refine ⟨_, rfl, ?_⟩
  have X6 : Ext w w5 := X3.trans E5
  refine da_op rfl (d_extract (v := .agg #[.float .f32 q5_0r0, .float .f32 q5_0r1, .float .f32 q5_0r2]) rfl rfl ?_)
  refine da_op rfl (d_extract (v := .bool m4.2) rfl rfl ?_)
  have B7 : w5.heap[w.heap.size]? = some (.cells #[.float .f32 0, .float .f32 0, .float .f32 0] 24 (0, 0)) := E5.heap B1
  refine da_op rfl (d_store (vs := #[.float .f32 q5_0r0, .float .f32 q5_0r1, .float .f32 q5_0r2]) rfl rfl B7 size24 (Nat.le_of_ble_eq_true rfl) rfl fun w8 S8 => ?_)
  have X9 : Ext w w8 := Ext.step X6 S8.frmb (fun k _ hk => hk ▸ own2)
  have B10 : w8.heap[w.heap.size]? = some (.cells #[.float .f32 q5_0r0, .float .f32 q5_0r1, .float .f32 q5_0r2] 24 (0, 0)) := S8.here
  refine da_op rfl (d_as (v := .bool m4.2) rfl ?_)
  refine da_nil ?_
  refine W_ret ?_
  obtain rfl := Option.some.inj hr
  refine ⟨_, res2 (rv_cells (vs := #[.float .f32 q5_0r0, .float .f32 q5_0r1, .float .f32 q5_0r2]) rfl agg24 size24 B10 rfl) (rv_tmp rfl), ?_⟩
  exact ⟨q5_0r0, q5_0r1, q5_0r2, rfl, q5_0h0, q5_0h1, q5_0h2, X9⟩
set_option maxHeartbeats 4000000 in
theorem c171_s2c (p0 : List UInt8) (r : Int) (w : World) (hr : M.strings_Count_s2c p0 = some r)  :
    Calls Tryd.prog 171 #[.string (bs p0), .string (bs ([44] : List UInt8))] w fun e w' => e = .returned (.int .i64 r) ∧ Ext w w' := by
  refine calls_of_W Tryd.func171 rfl (Nat.le_of_ble_eq_true rfl) ?_
  refine W_seq ?_
  refine W_region rfl ?_
  refine da_op rfl (d_as (v := .int .i64 0) rfl ?_)
  refine da_nil ?_
  refine W_seq ?_
  refine W_seq ?_
  refine W_region rfl ?_
  refine da_op rfl (d_mv (v := .string (bs ([44] : List UInt8))) rfl ?_)
  refine da_op rfl (d_slenL (n := 1) un9 rfl rfl ?_)
  refine da_op rfl (d_icmpL (b := false) cEql rfl rfl (by decide) ?_)
  refine da_nil ?_
  refine W_false rfl ?_
  refine W_skip ?_
  refine W_seq ?_
  refine W_seq ?_
  refine W_region rfl ?_
  refine da_op rfl (d_mv (v := .string (bs ([44] : List UInt8))) rfl ?_)
  refine da_op rfl (d_slenL (n := 1) un9 rfl rfl ?_)
  refine da_op rfl (d_icmpL (b := true) cEql rfl rfl (by decide) ?_)
  refine da_nil ?_
  refine W_true rfl ?_
  refine W_seq ?_
  refine W_region rfl ?_
  refine da_op rfl (d_mv (v := .string (bs p0)) rfl ?_)
  refine da_op rfl (d_mv (v := .string (bs ([44] : List UInt8))) rfl ?_)
  obtain ⟨m1, hm1, hr⟩ := bind_out hr
  refine da_op rfl (d_sidx un9 rfl rfl hm1 ?_)
  refine da_op rfl (d_scount ext198_0 ext198_1 ext198_2 (Option.isNone_iff_eq_none.1 ext198_3) ext198_4 rfl rfl rfl ?_)
  refine da_op rfl (d_as (v := .int .i64 (scount p0 m1)) rfl ?_)
  refine da_nil ?_
  refine W_ret ?_
  obtain rfl := Option.some.inj hr
  refine ⟨_, res1 (rv_tmp rfl), ?_⟩
  exact ⟨rfl, (Ext.refl w)⟩
set_option maxHeartbeats 4000000 in
theorem c117 (p0 : List UInt8) (p1 : Int) (r : Int) (w : World) (hr : M.internal_stringslite_IndexByte p0 p1 = r)  :
    Calls Tryd.prog 117 #[.string (bs p0), .int .u8 p1] w fun e w' => e = .returned (.int .i64 r) ∧ Ext w w' := by
  refine calls_of_W Tryd.func117 rfl (Nat.le_of_ble_eq_true rfl) ?_
  refine W_seq ?_
  refine W_region rfl ?_
  refine da_op rfl (d_as (v := .int .i64 0) rfl ?_)
  refine da_nil ?_
  refine W_seq ?_
  refine W_region rfl ?_
  refine da_op rfl (d_mv (v := .string (bs p0)) rfl ?_)
  refine da_op rfl (d_mv (v := .int .u8 p1) rfl ?_)
  refine da_op rfl (d_sfind ext168_0 ext168_1 ext168_2 (Option.isNone_iff_eq_none.1 ext168_3) ext168_4 rfl rfl rfl ?_)
  refine da_op rfl (d_as (v := .int .i64 (sfind p0 p1)) rfl ?_)
  refine da_nil ?_
  refine W_ret ?_
  subst hr
  refine ⟨_, res1 (rv_tmp rfl), ?_⟩
  exact ⟨rfl, (Ext.refl w)⟩
set_option maxHeartbeats 4000000 in
theorem c165_s2c (p0 : List UInt8) (r : Int) (w : World) (hr : M.internal_stringslite_Index_s2c p0 = some r)  :
    Calls Tryd.prog 165 #[.string (bs p0), .string (bs ([44] : List UInt8))] w fun e w' => e = .returned (.int .i64 r) ∧ Ext w w' := by
  refine calls_of_W Tryd.func165 rfl (Nat.le_of_ble_eq_true rfl) ?_
  refine W_seq ?_
  refine W_region rfl ?_
  refine da_op rfl (d_as (v := .int .i64 0) rfl ?_)
  refine da_nil ?_
  refine W_seq ?_
  refine W_region rfl ?_
  refine da_op rfl (d_mv (v := .string (bs ([44] : List UInt8))) rfl ?_)
  refine da_op rfl (d_slenL (n := 1) un9 rfl rfl ?_)
  refine da_op rfl (d_as (v := .int .i64 1) rfl ?_)
  refine da_nil ?_
  refine W_seq ?_
  refine W_block ?_
  refine W_seq ?_
  refine W_cut (fun σ' w' => σ' 16 = .bool (([44] : List UInt8) == p0) ∧ Ext w w') rfl ?_ ?_
  · skip
    clear hr
    refine da_op rfl (d_mv (v := .int .i64 1) rfl ?_)
    refine da_op rfl (d_icmpL (b := false) cEql rfl rfl (by decide) ?_)
    refine da_op rfl (d_mv (v := .bool false) rfl ?_)
    refine da_on rfl rfl (d_mv (v := .string (bs ([44] : List UInt8))) rfl ?_)
    refine da_on rfl rfl (d_mv (v := .string (bs p0)) rfl ?_)
    refine da_on rfl rfl (d_seq rfl rfl ?_)
    refine da_op rfl (d_pick (b := false) rfl ?_)
    refine da_op rfl (d_as (v := .bool (([44] : List UInt8) == p0)) rfl ?_)
    refine da_nil ?_
    exact ⟨rfl, (Ext.refl w)⟩
  · skip
    rintro σ1 w1 o1 ⟨s16_1, E1⟩
    have s0_1 : σ1 0 = .string (bs p0) := (o1 0 rfl).trans rfl
    have s1_1 : σ1 1 = .string (bs ([44] : List UInt8)) := (o1 1 rfl).trans rfl
    have s5_1 : σ1 5 = .int .i64 1 := (o1 5 rfl).trans rfl
    have X2 : Ext w w1 := (Ext.refl w).trans E1
    refine W_cond (b := (([44] : List UInt8) == p0)) s16_1 (fun hc3 => ?_) (fun hc3 => ?_)
    · skip
      replace hr := bif_t hr hc3
      refine W_seq ?_
      refine W_region rfl ?_
      refine da_op rfl (d_as (v := .int .i64 0) rfl ?_)
      refine da_nil ?_
      refine W_ret ?_
      obtain rfl := Option.some.inj hr
      refine ⟨_, res1 (rv_tmp rfl), ?_⟩
      exact ⟨rfl, X2⟩
    · skip
      replace hr := bif_f hr hc3
      refine W_seq ?_
      refine W_region rfl ?_
      refine da_op rfl (d_mv (v := .int .i64 1) s5_1 ?_)
      refine da_op rfl (d_icmpL (b := true) cEql rfl rfl (by decide) ?_)
      refine da_op rfl (d_as (v := .bool true) rfl ?_)
      refine da_nil ?_
      refine W_true rfl ?_
      refine W_seq ?_
      refine W_region rfl ?_
      refine da_op rfl (d_mv (v := .string (bs p0)) s0_1 ?_)
      refine da_op rfl (d_mv (v := .string (bs ([44] : List UInt8))) s1_1 ?_)
      obtain ⟨m4, hm4, hr⟩ := bind_out hr
      refine da_op rfl (d_sidx un9 rfl rfl hm4 ?_)
      obtain ⟨m5, hm5, hr⟩ := letv_out hr
      refine da_op rfl (d_cl (vs := [.string (bs p0), .int .u8 m4]) en117 (ac rfl (ac rfl rfl)) rfl ?_)
      refine (c117 p0 m4 m5 w1 hm5 ).mono ?_
      rintro _ w6 ⟨rfl, E6⟩
      refine ⟨_, rfl, ?_⟩
      have X7 : Ext w w6 := X2.trans E6
      refine da_op rfl (d_as (v := .int .i64 m5) rfl ?_)
      refine da_nil ?_
      refine W_ret ?_
      obtain rfl := Option.some.inj hr
      refine ⟨_, res1 (rv_tmp rfl), ?_⟩
      exact ⟨rfl, X7⟩
set_option maxHeartbeats 4000000 in
theorem c113_s2c (p0 : List UInt8) (r : Int) (w : World) (hr : M.strings_Index_s2c p0 = some r)  :
    Calls Tryd.prog 113 #[.string (bs p0), .string (bs ([44] : List UInt8))] w fun e w' => e = .returned (.int .i64 r) ∧ Ext w w' := by
  refine calls_of_W Tryd.func113 rfl (Nat.le_of_ble_eq_true rfl) ?_
  refine W_seq ?_
  refine W_region rfl ?_
  refine da_op rfl (d_as (v := .int .i64 0) rfl ?_)
  refine da_nil ?_
  refine W_seq ?_
  refine W_region rfl ?_
  refine da_op rfl (d_mv (v := .string (bs p0)) rfl ?_)
  refine da_op rfl (d_mv (v := .string (bs ([44] : List UInt8))) rfl ?_)
  obtain ⟨m1, hm1, hr⟩ := bind_out hr
  refine da_op rfl (d_cl (vs := [.string (bs p0), .string (bs ([44] : List UInt8))]) en165 (ac rfl (ac rfl rfl)) rfl ?_)
  refine (c165_s2c p0 m1 w hm1 ).mono ?_
  rintro _ w2 ⟨rfl, E2⟩
  refine ⟨_, rfl, ?_⟩
  have X3 : Ext w w2 := (Ext.refl w).trans E2
  refine da_op rfl (d_as (v := .int .i64 m1) rfl ?_)
  refine da_nil ?_
  refine W_ret ?_
  obtain rfl := Option.some.inj hr
  refine ⟨_, res1 (rv_tmp rfl), ?_⟩
  exact ⟨rfl, X3⟩
set_option maxHeartbeats 4000000 in
theorem c122_s2c_i64n0_i64m1 (p0 : List UInt8) (r : List (List UInt8)) (w : World) (hr : M.strings_genSplit_s2c_i64n0_i64m1 p0 = some r)  :
    Calls Tryd.prog 122 #[.string (bs p0), .string (bs ([44] : List UInt8)), .int .i64 0, .int .i64 (-1)] w fun e w' => ∃ q0v : Value, e = .returned (q0v) ∧ RS w' encS q0v r ∧ (∀ k, q0v.ownBlock = some k → w.heap.size ≤ k) ∧ Ext w w' := by
  refine calls_of_W Tryd.func122 rfl (Nat.le_of_ble_eq_true rfl) ?_
  refine W_seq ?_
  refine W_region rfl ?_
  refine da_op rfl (d_as (v := .slice none 0 0) rfl ?_)
  refine da_nil ?_
  refine W_seq ?_
  refine W_seq ?_
  refine W_region rfl ?_
  refine da_op rfl (d_mv (v := .int .i64 (-1)) rfl ?_)
  refine da_op rfl (d_icmpL (b := false) cEql rfl rfl (by decide) ?_)
  refine da_nil ?_
  refine W_false rfl ?_
  refine W_skip ?_
  refine W_seq ?_
  refine W_seq ?_
  refine W_region rfl ?_
  refine da_op rfl (d_mv (v := .string (bs ([44] : List UInt8))) rfl ?_)
  refine da_op rfl (d_seqL (b := false) rfl rfl (by decide) ?_)
  refine da_nil ?_
  refine W_false rfl ?_
  refine W_skip ?_
  refine W_seq ?_
  refine W_seq ?_
  refine W_region rfl ?_
  refine da_op rfl (d_mv (v := .int .i64 (-1)) rfl ?_)
  refine da_op rfl (d_icmpL (b := true) cLss rfl rfl (by decide) ?_)
  refine da_nil ?_
  refine W_true rfl ?_
  refine W_region rfl ?_
  refine da_op rfl (d_mv (v := .string (bs p0)) rfl ?_)
  refine da_op rfl (d_mv (v := .string (bs ([44] : List UInt8))) rfl ?_)
  obtain ⟨m1, hm1, hr⟩ := bind_out hr
  refine da_op rfl (d_cl (vs := [.string (bs p0), .string (bs ([44] : List UInt8))]) en171 (ac rfl (ac rfl rfl)) rfl ?_)
  refine (c171_s2c p0 m1 w hm1 ).mono ?_
  rintro _ w2 ⟨rfl, E2⟩
  refine ⟨_, rfl, ?_⟩
  have X3 : Ext w w2 := (Ext.refl w).trans E2
  refine da_op rfl (d_iarith rfl rfl (.inl ⟨rfl, rfl⟩) ?_)
  refine da_op rfl (d_as (v := .int .i64 (IntKind.i64.wrap (m1 + 1))) rfl ?_)
  refine da_nil ?_
  refine W_seq ?_
  refine W_region rfl ?_
  refine da_op rfl (d_mv (v := .int .i64 (IntKind.i64.wrap (m1 + 1))) rfl ?_)
  refine da_op rfl (d_mv (v := .string (bs p0)) rfl ?_)
  refine da_op rfl (d_slen un9 rfl ?_)
  refine da_op rfl (d_iarith rfl rfl (.inl ⟨rfl, rfl⟩) ?_)
  refine da_op rfl (d_min rfl rfl ?_)
  refine da_op rfl (d_as (v := .int .i64 (imin (IntKind.i64.wrap (m1 + 1)) (IntKind.i64.wrap (((p0).length : Int) + 1)))) rfl ?_)
  refine da_nil ?_
  refine W_seq ?_
  refine W_region rfl ?_
  refine da_op rfl (d_mv (v := .int .i64 (imin (IntKind.i64.wrap (m1 + 1)) (IntKind.i64.wrap (((p0).length : Int) + 1)))) rfl ?_)
  obtain ⟨m4, hm4, hr⟩ := bind_out hr
  refine da_op rfl (d_make (e := encS) un34 info9 rfl (by kernel_rfl) (by kernel_rfl) (by decide) (by decide) rfl rfl hm4 fun v5 w5 O5 E5 fr5 => ?_)
  have own5 : ∀ k, v5.ownBlock = some k → w.heap.size ≤ k := fun k hk => Nat.le_trans X3.size (fr5 k hk)
  have X6 : Ext w w5 := X3.trans E5
  refine da_op rfl (d_as (v := v5) rfl ?_)
  refine da_nil ?_
  refine W_seq ?_
  refine W_region rfl ?_
  refine da_op rfl (d_mv (v := .int .i64 (imin (IntKind.i64.wrap (m1 + 1)) (IntKind.i64.wrap (((p0).length : Int) + 1)))) rfl ?_)
  refine da_op rfl (d_iarith rfl rfl (.inr (.inl ⟨rfl, rfl⟩)) ?_)
  refine da_op rfl (d_as (v := .int .i64 (IntKind.i64.wrap ((imin (IntKind.i64.wrap (m1 + 1)) (IntKind.i64.wrap (((p0).length : Int) + 1))) - 1))) rfl ?_)
  refine da_nil ?_
  refine W_seq ?_
  refine W_region rfl ?_
  refine da_op rfl (d_as (v := .int .i64 0) rfl ?_)
  refine da_nil ?_
  refine W_seq ?_
  refine W_block ?_
  obtain ⟨m7, hm7, hr⟩ := bind_out hr
  refine W_loopM hm7 (fun (s7 : List UInt8 × Int × List (List UInt8)) σ w' => σ 0 = .string (bs s7.1) ∧ σ 10 = .int .i64 s7.2.1 ∧ σ 1 = .string (bs ([44] : List UInt8)) ∧ σ 2 = .int .i64 0 ∧ σ 3 = .int .i64 (IntKind.i64.wrap ((imin (IntKind.i64.wrap (m1 + 1)) (IntKind.i64.wrap (((p0).length : Int) + 1))) - 1)) ∧ σ 9 = v5 ∧ OS w' 9 encS v5 s7.2.2 ∧ Ext w w') (fun (e7 : (List UInt8 × Int × List (List UInt8))) ex σ w' => ex = .exit 0 ∧ σ 0 = .string (bs e7.1) ∧ σ 10 = .int .i64 e7.2.1 ∧ σ 9 = v5 ∧ OS w' 9 encS v5 e7.2.2 ∧ Ext w w') ⟨rfl, rfl, rfl, rfl, rfl, rfl, O5, X6⟩ ?_ ?_
  · skip
    rintro s7 σl7 wl7 r7l ⟨i7_S0, i7_S10, i7_S1, i7_S2, i7_S3, i7_S9, i7_2R, i7_X⟩ hr
    refine W_seq ?_
    refine W_seq ?_
    refine W_region rfl ?_
    refine da_op rfl (d_mv (v := .int .i64 s7.2.1) i7_S10 ?_)
    refine da_op rfl (d_mv (v := .int .i64 (IntKind.i64.wrap ((imin (IntKind.i64.wrap (m1 + 1)) (IntKind.i64.wrap (((p0).length : Int) + 1))) - 1))) i7_S3 ?_)
    refine da_op rfl (d_icmp cLss rfl rfl ?_)
    refine da_nil ?_
    refine W_cond (b := (icmp .lss s7.2.1 (IntKind.i64.wrap ((imin (IntKind.i64.wrap (m1 + 1)) (IntKind.i64.wrap (((p0).length : Int) + 1))) - 1)))) rfl (fun hc8 => ?_) (fun hc8 => ?_)
    · skip
      replace hr := bif_t hr hc8
      refine W_skip ?_
      refine W_block ?_
      refine W_seq ?_
      refine W_region rfl ?_
      refine da_op rfl (d_mv (v := .string (bs s7.1)) i7_S0 ?_)
      refine da_op rfl (d_mv (v := .string (bs ([44] : List UInt8))) i7_S1 ?_)
      obtain ⟨m9, hm9, hr⟩ := bind_out hr
      refine da_op rfl (d_cl (vs := [.string (bs s7.1), .string (bs ([44] : List UInt8))]) en113 (ac rfl (ac rfl rfl)) rfl ?_)
      refine (c113_s2c s7.1 m9 wl7 hm9 ).mono ?_
      rintro _ w10 ⟨rfl, E10⟩
      refine ⟨_, rfl, ?_⟩
      have X11 : Ext w w10 := i7_X.trans E10
      refine da_op rfl (d_as (v := .int .i64 m9) rfl ?_)
      refine da_nil ?_
      refine W_seq ?_
      refine W_seq ?_
      refine W_region rfl ?_
      refine da_op rfl (d_mv (v := .int .i64 m9) rfl ?_)
      refine da_op rfl (d_icmp cLss rfl rfl ?_)
      refine da_nil ?_
      refine W_cond (b := (icmp .lss m9 0)) rfl (fun hc12 => ?_) (fun hc12 => ?_)
      · skip
        replace hr := bif_t hr hc12
        refine W_exit ?_
        have B13 : OS w10 9 encS v5 s7.2.2 := i7_2R.ext E10
        obtain rfl := Option.some.inj hr
        exact ⟨_, rfl, rfl, i7_S0, i7_S10, i7_S9, B13, X11⟩
      · skip
        replace hr := bif_f hr hc12
        refine W_skip ?_
        refine W_seq ?_
        refine W_region rfl ?_
        refine da_op rfl (d_mv (v := v5) i7_S9 ?_)
        refine da_op rfl (d_mv (v := .int .i64 s7.2.1) i7_S10 ?_)
        refine da_op rfl (d_mv (v := .string (bs s7.1)) i7_S0 ?_)
        refine da_op rfl (d_mv (v := .int .i64 m9) rfl ?_)
        refine da_op rfl (d_mv (v := .int .i64 0) i7_S2 ?_)
        refine da_op rfl (d_iarith rfl rfl (.inl ⟨rfl, rfl⟩) ?_)
        obtain ⟨m14, hm14, hr⟩ := bind_out hr
        refine da_op rfl (d_ssub (a := 0) (b := (IntKind.i64.wrap (m9 + 0))) un9 rfl (.inl ⟨rfl, rfl⟩) (.inr ⟨_, _, rfl, rfl⟩) hm14 ?_)
        obtain ⟨m15, hm15, hr⟩ := bind_out hr
        have B17 : OS w10 9 encS v5 s7.2.2 := i7_2R.ext E10
        refine da_op rfl (d_indexO (e := encS) (v := v5) un34 size9 rfl rfl B17 hm15 fun g16 fr16 cu16 vs16 hv16 hg16 hp16 hq16 => ?_)
        obtain rfl := dec_encS hq16
        refine da_op rfl (d_store_elem (e := encS) (i := s7.2.1) (k := 0) (old := [.string (bs m15)]) (vs := #[.string (bs m14)]) (new := [.string (bs m14)]) (x2 := m14) rfl rfl hv16 B17 hg16 hp16 hm15 size9 (by kernel_rfl) (Nat.le_of_ble_eq_true rfl) rfl rfl (lc_v rfl rfl) rfl fun w18 S18 O19 => ?_)
        have X20 : Ext w w18 := Ext.step X11 S18.frmb (fun k _ hk => own5 k (by rw [hv16, hk]; rfl))
        refine da_nil ?_
        refine W_seq ?_
        refine W_region rfl ?_
        refine da_op rfl (d_mv (v := .string (bs s7.1)) i7_S0 ?_)
        refine da_op rfl (d_mv (v := .int .i64 m9) rfl ?_)
        refine da_op rfl (d_mv (v := .string (bs ([44] : List UInt8))) i7_S1 ?_)
        refine da_op rfl (d_slenL (n := 1) un9 rfl rfl ?_)
        refine da_op rfl (d_iarith rfl rfl (.inl ⟨rfl, rfl⟩) ?_)
        obtain ⟨m21, hm21, hr⟩ := bind_out hr
        refine da_op rfl (d_ssub (a := (IntKind.i64.wrap (m9 + 1))) (b := ((s7.1).length : Int)) un9 rfl (.inr ⟨_, _, rfl, rfl⟩) (.inl ⟨rfl, rfl⟩) hm21 ?_)
        refine da_op rfl (d_as (v := .string (bs m21)) rfl ?_)
        refine da_nil ?_
        refine W_region rfl ?_
        refine da_op rfl (d_mv (v := .int .i64 s7.2.1) i7_S10 ?_)
        refine da_op rfl (d_iarith rfl rfl (.inl ⟨rfl, rfl⟩) ?_)
        refine da_op rfl (d_as (v := .int .i64 (IntKind.i64.wrap (s7.2.1 + 1))) rfl ?_)
        refine da_nil ?_
        obtain rfl := Option.some.inj hr
        exact ⟨_, rfl, ⟨rfl, rfl, i7_S1, i7_S2, i7_S3, i7_S9, O19, X20⟩⟩
    · skip
      replace hr := bif_f hr hc8
      refine W_exit ?_
      obtain rfl := Option.some.inj hr
      exact ⟨_, rfl, rfl, i7_S0, i7_S10, i7_S9, i7_2R, i7_X⟩
  · skip
    intro ex σx7 wx7 hq
    obtain ⟨rfl, q7_0_S0, q7_0_S10, q7_0_S9, q7_0_2R, q7_0_X⟩ := hq
    refine W_seq ?_
    refine W_region rfl ?_
    refine da_op rfl (d_mv (v := v5) q7_0_S9 ?_)
    refine da_op rfl (d_mv (v := .int .i64 m7.2.1) q7_0_S10 ?_)
    refine da_op rfl (d_mv (v := .string (bs m7.1)) q7_0_S0 ?_)
    obtain ⟨m22, hm22, hr⟩ := bind_out hr
    refine da_op rfl (d_indexO (e := encS) (v := v5) un34 size9 rfl rfl q7_0_2R hm22 fun g23 fr23 cu23 vs23 hv23 hg23 hp23 hq23 => ?_)
    obtain rfl := dec_encS hq23
    refine da_op rfl (d_store_elem (e := encS) (i := m7.2.1) (k := 0) (old := [.string (bs m22)]) (vs := #[.string (bs m7.1)]) (new := [.string (bs m7.1)]) (x2 := m7.1) rfl rfl hv23 q7_0_2R hg23 hp23 hm22 size9 (by kernel_rfl) (Nat.le_of_ble_eq_true rfl) rfl rfl (lc_v rfl rfl) rfl fun w24 S24 O25 => ?_)
    have X26 : Ext w w24 := Ext.step q7_0_X S24.frmb (fun k _ hk => own5 k (by rw [hv23, hk]; rfl))
    refine da_nil ?_
    refine W_seq ?_
    refine W_region rfl ?_
    refine da_op rfl (d_mv (v := v5) q7_0_S9 ?_)
    refine da_op rfl (d_mv (v := .int .i64 m7.2.1) q7_0_S10 ?_)
    refine da_op rfl (d_iarith rfl rfl (.inl ⟨rfl, rfl⟩) ?_)
    obtain ⟨m27, hm27, hr⟩ := bind_out hr
    refine da_op rfl (d_lsub (e := encS) (v := v5) (a := 0) (b := (IntKind.i64.wrap (m7.2.1 + 1))) un34 size9 rfl O25.rs (.inl ⟨rfl, rfl⟩) (.inr ⟨_, _, rfl, rfl⟩) hm27 fun v28 R28 L28 => ?_)
    refine da_op rfl (d_as (v := v28) rfl ?_)
    refine da_nil ?_
    refine W_ret ?_
    obtain rfl := Option.some.inj hr
    refine ⟨_, res1 (rv_tmp rfl), ?_⟩
    exact ⟨v28, rfl, R28, (fun k hk => own5 k (L28 k hk)), X26⟩
set_option maxHeartbeats 4000000 in
theorem c66_s2c (p0 : List UInt8) (r : List (List UInt8)) (w : World) (hr : M.strings_Split_s2c p0 = some r)  :
    Calls Tryd.prog 66 #[.string (bs p0), .string (bs ([44] : List UInt8))] w fun e w' => ∃ q0v : Value, e = .returned (q0v) ∧ RS w' encS q0v r ∧ (∀ k, q0v.ownBlock = some k → w.heap.size ≤ k) ∧ Ext w w' := by
  refine calls_of_W Tryd.func66 rfl (Nat.le_of_ble_eq_true rfl) ?_
  refine W_seq ?_
  refine W_region rfl ?_
  refine da_op rfl (d_as (v := .slice none 0 0) rfl ?_)
  refine da_nil ?_
  refine W_seq ?_
  refine W_region rfl ?_
  refine da_op rfl (d_mv (v := .string (bs p0)) rfl ?_)
  refine da_op rfl (d_mv (v := .string (bs ([44] : List UInt8))) rfl ?_)
  obtain ⟨m1, hm1, hr⟩ := bind_out hr
  refine da_op rfl (d_cl (vs := [.string (bs p0), .string (bs ([44] : List UInt8)), .int .i64 0, .int .i64 (-1)]) en122 (ac rfl (ac rfl (ac rfl (ac rfl rfl)))) rfl ?_)
  refine (c122_s2c_i64n0_i64m1 p0 m1 w hm1 ).mono ?_
  rintro _ w2 ⟨q2_0v, rfl, q2_0R, q2_0F, E2⟩
  refine ⟨_, rfl, ?_⟩
  have own3 : ∀ k, q2_0v.ownBlock = some k → w.heap.size ≤ k := fun k hk => Nat.le_trans (Ext.refl w).size (q2_0F k hk)
  have X4 : Ext w w2 := (Ext.refl w).trans E2
  refine da_op rfl (d_as (v := q2_0v) rfl ?_)
  refine da_nil ?_
  refine W_ret ?_
  obtain rfl := Option.some.inj hr
  refine ⟨_, res1 (rv_tmp rfl), ?_⟩
  exact ⟨q2_0v, rfl, q2_0R, own3, X4⟩
set_option maxHeartbeats 4000000 in
theorem c100 (p0 : List UInt8) (r : List (List UInt8)) (w : World) (hr : M.impl_parted p0 = some r)  :
    Calls Tryd.prog 100 #[.string (bs p0)] w fun e w' => ∃ q0v : Value, e = .returned (q0v) ∧ RS w' encS q0v r ∧ (∀ k, q0v.ownBlock = some k → w.heap.size ≤ k) ∧ Ext w w' := by
  refine calls_of_W Tryd.func100 rfl (Nat.le_of_ble_eq_true rfl) ?_
  refine W_seq ?_
  refine W_region rfl ?_
  refine da_op rfl (d_as (v := .slice none 0 0) rfl ?_)
  refine da_nil ?_
  refine W_seq ?_
  refine W_seq ?_
  refine W_region rfl ?_
  refine da_op rfl (d_mv (v := .string (bs p0)) rfl ?_)
  refine da_op rfl (d_seq rfl rfl ?_)
  refine da_nil ?_
  refine W_cond (b := (p0 == ([110, 111, 110, 101] : List UInt8))) rfl (fun hc1 => ?_) (fun hc1 => ?_)
  · skip
    replace hr := bif_t hr hc1
    refine W_seq ?_
    refine W_region rfl ?_
    refine da_op rfl (d_as (v := .slice none 0 0) rfl ?_)
    refine da_nil ?_
    refine W_ret ?_
    obtain rfl := Option.some.inj hr
    refine ⟨_, res1 (rv_tmp rfl), ?_⟩
    exact ⟨(.slice none 0 0), rfl, (RS.nil _ encS), (fun k hk => by cases hk), (Ext.refl w)⟩
  · skip
    replace hr := bif_f hr hc1
    refine W_skip ?_
    refine W_seq ?_
    refine W_region rfl ?_
    refine da_op rfl (d_mv (v := .string (bs p0)) rfl ?_)
    obtain ⟨m2, hm2, hr⟩ := bind_out hr
    refine da_op rfl (d_cl (vs := [.string (bs p0), .string (bs ([44] : List UInt8))]) en66 (ac rfl (ac rfl rfl)) rfl ?_)
    refine (c66_s2c p0 m2 w hm2 ).mono ?_
    rintro _ w3 ⟨q3_0v, rfl, q3_0R, q3_0F, E3⟩
    refine ⟨_, rfl, ?_⟩
    have own4 : ∀ k, q3_0v.ownBlock = some k → w.heap.size ≤ k := fun k hk => Nat.le_trans (Ext.refl w).size (q3_0F k hk)
    have X5 : Ext w w3 := (Ext.refl w).trans E3
    refine da_op rfl (d_as (v := q3_0v) rfl ?_)
    refine da_nil ?_
    refine W_ret ?_
    obtain rfl := Option.some.inj hr
    refine ⟨_, res1 (rv_tmp rfl), ?_⟩
    exact ⟨q3_0v, rfl, q3_0R, own4, X5⟩
set_option maxHeartbeats 4000000 in
theorem c117_s30313233343536373839616263646566 (p1 : Int) (r : Int) (w : World) (hr : M.internal_stringslite_IndexByte_s30313233343536373839616263646566 p1 = r)  :
    Calls Tryd.prog 117 #[.string (bs ([48, 49, 50, 51, 52, 53, 54, 55, 56, 57, 97, 98, 99, 100, 101, 102] : List UInt8)), .int .u8 p1] w fun e w' => e = .returned (.int .i64 r) ∧ Ext w w' := by
  refine calls_of_W Tryd.func117 rfl (Nat.le_of_ble_eq_true rfl) ?_
  refine W_seq ?_
  refine W_region rfl ?_
  refine da_op rfl (d_as (v := .int .i64 0) rfl ?_)
  refine da_nil ?_
  refine W_seq ?_
  refine W_region rfl ?_
  refine da_op rfl (d_mv (v := .string (bs ([48, 49, 50, 51, 52, 53, 54, 55, 56, 57, 97, 98, 99, 100, 101, 102] : List UInt8))) rfl ?_)
  refine da_op rfl (d_mv (v := .int .u8 p1) rfl ?_)
  refine da_op rfl (d_sfind ext168_0 ext168_1 ext168_2 (Option.isNone_iff_eq_none.1 ext168_3) ext168_4 rfl rfl rfl ?_)
  refine da_op rfl (d_as (v := .int .i64 (sfind ([48, 49, 50, 51, 52, 53, 54, 55, 56, 57, 97, 98, 99, 100, 101, 102] : List UInt8) p1)) rfl ?_)
  refine da_nil ?_
  refine W_ret ?_
  subst hr
  refine ⟨_, res1 (rv_tmp rfl), ?_⟩
  exact ⟨rfl, (Ext.refl w)⟩
set_option maxHeartbeats 4000000 in
theorem c62_s30313233343536373839616263646566 (p1 : Int) (r : Int) (w : World) (hr : M.strings_IndexByte_s30313233343536373839616263646566 p1 = r)  :
    Calls Tryd.prog 62 #[.string (bs ([48, 49, 50, 51, 52, 53, 54, 55, 56, 57, 97, 98, 99, 100, 101, 102] : List UInt8)), .int .u8 p1] w fun e w' => e = .returned (.int .i64 r) ∧ Ext w w' := by
  refine calls_of_W Tryd.func62 rfl (Nat.le_of_ble_eq_true rfl) ?_
  refine W_seq ?_
  refine W_region rfl ?_
  refine da_op rfl (d_as (v := .int .i64 0) rfl ?_)
  refine da_nil ?_
  refine W_seq ?_
  refine W_region rfl ?_
  refine da_op rfl (d_mv (v := .string (bs ([48, 49, 50, 51, 52, 53, 54, 55, 56, 57, 97, 98, 99, 100, 101, 102] : List UInt8))) rfl ?_)
  refine da_op rfl (d_mv (v := .int .u8 p1) rfl ?_)
  obtain ⟨m1, hm1, hr⟩ := letv_out hr
  refine da_op rfl (d_cl (vs := [.string (bs ([48, 49, 50, 51, 52, 53, 54, 55, 56, 57, 97, 98, 99, 100, 101, 102] : List UInt8)), .int .u8 p1]) en117 (ac rfl (ac rfl rfl)) rfl ?_)
  refine (c117_s30313233343536373839616263646566 p1 m1 w hm1 ).mono ?_
  rintro _ w2 ⟨rfl, E2⟩
  refine ⟨_, rfl, ?_⟩
  have X3 : Ext w w2 := (Ext.refl w).trans E2
  refine da_op rfl (d_as (v := .int .i64 m1) rfl ?_)
  refine da_nil ?_
  refine W_ret ?_
  subst hr
  refine ⟨_, res1 (rv_tmp rfl), ?_⟩
  exact ⟨rfl, X3⟩
set_option maxHeartbeats 4000000 in
theorem c103 (p0 : Int) (p1 : Int) (p2 : Int) (r : Bool) (w : World) (hr : M.impl_in p0 p1 p2 = r)  :
    Calls Tryd.prog 103 #[.int .i64 p0, .int .i64 p1, .int .i64 p2] w fun e w' => e = .returned (.bool r) ∧ Ext w w' := by
  refine calls_of_W Tryd.func103 rfl (Nat.le_of_ble_eq_true rfl) ?_
  refine W_seq ?_
  refine W_region rfl ?_
  refine da_op rfl (d_as (v := .bool false) rfl ?_)
  refine da_nil ?_
  refine W_seq ?_
  obtain ⟨m1, hm1, hr⟩ := letv_out hr
  refine W_cut (fun σ' w' => σ' 6 = .bool m1 ∧ Ext w w') rfl ?_ ?_
  · skip
    have hr := hm1
    refine da_op rfl (d_mv (v := .int .i64 p0) rfl ?_)
    refine da_op rfl (d_mv (v := .int .i64 p1) rfl ?_)
    refine da_op rfl (d_icmp cGeq rfl rfl ?_)
    refine da_op rfl (d_mv (v := .bool (icmp .geq p0 p1)) rfl ?_)
    rcases Bool.eq_false_or_eq_true (icmp .geq p0 p1) with hc2 | hc2
    · skip
      replace hr := bif_t hr hc2
      refine da_on rfl (Eq.trans (show sl _ _ _ = .bool (icmp .geq p0 p1) from rfl) (congrArg Value.bool hc2)) (d_mv (v := .int .i64 p0) rfl ?_)
      refine da_on rfl (Eq.trans (show sl _ _ _ = .bool (icmp .geq p0 p1) from rfl) (congrArg Value.bool hc2)) (d_mv (v := .int .i64 p2) rfl ?_)
      refine da_on rfl (Eq.trans (show sl _ _ _ = .bool (icmp .geq p0 p1) from rfl) (congrArg Value.bool hc2)) (d_icmp cLeq rfl rfl ?_)
      refine da_op rfl (d_pick (b := true) (Eq.trans (show ev _ _ = .bool (icmp .geq p0 p1) from rfl) (congrArg Value.bool hc2)) ?_)
      refine da_op rfl (d_as (v := .bool (icmp .leq p0 p2)) rfl ?_)
      refine da_nil ?_
      subst hr
      exact ⟨rfl, (Ext.refl w)⟩
    · skip
      replace hr := bif_f hr hc2
      refine da_off rfl (Eq.trans (show sl _ _ _ = .bool (icmp .geq p0 p1) from rfl) (congrArg Value.bool hc2)) (by decide) ?_
      refine da_off rfl (Eq.trans (show sl _ _ _ = .bool (icmp .geq p0 p1) from rfl) (congrArg Value.bool hc2)) (by decide) ?_
      refine da_off rfl (Eq.trans (show sl _ _ _ = .bool (icmp .geq p0 p1) from rfl) (congrArg Value.bool hc2)) (by decide) ?_
      refine da_op rfl (d_pick (b := false) (Eq.trans (show ev _ _ = .bool (icmp .geq p0 p1) from rfl) (congrArg Value.bool hc2)) ?_)
      refine da_op rfl (d_as (v := .bool false) rfl ?_)
      refine da_nil ?_
      subst hr
      exact ⟨rfl, (Ext.refl w)⟩
  · skip
    rintro σ1 w1 o1 ⟨s6_1, E1⟩
    have X3 : Ext w w1 := (Ext.refl w).trans E1
    refine W_ret ?_
    subst hr
    refine ⟨_, res1 (rv_tmp s6_1), ?_⟩
    exact ⟨rfl, X3⟩
set_option maxHeartbeats 4000000 in
theorem c155 (p0 : Int) (r : Nat × Bool) (w : World) (hr : M.impl_FromBits p0 = r)  :
    Calls Tryd.prog 155 #[.int .i64 p0] w fun e w' => ∃ q0r : Nat, e = .returned (.tuple #[.float .f32 q0r, .bool r.2]) ∧ cn .f32 q0r = r.1 ∧ Ext w w' := by
  refine calls_of_W Tryd.func155 rfl (Nat.le_of_ble_eq_true rfl) ?_
  refine W_seq ?_
  refine W_region rfl ?_
  refine da_op rfl (d_as (v := .float .f32 0) rfl ?_)
  refine da_op rfl (d_as (v := .bool false) rfl ?_)
  refine da_nil ?_
  refine W_seq ?_
  refine W_seq ?_
  refine W_region rfl ?_
  refine da_op rfl (d_mv (v := .int .i64 p0) rfl ?_)
  obtain ⟨m1, hm1, hr⟩ := letv_out hr
  refine da_op rfl (d_cl (vs := [.int .i64 p0, .int .i64 0, .int .i64 4294967295]) en103 (ac rfl (ac rfl (ac rfl rfl))) rfl ?_)
  refine (c103 p0 0 4294967295 m1 w hm1 ).mono ?_
  rintro _ w2 ⟨rfl, E2⟩
  refine ⟨_, rfl, ?_⟩
  have X3 : Ext w w2 := (Ext.refl w).trans E2
  refine da_op rfl (d_not rfl ?_)
  refine da_nil ?_
  refine W_cond (b := (!m1)) rfl (fun hc4 => ?_) (fun hc4 => ?_)
  · skip
    replace hr := bif_t hr hc4
    refine W_seq ?_
    refine W_region rfl ?_
    refine da_op rfl (d_as (v := .float .f32 0) rfl ?_)
    refine da_op rfl (d_as (v := .bool false) rfl ?_)
    refine da_nil ?_
    refine W_ret ?_
    subst hr
    refine ⟨_, res2 (rv_tmp rfl) (rv_tmp rfl), ?_⟩
    exact ⟨0, rfl, cn_f32_0, X3⟩
  · skip
    replace hr := bif_f hr hc4
    refine W_skip ?_
    refine W_seq ?_
    refine W_region rfl ?_
    refine da_op rfl (d_mv (v := .int .i64 p0) rfl ?_)
    refine da_op rfl (d_iconv un2 un193 rfl ?_)
    refine da_op rfl (d_f32from ext186_0 ext186_1 ext186_2 (Option.isNone_iff_eq_none.1 ext186_3) ext186_4 rfl rfl ?_)
    refine da_op rfl (d_as (v := .float .f32 ((IntKind.u32.wrap p0)).toNat) rfl ?_)
    refine da_op rfl (d_as (v := .bool true) rfl ?_)
    refine da_nil ?_
    refine W_ret ?_
    subst hr
    refine ⟨_, res2 (rv_tmp rfl) (rv_tmp rfl), ?_⟩
    exact ⟨((IntKind.u32.wrap p0)).toNat, rfl, rfl, X3⟩
set_option maxHeartbeats 4000000 in
theorem c153 (p0 : Nat) (p0r : Nat) (r : Bool) (w : World) (hr : M.impl_isNaN p0 = r) (p0h : cn .f32 p0r = p0) :
    Calls Tryd.prog 153 #[.float .f32 p0r] w fun e w' => e = .returned (.bool r) ∧ Ext w w' := by
  refine calls_of_W Tryd.func153 rfl (Nat.le_of_ble_eq_true rfl) ?_
  refine W_seq ?_
  refine W_region rfl ?_
  refine da_op rfl (d_as (v := .bool false) rfl ?_)
  refine da_nil ?_
  refine W_seq ?_
  refine W_region rfl ?_
  refine da_op rfl (d_mv (v := .float .f32 p0r) rfl ?_)
  refine da_op rfl (d_mv (v := .float .f32 p0r) rfl ?_)
  refine da_op rfl (d_fcmp (k := .f32) cNeq rfl rfl p0h p0h ?_)
  refine da_op rfl (d_as (v := .bool (fcmp .neq .f32 p0 p0)) rfl ?_)
  refine da_nil ?_
  refine W_ret ?_
  subst hr
  refine ⟨_, res1 (rv_tmp rfl), ?_⟩
  exact ⟨rfl, (Ext.refl w)⟩
set_option maxHeartbeats 4000000 in
theorem c98 (p0 : Nat) (p0r : Nat) (r : Int) (w : World) (hr : M.impl_BitsOf p0 = r) (p0h : cn .f32 p0r = p0) :
    Calls Tryd.prog 98 #[.float .f32 p0r] w fun e w' => e = .returned (.int .i64 r) ∧ Ext w w' := by
  refine calls_of_W Tryd.func98 rfl (Nat.le_of_ble_eq_true rfl) ?_
  refine W_seq ?_
  refine W_region rfl ?_
  refine da_op rfl (d_as (v := .int .i64 0) rfl ?_)
  refine da_nil ?_
  refine W_seq ?_
  refine W_seq ?_
  refine W_region rfl ?_
  refine da_op rfl (d_mv (v := .float .f32 p0r) rfl ?_)
  obtain ⟨m1, hm1, hr⟩ := letv_out hr
  refine da_op rfl (d_cl (vs := [.float .f32 p0r]) en153 (ac rfl rfl) rfl ?_)
  refine (c153 p0 p0r m1 w hm1 p0h).mono ?_
  rintro _ w2 ⟨rfl, E2⟩
  refine ⟨_, rfl, ?_⟩
  have X3 : Ext w w2 := (Ext.refl w).trans E2
  refine da_nil ?_
  refine W_cond (b := m1) rfl (fun hc4 => ?_) (fun hc4 => ?_)
  · skip
    replace hr := bif_t hr hc4
    refine W_seq ?_
    refine W_region rfl ?_
    refine da_op rfl (d_as (v := .int .i64 2143289344) rfl ?_)
    refine da_nil ?_
    refine W_ret ?_
    subst hr
    refine ⟨_, res1 (rv_tmp rfl), ?_⟩
    exact ⟨rfl, X3⟩
  · skip
    replace hr := bif_f hr hc4
    refine W_skip ?_
    refine W_seq ?_
    refine W_region rfl ?_
    refine da_op rfl (d_mv (v := .float .f32 p0r) rfl ?_)
    refine da_op rfl (d_f32bits ext154_0 ext154_1 ext154_2 (Option.isNone_iff_eq_none.1 ext154_3) ext154_4 rfl rfl p0h (nn_ne (Eq.trans (show fcmp .neq .f32 p0 p0 = m1 from hm1) hc4)) ?_)
    refine da_op rfl (d_iconv un193 un2 rfl ?_)
    refine da_op rfl (d_as (v := .int .i64 (IntKind.i64.wrap (p0 : Int))) rfl ?_)
    refine da_nil ?_
    refine W_ret ?_
    subst hr
    refine ⟨_, res1 (rv_tmp rfl), ?_⟩
    exact ⟨rfl, X3⟩
set_option maxHeartbeats 4000000 in
theorem c101 (p0 : List UInt8) (r : Nat × Bool) (w : World) (hr : M.impl_readNumber p0 = some r)  :
    Calls Tryd.prog 101 #[.string (bs p0)] w fun e w' => ∃ q0r : Nat, e = .returned (.tuple #[.float .f32 q0r, .bool r.2]) ∧ cn .f32 q0r = r.1 ∧ Ext w w' := by
  refine calls_of_W Tryd.func101 rfl (Nat.le_of_ble_eq_true rfl) ?_
  refine W_seq ?_
  refine W_region rfl ?_
  refine da_op rfl (d_as (v := .float .f32 0) rfl ?_)
  refine da_op rfl (d_as (v := .bool false) rfl ?_)
  refine da_nil ?_
  refine W_seq ?_
  refine W_region rfl ?_
  refine da_op rfl (d_as (v := .int .i64 0) rfl ?_)
  refine da_nil ?_
  refine W_seq ?_
  refine W_seq ?_
  refine W_region rfl ?_
  refine da_op rfl (d_mv (v := .string (bs p0)) rfl ?_)
  refine da_op rfl (d_slen un9 rfl ?_)
  refine da_op rfl (d_mv (v := .int .i64 0) rfl ?_)
  refine da_nil ?_
  refine W_block ?_
  obtain ⟨m1, hm1, hr⟩ := bind_out hr
  refine W_loopM hm1 (fun (s1 : Int × Int) σ w' => σ 4 = .int .i64 s1.1 ∧ σ 11 = .int .i64 s1.2 ∧ σ 0 = .string (bs p0) ∧ σ 10 = .int .i64 ((p0).length : Int) ∧ Ext w w') (fun (e1 : (Int ⊕ (Nat × Bool))) ex σ w' => sel e1 (fun e1 => ex = .exit 0 ∧ σ 4 = .int .i64 e1 ∧ σ 0 = .string (bs p0) ∧ Ext w w') (fun e1 => ex = .ret ∧ ∃ q1_1_0r : Nat, σ 2 = .float .f32 q1_1_0r ∧ σ 3 = .bool e1.2 ∧ cn .f32 q1_1_0r = e1.1 ∧ Ext w w')) ⟨rfl, rfl, rfl, rfl, (Ext.refl w)⟩ ?_ ?_
  · skip
    rintro s1 σl1 wl1 r1l ⟨i1_S4, i1_S11, i1_S0, i1_S10, i1_X⟩ hr
    refine W_seq ?_
    refine W_region rfl ?_
    refine da_op rfl (d_icmp cLss i1_S11 i1_S10 ?_)
    refine da_nil ?_
    refine W_seq ?_
    refine W_cond (b := (icmp .lss s1.2 ((p0).length : Int))) rfl (fun hc2 => ?_) (fun hc2 => ?_)
    · skip
      replace hr := bif_t hr hc2
      refine W_skip ?_
      refine W_seq ?_
      refine W_block ?_
      refine W_seq ?_
      refine W_region rfl ?_
      refine da_op rfl (d_mv (v := .int .i64 s1.2) i1_S11 ?_)
      refine da_op rfl (d_as (v := .int .i64 s1.2) rfl ?_)
      refine da_nil ?_
      refine W_seq ?_
      refine W_region rfl ?_
      refine da_op rfl (d_mv (v := .string (bs p0)) i1_S0 ?_)
      refine da_op rfl (d_mv (v := .int .i64 s1.2) rfl ?_)
      obtain ⟨m3, hm3, hr⟩ := bind_out hr
      refine da_op rfl (d_sidx un9 rfl rfl hm3 ?_)
      obtain ⟨m4, hm4, hr⟩ := letv_out hr
      refine da_op rfl (d_cl (vs := [.string (bs ([48, 49, 50, 51, 52, 53, 54, 55, 56, 57, 97, 98, 99, 100, 101, 102] : List UInt8)), .int .u8 m3]) en62 (ac rfl (ac rfl rfl)) rfl ?_)
      refine (c62_s30313233343536373839616263646566 m3 m4 wl1 hm4 ).mono ?_
      rintro _ w5 ⟨rfl, E5⟩
      refine ⟨_, rfl, ?_⟩
      have X6 : Ext w w5 := i1_X.trans E5
      refine da_op rfl (d_as (v := .int .i64 m4) rfl ?_)
      refine da_nil ?_
      refine W_seq ?_
      refine W_seq ?_
      obtain ⟨m7, hm7, hr⟩ := letv_out hr
      refine W_cut (fun σ' w' => σ' 23 = .bool m7 ∧ Ext w5 w') rfl ?_ ?_
      · skip
        have hr := hm7
        refine da_op rfl (d_mv (v := .int .i64 m4) rfl ?_)
        refine da_op rfl (d_icmp cLss rfl rfl ?_)
        refine da_op rfl (d_mv (v := .bool (icmp .lss m4 0)) rfl ?_)
        rcases Bool.eq_false_or_eq_true (icmp .lss m4 0) with hc8 | hc8
        · skip
          replace hr := bif_t hr hc8
          refine da_off rfl (Eq.trans (show sl _ _ _ = .bool (icmp .lss m4 0) from rfl) (congrArg Value.bool hc8)) (by decide) ?_
          refine da_off rfl (Eq.trans (show sl _ _ _ = .bool (icmp .lss m4 0) from rfl) (congrArg Value.bool hc8)) (by decide) ?_
          refine da_op rfl (d_pick (b := true) (Eq.trans (show ev _ _ = .bool (icmp .lss m4 0) from rfl) (congrArg Value.bool hc8)) ?_)
          refine da_nil ?_
          subst hr
          exact ⟨rfl, (Ext.refl w5)⟩
        · skip
          replace hr := bif_f hr hc8
          refine da_on rfl (Eq.trans (show sl _ _ _ = .bool (icmp .lss m4 0) from rfl) (congrArg Value.bool hc8)) (d_mv (v := .int .i64 s1.2) rfl ?_)
          refine da_on rfl (Eq.trans (show sl _ _ _ = .bool (icmp .lss m4 0) from rfl) (congrArg Value.bool hc8)) (d_icmp cEql rfl rfl ?_)
          refine da_op rfl (d_pick (b := false) (Eq.trans (show ev _ _ = .bool (icmp .lss m4 0) from rfl) (congrArg Value.bool hc8)) ?_)
          refine da_nil ?_
          subst hr
          exact ⟨rfl, (Ext.refl w5)⟩
      · skip
        rintro σ7 w7 o7 ⟨s23_7, E7⟩
        have s4_7 : σ7 4 = .int .i64 s1.1 := (o7 4 rfl).trans i1_S4
        have s11_7 : σ7 11 = .int .i64 s1.2 := (o7 11 rfl).trans i1_S11
        have s0_7 : σ7 0 = .string (bs p0) := (o7 0 rfl).trans i1_S0
        have s10_7 : σ7 10 = .int .i64 ((p0).length : Int) := (o7 10 rfl).trans i1_S10
        have s6_7 : σ7 6 = .int .i64 m4 := (o7 6 rfl).trans rfl
        have X9 : Ext w w7 := X6.trans E7
        refine W_cond (b := m7) s23_7 (fun hc10 => ?_) (fun hc10 => ?_)
        · skip
          replace hr := bif_t hr hc10
          refine W_seq ?_
          refine W_region rfl ?_
          refine da_op rfl (d_as (v := .float .f32 0) rfl ?_)
          refine da_op rfl (d_as (v := .bool false) rfl ?_)
          refine da_nil ?_
          refine W_ret ?_
          obtain rfl := Option.some.inj hr
          exact ⟨_, rfl, rfl, 0, rfl, rfl, cn_f32_0, X9⟩
        · skip
          replace hr := bif_f hr hc10
          refine W_skip ?_
          refine W_region rfl ?_
          refine da_op rfl (d_mv (v := .int .i64 s1.1) s4_7 ?_)
          refine da_op rfl (d_iarith rfl rfl (.inr (.inr ⟨rfl, rfl⟩)) ?_)
          refine da_op rfl (d_mv (v := .int .i64 m4) s6_7 ?_)
          refine da_op rfl (d_iarith rfl rfl (.inl ⟨rfl, rfl⟩) ?_)
          refine da_op rfl (d_as (v := .int .i64 (IntKind.i64.wrap ((IntKind.i64.wrap (s1.1 * 16)) + m4))) rfl ?_)
          refine da_nil ?_
          refine W_region rfl ?_
          refine da_op rfl (d_iarith s11_7 rfl (.inl ⟨rfl, rfl⟩) ?_)
          refine da_op rfl (d_mv (v := .int .i64 (IntKind.i64.wrap (s1.2 + 1))) rfl ?_)
          refine da_nil ?_
          obtain rfl := Option.some.inj hr
          exact ⟨_, rfl, ⟨rfl, rfl, s0_7, s10_7, X9⟩⟩
    · skip
      replace hr := bif_f hr hc2
      refine W_exit ?_
      obtain rfl := Option.some.inj hr
      exact ⟨_, rfl, rfl, i1_S4, i1_S0, i1_X⟩
  · skip
    intro ex σx1 wx1 hq
    rcases m1 with m1 | m1
    · skip
      obtain ⟨rfl, q1_0_S4, q1_0_S0, q1_0_X⟩ := hq
      refine W_seq ?_
      refine W_region rfl ?_
      refine da_op rfl (d_mv (v := .int .i64 m1) q1_0_S4 ?_)
      obtain ⟨m11, hm11, hr⟩ := letv_out hr
      refine da_op rfl (d_cl (vs := [.int .i64 m1]) en155 (ac rfl rfl) rfl ?_)
      refine (c155 m1 m11 wx1 hm11 ).mono ?_
      rintro _ w12 ⟨q12_0r, rfl, q12_0h, E12⟩
      refine ⟨_, rfl, ?_⟩
      have X13 : Ext w w12 := q1_0_X.trans E12
      refine da_op rfl (d_mv (v := .tuple #[.float .f32 q12_0r, .bool m11.2]) rfl ?_)
      refine da_op rfl (d_extract (v := .float .f32 q12_0r) rfl rfl ?_)
      refine da_op rfl (d_extract (v := .bool m11.2) rfl rfl ?_)
      refine da_op rfl (d_as (v := .float .f32 q12_0r) rfl ?_)
      refine da_op rfl (d_as (v := .bool m11.2) rfl ?_)
      refine da_nil ?_
      refine W_seq ?_
      obtain ⟨m14, hm14, hr⟩ := letv_out hr
      refine W_cut (fun σ' w' => σ' 2 = .float .f32 q12_0r ∧ σ' 3 = .bool m14 ∧ Ext w12 w') rfl ?_ ?_
      · skip
        have hr := hm14
        refine da_op rfl (d_mv (v := .float .f32 q12_0r) rfl ?_)
        refine da_op rfl (d_mv (v := .string (bs p0)) q1_0_S0 ?_)
        refine da_op rfl (d_slen un9 rfl ?_)
        refine da_op rfl (d_icmp cEql rfl rfl ?_)
        refine da_op rfl (d_mv (v := .bool (icmp .eql ((p0).length : Int) 8)) rfl ?_)
        rcases Bool.eq_false_or_eq_true (icmp .eql ((p0).length : Int) 8) with hc15 | hc15
        · skip
          replace hr := bif_t hr hc15
          refine da_on rfl (Eq.trans (show sl _ _ _ = .bool (icmp .eql ((p0).length : Int) 8) from rfl) (congrArg Value.bool hc15)) (d_mv (v := .float .f32 q12_0r) rfl ?_)
          obtain ⟨m16, hm16, hr⟩ := letv_out hr
          refine da_on rfl (Eq.trans (show sl _ _ _ = .bool (icmp .eql ((p0).length : Int) 8) from rfl) (congrArg Value.bool hc15)) (d_cl (vs := [.float .f32 q12_0r]) en98 (ac rfl rfl) rfl ?_)
          refine (c98 m11.1 q12_0r m16 w12 hm16 q12_0h).mono ?_
          rintro _ w17 ⟨rfl, E17⟩
          refine ⟨_, rfl, ?_⟩
          have X18 : Ext w w17 := X13.trans E17
          refine da_on rfl (Eq.trans (show sl _ _ _ = .bool (icmp .eql ((p0).length : Int) 8) from rfl) (congrArg Value.bool hc15)) (d_mv (v := .int .i64 m1) q1_0_S4 ?_)
          refine da_on rfl (Eq.trans (show sl _ _ _ = .bool (icmp .eql ((p0).length : Int) 8) from rfl) (congrArg Value.bool hc15)) (d_icmp cEql rfl rfl ?_)
          refine da_op rfl (d_pick (b := true) (Eq.trans (show ev _ _ = .bool (icmp .eql ((p0).length : Int) 8) from rfl) (congrArg Value.bool hc15)) ?_)
          refine da_op rfl (d_as (v := .float .f32 q12_0r) rfl ?_)
          refine da_op rfl (d_as (v := .bool (icmp .eql m16 m1)) rfl ?_)
          refine da_nil ?_
          subst hr
          exact ⟨rfl, rfl, (Ext.trans (Ext.refl w12) E17)⟩
        · skip
          replace hr := bif_f hr hc15
          refine da_off rfl (Eq.trans (show sl _ _ _ = .bool (icmp .eql ((p0).length : Int) 8) from rfl) (congrArg Value.bool hc15)) (by decide) ?_
          refine da_off rfl (Eq.trans (show sl _ _ _ = .bool (icmp .eql ((p0).length : Int) 8) from rfl) (congrArg Value.bool hc15)) (by decide) ?_
          refine da_off rfl (Eq.trans (show sl _ _ _ = .bool (icmp .eql ((p0).length : Int) 8) from rfl) (congrArg Value.bool hc15)) (by decide) ?_
          refine da_off rfl (Eq.trans (show sl _ _ _ = .bool (icmp .eql ((p0).length : Int) 8) from rfl) (congrArg Value.bool hc15)) (by decide) ?_
          refine da_op rfl (d_pick (b := false) (Eq.trans (show ev _ _ = .bool (icmp .eql ((p0).length : Int) 8) from rfl) (congrArg Value.bool hc15)) ?_)
          refine da_op rfl (d_as (v := .float .f32 q12_0r) rfl ?_)
          refine da_op rfl (d_as (v := .bool false) rfl ?_)
          refine da_nil ?_
          subst hr
          exact ⟨rfl, rfl, (Ext.refl w12)⟩
      · skip
        rintro σ14 w14 o14 ⟨s2_14, s3_14, E14⟩
        have X19 : Ext w w14 := X13.trans E14
        refine W_ret ?_
        obtain rfl := Option.some.inj hr
        refine ⟨_, res2 (rv_tmp s2_14) (rv_tmp s3_14), ?_⟩
        exact ⟨q12_0r, rfl, q12_0h, X19⟩
    · skip
      obtain ⟨rfl, q1_1_0r, q1_1_S2, q1_1_S3, q1_1_0h, q1_1_X⟩ := hq
      obtain rfl := Option.some.inj hr
      refine ⟨_, res2 (rv_tmp q1_1_S2) (rv_tmp q1_1_S3), ?_⟩
      exact ⟨q1_1_0r, rfl, q1_1_0h, q1_1_X⟩
set_option maxHeartbeats 4000000 in
theorem c43 (p0 : List UInt8) (r : List Nat × Bool) (w : World) (hr : M.impl_ReadNumbers p0 = some r)  :
    Calls Tryd.prog 43 #[.string (bs p0)] w fun e w' => ∃ q0v : Value, e = .returned (.tuple #[q0v, .bool r.2]) ∧ OS w' 22 encF_f32 q0v r.1 ∧ (∀ k, q0v.ownBlock = some k → w.heap.size ≤ k) ∧ Ext w w' := by
  refine calls_of_W Tryd.func43 rfl (Nat.le_of_ble_eq_true rfl) ?_
  refine W_seq ?_
  refine W_region rfl ?_
  refine da_op rfl (d_as (v := .slice none 0 0) rfl ?_)
  refine da_op rfl (d_as (v := .bool false) rfl ?_)
  refine da_nil ?_
  refine W_seq ?_
  refine W_region rfl ?_
  refine da_op rfl (d_bslice0 un53 size22 fun w1 B1 E1 => ?_)
  have fr1 : ∀ k, (Value.slice (some ⟨w.heap.size, 0, none⟩) 0 0).ownBlock = some k → w.heap.size ≤ k := fun k hk => by cases hk; exact Nat.le_refl _
  have own1 : ∀ k, (Value.slice (some ⟨w.heap.size, 0, none⟩) 0 0).ownBlock = some k → w.heap.size ≤ k := fun k hk => Nat.le_trans (Ext.refl w).size (fr1 k hk)
  have X2 : Ext w w1 := (Ext.refl w).trans E1
  have O1 : OS w1 22 encF_f32 (Value.slice (some ⟨w.heap.size, 0, none⟩) 0 0) ([] : List Nat) := OS.box (xs := ([] : List Nat)) B1 rfl (Nat.le_of_ble_eq_true rfl)
  refine da_op rfl (d_as (v := (Value.slice (some ⟨w.heap.size, 0, none⟩) 0 0)) rfl ?_)
  refine da_nil ?_
  refine W_seq ?_
  refine W_seq ?_
  refine W_region rfl ?_
  refine da_op rfl (d_mv (v := .string (bs p0)) rfl ?_)
  obtain ⟨m3, hm3, hr⟩ := bind_out hr
  refine da_op rfl (d_cl (vs := [.string (bs p0)]) en100 (ac rfl rfl) rfl ?_)
  refine (c100 p0 m3 w1 hm3 ).mono ?_
  rintro _ w4 ⟨q4_0v, rfl, q4_0R, q4_0F, E4⟩
  refine ⟨_, rfl, ?_⟩
  have own5 : ∀ k, q4_0v.ownBlock = some k → w.heap.size ≤ k := fun k hk => Nat.le_trans X2.size (q4_0F k hk)
  have sp6 : ∀ k, (Value.slice (some ⟨w.heap.size, 0, none⟩) 0 0).ownBlock = some k → ¬ q4_0v.ownBlock = some k := apart_fresh O1 q4_0F
  have X7 : Ext w w4 := X2.trans E4
  refine da_op rfl (d_len (e := encS) un34 rfl q4_0R ?_)
  refine da_op rfl (d_mv (v := .int .i64 0) rfl ?_)
  refine da_nil ?_
  refine W_block ?_
  have B9 : OS w4 22 encF_f32 (Value.slice (some ⟨w.heap.size, 0, none⟩) 0 0) ([] : List Nat) := O1.ext E4
  obtain ⟨m8, hm8, hr⟩ := bind_out hr
  refine W_loopM hm8 (fun (s8 : List Nat × Int) σ w' => ∃ i8_0v : Value, σ 4 = i8_0v ∧ σ 13 = .int .i64 s8.2 ∧ σ 11 = q4_0v ∧ σ 12 = .int .i64 ((m3).length : Int) ∧ OS w' 22 encF_f32 i8_0v s8.1 ∧ (∀ k, i8_0v.ownBlock = some k → w.heap.size ≤ k) ∧ RS w' encS q4_0v m3 ∧ (∀ k, q4_0v.ownBlock = some k → ¬ i8_0v.ownBlock = some k) ∧ Ext w w') (fun (e8 : ((List Nat) ⊕ (List Nat × Bool))) ex σ w' => sel e8 (fun e8 => ex = .exit 0 ∧ ∃ q8_0_0v : Value, σ 4 = q8_0_0v ∧ OS w' 22 encF_f32 q8_0_0v e8 ∧ (∀ k, q8_0_0v.ownBlock = some k → w.heap.size ≤ k) ∧ Ext w w') (fun e8 => ex = .ret ∧ ∃ q8_1_0v : Value, σ 2 = q8_1_0v ∧ σ 3 = .bool e8.2 ∧ OS w' 22 encF_f32 q8_1_0v e8.1 ∧ (∀ k, q8_1_0v.ownBlock = some k → w.heap.size ≤ k) ∧ Ext w w')) ⟨(Value.slice (some ⟨w.heap.size, 0, none⟩) 0 0), rfl, rfl, rfl, rfl, B9, own1, q4_0R, (apart_symm sp6), X7⟩ ?_ ?_
  · skip
    rintro s8 σl8 wl8 r8l ⟨i8_0v, i8_S4, i8_S13, i8_S11, i8_S12, i8_0R, i8_0O, i8_K0, i8_A0, i8_X⟩ hr
    refine W_seq ?_
    refine W_region rfl ?_
    refine da_op rfl (d_icmp cLss i8_S13 i8_S12 ?_)
    refine da_nil ?_
    refine W_seq ?_
    refine W_cond (b := (icmp .lss s8.2 ((m3).length : Int))) rfl (fun hc10 => ?_) (fun hc10 => ?_)
    · skip
      replace hr := bif_t hr hc10
      refine W_skip ?_
      refine W_seq ?_
      refine W_block ?_
      refine W_seq ?_
      refine W_region rfl ?_
      obtain ⟨m11, hm11, hr⟩ := bind_out hr
      refine da_op rfl (d_index (e := encS) (v := q4_0v) un34 size9 i8_S11 i8_S13 i8_K0 hm11 fun g12 o12 cu12 T12 fr12 vs12 hv12 hg12 hp12 hq12 => ?_)
      obtain rfl := dec_encS hq12
      refine da_op rfl (d_load (v := .string (bs m11)) rfl agg9 hg12 (sub_get (vs := #[.string (bs m11)]) hp12 (i := 0) rfl) ?_)
      refine da_op rfl (d_as (v := .string (bs m11)) rfl ?_)
      refine da_nil ?_
      refine W_seq ?_
      refine W_region rfl ?_
      refine da_op rfl (d_mv (v := .string (bs m11)) rfl ?_)
      obtain ⟨m13, hm13, hr⟩ := bind_out hr
      refine da_op rfl (d_cl (vs := [.string (bs m11)]) en101 (ac rfl rfl) rfl ?_)
      refine (c101 m11 m13 wl8 hm13 ).mono ?_
      rintro _ w14 ⟨q14_0r, rfl, q14_0h, E14⟩
      refine ⟨_, rfl, ?_⟩
      have X15 : Ext w w14 := i8_X.trans E14
      refine da_op rfl (d_mv (v := .tuple #[.float .f32 q14_0r, .bool m13.2]) rfl ?_)
      refine da_op rfl (d_extract (v := .float .f32 q14_0r) rfl rfl ?_)
      refine da_op rfl (d_extract (v := .bool m13.2) rfl rfl ?_)
      refine da_op rfl (d_as (v := .float .f32 q14_0r) rfl ?_)
      refine da_op rfl (d_as (v := .bool m13.2) rfl ?_)
      refine da_nil ?_
      refine W_seq ?_
      refine W_seq ?_
      have B17 : RS w14 encS q4_0v m3 := i8_K0.ext E14
      have B18 : OS w14 22 encF_f32 i8_0v s8.1 := i8_0R.ext E14
      obtain ⟨m16, hm16, hr⟩ := letv_out hr
      refine W_cut (fun σ' w' => σ' 28 = .bool m16 ∧ Ext w14 w') rfl ?_ ?_
      · skip
        have hr := hm16
        refine da_op rfl (d_mv (v := .bool m13.2) rfl ?_)
        refine da_op rfl (d_not rfl ?_)
        refine da_op rfl (d_mv (v := .bool (!m13.2)) rfl ?_)
        rcases Bool.eq_false_or_eq_true m13.2 with hc19 | hc19
        · skip
          replace hr := bif_t hr hc19
          refine da_on rfl (Eq.trans (show sl _ _ _ = .bool (!m13.2) from rfl) (congrArg Value.bool (congrArg not hc19))) (d_mv (v := i8_0v) i8_S4 ?_)
          refine da_on rfl (Eq.trans (show sl _ _ _ = .bool (!m13.2) from rfl) (congrArg Value.bool (congrArg not hc19))) (d_len (e := encF_f32) un53 rfl B18.rs ?_)
          refine da_on rfl (Eq.trans (show sl _ _ _ = .bool (!m13.2) from rfl) (congrArg Value.bool (congrArg not hc19))) (d_icmp cEql rfl rfl ?_)
          refine da_op rfl (d_pick (b := false) (Eq.trans (show ev _ _ = .bool (!m13.2) from rfl) (congrArg Value.bool (congrArg not hc19))) ?_)
          refine da_nil ?_
          subst hr
          exact ⟨rfl, (Ext.refl w14)⟩
        · skip
          replace hr := bif_f hr hc19
          refine da_off rfl (Eq.trans (show sl _ _ _ = .bool (!m13.2) from rfl) (congrArg Value.bool (congrArg not hc19))) (by decide) ?_
          refine da_off rfl (Eq.trans (show sl _ _ _ = .bool (!m13.2) from rfl) (congrArg Value.bool (congrArg not hc19))) (by decide) ?_
          refine da_off rfl (Eq.trans (show sl _ _ _ = .bool (!m13.2) from rfl) (congrArg Value.bool (congrArg not hc19))) (by decide) ?_
          refine da_op rfl (d_pick (b := true) (Eq.trans (show ev _ _ = .bool (!m13.2) from rfl) (congrArg Value.bool (congrArg not hc19))) ?_)
          refine da_nil ?_
          subst hr
          exact ⟨rfl, (Ext.refl w14)⟩
      · skip
        rintro σ16 w16 o16 ⟨s28_16, E16⟩
        have s4_16 : σ16 4 = i8_0v := (o16 4 rfl).trans i8_S4
        have s13_16 : σ16 13 = .int .i64 s8.2 := (o16 13 rfl).trans i8_S13
        have s11_16 : σ16 11 = q4_0v := (o16 11 rfl).trans i8_S11
        have s12_16 : σ16 12 = .int .i64 ((m3).length : Int) := (o16 12 rfl).trans i8_S12
        have s7_16 : σ16 7 = .float .f32 q14_0r := (o16 7 rfl).trans rfl
        have X20 : Ext w w16 := X15.trans E16
        refine W_cond (b := m16) s28_16 (fun hc21 => ?_) (fun hc21 => ?_)
        · skip
          replace hr := bif_t hr hc21
          refine W_seq ?_
          refine W_region rfl ?_
          refine da_op rfl (d_as (v := .slice none 0 0) rfl ?_)
          refine da_op rfl (d_as (v := .bool false) rfl ?_)
          refine da_nil ?_
          refine W_ret ?_
          obtain rfl := Option.some.inj hr
          exact ⟨_, rfl, rfl, (.slice none 0 0), rfl, rfl, (OS.nil _ 22 encF_f32), (fun k hk => by cases hk), X20⟩
        · skip
          replace hr := bif_f hr hc21
          refine W_skip ?_
          refine W_region rfl ?_
          refine da_op rfl (d_mv (v := i8_0v) s4_16 ?_)
          refine da_op rfl (d_mv (v := .float .f32 q14_0r) s7_16 ?_)
          have B23 : RS w16 encS q4_0v m3 := B17.ext E16
          have B24 : OS w16 22 encF_f32 i8_0v s8.1 := B18.ext E16
          refine da_op rfl (d_bslice (vs := [(0, .float .f32 q14_0r)]) (cs := #[.float .f32 q14_0r]) un53 (pc rfl rfl) (by kernel_rfl) fun w22 B22 E22 => ?_)
          have fr22 : ∀ k, (Value.slice (some ⟨w16.heap.size, 0, none⟩) 1 1).ownBlock = some k → w16.heap.size ≤ k := fun k hk => by cases hk; exact Nat.le_refl _
          have own22 : ∀ k, (Value.slice (some ⟨w16.heap.size, 0, none⟩) 1 1).ownBlock = some k → w.heap.size ≤ k := fun k hk => Nat.le_trans X20.size (fr22 k hk)
          have sp25 : ∀ k, q4_0v.ownBlock = some k → ¬ (Value.slice (some ⟨w16.heap.size, 0, none⟩) 1 1).ownBlock = some k := apart_freshR B23 fr22
          have sp26 : ∀ k, i8_0v.ownBlock = some k → ¬ (Value.slice (some ⟨w16.heap.size, 0, none⟩) 1 1).ownBlock = some k := apart_fresh B24 fr22
          have X27 : Ext w w22 := X20.trans E22
          have O22 : OS w22 22 encF_f32 (Value.slice (some ⟨w16.heap.size, 0, none⟩) 1 1) [m13.1] := OS.box (xs := [m13.1]) B22 (lc_f q14_0h rfl) (Nat.le_of_ble_eq_true rfl)
          obtain ⟨m28, hm28, hr⟩ := bind_out hr
          have B29 : OS w22 22 encF_f32 i8_0v s8.1 := B24.ext E22
          have B30 : RS w22 encS q4_0v m3 := B23.ext E22
          refine da_op rfl (d_append (e := encF_f32) (v := i8_0v) (y := (Value.slice (some ⟨w16.heap.size, 0, none⟩) 1 1)) un53 info22 rfl (by kernel_rfl) (by kernel_rfl) (by decide) (by decide) rfl rfl B29 O22.rs hm28 fun v31 w31 O31 Fm31 at_31 nl31 => ?_)
          have own31 : ∀ k, v31.ownBlock = some k → w.heap.size ≤ k := app_own (w := w22) at_31 i8_0O X27.size
          have sp32 : ∀ k, q4_0v.ownBlock = some k → ¬ v31.ownBlock = some k := app_nrR at_31 i8_A0 B30
          have sp33 : ∀ k, (Value.slice (some ⟨w16.heap.size, 0, none⟩) 1 1).ownBlock = some k → ¬ v31.ownBlock = some k := app_nr at_31 (apart_symm sp26) O22
          have X34 : Ext w w31 := Ext.step X27 Fm31 (fun k _ hk => i8_0O k hk)
          refine da_op rfl (d_as (v := v31) rfl ?_)
          refine da_nil ?_
          refine W_region rfl ?_
          refine da_op rfl (d_iarith s13_16 rfl (.inl ⟨rfl, rfl⟩) ?_)
          refine da_op rfl (d_mv (v := .int .i64 (IntKind.i64.wrap (s8.2 + 1))) rfl ?_)
          refine da_nil ?_
          have B35 : RS w31 encS q4_0v m3 := B30.frm Fm31 (fun k _ => i8_A0 k)
          obtain rfl := Option.some.inj hr
          exact ⟨_, rfl, ⟨v31, rfl, rfl, s11_16, s12_16, O31, own31, B35, sp32, X34⟩⟩
    · skip
      replace hr := bif_f hr hc10
      refine W_exit ?_
      obtain rfl := Option.some.inj hr
      exact ⟨_, rfl, rfl, i8_0v, i8_S4, i8_0R, i8_0O, i8_X⟩
  · skip
    intro ex σx8 wx8 hq
    rcases m8 with m8 | m8
    · skip
      obtain ⟨rfl, q8_0_0v, q8_0_S4, q8_0_0R, q8_0_0O, q8_0_X⟩ := hq
      refine W_seq ?_
      refine W_region rfl ?_
      refine da_op rfl (d_mv (v := q8_0_0v) q8_0_S4 ?_)
      refine da_op rfl (d_as (v := q8_0_0v) rfl ?_)
      refine da_op rfl (d_as (v := .bool true) rfl ?_)
      refine da_nil ?_
      refine W_ret ?_
      obtain rfl := Option.some.inj hr
      refine ⟨_, res2 (rv_tmp rfl) (rv_tmp rfl), ?_⟩
      exact ⟨q8_0_0v, rfl, q8_0_0R, q8_0_0O, q8_0_X⟩
    · skip
      obtain ⟨rfl, q8_1_0v, q8_1_S2, q8_1_S3, q8_1_0R, q8_1_0O, q8_1_X⟩ := hq
      obtain rfl := Option.some.inj hr
      refine ⟨_, res2 (rv_tmp q8_1_S2) (rv_tmp q8_1_S3), ?_⟩
      exact ⟨q8_1_0v, rfl, q8_1_0R, q8_1_0O, q8_1_X⟩
set_option maxHeartbeats 4000000 in
theorem c49 (p0 : List UInt8) (p1 : Int) (r : List Nat × Bool) (w : World) (hr : M.impl_exactly p0 p1 = some r)  :
    Calls Tryd.prog 49 #[.string (bs p0), .int .i64 p1] w fun e w' => ∃ q0v : Value, e = .returned (.tuple #[q0v, .bool r.2]) ∧ OS w' 22 encF_f32 q0v r.1 ∧ (∀ k, q0v.ownBlock = some k → w.heap.size ≤ k) ∧ Ext w w' := by
  refine calls_of_W Tryd.func49 rfl (Nat.le_of_ble_eq_true rfl) ?_
  refine W_seq ?_
  refine W_region rfl ?_
  refine da_op rfl (d_as (v := .slice none 0 0) rfl ?_)
  refine da_op rfl (d_as (v := .bool false) rfl ?_)
  refine da_nil ?_
  refine W_seq ?_
  refine W_region rfl ?_
  refine da_op rfl (d_mv (v := .string (bs p0)) rfl ?_)
  obtain ⟨m1, hm1, hr⟩ := bind_out hr
  refine da_op rfl (d_cl (vs := [.string (bs p0)]) en43 (ac rfl rfl) rfl ?_)
  refine (c43 p0 m1 w hm1 ).mono ?_
  rintro _ w2 ⟨q2_0v, rfl, q2_0R, q2_0F, E2⟩
  refine ⟨_, rfl, ?_⟩
  have own3 : ∀ k, q2_0v.ownBlock = some k → w.heap.size ≤ k := fun k hk => Nat.le_trans (Ext.refl w).size (q2_0F k hk)
  have X4 : Ext w w2 := (Ext.refl w).trans E2
  refine da_op rfl (d_mv (v := .tuple #[q2_0v, .bool m1.2]) rfl ?_)
  refine da_op rfl (d_extract (v := q2_0v) rfl rfl ?_)
  refine da_op rfl (d_extract (v := .bool m1.2) rfl rfl ?_)
  refine da_op rfl (d_as (v := q2_0v) rfl ?_)
  refine da_op rfl (d_as (v := .bool m1.2) rfl ?_)
  refine da_nil ?_
  refine W_seq ?_
  refine W_seq ?_
  obtain ⟨m5, hm5, hr⟩ := letv_out hr
  refine W_cut (fun σ' w' => σ' 20 = .bool m5 ∧ Ext w2 w') rfl ?_ ?_
  · skip
    have hr := hm5
    refine da_op rfl (d_mv (v := .bool m1.2) rfl ?_)
    refine da_op rfl (d_not rfl ?_)
    refine da_op rfl (d_mv (v := .bool (!m1.2)) rfl ?_)
    rcases Bool.eq_false_or_eq_true m1.2 with hc6 | hc6
    · skip
      replace hr := bif_t hr hc6
      refine da_on rfl (Eq.trans (show sl _ _ _ = .bool (!m1.2) from rfl) (congrArg Value.bool (congrArg not hc6))) (d_mv (v := q2_0v) rfl ?_)
      refine da_on rfl (Eq.trans (show sl _ _ _ = .bool (!m1.2) from rfl) (congrArg Value.bool (congrArg not hc6))) (d_len (e := encF_f32) un53 rfl q2_0R.rs ?_)
      refine da_on rfl (Eq.trans (show sl _ _ _ = .bool (!m1.2) from rfl) (congrArg Value.bool (congrArg not hc6))) (d_mv (v := .int .i64 p1) rfl ?_)
      refine da_on rfl (Eq.trans (show sl _ _ _ = .bool (!m1.2) from rfl) (congrArg Value.bool (congrArg not hc6))) (d_icmp cNeq rfl rfl ?_)
      refine da_op rfl (d_pick (b := false) (Eq.trans (show ev _ _ = .bool (!m1.2) from rfl) (congrArg Value.bool (congrArg not hc6))) ?_)
      refine da_nil ?_
      subst hr
      exact ⟨rfl, (Ext.refl w2)⟩
    · skip
      replace hr := bif_f hr hc6
      refine da_off rfl (Eq.trans (show sl _ _ _ = .bool (!m1.2) from rfl) (congrArg Value.bool (congrArg not hc6))) (by decide) ?_
      refine da_off rfl (Eq.trans (show sl _ _ _ = .bool (!m1.2) from rfl) (congrArg Value.bool (congrArg not hc6))) (by decide) ?_
      refine da_off rfl (Eq.trans (show sl _ _ _ = .bool (!m1.2) from rfl) (congrArg Value.bool (congrArg not hc6))) (by decide) ?_
      refine da_off rfl (Eq.trans (show sl _ _ _ = .bool (!m1.2) from rfl) (congrArg Value.bool (congrArg not hc6))) (by decide) ?_
      refine da_op rfl (d_pick (b := true) (Eq.trans (show ev _ _ = .bool (!m1.2) from rfl) (congrArg Value.bool (congrArg not hc6))) ?_)
      refine da_nil ?_
      subst hr
      exact ⟨rfl, (Ext.refl w2)⟩
  · skip
    rintro σ5 w5 o5 ⟨s20_5, E5⟩
    have s1_5 : σ5 1 = .int .i64 p1 := (o5 1 rfl).trans rfl
    have s6_5 : σ5 6 = q2_0v := (o5 6 rfl).trans rfl
    have X7 : Ext w w5 := X4.trans E5
    refine W_cond (b := m5) s20_5 (fun hc8 => ?_) (fun hc8 => ?_)
    · skip
      replace hr := bif_t hr hc8
      refine W_seq ?_
      refine W_region rfl ?_
      refine da_op rfl (d_mv (v := .int .i64 p1) s1_5 ?_)
      obtain ⟨m9, hm9, hr⟩ := bind_out hr
      have B10 : OS w5 22 encF_f32 q2_0v m1.1 := q2_0R.ext E5
      refine da_op rfl (d_make (e := encF_f32) un53 info22 rfl (by kernel_rfl) (by kernel_rfl) (by decide) (by decide) rfl rfl hm9 fun v11 w11 O11 E11 fr11 => ?_)
      have own11 : ∀ k, v11.ownBlock = some k → w.heap.size ≤ k := fun k hk => Nat.le_trans X7.size (fr11 k hk)
      have sp12 : ∀ k, q2_0v.ownBlock = some k → ¬ v11.ownBlock = some k := apart_fresh B10 fr11
      have X13 : Ext w w11 := X7.trans E11
      refine da_op rfl (d_as (v := v11) rfl ?_)
      refine da_op rfl (d_as (v := .bool false) rfl ?_)
      refine da_nil ?_
      refine W_ret ?_
      obtain rfl := Option.some.inj hr
      refine ⟨_, res2 (rv_tmp rfl) (rv_tmp rfl), ?_⟩
      exact ⟨v11, rfl, O11, own11, X13⟩
    · skip
      replace hr := bif_f hr hc8
      refine W_skip ?_
      refine W_seq ?_
      refine W_region rfl ?_
      refine da_op rfl (d_mv (v := q2_0v) s6_5 ?_)
      refine da_op rfl (d_as (v := q2_0v) rfl ?_)
      refine da_op rfl (d_as (v := .bool true) rfl ?_)
      refine da_nil ?_
      refine W_ret ?_
      have B14 : OS w5 22 encF_f32 q2_0v m1.1 := q2_0R.ext E5
      obtain rfl := Option.some.inj hr
      refine ⟨_, res2 (rv_tmp rfl) (rv_tmp rfl), ?_⟩
      exact ⟨q2_0v, rfl, B14, own3, X7⟩
set_option maxHeartbeats 4000000 in
theorem c108 (p0 : SSwing) (p0b p0o : Nat) (p0c : Array Value) (p0T : TypeId) (p0f : Nat × Nat) (p0r0 : Nat) (p0r1 : Nat) (p0r2 : Nat) (r : List Nat) (w : World) (hr : M.impl_Swing_numbers p0 = r) (p0h0 : cn .f32 p0r0 = p0.turn) (p0h1 : cn .f32 p0r1 = p0.speed) (p0h2 : cn .f32 p0r2 = p0.time) (p0B : w.heap[p0b]? = some (.cells p0c p0T p0f)) (p0P : (p0c.toList.drop p0o).take 3 = [.float .f32 p0r0, .float .f32 p0r1, .float .f32 p0r2]) :
    Calls Tryd.prog 108 #[.pointer (some ⟨p0b, p0o, none⟩)] w fun e w' => ∃ q0v : Value, e = .returned (q0v) ∧ OS w' 22 encF_f32 q0v r ∧ (∀ k, q0v.ownBlock = some k → w.heap.size ≤ k) ∧ Ext w w' := by
  refine calls_of_W Tryd.func108 rfl (Nat.le_of_ble_eq_true rfl) ?_
  refine W_seq ?_
  refine W_region rfl ?_
  refine da_op rfl (d_as (v := .slice none 0 0) rfl ?_)
  refine da_nil ?_
  refine W_seq ?_
  refine W_any [] [{ V := fun _ v _ => v = (.pointer (some ⟨p0b, p0o, none⟩)) }, { V := fun _ v _ => v = (.pointer (some ⟨p0b, p0o, none⟩)) }, { V := fun _ v _ => v = (.pointer (some ⟨p0b, p0o, none⟩)) }, { V := fun _ v _ => v = (.float .f32 p0r0) }, { V := fun _ v _ => v = (.pointer (some ⟨p0b, p0o, none⟩)) }, { V := fun _ v _ => v = (.pointer (some ⟨p0b, p0o, none⟩)) }, { V := fun _ v _ => v = (.pointer (some ⟨p0b, p0o + 1, none⟩)) }, { V := fun _ v _ => v = (.float .f32 p0r1) }, { V := fun _ v _ => v = (.pointer (some ⟨p0b, p0o, none⟩)) }, { V := fun _ v _ => v = (.pointer (some ⟨p0b, p0o, none⟩)) }, { V := fun _ v _ => v = (.pointer (some ⟨p0b, p0o + 2, none⟩)) }, { V := fun _ v _ => v = (.float .f32 p0r2) }, { V := fun _ v w' => ∃ d1_12v : Value, v = d1_12v ∧ (∀ k, d1_12v.ownBlock = some k → w.heap.size ≤ k) ∧ OS w' 22 encF_f32 d1_12v ([p0.turn, p0.speed, p0.time]) }, { V := fun _ v w' => ∃ d1_12v : Value, v = d1_12v ∧ (∀ k, d1_12v.ownBlock = some k → w.heap.size ≤ k) ∧ OS w' 22 encF_f32 d1_12v ([p0.turn, p0.speed, p0.time]) }] mixed (by kernel_rfl) ⟨trivial, trivial, trivial, trivial, trivial, trivial, trivial, trivial, trivial, trivial, trivial, trivial, trivial, trivial, trivial⟩ ⟨?_, ?_, ?_, ?_, ?_, ?_, ?_, ?_, ?_, ?_, ?_, ?_, ?_, ?_, trivial⟩ ?_
  · skip
    refine ⟨fun _ _ _ _ _ _ h _ => h, fun _ _ h _ => h, fun σ' w' hA hE hD hP => ?_⟩
    have t0 : σ' 0 = .pointer (some ⟨p0b, p0o, none⟩) := (hA 0 rfl).trans rfl
    have B0_2 : w'.heap[p0b]? = some (.cells p0c p0T p0f) := hE.heap not_oth0 p0B
    refine dg_op rfl (d_mv (v := .pointer (some ⟨p0b, p0o, none⟩)) t0 ?_)
    exact ⟨rfl, own_none (Ext.refl w')⟩
  · skip
    refine ⟨fun _ _ _ _ _ _ h _ => h, fun _ _ h _ => h, fun σ' w' hA hE hD hP => ?_⟩
    have t3 : σ' 3 = (.pointer (some ⟨p0b, p0o, none⟩)) := hD 0 rfl
    have B0_3 : w'.heap[p0b]? = some (.cells p0c p0T p0f) := hE.heap not_oth0 p0B
    refine dg_op rfl (d_nil t3 ?_)
    exact ⟨rfl, own_none (Ext.refl w')⟩
  · skip
    refine ⟨fun _ _ _ _ _ _ h _ => h, fun _ _ h _ => h, fun σ' w' hA hE hD hP => ?_⟩
    have t4 : σ' 4 = (.pointer (some ⟨p0b, p0o, none⟩)) := hD 1 rfl
    have B0_4 : w'.heap[p0b]? = some (.cells p0c p0T p0f) := hE.heap not_oth0 p0B
    refine dg_op rfl (d_fieldAddr t4 (fa24_0 _ _) ?_)
    exact ⟨rfl, own_none (Ext.refl w')⟩
  · skip
    refine ⟨fun _ _ _ _ _ _ h _ => h, fun _ _ h _ => h, fun σ' w' hA hE hD hP => ?_⟩
    have t5 : σ' 5 = (.pointer (some ⟨p0b, p0o, none⟩)) := hD 2 rfl
    have B0_5 : w'.heap[p0b]? = some (.cells p0c p0T p0f) := hE.heap not_oth0 p0B
    refine dg_op rfl (d_load (v := .float .f32 p0r0) t5 agg22 B0_5 (sub_get (vs := #[.float .f32 p0r0, .float .f32 p0r1, .float .f32 p0r2]) p0P (i := 0) rfl) ?_)
    exact ⟨rfl, own_none (Ext.refl w')⟩
  · skip
    refine ⟨fun _ _ _ _ _ _ h _ => h, fun _ _ h _ => h, fun σ' w' hA hE hD hP => ?_⟩
    have t0 : σ' 0 = .pointer (some ⟨p0b, p0o, none⟩) := (hA 0 rfl).trans rfl
    have B0_6 : w'.heap[p0b]? = some (.cells p0c p0T p0f) := hE.heap not_oth0 p0B
    refine dg_op rfl (d_mv (v := .pointer (some ⟨p0b, p0o, none⟩)) t0 ?_)
    exact ⟨rfl, own_none (Ext.refl w')⟩
  · skip
    refine ⟨fun _ _ _ _ _ _ h _ => h, fun _ _ h _ => h, fun σ' w' hA hE hD hP => ?_⟩
    have t7 : σ' 7 = (.pointer (some ⟨p0b, p0o, none⟩)) := hD 4 rfl
    have B0_7 : w'.heap[p0b]? = some (.cells p0c p0T p0f) := hE.heap not_oth0 p0B
    refine dg_op rfl (d_nil t7 ?_)
    exact ⟨rfl, own_none (Ext.refl w')⟩
  · skip
    refine ⟨fun _ _ _ _ _ _ h _ => h, fun _ _ h _ => h, fun σ' w' hA hE hD hP => ?_⟩
    have t8 : σ' 8 = (.pointer (some ⟨p0b, p0o, none⟩)) := hD 5 rfl
    have B0_8 : w'.heap[p0b]? = some (.cells p0c p0T p0f) := hE.heap not_oth0 p0B
    refine dg_op rfl (d_fieldAddr t8 (fa24_1 _ _) ?_)
    exact ⟨rfl, own_none (Ext.refl w')⟩
  · skip
    refine ⟨fun _ _ _ _ _ _ h _ => h, fun _ _ h _ => h, fun σ' w' hA hE hD hP => ?_⟩
    have t9 : σ' 9 = (.pointer (some ⟨p0b, p0o + 1, none⟩)) := hD 6 rfl
    have B0_9 : w'.heap[p0b]? = some (.cells p0c p0T p0f) := hE.heap not_oth0 p0B
    refine dg_op rfl (d_load (v := .float .f32 p0r1) t9 agg22 B0_9 (sub_get (vs := #[.float .f32 p0r0, .float .f32 p0r1, .float .f32 p0r2]) p0P (i := 1) rfl) ?_)
    exact ⟨rfl, own_none (Ext.refl w')⟩
  · skip
    refine ⟨fun _ _ _ _ _ _ h _ => h, fun _ _ h _ => h, fun σ' w' hA hE hD hP => ?_⟩
    have t0 : σ' 0 = .pointer (some ⟨p0b, p0o, none⟩) := (hA 0 rfl).trans rfl
    have B0_10 : w'.heap[p0b]? = some (.cells p0c p0T p0f) := hE.heap not_oth0 p0B
    refine dg_op rfl (d_mv (v := .pointer (some ⟨p0b, p0o, none⟩)) t0 ?_)
    exact ⟨rfl, own_none (Ext.refl w')⟩
  · skip
    refine ⟨fun _ _ _ _ _ _ h _ => h, fun _ _ h _ => h, fun σ' w' hA hE hD hP => ?_⟩
    have t11 : σ' 11 = (.pointer (some ⟨p0b, p0o, none⟩)) := hD 8 rfl
    have B0_11 : w'.heap[p0b]? = some (.cells p0c p0T p0f) := hE.heap not_oth0 p0B
    refine dg_op rfl (d_nil t11 ?_)
    exact ⟨rfl, own_none (Ext.refl w')⟩
  · skip
    refine ⟨fun _ _ _ _ _ _ h _ => h, fun _ _ h _ => h, fun σ' w' hA hE hD hP => ?_⟩
    have t12 : σ' 12 = (.pointer (some ⟨p0b, p0o, none⟩)) := hD 9 rfl
    have B0_12 : w'.heap[p0b]? = some (.cells p0c p0T p0f) := hE.heap not_oth0 p0B
    refine dg_op rfl (d_fieldAddr t12 (fa24_2 _ _) ?_)
    exact ⟨rfl, own_none (Ext.refl w')⟩
  · skip
    refine ⟨fun _ _ _ _ _ _ h _ => h, fun _ _ h _ => h, fun σ' w' hA hE hD hP => ?_⟩
    have t13 : σ' 13 = (.pointer (some ⟨p0b, p0o + 2, none⟩)) := hD 10 rfl
    have B0_13 : w'.heap[p0b]? = some (.cells p0c p0T p0f) := hE.heap not_oth0 p0B
    refine dg_op rfl (d_load (v := .float .f32 p0r2) t13 agg22 B0_13 (sub_get (vs := #[.float .f32 p0r0, .float .f32 p0r1, .float .f32 p0r2]) p0P (i := 2) rfl) ?_)
    exact ⟨rfl, own_none (Ext.refl w')⟩
  · skip
    refine ⟨fun _ _ _ w' w'' _ ⟨d1_12v, hv, d1_12vL, d1_12vR⟩ hF => ⟨d1_12v, hv, d1_12vL, d1_12vR.frm hF (fun k hk => not_oth0)⟩, fun _ _ h _ => h, fun σ' w' hA hE hD hP => ?_⟩
    have t6 : σ' 6 = (.float .f32 p0r0) := hD 3 rfl
    have t10 : σ' 10 = (.float .f32 p0r1) := hD 7 rfl
    have t14 : σ' 14 = (.float .f32 p0r2) := hD 11 rfl
    refine dg_op rfl (d_bslice (vs := [(0, .float .f32 p0r0), (1, .float .f32 p0r1), (2, .float .f32 p0r2)]) (cs := #[.float .f32 p0r0, .float .f32 p0r1, .float .f32 p0r2]) un53 (pc t6 (pc t10 (pc t14 rfl))) (by kernel_rfl) fun w14 B14 E14 => ?_)
    have fr14 : ∀ k, (Value.slice (some ⟨w'.heap.size, 0, none⟩) 3 3).ownBlock = some k → w'.heap.size ≤ k := fun k hk => by cases hk; exact Nat.le_refl _
    have X15 : Ext w' w14 := (Ext.refl w').trans E14
    have O14 : OS w14 22 encF_f32 (Value.slice (some ⟨w'.heap.size, 0, none⟩) 3 3) [p0.turn, p0.speed, p0.time] := OS.box (xs := [p0.turn, p0.speed, p0.time]) B14 (lc_f p0h0 (lc_f p0h1 (lc_f p0h2 rfl))) (Nat.le_of_ble_eq_true rfl)
    exact ⟨⟨(Value.slice (some ⟨w'.heap.size, 0, none⟩) 3 3), rfl, (fun k hk => Nat.le_trans hE.size (fr14 k hk)), O14⟩, own_none X15⟩
  · skip
    refine ⟨fun _ _ _ w' w'' _ ⟨d1_12v, hv, d1_12vL, d1_12vR⟩ hF => ⟨d1_12v, hv, d1_12vL, d1_12vR.frm hF (fun k hk => not_oth0)⟩, fun _ _ h _ => h, fun σ' w' hA hE hD hP => ?_⟩
    obtain ⟨d1_12v, t15, d1_12vL, d1_12vR⟩ : ∃ d1_12v : Value, σ' 15 = d1_12v ∧ (∀ k, d1_12v.ownBlock = some k → w.heap.size ≤ k) ∧ OS w' 22 encF_f32 d1_12v ([p0.turn, p0.speed, p0.time]) := hD 12 rfl
    refine dg_op rfl (d_as (v := d1_12v) t15 ?_)
    exact ⟨⟨d1_12v, rfl, d1_12vL, d1_12vR⟩, own_none (Ext.refl w')⟩
  · skip
    intro σ1 w1 A1 E1 V1
    have E1x : Ext w w1 := ext_of_oth0 E1
    obtain ⟨z1_2_12v, s2_1, z1_2_12vL, z1_2_12vR⟩ : ∃ z1_2_12v : Value, σ1 2 = z1_2_12v ∧ (∀ k, z1_2_12v.ownBlock = some k → w.heap.size ≤ k) ∧ OS w1 22 encF_f32 z1_2_12v ([p0.turn, p0.speed, p0.time]) := V1 13 (Nat.le_of_ble_eq_true rfl)
    have own16 : ∀ k, z1_2_12v.ownBlock = some k → w.heap.size ≤ k := fun k hk => Nat.le_trans (Ext.refl w).size (z1_2_12vL k hk)
    have X17 : Ext w w1 := (Ext.refl w).trans E1x
    refine W_ret ?_
    subst hr
    refine ⟨_, res1 (rv_tmp s2_1), ?_⟩
    exact ⟨z1_2_12v, rfl, z1_2_12vR, own16, X17⟩
set_option maxHeartbeats 4000000 in
theorem c130 (p0 : Nat) (p0r : Nat) (r : Bool) (w : World) (hr : M.impl_IsFinite p0 = r) (p0h : cn .f32 p0r = p0) :
    Calls Tryd.prog 130 #[.float .f32 p0r] w fun e w' => e = .returned (.bool r) ∧ Ext w w' := by
  refine calls_of_W Tryd.func130 rfl (Nat.le_of_ble_eq_true rfl) ?_
  refine W_seq ?_
  refine W_region rfl ?_
  refine da_op rfl (d_as (v := .bool false) rfl ?_)
  refine da_nil ?_
  refine W_seq ?_
  refine W_region rfl ?_
  refine da_op rfl (d_mv (v := .float .f32 p0r) rfl ?_)
  refine da_op rfl (d_mv (v := .float .f32 p0r) rfl ?_)
  refine da_op rfl (d_fop (k := .f32) fSub rfl rfl p0h p0h fun r1 w1 h1 _ E1 => ?_)
  have X2 : Ext w w1 := (Ext.refl w).trans E1
  refine da_op rfl (d_fcmp (k := .f32) cEql rfl rfl h1 cn_f32_0 ?_)
  refine da_op rfl (d_as (v := .bool (fcmp .eql .f32 (fop .sub .f32 p0 p0) 0)) rfl ?_)
  refine da_nil ?_
  refine W_ret ?_
  subst hr
  refine ⟨_, res1 (rv_tmp rfl), ?_⟩
  exact ⟨rfl, X2⟩
set_option maxHeartbeats 4000000 in
theorem c161 (p0 : Nat) (p0r : Nat) (r : Bool) (w : World) (hr : M.impl_finite_1 p0 = r) (p0h : cn .f32 p0r = p0) :
    Calls Tryd.prog 161 #[.float .f32 p0r] w fun e w' => e = .returned (.bool r) ∧ Ext w w' := by
  refine calls_of_W Tryd.func161 rfl (Nat.le_of_ble_eq_true rfl) ?_
  refine W_seq ?_
  refine W_region rfl ?_
  refine da_op rfl (d_as (v := .bool false) rfl ?_)
  refine da_nil ?_
  refine W_seq ?_
  refine W_region rfl ?_
  refine da_op rfl (d_mv (v := .float .f32 p0r) rfl ?_)
  obtain ⟨m1, hm1, hr⟩ := letv_out hr
  refine da_op rfl (d_cl (vs := [.float .f32 p0r]) en130 (ac rfl rfl) rfl ?_)
  refine (c130 p0 p0r m1 w hm1 p0h).mono ?_
  rintro _ w2 ⟨rfl, E2⟩
  refine ⟨_, rfl, ?_⟩
  have X3 : Ext w w2 := (Ext.refl w).trans E2
  refine da_op rfl (d_not rfl ?_)
  refine da_op rfl (d_as (v := .bool (!m1)) rfl ?_)
  refine da_nil ?_
  refine W_ret ?_
  subst hr
  refine ⟨_, res1 (rv_tmp rfl), ?_⟩
  exact ⟨rfl, X3⟩
set_option maxHeartbeats 4000000 in
theorem c179_f161 (p0 : List Nat) (p0v : Value) (r : Int) (w : World) (hr : M.slices_IndexFunc___float32_float32__f161 p0 = some r) (p0R : RS w encF_f32 p0v p0) :
    Calls Tryd.prog 179 #[p0v, .func (.func 161) #[] #[]] w fun e w' => e = .returned (.int .i64 r) ∧ Ext w w' := by
  refine calls_of_W Tryd.func179 rfl (Nat.le_of_ble_eq_true rfl) ?_
  refine W_seq ?_
  refine W_region rfl ?_
  refine da_op rfl (d_as (v := .int .i64 0) rfl ?_)
  refine da_nil ?_
  refine W_seq ?_
  refine W_seq ?_
  refine W_region rfl ?_
  refine da_op rfl (d_mv (v := p0v) rfl ?_)
  refine da_op rfl (d_len (e := encF_f32) un53 rfl p0R ?_)
  refine da_op rfl (d_mv (v := .int .i64 0) rfl ?_)
  refine da_nil ?_
  refine W_block ?_
  obtain ⟨m1, hm1, hr⟩ := bind_out hr
  refine W_loopM hm1 (fun (s1 : Int) σ w' => σ 8 = .int .i64 s1 ∧ σ 0 = p0v ∧ σ 1 = .func (.func 161) #[] #[] ∧ σ 7 = .int .i64 ((p0).length : Int) ∧ Ext w w') (fun (e1 : (Unit ⊕ Int)) ex σ w' => sel e1 (fun e1 => ex = .exit 0 ∧ Ext w w') (fun e1 => ex = .ret ∧ σ 4 = .int .i64 e1 ∧ Ext w w')) ⟨rfl, rfl, rfl, rfl, (Ext.refl w)⟩ ?_ ?_
  · skip
    rintro s1 σl1 wl1 r1l ⟨i1_S8, i1_S0, i1_S1, i1_S7, i1_X⟩ hr
    refine W_seq ?_
    refine W_region rfl ?_
    refine da_op rfl (d_icmp cLss i1_S8 i1_S7 ?_)
    refine da_nil ?_
    refine W_seq ?_
    refine W_cond (b := (icmp .lss s1 ((p0).length : Int))) rfl (fun hc2 => ?_) (fun hc2 => ?_)
    · skip
      replace hr := bif_t hr hc2
      refine W_skip ?_
      refine W_seq ?_
      refine W_block ?_
      refine W_seq ?_
      refine W_region rfl ?_
      refine da_op rfl (d_mv (v := .int .i64 s1) i1_S8 ?_)
      refine da_op rfl (d_as (v := .int .i64 s1) rfl ?_)
      refine da_nil ?_
      refine W_seq ?_
      refine W_region rfl ?_
      refine da_op rfl (d_mv (v := .func (.func 161) #[] #[]) i1_S1 ?_)
      refine da_op rfl (d_mv (v := p0v) i1_S0 ?_)
      refine da_op rfl (d_mv (v := .int .i64 s1) rfl ?_)
      obtain ⟨m3, hm3, hr⟩ := bind_out hr
      have B5 : RS wl1 encF_f32 p0v p0 := p0R.ext i1_X
      refine da_op rfl (d_index (e := encF_f32) (v := p0v) un53 size22 rfl rfl B5 hm3 fun g4 o4 cu4 T4 fr4 vs4 hv4 hg4 hp4 hq4 => ?_)
      obtain ⟨e4_r0, rfl, e4_h0⟩ := dec_encF_f32 hq4
      refine da_op rfl (d_load (v := .float .f32 e4_r0) rfl agg22 hg4 (sub_get (vs := #[.float .f32 e4_r0]) hp4 (i := 0) rfl) ?_)
      obtain ⟨m6, hm6, hr⟩ := letv_out hr
      refine da_op rfl (d_clv (vs := [.float .f32 e4_r0]) (cap := []) en161 rfl (ac rfl rfl) ?_)
      refine (c161 m3 e4_r0 m6 wl1 hm6 e4_h0).mono ?_
      rintro _ w7 ⟨rfl, E7⟩
      refine ⟨_, rfl, ?_⟩
      have X8 : Ext w w7 := i1_X.trans E7
      refine da_nil ?_
      refine W_cond (b := m6) rfl (fun hc9 => ?_) (fun hc9 => ?_)
      · skip
        replace hr := bif_t hr hc9
        refine W_seq ?_
        refine W_region rfl ?_
        refine da_op rfl (d_mv (v := .int .i64 s1) rfl ?_)
        refine da_op rfl (d_as (v := .int .i64 s1) rfl ?_)
        refine da_nil ?_
        refine W_ret ?_
        obtain rfl := Option.some.inj hr
        exact ⟨_, rfl, rfl, rfl, X8⟩
      · skip
        replace hr := bif_f hr hc9
        refine W_skip ?_
        refine W_region rfl ?_
        refine da_op rfl (d_iarith i1_S8 rfl (.inl ⟨rfl, rfl⟩) ?_)
        refine da_op rfl (d_mv (v := .int .i64 (IntKind.i64.wrap (s1 + 1))) rfl ?_)
        refine da_nil ?_
        obtain rfl := Option.some.inj hr
        exact ⟨_, rfl, ⟨rfl, i1_S0, i1_S1, i1_S7, X8⟩⟩
    · skip
      replace hr := bif_f hr hc2
      refine W_exit ?_
      obtain rfl := Option.some.inj hr
      exact ⟨_, rfl, rfl, i1_X⟩
  · skip
    intro ex σx1 wx1 hq
    rcases m1 with m1 | m1
    · skip
      obtain ⟨rfl, q1_0_X⟩ := hq
      refine W_seq ?_
      refine W_region rfl ?_
      refine da_op rfl (d_as (v := .int .i64 (-1)) rfl ?_)
      refine da_nil ?_
      refine W_ret ?_
      obtain rfl := Option.some.inj hr
      refine ⟨_, res1 (rv_tmp rfl), ?_⟩
      exact ⟨rfl, q1_0_X⟩
    · skip
      obtain ⟨rfl, q1_1_S4, q1_1_X⟩ := hq
      obtain rfl := Option.some.inj hr
      refine ⟨_, res1 (rv_tmp q1_1_S4), ?_⟩
      exact ⟨rfl, q1_1_X⟩
set_option maxHeartbeats 4000000 in
theorem c142_f161 (p0 : List Nat) (p0v : Value) (r : Bool) (w : World) (hr : M.slices_ContainsFunc___float32_float32__f161 p0 = some r) (p0R : RS w encF_f32 p0v p0) :
    Calls Tryd.prog 142 #[p0v, .func (.func 161) #[] #[]] w fun e w' => e = .returned (.bool r) ∧ Ext w w' := by
  refine calls_of_W Tryd.func142 rfl (Nat.le_of_ble_eq_true rfl) ?_
  refine W_seq ?_
  refine W_region rfl ?_
  refine da_op rfl (d_as (v := .bool false) rfl ?_)
  refine da_nil ?_
  refine W_seq ?_
  refine W_region rfl ?_
  refine da_op rfl (d_mv (v := p0v) rfl ?_)
  refine da_op rfl (d_mv (v := .func (.func 161) #[] #[]) rfl ?_)
  obtain ⟨m1, hm1, hr⟩ := bind_out hr
  refine da_op rfl (d_cl (vs := [p0v, .func (.func 161) #[] #[]]) en179 (ac rfl (ac rfl rfl)) rfl ?_)
  refine (c179_f161 p0 p0v m1 w hm1 p0R).mono ?_
  rintro _ w2 ⟨rfl, E2⟩
  refine ⟨_, rfl, ?_⟩
  have X3 : Ext w w2 := (Ext.refl w).trans E2
  refine da_op rfl (d_icmp cGeq rfl rfl ?_)
  refine da_op rfl (d_as (v := .bool (icmp .geq m1 0)) rfl ?_)
  refine da_nil ?_
  refine W_ret ?_
  obtain rfl := Option.some.inj hr
  refine ⟨_, res1 (rv_tmp rfl), ?_⟩
  exact ⟨rfl, X3⟩
set_option maxHeartbeats 4000000 in
theorem c107 (p0 : List Nat) (p0v : Value) (r : Bool) (w : World) (hr : M.impl_finite p0 = some r) (p0R : RS w encF_f32 p0v p0) :
    Calls Tryd.prog 107 #[p0v] w fun e w' => e = .returned (.bool r) ∧ Ext w w' := by
  refine calls_of_W Tryd.func107 rfl (Nat.le_of_ble_eq_true rfl) ?_
  refine W_seq ?_
  refine W_region rfl ?_
  refine da_op rfl (d_as (v := .bool false) rfl ?_)
  refine da_nil ?_
  refine W_seq ?_
  refine W_region rfl ?_
  refine da_op rfl (d_mv (v := p0v) rfl ?_)
  obtain ⟨m1, hm1, hr⟩ := bind_out hr
  refine da_op rfl (d_cl (vs := [p0v, .func (.func 161) #[] #[]]) en142 (ac rfl (ac rfl rfl)) rfl ?_)
  refine (c142_f161 p0 p0v m1 w hm1 p0R).mono ?_
  rintro _ w2 ⟨rfl, E2⟩
  refine ⟨_, rfl, ?_⟩
  have X3 : Ext w w2 := (Ext.refl w).trans E2
  refine da_op rfl (d_not rfl ?_)
  refine da_op rfl (d_as (v := .bool (!m1)) rfl ?_)
  refine da_nil ?_
  refine W_ret ?_
  obtain rfl := Option.some.inj hr
  refine ⟨_, res1 (rv_tmp rfl), ?_⟩
  exact ⟨rfl, X3⟩
set_option maxHeartbeats 4000000 in
theorem c50 (p0 : SSwing) (p0r0 : Nat) (p0r1 : Nat) (p0r2 : Nat) (r : Bool) (w : World) (hr : M.impl_ValidSwing p0 = some r) (p0h0 : cn .f32 p0r0 = p0.turn) (p0h1 : cn .f32 p0r1 = p0.speed) (p0h2 : cn .f32 p0r2 = p0.time) :
    Calls Tryd.prog 50 #[.agg #[.float .f32 p0r0, .float .f32 p0r1, .float .f32 p0r2]] w fun e w' => e = .returned (.bool r) ∧ Ext w w' := by
  refine calls_of_W Tryd.func50 rfl (Nat.le_of_ble_eq_true rfl) ?_
  refine W_seq ?_
  refine W_region rfl ?_
  refine da_op rfl (d_box (cs := #[.float .f32 p0r0, .float .f32 p0r1, .float .f32 p0r2]) rfl fun w1 B1 E1 => ?_)
  have own2 : w.heap.size ≤ w.heap.size := Nat.le_trans (Ext.refl w).size (Nat.le_refl _)
  have X3 : Ext w w1 := (Ext.refl w).trans E1
  refine da_op rfl (d_as (v := .bool false) rfl ?_)
  refine da_nil ?_
  refine W_seq ?_
  refine W_region rfl ?_
  obtain ⟨m4, hm4, hr⟩ := letv_out hr
  refine da_op rfl (d_cl (vs := [.pointer (some ⟨w.heap.size, 0, none⟩)]) en108 (ac rfl rfl) rfl ?_)
  refine (c108 p0 w.heap.size 0 #[.float .f32 p0r0, .float .f32 p0r1, .float .f32 p0r2] 24 (0, 0) p0r0 p0r1 p0r2 m4 w1 hm4 p0h0 p0h1 p0h2 B1 rfl).mono ?_
  rintro _ w5 ⟨q5_0v, rfl, q5_0R, q5_0F, E5⟩
  refine ⟨_, rfl, ?_⟩
  have own6 : ∀ k, q5_0v.ownBlock = some k → w.heap.size ≤ k := fun k hk => Nat.le_trans X3.size (q5_0F k hk)
  have sp7 : ¬ q5_0v.ownBlock = some w.heap.size := ne_fresh q5_0F (lt_heap B1)
  have X8 : Ext w w5 := X3.trans E5
  obtain ⟨m9, hm9, hr⟩ := bind_out hr
  have B10 : w5.heap[w.heap.size]? = some (.cells #[.float .f32 p0r0, .float .f32 p0r1, .float .f32 p0r2] 24 (0, 0)) := E5.heap B1
  refine da_op rfl (d_cl (vs := [q5_0v]) en107 (ac rfl rfl) rfl ?_)
  refine (c107 m4 q5_0v m9 w5 hm9 q5_0R.rs).mono ?_
  rintro _ w11 ⟨rfl, E11⟩
  refine ⟨_, rfl, ?_⟩
  have X12 : Ext w w11 := X8.trans E11
  refine da_op rfl (d_as (v := .bool m9) rfl ?_)
  refine da_nil ?_
  refine W_ret ?_
  obtain rfl := Option.some.inj hr
  refine ⟨_, res1 (rv_tmp rfl), ?_⟩
  exact ⟨rfl, X12⟩
set_option maxHeartbeats 4000000 in
theorem c12 (p0 : List UInt8) (r : SSwing × Bool) (w : World) (hr : M.impl_ReadSwing p0 = some r)  :
    Calls Tryd.prog 12 #[.string (bs p0)] w fun e w' => ∃ q0r0 : Nat, ∃ q0r1 : Nat, ∃ q0r2 : Nat, e = .returned (.tuple #[.agg #[.float .f32 q0r0, .float .f32 q0r1, .float .f32 q0r2], .bool r.2]) ∧ cn .f32 q0r0 = r.1.turn ∧ cn .f32 q0r1 = r.1.speed ∧ cn .f32 q0r2 = r.1.time ∧ Ext w w' := by
  refine calls_of_W Tryd.func12 rfl (Nat.le_of_ble_eq_true rfl) ?_
  refine W_seq ?_
  refine W_region rfl ?_
  refine da_op rfl (d_alloc (cs := #[.float .f32 0, .float .f32 0, .float .f32 0]) zero24 rfl fun w1 B1 E1 => ?_)
  have own2 : w.heap.size ≤ w.heap.size := Nat.le_trans (Ext.refl w).size (Nat.le_refl _)
  have X3 : Ext w w1 := (Ext.refl w).trans E1
  refine da_op rfl (d_as (v := .bool false) rfl ?_)
  refine da_nil ?_
  refine W_seq ?_
  refine W_region rfl ?_
  refine da_op rfl (d_mv (v := .string (bs p0)) rfl ?_)
  obtain ⟨m4, hm4, hr⟩ := bind_out hr
  refine da_op rfl (d_cl (vs := [.string (bs p0), .int .i64 3]) en49 (ac rfl (ac rfl rfl)) rfl ?_)
  refine (c49 p0 3 m4 w1 hm4 ).mono ?_
  rintro _ w5 ⟨q5_0v, rfl, q5_0R, q5_0F, E5⟩
  refine ⟨_, rfl, ?_⟩
  have own6 : ∀ k, q5_0v.ownBlock = some k → w.heap.size ≤ k := fun k hk => Nat.le_trans X3.size (q5_0F k hk)
  have sp7 : ¬ q5_0v.ownBlock = some w.heap.size := ne_fresh q5_0F (lt_heap B1)
  have X8 : Ext w w5 := X3.trans E5
  refine da_op rfl (d_mv (v := .tuple #[q5_0v, .bool m4.2]) rfl ?_)
  refine da_op rfl (d_extract (v := q5_0v) rfl rfl ?_)
  refine da_op rfl (d_extract (v := .bool m4.2) rfl rfl ?_)
  refine da_op rfl (d_as (v := q5_0v) rfl ?_)
  refine da_op rfl (d_as (v := .bool m4.2) rfl ?_)
  refine da_nil ?_
  refine W_seq ?_
  have B10 : w5.heap[w.heap.size]? = some (.cells #[.float .f32 0, .float .f32 0, .float .f32 0] 24 (0, 0)) := E5.heap B1
  obtain ⟨m11, hm11, hr⟩ := bind_out hr
  obtain ⟨m12, hm12, hr⟩ := bind_out hr
  obtain ⟨m13, hm13, hr⟩ := bind_out hr
  refine W_any [(fun k t => w5.heap.size ≤ k ∧ t = some 24)] [{ V := fun _ v _ => v = q5_0v }, { V := fun _ v _ => ∃ d9_1g : Nat, ∃ d9_1o : Nat, v = (.pointer (some ⟨d9_1g, d9_1o, none⟩)) ∧ EL encF_f32 q5_0v (m4.1).length 0 d9_1g d9_1o }, { V := fun _ v _ => ∃ d9_1r0 : Nat, v = (.float .f32 d9_1r0) ∧ cn .f32 d9_1r0 = m11 }, { V := fun _ v _ => v = q5_0v }, { V := fun _ v _ => ∃ d9_4g : Nat, ∃ d9_4o : Nat, v = (.pointer (some ⟨d9_4g, d9_4o, none⟩)) ∧ EL encF_f32 q5_0v (m4.1).length 1 d9_4g d9_4o }, { V := fun _ v _ => ∃ d9_4r0 : Nat, v = (.float .f32 d9_4r0) ∧ cn .f32 d9_4r0 = m12 }, { V := fun _ v _ => v = q5_0v }, { V := fun _ v _ => ∃ d9_7g : Nat, ∃ d9_7o : Nat, v = (.pointer (some ⟨d9_7g, d9_7o, none⟩)) ∧ EL encF_f32 q5_0v (m4.1).length 2 d9_7g d9_7o }, { V := fun _ v _ => ∃ d9_7r0 : Nat, v = (.float .f32 d9_7r0) ∧ cn .f32 d9_7r0 = m13 }, { V := fun _ v _ => ∃ d9_1r0 : Nat, ∃ d9_4r0 : Nat, ∃ d9_7r0 : Nat, v = (.agg #[.float .f32 d9_1r0, .float .f32 d9_4r0, .float .f32 d9_7r0]) ∧ cn .f32 d9_1r0 = m11 ∧ cn .f32 d9_4r0 = m12 ∧ cn .f32 d9_7r0 = m13 }, { V := fun _ v w' => ∃ d9_10b : Nat, ∃ d9_10c : Array Value, v = (.pointer (some ⟨d9_10b, 0, none⟩)) ∧ w5.heap.size ≤ d9_10b ∧ w'.heap[d9_10b]? = some (.cells d9_10c 24 (0, 0)) ∧ d9_10c.size = 3 }, ⟨fun sg _ w' => ∃ d9_10b : Nat, ∃ d9_1r0 : Nat, ∃ d9_4r0 : Nat, ∃ d9_7r0 : Nat, sg 6 = .pointer (some ⟨d9_10b, 0, none⟩) ∧ w'.heap[d9_10b]? = some (.cells #[.float .f32 d9_1r0, .float .f32 d9_4r0, .float .f32 d9_7r0] 24 (0, 0)) ∧ cn .f32 d9_1r0 = m11 ∧ cn .f32 d9_4r0 = m12 ∧ cn .f32 d9_7r0 = m13, some 0, fun _ => True⟩] mixed (by kernel_rfl) ⟨trivial, trivial, trivial, trivial, trivial, trivial, trivial, trivial, trivial, trivial, trivial, trivial, trivial⟩ ⟨?_, ?_, ?_, ?_, ?_, ?_, ?_, ?_, ?_, ?_, ?_, ?_, trivial⟩ ?_
  · skip
    refine ⟨fun _ _ _ _ _ _ h _ => h, fun _ _ h _ => h, fun σ' w' hA hE hD hP => ?_⟩
    have t4 : σ' 4 = q5_0v := (hA 4 rfl).trans rfl
    have B0_14 : OS w' 22 encF_f32 q5_0v m4.1 := q5_0R.frm hE (fun k hk => (not_oth1 ((not_newT_row q5_0R) k hk)))
    refine dg_op rfl (d_mv (v := q5_0v) t4 ?_)
    exact ⟨rfl, own_none (Ext.refl w')⟩
  · skip
    refine ⟨fun _ _ _ _ _ _ h _ => h, fun _ _ h _ => h, fun σ' w' hA hE hD hP => ?_⟩
    have t12 : σ' 12 = q5_0v := hD 0 rfl
    have B0_15 : OS w' 22 encF_f32 q5_0v m4.1 := q5_0R.frm hE (fun k hk => (not_oth1 ((not_newT_row q5_0R) k hk)))
    refine dg_op rfl (d_indexE (e := encF_f32) (v := q5_0v) un53 size22 t12 rfl B0_15.rs hm11 fun g16 o16 l16 => ?_)
    exact ⟨⟨g16, o16, rfl, l16⟩, own_none (Ext.refl _)⟩
  · skip
    refine ⟨fun _ _ _ _ _ _ h _ => h, fun _ _ h _ => h, fun σ' w' hA hE hD hP => ?_⟩
    obtain ⟨d9_1g, d9_1o, t13, d9_1gE⟩ : ∃ d9_1g : Nat, ∃ d9_1o : Nat, σ' 13 = (.pointer (some ⟨d9_1g, d9_1o, none⟩)) ∧ EL encF_f32 q5_0v (m4.1).length 0 d9_1g d9_1o := hD 1 rfl
    have B0_17 : OS w' 22 encF_f32 q5_0v m4.1 := q5_0R.frm hE (fun k hk => (not_oth1 ((not_newT_row q5_0R) k hk)))
    obtain ⟨d9_1c, d9_1T, d9_1f, d9_1vs, d9_1hg, d9_1P, d9_1hq⟩ := RS.el B0_17.rs d9_1gE hm11
    obtain ⟨d9_1r0, rfl, d9_1h0⟩ := dec_encF_f32 d9_1hq
    refine dg_op rfl (d_load (v := .float .f32 d9_1r0) t13 agg22 d9_1hg (sub_get (vs := #[.float .f32 d9_1r0]) d9_1P (i := 0) rfl) ?_)
    exact ⟨⟨d9_1r0, rfl, d9_1h0⟩, own_none (Ext.refl w')⟩
  · skip
    refine ⟨fun _ _ _ _ _ _ h _ => h, fun _ _ h _ => h, fun σ' w' hA hE hD hP => ?_⟩
    have t4 : σ' 4 = q5_0v := (hA 4 rfl).trans rfl
    have B0_18 : OS w' 22 encF_f32 q5_0v m4.1 := q5_0R.frm hE (fun k hk => (not_oth1 ((not_newT_row q5_0R) k hk)))
    refine dg_op rfl (d_mv (v := q5_0v) t4 ?_)
    exact ⟨rfl, own_none (Ext.refl w')⟩
  · skip
    refine ⟨fun _ _ _ _ _ _ h _ => h, fun _ _ h _ => h, fun σ' w' hA hE hD hP => ?_⟩
    have t15 : σ' 15 = q5_0v := hD 3 rfl
    have B0_19 : OS w' 22 encF_f32 q5_0v m4.1 := q5_0R.frm hE (fun k hk => (not_oth1 ((not_newT_row q5_0R) k hk)))
    refine dg_op rfl (d_indexE (e := encF_f32) (v := q5_0v) un53 size22 t15 rfl B0_19.rs hm12 fun g20 o20 l20 => ?_)
    exact ⟨⟨g20, o20, rfl, l20⟩, own_none (Ext.refl _)⟩
  · skip
    refine ⟨fun _ _ _ _ _ _ h _ => h, fun _ _ h _ => h, fun σ' w' hA hE hD hP => ?_⟩
    obtain ⟨d9_4g, d9_4o, t16, d9_4gE⟩ : ∃ d9_4g : Nat, ∃ d9_4o : Nat, σ' 16 = (.pointer (some ⟨d9_4g, d9_4o, none⟩)) ∧ EL encF_f32 q5_0v (m4.1).length 1 d9_4g d9_4o := hD 4 rfl
    have B0_21 : OS w' 22 encF_f32 q5_0v m4.1 := q5_0R.frm hE (fun k hk => (not_oth1 ((not_newT_row q5_0R) k hk)))
    obtain ⟨d9_4c, d9_4T, d9_4f, d9_4vs, d9_4hg, d9_4P, d9_4hq⟩ := RS.el B0_21.rs d9_4gE hm12
    obtain ⟨d9_4r0, rfl, d9_4h0⟩ := dec_encF_f32 d9_4hq
    refine dg_op rfl (d_load (v := .float .f32 d9_4r0) t16 agg22 d9_4hg (sub_get (vs := #[.float .f32 d9_4r0]) d9_4P (i := 0) rfl) ?_)
    exact ⟨⟨d9_4r0, rfl, d9_4h0⟩, own_none (Ext.refl w')⟩
  · skip
    refine ⟨fun _ _ _ _ _ _ h _ => h, fun _ _ h _ => h, fun σ' w' hA hE hD hP => ?_⟩
    have t4 : σ' 4 = q5_0v := (hA 4 rfl).trans rfl
    have B0_22 : OS w' 22 encF_f32 q5_0v m4.1 := q5_0R.frm hE (fun k hk => (not_oth1 ((not_newT_row q5_0R) k hk)))
    refine dg_op rfl (d_mv (v := q5_0v) t4 ?_)
    exact ⟨rfl, own_none (Ext.refl w')⟩
  · skip
    refine ⟨fun _ _ _ _ _ _ h _ => h, fun _ _ h _ => h, fun σ' w' hA hE hD hP => ?_⟩
    have t18 : σ' 18 = q5_0v := hD 6 rfl
    have B0_23 : OS w' 22 encF_f32 q5_0v m4.1 := q5_0R.frm hE (fun k hk => (not_oth1 ((not_newT_row q5_0R) k hk)))
    refine dg_op rfl (d_indexE (e := encF_f32) (v := q5_0v) un53 size22 t18 rfl B0_23.rs hm13 fun g24 o24 l24 => ?_)
    exact ⟨⟨g24, o24, rfl, l24⟩, own_none (Ext.refl _)⟩
  · skip
    refine ⟨fun _ _ _ _ _ _ h _ => h, fun _ _ h _ => h, fun σ' w' hA hE hD hP => ?_⟩
    obtain ⟨d9_7g, d9_7o, t19, d9_7gE⟩ : ∃ d9_7g : Nat, ∃ d9_7o : Nat, σ' 19 = (.pointer (some ⟨d9_7g, d9_7o, none⟩)) ∧ EL encF_f32 q5_0v (m4.1).length 2 d9_7g d9_7o := hD 7 rfl
    have B0_25 : OS w' 22 encF_f32 q5_0v m4.1 := q5_0R.frm hE (fun k hk => (not_oth1 ((not_newT_row q5_0R) k hk)))
    obtain ⟨d9_7c, d9_7T, d9_7f, d9_7vs, d9_7hg, d9_7P, d9_7hq⟩ := RS.el B0_25.rs d9_7gE hm13
    obtain ⟨d9_7r0, rfl, d9_7h0⟩ := dec_encF_f32 d9_7hq
    refine dg_op rfl (d_load (v := .float .f32 d9_7r0) t19 agg22 d9_7hg (sub_get (vs := #[.float .f32 d9_7r0]) d9_7P (i := 0) rfl) ?_)
    exact ⟨⟨d9_7r0, rfl, d9_7h0⟩, own_none (Ext.refl w')⟩
  · skip
    refine ⟨fun _ _ _ _ _ _ h _ => h, fun _ _ h _ => h, fun σ' w' hA hE hD hP => ?_⟩
    obtain ⟨d9_1r0, t14, d9_1h0⟩ : ∃ d9_1r0 : Nat, σ' 14 = (.float .f32 d9_1r0) ∧ cn .f32 d9_1r0 = m11 := hD 2 rfl
    obtain ⟨d9_4r0, t17, d9_4h0⟩ : ∃ d9_4r0 : Nat, σ' 17 = (.float .f32 d9_4r0) ∧ cn .f32 d9_4r0 = m12 := hD 5 rfl
    obtain ⟨d9_7r0, t20, d9_7h0⟩ : ∃ d9_7r0 : Nat, σ' 20 = (.float .f32 d9_7r0) ∧ cn .f32 d9_7r0 = m13 := hD 8 rfl
    refine dg_op rfl (d_bd (vs := [(0, .float .f32 d9_1r0), (1, .float .f32 d9_4r0), (2, .float .f32 d9_7r0)]) (cs := #[.float .f32 d9_1r0, .float .f32 d9_4r0, .float .f32 d9_7r0]) (pc t14 (pc t17 (pc t20 rfl))) (by kernel_rfl) ?_)
    exact ⟨⟨d9_1r0, d9_4r0, d9_7r0, rfl, d9_1h0, d9_4h0, d9_7h0⟩, own_none (Ext.refl w')⟩
  · skip
    refine ⟨fun _ _ _ w' w'' _ ⟨d9_10b, d9_10c, hv, d9_10ble, d9_10bB, d9_10bZ⟩ hF => let ⟨c2, hB2, hZ2⟩ := hF.shape _ _ _ _ d9_10bB; ⟨d9_10b, c2, hv, d9_10ble, hB2, (hZ2.trans d9_10bZ)⟩, fun _ _ h _ => h, fun σ' w' hA hE hD hP => ?_⟩
    refine dg_op rfl (d_alloc (cs := #[.float .f32 0, .float .f32 0, .float .f32 0]) zero24 rfl fun w26 B26 E26 => ?_)
    have X28 : Ext w' w26 := (Ext.refl w').trans E26
    exact ⟨⟨w'.heap.size, #[.float .f32 0, .float .f32 0, .float .f32 0], rfl, hE.size, B26, rfl⟩, own_none X28⟩
  · skip
    refine ⟨fun _ _ _ w' w'' hs ⟨d9_10b, d9_1r0, d9_4r0, d9_7r0, hb, hB, d9_1h0, d9_4h0, d9_7h0⟩ hF => ⟨d9_10b, d9_1r0, d9_4r0, d9_7r0, (hs 10 rfl).trans hb, hF.heap not_oth1s hB, d9_1h0, d9_4h0, d9_7h0⟩, fun _ _ h _ => h, fun σ' w' hA hE hD hP => ?_⟩
    obtain ⟨d9_10b, d9_10c, t6, d9_10ble, d9_10bB, d9_10bZ⟩ : ∃ d9_10b : Nat, ∃ d9_10c : Array Value, σ' 6 = (.pointer (some ⟨d9_10b, 0, none⟩)) ∧ w5.heap.size ≤ d9_10b ∧ w'.heap[d9_10b]? = some (.cells d9_10c 24 (0, 0)) ∧ d9_10c.size = 3 := hD 10 rfl
    obtain ⟨d9_1r0, d9_4r0, d9_7r0, t21, d9_1h0, d9_4h0, d9_7h0⟩ : ∃ d9_1r0 : Nat, ∃ d9_4r0 : Nat, ∃ d9_7r0 : Nat, σ' 21 = (.agg #[.float .f32 d9_1r0, .float .f32 d9_4r0, .float .f32 d9_7r0]) ∧ cn .f32 d9_1r0 = m11 ∧ cn .f32 d9_4r0 = m12 ∧ cn .f32 d9_7r0 = m13 := hD 9 rfl
    refine dg_op rfl (d_store_new (vs := #[.float .f32 d9_1r0, .float .f32 d9_4r0, .float .f32 d9_7r0]) t6 (congrArg Value.cells t21) d9_10bB d9_10bZ size24 rfl rfl fun w29 S29 => ?_)
    exact ⟨⟨d9_10b, d9_1r0, d9_4r0, d9_7r0, t6, S29.here, d9_1h0, d9_4h0, d9_7h0⟩, own_some (j := 0) rfl (S29.frm.mono (fun k t h => ⟨h.1 ▸ d9_10ble, h.2⟩))⟩
  · skip
    intro σ9 w9 A9 E9 V9
    obtain ⟨z9_6_10b, z9_6_10c, s6_9, z9_6_10ble, z9_6_10bB, z9_6_10bZ⟩ : ∃ z9_6_10b : Nat, ∃ z9_6_10c : Array Value, σ9 6 = (.pointer (some ⟨z9_6_10b, 0, none⟩)) ∧ w5.heap.size ≤ z9_6_10b ∧ w9.heap[z9_6_10b]? = some (.cells z9_6_10c 24 (0, 0)) ∧ z9_6_10c.size = 3 := V9 10 (Nat.le_of_ble_eq_true rfl)
    obtain ⟨z9_m0_10b, z9_m0_1r0, z9_m0_4r0, z9_m0_7r0, hbn9, hBn9, z9_m0_1h0, z9_m0_4h0, z9_m0_7h0⟩ : ∃ z9_m0_10b : Nat, ∃ z9_m0_1r0 : Nat, ∃ z9_m0_4r0 : Nat, ∃ z9_m0_7r0 : Nat, σ9 6 = .pointer (some ⟨z9_m0_10b, 0, none⟩) ∧ w9.heap[z9_m0_10b]? = some (.cells #[.float .f32 z9_m0_1r0, .float .f32 z9_m0_4r0, .float .f32 z9_m0_7r0] 24 (0, 0)) ∧ cn .f32 z9_m0_1r0 = m11 ∧ cn .f32 z9_m0_4r0 = m12 ∧ cn .f32 z9_m0_7r0 = m13 := V9 11 (Nat.le_of_ble_eq_true rfl)
    have hen9 : z9_m0_10b = z9_6_10b := by have := hbn9.symm.trans s6_9; simp only [Value.pointer.injEq, Option.some.injEq, Addr.mk.injEq] at this; exact this.1
    rw [hen9] at hBn9
    have own30 : w.heap.size ≤ z9_6_10b := Nat.le_trans X8.size z9_6_10ble
    have sp31 : w.heap.size ≠ z9_6_10b := Nat.ne_of_lt (Nat.lt_of_lt_of_le (lt_heap B10) z9_6_10ble)
    have sp32 : ¬ q5_0v.ownBlock = some z9_6_10b := OS.ne_new q5_0R z9_6_10ble
    have s2_9 : σ9 2 = .pointer (some ⟨w.heap.size, 0, none⟩) := (A9 2 rfl).trans rfl
    have s5_9 : σ9 5 = .bool m4.2 := (A9 5 rfl).trans rfl
    have X33 : Ext w w9 := Ext.step X8 E9 (oth_own1 (fun k _ hk => Nat.le_trans X8.size hk.1))
    refine W_seq ?_
    refine W_seq ?_
    have B35 : w9.heap[w.heap.size]? = some (.cells #[.float .f32 0, .float .f32 0, .float .f32 0] 24 (0, 0)) := E9.heap (not_oth1 (not_newT_box B10)) B10
    obtain ⟨m34, hm34, hr⟩ := bind_out hr
    refine W_cut (fun σ' w' => σ' 28 = .bool m34 ∧ Ext w9 w') rfl ?_ ?_
    · skip
      have hr := hm34
      refine da_op rfl (d_mv (v := .bool m4.2) s5_9 ?_)
      refine da_op rfl (d_not rfl ?_)
      refine da_op rfl (d_mv (v := .bool (!m4.2)) rfl ?_)
      rcases Bool.eq_false_or_eq_true m4.2 with hc36 | hc36
      · skip
        replace hr := bif_t hr hc36
        refine da_on rfl (Eq.trans (show sl _ _ _ = .bool (!m4.2) from rfl) (congrArg Value.bool (congrArg not hc36))) (d_loads (vs := #[.float .f32 z9_m0_1r0, .float .f32 z9_m0_4r0, .float .f32 z9_m0_7r0]) s6_9 agg24 size24 hBn9 rfl ?_)
        obtain ⟨m37, hm37, hr⟩ := bind_out hr
        refine da_on rfl (Eq.trans (show sl _ _ _ = .bool (!m4.2) from rfl) (congrArg Value.bool (congrArg not hc36))) (d_cl (vs := [.agg #[.float .f32 z9_m0_1r0, .float .f32 z9_m0_4r0, .float .f32 z9_m0_7r0]]) en50 (ac rfl rfl) rfl ?_)
        refine (c50 (⟨m11, m12, m13⟩ : SSwing) z9_m0_1r0 z9_m0_4r0 z9_m0_7r0 m37 w9 hm37 z9_m0_1h0 z9_m0_4h0 z9_m0_7h0).mono ?_
        rintro _ w38 ⟨rfl, E38⟩
        refine ⟨_, rfl, ?_⟩
        have X39 : Ext w w38 := X33.trans E38
        refine da_on rfl (Eq.trans (show sl _ _ _ = .bool (!m4.2) from rfl) (congrArg Value.bool (congrArg not hc36))) (d_not rfl ?_)
        refine da_op rfl (d_pick (b := false) (Eq.trans (show ev _ _ = .bool (!m4.2) from rfl) (congrArg Value.bool (congrArg not hc36))) ?_)
        refine da_nil ?_
        obtain rfl := Option.some.inj hr
        exact ⟨rfl, (Ext.trans (Ext.refl w9) E38)⟩
      · skip
        replace hr := bif_f hr hc36
        refine da_off rfl (Eq.trans (show sl _ _ _ = .bool (!m4.2) from rfl) (congrArg Value.bool (congrArg not hc36))) (by decide) ?_
        refine da_off rfl (Eq.trans (show sl _ _ _ = .bool (!m4.2) from rfl) (congrArg Value.bool (congrArg not hc36))) (by decide) ?_
        refine da_off rfl (Eq.trans (show sl _ _ _ = .bool (!m4.2) from rfl) (congrArg Value.bool (congrArg not hc36))) (by decide) ?_
        refine da_op rfl (d_pick (b := true) (Eq.trans (show ev _ _ = .bool (!m4.2) from rfl) (congrArg Value.bool (congrArg not hc36))) ?_)
        refine da_nil ?_
        obtain rfl := Option.some.inj hr
        exact ⟨rfl, (Ext.refl w9)⟩
    · skip
      rintro σ34 w34 o34 ⟨s28_34, E34⟩
      have s2_34 : σ34 2 = .pointer (some ⟨w.heap.size, 0, none⟩) := (o34 2 rfl).trans s2_9
      have s6_34 : σ34 6 = .pointer (some ⟨z9_6_10b, 0, none⟩) := (o34 6 rfl).trans s6_9
      have X40 : Ext w w34 := X33.trans E34
      refine W_cond (b := m34) s28_34 (fun hc41 => ?_) (fun hc41 => ?_)
      · skip
        replace hr := bif_t hr hc41
        refine W_seq ?_
        refine W_region rfl ?_
        refine da_op rfl (d_bd (vs := []) (cs := #[.float .f32 0, .float .f32 0, .float .f32 0]) rfl (by kernel_rfl) ?_)
        have B42 : w34.heap[w.heap.size]? = some (.cells #[.float .f32 0, .float .f32 0, .float .f32 0] 24 (0, 0)) := E34.heap B35
        refine da_op rfl (d_store (vs := #[.float .f32 0, .float .f32 0, .float .f32 0]) s2_34 rfl B42 size24 (Nat.le_of_ble_eq_true rfl) rfl fun w43 S43 => ?_)
        have X44 : Ext w w43 := Ext.step X40 S43.frmb (fun k _ hk => hk ▸ own2)
        have B45 : w43.heap[w.heap.size]? = some (.cells #[.float .f32 0, .float .f32 0, .float .f32 0] 24 (0, 0)) := S43.here
        refine da_op rfl (d_as (v := .bool false) rfl ?_)
        refine da_nil ?_
        refine W_ret ?_
        obtain rfl := Option.some.inj hr
        refine ⟨_, res2 (rv_cells (vs := #[.float .f32 0, .float .f32 0, .float .f32 0]) s2_34 agg24 size24 B45 rfl) (rv_tmp rfl), ?_⟩
        exact ⟨0, 0, 0, rfl, cn_f32_0, cn_f32_0, cn_f32_0, X44⟩
      · skip
        replace hr := bif_f hr hc41
        refine W_skip ?_
        refine W_seq ?_
        refine W_region rfl ?_
        have B46 : w34.heap[z9_6_10b]? = some (.cells #[.float .f32 z9_m0_1r0, .float .f32 z9_m0_4r0, .float .f32 z9_m0_7r0] 24 (0, 0)) := E34.heap hBn9
        refine da_op rfl (d_loads (vs := #[.float .f32 z9_m0_1r0, .float .f32 z9_m0_4r0, .float .f32 z9_m0_7r0]) s6_34 agg24 size24 B46 rfl ?_)
        have B47 : w34.heap[w.heap.size]? = some (.cells #[.float .f32 0, .float .f32 0, .float .f32 0] 24 (0, 0)) := E34.heap B35
        refine da_op rfl (d_store (vs := #[.float .f32 z9_m0_1r0, .float .f32 z9_m0_4r0, .float .f32 z9_m0_7r0]) s2_34 rfl B47 size24 (Nat.le_of_ble_eq_true rfl) rfl fun w48 S48 => ?_)
        have X49 : Ext w w48 := Ext.step X40 S48.frmb (fun k _ hk => hk ▸ own2)
        have B50 : w48.heap[w.heap.size]? = some (.cells #[.float .f32 z9_m0_1r0, .float .f32 z9_m0_4r0, .float .f32 z9_m0_7r0] 24 (0, 0)) := S48.here
        refine da_op rfl (d_as (v := .bool true) rfl ?_)
        refine da_nil ?_
        refine W_ret ?_
        obtain rfl := Option.some.inj hr
        refine ⟨_, res2 (rv_cells (vs := #[.float .f32 z9_m0_1r0, .float .f32 z9_m0_4r0, .float .f32 z9_m0_7r0]) s2_34 agg24 size24 B50 rfl) (rv_tmp rfl), ?_⟩
        exact ⟨z9_m0_1r0, z9_m0_4r0, z9_m0_7r0, rfl, z9_m0_1h0, z9_m0_4h0, z9_m0_7h0, X49⟩
set_option maxHeartbeats 4000000 in
theorem c51 (p0 : Nat) (p1 : Nat) (p0r : Nat) (p1r : Nat) (r : Bool) (w : World) (hr : M.laws_sameFloat p0 p1 = r) (p0h : cn .f64 p0r = p0) (p1h : cn .f64 p1r = p1) :
    Calls Tryd.prog 51 #[.float .f64 p0r, .float .f64 p1r] w fun e w' => e = .returned (.bool r) ∧ Ext w w' := by
  refine calls_of_W Tryd.func51 rfl (Nat.le_of_ble_eq_true rfl) ?_
  refine W_seq ?_
  refine W_region rfl ?_
  refine da_op rfl (d_as (v := .bool false) rfl ?_)
  refine da_nil ?_
  refine W_seq ?_
  refine W_seq ?_
  obtain ⟨m1, hm1, hr⟩ := letv_out hr
  refine W_cut (fun σ' w' => σ' 12 = .bool m1 ∧ Ext w w') rfl ?_ ?_
  · skip
    have hr := hm1
    refine da_op rfl (d_mv (v := .float .f64 p0r) rfl ?_)
    refine da_op rfl (d_mv (v := .float .f64 p0r) rfl ?_)
    refine da_op rfl (d_fcmp (k := .f64) cNeq rfl rfl p0h p0h ?_)
    refine da_op rfl (d_mv (v := .bool (fcmp .neq .f64 p0 p0)) rfl ?_)
    rcases Bool.eq_false_or_eq_true (fcmp .neq .f64 p0 p0) with hc2 | hc2
    · skip
      replace hr := bif_t hr hc2
      refine da_off rfl (Eq.trans (show sl _ _ _ = .bool (fcmp .neq .f64 p0 p0) from rfl) (congrArg Value.bool hc2)) (by decide) ?_
      refine da_off rfl (Eq.trans (show sl _ _ _ = .bool (fcmp .neq .f64 p0 p0) from rfl) (congrArg Value.bool hc2)) (by decide) ?_
      refine da_off rfl (Eq.trans (show sl _ _ _ = .bool (fcmp .neq .f64 p0 p0) from rfl) (congrArg Value.bool hc2)) (by decide) ?_
      refine da_op rfl (d_pick (b := true) (Eq.trans (show ev _ _ = .bool (fcmp .neq .f64 p0 p0) from rfl) (congrArg Value.bool hc2)) ?_)
      refine da_nil ?_
      subst hr
      exact ⟨rfl, (Ext.refl w)⟩
    · skip
      replace hr := bif_f hr hc2
      refine da_on rfl (Eq.trans (show sl _ _ _ = .bool (fcmp .neq .f64 p0 p0) from rfl) (congrArg Value.bool hc2)) (d_mv (v := .float .f64 p1r) rfl ?_)
      refine da_on rfl (Eq.trans (show sl _ _ _ = .bool (fcmp .neq .f64 p0 p0) from rfl) (congrArg Value.bool hc2)) (d_mv (v := .float .f64 p1r) rfl ?_)
      refine da_on rfl (Eq.trans (show sl _ _ _ = .bool (fcmp .neq .f64 p0 p0) from rfl) (congrArg Value.bool hc2)) (d_fcmp (k := .f64) cNeq rfl rfl p1h p1h ?_)
      refine da_op rfl (d_pick (b := false) (Eq.trans (show ev _ _ = .bool (fcmp .neq .f64 p0 p0) from rfl) (congrArg Value.bool hc2)) ?_)
      refine da_nil ?_
      subst hr
      exact ⟨rfl, (Ext.refl w)⟩
  · skip
    rintro σ1 w1 o1 ⟨s12_1, E1⟩
    have s0_1 : σ1 0 = .float .f64 p0r := (o1 0 rfl).trans rfl
    have s1_1 : σ1 1 = .float .f64 p1r := (o1 1 rfl).trans rfl
    have X3 : Ext w w1 := (Ext.refl w).trans E1
    refine W_cond (b := m1) s12_1 (fun hc4 => ?_) (fun hc4 => ?_)
    · skip
      replace hr := bif_t hr hc4
      refine W_seq ?_
      obtain ⟨m5, hm5, hr⟩ := letv_out hr
      refine W_cut (fun σ' w' => σ' 4 = .bool m5 ∧ Ext w1 w') rfl ?_ ?_
      · skip
        have hr := hm5
        refine da_op rfl (d_mv (v := .float .f64 p0r) s0_1 ?_)
        refine da_op rfl (d_mv (v := .float .f64 p0r) s0_1 ?_)
        refine da_op rfl (d_fcmp (k := .f64) cNeq rfl rfl p0h p0h ?_)
        refine da_op rfl (d_mv (v := .bool (fcmp .neq .f64 p0 p0)) rfl ?_)
        rcases Bool.eq_false_or_eq_true (fcmp .neq .f64 p0 p0) with hc6 | hc6
        · skip
          replace hr := bif_t hr hc6
          refine da_on rfl (Eq.trans (show sl _ _ _ = .bool (fcmp .neq .f64 p0 p0) from rfl) (congrArg Value.bool hc6)) (d_mv (v := .float .f64 p1r) s1_1 ?_)
          refine da_on rfl (Eq.trans (show sl _ _ _ = .bool (fcmp .neq .f64 p0 p0) from rfl) (congrArg Value.bool hc6)) (d_mv (v := .float .f64 p1r) s1_1 ?_)
          refine da_on rfl (Eq.trans (show sl _ _ _ = .bool (fcmp .neq .f64 p0 p0) from rfl) (congrArg Value.bool hc6)) (d_fcmp (k := .f64) cNeq rfl rfl p1h p1h ?_)
          refine da_op rfl (d_pick (b := true) (Eq.trans (show ev _ _ = .bool (fcmp .neq .f64 p0 p0) from rfl) (congrArg Value.bool hc6)) ?_)
          refine da_op rfl (d_as (v := .bool (fcmp .neq .f64 p1 p1)) rfl ?_)
          refine da_nil ?_
          subst hr
          exact ⟨rfl, (Ext.refl w1)⟩
        · skip
          replace hr := bif_f hr hc6
          refine da_off rfl (Eq.trans (show sl _ _ _ = .bool (fcmp .neq .f64 p0 p0) from rfl) (congrArg Value.bool hc6)) (by decide) ?_
          refine da_off rfl (Eq.trans (show sl _ _ _ = .bool (fcmp .neq .f64 p0 p0) from rfl) (congrArg Value.bool hc6)) (by decide) ?_
          refine da_off rfl (Eq.trans (show sl _ _ _ = .bool (fcmp .neq .f64 p0 p0) from rfl) (congrArg Value.bool hc6)) (by decide) ?_
          refine da_op rfl (d_pick (b := false) (Eq.trans (show ev _ _ = .bool (fcmp .neq .f64 p0 p0) from rfl) (congrArg Value.bool hc6)) ?_)
          refine da_op rfl (d_as (v := .bool false) rfl ?_)
          refine da_nil ?_
          subst hr
          exact ⟨rfl, (Ext.refl w1)⟩
      · skip
        rintro σ5 w5 o5 ⟨s4_5, E5⟩
        have X7 : Ext w w5 := X3.trans E5
        refine W_ret ?_
        subst hr
        refine ⟨_, res1 (rv_tmp s4_5), ?_⟩
        exact ⟨rfl, X7⟩
    · skip
      replace hr := bif_f hr hc4
      refine W_skip ?_
      refine W_seq ?_
      refine W_seq ?_
      obtain ⟨m8, hm8, hr⟩ := letv_out hr
      refine W_cut (fun σ' w' => σ' 26 = .bool m8 ∧ Ext w1 w') rfl ?_ ?_
      · skip
        have hr := hm8
        refine da_op rfl (d_mv (v := .float .f64 p0r) s0_1 ?_)
        refine da_op rfl (d_fcmp (k := .f64) cEql rfl rfl p0h cn_f64_0 ?_)
        refine da_op rfl (d_mv (v := .bool (fcmp .eql .f64 p0 0)) rfl ?_)
        rcases Bool.eq_false_or_eq_true (fcmp .eql .f64 p0 0) with hc9 | hc9
        · skip
          replace hr := bif_t hr hc9
          refine da_on rfl (Eq.trans (show sl _ _ _ = .bool (fcmp .eql .f64 p0 0) from rfl) (congrArg Value.bool hc9)) (d_mv (v := .float .f64 p1r) s1_1 ?_)
          refine da_on rfl (Eq.trans (show sl _ _ _ = .bool (fcmp .eql .f64 p0 0) from rfl) (congrArg Value.bool hc9)) (d_fcmp (k := .f64) cEql rfl rfl p1h cn_f64_0 ?_)
          refine da_op rfl (d_pick (b := true) (Eq.trans (show ev _ _ = .bool (fcmp .eql .f64 p0 0) from rfl) (congrArg Value.bool hc9)) ?_)
          refine da_nil ?_
          subst hr
          exact ⟨rfl, (Ext.refl w1)⟩
        · skip
          replace hr := bif_f hr hc9
          refine da_off rfl (Eq.trans (show sl _ _ _ = .bool (fcmp .eql .f64 p0 0) from rfl) (congrArg Value.bool hc9)) (by decide) ?_
          refine da_off rfl (Eq.trans (show sl _ _ _ = .bool (fcmp .eql .f64 p0 0) from rfl) (congrArg Value.bool hc9)) (by decide) ?_
          refine da_op rfl (d_pick (b := false) (Eq.trans (show ev _ _ = .bool (fcmp .eql .f64 p0 0) from rfl) (congrArg Value.bool hc9)) ?_)
          refine da_nil ?_
          subst hr
          exact ⟨rfl, (Ext.refl w1)⟩
      · skip
        rintro σ8 w8 o8 ⟨s26_8, E8⟩
        have s0_8 : σ8 0 = .float .f64 p0r := (o8 0 rfl).trans s0_1
        have s1_8 : σ8 1 = .float .f64 p1r := (o8 1 rfl).trans s1_1
        have X10 : Ext w w8 := X3.trans E8
        refine W_cond (b := m8) s26_8 (fun hc11 => ?_) (fun hc11 => ?_)
        · skip
          replace hr := bif_t hr hc11
          refine W_seq ?_
          refine W_region rfl ?_
          refine da_op rfl (d_mv (v := .float .f64 p0r) s0_8 ?_)
          refine da_op rfl (d_fop (k := .f64) fQuo rfl rfl cn_f64_4607182418800017408 p0h fun r12 w12 h12 _ E12 => ?_)
          have X13 : Ext w w12 := X10.trans E12
          refine da_op rfl (d_fcmp (k := .f64) cGtr rfl rfl h12 cn_f64_0 ?_)
          refine da_op rfl (d_mv (v := .float .f64 p1r) s1_8 ?_)
          refine da_op rfl (d_fop (k := .f64) fQuo rfl rfl cn_f64_4607182418800017408 p1h fun r14 w14 h14 _ E14 => ?_)
          have X15 : Ext w w14 := X13.trans E14
          refine da_op rfl (d_fcmp (k := .f64) cGtr rfl rfl h14 cn_f64_0 ?_)
          refine da_op rfl (d_beq un4 rfl rfl ?_)
          refine da_op rfl (d_as (v := .bool ((fcmp .gtr .f64 (fop .quo .f64 4607182418800017408 p0) 0) == (fcmp .gtr .f64 (fop .quo .f64 4607182418800017408 p1) 0))) rfl ?_)
          refine da_nil ?_
          refine W_ret ?_
          subst hr
          refine ⟨_, res1 (rv_tmp rfl), ?_⟩
          exact ⟨rfl, X15⟩
        · skip
          replace hr := bif_f hr hc11
          refine W_skip ?_
          refine W_seq ?_
          refine W_region rfl ?_
          refine da_op rfl (d_mv (v := .float .f64 p0r) s0_8 ?_)
          refine da_op rfl (d_mv (v := .float .f64 p1r) s1_8 ?_)
          refine da_op rfl (d_fcmp (k := .f64) cEql rfl rfl p0h p1h ?_)
          refine da_op rfl (d_as (v := .bool (fcmp .eql .f64 p0 p1)) rfl ?_)
          refine da_nil ?_
          refine W_ret ?_
          subst hr
          refine ⟨_, res1 (rv_tmp rfl), ?_⟩
          exact ⟨rfl, X10⟩
set_option maxHeartbeats 4000000 in
theorem c13 (p0 : SSwing) (p1 : SSwing) (p0r0 : Nat) (p0r1 : Nat) (p0r2 : Nat) (p1r0 : Nat) (p1r1 : Nat) (p1r2 : Nat) (r : Bool) (w : World) (hr : M.laws_eqSwing p0 p1 = r) (p0h0 : cn .f32 p0r0 = p0.turn) (p0h1 : cn .f32 p0r1 = p0.speed) (p0h2 : cn .f32 p0r2 = p0.time) (p1h0 : cn .f32 p1r0 = p1.turn) (p1h1 : cn .f32 p1r1 = p1.speed) (p1h2 : cn .f32 p1r2 = p1.time) :
    Calls Tryd.prog 13 #[.agg #[.float .f32 p0r0, .float .f32 p0r1, .float .f32 p0r2], .agg #[.float .f32 p1r0, .float .f32 p1r1, .float .f32 p1r2]] w fun e w' => e = .returned (.bool r) ∧ Ext w w' := by
  refine calls_of_W Tryd.func13 rfl (Nat.le_of_ble_eq_true rfl) ?_
  refine W_seq ?_
  refine W_region rfl ?_
  refine da_op rfl (d_box (cs := #[.float .f32 p0r0, .float .f32 p0r1, .float .f32 p0r2]) rfl fun w1 B1 E1 => ?_)
  have own2 : w.heap.size ≤ w.heap.size := Nat.le_trans (Ext.refl w).size (Nat.le_refl _)
  have X3 : Ext w w1 := (Ext.refl w).trans E1
  refine da_op rfl (d_box (cs := #[.float .f32 p1r0, .float .f32 p1r1, .float .f32 p1r2]) rfl fun w4 B4 E4 => ?_)
  have own5 : w.heap.size ≤ w1.heap.size := Nat.le_trans X3.size (Nat.le_refl _)
  have sp6 : w.heap.size ≠ w1.heap.size := Nat.ne_of_lt (Nat.lt_of_lt_of_le (lt_heap B1) (Nat.le_refl _))
  have X7 : Ext w w4 := X3.trans E4
  refine da_op rfl (d_as (v := .bool false) rfl ?_)
  refine da_nil ?_
  refine W_seq ?_
  refine W_seq ?_
  refine W_region rfl ?_
  refine da_op rfl (d_fieldAddr rfl (fa24_0 _ _) ?_)
  have B8 : w4.heap[w.heap.size]? = some (.cells #[.float .f32 p0r0, .float .f32 p0r1, .float .f32 p0r2] 24 (0, 0)) := E4.heap B1
  refine da_op rfl (d_load (v := .float .f32 p0r0) rfl agg22 B8 rfl ?_)
  refine da_op rfl (d_widen un22 un89 rfl p0h0 fun r9 w9 h9 _ E9 => ?_)
  have X10 : Ext w w9 := X7.trans E9
  refine da_op rfl (d_fieldAddr rfl (fa24_0 _ _) ?_)
  have B11 : w9.heap[w1.heap.size]? = some (.cells #[.float .f32 p1r0, .float .f32 p1r1, .float .f32 p1r2] 24 (0, 0)) := E9.heap B4
  refine da_op rfl (d_load (v := .float .f32 p1r0) rfl agg22 B11 rfl ?_)
  refine da_op rfl (d_widen un22 un89 rfl p1h0 fun r12 w12 h12 _ E12 => ?_)
  have X13 : Ext w w12 := X10.trans E12
  obtain ⟨m14, hm14, hr⟩ := letv_out hr
  have B15 : w12.heap[w.heap.size]? = some (.cells #[.float .f32 p0r0, .float .f32 p0r1, .float .f32 p0r2] 24 (0, 0)) := E12.heap (E9.heap B8)
  have B16 : w12.heap[w1.heap.size]? = some (.cells #[.float .f32 p1r0, .float .f32 p1r1, .float .f32 p1r2] 24 (0, 0)) := E12.heap B11
  refine da_op rfl (d_cl (vs := [.float .f64 r9, .float .f64 r12]) en51 (ac rfl (ac rfl rfl)) rfl ?_)
  refine (c51 (widen p0.turn) (widen p1.turn) r9 r12 m14 w12 hm14 h9 h12).mono ?_
  rintro _ w17 ⟨rfl, E17⟩
  refine ⟨_, rfl, ?_⟩
  have X18 : Ext w w17 := X13.trans E17
  refine da_op rfl (d_not rfl ?_)
  refine da_nil ?_
  refine W_cond (b := (!m14)) rfl (fun hc19 => ?_) (fun hc19 => ?_)
  · skip
    replace hr := bif_t hr hc19
    refine W_seq ?_
    refine W_region rfl ?_
    refine da_op rfl (d_as (v := .bool false) rfl ?_)
    refine da_nil ?_
    refine W_ret ?_
    subst hr
    refine ⟨_, res1 (rv_tmp rfl), ?_⟩
    exact ⟨rfl, X18⟩
  · skip
    replace hr := bif_f hr hc19
    refine W_skip ?_
    refine W_seq ?_
    refine W_seq ?_
    refine W_region rfl ?_
    refine da_op rfl (d_fieldAddr rfl (fa24_1 _ _) ?_)
    have B20 : w17.heap[w.heap.size]? = some (.cells #[.float .f32 p0r0, .float .f32 p0r1, .float .f32 p0r2] 24 (0, 0)) := E17.heap B15
    refine da_op rfl (d_load (v := .float .f32 p0r1) rfl agg22 B20 rfl ?_)
    refine da_op rfl (d_widen un22 un89 rfl p0h1 fun r21 w21 h21 _ E21 => ?_)
    have X22 : Ext w w21 := X18.trans E21
    refine da_op rfl (d_fieldAddr rfl (fa24_1 _ _) ?_)
    have B23 : w21.heap[w1.heap.size]? = some (.cells #[.float .f32 p1r0, .float .f32 p1r1, .float .f32 p1r2] 24 (0, 0)) := E21.heap (E17.heap B16)
    refine da_op rfl (d_load (v := .float .f32 p1r1) rfl agg22 B23 rfl ?_)
    refine da_op rfl (d_widen un22 un89 rfl p1h1 fun r24 w24 h24 _ E24 => ?_)
    have X25 : Ext w w24 := X22.trans E24
    obtain ⟨m26, hm26, hr⟩ := letv_out hr
    have B27 : w24.heap[w.heap.size]? = some (.cells #[.float .f32 p0r0, .float .f32 p0r1, .float .f32 p0r2] 24 (0, 0)) := E24.heap (E21.heap B20)
    have B28 : w24.heap[w1.heap.size]? = some (.cells #[.float .f32 p1r0, .float .f32 p1r1, .float .f32 p1r2] 24 (0, 0)) := E24.heap B23
    refine da_op rfl (d_cl (vs := [.float .f64 r21, .float .f64 r24]) en51 (ac rfl (ac rfl rfl)) rfl ?_)
    refine (c51 (widen p0.speed) (widen p1.speed) r21 r24 m26 w24 hm26 h21 h24).mono ?_
    rintro _ w29 ⟨rfl, E29⟩
    refine ⟨_, rfl, ?_⟩
    have X30 : Ext w w29 := X25.trans E29
    refine da_op rfl (d_not rfl ?_)
    refine da_nil ?_
    refine W_cond (b := (!m26)) rfl (fun hc31 => ?_) (fun hc31 => ?_)
    · skip
      replace hr := bif_t hr hc31
      refine W_seq ?_
      refine W_region rfl ?_
      refine da_op rfl (d_as (v := .bool false) rfl ?_)
      refine da_nil ?_
      refine W_ret ?_
      subst hr
      refine ⟨_, res1 (rv_tmp rfl), ?_⟩
      exact ⟨rfl, X30⟩
    · skip
      replace hr := bif_f hr hc31
      refine W_skip ?_
      refine W_seq ?_
      refine W_seq ?_
      refine W_region rfl ?_
      refine da_op rfl (d_fieldAddr rfl (fa24_2 _ _) ?_)
      have B32 : w29.heap[w.heap.size]? = some (.cells #[.float .f32 p0r0, .float .f32 p0r1, .float .f32 p0r2] 24 (0, 0)) := E29.heap B27
      refine da_op rfl (d_load (v := .float .f32 p0r2) rfl agg22 B32 rfl ?_)
      refine da_op rfl (d_widen un22 un89 rfl p0h2 fun r33 w33 h33 _ E33 => ?_)
      have X34 : Ext w w33 := X30.trans E33
      refine da_op rfl (d_fieldAddr rfl (fa24_2 _ _) ?_)
      have B35 : w33.heap[w1.heap.size]? = some (.cells #[.float .f32 p1r0, .float .f32 p1r1, .float .f32 p1r2] 24 (0, 0)) := E33.heap (E29.heap B28)
      refine da_op rfl (d_load (v := .float .f32 p1r2) rfl agg22 B35 rfl ?_)
      refine da_op rfl (d_widen un22 un89 rfl p1h2 fun r36 w36 h36 _ E36 => ?_)
      have X37 : Ext w w36 := X34.trans E36
      obtain ⟨m38, hm38, hr⟩ := letv_out hr
      have B39 : w36.heap[w.heap.size]? = some (.cells #[.float .f32 p0r0, .float .f32 p0r1, .float .f32 p0r2] 24 (0, 0)) := E36.heap (E33.heap B32)
      have B40 : w36.heap[w1.heap.size]? = some (.cells #[.float .f32 p1r0, .float .f32 p1r1, .float .f32 p1r2] 24 (0, 0)) := E36.heap B35
      refine da_op rfl (d_cl (vs := [.float .f64 r33, .float .f64 r36]) en51 (ac rfl (ac rfl rfl)) rfl ?_)
      refine (c51 (widen p0.time) (widen p1.time) r33 r36 m38 w36 hm38 h33 h36).mono ?_
      rintro _ w41 ⟨rfl, E41⟩
      refine ⟨_, rfl, ?_⟩
      have X42 : Ext w w41 := X37.trans E41
      refine da_op rfl (d_not rfl ?_)
      refine da_nil ?_
      refine W_cond (b := (!m38)) rfl (fun hc43 => ?_) (fun hc43 => ?_)
      · skip
        replace hr := bif_t hr hc43
        refine W_seq ?_
        refine W_region rfl ?_
        refine da_op rfl (d_as (v := .bool false) rfl ?_)
        refine da_nil ?_
        refine W_ret ?_
        subst hr
        refine ⟨_, res1 (rv_tmp rfl), ?_⟩
        exact ⟨rfl, X42⟩
      · skip
        replace hr := bif_f hr hc43
        refine W_skip ?_
        refine W_seq ?_
        refine W_region rfl ?_
        refine da_op rfl (d_as (v := .bool true) rfl ?_)
        refine da_nil ?_
        refine W_ret ?_
        subst hr
        refine ⟨_, res1 (rv_tmp rfl), ?_⟩
        exact ⟨rfl, X42⟩
set_option maxHeartbeats 4000000 in
theorem c3 (p0 : List UInt8) (r : Bool) (w : World) (hr : M.laws_FnExactReadSwing p0 = some r)  :
    Calls Tryd.prog 3 #[.string (bs p0)] w fun e w' => e = .returned (.bool r) ∧ Ext w w' := by
  refine calls_of_W Tryd.func3 rfl (Nat.le_of_ble_eq_true rfl) ?_
  refine W_seq ?_
  refine W_region rfl ?_
  refine da_op rfl (d_as (v := .bool false) rfl ?_)
  refine da_nil ?_
  refine W_seq ?_
  refine W_seq ?_
  refine W_region rfl ?_
  refine da_op rfl (d_mv (v := .string (bs p0)) rfl ?_)
  refine da_op rfl (d_slen un9 rfl ?_)
  refine da_op rfl (d_icmp cGtr rfl rfl ?_)
  refine da_nil ?_
  refine W_cond (b := (icmp .gtr ((p0).length : Int) 1048576)) rfl (fun hc1 => ?_) (fun hc1 => ?_)
  · skip
    replace hr := bif_t hr hc1
    refine W_seq ?_
    refine W_region rfl ?_
    refine da_op rfl (d_as (v := .bool true) rfl ?_)
    refine da_nil ?_
    refine W_ret ?_
    obtain rfl := Option.some.inj hr
    refine ⟨_, res1 (rv_tmp rfl), ?_⟩
    exact ⟨rfl, (Ext.refl w)⟩
  · skip
    replace hr := bif_f hr hc1
    refine W_skip ?_
    refine W_seq ?_
    refine W_region rfl ?_
    refine da_op rfl (d_mv (v := .string (bs p0)) rfl ?_)
    obtain ⟨m2, hm2, hr⟩ := bind_out hr
    refine da_op rfl (d_cl (vs := [.string (bs p0)]) en11 (ac rfl rfl) rfl ?_)
    refine (c11 p0 m2 w hm2 ).mono ?_
    rintro _ w3 ⟨q3_0r0, q3_0r1, q3_0r2, rfl, q3_0h0, q3_0h1, q3_0h2, E3⟩
    refine ⟨_, rfl, ?_⟩
    have X4 : Ext w w3 := (Ext.refl w).trans E3
    refine da_op rfl (d_mv (v := .tuple #[.agg #[.float .f32 q3_0r0, .float .f32 q3_0r1, .float .f32 q3_0r2], .bool m2.2]) rfl ?_)
    refine da_op rfl (d_extract (v := .agg #[.float .f32 q3_0r0, .float .f32 q3_0r1, .float .f32 q3_0r2]) rfl rfl ?_)
    refine da_op rfl (d_extract (v := .bool m2.2) rfl rfl ?_)
    refine da_op rfl (d_alloc (cs := #[.float .f32 0, .float .f32 0, .float .f32 0]) zero24 rfl fun w5 B5 E5 => ?_)
    have own6 : w.heap.size ≤ w3.heap.size := Nat.le_trans X4.size (Nat.le_refl _)
    have X7 : Ext w w5 := X4.trans E5
    refine da_op rfl (d_store (vs := #[.float .f32 q3_0r0, .float .f32 q3_0r1, .float .f32 q3_0r2]) rfl rfl B5 size24 (Nat.le_of_ble_eq_true rfl) rfl fun w8 S8 => ?_)
    have X9 : Ext w w8 := Ext.step X7 S8.frmb (fun k _ hk => hk ▸ own6)
    have B10 : w8.heap[w3.heap.size]? = some (.cells #[.float .f32 q3_0r0, .float .f32 q3_0r1, .float .f32 q3_0r2] 24 (0, 0)) := S8.here
    refine da_op rfl (d_as (v := .bool m2.2) rfl ?_)
    refine da_nil ?_
    refine W_seq ?_
    refine W_region rfl ?_
    refine da_op rfl (d_mv (v := .string (bs p0)) rfl ?_)
    obtain ⟨m11, hm11, hr⟩ := bind_out hr
    refine da_op rfl (d_cl (vs := [.string (bs p0)]) en12 (ac rfl rfl) rfl ?_)
    refine (c12 p0 m11 w8 hm11 ).mono ?_
    rintro _ w12 ⟨q12_0r0, q12_0r1, q12_0r2, rfl, q12_0h0, q12_0h1, q12_0h2, E12⟩
    refine ⟨_, rfl, ?_⟩
    have X13 : Ext w w12 := X9.trans E12
    refine da_op rfl (d_mv (v := .tuple #[.agg #[.float .f32 q12_0r0, .float .f32 q12_0r1, .float .f32 q12_0r2], .bool m11.2]) rfl ?_)
    refine da_op rfl (d_extract (v := .agg #[.float .f32 q12_0r0, .float .f32 q12_0r1, .float .f32 q12_0r2]) rfl rfl ?_)
    refine da_op rfl (d_extract (v := .bool m11.2) rfl rfl ?_)
    have B15 : w12.heap[w3.heap.size]? = some (.cells #[.float .f32 q3_0r0, .float .f32 q3_0r1, .float .f32 q3_0r2] 24 (0, 0)) := E12.heap B10
    refine da_op rfl (d_alloc (cs := #[.float .f32 0, .float .f32 0, .float .f32 0]) zero24 rfl fun w14 B14 E14 => ?_)
    have own16 : w.heap.size ≤ w12.heap.size := Nat.le_trans X13.size (Nat.le_refl _)
    have sp17 : w3.heap.size ≠ w12.heap.size := Nat.ne_of_lt (Nat.lt_of_lt_of_le (lt_heap B15) (Nat.le_refl _))
    have X18 : Ext w w14 := X13.trans E14
    refine da_op rfl (d_store (vs := #[.float .f32 q12_0r0, .float .f32 q12_0r1, .float .f32 q12_0r2]) rfl rfl B14 size24 (Nat.le_of_ble_eq_true rfl) rfl fun w19 S19 => ?_)
    have X20 : Ext w w19 := Ext.step X18 S19.frmb (fun k _ hk => hk ▸ own16)
    have B21 : w19.heap[w12.heap.size]? = some (.cells #[.float .f32 q12_0r0, .float .f32 q12_0r1, .float .f32 q12_0r2] 24 (0, 0)) := S19.here
    refine da_op rfl (d_as (v := .bool m11.2) rfl ?_)
    refine da_nil ?_
    refine W_seq ?_
    refine W_seq ?_
    have B23 : w19.heap[w3.heap.size]? = some (.cells #[.float .f32 q3_0r0, .float .f32 q3_0r1, .float .f32 q3_0r2] 24 (0, 0)) := S19.frmb.heap sp17 (E14.heap B15)
    obtain ⟨m22, hm22, hr⟩ := letv_out hr
    refine W_cut (fun σ' w' => σ' 28 = .bool m22 ∧ Ext w19 w') rfl ?_ ?_
    · skip
      have hr := hm22
      refine da_op rfl (d_loads (vs := #[.float .f32 q12_0r0, .float .f32 q12_0r1, .float .f32 q12_0r2]) rfl agg24 size24 B21 rfl ?_)
      refine da_op rfl (d_loads (vs := #[.float .f32 q3_0r0, .float .f32 q3_0r1, .float .f32 q3_0r2]) rfl agg24 size24 B23 rfl ?_)
      obtain ⟨m24, hm24, hr⟩ := letv_out hr
      refine da_op rfl (d_cl (vs := [.agg #[.float .f32 q12_0r0, .float .f32 q12_0r1, .float .f32 q12_0r2], .agg #[.float .f32 q3_0r0, .float .f32 q3_0r1, .float .f32 q3_0r2]]) en13 (ac rfl (ac rfl rfl)) rfl ?_)
      refine (c13 (⟨m11.1.turn, m11.1.speed, m11.1.time⟩ : SSwing) (⟨m2.1.turn, m2.1.speed, m2.1.time⟩ : SSwing) q12_0r0 q12_0r1 q12_0r2 q3_0r0 q3_0r1 q3_0r2 m24 w19 hm24 q12_0h0 q12_0h1 q12_0h2 q3_0h0 q3_0h1 q3_0h2).mono ?_
      rintro _ w25 ⟨rfl, E25⟩
      refine ⟨_, rfl, ?_⟩
      have X26 : Ext w w25 := X20.trans E25
      refine da_op rfl (d_not rfl ?_)
      refine da_op rfl (d_mv (v := .bool (!m24)) rfl ?_)
      rcases Bool.eq_false_or_eq_true m24 with hc27 | hc27
      · skip
        replace hr := bif_t hr hc27
        refine da_on rfl (Eq.trans (show sl _ _ _ = .bool (!m24) from rfl) (congrArg Value.bool (congrArg not hc27))) (d_mv (v := .bool m11.2) rfl ?_)
        refine da_on rfl (Eq.trans (show sl _ _ _ = .bool (!m24) from rfl) (congrArg Value.bool (congrArg not hc27))) (d_mv (v := .bool m2.2) rfl ?_)
        refine da_on rfl (Eq.trans (show sl _ _ _ = .bool (!m24) from rfl) (congrArg Value.bool (congrArg not hc27))) (d_bne un4 rfl rfl ?_)
        refine da_op rfl (d_pick (b := false) (Eq.trans (show ev _ _ = .bool (!m24) from rfl) (congrArg Value.bool (congrArg not hc27))) ?_)
        refine da_nil ?_
        subst hr
        exact ⟨rfl, (Ext.trans (Ext.refl w19) E25)⟩
      · skip
        replace hr := bif_f hr hc27
        refine da_off rfl (Eq.trans (show sl _ _ _ = .bool (!m24) from rfl) (congrArg Value.bool (congrArg not hc27))) (by decide) ?_
        refine da_off rfl (Eq.trans (show sl _ _ _ = .bool (!m24) from rfl) (congrArg Value.bool (congrArg not hc27))) (by decide) ?_
        refine da_off rfl (Eq.trans (show sl _ _ _ = .bool (!m24) from rfl) (congrArg Value.bool (congrArg not hc27))) (by decide) ?_
        refine da_op rfl (d_pick (b := true) (Eq.trans (show ev _ _ = .bool (!m24) from rfl) (congrArg Value.bool (congrArg not hc27))) ?_)
        refine da_nil ?_
        subst hr
        exact ⟨rfl, (Ext.trans (Ext.refl w19) E25)⟩
    · skip
      rintro σ22 w22 o22 ⟨s28_22, E22⟩
      have X28 : Ext w w22 := X20.trans E22
      refine W_cond (b := m22) s28_22 (fun hc29 => ?_) (fun hc29 => ?_)
      · skip
        replace hr := bif_t hr hc29
        refine W_seq ?_
        refine W_region rfl ?_
        refine da_op rfl (d_as (v := .bool false) rfl ?_)
        refine da_nil ?_
        refine W_ret ?_
        obtain rfl := Option.some.inj hr
        refine ⟨_, res1 (rv_tmp rfl), ?_⟩
        exact ⟨rfl, X28⟩
      · skip
        replace hr := bif_f hr hc29
        refine W_skip ?_
        refine W_seq ?_
        refine W_region rfl ?_
        refine da_op rfl (d_as (v := .bool true) rfl ?_)
        refine da_nil ?_
        refine W_ret ?_
        obtain rfl := Option.some.inj hr
        refine ⟨_, res1 (rv_tmp rfl), ?_⟩
        exact ⟨rfl, X28⟩
set_option maxHeartbeats 4000000 in
theorem c162 (p0 : Nat) (p0r : Nat) (r : Bool) (w : World) (hr : M.spec_l02Above p0 = r) (p0h : cn .f32 p0r = p0) :
    Calls Tryd.prog 162 #[.float .f32 p0r] w fun e w' => e = .returned (.bool r) ∧ Ext w w' := by
  refine calls_of_W Tryd.func162 rfl (Nat.le_of_ble_eq_true rfl) ?_
  refine W_seq ?_
  refine W_region rfl ?_
  refine da_op rfl (d_as (v := .bool false) rfl ?_)
  refine da_nil ?_
  refine W_seq ?_
  obtain ⟨m1, hm1, hr⟩ := letv_out hr
  refine W_cut (fun σ' w' => σ' 2 = .bool m1 ∧ Ext w w') rfl ?_ ?_
  · skip
    have hr := hm1
    refine da_op rfl (d_mv (v := .float .f32 p0r) rfl ?_)
    obtain ⟨m2, hm2, hr⟩ := letv_out hr
    refine da_op rfl (d_cl (vs := [.float .f32 p0r]) en164 (ac rfl rfl) rfl ?_)
    refine (c164 p0 p0r m2 w hm2 p0h).mono ?_
    rintro _ w3 ⟨rfl, E3⟩
    refine ⟨_, rfl, ?_⟩
    have X4 : Ext w w3 := (Ext.refl w).trans E3
    refine da_op rfl (d_mv (v := .bool m2) rfl ?_)
    rcases Bool.eq_false_or_eq_true m2 with hc5 | hc5
    · skip
      replace hr := bif_t hr hc5
      refine da_on rfl (Eq.trans (show sl _ _ _ = .bool m2 from rfl) (congrArg Value.bool hc5)) (d_mv (v := .float .f32 p0r) rfl ?_)
      refine da_on rfl (Eq.trans (show sl _ _ _ = .bool m2 from rfl) (congrArg Value.bool hc5)) (d_fcmp (k := .f32) cGtr rfl rfl p0h cn_f32_0 ?_)
      refine da_op rfl (d_pick (b := true) (Eq.trans (show ev _ _ = .bool m2 from rfl) (congrArg Value.bool hc5)) ?_)
      refine da_op rfl (d_as (v := .bool (fcmp .gtr .f32 p0 0)) rfl ?_)
      refine da_nil ?_
      subst hr
      exact ⟨rfl, (Ext.trans (Ext.refl w) E3)⟩
    · skip
      replace hr := bif_f hr hc5
      refine da_off rfl (Eq.trans (show sl _ _ _ = .bool m2 from rfl) (congrArg Value.bool hc5)) (by decide) ?_
      refine da_off rfl (Eq.trans (show sl _ _ _ = .bool m2 from rfl) (congrArg Value.bool hc5)) (by decide) ?_
      refine da_op rfl (d_pick (b := false) (Eq.trans (show ev _ _ = .bool m2 from rfl) (congrArg Value.bool hc5)) ?_)
      refine da_op rfl (d_as (v := .bool false) rfl ?_)
      refine da_nil ?_
      subst hr
      exact ⟨rfl, (Ext.trans (Ext.refl w) E3)⟩
  · skip
    rintro σ1 w1 o1 ⟨s2_1, E1⟩
    have X6 : Ext w w1 := (Ext.refl w).trans E1
    refine W_ret ?_
    subst hr
    refine ⟨_, res1 (rv_tmp s2_1), ?_⟩
    exact ⟨rfl, X6⟩
set_option maxHeartbeats 4000000 in
theorem c163 (p0 : Nat) (p0r : Nat) (r : Bool) (w : World) (hr : M.spec_l02Least p0 = r) (p0h : cn .f32 p0r = p0) :
    Calls Tryd.prog 163 #[.float .f32 p0r] w fun e w' => e = .returned (.bool r) ∧ Ext w w' := by
  refine calls_of_W Tryd.func163 rfl (Nat.le_of_ble_eq_true rfl) ?_
  refine W_seq ?_
  refine W_region rfl ?_
  refine da_op rfl (d_as (v := .bool false) rfl ?_)
  refine da_nil ?_
  refine W_seq ?_
  obtain ⟨m1, hm1, hr⟩ := letv_out hr
  refine W_cut (fun σ' w' => σ' 2 = .bool m1 ∧ Ext w w') rfl ?_ ?_
  · skip
    have hr := hm1
    refine da_op rfl (d_mv (v := .float .f32 p0r) rfl ?_)
    obtain ⟨m2, hm2, hr⟩ := letv_out hr
    refine da_op rfl (d_cl (vs := [.float .f32 p0r]) en164 (ac rfl rfl) rfl ?_)
    refine (c164 p0 p0r m2 w hm2 p0h).mono ?_
    rintro _ w3 ⟨rfl, E3⟩
    refine ⟨_, rfl, ?_⟩
    have X4 : Ext w w3 := (Ext.refl w).trans E3
    refine da_op rfl (d_mv (v := .bool m2) rfl ?_)
    rcases Bool.eq_false_or_eq_true m2 with hc5 | hc5
    · skip
      replace hr := bif_t hr hc5
      refine da_on rfl (Eq.trans (show sl _ _ _ = .bool m2 from rfl) (congrArg Value.bool hc5)) (d_mv (v := .float .f32 p0r) rfl ?_)
      refine da_on rfl (Eq.trans (show sl _ _ _ = .bool m2 from rfl) (congrArg Value.bool hc5)) (d_fcmp (k := .f32) cGeq rfl rfl p0h cn_f32_0 ?_)
      refine da_op rfl (d_pick (b := true) (Eq.trans (show ev _ _ = .bool m2 from rfl) (congrArg Value.bool hc5)) ?_)
      refine da_op rfl (d_as (v := .bool (fcmp .geq .f32 p0 0)) rfl ?_)
      refine da_nil ?_
      subst hr
      exact ⟨rfl, (Ext.trans (Ext.refl w) E3)⟩
    · skip
      replace hr := bif_f hr hc5
      refine da_off rfl (Eq.trans (show sl _ _ _ = .bool m2 from rfl) (congrArg Value.bool hc5)) (by decide) ?_
      refine da_off rfl (Eq.trans (show sl _ _ _ = .bool m2 from rfl) (congrArg Value.bool hc5)) (by decide) ?_
      refine da_op rfl (d_pick (b := false) (Eq.trans (show ev _ _ = .bool m2 from rfl) (congrArg Value.bool hc5)) ?_)
      refine da_op rfl (d_as (v := .bool false) rfl ?_)
      refine da_nil ?_
      subst hr
      exact ⟨rfl, (Ext.trans (Ext.refl w) E3)⟩
  · skip
    rintro σ1 w1 o1 ⟨s2_1, E1⟩
    have X6 : Ext w w1 := (Ext.refl w).trans E1
    refine W_ret ?_
    subst hr
    refine ⟨_, res1 (rv_tmp s2_1), ?_⟩
    exact ⟨rfl, X6⟩
set_option maxHeartbeats 4000000 in
theorem c109 (p0 : SPendulum) (p0b p0o : Nat) (p0c : Array Value) (p0T : TypeId) (p0f : Nat × Nat) (p0r0 : Nat) (p0r1 : Nat) (p0r2 : Nat) (p0r3 : Nat) (p0r4 : Nat) (r : Bool) (w : World) (hr : M.spec_l02Is p0 = r) (p0h0 : cn .f32 p0r0 = p0.long) (p0h1 : cn .f32 p0r1 = p0.pull) (p0h2 : cn .f32 p0r2 = p0.drag) (p0h3 : cn .f32 p0r3 = p0.drive) (p0h4 : cn .f32 p0r4 = p0.rate) (p0B : w.heap[p0b]? = some (.cells p0c p0T p0f)) (p0P : (p0c.toList.drop p0o).take 5 = [.float .f32 p0r0, .float .f32 p0r1, .float .f32 p0r2, .float .f32 p0r3, .float .f32 p0r4]) :
    Calls Tryd.prog 109 #[.pointer (some ⟨p0b, p0o, none⟩)] w fun e w' => e = .returned (.bool r) ∧ Ext w w' := by
  refine calls_of_W Tryd.func109 rfl (Nat.le_of_ble_eq_true rfl) ?_
  refine W_seq ?_
  refine W_region rfl ?_
  refine da_op rfl (d_as (v := .bool false) rfl ?_)
  refine da_nil ?_
  refine W_seq ?_
  obtain ⟨m1, hm1, hr⟩ := letv_out hr
  refine W_cut (fun σ' w' => σ' 2 = .bool m1 ∧ Ext w w') rfl ?_ ?_
  · skip
    have hr := hm1
    refine da_op rfl (d_mv (v := .pointer (some ⟨p0b, p0o, none⟩)) rfl ?_)
    refine da_op rfl (d_nil rfl ?_)
    refine da_op rfl (d_fieldAddr rfl (fa30_0 _ _) ?_)
    refine da_op rfl (d_load (v := .float .f32 p0r0) rfl agg22 p0B (sub_get (vs := #[.float .f32 p0r0, .float .f32 p0r1, .float .f32 p0r2, .float .f32 p0r3, .float .f32 p0r4]) p0P (i := 0) rfl) ?_)
    obtain ⟨m2, hm2, hr⟩ := letv_out hr
    refine da_op rfl (d_cl (vs := [.float .f32 p0r0]) en162 (ac rfl rfl) rfl ?_)
    refine (c162 p0.long p0r0 m2 w hm2 p0h0).mono ?_
    rintro _ w3 ⟨rfl, E3⟩
    refine ⟨_, rfl, ?_⟩
    have X4 : Ext w w3 := (Ext.refl w).trans E3
    refine da_op rfl (d_mv (v := .bool m2) rfl ?_)
    rcases Bool.eq_false_or_eq_true m2 with hc5 | hc5
    · skip
      replace hr := bif_t hr hc5
      refine da_on rfl (Eq.trans (show sl _ _ _ = .bool m2 from rfl) (congrArg Value.bool hc5)) (d_mv (v := .pointer (some ⟨p0b, p0o, none⟩)) rfl ?_)
      refine da_on rfl (Eq.trans (show sl _ _ _ = .bool m2 from rfl) (congrArg Value.bool hc5)) (d_nil rfl ?_)
      refine da_on rfl (Eq.trans (show sl _ _ _ = .bool m2 from rfl) (congrArg Value.bool hc5)) (d_fieldAddr rfl (fa30_1 _ _) ?_)
      have B6 : w3.heap[p0b]? = some (.cells p0c p0T p0f) := X4.heap p0B
      refine da_on rfl (Eq.trans (show sl _ _ _ = .bool m2 from rfl) (congrArg Value.bool hc5)) (d_load (v := .float .f32 p0r1) rfl agg22 B6 (sub_get (vs := #[.float .f32 p0r0, .float .f32 p0r1, .float .f32 p0r2, .float .f32 p0r3, .float .f32 p0r4]) p0P (i := 1) rfl) ?_)
      obtain ⟨m7, hm7, hr⟩ := letv_out hr
      refine da_on rfl (Eq.trans (show sl _ _ _ = .bool m2 from rfl) (congrArg Value.bool hc5)) (d_cl (vs := [.float .f32 p0r1]) en163 (ac rfl rfl) rfl ?_)
      refine (c163 p0.pull p0r1 m7 w3 hm7 p0h1).mono ?_
      rintro _ w8 ⟨rfl, E8⟩
      refine ⟨_, rfl, ?_⟩
      have X9 : Ext w w8 := X4.trans E8
      refine da_op rfl (d_pick (b := true) (Eq.trans (show ev _ _ = .bool m2 from rfl) (congrArg Value.bool hc5)) ?_)
      refine da_op rfl (d_mv (v := .bool m7) rfl ?_)
      rcases Bool.eq_false_or_eq_true m7 with hc10 | hc10
      · skip
        replace hr := bif_t hr hc10
        refine da_on rfl (Eq.trans (show sl _ _ _ = .bool m7 from rfl) (congrArg Value.bool hc10)) (d_mv (v := .pointer (some ⟨p0b, p0o, none⟩)) rfl ?_)
        refine da_on rfl (Eq.trans (show sl _ _ _ = .bool m7 from rfl) (congrArg Value.bool hc10)) (d_nil rfl ?_)
        refine da_on rfl (Eq.trans (show sl _ _ _ = .bool m7 from rfl) (congrArg Value.bool hc10)) (d_fieldAddr rfl (fa30_2 _ _) ?_)
        have B11 : w8.heap[p0b]? = some (.cells p0c p0T p0f) := X9.heap p0B
        refine da_on rfl (Eq.trans (show sl _ _ _ = .bool m7 from rfl) (congrArg Value.bool hc10)) (d_load (v := .float .f32 p0r2) rfl agg22 B11 (sub_get (vs := #[.float .f32 p0r0, .float .f32 p0r1, .float .f32 p0r2, .float .f32 p0r3, .float .f32 p0r4]) p0P (i := 2) rfl) ?_)
        obtain ⟨m12, hm12, hr⟩ := letv_out hr
        refine da_on rfl (Eq.trans (show sl _ _ _ = .bool m7 from rfl) (congrArg Value.bool hc10)) (d_cl (vs := [.float .f32 p0r2]) en163 (ac rfl rfl) rfl ?_)
        refine (c163 p0.drag p0r2 m12 w8 hm12 p0h2).mono ?_
        rintro _ w13 ⟨rfl, E13⟩
        refine ⟨_, rfl, ?_⟩
        have X14 : Ext w w13 := X9.trans E13
        refine da_op rfl (d_pick (b := true) (Eq.trans (show ev _ _ = .bool m7 from rfl) (congrArg Value.bool hc10)) ?_)
        refine da_op rfl (d_mv (v := .bool m12) rfl ?_)
        rcases Bool.eq_false_or_eq_true m12 with hc15 | hc15
        · skip
          replace hr := bif_t hr hc15
          refine da_on rfl (Eq.trans (show sl _ _ _ = .bool m12 from rfl) (congrArg Value.bool hc15)) (d_mv (v := .pointer (some ⟨p0b, p0o, none⟩)) rfl ?_)
          refine da_on rfl (Eq.trans (show sl _ _ _ = .bool m12 from rfl) (congrArg Value.bool hc15)) (d_nil rfl ?_)
          refine da_on rfl (Eq.trans (show sl _ _ _ = .bool m12 from rfl) (congrArg Value.bool hc15)) (d_fieldAddr rfl (fa30_3 _ _) ?_)
          have B16 : w13.heap[p0b]? = some (.cells p0c p0T p0f) := X14.heap p0B
          refine da_on rfl (Eq.trans (show sl _ _ _ = .bool m12 from rfl) (congrArg Value.bool hc15)) (d_load (v := .float .f32 p0r3) rfl agg22 B16 (sub_get (vs := #[.float .f32 p0r0, .float .f32 p0r1, .float .f32 p0r2, .float .f32 p0r3, .float .f32 p0r4]) p0P (i := 3) rfl) ?_)
          obtain ⟨m17, hm17, hr⟩ := letv_out hr
          refine da_on rfl (Eq.trans (show sl _ _ _ = .bool m12 from rfl) (congrArg Value.bool hc15)) (d_cl (vs := [.float .f32 p0r3]) en164 (ac rfl rfl) rfl ?_)
          refine (c164 p0.drive p0r3 m17 w13 hm17 p0h3).mono ?_
          rintro _ w18 ⟨rfl, E18⟩
          refine ⟨_, rfl, ?_⟩
          have X19 : Ext w w18 := X14.trans E18
          refine da_op rfl (d_pick (b := true) (Eq.trans (show ev _ _ = .bool m12 from rfl) (congrArg Value.bool hc15)) ?_)
          refine da_op rfl (d_mv (v := .bool m17) rfl ?_)
          rcases Bool.eq_false_or_eq_true m17 with hc20 | hc20
          · skip
            replace hr := bif_t hr hc20
            refine da_on rfl (Eq.trans (show sl _ _ _ = .bool m17 from rfl) (congrArg Value.bool hc20)) (d_mv (v := .pointer (some ⟨p0b, p0o, none⟩)) rfl ?_)
            refine da_on rfl (Eq.trans (show sl _ _ _ = .bool m17 from rfl) (congrArg Value.bool hc20)) (d_nil rfl ?_)
            refine da_on rfl (Eq.trans (show sl _ _ _ = .bool m17 from rfl) (congrArg Value.bool hc20)) (d_fieldAddr rfl (fa30_4 _ _) ?_)
            have B21 : w18.heap[p0b]? = some (.cells p0c p0T p0f) := X19.heap p0B
            refine da_on rfl (Eq.trans (show sl _ _ _ = .bool m17 from rfl) (congrArg Value.bool hc20)) (d_load (v := .float .f32 p0r4) rfl agg22 B21 (sub_get (vs := #[.float .f32 p0r0, .float .f32 p0r1, .float .f32 p0r2, .float .f32 p0r3, .float .f32 p0r4]) p0P (i := 4) rfl) ?_)
            obtain ⟨m22, hm22, hr⟩ := letv_out hr
            refine da_on rfl (Eq.trans (show sl _ _ _ = .bool m17 from rfl) (congrArg Value.bool hc20)) (d_cl (vs := [.float .f32 p0r4]) en164 (ac rfl rfl) rfl ?_)
            refine (c164 p0.rate p0r4 m22 w18 hm22 p0h4).mono ?_
            rintro _ w23 ⟨rfl, E23⟩
            refine ⟨_, rfl, ?_⟩
            have X24 : Ext w w23 := X19.trans E23
            refine da_op rfl (d_pick (b := true) (Eq.trans (show ev _ _ = .bool m17 from rfl) (congrArg Value.bool hc20)) ?_)
            refine da_op rfl (d_as (v := .bool m22) rfl ?_)
            refine da_nil ?_
            subst hr
            exact ⟨rfl, (Ext.trans (Ext.trans (Ext.trans (Ext.trans (Ext.trans (Ext.refl w) E3) E8) E13) E18) E23)⟩
          · skip
            replace hr := bif_f hr hc20
            refine da_off rfl (Eq.trans (show sl _ _ _ = .bool m17 from rfl) (congrArg Value.bool hc20)) (by decide) ?_
            refine da_off rfl (Eq.trans (show sl _ _ _ = .bool m17 from rfl) (congrArg Value.bool hc20)) (by decide) ?_
            refine da_off rfl (Eq.trans (show sl _ _ _ = .bool m17 from rfl) (congrArg Value.bool hc20)) (by decide) ?_
            refine da_off rfl (Eq.trans (show sl _ _ _ = .bool m17 from rfl) (congrArg Value.bool hc20)) (by decide) ?_
            refine da_off rfl (Eq.trans (show sl _ _ _ = .bool m17 from rfl) (congrArg Value.bool hc20)) (by decide) ?_
            refine da_op rfl (d_pick (b := false) (Eq.trans (show ev _ _ = .bool m17 from rfl) (congrArg Value.bool hc20)) ?_)
            refine da_op rfl (d_as (v := .bool false) rfl ?_)
            refine da_nil ?_
            subst hr
            exact ⟨rfl, (Ext.trans (Ext.trans (Ext.trans (Ext.trans (Ext.refl w) E3) E8) E13) E18)⟩
        · skip
          replace hr := bif_f hr hc15
          refine da_off rfl (Eq.trans (show sl _ _ _ = .bool m12 from rfl) (congrArg Value.bool hc15)) (by decide) ?_
          refine da_off rfl (Eq.trans (show sl _ _ _ = .bool m12 from rfl) (congrArg Value.bool hc15)) (by decide) ?_
          refine da_off rfl (Eq.trans (show sl _ _ _ = .bool m12 from rfl) (congrArg Value.bool hc15)) (by decide) ?_
          refine da_off rfl (Eq.trans (show sl _ _ _ = .bool m12 from rfl) (congrArg Value.bool hc15)) (by decide) ?_
          refine da_off rfl (Eq.trans (show sl _ _ _ = .bool m12 from rfl) (congrArg Value.bool hc15)) (by decide) ?_
          refine da_op rfl (d_pick (b := false) (Eq.trans (show ev _ _ = .bool m12 from rfl) (congrArg Value.bool hc15)) ?_)
          refine da_op rfl (d_mv (v := .bool false) rfl ?_)
          refine da_off rfl rfl (by decide) ?_
          refine da_off rfl rfl (by decide) ?_
          refine da_off rfl rfl (by decide) ?_
          refine da_off rfl rfl (by decide) ?_
          refine da_off rfl rfl (by decide) ?_
          refine da_op rfl (d_pick (b := false) rfl ?_)
          refine da_op rfl (d_as (v := .bool false) rfl ?_)
          refine da_nil ?_
          subst hr
          exact ⟨rfl, (Ext.trans (Ext.trans (Ext.trans (Ext.refl w) E3) E8) E13)⟩
      · skip
        replace hr := bif_f hr hc10
        refine da_off rfl (Eq.trans (show sl _ _ _ = .bool m7 from rfl) (congrArg Value.bool hc10)) (by decide) ?_
        refine da_off rfl (Eq.trans (show sl _ _ _ = .bool m7 from rfl) (congrArg Value.bool hc10)) (by decide) ?_
        refine da_off rfl (Eq.trans (show sl _ _ _ = .bool m7 from rfl) (congrArg Value.bool hc10)) (by decide) ?_
        refine da_off rfl (Eq.trans (show sl _ _ _ = .bool m7 from rfl) (congrArg Value.bool hc10)) (by decide) ?_
        refine da_off rfl (Eq.trans (show sl _ _ _ = .bool m7 from rfl) (congrArg Value.bool hc10)) (by decide) ?_
        refine da_op rfl (d_pick (b := false) (Eq.trans (show ev _ _ = .bool m7 from rfl) (congrArg Value.bool hc10)) ?_)
        refine da_op rfl (d_mv (v := .bool false) rfl ?_)
        refine da_off rfl rfl (by decide) ?_
        refine da_off rfl rfl (by decide) ?_
        refine da_off rfl rfl (by decide) ?_
        refine da_off rfl rfl (by decide) ?_
        refine da_off rfl rfl (by decide) ?_
        refine da_op rfl (d_pick (b := false) rfl ?_)
        refine da_op rfl (d_mv (v := .bool false) rfl ?_)
        refine da_off rfl rfl (by decide) ?_
        refine da_off rfl rfl (by decide) ?_
        refine da_off rfl rfl (by decide) ?_
        refine da_off rfl rfl (by decide) ?_
        refine da_off rfl rfl (by decide) ?_
        refine da_op rfl (d_pick (b := false) rfl ?_)
        refine da_op rfl (d_as (v := .bool false) rfl ?_)
        refine da_nil ?_
        subst hr
        exact ⟨rfl, (Ext.trans (Ext.trans (Ext.refl w) E3) E8)⟩
    · skip
      replace hr := bif_f hr hc5
      refine da_off rfl (Eq.trans (show sl _ _ _ = .bool m2 from rfl) (congrArg Value.bool hc5)) (by decide) ?_
      refine da_off rfl (Eq.trans (show sl _ _ _ = .bool m2 from rfl) (congrArg Value.bool hc5)) (by decide) ?_
      refine da_off rfl (Eq.trans (show sl _ _ _ = .bool m2 from rfl) (congrArg Value.bool hc5)) (by decide) ?_
      refine da_off rfl (Eq.trans (show sl _ _ _ = .bool m2 from rfl) (congrArg Value.bool hc5)) (by decide) ?_
      refine da_off rfl (Eq.trans (show sl _ _ _ = .bool m2 from rfl) (congrArg Value.bool hc5)) (by decide) ?_
      refine da_op rfl (d_pick (b := false) (Eq.trans (show ev _ _ = .bool m2 from rfl) (congrArg Value.bool hc5)) ?_)
      refine da_op rfl (d_mv (v := .bool false) rfl ?_)
      refine da_off rfl rfl (by decide) ?_
      refine da_off rfl rfl (by decide) ?_
      refine da_off rfl rfl (by decide) ?_
      refine da_off rfl rfl (by decide) ?_
      refine da_off rfl rfl (by decide) ?_
      refine da_op rfl (d_pick (b := false) rfl ?_)
      refine da_op rfl (d_mv (v := .bool false) rfl ?_)
      refine da_off rfl rfl (by decide) ?_
      refine da_off rfl rfl (by decide) ?_
      refine da_off rfl rfl (by decide) ?_
      refine da_off rfl rfl (by decide) ?_
      refine da_off rfl rfl (by decide) ?_
      refine da_op rfl (d_pick (b := false) rfl ?_)
      refine da_op rfl (d_mv (v := .bool false) rfl ?_)
      refine da_off rfl rfl (by decide) ?_
      refine da_off rfl rfl (by decide) ?_
      refine da_off rfl rfl (by decide) ?_
      refine da_off rfl rfl (by decide) ?_
      refine da_off rfl rfl (by decide) ?_
      refine da_op rfl (d_pick (b := false) rfl ?_)
      refine da_op rfl (d_as (v := .bool false) rfl ?_)
      refine da_nil ?_
      subst hr
      exact ⟨rfl, (Ext.trans (Ext.refl w) E3)⟩
  · skip
    rintro σ1 w1 o1 ⟨s2_1, E1⟩
    have X25 : Ext w w1 := (Ext.refl w).trans E1
    refine W_ret ?_
    subst hr
    refine ⟨_, res1 (rv_tmp s2_1), ?_⟩
    exact ⟨rfl, X25⟩
end Go.Proofs
