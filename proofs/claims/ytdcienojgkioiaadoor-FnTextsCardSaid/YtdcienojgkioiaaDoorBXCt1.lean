import Derived.Test.YtdcienojgkioiaaDoorBXCf
namespace Go.Proofs
open Go Go.Fl Go.RowKit Go.Rg
set_option maxRecDepth 100000
set_option linter.unusedVariables false
attribute [local irreducible] Go.Calls doAll Does DoesG W Wr
set_option maxHeartbeats 4000000 in
theorem c39 (p0 : List Int) (p1 : List Int) (p0a : Option Addr) (p0n : Nat) (p0c : Nat) (p1a : Option Addr) (p1n : Nat) (p1c : Nat) (r : Bool) (w : World) (hr : M.laws_b10Long p0 p1 = r) (p0R : RS w encI_u8 (Value.slice p0a p0n p0c) p0) (p1R : RS w encI_u8 (Value.slice p1a p1n p1c) p1) :
    Calls Tryd.prog 39 #[(Value.slice p0a p0n p0c), (Value.slice p1a p1n p1c)] w fun e w' => e = .returned (.bool r) ∧ Ext w w' := by
  refine calls_of_W Tryd.func39 rfl (Nat.le_of_ble_eq_true rfl) ?_
  refine W_seq ?_
  refine W_region rfl ?_
  refine da_op rfl (d_as (v := .bool false) rfl ?_)
  refine da_nil ?_
  refine W_seq ?_
  obtain ⟨m1, hm1, hr⟩ := letv_out hr
  refine W_cut (fun σ' w' => σ' 4 = .bool m1 ∧ Ext w w') rfl ?_ ?_
  · skip
    have hr := hm1
    refine da_op rfl (d_mv (v := (Value.slice p0a p0n p0c)) rfl ?_)
    refine da_op rfl (d_len (e := encI_u8) un73 rfl p0R ?_)
    refine da_op rfl (d_icmp cGtr rfl rfl ?_)
    refine da_op rfl (d_mv (v := .bool (icmp .gtr ((p0).length : Int) 1048576)) rfl ?_)
    rcases Bool.eq_false_or_eq_true (icmp .gtr ((p0).length : Int) 1048576) with hc2 | hc2
    · skip
      replace hr := bif_t hr hc2
      refine da_off rfl (Eq.trans (show sl _ _ _ = .bool (icmp .gtr ((p0).length : Int) 1048576) from rfl) (congrArg Value.bool hc2)) (by decide) ?_
      refine da_off rfl (Eq.trans (show sl _ _ _ = .bool (icmp .gtr ((p0).length : Int) 1048576) from rfl) (congrArg Value.bool hc2)) (by decide) ?_
      refine da_off rfl (Eq.trans (show sl _ _ _ = .bool (icmp .gtr ((p0).length : Int) 1048576) from rfl) (congrArg Value.bool hc2)) (by decide) ?_
      refine da_op rfl (d_pick (b := true) (Eq.trans (show ev _ _ = .bool (icmp .gtr ((p0).length : Int) 1048576) from rfl) (congrArg Value.bool hc2)) ?_)
      refine da_op rfl (d_as (v := .bool true) rfl ?_)
      refine da_nil ?_
      subst hr
      exact ⟨rfl, (Ext.refl w)⟩
    · skip
      replace hr := bif_f hr hc2
      refine da_on rfl (Eq.trans (show sl _ _ _ = .bool (icmp .gtr ((p0).length : Int) 1048576) from rfl) (congrArg Value.bool hc2)) (d_mv (v := (Value.slice p1a p1n p1c)) rfl ?_)
      refine da_on rfl (Eq.trans (show sl _ _ _ = .bool (icmp .gtr ((p0).length : Int) 1048576) from rfl) (congrArg Value.bool hc2)) (d_len (e := encI_u8) un73 rfl p1R ?_)
      refine da_on rfl (Eq.trans (show sl _ _ _ = .bool (icmp .gtr ((p0).length : Int) 1048576) from rfl) (congrArg Value.bool hc2)) (d_icmp cGtr rfl rfl ?_)
      refine da_op rfl (d_pick (b := false) (Eq.trans (show ev _ _ = .bool (icmp .gtr ((p0).length : Int) 1048576) from rfl) (congrArg Value.bool hc2)) ?_)
      refine da_op rfl (d_as (v := .bool (icmp .gtr ((p1).length : Int) 1048576)) rfl ?_)
      refine da_nil ?_
      subst hr
      exact ⟨rfl, (Ext.refl w)⟩
  · skip
    rintro σ1 w1 o1 ⟨s4_1, E1⟩
    have X3 : Ext w w1 := (Ext.refl w).trans E1
    refine W_ret ?_
    subst hr
    refine ⟨_, res1 (rv_tmp s4_1), ?_⟩
    exact ⟨rfl, X3⟩
set_option maxHeartbeats 4000000 in
theorem c41 (p0 : List Int) (p1 : Int) (p2 : Int) (p0a : Option Addr) (p0n : Nat) (p0c : Nat) (r : Int) (w : World) (hr : M.laws_b10At p0 p1 p2 = some r) (p0R : RS w encI_u8 (Value.slice p0a p0n p0c) p0) :
    Calls Tryd.prog 41 #[(Value.slice p0a p0n p0c), .int .i64 p1, .int .i64 p2] w fun e w' => e = .returned (.int .i64 r) ∧ Ext w w' := by
  refine calls_of_W Tryd.func41 rfl (Nat.le_of_ble_eq_true rfl) ?_
  refine W_seq ?_
  refine W_region rfl ?_
  refine da_op rfl (d_as (v := .int .i64 0) rfl ?_)
  refine da_nil ?_
  refine W_seq ?_
  refine W_seq ?_
  refine W_region rfl ?_
  refine da_op rfl (d_mv (v := .int .i64 p2) rfl ?_)
  refine da_op rfl (d_icmp cLeq rfl rfl ?_)
  refine da_nil ?_
  refine W_cond (b := (icmp .leq p2 1)) rfl (fun hc1 => ?_) (fun hc1 => ?_)
  · skip
    replace hr := bif_t hr hc1
    refine W_seq ?_
    refine W_region rfl ?_
    refine da_op rfl (d_as (v := .int .i64 0) rfl ?_)
    refine da_nil ?_
    refine W_ret ?_
    obtain rfl := Option.some.inj hr
    refine ⟨_, res1 (rv_tmp rfl), ?_⟩
    exact ⟨rfl, (Ext.refl w)⟩
  · skip
    replace hr := bif_f hr hc1
    refine W_skip ?_
    refine W_seq ?_
    refine W_seq ?_
    refine W_region rfl ?_
    refine da_op rfl (d_mv (v := .int .i64 p1) rfl ?_)
    refine da_op rfl (d_mv (v := (Value.slice p0a p0n p0c)) rfl ?_)
    refine da_op rfl (d_len (e := encI_u8) un73 rfl p0R ?_)
    refine da_op rfl (d_icmp cLss rfl rfl ?_)
    refine da_nil ?_
    refine W_cond (b := (icmp .lss p1 ((p0).length : Int))) rfl (fun hc2 => ?_) (fun hc2 => ?_)
    · skip
      replace hr := bif_t hr hc2
      refine W_seq ?_
      refine W_region rfl ?_
      refine da_op rfl (d_mv (v := (Value.slice p0a p0n p0c)) rfl ?_)
      refine da_op rfl (d_mv (v := .int .i64 p1) rfl ?_)
      obtain ⟨m3, hm3, hr⟩ := bind_out hr
      refine da_op rfl (d_index (e := encI_u8) (v := (Value.slice p0a p0n p0c)) un73 size5 rfl rfl p0R hm3 fun g4 o4 cu4 T4 fr4 vs4 hv4 hg4 hp4 hq4 => ?_)
      obtain rfl := dec_encI_u8 hq4
      refine da_op rfl (d_load (v := .int .u8 m3) rfl agg5 hg4 (sub_get (vs := #[.int .u8 m3]) hp4 (i := 0) rfl) ?_)
      refine da_op rfl (d_iconv un5 un2 rfl ?_)
      refine da_op rfl (d_mv (v := .int .i64 p2) rfl ?_)
      obtain ⟨m5, hm5, hr⟩ := bind_out hr
      refine da_op rfl (d_rem rfl rfl hm5 ?_)
      refine da_op rfl (d_as (v := .int .i64 m5) rfl ?_)
      refine da_nil ?_
      refine W_ret ?_
      obtain rfl := Option.some.inj hr
      refine ⟨_, res1 (rv_tmp rfl), ?_⟩
      exact ⟨rfl, (Ext.refl w)⟩
    · skip
      replace hr := bif_f hr hc2
      refine W_skip ?_
      refine W_seq ?_
      refine W_region rfl ?_
      refine da_op rfl (d_mv (v := .int .i64 p1) rfl ?_)
      refine da_op rfl (d_iarith rfl rfl (.inr (.inr ⟨rfl, rfl⟩)) ?_)
      refine da_op rfl (d_iarith rfl rfl (.inl ⟨rfl, rfl⟩) ?_)
      refine da_op rfl (d_mv (v := .int .i64 p2) rfl ?_)
      obtain ⟨m6, hm6, hr⟩ := bind_out hr
      refine da_op rfl (d_rem rfl rfl hm6 ?_)
      refine da_op rfl (d_as (v := .int .i64 m6) rfl ?_)
      refine da_nil ?_
      refine W_ret ?_
      obtain rfl := Option.some.inj hr
      refine ⟨_, res1 (rv_tmp rfl), ?_⟩
      exact ⟨rfl, (Ext.refl w)⟩
set_option maxHeartbeats 4000000 in
theorem c95 (p0 : List Int) (p0a : Option Addr) (p0n : Nat) (p0c : Nat) (r : Sl00Src) (w : World) (hr : M.spec_l00From p0 = r) (p0R : RS w encI_u8 (Value.slice p0a p0n p0c) p0) :
    Calls Tryd.prog 95 #[(Value.slice p0a p0n p0c)] w fun e w' => ∃ q0b : Nat, ∃ q0v0a : Option Addr, ∃ q0v0n : Nat, ∃ q0v0c : Nat, e = .returned (.pointer (some ⟨q0b, 0, none⟩)) ∧ Hand (Value.slice p0a p0n p0c) p0 (Value.slice q0v0a q0v0n q0v0c) r.code ∧ w'.heap[q0b]? = some (.cells #[(Value.slice q0v0a q0v0n q0v0c), .int .i64 r.at_, .int .u64 r.seed] 190 (0, 0)) ∧ w.heap.size ≤ q0b ∧ Ext w w' := by
  refine calls_of_W Tryd.func95 rfl (Nat.le_of_ble_eq_true rfl) ?_
  refine W_seq ?_
  refine W_region rfl ?_
  refine da_op rfl (d_as (v := .pointer none) rfl ?_)
  refine da_nil ?_
  refine W_seq ?_
  refine W_region rfl ?_
  refine da_op rfl (d_mv (v := (Value.slice p0a p0n p0c)) rfl ?_)
  refine da_op rfl (d_bd (vs := [(0, (Value.slice p0a p0n p0c))]) (cs := #[(Value.slice p0a p0n p0c), .int .i64 0, .int .u64 0]) (pc rfl rfl) (by kernel_rfl) ?_)
  refine da_op rfl (d_box (cs := #[(Value.slice p0a p0n p0c), .int .i64 0, .int .u64 0]) rfl fun w1 B1 E1 => ?_)
  have own2 : w.heap.size ≤ w.heap.size := Nat.le_trans (Ext.refl w).size (Nat.le_refl _)
  have X3 : Ext w w1 := (Ext.refl w).trans E1
  refine da_op rfl (d_as (v := .pointer (some ⟨w.heap.size, 0, none⟩)) rfl ?_)
  refine da_nil ?_
  refine W_ret ?_
  subst hr
  refine ⟨_, res1 (rv_tmp rfl), ?_⟩
  exact ⟨w.heap.size, p0a, p0n, p0c, rfl, (.inl ⟨rfl, rfl⟩), B1, own2, X3⟩
set_option maxHeartbeats 4000000 in
theorem c200 (p0 : Sl00Src) (p0b : Nat) (p0v0a : Option Addr) (p0v0n : Nat) (p0v0c : Nat) (r : Int × Sl00Src) (w : World) (hr : M.spec_l00Src_next p0 = some r) (p0v0R : RS w encI_u8 (Value.slice p0v0a p0v0n p0v0c) p0.code) (p0B : w.heap[p0b]? = some (.cells #[(Value.slice p0v0a p0v0n p0v0c), .int .i64 p0.at_, .int .u64 p0.seed] 190 (0, 0))) (sp0_1 : ¬ (Value.slice p0v0a p0v0n p0v0c).ownBlock = some p0b) :
    Calls Tryd.prog 200 #[.pointer (some ⟨p0b, 0, none⟩)] w fun e w' => e = .returned (.int .i64 r.1) ∧ w'.heap[p0b]? = some (.cells #[(Value.slice p0v0a p0v0n p0v0c), .int .i64 r.2.at_, .int .u64 r.2.seed] 190 (0, 0)) ∧ Frm (fun k _ => k = p0b) w w' := by
  have X0 : Frm (fun k _ => k = p0b) w w := Frm.refl _ w
  refine calls_of_W Tryd.func200 rfl (Nat.le_of_ble_eq_true rfl) ?_
  refine W_seq ?_
  refine W_region rfl ?_
  refine da_op rfl (d_as (v := .int .i64 0) rfl ?_)
  refine da_nil ?_
  refine W_seq ?_
  refine W_region rfl ?_
  refine da_op rfl (d_as (v := .int .i64 0) rfl ?_)
  refine da_nil ?_
  refine W_seq ?_
  refine W_seq ?_
  refine W_any [] [{ V := fun _ v _ => v = (.pointer (some ⟨p0b, 0, none⟩)) }, { V := fun _ v _ => v = (.pointer (some ⟨p0b, 0, none⟩)) }, { V := fun _ v _ => v = (.pointer (some ⟨p0b, 1, none⟩)) }, { V := fun _ v _ => v = (.int .i64 p0.at_) }, { V := fun _ v _ => v = (.pointer (some ⟨p0b, 0, none⟩)) }, { V := fun _ v _ => v = (.pointer (some ⟨p0b, 0, none⟩)) }, { V := fun _ v _ => v = (.pointer (some ⟨p0b, 0, none⟩)) }, { V := fun _ v _ => v = (Value.slice p0v0a p0v0n p0v0c) }, { V := fun _ v _ => v = (.int .i64 ((p0.code).length : Int)) }, { V := fun _ v _ => v = (.bool (icmp .lss p0.at_ ((p0.code).length : Int))) }] mixed (by kernel_rfl) ⟨trivial, trivial, trivial, trivial, trivial, trivial, trivial, trivial, trivial, trivial, trivial⟩ ⟨?_, ?_, ?_, ?_, ?_, ?_, ?_, ?_, ?_, ?_, trivial⟩ ?_
  · skip
    refine ⟨fun _ _ _ _ _ _ h _ => h, fun _ _ h _ => h, fun σ' w' hA hE hD hP => ?_⟩
    have t0 : σ' 0 = .pointer (some ⟨p0b, 0, none⟩) := (hA 0 rfl).trans rfl
    have B0_2 : w'.heap[p0b]? = some (.cells #[(Value.slice p0v0a p0v0n p0v0c), .int .i64 p0.at_, .int .u64 p0.seed] 190 (0, 0)) := hE.heap not_oth0 p0B
    refine dg_op rfl (d_mv (v := .pointer (some ⟨p0b, 0, none⟩)) t0 ?_)
    exact ⟨rfl, own_none (Ext.refl w')⟩
  · skip
    refine ⟨fun _ _ _ _ _ _ h _ => h, fun _ _ h _ => h, fun σ' w' hA hE hD hP => ?_⟩
    have t4 : σ' 4 = (.pointer (some ⟨p0b, 0, none⟩)) := hD 0 rfl
    have B0_3 : w'.heap[p0b]? = some (.cells #[(Value.slice p0v0a p0v0n p0v0c), .int .i64 p0.at_, .int .u64 p0.seed] 190 (0, 0)) := hE.heap not_oth0 p0B
    refine dg_op rfl (d_nil t4 ?_)
    exact ⟨rfl, own_none (Ext.refl w')⟩
  · skip
    refine ⟨fun _ _ _ _ _ _ h _ => h, fun _ _ h _ => h, fun σ' w' hA hE hD hP => ?_⟩
    have t5 : σ' 5 = (.pointer (some ⟨p0b, 0, none⟩)) := hD 1 rfl
    have B0_4 : w'.heap[p0b]? = some (.cells #[(Value.slice p0v0a p0v0n p0v0c), .int .i64 p0.at_, .int .u64 p0.seed] 190 (0, 0)) := hE.heap not_oth0 p0B
    refine dg_op rfl (d_fieldAddr t5 (fa190_1 _ _) ?_)
    exact ⟨rfl, own_none (Ext.refl w')⟩
  · skip
    refine ⟨fun _ _ _ _ _ _ h _ => h, fun _ _ h _ => h, fun σ' w' hA hE hD hP => ?_⟩
    have t6 : σ' 6 = (.pointer (some ⟨p0b, 1, none⟩)) := hD 2 rfl
    have B0_5 : w'.heap[p0b]? = some (.cells #[(Value.slice p0v0a p0v0n p0v0c), .int .i64 p0.at_, .int .u64 p0.seed] 190 (0, 0)) := hE.heap not_oth0 p0B
    refine dg_op rfl (d_load (v := .int .i64 p0.at_) t6 agg3 B0_5 rfl ?_)
    exact ⟨rfl, own_none (Ext.refl w')⟩
  · skip
    refine ⟨fun _ _ _ _ _ _ h _ => h, fun _ _ h _ => h, fun σ' w' hA hE hD hP => ?_⟩
    have t0 : σ' 0 = .pointer (some ⟨p0b, 0, none⟩) := (hA 0 rfl).trans rfl
    have B0_6 : w'.heap[p0b]? = some (.cells #[(Value.slice p0v0a p0v0n p0v0c), .int .i64 p0.at_, .int .u64 p0.seed] 190 (0, 0)) := hE.heap not_oth0 p0B
    refine dg_op rfl (d_mv (v := .pointer (some ⟨p0b, 0, none⟩)) t0 ?_)
    exact ⟨rfl, own_none (Ext.refl w')⟩
  · skip
    refine ⟨fun _ _ _ _ _ _ h _ => h, fun _ _ h _ => h, fun σ' w' hA hE hD hP => ?_⟩
    have t8 : σ' 8 = (.pointer (some ⟨p0b, 0, none⟩)) := hD 4 rfl
    have B0_7 : w'.heap[p0b]? = some (.cells #[(Value.slice p0v0a p0v0n p0v0c), .int .i64 p0.at_, .int .u64 p0.seed] 190 (0, 0)) := hE.heap not_oth0 p0B
    refine dg_op rfl (d_nil t8 ?_)
    exact ⟨rfl, own_none (Ext.refl w')⟩
  · skip
    refine ⟨fun _ _ _ _ _ _ h _ => h, fun _ _ h _ => h, fun σ' w' hA hE hD hP => ?_⟩
    have t9 : σ' 9 = (.pointer (some ⟨p0b, 0, none⟩)) := hD 5 rfl
    have B0_8 : w'.heap[p0b]? = some (.cells #[(Value.slice p0v0a p0v0n p0v0c), .int .i64 p0.at_, .int .u64 p0.seed] 190 (0, 0)) := hE.heap not_oth0 p0B
    refine dg_op rfl (d_fieldAddr t9 (fa190_0 _ _) ?_)
    exact ⟨rfl, own_none (Ext.refl w')⟩
  · skip
    refine ⟨fun _ _ _ _ _ _ h _ => h, fun _ _ h _ => h, fun σ' w' hA hE hD hP => ?_⟩
    have t10 : σ' 10 = (.pointer (some ⟨p0b, 0, none⟩)) := hD 6 rfl
    have B0_9 : w'.heap[p0b]? = some (.cells #[(Value.slice p0v0a p0v0n p0v0c), .int .i64 p0.at_, .int .u64 p0.seed] 190 (0, 0)) := hE.heap not_oth0 p0B
    refine dg_op rfl (d_load (v := (Value.slice p0v0a p0v0n p0v0c)) t10 agg73 B0_9 rfl ?_)
    exact ⟨rfl, own_none (Ext.refl w')⟩
  · skip
    refine ⟨fun _ _ _ _ _ _ h _ => h, fun _ _ h _ => h, fun σ' w' hA hE hD hP => ?_⟩
    have t11 : σ' 11 = (Value.slice p0v0a p0v0n p0v0c) := hD 7 rfl
    have B0_10 : RS w' encI_u8 (Value.slice p0v0a p0v0n p0v0c) p0.code := p0v0R.frm hE (fun k _ hk => not_oth0)
    refine dg_op rfl (d_len (e := encI_u8) un73 t11 B0_10 ?_)
    exact ⟨rfl, own_none (Ext.refl w')⟩
  · skip
    refine ⟨fun _ _ _ _ _ _ h _ => h, fun _ _ h _ => h, fun σ' w' hA hE hD hP => ?_⟩
    have t7 : σ' 7 = (.int .i64 p0.at_) := hD 3 rfl
    have t12 : σ' 12 = (.int .i64 ((p0.code).length : Int)) := hD 8 rfl
    refine dg_op rfl (d_icmp cLss t7 t12 ?_)
    exact ⟨rfl, own_none (Ext.refl w')⟩
  · skip
    intro σ1 w1 A1 E1 V1
    have E1x : Ext w w1 := ext_of_oth0 E1
    have s13_1 : σ1 13 = (.bool (icmp .lss p0.at_ ((p0.code).length : Int))) := V1 9 (Nat.le_of_ble_eq_true rfl)
    have s0_1 : σ1 0 = .pointer (some ⟨p0b, 0, none⟩) := (A1 0 rfl).trans rfl
    have s3_1 : σ1 3 = .int .i64 0 := (A1 3 rfl).trans rfl
    have X11 : Frm (fun k _ => k = p0b) w w1 := X0.trans E1x.frm
    refine W_cond (b := (icmp .lss p0.at_ ((p0.code).length : Int))) s13_1 (fun hc12 => ?_) (fun hc12 => ?_)
    · skip
      replace hr := bif_t hr hc12
      have B14 : w1.heap[p0b]? = some (.cells #[(Value.slice p0v0a p0v0n p0v0c), .int .i64 p0.at_, .int .u64 p0.seed] 190 (0, 0)) := E1x.heap p0B
      have B15 : RS w1 encI_u8 (Value.slice p0v0a p0v0n p0v0c) p0.code := p0v0R.ext E1x
      obtain ⟨m16, hm16, hr⟩ := bind_out hr
      refine W_any [] [{ V := fun _ v _ => v = (.pointer (some ⟨p0b, 0, none⟩)) }, { V := fun _ v _ => v = (.pointer (some ⟨p0b, 0, none⟩)) }, { V := fun _ v _ => v = (.pointer (some ⟨p0b, 0, none⟩)) }, { V := fun _ v _ => v = (Value.slice p0v0a p0v0n p0v0c) }, { V := fun _ v _ => v = (.pointer (some ⟨p0b, 0, none⟩)) }, { V := fun _ v _ => v = (.pointer (some ⟨p0b, 0, none⟩)) }, { V := fun _ v _ => v = (.pointer (some ⟨p0b, 1, none⟩)) }, { V := fun _ v _ => v = (.int .i64 p0.at_) }, { V := fun _ v _ => ∃ d13_8g : Nat, ∃ d13_8o : Nat, v = (.pointer (some ⟨d13_8g, d13_8o, none⟩)) ∧ EL encI_u8 (Value.slice p0v0a p0v0n p0v0c) (p0.code).length p0.at_ d13_8g d13_8o }, { V := fun _ v _ => v = (.int .u8 m16) }, { V := fun _ v _ => v = (.int .i64 (IntKind.i64.wrap m16)) }, { V := fun _ v _ => v = (.int .i64 (IntKind.i64.wrap m16)) }] mixed (by kernel_rfl) ⟨trivial, trivial, trivial, trivial, trivial, trivial, trivial, trivial, trivial, trivial, trivial, trivial, trivial⟩ ⟨?_, ?_, ?_, ?_, ?_, ?_, ?_, ?_, ?_, ?_, ?_, ?_, trivial⟩ ?_
      · skip
        refine ⟨fun _ _ _ _ _ _ h _ => h, fun _ _ h _ => h, fun σ' w' hA hE hD hP => ?_⟩
        have t0 : σ' 0 = .pointer (some ⟨p0b, 0, none⟩) := (hA 0 rfl).trans s0_1
        have B0_17 : w'.heap[p0b]? = some (.cells #[(Value.slice p0v0a p0v0n p0v0c), .int .i64 p0.at_, .int .u64 p0.seed] 190 (0, 0)) := hE.heap not_oth0 B14
        refine dg_op rfl (d_mv (v := .pointer (some ⟨p0b, 0, none⟩)) t0 ?_)
        exact ⟨rfl, own_none (Ext.refl w')⟩
      · skip
        refine ⟨fun _ _ _ _ _ _ h _ => h, fun _ _ h _ => h, fun σ' w' hA hE hD hP => ?_⟩
        have t14 : σ' 14 = (.pointer (some ⟨p0b, 0, none⟩)) := hD 0 rfl
        have B0_18 : w'.heap[p0b]? = some (.cells #[(Value.slice p0v0a p0v0n p0v0c), .int .i64 p0.at_, .int .u64 p0.seed] 190 (0, 0)) := hE.heap not_oth0 B14
        refine dg_op rfl (d_nil t14 ?_)
        exact ⟨rfl, own_none (Ext.refl w')⟩
      · skip
        refine ⟨fun _ _ _ _ _ _ h _ => h, fun _ _ h _ => h, fun σ' w' hA hE hD hP => ?_⟩
        have t15 : σ' 15 = (.pointer (some ⟨p0b, 0, none⟩)) := hD 1 rfl
        have B0_19 : w'.heap[p0b]? = some (.cells #[(Value.slice p0v0a p0v0n p0v0c), .int .i64 p0.at_, .int .u64 p0.seed] 190 (0, 0)) := hE.heap not_oth0 B14
        refine dg_op rfl (d_fieldAddr t15 (fa190_0 _ _) ?_)
        exact ⟨rfl, own_none (Ext.refl w')⟩
      · skip
        refine ⟨fun _ _ _ _ _ _ h _ => h, fun _ _ h _ => h, fun σ' w' hA hE hD hP => ?_⟩
        have t16 : σ' 16 = (.pointer (some ⟨p0b, 0, none⟩)) := hD 2 rfl
        have B0_20 : w'.heap[p0b]? = some (.cells #[(Value.slice p0v0a p0v0n p0v0c), .int .i64 p0.at_, .int .u64 p0.seed] 190 (0, 0)) := hE.heap not_oth0 B14
        refine dg_op rfl (d_load (v := (Value.slice p0v0a p0v0n p0v0c)) t16 agg73 B0_20 rfl ?_)
        exact ⟨rfl, own_none (Ext.refl w')⟩
      · skip
        refine ⟨fun _ _ _ _ _ _ h _ => h, fun _ _ h _ => h, fun σ' w' hA hE hD hP => ?_⟩
        have t0 : σ' 0 = .pointer (some ⟨p0b, 0, none⟩) := (hA 0 rfl).trans s0_1
        have B0_21 : w'.heap[p0b]? = some (.cells #[(Value.slice p0v0a p0v0n p0v0c), .int .i64 p0.at_, .int .u64 p0.seed] 190 (0, 0)) := hE.heap not_oth0 B14
        refine dg_op rfl (d_mv (v := .pointer (some ⟨p0b, 0, none⟩)) t0 ?_)
        exact ⟨rfl, own_none (Ext.refl w')⟩
      · skip
        refine ⟨fun _ _ _ _ _ _ h _ => h, fun _ _ h _ => h, fun σ' w' hA hE hD hP => ?_⟩
        have t18 : σ' 18 = (.pointer (some ⟨p0b, 0, none⟩)) := hD 4 rfl
        have B0_22 : w'.heap[p0b]? = some (.cells #[(Value.slice p0v0a p0v0n p0v0c), .int .i64 p0.at_, .int .u64 p0.seed] 190 (0, 0)) := hE.heap not_oth0 B14
        refine dg_op rfl (d_nil t18 ?_)
        exact ⟨rfl, own_none (Ext.refl w')⟩
      · skip
        refine ⟨fun _ _ _ _ _ _ h _ => h, fun _ _ h _ => h, fun σ' w' hA hE hD hP => ?_⟩
        have t19 : σ' 19 = (.pointer (some ⟨p0b, 0, none⟩)) := hD 5 rfl
        have B0_23 : w'.heap[p0b]? = some (.cells #[(Value.slice p0v0a p0v0n p0v0c), .int .i64 p0.at_, .int .u64 p0.seed] 190 (0, 0)) := hE.heap not_oth0 B14
        refine dg_op rfl (d_fieldAddr t19 (fa190_1 _ _) ?_)
        exact ⟨rfl, own_none (Ext.refl w')⟩
      · skip
        refine ⟨fun _ _ _ _ _ _ h _ => h, fun _ _ h _ => h, fun σ' w' hA hE hD hP => ?_⟩
        have t20 : σ' 20 = (.pointer (some ⟨p0b, 1, none⟩)) := hD 6 rfl
        have B0_24 : w'.heap[p0b]? = some (.cells #[(Value.slice p0v0a p0v0n p0v0c), .int .i64 p0.at_, .int .u64 p0.seed] 190 (0, 0)) := hE.heap not_oth0 B14
        refine dg_op rfl (d_load (v := .int .i64 p0.at_) t20 agg3 B0_24 rfl ?_)
        exact ⟨rfl, own_none (Ext.refl w')⟩
      · skip
        refine ⟨fun _ _ _ _ _ _ h _ => h, fun _ _ h _ => h, fun σ' w' hA hE hD hP => ?_⟩
        have t17 : σ' 17 = (Value.slice p0v0a p0v0n p0v0c) := hD 3 rfl
        have t21 : σ' 21 = (.int .i64 p0.at_) := hD 7 rfl
        have B0_25 : RS w' encI_u8 (Value.slice p0v0a p0v0n p0v0c) p0.code := B15.frm hE (fun k _ hk => not_oth0)
        refine dg_op rfl (d_indexE (e := encI_u8) (v := (Value.slice p0v0a p0v0n p0v0c)) un73 size5 t17 t21 B0_25 hm16 fun g26 o26 l26 => ?_)
        exact ⟨⟨g26, o26, rfl, l26⟩, own_none (Ext.refl _)⟩
      · skip
        refine ⟨fun _ _ _ _ _ _ h _ => h, fun _ _ h _ => h, fun σ' w' hA hE hD hP => ?_⟩
        obtain ⟨d13_8g, d13_8o, t22, d13_8gE⟩ : ∃ d13_8g : Nat, ∃ d13_8o : Nat, σ' 22 = (.pointer (some ⟨d13_8g, d13_8o, none⟩)) ∧ EL encI_u8 (Value.slice p0v0a p0v0n p0v0c) (p0.code).length p0.at_ d13_8g d13_8o := hD 8 rfl
        have B0_27 : RS w' encI_u8 (Value.slice p0v0a p0v0n p0v0c) p0.code := B15.frm hE (fun k _ hk => not_oth0)
        obtain ⟨d13_8c, d13_8T, d13_8f, d13_8vs, d13_8hg, d13_8P, d13_8hq⟩ := RS.el B0_27 d13_8gE hm16
        obtain rfl := dec_encI_u8 d13_8hq
        refine dg_op rfl (d_load (v := .int .u8 m16) t22 agg5 d13_8hg (sub_get (vs := #[.int .u8 m16]) d13_8P (i := 0) rfl) ?_)
        exact ⟨rfl, own_none (Ext.refl w')⟩
      · skip
        refine ⟨fun _ _ _ _ _ _ h _ => h, fun _ _ h _ => h, fun σ' w' hA hE hD hP => ?_⟩
        have t23 : σ' 23 = (.int .u8 m16) := hD 9 rfl
        refine dg_op rfl (d_iconv un5 un3 t23 ?_)
        exact ⟨rfl, own_none (Ext.refl w')⟩
      · skip
        refine ⟨fun _ _ _ _ _ _ h _ => h, fun _ _ h _ => h, fun σ' w' hA hE hD hP => ?_⟩
        have t24 : σ' 24 = (.int .i64 (IntKind.i64.wrap m16)) := hD 10 rfl
        refine dg_op rfl (d_as (v := .int .i64 (IntKind.i64.wrap m16)) t24 ?_)
        exact ⟨rfl, own_none (Ext.refl w')⟩
      · skip
        intro σ13 w13 A13 E13 V13
        have E13x : Ext w1 w13 := ext_of_oth0 E13
        have s3_13 : σ13 3 = (.int .i64 (IntKind.i64.wrap m16)) := V13 11 (Nat.le_of_ble_eq_true rfl)
        have s0_13 : σ13 0 = .pointer (some ⟨p0b, 0, none⟩) := (A13 0 rfl).trans s0_1
        have X28 : Frm (fun k _ => k = p0b) w w13 := X11.trans E13x.frm
        refine W_seq ?_
        refine W_region rfl ?_
        refine da_op rfl (d_mv (v := .pointer (some ⟨p0b, 0, none⟩)) s0_13 ?_)
        refine da_op rfl (d_nil rfl ?_)
        refine da_op rfl (d_fieldAddr rfl (fa190_1 _ _) ?_)
        have B29 : w13.heap[p0b]? = some (.cells #[(Value.slice p0v0a p0v0n p0v0c), .int .i64 p0.at_, .int .u64 p0.seed] 190 (0, 0)) := E13x.heap B14
        refine da_op rfl (d_load (v := .int .i64 p0.at_) rfl agg3 B29 rfl ?_)
        refine da_op rfl (d_iarith rfl rfl (.inl ⟨rfl, rfl⟩) ?_)
        refine da_op rfl (d_nil rfl ?_)
        refine da_op rfl (d_fieldAddr rfl (fa190_1 _ _) ?_)
        refine da_op rfl (d_store (vs := #[.int .i64 (IntKind.i64.wrap (p0.at_ + 1))]) rfl rfl B29 size3 (Nat.le_of_ble_eq_true rfl) rfl fun w30 S30 => ?_)
        have X31 : Frm (fun k _ => k = p0b) w w30 := Frm.step X28 S30.frmb (fun k _ hk => .inl hk)
        have B32 : w30.heap[p0b]? = some (.cells #[(Value.slice p0v0a p0v0n p0v0c), .int .i64 (IntKind.i64.wrap (p0.at_ + 1)), .int .u64 p0.seed] 190 (0, 0)) := S30.here
        refine da_nil ?_
        refine W_seq ?_
        refine W_region rfl ?_
        refine da_op rfl (d_mv (v := .pointer (some ⟨p0b, 0, none⟩)) s0_13 ?_)
        refine da_op rfl (d_mv (v := .pointer (some ⟨p0b, 0, none⟩)) s0_13 ?_)
        refine da_op rfl (d_nil rfl ?_)
        refine da_op rfl (d_fieldAddr rfl (fa190_2 _ _) ?_)
        refine da_op rfl (d_load (v := .int .u64 p0.seed) rfl agg188 B32 rfl ?_)
        refine da_op rfl (d_iarith rfl rfl (.inr (.inr ⟨rfl, rfl⟩)) ?_)
        refine da_op rfl (d_mv (v := .int .i64 (IntKind.i64.wrap m16)) s3_13 ?_)
        refine da_op rfl (d_iconv un3 un188 rfl ?_)
        refine da_op rfl (d_iarith rfl rfl (.inl ⟨rfl, rfl⟩) ?_)
        refine da_op rfl (d_iarith rfl rfl (.inl ⟨rfl, rfl⟩) ?_)
        refine da_op rfl (d_nil rfl ?_)
        refine da_op rfl (d_fieldAddr rfl (fa190_2 _ _) ?_)
        refine da_op rfl (d_store (vs := #[.int .u64 (IntKind.u64.wrap ((IntKind.u64.wrap ((IntKind.u64.wrap (p0.seed * 6364136223846793005)) + (IntKind.u64.wrap (IntKind.i64.wrap m16)))) + 1442695040888963407))]) rfl rfl B32 size188 (Nat.le_of_ble_eq_true rfl) rfl fun w33 S33 => ?_)
        have X34 : Frm (fun k _ => k = p0b) w w33 := Frm.step X31 S33.frmb (fun k _ hk => .inl hk)
        have B35 : w33.heap[p0b]? = some (.cells #[(Value.slice p0v0a p0v0n p0v0c), .int .i64 (IntKind.i64.wrap (p0.at_ + 1)), .int .u64 (IntKind.u64.wrap ((IntKind.u64.wrap ((IntKind.u64.wrap (p0.seed * 6364136223846793005)) + (IntKind.u64.wrap (IntKind.i64.wrap m16)))) + 1442695040888963407))] 190 (0, 0)) := S33.here
        refine da_nil ?_
        refine W_seq ?_
        refine W_seq ?_
        have B37 : RS w33 encI_u8 (Value.slice p0v0a p0v0n p0v0c) p0.code := ((B15.ext E13x).frm S30.frmb (fun k _ => (rb sp0_1) k)).frm S33.frmb (fun k _ => (rb sp0_1) k)
        refine W_any [] [{ V := fun _ v _ => v = (.pointer (some ⟨p0b, 0, none⟩)) }, { V := fun _ v _ => v = (.pointer (some ⟨p0b, 0, none⟩)) }, { V := fun _ v _ => v = (.pointer (some ⟨p0b, 1, none⟩)) }, { V := fun _ v _ => v = (.int .i64 (IntKind.i64.wrap (p0.at_ + 1))) }, { V := fun _ v _ => v = (.pointer (some ⟨p0b, 0, none⟩)) }, { V := fun _ v _ => v = (.pointer (some ⟨p0b, 0, none⟩)) }, { V := fun _ v _ => v = (.pointer (some ⟨p0b, 0, none⟩)) }, { V := fun _ v _ => v = (Value.slice p0v0a p0v0n p0v0c) }, { V := fun _ v _ => v = (.int .i64 ((p0.code).length : Int)) }, { V := fun _ v _ => v = (.bool (icmp .leq (IntKind.i64.wrap (p0.at_ + 1)) ((p0.code).length : Int))) }] mixed (by kernel_rfl) ⟨trivial, trivial, trivial, trivial, trivial, trivial, trivial, trivial, trivial, trivial, trivial⟩ ⟨?_, ?_, ?_, ?_, ?_, ?_, ?_, ?_, ?_, ?_, trivial⟩ ?_
        · skip
          refine ⟨fun _ _ _ _ _ _ h _ => h, fun _ _ h _ => h, fun σ' w' hA hE hD hP => ?_⟩
          have t0 : σ' 0 = .pointer (some ⟨p0b, 0, none⟩) := (hA 0 rfl).trans s0_13
          have B0_38 : w'.heap[p0b]? = some (.cells #[(Value.slice p0v0a p0v0n p0v0c), .int .i64 (IntKind.i64.wrap (p0.at_ + 1)), .int .u64 (IntKind.u64.wrap ((IntKind.u64.wrap ((IntKind.u64.wrap (p0.seed * 6364136223846793005)) + (IntKind.u64.wrap (IntKind.i64.wrap m16)))) + 1442695040888963407))] 190 (0, 0)) := hE.heap not_oth0 B35
          refine dg_op rfl (d_mv (v := .pointer (some ⟨p0b, 0, none⟩)) t0 ?_)
          exact ⟨rfl, own_none (Ext.refl w')⟩
        · skip
          refine ⟨fun _ _ _ _ _ _ h _ => h, fun _ _ h _ => h, fun σ' w' hA hE hD hP => ?_⟩
          have t44 : σ' 44 = (.pointer (some ⟨p0b, 0, none⟩)) := hD 0 rfl
          have B0_39 : w'.heap[p0b]? = some (.cells #[(Value.slice p0v0a p0v0n p0v0c), .int .i64 (IntKind.i64.wrap (p0.at_ + 1)), .int .u64 (IntKind.u64.wrap ((IntKind.u64.wrap ((IntKind.u64.wrap (p0.seed * 6364136223846793005)) + (IntKind.u64.wrap (IntKind.i64.wrap m16)))) + 1442695040888963407))] 190 (0, 0)) := hE.heap not_oth0 B35
          refine dg_op rfl (d_nil t44 ?_)
          exact ⟨rfl, own_none (Ext.refl w')⟩
        · skip
          refine ⟨fun _ _ _ _ _ _ h _ => h, fun _ _ h _ => h, fun σ' w' hA hE hD hP => ?_⟩
          have t45 : σ' 45 = (.pointer (some ⟨p0b, 0, none⟩)) := hD 1 rfl
          have B0_40 : w'.heap[p0b]? = some (.cells #[(Value.slice p0v0a p0v0n p0v0c), .int .i64 (IntKind.i64.wrap (p0.at_ + 1)), .int .u64 (IntKind.u64.wrap ((IntKind.u64.wrap ((IntKind.u64.wrap (p0.seed * 6364136223846793005)) + (IntKind.u64.wrap (IntKind.i64.wrap m16)))) + 1442695040888963407))] 190 (0, 0)) := hE.heap not_oth0 B35
          refine dg_op rfl (d_fieldAddr t45 (fa190_1 _ _) ?_)
          exact ⟨rfl, own_none (Ext.refl w')⟩
        · skip
          refine ⟨fun _ _ _ _ _ _ h _ => h, fun _ _ h _ => h, fun σ' w' hA hE hD hP => ?_⟩
          have t46 : σ' 46 = (.pointer (some ⟨p0b, 1, none⟩)) := hD 2 rfl
          have B0_41 : w'.heap[p0b]? = some (.cells #[(Value.slice p0v0a p0v0n p0v0c), .int .i64 (IntKind.i64.wrap (p0.at_ + 1)), .int .u64 (IntKind.u64.wrap ((IntKind.u64.wrap ((IntKind.u64.wrap (p0.seed * 6364136223846793005)) + (IntKind.u64.wrap (IntKind.i64.wrap m16)))) + 1442695040888963407))] 190 (0, 0)) := hE.heap not_oth0 B35
          refine dg_op rfl (d_load (v := .int .i64 (IntKind.i64.wrap (p0.at_ + 1))) t46 agg3 B0_41 rfl ?_)
          exact ⟨rfl, own_none (Ext.refl w')⟩
        · skip
          refine ⟨fun _ _ _ _ _ _ h _ => h, fun _ _ h _ => h, fun σ' w' hA hE hD hP => ?_⟩
          have t0 : σ' 0 = .pointer (some ⟨p0b, 0, none⟩) := (hA 0 rfl).trans s0_13
          have B0_42 : w'.heap[p0b]? = some (.cells #[(Value.slice p0v0a p0v0n p0v0c), .int .i64 (IntKind.i64.wrap (p0.at_ + 1)), .int .u64 (IntKind.u64.wrap ((IntKind.u64.wrap ((IntKind.u64.wrap (p0.seed * 6364136223846793005)) + (IntKind.u64.wrap (IntKind.i64.wrap m16)))) + 1442695040888963407))] 190 (0, 0)) := hE.heap not_oth0 B35
          refine dg_op rfl (d_mv (v := .pointer (some ⟨p0b, 0, none⟩)) t0 ?_)
          exact ⟨rfl, own_none (Ext.refl w')⟩
        · skip
          refine ⟨fun _ _ _ _ _ _ h _ => h, fun _ _ h _ => h, fun σ' w' hA hE hD hP => ?_⟩
          have t48 : σ' 48 = (.pointer (some ⟨p0b, 0, none⟩)) := hD 4 rfl
          have B0_43 : w'.heap[p0b]? = some (.cells #[(Value.slice p0v0a p0v0n p0v0c), .int .i64 (IntKind.i64.wrap (p0.at_ + 1)), .int .u64 (IntKind.u64.wrap ((IntKind.u64.wrap ((IntKind.u64.wrap (p0.seed * 6364136223846793005)) + (IntKind.u64.wrap (IntKind.i64.wrap m16)))) + 1442695040888963407))] 190 (0, 0)) := hE.heap not_oth0 B35
          refine dg_op rfl (d_nil t48 ?_)
          exact ⟨rfl, own_none (Ext.refl w')⟩
        · skip
          refine ⟨fun _ _ _ _ _ _ h _ => h, fun _ _ h _ => h, fun σ' w' hA hE hD hP => ?_⟩
          have t49 : σ' 49 = (.pointer (some ⟨p0b, 0, none⟩)) := hD 5 rfl
          have B0_44 : w'.heap[p0b]? = some (.cells #[(Value.slice p0v0a p0v0n p0v0c), .int .i64 (IntKind.i64.wrap (p0.at_ + 1)), .int .u64 (IntKind.u64.wrap ((IntKind.u64.wrap ((IntKind.u64.wrap (p0.seed * 6364136223846793005)) + (IntKind.u64.wrap (IntKind.i64.wrap m16)))) + 1442695040888963407))] 190 (0, 0)) := hE.heap not_oth0 B35
          refine dg_op rfl (d_fieldAddr t49 (fa190_0 _ _) ?_)
          exact ⟨rfl, own_none (Ext.refl w')⟩
        · skip
          refine ⟨fun _ _ _ _ _ _ h _ => h, fun _ _ h _ => h, fun σ' w' hA hE hD hP => ?_⟩
          have t50 : σ' 50 = (.pointer (some ⟨p0b, 0, none⟩)) := hD 6 rfl
          have B0_45 : w'.heap[p0b]? = some (.cells #[(Value.slice p0v0a p0v0n p0v0c), .int .i64 (IntKind.i64.wrap (p0.at_ + 1)), .int .u64 (IntKind.u64.wrap ((IntKind.u64.wrap ((IntKind.u64.wrap (p0.seed * 6364136223846793005)) + (IntKind.u64.wrap (IntKind.i64.wrap m16)))) + 1442695040888963407))] 190 (0, 0)) := hE.heap not_oth0 B35
          refine dg_op rfl (d_load (v := (Value.slice p0v0a p0v0n p0v0c)) t50 agg73 B0_45 rfl ?_)
          exact ⟨rfl, own_none (Ext.refl w')⟩
        · skip
          refine ⟨fun _ _ _ _ _ _ h _ => h, fun _ _ h _ => h, fun σ' w' hA hE hD hP => ?_⟩
          have t51 : σ' 51 = (Value.slice p0v0a p0v0n p0v0c) := hD 7 rfl
          have B0_46 : RS w' encI_u8 (Value.slice p0v0a p0v0n p0v0c) p0.code := B37.frm hE (fun k _ hk => not_oth0)
          refine dg_op rfl (d_len (e := encI_u8) un73 t51 B0_46 ?_)
          exact ⟨rfl, own_none (Ext.refl w')⟩
        · skip
          refine ⟨fun _ _ _ _ _ _ h _ => h, fun _ _ h _ => h, fun σ' w' hA hE hD hP => ?_⟩
          have t47 : σ' 47 = (.int .i64 (IntKind.i64.wrap (p0.at_ + 1))) := hD 3 rfl
          have t52 : σ' 52 = (.int .i64 ((p0.code).length : Int)) := hD 8 rfl
          refine dg_op rfl (d_icmp cLeq t47 t52 ?_)
          exact ⟨rfl, own_none (Ext.refl w')⟩
        · skip
          intro σ36 w36 A36 E36 V36
          have E36x : Ext w33 w36 := ext_of_oth0 E36
          have s53_36 : σ36 53 = (.bool (icmp .leq (IntKind.i64.wrap (p0.at_ + 1)) ((p0.code).length : Int))) := V36 9 (Nat.le_of_ble_eq_true rfl)
          have s0_36 : σ36 0 = .pointer (some ⟨p0b, 0, none⟩) := (A36 0 rfl).trans s0_13
          have s3_36 : σ36 3 = .int .i64 (IntKind.i64.wrap m16) := (A36 3 rfl).trans s3_13
          have X47 : Frm (fun k _ => k = p0b) w w36 := X34.trans E36x.frm
          refine W_cond (b := (icmp .leq (IntKind.i64.wrap (p0.at_ + 1)) ((p0.code).length : Int))) s53_36 (fun hc48 => ?_) (fun hc48 => ?_)
          · skip
            replace hr := bif_t hr hc48
            refine W_seq ?_
            refine W_region rfl ?_
            refine da_op rfl (d_mv (v := .int .i64 (IntKind.i64.wrap m16)) s3_36 ?_)
            refine da_op rfl (d_as (v := .int .i64 (IntKind.i64.wrap m16)) rfl ?_)
            refine da_nil ?_
            refine W_ret ?_
            have B49 : w36.heap[p0b]? = some (.cells #[(Value.slice p0v0a p0v0n p0v0c), .int .i64 (IntKind.i64.wrap (p0.at_ + 1)), .int .u64 (IntKind.u64.wrap ((IntKind.u64.wrap ((IntKind.u64.wrap (p0.seed * 6364136223846793005)) + (IntKind.u64.wrap (IntKind.i64.wrap m16)))) + 1442695040888963407))] 190 (0, 0)) := E36x.heap B35
            obtain rfl := Option.some.inj hr
            refine ⟨_, res1 (rv_tmp rfl), ?_⟩
            exact ⟨rfl, B49, X47⟩
          · skip
            replace hr := bif_f hr hc48
            refine W_skip ?_
            refine W_seq ?_
            refine W_region rfl ?_
            refine da_op rfl (d_mv (v := .pointer (some ⟨p0b, 0, none⟩)) s0_36 ?_)
            refine da_op rfl (d_nil rfl ?_)
            refine da_op rfl (d_fieldAddr rfl (fa190_2 _ _) ?_)
            have B50 : w36.heap[p0b]? = some (.cells #[(Value.slice p0v0a p0v0n p0v0c), .int .i64 (IntKind.i64.wrap (p0.at_ + 1)), .int .u64 (IntKind.u64.wrap ((IntKind.u64.wrap ((IntKind.u64.wrap (p0.seed * 6364136223846793005)) + (IntKind.u64.wrap (IntKind.i64.wrap m16)))) + 1442695040888963407))] 190 (0, 0)) := E36x.heap B35
            refine da_op rfl (d_load (v := .int .u64 (IntKind.u64.wrap ((IntKind.u64.wrap ((IntKind.u64.wrap (p0.seed * 6364136223846793005)) + (IntKind.u64.wrap (IntKind.i64.wrap m16)))) + 1442695040888963407))) rfl agg188 B50 rfl ?_)
            refine da_op rfl (d_shrL rfl rfl (n := 40) (by decide) ?_)
            refine da_op rfl (d_and rfl rfl ?_)
            refine da_op rfl (d_iconv un188 un2 rfl ?_)
            refine da_op rfl (d_as (v := .int .i64 (IntKind.i64.wrap (iand .u64 (((IntKind.u64.wrap ((IntKind.u64.wrap ((IntKind.u64.wrap (p0.seed * 6364136223846793005)) + (IntKind.u64.wrap (IntKind.i64.wrap m16)))) + 1442695040888963407))).fdiv (2 ^ 40)) 255))) rfl ?_)
            refine da_nil ?_
            refine W_ret ?_
            obtain rfl := Option.some.inj hr
            refine ⟨_, res1 (rv_tmp rfl), ?_⟩
            exact ⟨rfl, B50, X47⟩
    · skip
      replace hr := bif_f hr hc12
      refine W_skip ?_
      refine W_seq ?_
      refine W_region rfl ?_
      refine da_op rfl (d_mv (v := .pointer (some ⟨p0b, 0, none⟩)) s0_1 ?_)
      refine da_op rfl (d_nil rfl ?_)
      refine da_op rfl (d_fieldAddr rfl (fa190_1 _ _) ?_)
      have B51 : w1.heap[p0b]? = some (.cells #[(Value.slice p0v0a p0v0n p0v0c), .int .i64 p0.at_, .int .u64 p0.seed] 190 (0, 0)) := E1x.heap p0B
      refine da_op rfl (d_load (v := .int .i64 p0.at_) rfl agg3 B51 rfl ?_)
      refine da_op rfl (d_iarith rfl rfl (.inl ⟨rfl, rfl⟩) ?_)
      refine da_op rfl (d_nil rfl ?_)
      refine da_op rfl (d_fieldAddr rfl (fa190_1 _ _) ?_)
      refine da_op rfl (d_store (vs := #[.int .i64 (IntKind.i64.wrap (p0.at_ + 1))]) rfl rfl B51 size3 (Nat.le_of_ble_eq_true rfl) rfl fun w52 S52 => ?_)
      have X53 : Frm (fun k _ => k = p0b) w w52 := Frm.step X11 S52.frmb (fun k _ hk => .inl hk)
      have B54 : w52.heap[p0b]? = some (.cells #[(Value.slice p0v0a p0v0n p0v0c), .int .i64 (IntKind.i64.wrap (p0.at_ + 1)), .int .u64 p0.seed] 190 (0, 0)) := S52.here
      refine da_nil ?_
      refine W_seq ?_
      refine W_region rfl ?_
      refine da_op rfl (d_mv (v := .pointer (some ⟨p0b, 0, none⟩)) s0_1 ?_)
      refine da_op rfl (d_mv (v := .pointer (some ⟨p0b, 0, none⟩)) s0_1 ?_)
      refine da_op rfl (d_nil rfl ?_)
      refine da_op rfl (d_fieldAddr rfl (fa190_2 _ _) ?_)
      refine da_op rfl (d_load (v := .int .u64 p0.seed) rfl agg188 B54 rfl ?_)
      refine da_op rfl (d_iarith rfl rfl (.inr (.inr ⟨rfl, rfl⟩)) ?_)
      refine da_op rfl (d_mv (v := .int .i64 0) s3_1 ?_)
      refine da_op rfl (d_iconvL (r := 0) un3 un188 rfl (by decide) ?_)
      refine da_op rfl (d_iarith rfl rfl (.inl ⟨rfl, rfl⟩) ?_)
      refine da_op rfl (d_iarith rfl rfl (.inl ⟨rfl, rfl⟩) ?_)
      refine da_op rfl (d_nil rfl ?_)
      refine da_op rfl (d_fieldAddr rfl (fa190_2 _ _) ?_)
      refine da_op rfl (d_store (vs := #[.int .u64 (IntKind.u64.wrap ((IntKind.u64.wrap ((IntKind.u64.wrap (p0.seed * 6364136223846793005)) + 0)) + 1442695040888963407))]) rfl rfl B54 size188 (Nat.le_of_ble_eq_true rfl) rfl fun w55 S55 => ?_)
      have X56 : Frm (fun k _ => k = p0b) w w55 := Frm.step X53 S55.frmb (fun k _ hk => .inl hk)
      have B57 : w55.heap[p0b]? = some (.cells #[(Value.slice p0v0a p0v0n p0v0c), .int .i64 (IntKind.i64.wrap (p0.at_ + 1)), .int .u64 (IntKind.u64.wrap ((IntKind.u64.wrap ((IntKind.u64.wrap (p0.seed * 6364136223846793005)) + 0)) + 1442695040888963407))] 190 (0, 0)) := S55.here
      refine da_nil ?_
      refine W_seq ?_
      refine W_seq ?_
      have B59 : RS w55 encI_u8 (Value.slice p0v0a p0v0n p0v0c) p0.code := ((p0v0R.ext E1x).frm S52.frmb (fun k _ => (rb sp0_1) k)).frm S55.frmb (fun k _ => (rb sp0_1) k)
      refine W_any [] [{ V := fun _ v _ => v = (.pointer (some ⟨p0b, 0, none⟩)) }, { V := fun _ v _ => v = (.pointer (some ⟨p0b, 0, none⟩)) }, { V := fun _ v _ => v = (.pointer (some ⟨p0b, 1, none⟩)) }, { V := fun _ v _ => v = (.int .i64 (IntKind.i64.wrap (p0.at_ + 1))) }, { V := fun _ v _ => v = (.pointer (some ⟨p0b, 0, none⟩)) }, { V := fun _ v _ => v = (.pointer (some ⟨p0b, 0, none⟩)) }, { V := fun _ v _ => v = (.pointer (some ⟨p0b, 0, none⟩)) }, { V := fun _ v _ => v = (Value.slice p0v0a p0v0n p0v0c) }, { V := fun _ v _ => v = (.int .i64 ((p0.code).length : Int)) }, { V := fun _ v _ => v = (.bool (icmp .leq (IntKind.i64.wrap (p0.at_ + 1)) ((p0.code).length : Int))) }] mixed (by kernel_rfl) ⟨trivial, trivial, trivial, trivial, trivial, trivial, trivial, trivial, trivial, trivial, trivial⟩ ⟨?_, ?_, ?_, ?_, ?_, ?_, ?_, ?_, ?_, ?_, trivial⟩ ?_
      · skip
        refine ⟨fun _ _ _ _ _ _ h _ => h, fun _ _ h _ => h, fun σ' w' hA hE hD hP => ?_⟩
        have t0 : σ' 0 = .pointer (some ⟨p0b, 0, none⟩) := (hA 0 rfl).trans s0_1
        have B0_60 : w'.heap[p0b]? = some (.cells #[(Value.slice p0v0a p0v0n p0v0c), .int .i64 (IntKind.i64.wrap (p0.at_ + 1)), .int .u64 (IntKind.u64.wrap ((IntKind.u64.wrap ((IntKind.u64.wrap (p0.seed * 6364136223846793005)) + 0)) + 1442695040888963407))] 190 (0, 0)) := hE.heap not_oth0 B57
        refine dg_op rfl (d_mv (v := .pointer (some ⟨p0b, 0, none⟩)) t0 ?_)
        exact ⟨rfl, own_none (Ext.refl w')⟩
      · skip
        refine ⟨fun _ _ _ _ _ _ h _ => h, fun _ _ h _ => h, fun σ' w' hA hE hD hP => ?_⟩
        have t44 : σ' 44 = (.pointer (some ⟨p0b, 0, none⟩)) := hD 0 rfl
        have B0_61 : w'.heap[p0b]? = some (.cells #[(Value.slice p0v0a p0v0n p0v0c), .int .i64 (IntKind.i64.wrap (p0.at_ + 1)), .int .u64 (IntKind.u64.wrap ((IntKind.u64.wrap ((IntKind.u64.wrap (p0.seed * 6364136223846793005)) + 0)) + 1442695040888963407))] 190 (0, 0)) := hE.heap not_oth0 B57
        refine dg_op rfl (d_nil t44 ?_)
        exact ⟨rfl, own_none (Ext.refl w')⟩
      · skip
        refine ⟨fun _ _ _ _ _ _ h _ => h, fun _ _ h _ => h, fun σ' w' hA hE hD hP => ?_⟩
        have t45 : σ' 45 = (.pointer (some ⟨p0b, 0, none⟩)) := hD 1 rfl
        have B0_62 : w'.heap[p0b]? = some (.cells #[(Value.slice p0v0a p0v0n p0v0c), .int .i64 (IntKind.i64.wrap (p0.at_ + 1)), .int .u64 (IntKind.u64.wrap ((IntKind.u64.wrap ((IntKind.u64.wrap (p0.seed * 6364136223846793005)) + 0)) + 1442695040888963407))] 190 (0, 0)) := hE.heap not_oth0 B57
        refine dg_op rfl (d_fieldAddr t45 (fa190_1 _ _) ?_)
        exact ⟨rfl, own_none (Ext.refl w')⟩
      · skip
        refine ⟨fun _ _ _ _ _ _ h _ => h, fun _ _ h _ => h, fun σ' w' hA hE hD hP => ?_⟩
        have t46 : σ' 46 = (.pointer (some ⟨p0b, 1, none⟩)) := hD 2 rfl
        have B0_63 : w'.heap[p0b]? = some (.cells #[(Value.slice p0v0a p0v0n p0v0c), .int .i64 (IntKind.i64.wrap (p0.at_ + 1)), .int .u64 (IntKind.u64.wrap ((IntKind.u64.wrap ((IntKind.u64.wrap (p0.seed * 6364136223846793005)) + 0)) + 1442695040888963407))] 190 (0, 0)) := hE.heap not_oth0 B57
        refine dg_op rfl (d_load (v := .int .i64 (IntKind.i64.wrap (p0.at_ + 1))) t46 agg3 B0_63 rfl ?_)
        exact ⟨rfl, own_none (Ext.refl w')⟩
      · skip
        refine ⟨fun _ _ _ _ _ _ h _ => h, fun _ _ h _ => h, fun σ' w' hA hE hD hP => ?_⟩
        have t0 : σ' 0 = .pointer (some ⟨p0b, 0, none⟩) := (hA 0 rfl).trans s0_1
        have B0_64 : w'.heap[p0b]? = some (.cells #[(Value.slice p0v0a p0v0n p0v0c), .int .i64 (IntKind.i64.wrap (p0.at_ + 1)), .int .u64 (IntKind.u64.wrap ((IntKind.u64.wrap ((IntKind.u64.wrap (p0.seed * 6364136223846793005)) + 0)) + 1442695040888963407))] 190 (0, 0)) := hE.heap not_oth0 B57
        refine dg_op rfl (d_mv (v := .pointer (some ⟨p0b, 0, none⟩)) t0 ?_)
        exact ⟨rfl, own_none (Ext.refl w')⟩
      · skip
        refine ⟨fun _ _ _ _ _ _ h _ => h, fun _ _ h _ => h, fun σ' w' hA hE hD hP => ?_⟩
        have t48 : σ' 48 = (.pointer (some ⟨p0b, 0, none⟩)) := hD 4 rfl
        have B0_65 : w'.heap[p0b]? = some (.cells #[(Value.slice p0v0a p0v0n p0v0c), .int .i64 (IntKind.i64.wrap (p0.at_ + 1)), .int .u64 (IntKind.u64.wrap ((IntKind.u64.wrap ((IntKind.u64.wrap (p0.seed * 6364136223846793005)) + 0)) + 1442695040888963407))] 190 (0, 0)) := hE.heap not_oth0 B57
        refine dg_op rfl (d_nil t48 ?_)
        exact ⟨rfl, own_none (Ext.refl w')⟩
      · skip
        refine ⟨fun _ _ _ _ _ _ h _ => h, fun _ _ h _ => h, fun σ' w' hA hE hD hP => ?_⟩
        have t49 : σ' 49 = (.pointer (some ⟨p0b, 0, none⟩)) := hD 5 rfl
        have B0_66 : w'.heap[p0b]? = some (.cells #[(Value.slice p0v0a p0v0n p0v0c), .int .i64 (IntKind.i64.wrap (p0.at_ + 1)), .int .u64 (IntKind.u64.wrap ((IntKind.u64.wrap ((IntKind.u64.wrap (p0.seed * 6364136223846793005)) + 0)) + 1442695040888963407))] 190 (0, 0)) := hE.heap not_oth0 B57
        refine dg_op rfl (d_fieldAddr t49 (fa190_0 _ _) ?_)
        exact ⟨rfl, own_none (Ext.refl w')⟩
      · skip
        refine ⟨fun _ _ _ _ _ _ h _ => h, fun _ _ h _ => h, fun σ' w' hA hE hD hP => ?_⟩
        have t50 : σ' 50 = (.pointer (some ⟨p0b, 0, none⟩)) := hD 6 rfl
        have B0_67 : w'.heap[p0b]? = some (.cells #[(Value.slice p0v0a p0v0n p0v0c), .int .i64 (IntKind.i64.wrap (p0.at_ + 1)), .int .u64 (IntKind.u64.wrap ((IntKind.u64.wrap ((IntKind.u64.wrap (p0.seed * 6364136223846793005)) + 0)) + 1442695040888963407))] 190 (0, 0)) := hE.heap not_oth0 B57
        refine dg_op rfl (d_load (v := (Value.slice p0v0a p0v0n p0v0c)) t50 agg73 B0_67 rfl ?_)
        exact ⟨rfl, own_none (Ext.refl w')⟩
      · skip
        refine ⟨fun _ _ _ _ _ _ h _ => h, fun _ _ h _ => h, fun σ' w' hA hE hD hP => ?_⟩
        have t51 : σ' 51 = (Value.slice p0v0a p0v0n p0v0c) := hD 7 rfl
        have B0_68 : RS w' encI_u8 (Value.slice p0v0a p0v0n p0v0c) p0.code := B59.frm hE (fun k _ hk => not_oth0)
        refine dg_op rfl (d_len (e := encI_u8) un73 t51 B0_68 ?_)
        exact ⟨rfl, own_none (Ext.refl w')⟩
      · skip
        refine ⟨fun _ _ _ _ _ _ h _ => h, fun _ _ h _ => h, fun σ' w' hA hE hD hP => ?_⟩
        have t47 : σ' 47 = (.int .i64 (IntKind.i64.wrap (p0.at_ + 1))) := hD 3 rfl
        have t52 : σ' 52 = (.int .i64 ((p0.code).length : Int)) := hD 8 rfl
        refine dg_op rfl (d_icmp cLeq t47 t52 ?_)
        exact ⟨rfl, own_none (Ext.refl w')⟩
      · skip
        intro σ58 w58 A58 E58 V58
        have E58x : Ext w55 w58 := ext_of_oth0 E58
        have s53_58 : σ58 53 = (.bool (icmp .leq (IntKind.i64.wrap (p0.at_ + 1)) ((p0.code).length : Int))) := V58 9 (Nat.le_of_ble_eq_true rfl)
        have s0_58 : σ58 0 = .pointer (some ⟨p0b, 0, none⟩) := (A58 0 rfl).trans s0_1
        have s3_58 : σ58 3 = .int .i64 0 := (A58 3 rfl).trans s3_1
        have X69 : Frm (fun k _ => k = p0b) w w58 := X56.trans E58x.frm
        refine W_cond (b := (icmp .leq (IntKind.i64.wrap (p0.at_ + 1)) ((p0.code).length : Int))) s53_58 (fun hc70 => ?_) (fun hc70 => ?_)
        · skip
          replace hr := bif_t hr hc70
          refine W_seq ?_
          refine W_region rfl ?_
          refine da_op rfl (d_mv (v := .int .i64 0) s3_58 ?_)
          refine da_op rfl (d_as (v := .int .i64 0) rfl ?_)
          refine da_nil ?_
          refine W_ret ?_
          have B71 : w58.heap[p0b]? = some (.cells #[(Value.slice p0v0a p0v0n p0v0c), .int .i64 (IntKind.i64.wrap (p0.at_ + 1)), .int .u64 (IntKind.u64.wrap ((IntKind.u64.wrap ((IntKind.u64.wrap (p0.seed * 6364136223846793005)) + 0)) + 1442695040888963407))] 190 (0, 0)) := E58x.heap B57
          obtain rfl := Option.some.inj hr
          refine ⟨_, res1 (rv_tmp rfl), ?_⟩
          exact ⟨rfl, B71, X69⟩
        · skip
          replace hr := bif_f hr hc70
          refine W_skip ?_
          refine W_seq ?_
          refine W_region rfl ?_
          refine da_op rfl (d_mv (v := .pointer (some ⟨p0b, 0, none⟩)) s0_58 ?_)
          refine da_op rfl (d_nil rfl ?_)
          refine da_op rfl (d_fieldAddr rfl (fa190_2 _ _) ?_)
          have B72 : w58.heap[p0b]? = some (.cells #[(Value.slice p0v0a p0v0n p0v0c), .int .i64 (IntKind.i64.wrap (p0.at_ + 1)), .int .u64 (IntKind.u64.wrap ((IntKind.u64.wrap ((IntKind.u64.wrap (p0.seed * 6364136223846793005)) + 0)) + 1442695040888963407))] 190 (0, 0)) := E58x.heap B57
          refine da_op rfl (d_load (v := .int .u64 (IntKind.u64.wrap ((IntKind.u64.wrap ((IntKind.u64.wrap (p0.seed * 6364136223846793005)) + 0)) + 1442695040888963407))) rfl agg188 B72 rfl ?_)
          refine da_op rfl (d_shrL rfl rfl (n := 40) (by decide) ?_)
          refine da_op rfl (d_and rfl rfl ?_)
          refine da_op rfl (d_iconv un188 un2 rfl ?_)
          refine da_op rfl (d_as (v := .int .i64 (IntKind.i64.wrap (iand .u64 (((IntKind.u64.wrap ((IntKind.u64.wrap ((IntKind.u64.wrap (p0.seed * 6364136223846793005)) + 0)) + 1442695040888963407))).fdiv (2 ^ 40)) 255))) rfl ?_)
          refine da_nil ?_
          refine W_ret ?_
          obtain rfl := Option.some.inj hr
          refine ⟨_, res1 (rv_tmp rfl), ?_⟩
          exact ⟨rfl, B72, X69⟩
set_option maxHeartbeats 4000000 in
theorem c184 (p0 : Sl00Src) (p1 : Int) (p0b : Nat) (p0v0a : Option Addr) (p0v0n : Nat) (p0v0c : Nat) (r : Int × Sl00Src) (w : World) (hr : M.spec_l00Src_pick p0 p1 = some r) (p0v0R : RS w encI_u8 (Value.slice p0v0a p0v0n p0v0c) p0.code) (p0B : w.heap[p0b]? = some (.cells #[(Value.slice p0v0a p0v0n p0v0c), .int .i64 p0.at_, .int .u64 p0.seed] 190 (0, 0))) (sp0_1 : ¬ (Value.slice p0v0a p0v0n p0v0c).ownBlock = some p0b) :
    Calls Tryd.prog 184 #[.pointer (some ⟨p0b, 0, none⟩), .int .i64 p1] w fun e w' => e = .returned (.int .i64 r.1) ∧ w'.heap[p0b]? = some (.cells #[(Value.slice p0v0a p0v0n p0v0c), .int .i64 r.2.at_, .int .u64 r.2.seed] 190 (0, 0)) ∧ Frm (fun k _ => k = p0b) w w' := by
  have X0 : Frm (fun k _ => k = p0b) w w := Frm.refl _ w
  refine calls_of_W Tryd.func184 rfl (Nat.le_of_ble_eq_true rfl) ?_
  refine W_seq ?_
  refine W_region rfl ?_
  refine da_op rfl (d_as (v := .int .i64 0) rfl ?_)
  refine da_nil ?_
  refine W_seq ?_
  refine W_seq ?_
  refine W_region rfl ?_
  refine da_op rfl (d_mv (v := .int .i64 p1) rfl ?_)
  refine da_op rfl (d_icmp cLeq rfl rfl ?_)
  refine da_nil ?_
  refine W_cond (b := (icmp .leq p1 1)) rfl (fun hc1 => ?_) (fun hc1 => ?_)
  · skip
    replace hr := bif_t hr hc1
    refine W_seq ?_
    refine W_region rfl ?_
    refine da_op rfl (d_as (v := .int .i64 0) rfl ?_)
    refine da_nil ?_
    refine W_ret ?_
    obtain rfl := Option.some.inj hr
    refine ⟨_, res1 (rv_tmp rfl), ?_⟩
    exact ⟨rfl, p0B, X0⟩
  · skip
    replace hr := bif_f hr hc1
    refine W_skip ?_
    refine W_seq ?_
    refine W_region rfl ?_
    refine da_op rfl (d_mv (v := .pointer (some ⟨p0b, 0, none⟩)) rfl ?_)
    obtain ⟨m2, hm2, hr⟩ := bind_out hr
    refine da_op rfl (d_cl (vs := [.pointer (some ⟨p0b, 0, none⟩)]) en200 (ac rfl rfl) rfl ?_)
    refine (c200 p0 p0b p0v0a p0v0n p0v0c m2 w hm2 p0v0R p0B sp0_1).mono ?_
    rintro _ w3 ⟨rfl, q3_m0B, E3⟩
    refine ⟨_, rfl, ?_⟩
    have X4 : Frm (fun k _ => k = p0b) w w3 := Frm.step X0 E3 (fun k _ hk => .inl hk)
    refine da_op rfl (d_as (v := .int .i64 m2.1) rfl ?_)
    refine da_nil ?_
    refine W_seq ?_
    refine W_seq ?_
    refine W_region rfl ?_
    refine da_op rfl (d_mv (v := .int .i64 p1) rfl ?_)
    refine da_op rfl (d_icmp cGtr rfl rfl ?_)
    refine da_nil ?_
    refine W_cond (b := (icmp .gtr p1 200)) rfl (fun hc5 => ?_) (fun hc5 => ?_)
    · skip
      replace hr := bif_t hr hc5
      refine W_region rfl ?_
      refine da_op rfl (d_mv (v := .int .i64 m2.1) rfl ?_)
      refine da_op rfl (d_iarith rfl rfl (.inr (.inr ⟨rfl, rfl⟩)) ?_)
      refine da_op rfl (d_mv (v := .pointer (some ⟨p0b, 0, none⟩)) rfl ?_)
      obtain ⟨m6, hm6, hr⟩ := bind_out hr
      have B7 : RS w3 encI_u8 (Value.slice p0v0a p0v0n p0v0c) p0.code := p0v0R.frm E3 (fun k _ => (fun k hk => ((rb sp0_1) k hk)) k)
      refine da_op rfl (d_cl (vs := [.pointer (some ⟨p0b, 0, none⟩)]) en200 (ac rfl rfl) rfl ?_)
      refine (c200 (⟨p0.code, m2.2.at_, m2.2.seed⟩ : Sl00Src) p0b p0v0a p0v0n p0v0c m6 w3 hm6 B7 q3_m0B sp0_1).mono ?_
      rintro _ w8 ⟨rfl, q8_m0B, E8⟩
      refine ⟨_, rfl, ?_⟩
      have X9 : Frm (fun k _ => k = p0b) w w8 := Frm.step X4 E8 (fun k _ hk => .inl hk)
      refine da_op rfl (d_iarith rfl rfl (.inl ⟨rfl, rfl⟩) ?_)
      refine da_op rfl (d_as (v := .int .i64 (IntKind.i64.wrap ((IntKind.i64.wrap (m2.1 * 256)) + m6.1))) rfl ?_)
      refine da_nil ?_
      refine W_seq ?_
      refine W_region rfl ?_
      refine da_op rfl (d_mv (v := .int .i64 (IntKind.i64.wrap ((IntKind.i64.wrap (m2.1 * 256)) + m6.1))) rfl ?_)
      refine da_op rfl (d_mv (v := .int .i64 p1) rfl ?_)
      obtain ⟨m10, hm10, hr⟩ := bind_out hr
      refine da_op rfl (d_rem rfl rfl hm10 ?_)
      refine da_op rfl (d_as (v := .int .i64 m10) rfl ?_)
      refine da_nil ?_
      refine W_ret ?_
      obtain rfl := Option.some.inj hr
      refine ⟨_, res1 (rv_tmp rfl), ?_⟩
      exact ⟨rfl, q8_m0B, X9⟩
    · skip
      replace hr := bif_f hr hc5
      refine W_skip ?_
      refine W_seq ?_
      refine W_region rfl ?_
      refine da_op rfl (d_mv (v := .int .i64 m2.1) rfl ?_)
      refine da_op rfl (d_mv (v := .int .i64 p1) rfl ?_)
      obtain ⟨m11, hm11, hr⟩ := bind_out hr
      refine da_op rfl (d_rem rfl rfl hm11 ?_)
      refine da_op rfl (d_as (v := .int .i64 m11) rfl ?_)
      refine da_nil ?_
      refine W_ret ?_
      obtain rfl := Option.some.inj hr
      refine ⟨_, res1 (rv_tmp rfl), ?_⟩
      exact ⟨rfl, q3_m0B, X4⟩
set_option maxHeartbeats 4000000 in
theorem c150 (p0 : Sl00Src) (p1 : Int) (p0b : Nat) (p0v0a : Option Addr) (p0v0n : Nat) (p0v0c : Nat) (r : Bool × Sl00Src) (w : World) (hr : M.spec_l00Src_one p0 p1 = some r) (p0v0R : RS w encI_u8 (Value.slice p0v0a p0v0n p0v0c) p0.code) (p0B : w.heap[p0b]? = some (.cells #[(Value.slice p0v0a p0v0n p0v0c), .int .i64 p0.at_, .int .u64 p0.seed] 190 (0, 0))) (sp0_1 : ¬ (Value.slice p0v0a p0v0n p0v0c).ownBlock = some p0b) :
    Calls Tryd.prog 150 #[.pointer (some ⟨p0b, 0, none⟩), .int .i64 p1] w fun e w' => e = .returned (.bool r.1) ∧ w'.heap[p0b]? = some (.cells #[(Value.slice p0v0a p0v0n p0v0c), .int .i64 r.2.at_, .int .u64 r.2.seed] 190 (0, 0)) ∧ Frm (fun k _ => k = p0b) w w' := by
  have X0 : Frm (fun k _ => k = p0b) w w := Frm.refl _ w
  refine calls_of_W Tryd.func150 rfl (Nat.le_of_ble_eq_true rfl) ?_
  refine W_seq ?_
  refine W_region rfl ?_
  refine da_op rfl (d_as (v := .bool false) rfl ?_)
  refine da_nil ?_
  refine W_seq ?_
  refine W_region rfl ?_
  refine da_op rfl (d_mv (v := .pointer (some ⟨p0b, 0, none⟩)) rfl ?_)
  refine da_op rfl (d_mv (v := .int .i64 p1) rfl ?_)
  obtain ⟨m1, hm1, hr⟩ := bind_out hr
  refine da_op rfl (d_cl (vs := [.pointer (some ⟨p0b, 0, none⟩), .int .i64 p1]) en184 (ac rfl (ac rfl rfl)) rfl ?_)
  refine (c184 p0 p1 p0b p0v0a p0v0n p0v0c m1 w hm1 p0v0R p0B sp0_1).mono ?_
  rintro _ w2 ⟨rfl, q2_m0B, E2⟩
  refine ⟨_, rfl, ?_⟩
  have X3 : Frm (fun k _ => k = p0b) w w2 := Frm.step X0 E2 (fun k _ hk => .inl hk)
  refine da_op rfl (d_icmp cEql rfl rfl ?_)
  refine da_op rfl (d_as (v := .bool (icmp .eql m1.1 0)) rfl ?_)
  refine da_nil ?_
  refine W_ret ?_
  obtain rfl := Option.some.inj hr
  refine ⟨_, res1 (rv_tmp rfl), ?_⟩
  exact ⟨rfl, q2_m0B, X3⟩
set_option maxHeartbeats 4000000 in
theorem c152 (p0 : Sl00Src) (p0b : Nat) (p0v0a : Option Addr) (p0v0n : Nat) (p0v0c : Nat) (r : Nat × Sl00Src) (w : World) (hr : M.spec_l01DrawPlain p0 = some r) (p0v0R : RS w encI_u8 (Value.slice p0v0a p0v0n p0v0c) p0.code) (p0B : w.heap[p0b]? = some (.cells #[(Value.slice p0v0a p0v0n p0v0c), .int .i64 p0.at_, .int .u64 p0.seed] 190 (0, 0))) (sp0_1 : ¬ (Value.slice p0v0a p0v0n p0v0c).ownBlock = some p0b) :
    Calls Tryd.prog 152 #[.pointer (some ⟨p0b, 0, none⟩)] w fun e w' => ∃ q0r : Nat, e = .returned (.float .f32 q0r) ∧ cn .f32 q0r = r.1 ∧ w'.heap[p0b]? = some (.cells #[(Value.slice p0v0a p0v0n p0v0c), .int .i64 r.2.at_, .int .u64 r.2.seed] 190 (0, 0)) ∧ Frm (fun k _ => k = p0b) w w' := by
  have X0 : Frm (fun k _ => k = p0b) w w := Frm.refl _ w
  refine calls_of_W Tryd.func152 rfl (Nat.le_of_ble_eq_true rfl) ?_
  refine W_seq ?_
  refine W_region rfl ?_
  refine da_op rfl (d_as (v := .float .f32 0) rfl ?_)
  refine da_nil ?_
  refine W_seq ?_
  refine W_region rfl ?_
  refine da_op rfl (d_mv (v := .pointer (some ⟨p0b, 0, none⟩)) rfl ?_)
  obtain ⟨m1, hm1, hr⟩ := bind_out hr
  refine da_op rfl (d_cl (vs := [.pointer (some ⟨p0b, 0, none⟩), .int .i64 129]) en184 (ac rfl (ac rfl rfl)) rfl ?_)
  refine (c184 p0 129 p0b p0v0a p0v0n p0v0c m1 w hm1 p0v0R p0B sp0_1).mono ?_
  rintro _ w2 ⟨rfl, q2_m0B, E2⟩
  refine ⟨_, rfl, ?_⟩
  have X3 : Frm (fun k _ => k = p0b) w w2 := Frm.step X0 E2 (fun k _ hk => .inl hk)
  refine da_op rfl (d_iarith rfl rfl (.inr (.inl ⟨rfl, rfl⟩)) ?_)
  refine da_op rfl (d_as (v := .int .i64 (IntKind.i64.wrap (m1.1 - 64))) rfl ?_)
  refine da_nil ?_
  refine W_seq ?_
  refine W_seq ?_
  refine W_region rfl ?_
  refine da_op rfl (d_mv (v := .pointer (some ⟨p0b, 0, none⟩)) rfl ?_)
  obtain ⟨m4, hm4, hr⟩ := bind_out hr
  have B5 : RS w2 encI_u8 (Value.slice p0v0a p0v0n p0v0c) p0.code := p0v0R.frm E2 (fun k _ => (fun k hk => ((rb sp0_1) k hk)) k)
  refine da_op rfl (d_cl (vs := [.pointer (some ⟨p0b, 0, none⟩), .int .i64 4]) en150 (ac rfl (ac rfl rfl)) rfl ?_)
  refine (c150 (⟨p0.code, m1.2.at_, m1.2.seed⟩ : Sl00Src) 4 p0b p0v0a p0v0n p0v0c m4 w2 hm4 B5 q2_m0B sp0_1).mono ?_
  rintro _ w6 ⟨rfl, q6_m0B, E6⟩
  refine ⟨_, rfl, ?_⟩
  have X7 : Frm (fun k _ => k = p0b) w w6 := Frm.step X3 E6 (fun k _ hk => .inl hk)
  refine da_nil ?_
  refine W_cond (b := m4.1) rfl (fun hc8 => ?_) (fun hc8 => ?_)
  · skip
    replace hr := bif_t hr hc8
    refine W_seq ?_
    refine W_region rfl ?_
    refine da_op rfl (d_mv (v := .int .i64 (IntKind.i64.wrap (m1.1 - 64))) rfl ?_)
    refine da_op rfl (d_ofInt un2 un22 rfl ?_)
    refine da_op rfl (d_fop (k := .f32) fQuo rfl rfl (cn_fint _ _) cn_f32_1088421888 fun r9 w9 h9 _ E9 => ?_)
    have X10 : Frm (fun k _ => k = p0b) w w9 := X7.trans E9.frm
    refine da_op rfl (d_as (v := .float .f32 r9) rfl ?_)
    refine da_nil ?_
    refine W_ret ?_
    have B11 : w9.heap[p0b]? = some (.cells #[(Value.slice p0v0a p0v0n p0v0c), .int .i64 m4.2.at_, .int .u64 m4.2.seed] 190 (0, 0)) := E9.heap q6_m0B
    obtain rfl := Option.some.inj hr
    refine ⟨_, res1 (rv_tmp rfl), ?_⟩
    exact ⟨r9, rfl, h9, B11, X10⟩
  · skip
    replace hr := bif_f hr hc8
    refine W_skip ?_
    refine W_seq ?_
    refine W_region rfl ?_
    refine da_op rfl (d_mv (v := .int .i64 (IntKind.i64.wrap (m1.1 - 64))) rfl ?_)
    refine da_op rfl (d_ofInt un2 un22 rfl ?_)
    refine da_op rfl (d_fop (k := .f32) fQuo rfl rfl (cn_fint _ _) cn_f32_1098907648 fun r12 w12 h12 _ E12 => ?_)
    have X13 : Frm (fun k _ => k = p0b) w w12 := X7.trans E12.frm
    refine da_op rfl (d_as (v := .float .f32 r12) rfl ?_)
    refine da_nil ?_
    refine W_ret ?_
    have B14 : w12.heap[p0b]? = some (.cells #[(Value.slice p0v0a p0v0n p0v0c), .int .i64 m4.2.at_, .int .u64 m4.2.seed] 190 (0, 0)) := E12.heap q6_m0B
    obtain rfl := Option.some.inj hr
    refine ⟨_, res1 (rv_tmp rfl), ?_⟩
    exact ⟨r12, rfl, h12, B14, X13⟩
set_option maxHeartbeats 4000000 in
theorem c185 (p0 : Sl00Src) (p1 : List Int) (p0b : Nat) (p0v0a : Option Addr) (p0v0n : Nat) (p0v0c : Nat) (p1a : Option Addr) (p1n : Nat) (p1c : Nat) (r : Int × Sl00Src) (w : World) (hr : M.spec_l00Src_among p0 p1 = some r) (p0v0R : RS w encI_u8 (Value.slice p0v0a p0v0n p0v0c) p0.code) (p0B : w.heap[p0b]? = some (.cells #[(Value.slice p0v0a p0v0n p0v0c), .int .i64 p0.at_, .int .u64 p0.seed] 190 (0, 0))) (p1R : RS w encI_i64 (Value.slice p1a p1n p1c) p1) (sp0_1 : ¬ (Value.slice p0v0a p0v0n p0v0c).ownBlock = some p0b) (sp0_2 : ¬ (Value.slice p1a p1n p1c).ownBlock = some p0b) :
    Calls Tryd.prog 185 #[.pointer (some ⟨p0b, 0, none⟩), (Value.slice p1a p1n p1c)] w fun e w' => e = .returned (.int .i64 r.1) ∧ w'.heap[p0b]? = some (.cells #[(Value.slice p0v0a p0v0n p0v0c), .int .i64 r.2.at_, .int .u64 r.2.seed] 190 (0, 0)) ∧ Frm (fun k _ => k = p0b) w w' := by
  have X0 : Frm (fun k _ => k = p0b) w w := Frm.refl _ w
  refine calls_of_W Tryd.func185 rfl (Nat.le_of_ble_eq_true rfl) ?_
  refine W_seq ?_
  refine W_region rfl ?_
  refine da_op rfl (d_as (v := .int .i64 0) rfl ?_)
  refine da_nil ?_
  refine W_seq ?_
  refine W_region rfl ?_
  refine da_op rfl (d_mv (v := (Value.slice p1a p1n p1c)) rfl ?_)
  refine da_op rfl (d_mv (v := .pointer (some ⟨p0b, 0, none⟩)) rfl ?_)
  refine da_op rfl (d_mv (v := (Value.slice p1a p1n p1c)) rfl ?_)
  refine da_op rfl (d_len (e := encI_i64) un81 rfl p1R ?_)
  obtain ⟨m1, hm1, hr⟩ := bind_out hr
  refine da_op rfl (d_cl (vs := [.pointer (some ⟨p0b, 0, none⟩), .int .i64 ((p1).length : Int)]) en184 (ac rfl (ac rfl rfl)) rfl ?_)
  refine (c184 p0 ((p1).length : Int) p0b p0v0a p0v0n p0v0c m1 w hm1 p0v0R p0B sp0_1).mono ?_
  rintro _ w2 ⟨rfl, q2_m0B, E2⟩
  refine ⟨_, rfl, ?_⟩
  have X3 : Frm (fun k _ => k = p0b) w w2 := Frm.step X0 E2 (fun k _ hk => .inl hk)
  obtain ⟨m4, hm4, hr⟩ := bind_out hr
  have B6 : RS w2 encI_i64 (Value.slice p1a p1n p1c) p1 := p1R.frm E2 (fun k _ => (fun k hk => ((rb sp0_2) k hk)) k)
  refine da_op rfl (d_index (e := encI_i64) (v := (Value.slice p1a p1n p1c)) un81 size2 rfl rfl B6 hm4 fun g5 o5 cu5 T5 fr5 vs5 hv5 hg5 hp5 hq5 => ?_)
  obtain rfl := dec_encI_i64 hq5
  refine da_op rfl (d_load (v := .int .i64 m4) rfl agg2 hg5 (sub_get (vs := #[.int .i64 m4]) hp5 (i := 0) rfl) ?_)
  refine da_op rfl (d_as (v := .int .i64 m4) rfl ?_)
  refine da_nil ?_
  refine W_ret ?_
  obtain rfl := Option.some.inj hr
  refine ⟨_, res1 (rv_tmp rfl), ?_⟩
  exact ⟨rfl, q2_m0B, X3⟩
set_option maxHeartbeats 4000000 in
theorem c158 (p0 : Int) (r : Nat) (w : World) (hr : M.spec_l01From p0 = r)  :
    Calls Tryd.prog 158 #[.int .i64 p0] w fun e w' => ∃ q0r : Nat, e = .returned (.float .f32 q0r) ∧ cn .f32 q0r = r ∧ Ext w w' := by
  refine calls_of_W Tryd.func158 rfl (Nat.le_of_ble_eq_true rfl) ?_
  refine W_seq ?_
  refine W_region rfl ?_
  refine da_op rfl (d_as (v := .float .f32 0) rfl ?_)
  refine da_nil ?_
  refine W_seq ?_
  refine W_region rfl ?_
  refine da_op rfl (d_mv (v := .int .i64 p0) rfl ?_)
  refine da_op rfl (d_iconv un2 un193 rfl ?_)
  refine da_op rfl (d_f32from ext186_0 ext186_1 ext186_2 (Option.isNone_iff_eq_none.1 ext186_3) ext186_4 rfl rfl ?_)
  refine da_op rfl (d_as (v := .float .f32 ((IntKind.u32.wrap p0)).toNat) rfl ?_)
  refine da_nil ?_
  refine W_ret ?_
  subst hr
  refine ⟨_, res1 (rv_tmp rfl), ?_⟩
  exact ⟨((IntKind.u32.wrap p0)).toNat, rfl, rfl, (Ext.refl w)⟩
set_option maxHeartbeats 4000000 in
theorem c151 (p0 : Sl00Src) (p0b : Nat) (p0v0a : Option Addr) (p0v0n : Nat) (p0v0c : Nat) (r : Nat × Sl00Src) (w : World) (hr : M.spec_l01DrawFloat p0 = some r) (p0v0R : RS w encI_u8 (Value.slice p0v0a p0v0n p0v0c) p0.code) (p0B : w.heap[p0b]? = some (.cells #[(Value.slice p0v0a p0v0n p0v0c), .int .i64 p0.at_, .int .u64 p0.seed] 190 (0, 0))) (sp0_1 : ¬ (Value.slice p0v0a p0v0n p0v0c).ownBlock = some p0b) :
    Calls Tryd.prog 151 #[.pointer (some ⟨p0b, 0, none⟩)] w fun e w' => ∃ q0r : Nat, e = .returned (.float .f32 q0r) ∧ cn .f32 q0r = r.1 ∧ w'.heap[p0b]? = some (.cells #[(Value.slice p0v0a p0v0n p0v0c), .int .i64 r.2.at_, .int .u64 r.2.seed] 190 (0, 0)) ∧ Frm (fun k _ => k = p0b) w w' := by
  have X0 : Frm (fun k _ => k = p0b) w w := Frm.refl _ w
  refine calls_of_W Tryd.func151 rfl (Nat.le_of_ble_eq_true rfl) ?_
  refine W_seq ?_
  refine W_region rfl ?_
  refine da_op rfl (d_as (v := .float .f32 0) rfl ?_)
  refine da_nil ?_
  refine W_seq ?_
  refine W_seq ?_
  refine W_region rfl ?_
  refine da_op rfl (d_mv (v := .pointer (some ⟨p0b, 0, none⟩)) rfl ?_)
  obtain ⟨m1, hm1, hr⟩ := bind_out hr
  refine da_op rfl (d_cl (vs := [.pointer (some ⟨p0b, 0, none⟩), .int .i64 12]) en150 (ac rfl (ac rfl rfl)) rfl ?_)
  refine (c150 p0 12 p0b p0v0a p0v0n p0v0c m1 w hm1 p0v0R p0B sp0_1).mono ?_
  rintro _ w2 ⟨rfl, q2_m0B, E2⟩
  refine ⟨_, rfl, ?_⟩
  have X3 : Frm (fun k _ => k = p0b) w w2 := Frm.step X0 E2 (fun k _ hk => .inl hk)
  refine da_op rfl (d_not rfl ?_)
  refine da_nil ?_
  refine W_cond (b := (!m1.1)) rfl (fun hc4 => ?_) (fun hc4 => ?_)
  · skip
    replace hr := bif_t hr hc4
    refine W_seq ?_
    refine W_region rfl ?_
    refine da_op rfl (d_mv (v := .pointer (some ⟨p0b, 0, none⟩)) rfl ?_)
    obtain ⟨m5, hm5, hr⟩ := bind_out hr
    have B6 : RS w2 encI_u8 (Value.slice p0v0a p0v0n p0v0c) p0.code := p0v0R.frm E2 (fun k _ => (fun k hk => ((rb sp0_1) k hk)) k)
    refine da_op rfl (d_cl (vs := [.pointer (some ⟨p0b, 0, none⟩)]) en152 (ac rfl rfl) rfl ?_)
    refine (c152 (⟨p0.code, m1.2.at_, m1.2.seed⟩ : Sl00Src) p0b p0v0a p0v0n p0v0c m5 w2 hm5 B6 q2_m0B sp0_1).mono ?_
    rintro _ w7 ⟨q7_0r, rfl, q7_0h, q7_m0B, E7⟩
    refine ⟨_, rfl, ?_⟩
    have X8 : Frm (fun k _ => k = p0b) w w7 := Frm.step X3 E7 (fun k _ hk => .inl hk)
    refine da_op rfl (d_as (v := .float .f32 q7_0r) rfl ?_)
    refine da_nil ?_
    refine W_ret ?_
    obtain rfl := Option.some.inj hr
    refine ⟨_, res1 (rv_tmp rfl), ?_⟩
    exact ⟨q7_0r, rfl, q7_0h, q7_m0B, X8⟩
  · skip
    replace hr := bif_f hr hc4
    refine W_skip ?_
    refine W_seq ?_
    refine W_seq ?_
    refine W_region rfl ?_
    refine da_op rfl (d_mv (v := .pointer (some ⟨p0b, 0, none⟩)) rfl ?_)
    obtain ⟨m9, hm9, hr⟩ := bind_out hr
    have B10 : RS w2 encI_u8 (Value.slice p0v0a p0v0n p0v0c) p0.code := p0v0R.frm E2 (fun k _ => (fun k hk => ((rb sp0_1) k hk)) k)
    refine da_op rfl (d_cl (vs := [.pointer (some ⟨p0b, 0, none⟩), .int .i64 4]) en184 (ac rfl (ac rfl rfl)) rfl ?_)
    refine (c184 (⟨p0.code, m1.2.at_, m1.2.seed⟩ : Sl00Src) 4 p0b p0v0a p0v0n p0v0c m9 w2 hm9 B10 q2_m0B sp0_1).mono ?_
    rintro _ w11 ⟨rfl, q11_m0B, E11⟩
    refine ⟨_, rfl, ?_⟩
    have X12 : Frm (fun k _ => k = p0b) w w11 := Frm.step X3 E11 (fun k _ hk => .inl hk)
    refine da_nil ?_
    refine W_block ?_
    refine W_seq ?_
    refine W_region rfl ?_
    refine da_op rfl (d_icmp cEql rfl rfl ?_)
    refine da_op rfl (d_as (v := .bool (icmp .eql m9.1 0)) rfl ?_)
    refine da_nil ?_
    refine W_cond (b := (icmp .eql m9.1 0)) rfl (fun hc13 => ?_) (fun hc13 => ?_)
    · skip
      replace hr := bif_t hr hc13
      refine W_seq ?_
      refine W_region rfl ?_
      refine da_op rfl (d_mv (v := .pointer (some ⟨p0b, 0, none⟩)) rfl ?_)
      refine da_op rfl (d_bslice (vs := [(0, .int .i64 0), (1, .int .i64 2147483648), (2, .int .i64 2139095040), (3, .int .i64 4286578688), (4, .int .i64 2143289344), (5, .int .i64 1), (6, .int .i64 2139095039), (7, .int .i64 8388608), (8, .int .i64 8388607), (9, .int .i64 2147483649)]) (cs := #[.int .i64 0, .int .i64 2147483648, .int .i64 2139095040, .int .i64 4286578688, .int .i64 2143289344, .int .i64 1, .int .i64 2139095039, .int .i64 8388608, .int .i64 8388607, .int .i64 2147483649]) un81 (pc rfl (pc rfl (pc rfl (pc rfl (pc rfl (pc rfl (pc rfl (pc rfl (pc rfl (pc rfl rfl)))))))))) (by kernel_rfl) fun w14 B14 E14 => ?_)
      have fr14 : ∀ k, (Value.slice (some ⟨w11.heap.size, 0, none⟩) 10 10).ownBlock = some k → w11.heap.size ≤ k := fun k hk => by cases hk; exact Nat.le_refl _
      have own14 : ∀ k, (Value.slice (some ⟨w11.heap.size, 0, none⟩) 10 10).ownBlock = some k → w.heap.size ≤ k := fun k hk => Nat.le_trans X12.size (fr14 k hk)
      have sp15 : ¬ (Value.slice (some ⟨w11.heap.size, 0, none⟩) 10 10).ownBlock = some p0b := ne_fresh fr14 (lt_heap q11_m0B)
      have X16 : Frm (fun k _ => k = p0b) w w14 := X12.trans E14.frm
      have O14 : OS w14 2 encI_i64 (Value.slice (some ⟨w11.heap.size, 0, none⟩) 10 10) [0, 2147483648, 2139095040, 4286578688, 2143289344, 1, 2139095039, 8388608, 8388607, 2147483649] := OS.box (xs := [0, 2147483648, 2139095040, 4286578688, 2143289344, 1, 2139095039, 8388608, 8388607, 2147483649]) B14 (lc_v rfl (lc_v rfl (lc_v rfl (lc_v rfl (lc_v rfl (lc_v rfl (lc_v rfl (lc_v rfl (lc_v rfl (lc_v rfl rfl)))))))))) (Nat.le_of_ble_eq_true rfl)
      obtain ⟨m17, hm17, hr⟩ := bind_out hr
      have B18 : w14.heap[p0b]? = some (.cells #[(Value.slice p0v0a p0v0n p0v0c), .int .i64 m9.2.at_, .int .u64 m9.2.seed] 190 (0, 0)) := E14.heap q11_m0B
      have B19 : RS w14 encI_u8 (Value.slice p0v0a p0v0n p0v0c) p0.code := (B10.frm E11 (fun k _ => (fun k hk => ((rb sp0_1) k hk)) k)).ext E14
      refine da_op rfl (d_cl (vs := [.pointer (some ⟨p0b, 0, none⟩), (Value.slice (some ⟨w11.heap.size, 0, none⟩) 10 10)]) en185 (ac rfl (ac rfl rfl)) rfl ?_)
      refine (c185 (⟨p0.code, m9.2.at_, m9.2.seed⟩ : Sl00Src) ([0, 2147483648, 2139095040, 4286578688, 2143289344, 1, 2139095039, 8388608, 8388607, 2147483649]) p0b p0v0a p0v0n p0v0c (some ⟨w11.heap.size, 0, none⟩) 10 10 m17 w14 hm17 B19 B18 O14.rs sp0_1 sp15).mono ?_
      rintro _ w20 ⟨rfl, q20_m0B, E20⟩
      refine ⟨_, rfl, ?_⟩
      have X21 : Frm (fun k _ => k = p0b) w w20 := Frm.step X16 E20 (fun k _ hk => .inl hk)
      obtain ⟨m22, hm22, hr⟩ := letv_out hr
      have B23 : OS w20 2 encI_i64 (Value.slice (some ⟨w11.heap.size, 0, none⟩) 10 10) ([0, 2147483648, 2139095040, 4286578688, 2143289344, 1, 2139095039, 8388608, 8388607, 2147483649]) := O14.frm E20 (fun k hk => ((rb sp15) k hk))
      refine da_op rfl (d_cl (vs := [.int .i64 m17.1]) en158 (ac rfl rfl) rfl ?_)
      refine (c158 m17.1 m22 w20 hm22 ).mono ?_
      rintro _ w24 ⟨q24_0r, rfl, q24_0h, E24⟩
      refine ⟨_, rfl, ?_⟩
      have X25 : Frm (fun k _ => k = p0b) w w24 := X21.trans E24.frm
      refine da_op rfl (d_as (v := .float .f32 q24_0r) rfl ?_)
      refine da_nil ?_
      refine W_ret ?_
      have B26 : w24.heap[p0b]? = some (.cells #[(Value.slice p0v0a p0v0n p0v0c), .int .i64 m17.2.at_, .int .u64 m17.2.seed] 190 (0, 0)) := E24.heap q20_m0B
      obtain rfl := Option.some.inj hr
      refine ⟨_, res1 (rv_tmp rfl), ?_⟩
      exact ⟨q24_0r, rfl, q24_0h, B26, X25⟩
    · skip
      replace hr := bif_f hr hc13
      refine W_seq ?_
      refine W_region rfl ?_
      refine da_op rfl (d_icmp cEql rfl rfl ?_)
      refine da_op rfl (d_as (v := .bool (icmp .eql m9.1 1)) rfl ?_)
      refine da_nil ?_
      refine W_cond (b := (icmp .eql m9.1 1)) rfl (fun hc27 => ?_) (fun hc27 => ?_)
      · skip
        replace hr := bif_t hr hc27
        refine W_seq ?_
        refine W_region rfl ?_
        refine da_op rfl (d_mv (v := .pointer (some ⟨p0b, 0, none⟩)) rfl ?_)
        obtain ⟨m28, hm28, hr⟩ := bind_out hr
        have B29 : RS w11 encI_u8 (Value.slice p0v0a p0v0n p0v0c) p0.code := B10.frm E11 (fun k _ => (fun k hk => ((rb sp0_1) k hk)) k)
        refine da_op rfl (d_cl (vs := [.pointer (some ⟨p0b, 0, none⟩), .int .i64 65536]) en184 (ac rfl (ac rfl rfl)) rfl ?_)
        refine (c184 (⟨p0.code, m9.2.at_, m9.2.seed⟩ : Sl00Src) 65536 p0b p0v0a p0v0n p0v0c m28 w11 hm28 B29 q11_m0B sp0_1).mono ?_
        rintro _ w30 ⟨rfl, q30_m0B, E30⟩
        refine ⟨_, rfl, ?_⟩
        have X31 : Frm (fun k _ => k = p0b) w w30 := Frm.step X12 E30 (fun k _ hk => .inl hk)
        refine da_op rfl (d_iarith rfl rfl (.inr (.inr ⟨rfl, rfl⟩)) ?_)
        refine da_op rfl (d_as (v := .int .i64 (IntKind.i64.wrap (m28.1 * 65536))) rfl ?_)
        refine da_nil ?_
        refine W_seq ?_
        refine W_region rfl ?_
        refine da_op rfl (d_mv (v := .int .i64 (IntKind.i64.wrap (m28.1 * 65536))) rfl ?_)
        refine da_op rfl (d_mv (v := .pointer (some ⟨p0b, 0, none⟩)) rfl ?_)
        obtain ⟨m32, hm32, hr⟩ := bind_out hr
        have B33 : RS w30 encI_u8 (Value.slice p0v0a p0v0n p0v0c) p0.code := B29.frm E30 (fun k _ => (fun k hk => ((rb sp0_1) k hk)) k)
        refine da_op rfl (d_cl (vs := [.pointer (some ⟨p0b, 0, none⟩), .int .i64 65536]) en184 (ac rfl (ac rfl rfl)) rfl ?_)
        refine (c184 (⟨p0.code, m28.2.at_, m28.2.seed⟩ : Sl00Src) 65536 p0b p0v0a p0v0n p0v0c m32 w30 hm32 B33 q30_m0B sp0_1).mono ?_
        rintro _ w34 ⟨rfl, q34_m0B, E34⟩
        refine ⟨_, rfl, ?_⟩
        have X35 : Frm (fun k _ => k = p0b) w w34 := Frm.step X31 E34 (fun k _ hk => .inl hk)
        refine da_op rfl (d_iarith rfl rfl (.inl ⟨rfl, rfl⟩) ?_)
        obtain ⟨m36, hm36, hr⟩ := letv_out hr
        refine da_op rfl (d_cl (vs := [.int .i64 (IntKind.i64.wrap ((IntKind.i64.wrap (m28.1 * 65536)) + m32.1))]) en158 (ac rfl rfl) rfl ?_)
        refine (c158 (IntKind.i64.wrap ((IntKind.i64.wrap (m28.1 * 65536)) + m32.1)) m36 w34 hm36 ).mono ?_
        rintro _ w37 ⟨q37_0r, rfl, q37_0h, E37⟩
        refine ⟨_, rfl, ?_⟩
        have X38 : Frm (fun k _ => k = p0b) w w37 := X35.trans E37.frm
        refine da_op rfl (d_as (v := .float .f32 q37_0r) rfl ?_)
        refine da_nil ?_
        refine W_ret ?_
        have B39 : w37.heap[p0b]? = some (.cells #[(Value.slice p0v0a p0v0n p0v0c), .int .i64 m32.2.at_, .int .u64 m32.2.seed] 190 (0, 0)) := E37.heap q34_m0B
        obtain rfl := Option.some.inj hr
        refine ⟨_, res1 (rv_tmp rfl), ?_⟩
        exact ⟨q37_0r, rfl, q37_0h, B39, X38⟩
      · skip
        replace hr := bif_f hr hc27
        refine W_seq ?_
        refine W_region rfl ?_
        refine da_op rfl (d_icmp cEql rfl rfl ?_)
        refine da_op rfl (d_as (v := .bool (icmp .eql m9.1 2)) rfl ?_)
        refine da_nil ?_
        refine W_cond (b := (icmp .eql m9.1 2)) rfl (fun hc40 => ?_) (fun hc40 => ?_)
        · skip
          replace hr := bif_t hr hc40
          refine W_seq ?_
          refine W_region rfl ?_
          refine da_op rfl (d_mv (v := .pointer (some ⟨p0b, 0, none⟩)) rfl ?_)
          obtain ⟨m41, hm41, hr⟩ := bind_out hr
          have B42 : RS w11 encI_u8 (Value.slice p0v0a p0v0n p0v0c) p0.code := B10.frm E11 (fun k _ => (fun k hk => ((rb sp0_1) k hk)) k)
          refine da_op rfl (d_cl (vs := [.pointer (some ⟨p0b, 0, none⟩), .int .i64 65536]) en184 (ac rfl (ac rfl rfl)) rfl ?_)
          refine (c184 (⟨p0.code, m9.2.at_, m9.2.seed⟩ : Sl00Src) 65536 p0b p0v0a p0v0n p0v0c m41 w11 hm41 B42 q11_m0B sp0_1).mono ?_
          rintro _ w43 ⟨rfl, q43_m0B, E43⟩
          refine ⟨_, rfl, ?_⟩
          have X44 : Frm (fun k _ => k = p0b) w w43 := Frm.step X12 E43 (fun k _ hk => .inl hk)
          refine da_op rfl (d_iarith rfl rfl (.inr (.inr ⟨rfl, rfl⟩)) ?_)
          obtain ⟨m45, hm45, hr⟩ := letv_out hr
          refine da_op rfl (d_cl (vs := [.int .i64 (IntKind.i64.wrap (m41.1 * 65536))]) en158 (ac rfl rfl) rfl ?_)
          refine (c158 (IntKind.i64.wrap (m41.1 * 65536)) m45 w43 hm45 ).mono ?_
          rintro _ w46 ⟨q46_0r, rfl, q46_0h, E46⟩
          refine ⟨_, rfl, ?_⟩
          have X47 : Frm (fun k _ => k = p0b) w w46 := X44.trans E46.frm
          refine da_op rfl (d_as (v := .float .f32 q46_0r) rfl ?_)
          refine da_nil ?_
          refine W_ret ?_
          have B48 : w46.heap[p0b]? = some (.cells #[(Value.slice p0v0a p0v0n p0v0c), .int .i64 m41.2.at_, .int .u64 m41.2.seed] 190 (0, 0)) := E46.heap q43_m0B
          obtain rfl := Option.some.inj hr
          refine ⟨_, res1 (rv_tmp rfl), ?_⟩
          exact ⟨q46_0r, rfl, q46_0h, B48, X47⟩
        · skip
          replace hr := bif_f hr hc40
          refine W_skip ?_
          refine W_seq ?_
          refine W_region rfl ?_
          refine da_op rfl (d_mv (v := .pointer (some ⟨p0b, 0, none⟩)) rfl ?_)
          obtain ⟨m49, hm49, hr⟩ := bind_out hr
          have B50 : RS w11 encI_u8 (Value.slice p0v0a p0v0n p0v0c) p0.code := B10.frm E11 (fun k _ => (fun k hk => ((rb sp0_1) k hk)) k)
          refine da_op rfl (d_cl (vs := [.pointer (some ⟨p0b, 0, none⟩)]) en152 (ac rfl rfl) rfl ?_)
          refine (c152 (⟨p0.code, m9.2.at_, m9.2.seed⟩ : Sl00Src) p0b p0v0a p0v0n p0v0c m49 w11 hm49 B50 q11_m0B sp0_1).mono ?_
          rintro _ w51 ⟨q51_0r, rfl, q51_0h, q51_m0B, E51⟩
          refine ⟨_, rfl, ?_⟩
          have X52 : Frm (fun k _ => k = p0b) w w51 := Frm.step X12 E51 (fun k _ hk => .inl hk)
          refine da_op rfl (d_mv (v := .pointer (some ⟨p0b, 0, none⟩)) rfl ?_)
          refine da_op rfl (d_bslice (vs := [(0, .int .i64 8388608), (1, .int .i64 2130706432), (2, .int .i64 1610612736), (3, .int .i64 536870912)]) (cs := #[.int .i64 8388608, .int .i64 2130706432, .int .i64 1610612736, .int .i64 536870912]) un81 (pc rfl (pc rfl (pc rfl (pc rfl rfl)))) (by kernel_rfl) fun w53 B53 E53 => ?_)
          have fr53 : ∀ k, (Value.slice (some ⟨w51.heap.size, 0, none⟩) 4 4).ownBlock = some k → w51.heap.size ≤ k := fun k hk => by cases hk; exact Nat.le_refl _
          have own53 : ∀ k, (Value.slice (some ⟨w51.heap.size, 0, none⟩) 4 4).ownBlock = some k → w.heap.size ≤ k := fun k hk => Nat.le_trans X52.size (fr53 k hk)
          have sp54 : ¬ (Value.slice (some ⟨w51.heap.size, 0, none⟩) 4 4).ownBlock = some p0b := ne_fresh fr53 (lt_heap q51_m0B)
          have X55 : Frm (fun k _ => k = p0b) w w53 := X52.trans E53.frm
          have O53 : OS w53 2 encI_i64 (Value.slice (some ⟨w51.heap.size, 0, none⟩) 4 4) [8388608, 2130706432, 1610612736, 536870912] := OS.box (xs := [8388608, 2130706432, 1610612736, 536870912]) B53 (lc_v rfl (lc_v rfl (lc_v rfl (lc_v rfl rfl)))) (Nat.le_of_ble_eq_true rfl)
          obtain ⟨m56, hm56, hr⟩ := bind_out hr
          have B57 : w53.heap[p0b]? = some (.cells #[(Value.slice p0v0a p0v0n p0v0c), .int .i64 m49.2.at_, .int .u64 m49.2.seed] 190 (0, 0)) := E53.heap q51_m0B
          have B58 : RS w53 encI_u8 (Value.slice p0v0a p0v0n p0v0c) p0.code := (B50.frm E51 (fun k _ => (fun k hk => ((rb sp0_1) k hk)) k)).ext E53
          refine da_op rfl (d_cl (vs := [.pointer (some ⟨p0b, 0, none⟩), (Value.slice (some ⟨w51.heap.size, 0, none⟩) 4 4)]) en185 (ac rfl (ac rfl rfl)) rfl ?_)
          refine (c185 (⟨p0.code, m49.2.at_, m49.2.seed⟩ : Sl00Src) ([8388608, 2130706432, 1610612736, 536870912]) p0b p0v0a p0v0n p0v0c (some ⟨w51.heap.size, 0, none⟩) 4 4 m56 w53 hm56 B58 B57 O53.rs sp0_1 sp54).mono ?_
          rintro _ w59 ⟨rfl, q59_m0B, E59⟩
          refine ⟨_, rfl, ?_⟩
          have X60 : Frm (fun k _ => k = p0b) w w59 := Frm.step X55 E59 (fun k _ hk => .inl hk)
          obtain ⟨m61, hm61, hr⟩ := letv_out hr
          have B62 : OS w59 2 encI_i64 (Value.slice (some ⟨w51.heap.size, 0, none⟩) 4 4) ([8388608, 2130706432, 1610612736, 536870912]) := O53.frm E59 (fun k hk => ((rb sp54) k hk))
          refine da_op rfl (d_cl (vs := [.int .i64 m56.1]) en158 (ac rfl rfl) rfl ?_)
          refine (c158 m56.1 m61 w59 hm61 ).mono ?_
          rintro _ w63 ⟨q63_0r, rfl, q63_0h, E63⟩
          refine ⟨_, rfl, ?_⟩
          have X64 : Frm (fun k _ => k = p0b) w w63 := X60.trans E63.frm
          refine da_op rfl (d_fop (k := .f32) fMul rfl rfl q51_0h q63_0h fun r65 w65 h65 _ E65 => ?_)
          have X66 : Frm (fun k _ => k = p0b) w w65 := X64.trans E65.frm
          refine da_op rfl (d_as (v := .float .f32 r65) rfl ?_)
          refine da_nil ?_
          refine W_ret ?_
          have B67 : w65.heap[p0b]? = some (.cells #[(Value.slice p0v0a p0v0n p0v0c), .int .i64 m56.2.at_, .int .u64 m56.2.seed] 190 (0, 0)) := E65.heap (E63.heap q59_m0B)
          obtain rfl := Option.some.inj hr
          refine ⟨_, res1 (rv_tmp rfl), ?_⟩
          exact ⟨r65, rfl, h65, B67, X66⟩
set_option maxHeartbeats 4000000 in
theorem c96 (p0 : Sl00Src) (p1 : Int) (p0b : Nat) (p0v0a : Option Addr) (p0v0n : Nat) (p0v0c : Nat) (r : List Nat × Sl00Src) (w : World) (hr : M.spec_l01DrawFloats p0 p1 = some r) (p0v0R : RS w encI_u8 (Value.slice p0v0a p0v0n p0v0c) p0.code) (p0B : w.heap[p0b]? = some (.cells #[(Value.slice p0v0a p0v0n p0v0c), .int .i64 p0.at_, .int .u64 p0.seed] 190 (0, 0))) (sp0_1 : ¬ (Value.slice p0v0a p0v0n p0v0c).ownBlock = some p0b) :
    Calls Tryd.prog 96 #[.pointer (some ⟨p0b, 0, none⟩), .int .i64 p1] w fun e w' => ∃ q0a : Option Addr, ∃ q0n : Nat, ∃ q0c : Nat, e = .returned ((Value.slice q0a q0n q0c)) ∧ OS w' 22 encF_f32 (Value.slice q0a q0n q0c) r.1 ∧ (∀ k, (Value.slice q0a q0n q0c).ownBlock = some k → w.heap.size ≤ k) ∧ w'.heap[p0b]? = some (.cells #[(Value.slice p0v0a p0v0n p0v0c), .int .i64 r.2.at_, .int .u64 r.2.seed] 190 (0, 0)) ∧ Frm (fun k _ => k = p0b) w w' := by
  have X0 : Frm (fun k _ => k = p0b) w w := Frm.refl _ w
  refine calls_of_W Tryd.func96 rfl (Nat.le_of_ble_eq_true rfl) ?_
  refine W_seq ?_
  refine W_region rfl ?_
  refine da_op rfl (d_as (v := .slice none 0 0) rfl ?_)
  refine da_nil ?_
  refine W_seq ?_
  refine W_region rfl ?_
  refine da_op rfl (d_bslice0 un53 size22 fun w1 B1 E1 => ?_)
  have fr1 : ∀ k, (Value.slice (some ⟨w.heap.size, 0, none⟩) 0 0).ownBlock = some k → w.heap.size ≤ k := fun k hk => by cases hk; exact Nat.le_refl _
  have own1 : ∀ k, (Value.slice (some ⟨w.heap.size, 0, none⟩) 0 0).ownBlock = some k → w.heap.size ≤ k := fun k hk => Nat.le_trans X0.size (fr1 k hk)
  have sp2 : ¬ (Value.slice (some ⟨w.heap.size, 0, none⟩) 0 0).ownBlock = some p0b := ne_fresh fr1 (lt_heap p0B)
  have X3 : Frm (fun k _ => k = p0b) w w1 := X0.trans E1.frm
  have O1 : OS w1 22 encF_f32 (Value.slice (some ⟨w.heap.size, 0, none⟩) 0 0) ([] : List Nat) := OS.box (xs := ([] : List Nat)) B1 rfl (Nat.le_of_ble_eq_true rfl)
  refine da_op rfl (d_as (v := (Value.slice (some ⟨w.heap.size, 0, none⟩) 0 0)) rfl ?_)
  refine da_nil ?_
  refine W_seq ?_
  refine W_region rfl ?_
  refine da_op rfl (d_mv (v := .pointer (some ⟨p0b, 0, none⟩)) rfl ?_)
  obtain ⟨m4, hm4, hr⟩ := bind_out hr
  have B5 : w1.heap[p0b]? = some (.cells #[(Value.slice p0v0a p0v0n p0v0c), .int .i64 p0.at_, .int .u64 p0.seed] 190 (0, 0)) := E1.heap p0B
  have B6 : RS w1 encI_u8 (Value.slice p0v0a p0v0n p0v0c) p0.code := p0v0R.ext E1
  refine da_op rfl (d_cl (vs := [.pointer (some ⟨p0b, 0, none⟩), .int .i64 4]) en150 (ac rfl (ac rfl rfl)) rfl ?_)
  refine (c150 p0 4 p0b p0v0a p0v0n p0v0c m4 w1 hm4 B6 B5 sp0_1).mono ?_
  rintro _ w7 ⟨rfl, q7_m0B, E7⟩
  refine ⟨_, rfl, ?_⟩
  have X8 : Frm (fun k _ => k = p0b) w w7 := Frm.step X3 E7 (fun k _ hk => .inl hk)
  refine da_op rfl (d_as (v := .bool m4.1) rfl ?_)
  refine da_nil ?_
  refine W_seq ?_
  refine W_block ?_
  have B10 : RS w7 encI_u8 (Value.slice p0v0a p0v0n p0v0c) p0.code := B6.frm E7 (fun k _ => (fun k hk => ((rb sp0_1) k hk)) k)
  have B11 : OS w7 22 encF_f32 (Value.slice (some ⟨w.heap.size, 0, none⟩) 0 0) ([] : List Nat) := O1.frm E7 (fun k hk => ((rb sp2) k hk))
  obtain ⟨m9, hm9, hr⟩ := bind_out hr
  refine W_loopM hm9 (fun (s9 : Int × List Nat × Sl00Src) σ w' => ∃ i9_1a : Option Addr, ∃ i9_1n : Nat, ∃ i9_1c : Nat, σ 1 = .int .i64 s9.1 ∧ σ 5 = (Value.slice i9_1a i9_1n i9_1c) ∧ σ 0 = .pointer (some ⟨p0b, 0, none⟩) ∧ σ 6 = .bool m4.1 ∧ OS w' 22 encF_f32 (Value.slice i9_1a i9_1n i9_1c) s9.2.1 ∧ (∀ k, (Value.slice i9_1a i9_1n i9_1c).ownBlock = some k → w.heap.size ≤ k) ∧ w'.heap[p0b]? = some (.cells #[(Value.slice p0v0a p0v0n p0v0c), .int .i64 s9.2.2.at_, .int .u64 s9.2.2.seed] 190 (0, 0)) ∧ RS w' encI_u8 (Value.slice p0v0a p0v0n p0v0c) p0.code ∧ ¬ (Value.slice i9_1a i9_1n i9_1c).ownBlock = some p0b ∧ Frm (fun k _ => k = p0b) w w') (fun (e9 : (List Nat × Sl00Src)) ex σ w' => ex = .exit 0 ∧ ∃ q9_0_0a : Option Addr, ∃ q9_0_0n : Nat, ∃ q9_0_0c : Nat, σ 5 = (Value.slice q9_0_0a q9_0_0n q9_0_0c) ∧ OS w' 22 encF_f32 (Value.slice q9_0_0a q9_0_0n q9_0_0c) e9.1 ∧ (∀ k, (Value.slice q9_0_0a q9_0_0n q9_0_0c).ownBlock = some k → w.heap.size ≤ k) ∧ w'.heap[p0b]? = some (.cells #[(Value.slice p0v0a p0v0n p0v0c), .int .i64 e9.2.at_, .int .u64 e9.2.seed] 190 (0, 0)) ∧ RS w' encI_u8 (Value.slice p0v0a p0v0n p0v0c) p0.code ∧ ¬ (Value.slice q9_0_0a q9_0_0n q9_0_0c).ownBlock = some p0b ∧ Frm (fun k _ => k = p0b) w w') ⟨(some ⟨w.heap.size, 0, none⟩), 0, 0, rfl, rfl, rfl, rfl, B11, own1, q7_m0B, B10, sp2, X8⟩ ?_ ?_
  · skip
    rintro s9 σl9 wl9 r9l ⟨i9_1a, i9_1n, i9_1c, i9_S1, i9_S5, i9_S0, i9_S6, i9_1R, i9_1O, i9_2B, i9_K0, i9_A0, i9_X⟩ hr
    refine W_seq ?_
    refine W_seq ?_
    refine W_region rfl ?_
    refine da_op rfl (d_mv (v := .int .i64 s9.1) i9_S1 ?_)
    refine da_op rfl (d_icmp cGtr rfl rfl ?_)
    refine da_nil ?_
    refine W_cond (b := (icmp .gtr s9.1 0)) rfl (fun hc12 => ?_) (fun hc12 => ?_)
    · skip
      replace hr := bif_t hr hc12
      refine W_skip ?_
      refine W_seq ?_
      refine W_block ?_
      refine W_seq ?_
      refine W_region rfl ?_
      refine da_op rfl (d_mv (v := .bool m4.1) i9_S6 ?_)
      refine da_nil ?_
      refine W_cond (b := m4.1) rfl (fun hc13 => ?_) (fun hc13 => ?_)
      · skip
        replace hr := bif_t hr hc13
        refine W_region rfl ?_
        refine da_op rfl (d_mv (v := (Value.slice i9_1a i9_1n i9_1c)) i9_S5 ?_)
        refine da_op rfl (d_mv (v := .pointer (some ⟨p0b, 0, none⟩)) i9_S0 ?_)
        obtain ⟨m14, hm14, hr⟩ := bind_out hr
        refine da_op rfl (d_cl (vs := [.pointer (some ⟨p0b, 0, none⟩)]) en151 (ac rfl rfl) rfl ?_)
        refine (c151 (⟨p0.code, s9.2.2.at_, s9.2.2.seed⟩ : Sl00Src) p0b p0v0a p0v0n p0v0c m14 wl9 hm14 i9_K0 i9_2B sp0_1).mono ?_
        rintro _ w15 ⟨q15_0r, rfl, q15_0h, q15_m0B, E15⟩
        refine ⟨_, rfl, ?_⟩
        have X16 : Frm (fun k _ => k = p0b) w w15 := Frm.step i9_X E15 (fun k _ hk => .inl hk)
        have B18 : OS w15 22 encF_f32 (Value.slice i9_1a i9_1n i9_1c) s9.2.1 := i9_1R.frm E15 (fun k hk => ((rb i9_A0) k hk))
        refine da_op rfl (d_bslice (vs := [(0, .float .f32 q15_0r)]) (cs := #[.float .f32 q15_0r]) un53 (pc rfl rfl) (by kernel_rfl) fun w17 B17 E17 => ?_)
        have fr17 : ∀ k, (Value.slice (some ⟨w15.heap.size, 0, none⟩) 1 1).ownBlock = some k → w15.heap.size ≤ k := fun k hk => by cases hk; exact Nat.le_refl _
        have own17 : ∀ k, (Value.slice (some ⟨w15.heap.size, 0, none⟩) 1 1).ownBlock = some k → w.heap.size ≤ k := fun k hk => Nat.le_trans X16.size (fr17 k hk)
        have sp19 : ∀ k, (Value.slice i9_1a i9_1n i9_1c).ownBlock = some k → ¬ (Value.slice (some ⟨w15.heap.size, 0, none⟩) 1 1).ownBlock = some k := apart_fresh B18 fr17
        have sp20 : ¬ (Value.slice (some ⟨w15.heap.size, 0, none⟩) 1 1).ownBlock = some p0b := ne_fresh fr17 (lt_heap q15_m0B)
        have X21 : Frm (fun k _ => k = p0b) w w17 := X16.trans E17.frm
        have O17 : OS w17 22 encF_f32 (Value.slice (some ⟨w15.heap.size, 0, none⟩) 1 1) [m14.1] := OS.box (xs := [m14.1]) B17 (lc_f q15_0h rfl) (Nat.le_of_ble_eq_true rfl)
        obtain ⟨m22, hm22, hr⟩ := bind_out hr
        have B23 : OS w17 22 encF_f32 (Value.slice i9_1a i9_1n i9_1c) s9.2.1 := B18.ext E17
        have B24 : w17.heap[p0b]? = some (.cells #[(Value.slice p0v0a p0v0n p0v0c), .int .i64 m14.2.at_, .int .u64 m14.2.seed] 190 (0, 0)) := E17.heap q15_m0B
        refine da_op rfl (d_append (e := encF_f32) (v := (Value.slice i9_1a i9_1n i9_1c)) (y := (Value.slice (some ⟨w15.heap.size, 0, none⟩) 1 1)) un53 info22 rfl (by kernel_rfl) (by kernel_rfl) (by decide) (by decide) rfl rfl B23 O17.rs hm22 fun v25 w25 O25 Fm25 at_25 nl25 => ?_)
        obtain ⟨v25pa, v25pn, v25pc, rfl⟩ := O25.vals
        have own25 : ∀ k, (Value.slice v25pa v25pn v25pc).ownBlock = some k → w.heap.size ≤ k := app_own (w := w17) at_25 i9_1O X21.size
        have sp26 : ¬ (Value.slice v25pa v25pn v25pc).ownBlock = some p0b := app_nb at_25 i9_A0 (lt_heap B24)
        have sp27 : ∀ k, (Value.slice (some ⟨w15.heap.size, 0, none⟩) 1 1).ownBlock = some k → ¬ (Value.slice v25pa v25pn v25pc).ownBlock = some k := app_nr at_25 (apart_symm sp19) O17
        have X28 : Frm (fun k _ => k = p0b) w w25 := Frm.step X21 Fm25 (fun k _ hk => .inr (i9_1O k hk))
        refine da_op rfl (d_as (v := (Value.slice v25pa v25pn v25pc)) rfl ?_)
        refine da_nil ?_
        refine W_region rfl ?_
        refine da_op rfl (d_mv (v := .int .i64 s9.1) i9_S1 ?_)
        refine da_op rfl (d_iarith rfl rfl (.inr (.inl ⟨rfl, rfl⟩)) ?_)
        refine da_op rfl (d_as (v := .int .i64 (IntKind.i64.wrap (s9.1 - 1))) rfl ?_)
        refine da_nil ?_
        have B29 : w25.heap[p0b]? = some (.cells #[(Value.slice p0v0a p0v0n p0v0c), .int .i64 m14.2.at_, .int .u64 m14.2.seed] 190 (0, 0)) := Fm25.heap i9_A0 B24
        have B30 : RS w25 encI_u8 (Value.slice p0v0a p0v0n p0v0c) p0.code := ((i9_K0.frm E15 (fun k _ => (fun k hk => ((rb sp0_1) k hk)) k)).ext E17).frm Fm25 (fun k _ => (old_rr p0v0R i9_1O) k)
        obtain rfl := Option.some.inj hr
        exact ⟨_, rfl, ⟨v25pa, v25pn, v25pc, rfl, rfl, i9_S0, i9_S6, O25, own25, B29, B30, sp26, X28⟩⟩
      · skip
        replace hr := bif_f hr hc13
        refine W_region rfl ?_
        refine da_op rfl (d_mv (v := (Value.slice i9_1a i9_1n i9_1c)) i9_S5 ?_)
        refine da_op rfl (d_mv (v := .pointer (some ⟨p0b, 0, none⟩)) i9_S0 ?_)
        obtain ⟨m31, hm31, hr⟩ := bind_out hr
        refine da_op rfl (d_cl (vs := [.pointer (some ⟨p0b, 0, none⟩)]) en152 (ac rfl rfl) rfl ?_)
        refine (c152 (⟨p0.code, s9.2.2.at_, s9.2.2.seed⟩ : Sl00Src) p0b p0v0a p0v0n p0v0c m31 wl9 hm31 i9_K0 i9_2B sp0_1).mono ?_
        rintro _ w32 ⟨q32_0r, rfl, q32_0h, q32_m0B, E32⟩
        refine ⟨_, rfl, ?_⟩
        have X33 : Frm (fun k _ => k = p0b) w w32 := Frm.step i9_X E32 (fun k _ hk => .inl hk)
        have B35 : OS w32 22 encF_f32 (Value.slice i9_1a i9_1n i9_1c) s9.2.1 := i9_1R.frm E32 (fun k hk => ((rb i9_A0) k hk))
        refine da_op rfl (d_bslice (vs := [(0, .float .f32 q32_0r)]) (cs := #[.float .f32 q32_0r]) un53 (pc rfl rfl) (by kernel_rfl) fun w34 B34 E34 => ?_)
        have fr34 : ∀ k, (Value.slice (some ⟨w32.heap.size, 0, none⟩) 1 1).ownBlock = some k → w32.heap.size ≤ k := fun k hk => by cases hk; exact Nat.le_refl _
        have own34 : ∀ k, (Value.slice (some ⟨w32.heap.size, 0, none⟩) 1 1).ownBlock = some k → w.heap.size ≤ k := fun k hk => Nat.le_trans X33.size (fr34 k hk)
        have sp36 : ∀ k, (Value.slice i9_1a i9_1n i9_1c).ownBlock = some k → ¬ (Value.slice (some ⟨w32.heap.size, 0, none⟩) 1 1).ownBlock = some k := apart_fresh B35 fr34
        have sp37 : ¬ (Value.slice (some ⟨w32.heap.size, 0, none⟩) 1 1).ownBlock = some p0b := ne_fresh fr34 (lt_heap q32_m0B)
        have X38 : Frm (fun k _ => k = p0b) w w34 := X33.trans E34.frm
        have O34 : OS w34 22 encF_f32 (Value.slice (some ⟨w32.heap.size, 0, none⟩) 1 1) [m31.1] := OS.box (xs := [m31.1]) B34 (lc_f q32_0h rfl) (Nat.le_of_ble_eq_true rfl)
        obtain ⟨m39, hm39, hr⟩ := bind_out hr
        have B40 : OS w34 22 encF_f32 (Value.slice i9_1a i9_1n i9_1c) s9.2.1 := B35.ext E34
        have B41 : w34.heap[p0b]? = some (.cells #[(Value.slice p0v0a p0v0n p0v0c), .int .i64 m31.2.at_, .int .u64 m31.2.seed] 190 (0, 0)) := E34.heap q32_m0B
        refine da_op rfl (d_append (e := encF_f32) (v := (Value.slice i9_1a i9_1n i9_1c)) (y := (Value.slice (some ⟨w32.heap.size, 0, none⟩) 1 1)) un53 info22 rfl (by kernel_rfl) (by kernel_rfl) (by decide) (by decide) rfl rfl B40 O34.rs hm39 fun v42 w42 O42 Fm42 at_42 nl42 => ?_)
        obtain ⟨v42pa, v42pn, v42pc, rfl⟩ := O42.vals
        have own42 : ∀ k, (Value.slice v42pa v42pn v42pc).ownBlock = some k → w.heap.size ≤ k := app_own (w := w34) at_42 i9_1O X38.size
        have sp43 : ¬ (Value.slice v42pa v42pn v42pc).ownBlock = some p0b := app_nb at_42 i9_A0 (lt_heap B41)
        have sp44 : ∀ k, (Value.slice (some ⟨w32.heap.size, 0, none⟩) 1 1).ownBlock = some k → ¬ (Value.slice v42pa v42pn v42pc).ownBlock = some k := app_nr at_42 (apart_symm sp36) O34
        have X45 : Frm (fun k _ => k = p0b) w w42 := Frm.step X38 Fm42 (fun k _ hk => .inr (i9_1O k hk))
        refine da_op rfl (d_as (v := (Value.slice v42pa v42pn v42pc)) rfl ?_)
        refine da_nil ?_
        refine W_region rfl ?_
        refine da_op rfl (d_mv (v := .int .i64 s9.1) i9_S1 ?_)
        refine da_op rfl (d_iarith rfl rfl (.inr (.inl ⟨rfl, rfl⟩)) ?_)
        refine da_op rfl (d_as (v := .int .i64 (IntKind.i64.wrap (s9.1 - 1))) rfl ?_)
        refine da_nil ?_
        have B46 : w42.heap[p0b]? = some (.cells #[(Value.slice p0v0a p0v0n p0v0c), .int .i64 m31.2.at_, .int .u64 m31.2.seed] 190 (0, 0)) := Fm42.heap i9_A0 B41
        have B47 : RS w42 encI_u8 (Value.slice p0v0a p0v0n p0v0c) p0.code := ((i9_K0.frm E32 (fun k _ => (fun k hk => ((rb sp0_1) k hk)) k)).ext E34).frm Fm42 (fun k _ => (old_rr p0v0R i9_1O) k)
        obtain rfl := Option.some.inj hr
        exact ⟨_, rfl, ⟨v42pa, v42pn, v42pc, rfl, rfl, i9_S0, i9_S6, O42, own42, B46, B47, sp43, X45⟩⟩
    · skip
      replace hr := bif_f hr hc12
      refine W_exit ?_
      obtain rfl := Option.some.inj hr
      exact ⟨_, rfl, rfl, i9_1a, i9_1n, i9_1c, i9_S5, i9_1R, i9_1O, i9_2B, i9_K0, i9_A0, i9_X⟩
  · skip
    intro ex σx9 wx9 hq
    obtain ⟨rfl, q9_0_0a, q9_0_0n, q9_0_0c, q9_0_S5, q9_0_0R, q9_0_0O, q9_0_1B, q9_0_K0, q9_0_A0, q9_0_X⟩ := hq
    refine W_seq ?_
    refine W_region rfl ?_
    refine da_op rfl (d_mv (v := (Value.slice q9_0_0a q9_0_0n q9_0_0c)) q9_0_S5 ?_)
    refine da_op rfl (d_as (v := (Value.slice q9_0_0a q9_0_0n q9_0_0c)) rfl ?_)
    refine da_nil ?_
    refine W_ret ?_
    obtain rfl := Option.some.inj hr
    refine ⟨_, res1 (rv_tmp rfl), ?_⟩
    exact ⟨q9_0_0a, q9_0_0n, q9_0_0c, rfl, q9_0_0R, q9_0_0O, q9_0_1B, q9_0_X⟩
set_option maxHeartbeats 4000000 in
theorem c40 (p0 : List Int) (p1 : Int) (p0a : Option Addr) (p0n : Nat) (p0c : Nat) (r : List Nat) (w : World) (hr : M.spec_B10Numbers p0 p1 = some r) (p0R : RS w encI_u8 (Value.slice p0a p0n p0c) p0) :
    Calls Tryd.prog 40 #[(Value.slice p0a p0n p0c), .int .i64 p1] w fun e w' => ∃ q0a : Option Addr, ∃ q0n : Nat, ∃ q0c : Nat, e = .returned ((Value.slice q0a q0n q0c)) ∧ OS w' 22 encF_f32 (Value.slice q0a q0n q0c) r ∧ (∀ k, (Value.slice q0a q0n q0c).ownBlock = some k → w.heap.size ≤ k) ∧ Ext w w' := by
  refine calls_of_W Tryd.func40 rfl (Nat.le_of_ble_eq_true rfl) ?_
  refine W_seq ?_
  refine W_region rfl ?_
  refine da_op rfl (d_as (v := .slice none 0 0) rfl ?_)
  refine da_nil ?_
  refine W_seq ?_
  refine W_region rfl ?_
  refine da_op rfl (d_mv (v := (Value.slice p0a p0n p0c)) rfl ?_)
  obtain ⟨m1, hm1, hr⟩ := letv_out hr
  refine da_op rfl (d_cl (vs := [(Value.slice p0a p0n p0c)]) en95 (ac rfl rfl) rfl ?_)
  refine (c95 p0 p0a p0n p0c m1 w hm1 p0R).mono ?_
  rintro _ w2 ⟨q2_0b, q2_0v0a, q2_0v0n, q2_0v0c, rfl, q2_0v0H, q2_0B, q2_0G, E2⟩
  refine ⟨_, rfl, ?_⟩
  have own3 : w.heap.size ≤ q2_0b := Nat.le_trans (Ext.refl w).size q2_0G
  have X4 : Ext w w2 := (Ext.refl w).trans E2
  have B6 : RS w2 encI_u8 (Value.slice p0a p0n p0c) p0 := p0R.ext X4
  have O5 : RS w2 encI_u8 (Value.slice q2_0v0a q2_0v0n q2_0v0c) m1.code := Hand.rs q2_0v0H B6
  refine da_op rfl (d_as (v := .pointer (some ⟨q2_0b, 0, none⟩)) rfl ?_)
  refine da_nil ?_
  refine W_seq ?_
  refine W_region rfl ?_
  refine da_op rfl (d_mv (v := .pointer (some ⟨q2_0b, 0, none⟩)) rfl ?_)
  refine da_op rfl (d_mv (v := .int .i64 p1) rfl ?_)
  obtain ⟨m7, hm7, hr⟩ := bind_out hr
  refine da_op rfl (d_cl (vs := [.pointer (some ⟨q2_0b, 0, none⟩), .int .i64 p1]) en96 (ac rfl (ac rfl rfl)) rfl ?_)
  refine (c96 m1 p1 q2_0b q2_0v0a q2_0v0n q2_0v0c m7 w2 hm7 O5 q2_0B (fun e => old_ltb (Hand.lt q2_0v0H (RS.lt p0R)) own3 _ e rfl)).mono ?_
  rintro _ w8 ⟨q8_0a, q8_0n, q8_0c, rfl, q8_0R, q8_0F, q8_m0B, E8⟩
  refine ⟨_, rfl, ?_⟩
  have own9 : ∀ k, (Value.slice q8_0a q8_0n q8_0c).ownBlock = some k → w.heap.size ≤ k := fun k hk => Nat.le_trans X4.size (q8_0F k hk)
  have sp10 : ¬ (Value.slice q8_0a q8_0n q8_0c).ownBlock = some q2_0b := ne_fresh q8_0F (lt_heap q2_0B)
  have X11 : Ext w w8 := Ext.step X4 E8 (fun k _ hk => hk ▸ own3)
  refine da_op rfl (d_as (v := (Value.slice q8_0a q8_0n q8_0c)) rfl ?_)
  refine da_nil ?_
  refine W_ret ?_
  obtain rfl := Option.some.inj hr
  refine ⟨_, res1 (rv_tmp rfl), ?_⟩
  exact ⟨q8_0a, q8_0n, q8_0c, rfl, q8_0R, own9, X11⟩
set_option maxHeartbeats 4000000 in
theorem c97 (p0 : List Nat) (p0a : Option Addr) (p0n : Nat) (p0c : Nat) (r : Bool) (w : World) (hr : M.impl_listOk p0 = r) (p0R : RS w encF_f32 (Value.slice p0a p0n p0c) p0) :
    Calls Tryd.prog 97 #[(Value.slice p0a p0n p0c)] w fun e w' => e = .returned (.bool r) ∧ Ext w w' := by
  refine calls_of_W Tryd.func97 rfl (Nat.le_of_ble_eq_true rfl) ?_
  refine W_seq ?_
  refine W_region rfl ?_
  refine da_op rfl (d_as (v := .bool false) rfl ?_)
  refine da_nil ?_
  refine W_seq ?_
  refine W_region rfl ?_
  refine da_op rfl (d_mv (v := (Value.slice p0a p0n p0c)) rfl ?_)
  refine da_op rfl (d_len (e := encF_f32) un53 rfl p0R ?_)
  refine da_op rfl (d_icmp cLeq rfl rfl ?_)
  refine da_op rfl (d_as (v := .bool (icmp .leq ((p0).length : Int) 256)) rfl ?_)
  refine da_nil ?_
  refine W_ret ?_
  subst hr
  refine ⟨_, res1 (rv_tmp rfl), ?_⟩
  exact ⟨rfl, (Ext.refl w)⟩
set_option maxHeartbeats 4000000 in
theorem c153 (p0 : Nat) (p0r : Nat) (r : Bool) (w : World) (hr : M.impl_isNaN p0 = r) (p0h : cn .f32 p0r = p0) :
    Calls Tryd.prog 153 #[.float .f32 p0r] w fun e w' => e = .returned (.bool r) ∧ Ext w w' := by
  refine calls_of_W Tryd.func153 rfl (Nat.le_of_ble_eq_true rfl) ?_
  refine W_seq ?_
  refine W_region rfl ?_
  refine da_op rfl (d_as (v := .bool false) rfl ?_)
  refine da_nil ?_
  refine W_seq ?_
  refine W_region rfl ?_
  refine da_op rfl (d_mv (v := .float .f32 p0r) rfl ?_)
  refine da_op rfl (d_mv (v := .float .f32 p0r) rfl ?_)
  refine da_op rfl (d_fcmp (k := .f32) cNeq rfl rfl p0h p0h ?_)
  refine da_op rfl (d_as (v := .bool (fcmp .neq .f32 p0 p0)) rfl ?_)
  refine da_nil ?_
  refine W_ret ?_
  subst hr
  refine ⟨_, res1 (rv_tmp rfl), ?_⟩
  exact ⟨rfl, (Ext.refl w)⟩
set_option maxHeartbeats 4000000 in
theorem c98 (p0 : Nat) (p0r : Nat) (r : Int) (w : World) (hr : M.impl_BitsOf p0 = r) (p0h : cn .f32 p0r = p0) :
    Calls Tryd.prog 98 #[.float .f32 p0r] w fun e w' => e = .returned (.int .i64 r) ∧ Ext w w' := by
  refine calls_of_W Tryd.func98 rfl (Nat.le_of_ble_eq_true rfl) ?_
  refine W_seq ?_
  refine W_region rfl ?_
  refine da_op rfl (d_as (v := .int .i64 0) rfl ?_)
  refine da_nil ?_
  refine W_seq ?_
  refine W_seq ?_
  refine W_region rfl ?_
  refine da_op rfl (d_mv (v := .float .f32 p0r) rfl ?_)
  obtain ⟨m1, hm1, hr⟩ := letv_out hr
  refine da_op rfl (d_cl (vs := [.float .f32 p0r]) en153 (ac rfl rfl) rfl ?_)
  refine (c153 p0 p0r m1 w hm1 p0h).mono ?_
  rintro _ w2 ⟨rfl, E2⟩
  refine ⟨_, rfl, ?_⟩
  have X3 : Ext w w2 := (Ext.refl w).trans E2
  refine da_nil ?_
  refine W_cond (b := m1) rfl (fun hc4 => ?_) (fun hc4 => ?_)
  · skip
    replace hr := bif_t hr hc4
    refine W_seq ?_
    refine W_region rfl ?_
    refine da_op rfl (d_as (v := .int .i64 2143289344) rfl ?_)
    refine da_nil ?_
    refine W_ret ?_
    subst hr
    refine ⟨_, res1 (rv_tmp rfl), ?_⟩
    exact ⟨rfl, X3⟩
  · skip
    replace hr := bif_f hr hc4
    refine W_skip ?_
    refine W_seq ?_
    refine W_region rfl ?_
    refine da_op rfl (d_mv (v := .float .f32 p0r) rfl ?_)
    refine da_op rfl (d_f32bits ext154_0 ext154_1 ext154_2 (Option.isNone_iff_eq_none.1 ext154_3) ext154_4 rfl rfl p0h (nn_ne (Eq.trans (show fcmp .neq .f32 p0 p0 = m1 from hm1) hc4)) ?_)
    refine da_op rfl (d_iconv un193 un2 rfl ?_)
    refine da_op rfl (d_as (v := .int .i64 (IntKind.i64.wrap (p0 : Int))) rfl ?_)
    refine da_nil ?_
    refine W_ret ?_
    subst hr
    refine ⟨_, res1 (rv_tmp rfl), ?_⟩
    exact ⟨rfl, X3⟩
set_option maxHeartbeats 4000000 in
theorem c99 (p0 : List (List UInt8)) (p0a : Option Addr) (p0n : Nat) (p0c : Nat) (r : List UInt8) (w : World) (hr : M.impl_joined p0 = some r) (p0R : RS w encS (Value.slice p0a p0n p0c) p0) :
    Calls Tryd.prog 99 #[(Value.slice p0a p0n p0c)] w fun e w' => e = .returned (.string (bs r)) ∧ Ext w w' := by
  refine calls_of_W Tryd.func99 rfl (Nat.le_of_ble_eq_true rfl) ?_
  refine W_seq ?_
  refine W_region rfl ?_
  refine da_op rfl (d_as (v := .string (bs ([] : List UInt8))) rfl ?_)
  refine da_nil ?_
  refine W_seq ?_
  refine W_seq ?_
  refine W_region rfl ?_
  refine da_op rfl (d_mv (v := (Value.slice p0a p0n p0c)) rfl ?_)
  refine da_op rfl (d_len (e := encS) un34 rfl p0R ?_)
  refine da_op rfl (d_icmp cEql rfl rfl ?_)
  refine da_nil ?_
  refine W_cond (b := (icmp .eql ((p0).length : Int) 0)) rfl (fun hc1 => ?_) (fun hc1 => ?_)
  · skip
    replace hr := bif_t hr hc1
    refine W_seq ?_
    refine W_region rfl ?_
    refine da_op rfl (d_as (v := .string (bs ([110, 111, 110, 101] : List UInt8))) rfl ?_)
    refine da_nil ?_
    refine W_ret ?_
    obtain rfl := Option.some.inj hr
    refine ⟨_, res1 (rv_tmp rfl), ?_⟩
    exact ⟨rfl, (Ext.refl w)⟩
  · skip
    replace hr := bif_f hr hc1
    refine W_skip ?_
    refine W_seq ?_
    refine W_region rfl ?_
    refine da_op rfl (d_mv (v := (Value.slice p0a p0n p0c)) rfl ?_)
    obtain ⟨m3, hm3, hr⟩ := bind_out hr
    refine da_op rfl (d_cl (vs := [(Value.slice p0a p0n p0c), .string (bs ([44] : List UInt8))]) en90 (ac rfl (ac rfl rfl)) rfl ?_)
    refine (sh90 hm3 p0R).mono ?_
    rintro _ w2 ⟨rfl, E2⟩
    refine ⟨_, rfl, ?_⟩
    have X4 : Ext w w2 := (Ext.refl w).trans E2
    refine da_op rfl (d_as (v := .string (bs m3)) rfl ?_)
    refine da_nil ?_
    refine W_ret ?_
    obtain rfl := Option.some.inj hr
    refine ⟨_, res1 (rv_tmp rfl), ?_⟩
    exact ⟨rfl, X4⟩
set_option maxHeartbeats 4000000 in
theorem c42 (p0 : List Nat) (p0a : Option Addr) (p0n : Nat) (p0c : Nat) (r : List UInt8 × Bool) (w : World) (hr : M.impl_NumbersText p0 = some r) (p0R : RS w encF_f32 (Value.slice p0a p0n p0c) p0) :
    Calls Tryd.prog 42 #[(Value.slice p0a p0n p0c)] w fun e w' => e = .returned (.tuple #[.string (bs r.1), .bool r.2]) ∧ Ext w w' := by
  refine calls_of_W Tryd.func42 rfl (Nat.le_of_ble_eq_true rfl) ?_
  refine W_seq ?_
  refine W_region rfl ?_
  refine da_op rfl (d_as (v := .string (bs ([] : List UInt8))) rfl ?_)
  refine da_op rfl (d_as (v := .bool false) rfl ?_)
  refine da_nil ?_
  refine W_seq ?_
  refine W_seq ?_
  refine W_region rfl ?_
  refine da_op rfl (d_mv (v := (Value.slice p0a p0n p0c)) rfl ?_)
  obtain ⟨m1, hm1, hr⟩ := letv_out hr
  refine da_op rfl (d_cl (vs := [(Value.slice p0a p0n p0c)]) en97 (ac rfl rfl) rfl ?_)
  refine (c97 p0 p0a p0n p0c m1 w hm1 p0R).mono ?_
  rintro _ w2 ⟨rfl, E2⟩
  refine ⟨_, rfl, ?_⟩
  have X3 : Ext w w2 := (Ext.refl w).trans E2
  refine da_op rfl (d_not rfl ?_)
  refine da_nil ?_
  refine W_cond (b := (!m1)) rfl (fun hc4 => ?_) (fun hc4 => ?_)
  · skip
    replace hr := bif_t hr hc4
    refine W_seq ?_
    refine W_region rfl ?_
    refine da_op rfl (d_as (v := .string (bs ([] : List UInt8))) rfl ?_)
    refine da_op rfl (d_as (v := .bool false) rfl ?_)
    refine da_nil ?_
    refine W_ret ?_
    obtain rfl := Option.some.inj hr
    refine ⟨_, res2 (rv_tmp rfl) (rv_tmp rfl), ?_⟩
    exact ⟨rfl, X3⟩
  · skip
    replace hr := bif_f hr hc4
    refine W_skip ?_
    refine W_seq ?_
    refine W_region rfl ?_
    refine da_op rfl (d_bslice0 un34 size9 fun w5 B5 E5 => ?_)
    have fr5 : ∀ k, (Value.slice (some ⟨w2.heap.size, 0, none⟩) 0 0).ownBlock = some k → w2.heap.size ≤ k := fun k hk => by cases hk; exact Nat.le_refl _
    have own5 : ∀ k, (Value.slice (some ⟨w2.heap.size, 0, none⟩) 0 0).ownBlock = some k → w.heap.size ≤ k := fun k hk => Nat.le_trans X3.size (fr5 k hk)
    have X6 : Ext w w5 := X3.trans E5
    have O5 : OS w5 9 encS (Value.slice (some ⟨w2.heap.size, 0, none⟩) 0 0) ([] : List (List UInt8)) := OS.box (xs := ([] : List (List UInt8))) B5 rfl (Nat.le_of_ble_eq_true rfl)
    refine da_op rfl (d_as (v := (Value.slice (some ⟨w2.heap.size, 0, none⟩) 0 0)) rfl ?_)
    refine da_nil ?_
    refine W_seq ?_
    refine W_seq ?_
    refine W_region rfl ?_
    refine da_op rfl (d_mv (v := (Value.slice p0a p0n p0c)) rfl ?_)
    have B7 : RS w5 encF_f32 (Value.slice p0a p0n p0c) p0 := p0R.ext X6
    refine da_op rfl (d_len (e := encF_f32) un53 rfl B7 ?_)
    refine da_op rfl (d_mv (v := .int .i64 0) rfl ?_)
    refine da_nil ?_
    refine W_block ?_
    obtain ⟨m8, hm8, hr⟩ := bind_out hr
    refine W_loopM hm8 (fun (s8 : List (List UInt8) × Int) σ w' => ∃ i8_0a : Option Addr, ∃ i8_0n : Nat, ∃ i8_0c : Nat, σ 4 = (Value.slice i8_0a i8_0n i8_0c) ∧ σ 15 = .int .i64 s8.2 ∧ σ 13 = (Value.slice p0a p0n p0c) ∧ σ 14 = .int .i64 ((p0).length : Int) ∧ OS w' 9 encS (Value.slice i8_0a i8_0n i8_0c) s8.1 ∧ (∀ k, (Value.slice i8_0a i8_0n i8_0c).ownBlock = some k → w.heap.size ≤ k) ∧ Ext w w') (fun (e8 : (List (List UInt8))) ex σ w' => ex = .exit 0 ∧ ∃ q8_0_0a : Option Addr, ∃ q8_0_0n : Nat, ∃ q8_0_0c : Nat, σ 4 = (Value.slice q8_0_0a q8_0_0n q8_0_0c) ∧ OS w' 9 encS (Value.slice q8_0_0a q8_0_0n q8_0_0c) e8 ∧ (∀ k, (Value.slice q8_0_0a q8_0_0n q8_0_0c).ownBlock = some k → w.heap.size ≤ k) ∧ Ext w w') ⟨(some ⟨w2.heap.size, 0, none⟩), 0, 0, rfl, rfl, rfl, rfl, O5, own5, X6⟩ ?_ ?_
    · skip
      rintro s8 σl8 wl8 r8l ⟨i8_0a, i8_0n, i8_0c, i8_S4, i8_S15, i8_S13, i8_S14, i8_0R, i8_0O, i8_X⟩ hr
      refine W_seq ?_
      refine W_region rfl ?_
      refine da_op rfl (d_icmp cLss i8_S15 i8_S14 ?_)
      refine da_nil ?_
      refine W_seq ?_
      refine W_cond (b := (icmp .lss s8.2 ((p0).length : Int))) rfl (fun hc9 => ?_) (fun hc9 => ?_)
      · skip
        replace hr := bif_t hr hc9
        refine W_skip ?_
        refine W_seq ?_
        refine W_block ?_
        refine W_seq ?_
        refine W_region rfl ?_
        obtain ⟨m10, hm10, hr⟩ := bind_out hr
        have B12 : RS wl8 encF_f32 (Value.slice p0a p0n p0c) p0 := p0R.ext i8_X
        refine da_op rfl (d_index (e := encF_f32) (v := (Value.slice p0a p0n p0c)) un53 size22 i8_S13 i8_S15 B12 hm10 fun g11 o11 cu11 T11 fr11 vs11 hv11 hg11 hp11 hq11 => ?_)
        obtain ⟨e11_r0, rfl, e11_h0⟩ := dec_encF_f32 hq11
        refine da_op rfl (d_load (v := .float .f32 e11_r0) rfl agg22 hg11 (sub_get (vs := #[.float .f32 e11_r0]) hp11 (i := 0) rfl) ?_)
        refine da_op rfl (d_as (v := .float .f32 e11_r0) rfl ?_)
        refine da_nil ?_
        refine W_seq ?_
        refine W_region rfl ?_
        refine da_op rfl (d_bslice0 un73 size5 fun w13 B13 E13 => ?_)
        have fr13 : ∀ k, (Value.slice (some ⟨wl8.heap.size, 0, none⟩) 0 0).ownBlock = some k → wl8.heap.size ≤ k := fun k hk => by cases hk; exact Nat.le_refl _
        have own13 : ∀ k, (Value.slice (some ⟨wl8.heap.size, 0, none⟩) 0 0).ownBlock = some k → w.heap.size ≤ k := fun k hk => Nat.le_trans i8_X.size (fr13 k hk)
        have sp14 : ∀ k, (Value.slice i8_0a i8_0n i8_0c).ownBlock = some k → ¬ (Value.slice (some ⟨wl8.heap.size, 0, none⟩) 0 0).ownBlock = some k := apart_fresh i8_0R fr13
        have X15 : Ext w w13 := i8_X.trans E13
        have O13 : OS w13 5 encI_u8 (Value.slice (some ⟨wl8.heap.size, 0, none⟩) 0 0) ([] : List Int) := OS.box (xs := ([] : List Int)) B13 rfl (Nat.le_of_ble_eq_true rfl)
        refine da_op rfl (d_as (v := (Value.slice (some ⟨wl8.heap.size, 0, none⟩) 0 0)) rfl ?_)
        refine da_nil ?_
        refine W_seq ?_
        refine W_seq ?_
        refine W_region rfl ?_
        refine da_op rfl (d_as (v := .int .i64 28) rfl ?_)
        refine da_nil ?_
        refine W_block ?_
        refine W_rounds 100 ?_
        refine Wr_next ?_
        refine W_seq ?_
        refine W_seq ?_
        refine W_region rfl ?_
        refine da_op rfl (d_mv (v := .int .i64 28) rfl ?_)
        refine da_op rfl (d_icmpL (b := true) cGeq rfl rfl (by decide) ?_)
        refine da_nil ?_
        refine W_true rfl ?_
        refine W_skip ?_
        refine W_seq ?_
        refine W_block ?_
        refine W_region rfl ?_
        refine da_op rfl (d_mv (v := (Value.slice (some ⟨wl8.heap.size, 0, none⟩) 0 0)) rfl ?_)
        refine da_op rfl (d_mv (v := .float .f32 e11_r0) rfl ?_)
        obtain ⟨m16, hm16, hr⟩ := letv_out hr
        have B17 : OS w13 9 encS (Value.slice i8_0a i8_0n i8_0c) s8.1 := i8_0R.ext E13
        refine da_op rfl (d_cl (vs := [.float .f32 e11_r0]) en98 (ac rfl rfl) rfl ?_)
        refine (c98 m10 e11_r0 m16 w13 hm16 e11_h0).mono ?_
        rintro _ w18 ⟨rfl, E18⟩
        refine ⟨_, rfl, ?_⟩
        have X19 : Ext w w18 := X15.trans E18
        refine da_op rfl (d_mv (v := .int .i64 28) rfl ?_)
        refine da_op rfl (d_shrL rfl rfl (n := 28) (by decide) ?_)
        refine da_op rfl (d_and rfl rfl ?_)
        obtain ⟨m20, hm20, hr⟩ := bind_out hr
        refine da_op rfl (d_sidx un9 rfl rfl hm20 ?_)
        have B22 : OS w18 9 encS (Value.slice i8_0a i8_0n i8_0c) s8.1 := B17.ext E18
        have B23 : OS w18 5 encI_u8 (Value.slice (some ⟨wl8.heap.size, 0, none⟩) 0 0) ([] : List Int) := O13.ext E18
        refine da_op rfl (d_bslice (vs := [(0, .int .u8 m20)]) (cs := #[.int .u8 m20]) un73 (pc rfl rfl) (by kernel_rfl) fun w21 B21 E21 => ?_)
        have fr21 : ∀ k, (Value.slice (some ⟨w18.heap.size, 0, none⟩) 1 1).ownBlock = some k → w18.heap.size ≤ k := fun k hk => by cases hk; exact Nat.le_refl _
        have own21 : ∀ k, (Value.slice (some ⟨w18.heap.size, 0, none⟩) 1 1).ownBlock = some k → w.heap.size ≤ k := fun k hk => Nat.le_trans X19.size (fr21 k hk)
        have sp24 : ∀ k, (Value.slice i8_0a i8_0n i8_0c).ownBlock = some k → ¬ (Value.slice (some ⟨w18.heap.size, 0, none⟩) 1 1).ownBlock = some k := apart_fresh B22 fr21
        have sp25 : ∀ k, (Value.slice (some ⟨wl8.heap.size, 0, none⟩) 0 0).ownBlock = some k → ¬ (Value.slice (some ⟨w18.heap.size, 0, none⟩) 1 1).ownBlock = some k := apart_fresh B23 fr21
        have X26 : Ext w w21 := X19.trans E21
        have O21 : OS w21 5 encI_u8 (Value.slice (some ⟨w18.heap.size, 0, none⟩) 1 1) [m20] := OS.box (xs := [m20]) B21 (lc_v rfl rfl) (Nat.le_of_ble_eq_true rfl)
        obtain ⟨m27, hm27, hr⟩ := bind_out hr
        have B28 : OS w21 5 encI_u8 (Value.slice (some ⟨wl8.heap.size, 0, none⟩) 0 0) ([] : List Int) := B23.ext E21
        have B29 : OS w21 9 encS (Value.slice i8_0a i8_0n i8_0c) s8.1 := B22.ext E21
        refine da_op rfl (d_append (e := encI_u8) (v := (Value.slice (some ⟨wl8.heap.size, 0, none⟩) 0 0)) (y := (Value.slice (some ⟨w18.heap.size, 0, none⟩) 1 1)) un73 info5 rfl (by kernel_rfl) (by kernel_rfl) (by decide) (by decide) rfl rfl B28 O21.rs hm27 fun v30 w30 O30 Fm30 at_30 nl30 => ?_)
        obtain ⟨v30pa, v30pn, v30pc, rfl⟩ := O30.vals
        have own30 : ∀ k, (Value.slice v30pa v30pn v30pc).ownBlock = some k → w.heap.size ≤ k := app_own (w := w21) at_30 own13 X26.size
        have sp31 : ∀ k, (Value.slice i8_0a i8_0n i8_0c).ownBlock = some k → ¬ (Value.slice v30pa v30pn v30pc).ownBlock = some k := app_nr at_30 sp14 B29
        have sp32 : ∀ k, (Value.slice (some ⟨w18.heap.size, 0, none⟩) 1 1).ownBlock = some k → ¬ (Value.slice v30pa v30pn v30pc).ownBlock = some k := app_nr at_30 (apart_symm sp25) O21
        have X33 : Ext w w30 := Ext.step X26 Fm30 (fun k _ hk => own13 k hk)
        refine da_op rfl (d_as (v := (Value.slice v30pa v30pn v30pc)) rfl ?_)
        refine da_nil ?_
        refine W_region rfl ?_
        refine da_op rfl (d_mv (v := .int .i64 28) rfl ?_)
        refine da_op rfl (d_iarith (r := 24) rfl rfl (.inr (.inl ⟨rfl, (by decide)⟩)) ?_)
        refine da_op rfl (d_as (v := .int .i64 24) rfl ?_)
        refine da_nil ?_
        refine Wr_next ?_
        refine W_seq ?_
        refine W_seq ?_
        refine W_region rfl ?_
        refine da_op rfl (d_mv (v := .int .i64 24) rfl ?_)
        refine da_op rfl (d_icmpL (b := true) cGeq rfl rfl (by decide) ?_)
        refine da_nil ?_
        refine W_true rfl ?_
        refine W_skip ?_
        refine W_seq ?_
        refine W_block ?_
        refine W_region rfl ?_
        refine da_op rfl (d_mv (v := (Value.slice v30pa v30pn v30pc)) rfl ?_)
        refine da_op rfl (d_mv (v := .float .f32 e11_r0) rfl ?_)
        obtain ⟨m34, hm34, hr⟩ := letv_out hr
        have B35 : OS w30 9 encS (Value.slice i8_0a i8_0n i8_0c) s8.1 := B29.frm Fm30 sp14
        refine da_op rfl (d_cl (vs := [.float .f32 e11_r0]) en98 (ac rfl rfl) rfl ?_)
        refine (c98 m10 e11_r0 m34 w30 hm34 e11_h0).mono ?_
        rintro _ w36 ⟨rfl, E36⟩
        refine ⟨_, rfl, ?_⟩
        have X37 : Ext w w36 := X33.trans E36
        refine da_op rfl (d_mv (v := .int .i64 24) rfl ?_)
        refine da_op rfl (d_shrL rfl rfl (n := 24) (by decide) ?_)
        refine da_op rfl (d_and rfl rfl ?_)
        obtain ⟨m38, hm38, hr⟩ := bind_out hr
        refine da_op rfl (d_sidx un9 rfl rfl hm38 ?_)
        have B40 : OS w36 9 encS (Value.slice i8_0a i8_0n i8_0c) s8.1 := B35.ext E36
        have B41 : OS w36 5 encI_u8 (Value.slice v30pa v30pn v30pc) m27 := O30.ext E36
        refine da_op rfl (d_bslice (vs := [(0, .int .u8 m38)]) (cs := #[.int .u8 m38]) un73 (pc rfl rfl) (by kernel_rfl) fun w39 B39 E39 => ?_)
        have fr39 : ∀ k, (Value.slice (some ⟨w36.heap.size, 0, none⟩) 1 1).ownBlock = some k → w36.heap.size ≤ k := fun k hk => by cases hk; exact Nat.le_refl _
        have own39 : ∀ k, (Value.slice (some ⟨w36.heap.size, 0, none⟩) 1 1).ownBlock = some k → w.heap.size ≤ k := fun k hk => Nat.le_trans X37.size (fr39 k hk)
        have sp42 : ∀ k, (Value.slice i8_0a i8_0n i8_0c).ownBlock = some k → ¬ (Value.slice (some ⟨w36.heap.size, 0, none⟩) 1 1).ownBlock = some k := apart_fresh B40 fr39
        have sp43 : ∀ k, (Value.slice v30pa v30pn v30pc).ownBlock = some k → ¬ (Value.slice (some ⟨w36.heap.size, 0, none⟩) 1 1).ownBlock = some k := apart_fresh B41 fr39
        have X44 : Ext w w39 := X37.trans E39
        have O39 : OS w39 5 encI_u8 (Value.slice (some ⟨w36.heap.size, 0, none⟩) 1 1) [m38] := OS.box (xs := [m38]) B39 (lc_v rfl rfl) (Nat.le_of_ble_eq_true rfl)
        obtain ⟨m45, hm45, hr⟩ := bind_out hr
        have B46 : OS w39 5 encI_u8 (Value.slice v30pa v30pn v30pc) m27 := B41.ext E39
        have B47 : OS w39 9 encS (Value.slice i8_0a i8_0n i8_0c) s8.1 := B40.ext E39
        refine da_op rfl (d_append (e := encI_u8) (v := (Value.slice v30pa v30pn v30pc)) (y := (Value.slice (some ⟨w36.heap.size, 0, none⟩) 1 1)) un73 info5 rfl (by kernel_rfl) (by kernel_rfl) (by decide) (by decide) rfl rfl B46 O39.rs hm45 fun v48 w48 O48 Fm48 at_48 nl48 => ?_)
        obtain ⟨v48pa, v48pn, v48pc, rfl⟩ := O48.vals
        have own48 : ∀ k, (Value.slice v48pa v48pn v48pc).ownBlock = some k → w.heap.size ≤ k := app_own (w := w39) at_48 own30 X44.size
        have sp49 : ∀ k, (Value.slice i8_0a i8_0n i8_0c).ownBlock = some k → ¬ (Value.slice v48pa v48pn v48pc).ownBlock = some k := app_nr at_48 sp31 B47
        have sp50 : ∀ k, (Value.slice (some ⟨w36.heap.size, 0, none⟩) 1 1).ownBlock = some k → ¬ (Value.slice v48pa v48pn v48pc).ownBlock = some k := app_nr at_48 (apart_symm sp43) O39
        have X51 : Ext w w48 := Ext.step X44 Fm48 (fun k _ hk => own30 k hk)
        refine da_op rfl (d_as (v := (Value.slice v48pa v48pn v48pc)) rfl ?_)
        refine da_nil ?_
        refine W_region rfl ?_
        refine da_op rfl (d_mv (v := .int .i64 24) rfl ?_)
        refine da_op rfl (d_iarith (r := 20) rfl rfl (.inr (.inl ⟨rfl, (by decide)⟩)) ?_)
        refine da_op rfl (d_as (v := .int .i64 20) rfl ?_)
        refine da_nil ?_
        refine Wr_next ?_
        refine W_seq ?_
        refine W_seq ?_
        refine W_region rfl ?_
        refine da_op rfl (d_mv (v := .int .i64 20) rfl ?_)
        refine da_op rfl (d_icmpL (b := true) cGeq rfl rfl (by decide) ?_)
        refine da_nil ?_
        refine W_true rfl ?_
        refine W_skip ?_
        refine W_seq ?_
        refine W_block ?_
        refine W_region rfl ?_
        refine da_op rfl (d_mv (v := (Value.slice v48pa v48pn v48pc)) rfl ?_)
        refine da_op rfl (d_mv (v := .float .f32 e11_r0) rfl ?_)
        obtain ⟨m52, hm52, hr⟩ := letv_out hr
        have B53 : OS w48 9 encS (Value.slice i8_0a i8_0n i8_0c) s8.1 := B47.frm Fm48 sp31
        refine da_op rfl (d_cl (vs := [.float .f32 e11_r0]) en98 (ac rfl rfl) rfl ?_)
        refine (c98 m10 e11_r0 m52 w48 hm52 e11_h0).mono ?_
        rintro _ w54 ⟨rfl, E54⟩
        refine ⟨_, rfl, ?_⟩
        have X55 : Ext w w54 := X51.trans E54
        refine da_op rfl (d_mv (v := .int .i64 20) rfl ?_)
        refine da_op rfl (d_shrL rfl rfl (n := 20) (by decide) ?_)
        refine da_op rfl (d_and rfl rfl ?_)
        obtain ⟨m56, hm56, hr⟩ := bind_out hr
        refine da_op rfl (d_sidx un9 rfl rfl hm56 ?_)
        have B58 : OS w54 9 encS (Value.slice i8_0a i8_0n i8_0c) s8.1 := B53.ext E54
        have B59 : OS w54 5 encI_u8 (Value.slice v48pa v48pn v48pc) m45 := O48.ext E54
        refine da_op rfl (d_bslice (vs := [(0, .int .u8 m56)]) (cs := #[.int .u8 m56]) un73 (pc rfl rfl) (by kernel_rfl) fun w57 B57 E57 => ?_)
        have fr57 : ∀ k, (Value.slice (some ⟨w54.heap.size, 0, none⟩) 1 1).ownBlock = some k → w54.heap.size ≤ k := fun k hk => by cases hk; exact Nat.le_refl _
        have own57 : ∀ k, (Value.slice (some ⟨w54.heap.size, 0, none⟩) 1 1).ownBlock = some k → w.heap.size ≤ k := fun k hk => Nat.le_trans X55.size (fr57 k hk)
        have sp60 : ∀ k, (Value.slice i8_0a i8_0n i8_0c).ownBlock = some k → ¬ (Value.slice (some ⟨w54.heap.size, 0, none⟩) 1 1).ownBlock = some k := apart_fresh B58 fr57
        have sp61 : ∀ k, (Value.slice v48pa v48pn v48pc).ownBlock = some k → ¬ (Value.slice (some ⟨w54.heap.size, 0, none⟩) 1 1).ownBlock = some k := apart_fresh B59 fr57
        have X62 : Ext w w57 := X55.trans E57
        have O57 : OS w57 5 encI_u8 (Value.slice (some ⟨w54.heap.size, 0, none⟩) 1 1) [m56] := OS.box (xs := [m56]) B57 (lc_v rfl rfl) (Nat.le_of_ble_eq_true rfl)
        obtain ⟨m63, hm63, hr⟩ := bind_out hr
        have B64 : OS w57 5 encI_u8 (Value.slice v48pa v48pn v48pc) m45 := B59.ext E57
        have B65 : OS w57 9 encS (Value.slice i8_0a i8_0n i8_0c) s8.1 := B58.ext E57
        refine da_op rfl (d_append (e := encI_u8) (v := (Value.slice v48pa v48pn v48pc)) (y := (Value.slice (some ⟨w54.heap.size, 0, none⟩) 1 1)) un73 info5 rfl (by kernel_rfl) (by kernel_rfl) (by decide) (by decide) rfl rfl B64 O57.rs hm63 fun v66 w66 O66 Fm66 at_66 nl66 => ?_)
        obtain ⟨v66pa, v66pn, v66pc, rfl⟩ := O66.vals
        have own66 : ∀ k, (Value.slice v66pa v66pn v66pc).ownBlock = some k → w.heap.size ≤ k := app_own (w := w57) at_66 own48 X62.size
        have sp67 : ∀ k, (Value.slice i8_0a i8_0n i8_0c).ownBlock = some k → ¬ (Value.slice v66pa v66pn v66pc).ownBlock = some k := app_nr at_66 sp49 B65
        have sp68 : ∀ k, (Value.slice (some ⟨w54.heap.size, 0, none⟩) 1 1).ownBlock = some k → ¬ (Value.slice v66pa v66pn v66pc).ownBlock = some k := app_nr at_66 (apart_symm sp61) O57
        have X69 : Ext w w66 := Ext.step X62 Fm66 (fun k _ hk => own48 k hk)
        refine da_op rfl (d_as (v := (Value.slice v66pa v66pn v66pc)) rfl ?_)
        refine da_nil ?_
        refine W_region rfl ?_
        refine da_op rfl (d_mv (v := .int .i64 20) rfl ?_)
        refine da_op rfl (d_iarith (r := 16) rfl rfl (.inr (.inl ⟨rfl, (by decide)⟩)) ?_)
        refine da_op rfl (d_as (v := .int .i64 16) rfl ?_)
        refine da_nil ?_
        refine Wr_next ?_
        refine W_seq ?_
        refine W_seq ?_
        refine W_region rfl ?_
        refine da_op rfl (d_mv (v := .int .i64 16) rfl ?_)
        refine da_op rfl (d_icmpL (b := true) cGeq rfl rfl (by decide) ?_)
        refine da_nil ?_
        refine W_true rfl ?_
        refine W_skip ?_
        refine W_seq ?_
        refine W_block ?_
        refine W_region rfl ?_
        refine da_op rfl (d_mv (v := (Value.slice v66pa v66pn v66pc)) rfl ?_)
        refine da_op rfl (d_mv (v := .float .f32 e11_r0) rfl ?_)
        obtain ⟨m70, hm70, hr⟩ := letv_out hr
        have B71 : OS w66 9 encS (Value.slice i8_0a i8_0n i8_0c) s8.1 := B65.frm Fm66 sp49
        refine da_op rfl (d_cl (vs := [.float .f32 e11_r0]) en98 (ac rfl rfl) rfl ?_)
        refine (c98 m10 e11_r0 m70 w66 hm70 e11_h0).mono ?_
        rintro _ w72 ⟨rfl, E72⟩
        refine ⟨_, rfl, ?_⟩
        have X73 : Ext w w72 := X69.trans E72
        refine da_op rfl (d_mv (v := .int .i64 16) rfl ?_)
        refine da_op rfl (d_shrL rfl rfl (n := 16) (by decide) ?_)
        refine da_op rfl (d_and rfl rfl ?_)
        obtain ⟨m74, hm74, hr⟩ := bind_out hr
        refine da_op rfl (d_sidx un9 rfl rfl hm74 ?_)
        have B76 : OS w72 9 encS (Value.slice i8_0a i8_0n i8_0c) s8.1 := B71.ext E72
        have B77 : OS w72 5 encI_u8 (Value.slice v66pa v66pn v66pc) m63 := O66.ext E72
        refine da_op rfl (d_bslice (vs := [(0, .int .u8 m74)]) (cs := #[.int .u8 m74]) un73 (pc rfl rfl) (by kernel_rfl) fun w75 B75 E75 => ?_)
        have fr75 : ∀ k, (Value.slice (some ⟨w72.heap.size, 0, none⟩) 1 1).ownBlock = some k → w72.heap.size ≤ k := fun k hk => by cases hk; exact Nat.le_refl _
        have own75 : ∀ k, (Value.slice (some ⟨w72.heap.size, 0, none⟩) 1 1).ownBlock = some k → w.heap.size ≤ k := fun k hk => Nat.le_trans X73.size (fr75 k hk)
        have sp78 : ∀ k, (Value.slice i8_0a i8_0n i8_0c).ownBlock = some k → ¬ (Value.slice (some ⟨w72.heap.size, 0, none⟩) 1 1).ownBlock = some k := apart_fresh B76 fr75
        have sp79 : ∀ k, (Value.slice v66pa v66pn v66pc).ownBlock = some k → ¬ (Value.slice (some ⟨w72.heap.size, 0, none⟩) 1 1).ownBlock = some k := apart_fresh B77 fr75
        have X80 : Ext w w75 := X73.trans E75
        have O75 : OS w75 5 encI_u8 (Value.slice (some ⟨w72.heap.size, 0, none⟩) 1 1) [m74] := OS.box (xs := [m74]) B75 (lc_v rfl rfl) (Nat.le_of_ble_eq_true rfl)
        obtain ⟨m81, hm81, hr⟩ := bind_out hr
        have B82 : OS w75 5 encI_u8 (Value.slice v66pa v66pn v66pc) m63 := B77.ext E75
        have B83 : OS w75 9 encS (Value.slice i8_0a i8_0n i8_0c) s8.1 := B76.ext E75
        refine da_op rfl (d_append (e := encI_u8) (v := (Value.slice v66pa v66pn v66pc)) (y := (Value.slice (some ⟨w72.heap.size, 0, none⟩) 1 1)) un73 info5 rfl (by kernel_rfl) (by kernel_rfl) (by decide) (by decide) rfl rfl B82 O75.rs hm81 fun v84 w84 O84 Fm84 at_84 nl84 => ?_)
        obtain ⟨v84pa, v84pn, v84pc, rfl⟩ := O84.vals
        have own84 : ∀ k, (Value.slice v84pa v84pn v84pc).ownBlock = some k → w.heap.size ≤ k := app_own (w := w75) at_84 own66 X80.size
        have sp85 : ∀ k, (Value.slice i8_0a i8_0n i8_0c).ownBlock = some k → ¬ (Value.slice v84pa v84pn v84pc).ownBlock = some k := app_nr at_84 sp67 B83
        have sp86 : ∀ k, (Value.slice (some ⟨w72.heap.size, 0, none⟩) 1 1).ownBlock = some k → ¬ (Value.slice v84pa v84pn v84pc).ownBlock = some k := app_nr at_84 (apart_symm sp79) O75
        have X87 : Ext w w84 := Ext.step X80 Fm84 (fun k _ hk => own66 k hk)
        refine da_op rfl (d_as (v := (Value.slice v84pa v84pn v84pc)) rfl ?_)
        refine da_nil ?_
        refine W_region rfl ?_
        refine da_op rfl (d_mv (v := .int .i64 16) rfl ?_)
        refine da_op rfl (d_iarith (r := 12) rfl rfl (.inr (.inl ⟨rfl, (by decide)⟩)) ?_)
        refine da_op rfl (d_as (v := .int .i64 12) rfl ?_)
        refine da_nil ?_
        refine Wr_next ?_
        refine W_seq ?_
        refine W_seq ?_
        refine W_region rfl ?_
        refine da_op rfl (d_mv (v := .int .i64 12) rfl ?_)
        refine da_op rfl (d_icmpL (b := true) cGeq rfl rfl (by decide) ?_)
        refine da_nil ?_
        refine W_true rfl ?_
        refine W_skip ?_
        refine W_seq ?_
        refine W_block ?_
        refine W_region rfl ?_
        refine da_op rfl (d_mv (v := (Value.slice v84pa v84pn v84pc)) rfl ?_)
        refine da_op rfl (d_mv (v := .float .f32 e11_r0) rfl ?_)
        obtain ⟨m88, hm88, hr⟩ := letv_out hr
        have B89 : OS w84 9 encS (Value.slice i8_0a i8_0n i8_0c) s8.1 := B83.frm Fm84 sp67
        refine da_op rfl (d_cl (vs := [.float .f32 e11_r0]) en98 (ac rfl rfl) rfl ?_)
        refine (c98 m10 e11_r0 m88 w84 hm88 e11_h0).mono ?_
        rintro _ w90 ⟨rfl, E90⟩
        refine ⟨_, rfl, ?_⟩
        have X91 : Ext w w90 := X87.trans E90
        refine da_op rfl (d_mv (v := .int .i64 12) rfl ?_)
        refine da_op rfl (d_shrL rfl rfl (n := 12) (by decide) ?_)
        refine da_op rfl (d_and rfl rfl ?_)
        obtain ⟨m92, hm92, hr⟩ := bind_out hr
        refine da_op rfl (d_sidx un9 rfl rfl hm92 ?_)
        have B94 : OS w90 9 encS (Value.slice i8_0a i8_0n i8_0c) s8.1 := B89.ext E90
        have B95 : OS w90 5 encI_u8 (Value.slice v84pa v84pn v84pc) m81 := O84.ext E90
        refine da_op rfl (d_bslice (vs := [(0, .int .u8 m92)]) (cs := #[.int .u8 m92]) un73 (pc rfl rfl) (by kernel_rfl) fun w93 B93 E93 => ?_)
        have fr93 : ∀ k, (Value.slice (some ⟨w90.heap.size, 0, none⟩) 1 1).ownBlock = some k → w90.heap.size ≤ k := fun k hk => by cases hk; exact Nat.le_refl _
        have own93 : ∀ k, (Value.slice (some ⟨w90.heap.size, 0, none⟩) 1 1).ownBlock = some k → w.heap.size ≤ k := fun k hk => Nat.le_trans X91.size (fr93 k hk)
        have sp96 : ∀ k, (Value.slice i8_0a i8_0n i8_0c).ownBlock = some k → ¬ (Value.slice (some ⟨w90.heap.size, 0, none⟩) 1 1).ownBlock = some k := apart_fresh B94 fr93
        have sp97 : ∀ k, (Value.slice v84pa v84pn v84pc).ownBlock = some k → ¬ (Value.slice (some ⟨w90.heap.size, 0, none⟩) 1 1).ownBlock = some k := apart_fresh B95 fr93
        have X98 : Ext w w93 := X91.trans E93
        have O93 : OS w93 5 encI_u8 (Value.slice (some ⟨w90.heap.size, 0, none⟩) 1 1) [m92] := OS.box (xs := [m92]) B93 (lc_v rfl rfl) (Nat.le_of_ble_eq_true rfl)
        obtain ⟨m99, hm99, hr⟩ := bind_out hr
        have B100 : OS w93 5 encI_u8 (Value.slice v84pa v84pn v84pc) m81 := B95.ext E93
        have B101 : OS w93 9 encS (Value.slice i8_0a i8_0n i8_0c) s8.1 := B94.ext E93
        refine da_op rfl (d_append (e := encI_u8) (v := (Value.slice v84pa v84pn v84pc)) (y := (Value.slice (some ⟨w90.heap.size, 0, none⟩) 1 1)) un73 info5 rfl (by kernel_rfl) (by kernel_rfl) (by decide) (by decide) rfl rfl B100 O93.rs hm99 fun v102 w102 O102 Fm102 at_102 nl102 => ?_)
        obtain ⟨v102pa, v102pn, v102pc, rfl⟩ := O102.vals
        have own102 : ∀ k, (Value.slice v102pa v102pn v102pc).ownBlock = some k → w.heap.size ≤ k := app_own (w := w93) at_102 own84 X98.size
        have sp103 : ∀ k, (Value.slice i8_0a i8_0n i8_0c).ownBlock = some k → ¬ (Value.slice v102pa v102pn v102pc).ownBlock = some k := app_nr at_102 sp85 B101
        have sp104 : ∀ k, (Value.slice (some ⟨w90.heap.size, 0, none⟩) 1 1).ownBlock = some k → ¬ (Value.slice v102pa v102pn v102pc).ownBlock = some k := app_nr at_102 (apart_symm sp97) O93
        have X105 : Ext w w102 := Ext.step X98 Fm102 (fun k _ hk => own84 k hk)
        refine da_op rfl (d_as (v := (Value.slice v102pa v102pn v102pc)) rfl ?_)
        refine da_nil ?_
        refine W_region rfl ?_
        refine da_op rfl (d_mv (v := .int .i64 12) rfl ?_)
        refine da_op rfl (d_iarith (r := 8) rfl rfl (.inr (.inl ⟨rfl, (by decide)⟩)) ?_)
        refine da_op rfl (d_as (v := .int .i64 8) rfl ?_)
        refine da_nil ?_
        refine Wr_next ?_
        refine W_seq ?_
        refine W_seq ?_
        refine W_region rfl ?_
        refine da_op rfl (d_mv (v := .int .i64 8) rfl ?_)
        refine da_op rfl (d_icmpL (b := true) cGeq rfl rfl (by decide) ?_)
        refine da_nil ?_
        refine W_true rfl ?_
        refine W_skip ?_
        refine W_seq ?_
        refine W_block ?_
        refine W_region rfl ?_
        refine da_op rfl (d_mv (v := (Value.slice v102pa v102pn v102pc)) rfl ?_)
        refine da_op rfl (d_mv (v := .float .f32 e11_r0) rfl ?_)
        obtain ⟨m106, hm106, hr⟩ := letv_out hr
        have B107 : OS w102 9 encS (Value.slice i8_0a i8_0n i8_0c) s8.1 := B101.frm Fm102 sp85
        refine da_op rfl (d_cl (vs := [.float .f32 e11_r0]) en98 (ac rfl rfl) rfl ?_)
        refine (c98 m10 e11_r0 m106 w102 hm106 e11_h0).mono ?_
        rintro _ w108 ⟨rfl, E108⟩
        refine ⟨_, rfl, ?_⟩
        have X109 : Ext w w108 := X105.trans E108
        refine da_op rfl (d_mv (v := .int .i64 8) rfl ?_)
        refine da_op rfl (d_shrL rfl rfl (n := 8) (by decide) ?_)
        refine da_op rfl (d_and rfl rfl ?_)
        obtain ⟨m110, hm110, hr⟩ := bind_out hr
        refine da_op rfl (d_sidx un9 rfl rfl hm110 ?_)
        have B112 : OS w108 9 encS (Value.slice i8_0a i8_0n i8_0c) s8.1 := B107.ext E108
        have B113 : OS w108 5 encI_u8 (Value.slice v102pa v102pn v102pc) m99 := O102.ext E108
        refine da_op rfl (d_bslice (vs := [(0, .int .u8 m110)]) (cs := #[.int .u8 m110]) un73 (pc rfl rfl) (by kernel_rfl) fun w111 B111 E111 => ?_)
        have fr111 : ∀ k, (Value.slice (some ⟨w108.heap.size, 0, none⟩) 1 1).ownBlock = some k → w108.heap.size ≤ k := fun k hk => by cases hk; exact Nat.le_refl _
        have own111 : ∀ k, (Value.slice (some ⟨w108.heap.size, 0, none⟩) 1 1).ownBlock = some k → w.heap.size ≤ k := fun k hk => Nat.le_trans X109.size (fr111 k hk)
        have sp114 : ∀ k, (Value.slice i8_0a i8_0n i8_0c).ownBlock = some k → ¬ (Value.slice (some ⟨w108.heap.size, 0, none⟩) 1 1).ownBlock = some k := apart_fresh B112 fr111
        have sp115 : ∀ k, (Value.slice v102pa v102pn v102pc).ownBlock = some k → ¬ (Value.slice (some ⟨w108.heap.size, 0, none⟩) 1 1).ownBlock = some k := apart_fresh B113 fr111
        have X116 : Ext w w111 := X109.trans E111
        have O111 : OS w111 5 encI_u8 (Value.slice (some ⟨w108.heap.size, 0, none⟩) 1 1) [m110] := OS.box (xs := [m110]) B111 (lc_v rfl rfl) (Nat.le_of_ble_eq_true rfl)
        obtain ⟨m117, hm117, hr⟩ := bind_out hr
        have B118 : OS w111 5 encI_u8 (Value.slice v102pa v102pn v102pc) m99 := B113.ext E111
        have B119 : OS w111 9 encS (Value.slice i8_0a i8_0n i8_0c) s8.1 := B112.ext E111
        refine da_op rfl (d_append (e := encI_u8) (v := (Value.slice v102pa v102pn v102pc)) (y := (Value.slice (some ⟨w108.heap.size, 0, none⟩) 1 1)) un73 info5 rfl (by kernel_rfl) (by kernel_rfl) (by decide) (by decide) rfl rfl B118 O111.rs hm117 fun v120 w120 O120 Fm120 at_120 nl120 => ?_)
        obtain ⟨v120pa, v120pn, v120pc, rfl⟩ := O120.vals
        have own120 : ∀ k, (Value.slice v120pa v120pn v120pc).ownBlock = some k → w.heap.size ≤ k := app_own (w := w111) at_120 own102 X116.size
        have sp121 : ∀ k, (Value.slice i8_0a i8_0n i8_0c).ownBlock = some k → ¬ (Value.slice v120pa v120pn v120pc).ownBlock = some k := app_nr at_120 sp103 B119
        have sp122 : ∀ k, (Value.slice (some ⟨w108.heap.size, 0, none⟩) 1 1).ownBlock = some k → ¬ (Value.slice v120pa v120pn v120pc).ownBlock = some k := app_nr at_120 (apart_symm sp115) O111
        have X123 : Ext w w120 := Ext.step X116 Fm120 (fun k _ hk => own102 k hk)
        refine da_op rfl (d_as (v := (Value.slice v120pa v120pn v120pc)) rfl ?_)
        refine da_nil ?_
        refine W_region rfl ?_
        refine da_op rfl (d_mv (v := .int .i64 8) rfl ?_)
        refine da_op rfl (d_iarith (r := 4) rfl rfl (.inr (.inl ⟨rfl, (by decide)⟩)) ?_)
        refine da_op rfl (d_as (v := .int .i64 4) rfl ?_)
        refine da_nil ?_
        refine Wr_next ?_
        refine W_seq ?_
        refine W_seq ?_
        refine W_region rfl ?_
        refine da_op rfl (d_mv (v := .int .i64 4) rfl ?_)
        refine da_op rfl (d_icmpL (b := true) cGeq rfl rfl (by decide) ?_)
        refine da_nil ?_
        refine W_true rfl ?_
        refine W_skip ?_
        refine W_seq ?_
        refine W_block ?_
        refine W_region rfl ?_
        refine da_op rfl (d_mv (v := (Value.slice v120pa v120pn v120pc)) rfl ?_)
        refine da_op rfl (d_mv (v := .float .f32 e11_r0) rfl ?_)
        obtain ⟨m124, hm124, hr⟩ := letv_out hr
        have B125 : OS w120 9 encS (Value.slice i8_0a i8_0n i8_0c) s8.1 := B119.frm Fm120 sp103
        refine da_op rfl (d_cl (vs := [.float .f32 e11_r0]) en98 (ac rfl rfl) rfl ?_)
        refine (c98 m10 e11_r0 m124 w120 hm124 e11_h0).mono ?_
        rintro _ w126 ⟨rfl, E126⟩
        refine ⟨_, rfl, ?_⟩
        have X127 : Ext w w126 := X123.trans E126
        refine da_op rfl (d_mv (v := .int .i64 4) rfl ?_)
        refine da_op rfl (d_shrL rfl rfl (n := 4) (by decide) ?_)
        refine da_op rfl (d_and rfl rfl ?_)
        obtain ⟨m128, hm128, hr⟩ := bind_out hr
        refine da_op rfl (d_sidx un9 rfl rfl hm128 ?_)
        have B130 : OS w126 9 encS (Value.slice i8_0a i8_0n i8_0c) s8.1 := B125.ext E126
        have B131 : OS w126 5 encI_u8 (Value.slice v120pa v120pn v120pc) m117 := O120.ext E126
        refine da_op rfl (d_bslice (vs := [(0, .int .u8 m128)]) (cs := #[.int .u8 m128]) un73 (pc rfl rfl) (by kernel_rfl) fun w129 B129 E129 => ?_)
        have fr129 : ∀ k, (Value.slice (some ⟨w126.heap.size, 0, none⟩) 1 1).ownBlock = some k → w126.heap.size ≤ k := fun k hk => by cases hk; exact Nat.le_refl _
        have own129 : ∀ k, (Value.slice (some ⟨w126.heap.size, 0, none⟩) 1 1).ownBlock = some k → w.heap.size ≤ k := fun k hk => Nat.le_trans X127.size (fr129 k hk)
        have sp132 : ∀ k, (Value.slice i8_0a i8_0n i8_0c).ownBlock = some k → ¬ (Value.slice (some ⟨w126.heap.size, 0, none⟩) 1 1).ownBlock = some k := apart_fresh B130 fr129
        have sp133 : ∀ k, (Value.slice v120pa v120pn v120pc).ownBlock = some k → ¬ (Value.slice (some ⟨w126.heap.size, 0, none⟩) 1 1).ownBlock = some k := apart_fresh B131 fr129
        have X134 : Ext w w129 := X127.trans E129
        have O129 : OS w129 5 encI_u8 (Value.slice (some ⟨w126.heap.size, 0, none⟩) 1 1) [m128] := OS.box (xs := [m128]) B129 (lc_v rfl rfl) (Nat.le_of_ble_eq_true rfl)
        obtain ⟨m135, hm135, hr⟩ := bind_out hr
        have B136 : OS w129 5 encI_u8 (Value.slice v120pa v120pn v120pc) m117 := B131.ext E129
        have B137 : OS w129 9 encS (Value.slice i8_0a i8_0n i8_0c) s8.1 := B130.ext E129
        refine da_op rfl (d_append (e := encI_u8) (v := (Value.slice v120pa v120pn v120pc)) (y := (Value.slice (some ⟨w126.heap.size, 0, none⟩) 1 1)) un73 info5 rfl (by kernel_rfl) (by kernel_rfl) (by decide) (by decide) rfl rfl B136 O129.rs hm135 fun v138 w138 O138 Fm138 at_138 nl138 => ?_)
        obtain ⟨v138pa, v138pn, v138pc, rfl⟩ := O138.vals
        have own138 : ∀ k, (Value.slice v138pa v138pn v138pc).ownBlock = some k → w.heap.size ≤ k := app_own (w := w129) at_138 own120 X134.size
        have sp139 : ∀ k, (Value.slice i8_0a i8_0n i8_0c).ownBlock = some k → ¬ (Value.slice v138pa v138pn v138pc).ownBlock = some k := app_nr at_138 sp121 B137
        have sp140 : ∀ k, (Value.slice (some ⟨w126.heap.size, 0, none⟩) 1 1).ownBlock = some k → ¬ (Value.slice v138pa v138pn v138pc).ownBlock = some k := app_nr at_138 (apart_symm sp133) O129
        have X141 : Ext w w138 := Ext.step X134 Fm138 (fun k _ hk => own120 k hk)
        refine da_op rfl (d_as (v := (Value.slice v138pa v138pn v138pc)) rfl ?_)
        refine da_nil ?_
        refine W_region rfl ?_
        refine da_op rfl (d_mv (v := .int .i64 4) rfl ?_)
        refine da_op rfl (d_iarith (r := 0) rfl rfl (.inr (.inl ⟨rfl, (by decide)⟩)) ?_)
        refine da_op rfl (d_as (v := .int .i64 0) rfl ?_)
        refine da_nil ?_
        refine Wr_next ?_
        refine W_seq ?_
        refine W_seq ?_
        refine W_region rfl ?_
        refine da_op rfl (d_mv (v := .int .i64 0) rfl ?_)
        refine da_op rfl (d_icmpL (b := true) cGeq rfl rfl (by decide) ?_)
        refine da_nil ?_
        refine W_true rfl ?_
        refine W_skip ?_
        refine W_seq ?_
        refine W_block ?_
        refine W_region rfl ?_
        refine da_op rfl (d_mv (v := (Value.slice v138pa v138pn v138pc)) rfl ?_)
        refine da_op rfl (d_mv (v := .float .f32 e11_r0) rfl ?_)
        obtain ⟨m142, hm142, hr⟩ := letv_out hr
        have B143 : OS w138 9 encS (Value.slice i8_0a i8_0n i8_0c) s8.1 := B137.frm Fm138 sp121
        refine da_op rfl (d_cl (vs := [.float .f32 e11_r0]) en98 (ac rfl rfl) rfl ?_)
        refine (c98 m10 e11_r0 m142 w138 hm142 e11_h0).mono ?_
        rintro _ w144 ⟨rfl, E144⟩
        refine ⟨_, rfl, ?_⟩
        have X145 : Ext w w144 := X141.trans E144
        refine da_op rfl (d_mv (v := .int .i64 0) rfl ?_)
        refine da_op rfl (d_shrL rfl rfl (n := 0) (by decide) ?_)
        refine da_op rfl (d_and rfl rfl ?_)
        obtain ⟨m146, hm146, hr⟩ := bind_out hr
        refine da_op rfl (d_sidx un9 rfl rfl hm146 ?_)
        have B148 : OS w144 9 encS (Value.slice i8_0a i8_0n i8_0c) s8.1 := B143.ext E144
        have B149 : OS w144 5 encI_u8 (Value.slice v138pa v138pn v138pc) m135 := O138.ext E144
        refine da_op rfl (d_bslice (vs := [(0, .int .u8 m146)]) (cs := #[.int .u8 m146]) un73 (pc rfl rfl) (by kernel_rfl) fun w147 B147 E147 => ?_)
        have fr147 : ∀ k, (Value.slice (some ⟨w144.heap.size, 0, none⟩) 1 1).ownBlock = some k → w144.heap.size ≤ k := fun k hk => by cases hk; exact Nat.le_refl _
        have own147 : ∀ k, (Value.slice (some ⟨w144.heap.size, 0, none⟩) 1 1).ownBlock = some k → w.heap.size ≤ k := fun k hk => Nat.le_trans X145.size (fr147 k hk)
        have sp150 : ∀ k, (Value.slice i8_0a i8_0n i8_0c).ownBlock = some k → ¬ (Value.slice (some ⟨w144.heap.size, 0, none⟩) 1 1).ownBlock = some k := apart_fresh B148 fr147
        have sp151 : ∀ k, (Value.slice v138pa v138pn v138pc).ownBlock = some k → ¬ (Value.slice (some ⟨w144.heap.size, 0, none⟩) 1 1).ownBlock = some k := apart_fresh B149 fr147
        have X152 : Ext w w147 := X145.trans E147
        have O147 : OS w147 5 encI_u8 (Value.slice (some ⟨w144.heap.size, 0, none⟩) 1 1) [m146] := OS.box (xs := [m146]) B147 (lc_v rfl rfl) (Nat.le_of_ble_eq_true rfl)
        obtain ⟨m153, hm153, hr⟩ := bind_out hr
        have B154 : OS w147 5 encI_u8 (Value.slice v138pa v138pn v138pc) m135 := B149.ext E147
        have B155 : OS w147 9 encS (Value.slice i8_0a i8_0n i8_0c) s8.1 := B148.ext E147
        refine da_op rfl (d_append (e := encI_u8) (v := (Value.slice v138pa v138pn v138pc)) (y := (Value.slice (some ⟨w144.heap.size, 0, none⟩) 1 1)) un73 info5 rfl (by kernel_rfl) (by kernel_rfl) (by decide) (by decide) rfl rfl B154 O147.rs hm153 fun v156 w156 O156 Fm156 at_156 nl156 => ?_)
        obtain ⟨v156pa, v156pn, v156pc, rfl⟩ := O156.vals
        have own156 : ∀ k, (Value.slice v156pa v156pn v156pc).ownBlock = some k → w.heap.size ≤ k := app_own (w := w147) at_156 own138 X152.size
        have sp157 : ∀ k, (Value.slice i8_0a i8_0n i8_0c).ownBlock = some k → ¬ (Value.slice v156pa v156pn v156pc).ownBlock = some k := app_nr at_156 sp139 B155
        have sp158 : ∀ k, (Value.slice (some ⟨w144.heap.size, 0, none⟩) 1 1).ownBlock = some k → ¬ (Value.slice v156pa v156pn v156pc).ownBlock = some k := app_nr at_156 (apart_symm sp151) O147
        have X159 : Ext w w156 := Ext.step X152 Fm156 (fun k _ hk => own138 k hk)
        refine da_op rfl (d_as (v := (Value.slice v156pa v156pn v156pc)) rfl ?_)
        refine da_nil ?_
        refine W_region rfl ?_
        refine da_op rfl (d_mv (v := .int .i64 0) rfl ?_)
        refine da_op rfl (d_iarith (r := -4) rfl rfl (.inr (.inl ⟨rfl, (by decide)⟩)) ?_)
        refine da_op rfl (d_as (v := .int .i64 (-4)) rfl ?_)
        refine da_nil ?_
        refine Wr_next ?_
        refine W_seq ?_
        refine W_seq ?_
        refine W_region rfl ?_
        refine da_op rfl (d_mv (v := .int .i64 (-4)) rfl ?_)
        refine da_op rfl (d_icmpL (b := false) cGeq rfl rfl (by decide) ?_)
        refine da_nil ?_
        refine W_false rfl ?_
        refine W_exit ?_
        refine W_region rfl ?_
        refine da_op rfl (d_mv (v := (Value.slice i8_0a i8_0n i8_0c)) i8_S4 ?_)
        refine da_op rfl (d_mv (v := (Value.slice v156pa v156pn v156pc)) rfl ?_)
        refine da_op rfl (d_bstr (e := encI_u8) (v := (Value.slice v156pa v156pn v156pc)) rfl un73 un5 un9 rfl O156.rs ?_)
        have B161 : OS w156 9 encS (Value.slice i8_0a i8_0n i8_0c) s8.1 := B155.frm Fm156 sp139
        refine da_op rfl (d_bslice (vs := [(0, .string (bs (u8s m153)))]) (cs := #[.string (bs (u8s m153))]) un34 (pc rfl rfl) (by kernel_rfl) fun w160 B160 E160 => ?_)
        have fr160 : ∀ k, (Value.slice (some ⟨w156.heap.size, 0, none⟩) 1 1).ownBlock = some k → w156.heap.size ≤ k := fun k hk => by cases hk; exact Nat.le_refl _
        have own160 : ∀ k, (Value.slice (some ⟨w156.heap.size, 0, none⟩) 1 1).ownBlock = some k → w.heap.size ≤ k := fun k hk => Nat.le_trans X159.size (fr160 k hk)
        have sp162 : ∀ k, (Value.slice i8_0a i8_0n i8_0c).ownBlock = some k → ¬ (Value.slice (some ⟨w156.heap.size, 0, none⟩) 1 1).ownBlock = some k := apart_fresh B161 fr160
        have sp163 : ∀ k, (Value.slice v156pa v156pn v156pc).ownBlock = some k → ¬ (Value.slice (some ⟨w156.heap.size, 0, none⟩) 1 1).ownBlock = some k := apart_fresh O156 fr160
        have X164 : Ext w w160 := X159.trans E160
        have O160 : OS w160 9 encS (Value.slice (some ⟨w156.heap.size, 0, none⟩) 1 1) [(u8s m153)] := OS.box (xs := [(u8s m153)]) B160 (lc_v rfl rfl) (Nat.le_of_ble_eq_true rfl)
        obtain ⟨m165, hm165, hr⟩ := bind_out hr
        have B166 : OS w160 9 encS (Value.slice i8_0a i8_0n i8_0c) s8.1 := B161.ext E160
        have B167 : OS w160 5 encI_u8 (Value.slice v156pa v156pn v156pc) m153 := O156.ext E160
        refine da_op rfl (d_append (e := encS) (v := (Value.slice i8_0a i8_0n i8_0c)) (y := (Value.slice (some ⟨w156.heap.size, 0, none⟩) 1 1)) un34 info9 rfl (by kernel_rfl) (by kernel_rfl) (by decide) (by decide) rfl rfl B166 O160.rs hm165 fun v168 w168 O168 Fm168 at_168 nl168 => ?_)
        obtain ⟨v168pa, v168pn, v168pc, rfl⟩ := O168.vals
        have own168 : ∀ k, (Value.slice v168pa v168pn v168pc).ownBlock = some k → w.heap.size ≤ k := app_own (w := w160) at_168 i8_0O X164.size
        have sp169 : ∀ k, (Value.slice v156pa v156pn v156pc).ownBlock = some k → ¬ (Value.slice v168pa v168pn v168pc).ownBlock = some k := app_nr at_168 (apart_symm sp157) B167
        have sp170 : ∀ k, (Value.slice (some ⟨w156.heap.size, 0, none⟩) 1 1).ownBlock = some k → ¬ (Value.slice v168pa v168pn v168pc).ownBlock = some k := app_nr at_168 (apart_symm sp162) O160
        have X171 : Ext w w168 := Ext.step X164 Fm168 (fun k _ hk => i8_0O k hk)
        refine da_op rfl (d_as (v := (Value.slice v168pa v168pn v168pc)) rfl ?_)
        refine da_nil ?_
        refine W_region rfl ?_
        refine da_op rfl (d_iarith i8_S15 rfl (.inl ⟨rfl, rfl⟩) ?_)
        refine da_op rfl (d_mv (v := .int .i64 (IntKind.i64.wrap (s8.2 + 1))) rfl ?_)
        refine da_nil ?_
        obtain rfl := Option.some.inj hr
        exact ⟨_, rfl, ⟨v168pa, v168pn, v168pc, rfl, rfl, i8_S13, i8_S14, O168, own168, X171⟩⟩
      · skip
        replace hr := bif_f hr hc9
        refine W_exit ?_
        obtain rfl := Option.some.inj hr
        exact ⟨_, rfl, rfl, i8_0a, i8_0n, i8_0c, i8_S4, i8_0R, i8_0O, i8_X⟩
    · skip
      intro ex σx8 wx8 hq
      obtain ⟨rfl, q8_0_0a, q8_0_0n, q8_0_0c, q8_0_S4, q8_0_0R, q8_0_0O, q8_0_X⟩ := hq
      refine W_seq ?_
      refine W_region rfl ?_
      refine da_op rfl (d_mv (v := (Value.slice q8_0_0a q8_0_0n q8_0_0c)) q8_0_S4 ?_)
      obtain ⟨m172, hm172, hr⟩ := bind_out hr
      refine da_op rfl (d_cl (vs := [(Value.slice q8_0_0a q8_0_0n q8_0_0c)]) en99 (ac rfl rfl) rfl ?_)
      refine (c99 m8 q8_0_0a q8_0_0n q8_0_0c m172 wx8 hm172 q8_0_0R.rs).mono ?_
      rintro _ w173 ⟨rfl, E173⟩
      refine ⟨_, rfl, ?_⟩
      have X174 : Ext w w173 := q8_0_X.trans E173
      refine da_op rfl (d_as (v := .string (bs m172)) rfl ?_)
      refine da_op rfl (d_as (v := .bool true) rfl ?_)
      refine da_nil ?_
      refine W_ret ?_
      obtain rfl := Option.some.inj hr
      refine ⟨_, res2 (rv_tmp rfl) (rv_tmp rfl), ?_⟩
      exact ⟨rfl, X174⟩
set_option maxHeartbeats 4000000 in
theorem c171_s2c (p0 : List UInt8) (r : Int) (w : World) (hr : M.strings_Count_s2c p0 = some r)  :
    Calls Tryd.prog 171 #[.string (bs p0), .string (bs ([44] : List UInt8))] w fun e w' => e = .returned (.int .i64 r) ∧ Ext w w' := by
  refine calls_of_W Tryd.func171 rfl (Nat.le_of_ble_eq_true rfl) ?_
  refine W_seq ?_
  refine W_region rfl ?_
  refine da_op rfl (d_as (v := .int .i64 0) rfl ?_)
  refine da_nil ?_
  refine W_seq ?_
  refine W_seq ?_
  refine W_region rfl ?_
  refine da_op rfl (d_mv (v := .string (bs ([44] : List UInt8))) rfl ?_)
  refine da_op rfl (d_slenL (n := 1) un9 rfl rfl ?_)
  refine da_op rfl (d_icmpL (b := false) cEql rfl rfl (by decide) ?_)
  refine da_nil ?_
  refine W_false rfl ?_
  refine W_skip ?_
  refine W_seq ?_
  refine W_seq ?_
  refine W_region rfl ?_
  refine da_op rfl (d_mv (v := .string (bs ([44] : List UInt8))) rfl ?_)
  refine da_op rfl (d_slenL (n := 1) un9 rfl rfl ?_)
  refine da_op rfl (d_icmpL (b := true) cEql rfl rfl (by decide) ?_)
  refine da_nil ?_
  refine W_true rfl ?_
  refine W_seq ?_
  refine W_region rfl ?_
  refine da_op rfl (d_mv (v := .string (bs p0)) rfl ?_)
  refine da_op rfl (d_mv (v := .string (bs ([44] : List UInt8))) rfl ?_)
  obtain ⟨m1, hm1, hr⟩ := bind_out hr
  refine da_op rfl (d_sidx un9 rfl rfl hm1 ?_)
  refine da_op rfl (d_scount ext198_0 ext198_1 ext198_2 (Option.isNone_iff_eq_none.1 ext198_3) ext198_4 rfl rfl rfl ?_)
  refine da_op rfl (d_as (v := .int .i64 (scount p0 m1)) rfl ?_)
  refine da_nil ?_
  refine W_ret ?_
  obtain rfl := Option.some.inj hr
  refine ⟨_, res1 (rv_tmp rfl), ?_⟩
  exact ⟨rfl, (Ext.refl w)⟩
set_option maxHeartbeats 4000000 in
theorem c117 (p0 : List UInt8) (p1 : Int) (r : Int) (w : World) (hr : M.internal_stringslite_IndexByte p0 p1 = r)  :
    Calls Tryd.prog 117 #[.string (bs p0), .int .u8 p1] w fun e w' => e = .returned (.int .i64 r) ∧ Ext w w' := by
  refine calls_of_W Tryd.func117 rfl (Nat.le_of_ble_eq_true rfl) ?_
  refine W_seq ?_
  refine W_region rfl ?_
  refine da_op rfl (d_as (v := .int .i64 0) rfl ?_)
  refine da_nil ?_
  refine W_seq ?_
  refine W_region rfl ?_
  refine da_op rfl (d_mv (v := .string (bs p0)) rfl ?_)
  refine da_op rfl (d_mv (v := .int .u8 p1) rfl ?_)
  refine da_op rfl (d_sfind ext168_0 ext168_1 ext168_2 (Option.isNone_iff_eq_none.1 ext168_3) ext168_4 rfl rfl rfl ?_)
  refine da_op rfl (d_as (v := .int .i64 (sfind p0 p1)) rfl ?_)
  refine da_nil ?_
  refine W_ret ?_
  subst hr
  refine ⟨_, res1 (rv_tmp rfl), ?_⟩
  exact ⟨rfl, (Ext.refl w)⟩
set_option maxHeartbeats 4000000 in
theorem c165_s2c (p0 : List UInt8) (r : Int) (w : World) (hr : M.internal_stringslite_Index_s2c p0 = some r)  :
    Calls Tryd.prog 165 #[.string (bs p0), .string (bs ([44] : List UInt8))] w fun e w' => e = .returned (.int .i64 r) ∧ Ext w w' := by
  refine calls_of_W Tryd.func165 rfl (Nat.le_of_ble_eq_true rfl) ?_
  refine W_seq ?_
  refine W_region rfl ?_
  refine da_op rfl (d_as (v := .int .i64 0) rfl ?_)
  refine da_nil ?_
  refine W_seq ?_
  refine W_region rfl ?_
  refine da_op rfl (d_mv (v := .string (bs ([44] : List UInt8))) rfl ?_)
  refine da_op rfl (d_slenL (n := 1) un9 rfl rfl ?_)
  refine da_op rfl (d_as (v := .int .i64 1) rfl ?_)
  refine da_nil ?_
  refine W_seq ?_
  refine W_block ?_
  refine W_seq ?_
  refine W_cut (fun σ' w' => σ' 16 = .bool (([44] : List UInt8) == p0) ∧ Ext w w') rfl ?_ ?_
  · skip
    clear hr
    refine da_op rfl (d_mv (v := .int .i64 1) rfl ?_)
    refine da_op rfl (d_icmpL (b := false) cEql rfl rfl (by decide) ?_)
    refine da_op rfl (d_mv (v := .bool false) rfl ?_)
    refine da_on rfl rfl (d_mv (v := .string (bs ([44] : List UInt8))) rfl ?_)
    refine da_on rfl rfl (d_mv (v := .string (bs p0)) rfl ?_)
    refine da_on rfl rfl (d_seq rfl rfl ?_)
    refine da_op rfl (d_pick (b := false) rfl ?_)
    refine da_op rfl (d_as (v := .bool (([44] : List UInt8) == p0)) rfl ?_)
    refine da_nil ?_
    exact ⟨rfl, (Ext.refl w)⟩
  · skip
    rintro σ1 w1 o1 ⟨s16_1, E1⟩
    have s0_1 : σ1 0 = .string (bs p0) := (o1 0 rfl).trans rfl
    have s1_1 : σ1 1 = .string (bs ([44] : List UInt8)) := (o1 1 rfl).trans rfl
    have s5_1 : σ1 5 = .int .i64 1 := (o1 5 rfl).trans rfl
    have X2 : Ext w w1 := (Ext.refl w).trans E1
    refine W_cond (b := (([44] : List UInt8) == p0)) s16_1 (fun hc3 => ?_) (fun hc3 => ?_)
    · skip
      replace hr := bif_t hr hc3
      refine W_seq ?_
      refine W_region rfl ?_
      refine da_op rfl (d_as (v := .int .i64 0) rfl ?_)
      refine da_nil ?_
      refine W_ret ?_
      obtain rfl := Option.some.inj hr
      refine ⟨_, res1 (rv_tmp rfl), ?_⟩
      exact ⟨rfl, X2⟩
    · skip
      replace hr := bif_f hr hc3
      refine W_seq ?_
      refine W_region rfl ?_
      refine da_op rfl (d_mv (v := .int .i64 1) s5_1 ?_)
      refine da_op rfl (d_icmpL (b := true) cEql rfl rfl (by decide) ?_)
      refine da_op rfl (d_as (v := .bool true) rfl ?_)
      refine da_nil ?_
      refine W_true rfl ?_
      refine W_seq ?_
      refine W_region rfl ?_
      refine da_op rfl (d_mv (v := .string (bs p0)) s0_1 ?_)
      refine da_op rfl (d_mv (v := .string (bs ([44] : List UInt8))) s1_1 ?_)
      obtain ⟨m4, hm4, hr⟩ := bind_out hr
      refine da_op rfl (d_sidx un9 rfl rfl hm4 ?_)
      obtain ⟨m5, hm5, hr⟩ := letv_out hr
      refine da_op rfl (d_cl (vs := [.string (bs p0), .int .u8 m4]) en117 (ac rfl (ac rfl rfl)) rfl ?_)
      refine (c117 p0 m4 m5 w1 hm5 ).mono ?_
      rintro _ w6 ⟨rfl, E6⟩
      refine ⟨_, rfl, ?_⟩
      have X7 : Ext w w6 := X2.trans E6
      refine da_op rfl (d_as (v := .int .i64 m5) rfl ?_)
      refine da_nil ?_
      refine W_ret ?_
      obtain rfl := Option.some.inj hr
      refine ⟨_, res1 (rv_tmp rfl), ?_⟩
      exact ⟨rfl, X7⟩
set_option maxHeartbeats 4000000 in
theorem c113_s2c (p0 : List UInt8) (r : Int) (w : World) (hr : M.strings_Index_s2c p0 = some r)  :
    Calls Tryd.prog 113 #[.string (bs p0), .string (bs ([44] : List UInt8))] w fun e w' => e = .returned (.int .i64 r) ∧ Ext w w' := by
  refine calls_of_W Tryd.func113 rfl (Nat.le_of_ble_eq_true rfl) ?_
  refine W_seq ?_
  refine W_region rfl ?_
  refine da_op rfl (d_as (v := .int .i64 0) rfl ?_)
  refine da_nil ?_
  refine W_seq ?_
  refine W_region rfl ?_
  refine da_op rfl (d_mv (v := .string (bs p0)) rfl ?_)
  refine da_op rfl (d_mv (v := .string (bs ([44] : List UInt8))) rfl ?_)
  obtain ⟨m1, hm1, hr⟩ := bind_out hr
  refine da_op rfl (d_cl (vs := [.string (bs p0), .string (bs ([44] : List UInt8))]) en165 (ac rfl (ac rfl rfl)) rfl ?_)
  refine (c165_s2c p0 m1 w hm1 ).mono ?_
  rintro _ w2 ⟨rfl, E2⟩
  refine ⟨_, rfl, ?_⟩
  have X3 : Ext w w2 := (Ext.refl w).trans E2
  refine da_op rfl (d_as (v := .int .i64 m1) rfl ?_)
  refine da_nil ?_
  refine W_ret ?_
  obtain rfl := Option.some.inj hr
  refine ⟨_, res1 (rv_tmp rfl), ?_⟩
  exact ⟨rfl, X3⟩
set_option maxHeartbeats 4000000 in
theorem c122_s2c_i64n0_i64m1 (p0 : List UInt8) (r : List (List UInt8)) (w : World) (hr : M.strings_genSplit_s2c_i64n0_i64m1 p0 = some r)  :
    Calls Tryd.prog 122 #[.string (bs p0), .string (bs ([44] : List UInt8)), .int .i64 0, .int .i64 (-1)] w fun e w' => ∃ q0a : Option Addr, ∃ q0n : Nat, ∃ q0c : Nat, e = .returned ((Value.slice q0a q0n q0c)) ∧ RS w' encS (Value.slice q0a q0n q0c) r ∧ (∀ k, (Value.slice q0a q0n q0c).ownBlock = some k → w.heap.size ≤ k) ∧ Ext w w' := by
  refine calls_of_W Tryd.func122 rfl (Nat.le_of_ble_eq_true rfl) ?_
  refine W_seq ?_
  refine W_region rfl ?_
  refine da_op rfl (d_as (v := .slice none 0 0) rfl ?_)
  refine da_nil ?_
  refine W_seq ?_
  refine W_seq ?_
  refine W_region rfl ?_
  refine da_op rfl (d_mv (v := .int .i64 (-1)) rfl ?_)
  refine da_op rfl (d_icmpL (b := false) cEql rfl rfl (by decide) ?_)
  refine da_nil ?_
  refine W_false rfl ?_
  refine W_skip ?_
  refine W_seq ?_
  refine W_seq ?_
  refine W_region rfl ?_
  refine da_op rfl (d_mv (v := .string (bs ([44] : List UInt8))) rfl ?_)
  refine da_op rfl (d_seqL (b := false) rfl rfl (by decide) ?_)
  refine da_nil ?_
  refine W_false rfl ?_
  refine W_skip ?_
  refine W_seq ?_
  refine W_seq ?_
  refine W_region rfl ?_
  refine da_op rfl (d_mv (v := .int .i64 (-1)) rfl ?_)
  refine da_op rfl (d_icmpL (b := true) cLss rfl rfl (by decide) ?_)
  refine da_nil ?_
  refine W_true rfl ?_
  refine W_region rfl ?_
  refine da_op rfl (d_mv (v := .string (bs p0)) rfl ?_)
  refine da_op rfl (d_mv (v := .string (bs ([44] : List UInt8))) rfl ?_)
  obtain ⟨m1, hm1, hr⟩ := bind_out hr
  refine da_op rfl (d_cl (vs := [.string (bs p0), .string (bs ([44] : List UInt8))]) en171 (ac rfl (ac rfl rfl)) rfl ?_)
  refine (c171_s2c p0 m1 w hm1 ).mono ?_
  rintro _ w2 ⟨rfl, E2⟩
  refine ⟨_, rfl, ?_⟩
  have X3 : Ext w w2 := (Ext.refl w).trans E2
  refine da_op rfl (d_iarith rfl rfl (.inl ⟨rfl, rfl⟩) ?_)
  refine da_op rfl (d_as (v := .int .i64 (IntKind.i64.wrap (m1 + 1))) rfl ?_)
  refine da_nil ?_
  refine W_seq ?_
  refine W_region rfl ?_
  refine da_op rfl (d_mv (v := .int .i64 (IntKind.i64.wrap (m1 + 1))) rfl ?_)
  refine da_op rfl (d_mv (v := .string (bs p0)) rfl ?_)
  refine da_op rfl (d_slen un9 rfl ?_)
  refine da_op rfl (d_iarith rfl rfl (.inl ⟨rfl, rfl⟩) ?_)
  refine da_op rfl (d_min rfl rfl ?_)
  refine da_op rfl (d_as (v := .int .i64 (imin (IntKind.i64.wrap (m1 + 1)) (IntKind.i64.wrap (((p0).length : Int) + 1)))) rfl ?_)
  refine da_nil ?_
  refine W_seq ?_
  refine W_region rfl ?_
  refine da_op rfl (d_mv (v := .int .i64 (imin (IntKind.i64.wrap (m1 + 1)) (IntKind.i64.wrap (((p0).length : Int) + 1)))) rfl ?_)
  obtain ⟨m4, hm4, hr⟩ := bind_out hr
  refine da_op rfl (d_make (e := encS) un34 info9 rfl (by kernel_rfl) (by kernel_rfl) (by decide) (by decide) rfl rfl hm4 fun v5 w5 O5 E5 fr5 => ?_)
  obtain ⟨v5pa, v5pn, v5pc, rfl⟩ := O5.vals
  have own5 : ∀ k, (Value.slice v5pa v5pn v5pc).ownBlock = some k → w.heap.size ≤ k := fun k hk => Nat.le_trans X3.size (fr5 k hk)
  have X6 : Ext w w5 := X3.trans E5
  refine da_op rfl (d_as (v := (Value.slice v5pa v5pn v5pc)) rfl ?_)
  refine da_nil ?_
  refine W_seq ?_
  refine W_region rfl ?_
  refine da_op rfl (d_mv (v := .int .i64 (imin (IntKind.i64.wrap (m1 + 1)) (IntKind.i64.wrap (((p0).length : Int) + 1)))) rfl ?_)
  refine da_op rfl (d_iarith rfl rfl (.inr (.inl ⟨rfl, rfl⟩)) ?_)
  refine da_op rfl (d_as (v := .int .i64 (IntKind.i64.wrap ((imin (IntKind.i64.wrap (m1 + 1)) (IntKind.i64.wrap (((p0).length : Int) + 1))) - 1))) rfl ?_)
  refine da_nil ?_
  refine W_seq ?_
  refine W_region rfl ?_
  refine da_op rfl (d_as (v := .int .i64 0) rfl ?_)
  refine da_nil ?_
  refine W_seq ?_
  refine W_block ?_
  obtain ⟨m7, hm7, hr⟩ := bind_out hr
  refine W_loopM hm7 (fun (s7 : List UInt8 × Int × List (List UInt8)) σ w' => σ 0 = .string (bs s7.1) ∧ σ 10 = .int .i64 s7.2.1 ∧ σ 1 = .string (bs ([44] : List UInt8)) ∧ σ 2 = .int .i64 0 ∧ σ 3 = .int .i64 (IntKind.i64.wrap ((imin (IntKind.i64.wrap (m1 + 1)) (IntKind.i64.wrap (((p0).length : Int) + 1))) - 1)) ∧ σ 9 = (Value.slice v5pa v5pn v5pc) ∧ OS w' 9 encS (Value.slice v5pa v5pn v5pc) s7.2.2 ∧ Ext w w') (fun (e7 : (List UInt8 × Int × List (List UInt8))) ex σ w' => ex = .exit 0 ∧ σ 0 = .string (bs e7.1) ∧ σ 10 = .int .i64 e7.2.1 ∧ σ 9 = (Value.slice v5pa v5pn v5pc) ∧ OS w' 9 encS (Value.slice v5pa v5pn v5pc) e7.2.2 ∧ Ext w w') ⟨rfl, rfl, rfl, rfl, rfl, rfl, O5, X6⟩ ?_ ?_
  · skip
    rintro s7 σl7 wl7 r7l ⟨i7_S0, i7_S10, i7_S1, i7_S2, i7_S3, i7_S9, i7_2R, i7_X⟩ hr
    refine W_seq ?_
    refine W_seq ?_
    refine W_region rfl ?_
    refine da_op rfl (d_mv (v := .int .i64 s7.2.1) i7_S10 ?_)
    refine da_op rfl (d_mv (v := .int .i64 (IntKind.i64.wrap ((imin (IntKind.i64.wrap (m1 + 1)) (IntKind.i64.wrap (((p0).length : Int) + 1))) - 1))) i7_S3 ?_)
    refine da_op rfl (d_icmp cLss rfl rfl ?_)
    refine da_nil ?_
    refine W_cond (b := (icmp .lss s7.2.1 (IntKind.i64.wrap ((imin (IntKind.i64.wrap (m1 + 1)) (IntKind.i64.wrap (((p0).length : Int) + 1))) - 1)))) rfl (fun hc8 => ?_) (fun hc8 => ?_)
    · skip
      replace hr := bif_t hr hc8
      refine W_skip ?_
      refine W_block ?_
      refine W_seq ?_
      refine W_region rfl ?_
      refine da_op rfl (d_mv (v := .string (bs s7.1)) i7_S0 ?_)
      refine da_op rfl (d_mv (v := .string (bs ([44] : List UInt8))) i7_S1 ?_)
      obtain ⟨m9, hm9, hr⟩ := bind_out hr
      refine da_op rfl (d_cl (vs := [.string (bs s7.1), .string (bs ([44] : List UInt8))]) en113 (ac rfl (ac rfl rfl)) rfl ?_)
      refine (c113_s2c s7.1 m9 wl7 hm9 ).mono ?_
      rintro _ w10 ⟨rfl, E10⟩
      refine ⟨_, rfl, ?_⟩
      have X11 : Ext w w10 := i7_X.trans E10
      refine da_op rfl (d_as (v := .int .i64 m9) rfl ?_)
      refine da_nil ?_
      refine W_seq ?_
      refine W_seq ?_
      refine W_region rfl ?_
      refine da_op rfl (d_mv (v := .int .i64 m9) rfl ?_)
      refine da_op rfl (d_icmp cLss rfl rfl ?_)
      refine da_nil ?_
      refine W_cond (b := (icmp .lss m9 0)) rfl (fun hc12 => ?_) (fun hc12 => ?_)
      · skip
        replace hr := bif_t hr hc12
        refine W_exit ?_
        have B13 : OS w10 9 encS (Value.slice v5pa v5pn v5pc) s7.2.2 := i7_2R.ext E10
        obtain rfl := Option.some.inj hr
        exact ⟨_, rfl, rfl, i7_S0, i7_S10, i7_S9, B13, X11⟩
      · skip
        replace hr := bif_f hr hc12
        refine W_skip ?_
        refine W_seq ?_
        refine W_region rfl ?_
        refine da_op rfl (d_mv (v := (Value.slice v5pa v5pn v5pc)) i7_S9 ?_)
        refine da_op rfl (d_mv (v := .int .i64 s7.2.1) i7_S10 ?_)
        refine da_op rfl (d_mv (v := .string (bs s7.1)) i7_S0 ?_)
        refine da_op rfl (d_mv (v := .int .i64 m9) rfl ?_)
        refine da_op rfl (d_mv (v := .int .i64 0) i7_S2 ?_)
        refine da_op rfl (d_iarith rfl rfl (.inl ⟨rfl, rfl⟩) ?_)
        obtain ⟨m14, hm14, hr⟩ := bind_out hr
        refine da_op rfl (d_ssub (a := 0) (b := (IntKind.i64.wrap (m9 + 0))) un9 rfl (.inl ⟨rfl, rfl⟩) (.inr ⟨_, _, rfl, rfl⟩) hm14 ?_)
        obtain ⟨m15, hm15, hr⟩ := bind_out hr
        have B17 : OS w10 9 encS (Value.slice v5pa v5pn v5pc) s7.2.2 := i7_2R.ext E10
        refine da_op rfl (d_indexO (e := encS) (v := (Value.slice v5pa v5pn v5pc)) un34 size9 rfl rfl B17 hm15 fun g16 fr16 cu16 vs16 hv16 hg16 hp16 hq16 => ?_)
        obtain rfl := dec_encS hq16
        refine da_op rfl (d_store_elem (e := encS) (i := s7.2.1) (k := 0) (old := [.string (bs m15)]) (vs := #[.string (bs m14)]) (new := [.string (bs m14)]) (x2 := m14) rfl rfl hv16 B17 hg16 hp16 hm15 size9 (by kernel_rfl) (Nat.le_of_ble_eq_true rfl) rfl rfl (lc_v rfl rfl) rfl fun w18 S18 O19 => ?_)
        have X20 : Ext w w18 := Ext.step X11 S18.frmb (fun k _ hk => own5 k (by rw [hv16, hk]; rfl))
        refine da_nil ?_
        refine W_seq ?_
        refine W_region rfl ?_
        refine da_op rfl (d_mv (v := .string (bs s7.1)) i7_S0 ?_)
        refine da_op rfl (d_mv (v := .int .i64 m9) rfl ?_)
        refine da_op rfl (d_mv (v := .string (bs ([44] : List UInt8))) i7_S1 ?_)
        refine da_op rfl (d_slenL (n := 1) un9 rfl rfl ?_)
        refine da_op rfl (d_iarith rfl rfl (.inl ⟨rfl, rfl⟩) ?_)
        obtain ⟨m21, hm21, hr⟩ := bind_out hr
        refine da_op rfl (d_ssub (a := (IntKind.i64.wrap (m9 + 1))) (b := ((s7.1).length : Int)) un9 rfl (.inr ⟨_, _, rfl, rfl⟩) (.inl ⟨rfl, rfl⟩) hm21 ?_)
        refine da_op rfl (d_as (v := .string (bs m21)) rfl ?_)
        refine da_nil ?_
        refine W_region rfl ?_
        refine da_op rfl (d_mv (v := .int .i64 s7.2.1) i7_S10 ?_)
        refine da_op rfl (d_iarith rfl rfl (.inl ⟨rfl, rfl⟩) ?_)
        refine da_op rfl (d_as (v := .int .i64 (IntKind.i64.wrap (s7.2.1 + 1))) rfl ?_)
        refine da_nil ?_
        obtain rfl := Option.some.inj hr
        exact ⟨_, rfl, ⟨rfl, rfl, i7_S1, i7_S2, i7_S3, i7_S9, O19, X20⟩⟩
    · skip
      replace hr := bif_f hr hc8
      refine W_exit ?_
      obtain rfl := Option.some.inj hr
      exact ⟨_, rfl, rfl, i7_S0, i7_S10, i7_S9, i7_2R, i7_X⟩
  · skip
    intro ex σx7 wx7 hq
    obtain ⟨rfl, q7_0_S0, q7_0_S10, q7_0_S9, q7_0_2R, q7_0_X⟩ := hq
    refine W_seq ?_
    refine W_region rfl ?_
    refine da_op rfl (d_mv (v := (Value.slice v5pa v5pn v5pc)) q7_0_S9 ?_)
    refine da_op rfl (d_mv (v := .int .i64 m7.2.1) q7_0_S10 ?_)
    refine da_op rfl (d_mv (v := .string (bs m7.1)) q7_0_S0 ?_)
    obtain ⟨m22, hm22, hr⟩ := bind_out hr
    refine da_op rfl (d_indexO (e := encS) (v := (Value.slice v5pa v5pn v5pc)) un34 size9 rfl rfl q7_0_2R hm22 fun g23 fr23 cu23 vs23 hv23 hg23 hp23 hq23 => ?_)
    obtain rfl := dec_encS hq23
    refine da_op rfl (d_store_elem (e := encS) (i := m7.2.1) (k := 0) (old := [.string (bs m22)]) (vs := #[.string (bs m7.1)]) (new := [.string (bs m7.1)]) (x2 := m7.1) rfl rfl hv23 q7_0_2R hg23 hp23 hm22 size9 (by kernel_rfl) (Nat.le_of_ble_eq_true rfl) rfl rfl (lc_v rfl rfl) rfl fun w24 S24 O25 => ?_)
    have X26 : Ext w w24 := Ext.step q7_0_X S24.frmb (fun k _ hk => own5 k (by rw [hv23, hk]; rfl))
    refine da_nil ?_
    refine W_seq ?_
    refine W_region rfl ?_
    refine da_op rfl (d_mv (v := (Value.slice v5pa v5pn v5pc)) q7_0_S9 ?_)
    refine da_op rfl (d_mv (v := .int .i64 m7.2.1) q7_0_S10 ?_)
    refine da_op rfl (d_iarith rfl rfl (.inl ⟨rfl, rfl⟩) ?_)
    obtain ⟨m27, hm27, hr⟩ := bind_out hr
    refine da_op rfl (d_lsub (e := encS) (v := (Value.slice v5pa v5pn v5pc)) (a := 0) (b := (IntKind.i64.wrap (m7.2.1 + 1))) un34 size9 rfl O25.rs (.inl ⟨rfl, rfl⟩) (.inr ⟨_, _, rfl, rfl⟩) hm27 fun v28 R28 L28 => ?_)
    obtain ⟨v28pa, v28pn, v28pc, rfl⟩ := R28.vals
    refine da_op rfl (d_as (v := (Value.slice v28pa v28pn v28pc)) rfl ?_)
    refine da_nil ?_
    refine W_ret ?_
    obtain rfl := Option.some.inj hr
    refine ⟨_, res1 (rv_tmp rfl), ?_⟩
    exact ⟨v28pa, v28pn, v28pc, rfl, R28, (fun k hk => own5 k (L28 k hk)), X26⟩
set_option maxHeartbeats 4000000 in
theorem c66_s2c (p0 : List UInt8) (r : List (List UInt8)) (w : World) (hr : M.strings_Split_s2c p0 = some r)  :
    Calls Tryd.prog 66 #[.string (bs p0), .string (bs ([44] : List UInt8))] w fun e w' => ∃ q0a : Option Addr, ∃ q0n : Nat, ∃ q0c : Nat, e = .returned ((Value.slice q0a q0n q0c)) ∧ RS w' encS (Value.slice q0a q0n q0c) r ∧ (∀ k, (Value.slice q0a q0n q0c).ownBlock = some k → w.heap.size ≤ k) ∧ Ext w w' := by
  refine calls_of_W Tryd.func66 rfl (Nat.le_of_ble_eq_true rfl) ?_
  refine W_seq ?_
  refine W_region rfl ?_
  refine da_op rfl (d_as (v := .slice none 0 0) rfl ?_)
  refine da_nil ?_
  refine W_seq ?_
  refine W_region rfl ?_
  refine da_op rfl (d_mv (v := .string (bs p0)) rfl ?_)
  refine da_op rfl (d_mv (v := .string (bs ([44] : List UInt8))) rfl ?_)
  obtain ⟨m1, hm1, hr⟩ := bind_out hr
  refine da_op rfl (d_cl (vs := [.string (bs p0), .string (bs ([44] : List UInt8)), .int .i64 0, .int .i64 (-1)]) en122 (ac rfl (ac rfl (ac rfl (ac rfl rfl)))) rfl ?_)
  refine (c122_s2c_i64n0_i64m1 p0 m1 w hm1 ).mono ?_
  rintro _ w2 ⟨q2_0a, q2_0n, q2_0c, rfl, q2_0R, q2_0F, E2⟩
  refine ⟨_, rfl, ?_⟩
  have own3 : ∀ k, (Value.slice q2_0a q2_0n q2_0c).ownBlock = some k → w.heap.size ≤ k := fun k hk => Nat.le_trans (Ext.refl w).size (q2_0F k hk)
  have X4 : Ext w w2 := (Ext.refl w).trans E2
  refine da_op rfl (d_as (v := (Value.slice q2_0a q2_0n q2_0c)) rfl ?_)
  refine da_nil ?_
  refine W_ret ?_
  obtain rfl := Option.some.inj hr
  refine ⟨_, res1 (rv_tmp rfl), ?_⟩
  exact ⟨q2_0a, q2_0n, q2_0c, rfl, q2_0R, own3, X4⟩
set_option maxHeartbeats 4000000 in
theorem c100 (p0 : List UInt8) (r : List (List UInt8)) (w : World) (hr : M.impl_parted p0 = some r)  :
    Calls Tryd.prog 100 #[.string (bs p0)] w fun e w' => ∃ q0a : Option Addr, ∃ q0n : Nat, ∃ q0c : Nat, e = .returned ((Value.slice q0a q0n q0c)) ∧ RS w' encS (Value.slice q0a q0n q0c) r ∧ (∀ k, (Value.slice q0a q0n q0c).ownBlock = some k → w.heap.size ≤ k) ∧ Ext w w' := by
  refine calls_of_W Tryd.func100 rfl (Nat.le_of_ble_eq_true rfl) ?_
  refine W_seq ?_
  refine W_region rfl ?_
  refine da_op rfl (d_as (v := .slice none 0 0) rfl ?_)
  refine da_nil ?_
  refine W_seq ?_
  refine W_seq ?_
  refine W_region rfl ?_
  refine da_op rfl (d_mv (v := .string (bs p0)) rfl ?_)
  refine da_op rfl (d_seq rfl rfl ?_)
  refine da_nil ?_
  refine W_cond (b := (p0 == ([110, 111, 110, 101] : List UInt8))) rfl (fun hc1 => ?_) (fun hc1 => ?_)
  · skip
    replace hr := bif_t hr hc1
    refine W_seq ?_
    refine W_region rfl ?_
    refine da_op rfl (d_as (v := .slice none 0 0) rfl ?_)
    refine da_nil ?_
    refine W_ret ?_
    obtain rfl := Option.some.inj hr
    refine ⟨_, res1 (rv_tmp rfl), ?_⟩
    exact ⟨none, 0, 0, rfl, (RS.nil _ encS), (fun k hk => by cases hk), (Ext.refl w)⟩
  · skip
    replace hr := bif_f hr hc1
    refine W_skip ?_
    refine W_seq ?_
    refine W_region rfl ?_
    refine da_op rfl (d_mv (v := .string (bs p0)) rfl ?_)
    obtain ⟨m2, hm2, hr⟩ := bind_out hr
    refine da_op rfl (d_cl (vs := [.string (bs p0), .string (bs ([44] : List UInt8))]) en66 (ac rfl (ac rfl rfl)) rfl ?_)
    refine (c66_s2c p0 m2 w hm2 ).mono ?_
    rintro _ w3 ⟨q3_0a, q3_0n, q3_0c, rfl, q3_0R, q3_0F, E3⟩
    refine ⟨_, rfl, ?_⟩
    have own4 : ∀ k, (Value.slice q3_0a q3_0n q3_0c).ownBlock = some k → w.heap.size ≤ k := fun k hk => Nat.le_trans (Ext.refl w).size (q3_0F k hk)
    have X5 : Ext w w3 := (Ext.refl w).trans E3
    refine da_op rfl (d_as (v := (Value.slice q3_0a q3_0n q3_0c)) rfl ?_)
    refine da_nil ?_
    refine W_ret ?_
    obtain rfl := Option.some.inj hr
    refine ⟨_, res1 (rv_tmp rfl), ?_⟩
    exact ⟨q3_0a, q3_0n, q3_0c, rfl, q3_0R, own4, X5⟩
set_option maxHeartbeats 4000000 in
theorem c117_s30313233343536373839616263646566 (p1 : Int) (r : Int) (w : World) (hr : M.internal_stringslite_IndexByte_s30313233343536373839616263646566 p1 = r)  :
    Calls Tryd.prog 117 #[.string (bs ([48, 49, 50, 51, 52, 53, 54, 55, 56, 57, 97, 98, 99, 100, 101, 102] : List UInt8)), .int .u8 p1] w fun e w' => e = .returned (.int .i64 r) ∧ Ext w w' := by
  refine calls_of_W Tryd.func117 rfl (Nat.le_of_ble_eq_true rfl) ?_
  refine W_seq ?_
  refine W_region rfl ?_
  refine da_op rfl (d_as (v := .int .i64 0) rfl ?_)
  refine da_nil ?_
  refine W_seq ?_
  refine W_region rfl ?_
  refine da_op rfl (d_mv (v := .string (bs ([48, 49, 50, 51, 52, 53, 54, 55, 56, 57, 97, 98, 99, 100, 101, 102] : List UInt8))) rfl ?_)
  refine da_op rfl (d_mv (v := .int .u8 p1) rfl ?_)
  refine da_op rfl (d_sfind ext168_0 ext168_1 ext168_2 (Option.isNone_iff_eq_none.1 ext168_3) ext168_4 rfl rfl rfl ?_)
  refine da_op rfl (d_as (v := .int .i64 (sfind ([48, 49, 50, 51, 52, 53, 54, 55, 56, 57, 97, 98, 99, 100, 101, 102] : List UInt8) p1)) rfl ?_)
  refine da_nil ?_
  refine W_ret ?_
  subst hr
  refine ⟨_, res1 (rv_tmp rfl), ?_⟩
  exact ⟨rfl, (Ext.refl w)⟩
set_option maxHeartbeats 4000000 in
theorem c62_s30313233343536373839616263646566 (p1 : Int) (r : Int) (w : World) (hr : M.strings_IndexByte_s30313233343536373839616263646566 p1 = r)  :
    Calls Tryd.prog 62 #[.string (bs ([48, 49, 50, 51, 52, 53, 54, 55, 56, 57, 97, 98, 99, 100, 101, 102] : List UInt8)), .int .u8 p1] w fun e w' => e = .returned (.int .i64 r) ∧ Ext w w' := by
  refine calls_of_W Tryd.func62 rfl (Nat.le_of_ble_eq_true rfl) ?_
  refine W_seq ?_
  refine W_region rfl ?_
  refine da_op rfl (d_as (v := .int .i64 0) rfl ?_)
  refine da_nil ?_
  refine W_seq ?_
  refine W_region rfl ?_
  refine da_op rfl (d_mv (v := .string (bs ([48, 49, 50, 51, 52, 53, 54, 55, 56, 57, 97, 98, 99, 100, 101, 102] : List UInt8))) rfl ?_)
  refine da_op rfl (d_mv (v := .int .u8 p1) rfl ?_)
  obtain ⟨m1, hm1, hr⟩ := letv_out hr
  refine da_op rfl (d_cl (vs := [.string (bs ([48, 49, 50, 51, 52, 53, 54, 55, 56, 57, 97, 98, 99, 100, 101, 102] : List UInt8)), .int .u8 p1]) en117 (ac rfl (ac rfl rfl)) rfl ?_)
  refine (c117_s30313233343536373839616263646566 p1 m1 w hm1 ).mono ?_
  rintro _ w2 ⟨rfl, E2⟩
  refine ⟨_, rfl, ?_⟩
  have X3 : Ext w w2 := (Ext.refl w).trans E2
  refine da_op rfl (d_as (v := .int .i64 m1) rfl ?_)
  refine da_nil ?_
  refine W_ret ?_
  subst hr
  refine ⟨_, res1 (rv_tmp rfl), ?_⟩
  exact ⟨rfl, X3⟩
set_option maxHeartbeats 4000000 in
theorem c103 (p0 : Int) (p1 : Int) (p2 : Int) (r : Bool) (w : World) (hr : M.impl_in p0 p1 p2 = r)  :
    Calls Tryd.prog 103 #[.int .i64 p0, .int .i64 p1, .int .i64 p2] w fun e w' => e = .returned (.bool r) ∧ Ext w w' := by
  refine calls_of_W Tryd.func103 rfl (Nat.le_of_ble_eq_true rfl) ?_
  refine W_seq ?_
  refine W_region rfl ?_
  refine da_op rfl (d_as (v := .bool false) rfl ?_)
  refine da_nil ?_
  refine W_seq ?_
  obtain ⟨m1, hm1, hr⟩ := letv_out hr
  refine W_cut (fun σ' w' => σ' 6 = .bool m1 ∧ Ext w w') rfl ?_ ?_
  · skip
    have hr := hm1
    refine da_op rfl (d_mv (v := .int .i64 p0) rfl ?_)
    refine da_op rfl (d_mv (v := .int .i64 p1) rfl ?_)
    refine da_op rfl (d_icmp cGeq rfl rfl ?_)
    refine da_op rfl (d_mv (v := .bool (icmp .geq p0 p1)) rfl ?_)
    rcases Bool.eq_false_or_eq_true (icmp .geq p0 p1) with hc2 | hc2
    · skip
      replace hr := bif_t hr hc2
      refine da_on rfl (Eq.trans (show sl _ _ _ = .bool (icmp .geq p0 p1) from rfl) (congrArg Value.bool hc2)) (d_mv (v := .int .i64 p0) rfl ?_)
      refine da_on rfl (Eq.trans (show sl _ _ _ = .bool (icmp .geq p0 p1) from rfl) (congrArg Value.bool hc2)) (d_mv (v := .int .i64 p2) rfl ?_)
      refine da_on rfl (Eq.trans (show sl _ _ _ = .bool (icmp .geq p0 p1) from rfl) (congrArg Value.bool hc2)) (d_icmp cLeq rfl rfl ?_)
      refine da_op rfl (d_pick (b := true) (Eq.trans (show ev _ _ = .bool (icmp .geq p0 p1) from rfl) (congrArg Value.bool hc2)) ?_)
      refine da_op rfl (d_as (v := .bool (icmp .leq p0 p2)) rfl ?_)
      refine da_nil ?_
      subst hr
      exact ⟨rfl, (Ext.refl w)⟩
    · skip
      replace hr := bif_f hr hc2
      refine da_off rfl (Eq.trans (show sl _ _ _ = .bool (icmp .geq p0 p1) from rfl) (congrArg Value.bool hc2)) (by decide) ?_
      refine da_off rfl (Eq.trans (show sl _ _ _ = .bool (icmp .geq p0 p1) from rfl) (congrArg Value.bool hc2)) (by decide) ?_
      refine da_off rfl (Eq.trans (show sl _ _ _ = .bool (icmp .geq p0 p1) from rfl) (congrArg Value.bool hc2)) (by decide) ?_
      refine da_op rfl (d_pick (b := false) (Eq.trans (show ev _ _ = .bool (icmp .geq p0 p1) from rfl) (congrArg Value.bool hc2)) ?_)
      refine da_op rfl (d_as (v := .bool false) rfl ?_)
      refine da_nil ?_
      subst hr
      exact ⟨rfl, (Ext.refl w)⟩
  · skip
    rintro σ1 w1 o1 ⟨s6_1, E1⟩
    have X3 : Ext w w1 := (Ext.refl w).trans E1
    refine W_ret ?_
    subst hr
    refine ⟨_, res1 (rv_tmp s6_1), ?_⟩
    exact ⟨rfl, X3⟩
set_option maxHeartbeats 4000000 in
theorem c155 (p0 : Int) (r : Nat × Bool) (w : World) (hr : M.impl_FromBits p0 = r)  :
    Calls Tryd.prog 155 #[.int .i64 p0] w fun e w' => ∃ q0r : Nat, e = .returned (.tuple #[.float .f32 q0r, .bool r.2]) ∧ cn .f32 q0r = r.1 ∧ Ext w w' := by
  refine calls_of_W Tryd.func155 rfl (Nat.le_of_ble_eq_true rfl) ?_
  refine W_seq ?_
  refine W_region rfl ?_
  refine da_op rfl (d_as (v := .float .f32 0) rfl ?_)
  refine da_op rfl (d_as (v := .bool false) rfl ?_)
  refine da_nil ?_
  refine W_seq ?_
  refine W_seq ?_
  refine W_region rfl ?_
  refine da_op rfl (d_mv (v := .int .i64 p0) rfl ?_)
  obtain ⟨m1, hm1, hr⟩ := letv_out hr
  refine da_op rfl (d_cl (vs := [.int .i64 p0, .int .i64 0, .int .i64 4294967295]) en103 (ac rfl (ac rfl (ac rfl rfl))) rfl ?_)
  refine (c103 p0 0 4294967295 m1 w hm1 ).mono ?_
  rintro _ w2 ⟨rfl, E2⟩
  refine ⟨_, rfl, ?_⟩
  have X3 : Ext w w2 := (Ext.refl w).trans E2
  refine da_op rfl (d_not rfl ?_)
  refine da_nil ?_
  refine W_cond (b := (!m1)) rfl (fun hc4 => ?_) (fun hc4 => ?_)
  · skip
    replace hr := bif_t hr hc4
    refine W_seq ?_
    refine W_region rfl ?_
    refine da_op rfl (d_as (v := .float .f32 0) rfl ?_)
    refine da_op rfl (d_as (v := .bool false) rfl ?_)
    refine da_nil ?_
    refine W_ret ?_
    subst hr
    refine ⟨_, res2 (rv_tmp rfl) (rv_tmp rfl), ?_⟩
    exact ⟨0, rfl, cn_f32_0, X3⟩
  · skip
    replace hr := bif_f hr hc4
    refine W_skip ?_
    refine W_seq ?_
    refine W_region rfl ?_
    refine da_op rfl (d_mv (v := .int .i64 p0) rfl ?_)
    refine da_op rfl (d_iconv un2 un193 rfl ?_)
    refine da_op rfl (d_f32from ext186_0 ext186_1 ext186_2 (Option.isNone_iff_eq_none.1 ext186_3) ext186_4 rfl rfl ?_)
    refine da_op rfl (d_as (v := .float .f32 ((IntKind.u32.wrap p0)).toNat) rfl ?_)
    refine da_op rfl (d_as (v := .bool true) rfl ?_)
    refine da_nil ?_
    refine W_ret ?_
    subst hr
    refine ⟨_, res2 (rv_tmp rfl) (rv_tmp rfl), ?_⟩
    exact ⟨((IntKind.u32.wrap p0)).toNat, rfl, rfl, X3⟩
set_option maxHeartbeats 4000000 in
theorem c101 (p0 : List UInt8) (r : Nat × Bool) (w : World) (hr : M.impl_readNumber p0 = some r)  :
    Calls Tryd.prog 101 #[.string (bs p0)] w fun e w' => ∃ q0r : Nat, e = .returned (.tuple #[.float .f32 q0r, .bool r.2]) ∧ cn .f32 q0r = r.1 ∧ Ext w w' := by
  refine calls_of_W Tryd.func101 rfl (Nat.le_of_ble_eq_true rfl) ?_
  refine W_seq ?_
  refine W_region rfl ?_
  refine da_op rfl (d_as (v := .float .f32 0) rfl ?_)
  refine da_op rfl (d_as (v := .bool false) rfl ?_)
  refine da_nil ?_
  refine W_seq ?_
  refine W_region rfl ?_
  refine da_op rfl (d_as (v := .int .i64 0) rfl ?_)
  refine da_nil ?_
  refine W_seq ?_
  refine W_seq ?_
  refine W_region rfl ?_
  refine da_op rfl (d_mv (v := .string (bs p0)) rfl ?_)
  refine da_op rfl (d_slen un9 rfl ?_)
  refine da_op rfl (d_mv (v := .int .i64 0) rfl ?_)
  refine da_nil ?_
  refine W_block ?_
  obtain ⟨m1, hm1, hr⟩ := bind_out hr
  refine W_loopM hm1 (fun (s1 : Int × Int) σ w' => σ 4 = .int .i64 s1.1 ∧ σ 11 = .int .i64 s1.2 ∧ σ 0 = .string (bs p0) ∧ σ 10 = .int .i64 ((p0).length : Int) ∧ Ext w w') (fun (e1 : (Int ⊕ (Nat × Bool))) ex σ w' => sel e1 (fun e1 => ex = .exit 0 ∧ σ 4 = .int .i64 e1 ∧ σ 0 = .string (bs p0) ∧ Ext w w') (fun e1 => ex = .ret ∧ ∃ q1_1_0r : Nat, σ 2 = .float .f32 q1_1_0r ∧ σ 3 = .bool e1.2 ∧ cn .f32 q1_1_0r = e1.1 ∧ Ext w w')) ⟨rfl, rfl, rfl, rfl, (Ext.refl w)⟩ ?_ ?_
  · skip
    rintro s1 σl1 wl1 r1l ⟨i1_S4, i1_S11, i1_S0, i1_S10, i1_X⟩ hr
    refine W_seq ?_
    refine W_region rfl ?_
    refine da_op rfl (d_icmp cLss i1_S11 i1_S10 ?_)
    refine da_nil ?_
    refine W_seq ?_
    refine W_cond (b := (icmp .lss s1.2 ((p0).length : Int))) rfl (fun hc2 => ?_) (fun hc2 => ?_)
    · skip
      replace hr := bif_t hr hc2
      refine W_skip ?_
      refine W_seq ?_
      refine W_block ?_
      refine W_seq ?_
      refine W_region rfl ?_
      refine da_op rfl (d_mv (v := .int .i64 s1.2) i1_S11 ?_)
      refine da_op rfl (d_as (v := .int .i64 s1.2) rfl ?_)
      refine da_nil ?_
      refine W_seq ?_
      refine W_region rfl ?_
      refine da_op rfl (d_mv (v := .string (bs p0)) i1_S0 ?_)
      refine da_op rfl (d_mv (v := .int .i64 s1.2) rfl ?_)
      obtain ⟨m3, hm3, hr⟩ := bind_out hr
      refine da_op rfl (d_sidx un9 rfl rfl hm3 ?_)
      obtain ⟨m4, hm4, hr⟩ := letv_out hr
      refine da_op rfl (d_cl (vs := [.string (bs ([48, 49, 50, 51, 52, 53, 54, 55, 56, 57, 97, 98, 99, 100, 101, 102] : List UInt8)), .int .u8 m3]) en62 (ac rfl (ac rfl rfl)) rfl ?_)
      refine (c62_s30313233343536373839616263646566 m3 m4 wl1 hm4 ).mono ?_
      rintro _ w5 ⟨rfl, E5⟩
      refine ⟨_, rfl, ?_⟩
      have X6 : Ext w w5 := i1_X.trans E5
      refine da_op rfl (d_as (v := .int .i64 m4) rfl ?_)
      refine da_nil ?_
      refine W_seq ?_
      refine W_seq ?_
      obtain ⟨m7, hm7, hr⟩ := letv_out hr
      refine W_cut (fun σ' w' => σ' 23 = .bool m7 ∧ Ext w5 w') rfl ?_ ?_
      · skip
        have hr := hm7
        refine da_op rfl (d_mv (v := .int .i64 m4) rfl ?_)
        refine da_op rfl (d_icmp cLss rfl rfl ?_)
        refine da_op rfl (d_mv (v := .bool (icmp .lss m4 0)) rfl ?_)
        rcases Bool.eq_false_or_eq_true (icmp .lss m4 0) with hc8 | hc8
        · skip
          replace hr := bif_t hr hc8
          refine da_off rfl (Eq.trans (show sl _ _ _ = .bool (icmp .lss m4 0) from rfl) (congrArg Value.bool hc8)) (by decide) ?_
          refine da_off rfl (Eq.trans (show sl _ _ _ = .bool (icmp .lss m4 0) from rfl) (congrArg Value.bool hc8)) (by decide) ?_
          refine da_op rfl (d_pick (b := true) (Eq.trans (show ev _ _ = .bool (icmp .lss m4 0) from rfl) (congrArg Value.bool hc8)) ?_)
          refine da_nil ?_
          subst hr
          exact ⟨rfl, (Ext.refl w5)⟩
        · skip
          replace hr := bif_f hr hc8
          refine da_on rfl (Eq.trans (show sl _ _ _ = .bool (icmp .lss m4 0) from rfl) (congrArg Value.bool hc8)) (d_mv (v := .int .i64 s1.2) rfl ?_)
          refine da_on rfl (Eq.trans (show sl _ _ _ = .bool (icmp .lss m4 0) from rfl) (congrArg Value.bool hc8)) (d_icmp cEql rfl rfl ?_)
          refine da_op rfl (d_pick (b := false) (Eq.trans (show ev _ _ = .bool (icmp .lss m4 0) from rfl) (congrArg Value.bool hc8)) ?_)
          refine da_nil ?_
          subst hr
          exact ⟨rfl, (Ext.refl w5)⟩
      · skip
        rintro σ7 w7 o7 ⟨s23_7, E7⟩
        have s4_7 : σ7 4 = .int .i64 s1.1 := (o7 4 rfl).trans i1_S4
        have s11_7 : σ7 11 = .int .i64 s1.2 := (o7 11 rfl).trans i1_S11
        have s0_7 : σ7 0 = .string (bs p0) := (o7 0 rfl).trans i1_S0
        have s10_7 : σ7 10 = .int .i64 ((p0).length : Int) := (o7 10 rfl).trans i1_S10
        have s6_7 : σ7 6 = .int .i64 m4 := (o7 6 rfl).trans rfl
        have X9 : Ext w w7 := X6.trans E7
        refine W_cond (b := m7) s23_7 (fun hc10 => ?_) (fun hc10 => ?_)
        · skip
          replace hr := bif_t hr hc10
          refine W_seq ?_
          refine W_region rfl ?_
          refine da_op rfl (d_as (v := .float .f32 0) rfl ?_)
          refine da_op rfl (d_as (v := .bool false) rfl ?_)
          refine da_nil ?_
          refine W_ret ?_
          obtain rfl := Option.some.inj hr
          exact ⟨_, rfl, rfl, 0, rfl, rfl, cn_f32_0, X9⟩
        · skip
          replace hr := bif_f hr hc10
          refine W_skip ?_
          refine W_region rfl ?_
          refine da_op rfl (d_mv (v := .int .i64 s1.1) s4_7 ?_)
          refine da_op rfl (d_iarith rfl rfl (.inr (.inr ⟨rfl, rfl⟩)) ?_)
          refine da_op rfl (d_mv (v := .int .i64 m4) s6_7 ?_)
          refine da_op rfl (d_iarith rfl rfl (.inl ⟨rfl, rfl⟩) ?_)
          refine da_op rfl (d_as (v := .int .i64 (IntKind.i64.wrap ((IntKind.i64.wrap (s1.1 * 16)) + m4))) rfl ?_)
          refine da_nil ?_
          refine W_region rfl ?_
          refine da_op rfl (d_iarith s11_7 rfl (.inl ⟨rfl, rfl⟩) ?_)
          refine da_op rfl (d_mv (v := .int .i64 (IntKind.i64.wrap (s1.2 + 1))) rfl ?_)
          refine da_nil ?_
          obtain rfl := Option.some.inj hr
          exact ⟨_, rfl, ⟨rfl, rfl, s0_7, s10_7, X9⟩⟩
    · skip
      replace hr := bif_f hr hc2
      refine W_exit ?_
      obtain rfl := Option.some.inj hr
      exact ⟨_, rfl, rfl, i1_S4, i1_S0, i1_X⟩
  · skip
    intro ex σx1 wx1 hq
    rcases m1 with m1 | m1
    · skip
      obtain ⟨rfl, q1_0_S4, q1_0_S0, q1_0_X⟩ := hq
      refine W_seq ?_
      refine W_region rfl ?_
      refine da_op rfl (d_mv (v := .int .i64 m1) q1_0_S4 ?_)
      obtain ⟨m11, hm11, hr⟩ := letv_out hr
      refine da_op rfl (d_cl (vs := [.int .i64 m1]) en155 (ac rfl rfl) rfl ?_)
      refine (c155 m1 m11 wx1 hm11 ).mono ?_
      rintro _ w12 ⟨q12_0r, rfl, q12_0h, E12⟩
      refine ⟨_, rfl, ?_⟩
      have X13 : Ext w w12 := q1_0_X.trans E12
      refine da_op rfl (d_mv (v := .tuple #[.float .f32 q12_0r, .bool m11.2]) rfl ?_)
      refine da_op rfl (d_extract (v := .float .f32 q12_0r) rfl rfl ?_)
      refine da_op rfl (d_extract (v := .bool m11.2) rfl rfl ?_)
      refine da_op rfl (d_as (v := .float .f32 q12_0r) rfl ?_)
      refine da_op rfl (d_as (v := .bool m11.2) rfl ?_)
      refine da_nil ?_
      refine W_seq ?_
      obtain ⟨m14, hm14, hr⟩ := letv_out hr
      refine W_cut (fun σ' w' => σ' 2 = .float .f32 q12_0r ∧ σ' 3 = .bool m14 ∧ Ext w12 w') rfl ?_ ?_
      · skip
        have hr := hm14
        refine da_op rfl (d_mv (v := .float .f32 q12_0r) rfl ?_)
        refine da_op rfl (d_mv (v := .string (bs p0)) q1_0_S0 ?_)
        refine da_op rfl (d_slen un9 rfl ?_)
        refine da_op rfl (d_icmp cEql rfl rfl ?_)
        refine da_op rfl (d_mv (v := .bool (icmp .eql ((p0).length : Int) 8)) rfl ?_)
        rcases Bool.eq_false_or_eq_true (icmp .eql ((p0).length : Int) 8) with hc15 | hc15
        · skip
          replace hr := bif_t hr hc15
          refine da_on rfl (Eq.trans (show sl _ _ _ = .bool (icmp .eql ((p0).length : Int) 8) from rfl) (congrArg Value.bool hc15)) (d_mv (v := .float .f32 q12_0r) rfl ?_)
          obtain ⟨m16, hm16, hr⟩ := letv_out hr
          refine da_on rfl (Eq.trans (show sl _ _ _ = .bool (icmp .eql ((p0).length : Int) 8) from rfl) (congrArg Value.bool hc15)) (d_cl (vs := [.float .f32 q12_0r]) en98 (ac rfl rfl) rfl ?_)
          refine (c98 m11.1 q12_0r m16 w12 hm16 q12_0h).mono ?_
          rintro _ w17 ⟨rfl, E17⟩
          refine ⟨_, rfl, ?_⟩
          have X18 : Ext w w17 := X13.trans E17
          refine da_on rfl (Eq.trans (show sl _ _ _ = .bool (icmp .eql ((p0).length : Int) 8) from rfl) (congrArg Value.bool hc15)) (d_mv (v := .int .i64 m1) q1_0_S4 ?_)
          refine da_on rfl (Eq.trans (show sl _ _ _ = .bool (icmp .eql ((p0).length : Int) 8) from rfl) (congrArg Value.bool hc15)) (d_icmp cEql rfl rfl ?_)
          refine da_op rfl (d_pick (b := true) (Eq.trans (show ev _ _ = .bool (icmp .eql ((p0).length : Int) 8) from rfl) (congrArg Value.bool hc15)) ?_)
          refine da_op rfl (d_as (v := .float .f32 q12_0r) rfl ?_)
          refine da_op rfl (d_as (v := .bool (icmp .eql m16 m1)) rfl ?_)
          refine da_nil ?_
          subst hr
          exact ⟨rfl, rfl, (Ext.trans (Ext.refl w12) E17)⟩
        · skip
          replace hr := bif_f hr hc15
          refine da_off rfl (Eq.trans (show sl _ _ _ = .bool (icmp .eql ((p0).length : Int) 8) from rfl) (congrArg Value.bool hc15)) (by decide) ?_
          refine da_off rfl (Eq.trans (show sl _ _ _ = .bool (icmp .eql ((p0).length : Int) 8) from rfl) (congrArg Value.bool hc15)) (by decide) ?_
          refine da_off rfl (Eq.trans (show sl _ _ _ = .bool (icmp .eql ((p0).length : Int) 8) from rfl) (congrArg Value.bool hc15)) (by decide) ?_
          refine da_off rfl (Eq.trans (show sl _ _ _ = .bool (icmp .eql ((p0).length : Int) 8) from rfl) (congrArg Value.bool hc15)) (by decide) ?_
          refine da_op rfl (d_pick (b := false) (Eq.trans (show ev _ _ = .bool (icmp .eql ((p0).length : Int) 8) from rfl) (congrArg Value.bool hc15)) ?_)
          refine da_op rfl (d_as (v := .float .f32 q12_0r) rfl ?_)
          refine da_op rfl (d_as (v := .bool false) rfl ?_)
          refine da_nil ?_
          subst hr
          exact ⟨rfl, rfl, (Ext.refl w12)⟩
      · skip
        rintro σ14 w14 o14 ⟨s2_14, s3_14, E14⟩
        have X19 : Ext w w14 := X13.trans E14
        refine W_ret ?_
        obtain rfl := Option.some.inj hr
        refine ⟨_, res2 (rv_tmp s2_14) (rv_tmp s3_14), ?_⟩
        exact ⟨q12_0r, rfl, q12_0h, X19⟩
    · skip
      obtain ⟨rfl, q1_1_0r, q1_1_S2, q1_1_S3, q1_1_0h, q1_1_X⟩ := hq
      obtain rfl := Option.some.inj hr
      refine ⟨_, res2 (rv_tmp q1_1_S2) (rv_tmp q1_1_S3), ?_⟩
      exact ⟨q1_1_0r, rfl, q1_1_0h, q1_1_X⟩
set_option maxHeartbeats 4000000 in
theorem c43 (p0 : List UInt8) (r : List Nat × Bool) (w : World) (hr : M.impl_ReadNumbers p0 = some r)  :
    Calls Tryd.prog 43 #[.string (bs p0)] w fun e w' => ∃ q0a : Option Addr, ∃ q0n : Nat, ∃ q0c : Nat, e = .returned (.tuple #[(Value.slice q0a q0n q0c), .bool r.2]) ∧ OS w' 22 encF_f32 (Value.slice q0a q0n q0c) r.1 ∧ (∀ k, (Value.slice q0a q0n q0c).ownBlock = some k → w.heap.size ≤ k) ∧ Ext w w' := by
  refine calls_of_W Tryd.func43 rfl (Nat.le_of_ble_eq_true rfl) ?_
  refine W_seq ?_
  refine W_region rfl ?_
  refine da_op rfl (d_as (v := .slice none 0 0) rfl ?_)
  refine da_op rfl (d_as (v := .bool false) rfl ?_)
  refine da_nil ?_
  refine W_seq ?_
  refine W_region rfl ?_
  refine da_op rfl (d_bslice0 un53 size22 fun w1 B1 E1 => ?_)
  have fr1 : ∀ k, (Value.slice (some ⟨w.heap.size, 0, none⟩) 0 0).ownBlock = some k → w.heap.size ≤ k := fun k hk => by cases hk; exact Nat.le_refl _
  have own1 : ∀ k, (Value.slice (some ⟨w.heap.size, 0, none⟩) 0 0).ownBlock = some k → w.heap.size ≤ k := fun k hk => Nat.le_trans (Ext.refl w).size (fr1 k hk)
  have X2 : Ext w w1 := (Ext.refl w).trans E1
  have O1 : OS w1 22 encF_f32 (Value.slice (some ⟨w.heap.size, 0, none⟩) 0 0) ([] : List Nat) := OS.box (xs := ([] : List Nat)) B1 rfl (Nat.le_of_ble_eq_true rfl)
  refine da_op rfl (d_as (v := (Value.slice (some ⟨w.heap.size, 0, none⟩) 0 0)) rfl ?_)
  refine da_nil ?_
  refine W_seq ?_
  refine W_seq ?_
  refine W_region rfl ?_
  refine da_op rfl (d_mv (v := .string (bs p0)) rfl ?_)
  obtain ⟨m3, hm3, hr⟩ := bind_out hr
  refine da_op rfl (d_cl (vs := [.string (bs p0)]) en100 (ac rfl rfl) rfl ?_)
  refine (c100 p0 m3 w1 hm3 ).mono ?_
  rintro _ w4 ⟨q4_0a, q4_0n, q4_0c, rfl, q4_0R, q4_0F, E4⟩
  refine ⟨_, rfl, ?_⟩
  have own5 : ∀ k, (Value.slice q4_0a q4_0n q4_0c).ownBlock = some k → w.heap.size ≤ k := fun k hk => Nat.le_trans X2.size (q4_0F k hk)
  have sp6 : ∀ k, (Value.slice (some ⟨w.heap.size, 0, none⟩) 0 0).ownBlock = some k → ¬ (Value.slice q4_0a q4_0n q4_0c).ownBlock = some k := apart_fresh O1 q4_0F
  have X7 : Ext w w4 := X2.trans E4
  refine da_op rfl (d_len (e := encS) un34 rfl q4_0R ?_)
  refine da_op rfl (d_mv (v := .int .i64 0) rfl ?_)
  refine da_nil ?_
  refine W_block ?_
  have B9 : OS w4 22 encF_f32 (Value.slice (some ⟨w.heap.size, 0, none⟩) 0 0) ([] : List Nat) := O1.ext E4
  obtain ⟨m8, hm8, hr⟩ := bind_out hr
  refine W_loopM hm8 (fun (s8 : List Nat × Int) σ w' => ∃ i8_0a : Option Addr, ∃ i8_0n : Nat, ∃ i8_0c : Nat, σ 4 = (Value.slice i8_0a i8_0n i8_0c) ∧ σ 13 = .int .i64 s8.2 ∧ σ 11 = (Value.slice q4_0a q4_0n q4_0c) ∧ σ 12 = .int .i64 ((m3).length : Int) ∧ OS w' 22 encF_f32 (Value.slice i8_0a i8_0n i8_0c) s8.1 ∧ (∀ k, (Value.slice i8_0a i8_0n i8_0c).ownBlock = some k → w.heap.size ≤ k) ∧ RS w' encS (Value.slice q4_0a q4_0n q4_0c) m3 ∧ (∀ k, (Value.slice q4_0a q4_0n q4_0c).ownBlock = some k → ¬ (Value.slice i8_0a i8_0n i8_0c).ownBlock = some k) ∧ Ext w w') (fun (e8 : ((List Nat) ⊕ (List Nat × Bool))) ex σ w' => sel e8 (fun e8 => ex = .exit 0 ∧ ∃ q8_0_0a : Option Addr, ∃ q8_0_0n : Nat, ∃ q8_0_0c : Nat, σ 4 = (Value.slice q8_0_0a q8_0_0n q8_0_0c) ∧ OS w' 22 encF_f32 (Value.slice q8_0_0a q8_0_0n q8_0_0c) e8 ∧ (∀ k, (Value.slice q8_0_0a q8_0_0n q8_0_0c).ownBlock = some k → w.heap.size ≤ k) ∧ Ext w w') (fun e8 => ex = .ret ∧ ∃ q8_1_0a : Option Addr, ∃ q8_1_0n : Nat, ∃ q8_1_0c : Nat, σ 2 = (Value.slice q8_1_0a q8_1_0n q8_1_0c) ∧ σ 3 = .bool e8.2 ∧ OS w' 22 encF_f32 (Value.slice q8_1_0a q8_1_0n q8_1_0c) e8.1 ∧ (∀ k, (Value.slice q8_1_0a q8_1_0n q8_1_0c).ownBlock = some k → w.heap.size ≤ k) ∧ Ext w w')) ⟨(some ⟨w.heap.size, 0, none⟩), 0, 0, rfl, rfl, rfl, rfl, B9, own1, q4_0R, (apart_symm sp6), X7⟩ ?_ ?_
  · skip
    rintro s8 σl8 wl8 r8l ⟨i8_0a, i8_0n, i8_0c, i8_S4, i8_S13, i8_S11, i8_S12, i8_0R, i8_0O, i8_K0, i8_A0, i8_X⟩ hr
    refine W_seq ?_
    refine W_region rfl ?_
    refine da_op rfl (d_icmp cLss i8_S13 i8_S12 ?_)
    refine da_nil ?_
    refine W_seq ?_
    refine W_cond (b := (icmp .lss s8.2 ((m3).length : Int))) rfl (fun hc10 => ?_) (fun hc10 => ?_)
    · skip
      replace hr := bif_t hr hc10
      refine W_skip ?_
      refine W_seq ?_
      refine W_block ?_
      refine W_seq ?_
      refine W_region rfl ?_
      obtain ⟨m11, hm11, hr⟩ := bind_out hr
      refine da_op rfl (d_index (e := encS) (v := (Value.slice q4_0a q4_0n q4_0c)) un34 size9 i8_S11 i8_S13 i8_K0 hm11 fun g12 o12 cu12 T12 fr12 vs12 hv12 hg12 hp12 hq12 => ?_)
      obtain rfl := dec_encS hq12
      refine da_op rfl (d_load (v := .string (bs m11)) rfl agg9 hg12 (sub_get (vs := #[.string (bs m11)]) hp12 (i := 0) rfl) ?_)
      refine da_op rfl (d_as (v := .string (bs m11)) rfl ?_)
      refine da_nil ?_
      refine W_seq ?_
      refine W_region rfl ?_
      refine da_op rfl (d_mv (v := .string (bs m11)) rfl ?_)
      obtain ⟨m13, hm13, hr⟩ := bind_out hr
      refine da_op rfl (d_cl (vs := [.string (bs m11)]) en101 (ac rfl rfl) rfl ?_)
      refine (c101 m11 m13 wl8 hm13 ).mono ?_
      rintro _ w14 ⟨q14_0r, rfl, q14_0h, E14⟩
      refine ⟨_, rfl, ?_⟩
      have X15 : Ext w w14 := i8_X.trans E14
      refine da_op rfl (d_mv (v := .tuple #[.float .f32 q14_0r, .bool m13.2]) rfl ?_)
      refine da_op rfl (d_extract (v := .float .f32 q14_0r) rfl rfl ?_)
      refine da_op rfl (d_extract (v := .bool m13.2) rfl rfl ?_)
      refine da_op rfl (d_as (v := .float .f32 q14_0r) rfl ?_)
      refine da_op rfl (d_as (v := .bool m13.2) rfl ?_)
      refine da_nil ?_
      refine W_seq ?_
      refine W_seq ?_
      have B17 : RS w14 encS (Value.slice q4_0a q4_0n q4_0c) m3 := i8_K0.ext E14
      have B18 : OS w14 22 encF_f32 (Value.slice i8_0a i8_0n i8_0c) s8.1 := i8_0R.ext E14
      obtain ⟨m16, hm16, hr⟩ := letv_out hr
      refine W_cut (fun σ' w' => σ' 28 = .bool m16 ∧ Ext w14 w') rfl ?_ ?_
      · skip
        have hr := hm16
        refine da_op rfl (d_mv (v := .bool m13.2) rfl ?_)
        refine da_op rfl (d_not rfl ?_)
        refine da_op rfl (d_mv (v := .bool (!m13.2)) rfl ?_)
        rcases Bool.eq_false_or_eq_true m13.2 with hc19 | hc19
        · skip
          replace hr := bif_t hr hc19
          refine da_on rfl (Eq.trans (show sl _ _ _ = .bool (!m13.2) from rfl) (congrArg Value.bool (congrArg not hc19))) (d_mv (v := (Value.slice i8_0a i8_0n i8_0c)) i8_S4 ?_)
          refine da_on rfl (Eq.trans (show sl _ _ _ = .bool (!m13.2) from rfl) (congrArg Value.bool (congrArg not hc19))) (d_len (e := encF_f32) un53 rfl B18.rs ?_)
          refine da_on rfl (Eq.trans (show sl _ _ _ = .bool (!m13.2) from rfl) (congrArg Value.bool (congrArg not hc19))) (d_icmp cEql rfl rfl ?_)
          refine da_op rfl (d_pick (b := false) (Eq.trans (show ev _ _ = .bool (!m13.2) from rfl) (congrArg Value.bool (congrArg not hc19))) ?_)
          refine da_nil ?_
          subst hr
          exact ⟨rfl, (Ext.refl w14)⟩
        · skip
          replace hr := bif_f hr hc19
          refine da_off rfl (Eq.trans (show sl _ _ _ = .bool (!m13.2) from rfl) (congrArg Value.bool (congrArg not hc19))) (by decide) ?_
          refine da_off rfl (Eq.trans (show sl _ _ _ = .bool (!m13.2) from rfl) (congrArg Value.bool (congrArg not hc19))) (by decide) ?_
          refine da_off rfl (Eq.trans (show sl _ _ _ = .bool (!m13.2) from rfl) (congrArg Value.bool (congrArg not hc19))) (by decide) ?_
          refine da_op rfl (d_pick (b := true) (Eq.trans (show ev _ _ = .bool (!m13.2) from rfl) (congrArg Value.bool (congrArg not hc19))) ?_)
          refine da_nil ?_
          subst hr
          exact ⟨rfl, (Ext.refl w14)⟩
      · skip
        rintro σ16 w16 o16 ⟨s28_16, E16⟩
        have s4_16 : σ16 4 = (Value.slice i8_0a i8_0n i8_0c) := (o16 4 rfl).trans i8_S4
        have s13_16 : σ16 13 = .int .i64 s8.2 := (o16 13 rfl).trans i8_S13
        have s11_16 : σ16 11 = (Value.slice q4_0a q4_0n q4_0c) := (o16 11 rfl).trans i8_S11
        have s12_16 : σ16 12 = .int .i64 ((m3).length : Int) := (o16 12 rfl).trans i8_S12
        have s7_16 : σ16 7 = .float .f32 q14_0r := (o16 7 rfl).trans rfl
        have X20 : Ext w w16 := X15.trans E16
        refine W_cond (b := m16) s28_16 (fun hc21 => ?_) (fun hc21 => ?_)
        · skip
          replace hr := bif_t hr hc21
          refine W_seq ?_
          refine W_region rfl ?_
          refine da_op rfl (d_as (v := .slice none 0 0) rfl ?_)
          refine da_op rfl (d_as (v := .bool false) rfl ?_)
          refine da_nil ?_
          refine W_ret ?_
          obtain rfl := Option.some.inj hr
          exact ⟨_, rfl, rfl, none, 0, 0, rfl, rfl, (OS.nil _ 22 encF_f32), (fun k hk => by cases hk), X20⟩
        · skip
          replace hr := bif_f hr hc21
          refine W_skip ?_
          refine W_region rfl ?_
          refine da_op rfl (d_mv (v := (Value.slice i8_0a i8_0n i8_0c)) s4_16 ?_)
          refine da_op rfl (d_mv (v := .float .f32 q14_0r) s7_16 ?_)
          have B23 : RS w16 encS (Value.slice q4_0a q4_0n q4_0c) m3 := B17.ext E16
          have B24 : OS w16 22 encF_f32 (Value.slice i8_0a i8_0n i8_0c) s8.1 := B18.ext E16
          refine da_op rfl (d_bslice (vs := [(0, .float .f32 q14_0r)]) (cs := #[.float .f32 q14_0r]) un53 (pc rfl rfl) (by kernel_rfl) fun w22 B22 E22 => ?_)
          have fr22 : ∀ k, (Value.slice (some ⟨w16.heap.size, 0, none⟩) 1 1).ownBlock = some k → w16.heap.size ≤ k := fun k hk => by cases hk; exact Nat.le_refl _
          have own22 : ∀ k, (Value.slice (some ⟨w16.heap.size, 0, none⟩) 1 1).ownBlock = some k → w.heap.size ≤ k := fun k hk => Nat.le_trans X20.size (fr22 k hk)
          have sp25 : ∀ k, (Value.slice q4_0a q4_0n q4_0c).ownBlock = some k → ¬ (Value.slice (some ⟨w16.heap.size, 0, none⟩) 1 1).ownBlock = some k := apart_freshR B23 fr22
          have sp26 : ∀ k, (Value.slice i8_0a i8_0n i8_0c).ownBlock = some k → ¬ (Value.slice (some ⟨w16.heap.size, 0, none⟩) 1 1).ownBlock = some k := apart_fresh B24 fr22
          have X27 : Ext w w22 := X20.trans E22
          have O22 : OS w22 22 encF_f32 (Value.slice (some ⟨w16.heap.size, 0, none⟩) 1 1) [m13.1] := OS.box (xs := [m13.1]) B22 (lc_f q14_0h rfl) (Nat.le_of_ble_eq_true rfl)
          obtain ⟨m28, hm28, hr⟩ := bind_out hr
          have B29 : OS w22 22 encF_f32 (Value.slice i8_0a i8_0n i8_0c) s8.1 := B24.ext E22
          have B30 : RS w22 encS (Value.slice q4_0a q4_0n q4_0c) m3 := B23.ext E22
          refine da_op rfl (d_append (e := encF_f32) (v := (Value.slice i8_0a i8_0n i8_0c)) (y := (Value.slice (some ⟨w16.heap.size, 0, none⟩) 1 1)) un53 info22 rfl (by kernel_rfl) (by kernel_rfl) (by decide) (by decide) rfl rfl B29 O22.rs hm28 fun v31 w31 O31 Fm31 at_31 nl31 => ?_)
          obtain ⟨v31pa, v31pn, v31pc, rfl⟩ := O31.vals
          have own31 : ∀ k, (Value.slice v31pa v31pn v31pc).ownBlock = some k → w.heap.size ≤ k := app_own (w := w22) at_31 i8_0O X27.size
          have sp32 : ∀ k, (Value.slice q4_0a q4_0n q4_0c).ownBlock = some k → ¬ (Value.slice v31pa v31pn v31pc).ownBlock = some k := app_nrR at_31 i8_A0 B30
          have sp33 : ∀ k, (Value.slice (some ⟨w16.heap.size, 0, none⟩) 1 1).ownBlock = some k → ¬ (Value.slice v31pa v31pn v31pc).ownBlock = some k := app_nr at_31 (apart_symm sp26) O22
          have X34 : Ext w w31 := Ext.step X27 Fm31 (fun k _ hk => i8_0O k hk)
          refine da_op rfl (d_as (v := (Value.slice v31pa v31pn v31pc)) rfl ?_)
          refine da_nil ?_
          refine W_region rfl ?_
          refine da_op rfl (d_iarith s13_16 rfl (.inl ⟨rfl, rfl⟩) ?_)
          refine da_op rfl (d_mv (v := .int .i64 (IntKind.i64.wrap (s8.2 + 1))) rfl ?_)
          refine da_nil ?_
          have B35 : RS w31 encS (Value.slice q4_0a q4_0n q4_0c) m3 := B30.frm Fm31 (fun k _ => i8_A0 k)
          obtain rfl := Option.some.inj hr
          exact ⟨_, rfl, ⟨v31pa, v31pn, v31pc, rfl, rfl, s11_16, s12_16, O31, own31, B35, sp32, X34⟩⟩
    · skip
      replace hr := bif_f hr hc10
      refine W_exit ?_
      obtain rfl := Option.some.inj hr
      exact ⟨_, rfl, rfl, i8_0a, i8_0n, i8_0c, i8_S4, i8_0R, i8_0O, i8_X⟩
  · skip
    intro ex σx8 wx8 hq
    rcases m8 with m8 | m8
    · skip
      obtain ⟨rfl, q8_0_0a, q8_0_0n, q8_0_0c, q8_0_S4, q8_0_0R, q8_0_0O, q8_0_X⟩ := hq
      refine W_seq ?_
      refine W_region rfl ?_
      refine da_op rfl (d_mv (v := (Value.slice q8_0_0a q8_0_0n q8_0_0c)) q8_0_S4 ?_)
      refine da_op rfl (d_as (v := (Value.slice q8_0_0a q8_0_0n q8_0_0c)) rfl ?_)
      refine da_op rfl (d_as (v := .bool true) rfl ?_)
      refine da_nil ?_
      refine W_ret ?_
      obtain rfl := Option.some.inj hr
      refine ⟨_, res2 (rv_tmp rfl) (rv_tmp rfl), ?_⟩
      exact ⟨q8_0_0a, q8_0_0n, q8_0_0c, rfl, q8_0_0R, q8_0_0O, q8_0_X⟩
    · skip
      obtain ⟨rfl, q8_1_0a, q8_1_0n, q8_1_0c, q8_1_S2, q8_1_S3, q8_1_0R, q8_1_0O, q8_1_X⟩ := hq
      obtain rfl := Option.some.inj hr
      refine ⟨_, res2 (rv_tmp q8_1_S2) (rv_tmp q8_1_S3), ?_⟩
      exact ⟨q8_1_0a, q8_1_0n, q8_1_0c, rfl, q8_1_0R, q8_1_0O, q8_1_X⟩
set_option maxHeartbeats 4000000 in
theorem c159 (p0 : Nat) (p0r : Nat) (r : Int) (w : World) (hr : M.spec_l01Bits p0 = r) (p0h : cn .f32 p0r = p0) :
    Calls Tryd.prog 159 #[.float .f32 p0r] w fun e w' => e = .returned (.int .i64 r) ∧ Ext w w' := by
  refine calls_of_W Tryd.func159 rfl (Nat.le_of_ble_eq_true rfl) ?_
  refine W_seq ?_
  refine W_region rfl ?_
  refine da_op rfl (d_as (v := .int .i64 0) rfl ?_)
  refine da_nil ?_
  refine W_seq ?_
  refine W_seq ?_
  refine W_region rfl ?_
  refine da_op rfl (d_mv (v := .float .f32 p0r) rfl ?_)
  refine da_op rfl (d_mv (v := .float .f32 p0r) rfl ?_)
  refine da_op rfl (d_fcmp (k := .f32) cNeq rfl rfl p0h p0h ?_)
  refine da_nil ?_
  refine W_cond (b := (fcmp .neq .f32 p0 p0)) rfl (fun hc1 => ?_) (fun hc1 => ?_)
  · skip
    replace hr := bif_t hr hc1
    refine W_seq ?_
    refine W_region rfl ?_
    refine da_op rfl (d_as (v := .int .i64 2143289344) rfl ?_)
    refine da_nil ?_
    refine W_ret ?_
    subst hr
    refine ⟨_, res1 (rv_tmp rfl), ?_⟩
    exact ⟨rfl, (Ext.refl w)⟩
  · skip
    replace hr := bif_f hr hc1
    refine W_skip ?_
    refine W_seq ?_
    refine W_region rfl ?_
    refine da_op rfl (d_mv (v := .float .f32 p0r) rfl ?_)
    refine da_op rfl (d_f32bits ext154_0 ext154_1 ext154_2 (Option.isNone_iff_eq_none.1 ext154_3) ext154_4 rfl rfl p0h (nn_ne hc1) ?_)
    refine da_op rfl (d_iconv un193 un2 rfl ?_)
    refine da_op rfl (d_as (v := .int .i64 (IntKind.i64.wrap (p0 : Int))) rfl ?_)
    refine da_nil ?_
    refine W_ret ?_
    subst hr
    refine ⟨_, res1 (rv_tmp rfl), ?_⟩
    exact ⟨rfl, (Ext.refl w)⟩
set_option maxHeartbeats 4000000 in
theorem c156 (p0 : Nat) (p1 : Nat) (p0r : Nat) (p1r : Nat) (r : Bool) (w : World) (hr : M.spec_l01Same p0 p1 = r) (p0h : cn .f32 p0r = p0) (p1h : cn .f32 p1r = p1) :
    Calls Tryd.prog 156 #[.float .f32 p0r, .float .f32 p1r] w fun e w' => e = .returned (.bool r) ∧ Ext w w' := by
  refine calls_of_W Tryd.func156 rfl (Nat.le_of_ble_eq_true rfl) ?_
  refine W_seq ?_
  refine W_region rfl ?_
  refine da_op rfl (d_as (v := .bool false) rfl ?_)
  refine da_nil ?_
  refine W_seq ?_
  refine W_region rfl ?_
  refine da_op rfl (d_mv (v := .float .f32 p0r) rfl ?_)
  obtain ⟨m1, hm1, hr⟩ := letv_out hr
  refine da_op rfl (d_cl (vs := [.float .f32 p0r]) en159 (ac rfl rfl) rfl ?_)
  refine (c159 p0 p0r m1 w hm1 p0h).mono ?_
  rintro _ w2 ⟨rfl, E2⟩
  refine ⟨_, rfl, ?_⟩
  have X3 : Ext w w2 := (Ext.refl w).trans E2
  refine da_op rfl (d_mv (v := .float .f32 p1r) rfl ?_)
  obtain ⟨m4, hm4, hr⟩ := letv_out hr
  refine da_op rfl (d_cl (vs := [.float .f32 p1r]) en159 (ac rfl rfl) rfl ?_)
  refine (c159 p1 p1r m4 w2 hm4 p1h).mono ?_
  rintro _ w5 ⟨rfl, E5⟩
  refine ⟨_, rfl, ?_⟩
  have X6 : Ext w w5 := X3.trans E5
  refine da_op rfl (d_icmp cEql rfl rfl ?_)
  refine da_op rfl (d_as (v := .bool (icmp .eql m1 m4)) rfl ?_)
  refine da_nil ?_
  refine W_ret ?_
  subst hr
  refine ⟨_, res1 (rv_tmp rfl), ?_⟩
  exact ⟨rfl, X6⟩
set_option maxHeartbeats 4000000 in
theorem c102 (p0 : Nat) (p1 : Nat) (p0r : Nat) (p1r : Nat) (r : Bool) (w : World) (hr : M.spec_SameNumber p0 p1 = r) (p0h : cn .f32 p0r = p0) (p1h : cn .f32 p1r = p1) :
    Calls Tryd.prog 102 #[.float .f32 p0r, .float .f32 p1r] w fun e w' => e = .returned (.bool r) ∧ Ext w w' := by
  refine calls_of_W Tryd.func102 rfl (Nat.le_of_ble_eq_true rfl) ?_
  refine W_seq ?_
  refine W_region rfl ?_
  refine da_op rfl (d_as (v := .bool false) rfl ?_)
  refine da_nil ?_
  refine W_seq ?_
  refine W_region rfl ?_
  refine da_op rfl (d_mv (v := .float .f32 p0r) rfl ?_)
  refine da_op rfl (d_mv (v := .float .f32 p1r) rfl ?_)
  obtain ⟨m1, hm1, hr⟩ := letv_out hr
  refine da_op rfl (d_cl (vs := [.float .f32 p0r, .float .f32 p1r]) en156 (ac rfl (ac rfl rfl)) rfl ?_)
  refine (c156 p0 p1 p0r p1r m1 w hm1 p0h p1h).mono ?_
  rintro _ w2 ⟨rfl, E2⟩
  refine ⟨_, rfl, ?_⟩
  have X3 : Ext w w2 := (Ext.refl w).trans E2
  refine da_op rfl (d_as (v := .bool m1) rfl ?_)
  refine da_nil ?_
  refine W_ret ?_
  subst hr
  refine ⟨_, res1 (rv_tmp rfl), ?_⟩
  exact ⟨rfl, X3⟩
set_option maxHeartbeats 4000000 in
theorem c44 (p0 : List Nat) (p1 : List Nat) (p0a : Option Addr) (p0n : Nat) (p0c : Nat) (p1a : Option Addr) (p1n : Nat) (p1c : Nat) (r : Bool) (w : World) (hr : M.laws_b10Same p0 p1 = some r) (p0R : RS w encF_f32 (Value.slice p0a p0n p0c) p0) (p1R : RS w encF_f32 (Value.slice p1a p1n p1c) p1) :
    Calls Tryd.prog 44 #[(Value.slice p0a p0n p0c), (Value.slice p1a p1n p1c)] w fun e w' => e = .returned (.bool r) ∧ Ext w w' := by
  refine calls_of_W Tryd.func44 rfl (Nat.le_of_ble_eq_true rfl) ?_
  refine W_seq ?_
  refine W_region rfl ?_
  refine da_op rfl (d_as (v := .bool false) rfl ?_)
  refine da_nil ?_
  refine W_seq ?_
  refine W_seq ?_
  refine W_region rfl ?_
  refine da_op rfl (d_mv (v := (Value.slice p0a p0n p0c)) rfl ?_)
  refine da_op rfl (d_len (e := encF_f32) un53 rfl p0R ?_)
  refine da_op rfl (d_mv (v := (Value.slice p1a p1n p1c)) rfl ?_)
  refine da_op rfl (d_len (e := encF_f32) un53 rfl p1R ?_)
  refine da_op rfl (d_icmp cNeq rfl rfl ?_)
  refine da_nil ?_
  refine W_cond (b := (icmp .neq ((p0).length : Int) ((p1).length : Int))) rfl (fun hc1 => ?_) (fun hc1 => ?_)
  · skip
    replace hr := bif_t hr hc1
    refine W_seq ?_
    refine W_region rfl ?_
    refine da_op rfl (d_as (v := .bool false) rfl ?_)
    refine da_nil ?_
    refine W_ret ?_
    obtain rfl := Option.some.inj hr
    refine ⟨_, res1 (rv_tmp rfl), ?_⟩
    exact ⟨rfl, (Ext.refl w)⟩
  · skip
    replace hr := bif_f hr hc1
    refine W_skip ?_
    refine W_seq ?_
    refine W_seq ?_
    refine W_region rfl ?_
    refine da_op rfl (d_as (v := .int .i64 0) rfl ?_)
    refine da_nil ?_
    refine W_block ?_
    obtain ⟨m2, hm2, hr⟩ := bind_out hr
    refine W_loopM hm2 (fun (s2 : Int) σ w' => σ 5 = .int .i64 s2 ∧ σ 0 = (Value.slice p0a p0n p0c) ∧ σ 1 = (Value.slice p1a p1n p1c) ∧ Ext w w') (fun (e2 : (Unit ⊕ Bool)) ex σ w' => sel e2 (fun e2 => ex = .exit 0 ∧ Ext w w') (fun e2 => ex = .ret ∧ σ 4 = .bool e2 ∧ Ext w w')) ⟨rfl, rfl, rfl, (Ext.refl w)⟩ ?_ ?_
    · skip
      rintro s2 σl2 wl2 r2l ⟨i2_S5, i2_S0, i2_S1, i2_X⟩ hr
      refine W_seq ?_
      refine W_seq ?_
      refine W_region rfl ?_
      refine da_op rfl (d_mv (v := .int .i64 s2) i2_S5 ?_)
      refine da_op rfl (d_mv (v := (Value.slice p0a p0n p0c)) i2_S0 ?_)
      have B3 : RS wl2 encF_f32 (Value.slice p0a p0n p0c) p0 := p0R.ext i2_X
      refine da_op rfl (d_len (e := encF_f32) un53 rfl B3 ?_)
      refine da_op rfl (d_icmp cLss rfl rfl ?_)
      refine da_nil ?_
      refine W_cond (b := (icmp .lss s2 ((p0).length : Int))) rfl (fun hc4 => ?_) (fun hc4 => ?_)
      · skip
        replace hr := bif_t hr hc4
        refine W_skip ?_
        refine W_seq ?_
        refine W_block ?_
        refine W_seq ?_
        have B6 : RS wl2 encF_f32 (Value.slice p1a p1n p1c) p1 := p1R.ext i2_X
        obtain ⟨m7, hm7, hr⟩ := bind_out hr
        obtain ⟨m8, hm8, hr⟩ := bind_out hr
        obtain ⟨m9, hm9, hr⟩ := letv_out hr
        refine W_any [] [{ V := fun _ v _ => v = (Value.slice p0a p0n p0c) }, { V := fun _ v _ => v = (.int .i64 s2) }, { V := fun _ v _ => ∃ d5_2g : Nat, ∃ d5_2o : Nat, v = (.pointer (some ⟨d5_2g, d5_2o, none⟩)) ∧ EL encF_f32 (Value.slice p0a p0n p0c) (p0).length s2 d5_2g d5_2o }, { V := fun _ v _ => ∃ d5_2r0 : Nat, v = (.float .f32 d5_2r0) ∧ cn .f32 d5_2r0 = m7 }, { V := fun _ v _ => v = (Value.slice p1a p1n p1c) }, { V := fun _ v _ => v = (.int .i64 s2) }, { V := fun _ v _ => ∃ d5_6g : Nat, ∃ d5_6o : Nat, v = (.pointer (some ⟨d5_6g, d5_6o, none⟩)) ∧ EL encF_f32 (Value.slice p1a p1n p1c) (p1).length s2 d5_6g d5_6o }, { V := fun _ v _ => ∃ d5_6r0 : Nat, v = (.float .f32 d5_6r0) ∧ cn .f32 d5_6r0 = m8 }, { V := fun _ v _ => v = (.bool m9) }, { V := fun _ v _ => v = (.bool (!m9)) }] mixed (by kernel_rfl) ⟨trivial, trivial, trivial, trivial, trivial, trivial, trivial, trivial, trivial, trivial, trivial⟩ ⟨?_, ?_, ?_, ?_, ?_, ?_, ?_, ?_, ?_, ?_, trivial⟩ ?_
        · skip
          refine ⟨fun _ _ _ _ _ _ h _ => h, fun _ _ h _ => h, fun σ' w' hA hE hD hP => ?_⟩
          have t0 : σ' 0 = (Value.slice p0a p0n p0c) := (hA 0 rfl).trans i2_S0
          have B0_10 : RS w' encF_f32 (Value.slice p0a p0n p0c) p0 := B3.frm hE (fun k _ hk => not_oth0)
          refine dg_op rfl (d_mv (v := (Value.slice p0a p0n p0c)) t0 ?_)
          exact ⟨rfl, own_none (Ext.refl w')⟩
        · skip
          refine ⟨fun _ _ _ _ _ _ h _ => h, fun _ _ h _ => h, fun σ' w' hA hE hD hP => ?_⟩
          have t5 : σ' 5 = .int .i64 s2 := (hA 5 rfl).trans i2_S5
          refine dg_op rfl (d_mv (v := .int .i64 s2) t5 ?_)
          exact ⟨rfl, own_none (Ext.refl w')⟩
        · skip
          refine ⟨fun _ _ _ _ _ _ h _ => h, fun _ _ h _ => h, fun σ' w' hA hE hD hP => ?_⟩
          have t17 : σ' 17 = (Value.slice p0a p0n p0c) := hD 0 rfl
          have t18 : σ' 18 = (.int .i64 s2) := hD 1 rfl
          have B0_11 : RS w' encF_f32 (Value.slice p0a p0n p0c) p0 := B3.frm hE (fun k _ hk => not_oth0)
          refine dg_op rfl (d_indexE (e := encF_f32) (v := (Value.slice p0a p0n p0c)) un53 size22 t17 t18 B0_11 hm7 fun g12 o12 l12 => ?_)
          exact ⟨⟨g12, o12, rfl, l12⟩, own_none (Ext.refl _)⟩
        · skip
          refine ⟨fun _ _ _ _ _ _ h _ => h, fun _ _ h _ => h, fun σ' w' hA hE hD hP => ?_⟩
          obtain ⟨d5_2g, d5_2o, t19, d5_2gE⟩ : ∃ d5_2g : Nat, ∃ d5_2o : Nat, σ' 19 = (.pointer (some ⟨d5_2g, d5_2o, none⟩)) ∧ EL encF_f32 (Value.slice p0a p0n p0c) (p0).length s2 d5_2g d5_2o := hD 2 rfl
          have B0_13 : RS w' encF_f32 (Value.slice p0a p0n p0c) p0 := B3.frm hE (fun k _ hk => not_oth0)
          obtain ⟨d5_2c, d5_2T, d5_2f, d5_2vs, d5_2hg, d5_2P, d5_2hq⟩ := RS.el B0_13 d5_2gE hm7
          obtain ⟨d5_2r0, rfl, d5_2h0⟩ := dec_encF_f32 d5_2hq
          refine dg_op rfl (d_load (v := .float .f32 d5_2r0) t19 agg22 d5_2hg (sub_get (vs := #[.float .f32 d5_2r0]) d5_2P (i := 0) rfl) ?_)
          exact ⟨⟨d5_2r0, rfl, d5_2h0⟩, own_none (Ext.refl w')⟩
        · skip
          refine ⟨fun _ _ _ _ _ _ h _ => h, fun _ _ h _ => h, fun σ' w' hA hE hD hP => ?_⟩
          have t1 : σ' 1 = (Value.slice p1a p1n p1c) := (hA 1 rfl).trans i2_S1
          have B0_14 : RS w' encF_f32 (Value.slice p1a p1n p1c) p1 := B6.frm hE (fun k _ hk => not_oth0)
          refine dg_op rfl (d_mv (v := (Value.slice p1a p1n p1c)) t1 ?_)
          exact ⟨rfl, own_none (Ext.refl w')⟩
        · skip
          refine ⟨fun _ _ _ _ _ _ h _ => h, fun _ _ h _ => h, fun σ' w' hA hE hD hP => ?_⟩
          have t5 : σ' 5 = .int .i64 s2 := (hA 5 rfl).trans i2_S5
          refine dg_op rfl (d_mv (v := .int .i64 s2) t5 ?_)
          exact ⟨rfl, own_none (Ext.refl w')⟩
        · skip
          refine ⟨fun _ _ _ _ _ _ h _ => h, fun _ _ h _ => h, fun σ' w' hA hE hD hP => ?_⟩
          have t21 : σ' 21 = (Value.slice p1a p1n p1c) := hD 4 rfl
          have t22 : σ' 22 = (.int .i64 s2) := hD 5 rfl
          have B0_15 : RS w' encF_f32 (Value.slice p1a p1n p1c) p1 := B6.frm hE (fun k _ hk => not_oth0)
          refine dg_op rfl (d_indexE (e := encF_f32) (v := (Value.slice p1a p1n p1c)) un53 size22 t21 t22 B0_15 hm8 fun g16 o16 l16 => ?_)
          exact ⟨⟨g16, o16, rfl, l16⟩, own_none (Ext.refl _)⟩
        · skip
          refine ⟨fun _ _ _ _ _ _ h _ => h, fun _ _ h _ => h, fun σ' w' hA hE hD hP => ?_⟩
          obtain ⟨d5_6g, d5_6o, t23, d5_6gE⟩ : ∃ d5_6g : Nat, ∃ d5_6o : Nat, σ' 23 = (.pointer (some ⟨d5_6g, d5_6o, none⟩)) ∧ EL encF_f32 (Value.slice p1a p1n p1c) (p1).length s2 d5_6g d5_6o := hD 6 rfl
          have B0_17 : RS w' encF_f32 (Value.slice p1a p1n p1c) p1 := B6.frm hE (fun k _ hk => not_oth0)
          obtain ⟨d5_6c, d5_6T, d5_6f, d5_6vs, d5_6hg, d5_6P, d5_6hq⟩ := RS.el B0_17 d5_6gE hm8
          obtain ⟨d5_6r0, rfl, d5_6h0⟩ := dec_encF_f32 d5_6hq
          refine dg_op rfl (d_load (v := .float .f32 d5_6r0) t23 agg22 d5_6hg (sub_get (vs := #[.float .f32 d5_6r0]) d5_6P (i := 0) rfl) ?_)
          exact ⟨⟨d5_6r0, rfl, d5_6h0⟩, own_none (Ext.refl w')⟩
        · skip
          refine ⟨fun _ _ _ _ _ _ h _ => h, fun _ _ h _ => h, fun σ' w' hA hE hD hP => ?_⟩
          obtain ⟨d5_2r0, t20, d5_2h0⟩ : ∃ d5_2r0 : Nat, σ' 20 = (.float .f32 d5_2r0) ∧ cn .f32 d5_2r0 = m7 := hD 3 rfl
          obtain ⟨d5_6r0, t24, d5_6h0⟩ : ∃ d5_6r0 : Nat, σ' 24 = (.float .f32 d5_6r0) ∧ cn .f32 d5_6r0 = m8 := hD 7 rfl
          refine dg_op rfl (d_cl (vs := [.float .f32 d5_2r0, .float .f32 d5_6r0]) en102 (ac t20 (ac t24 rfl)) rfl ?_)
          refine (c102 m7 m8 d5_2r0 d5_6r0 m9 w' hm9 d5_2h0 d5_6h0).mono ?_
          rintro _ w18 ⟨rfl, E18⟩
          refine ⟨_, rfl, ?_⟩
          have X19 : Ext w' w18 := (Ext.refl w').trans E18
          exact ⟨rfl, own_none X19⟩
        · skip
          refine ⟨fun _ _ _ _ _ _ h _ => h, fun _ _ h _ => h, fun σ' w' hA hE hD hP => ?_⟩
          have t25 : σ' 25 = (.bool m9) := hD 8 rfl
          refine dg_op rfl (d_not t25 ?_)
          exact ⟨rfl, own_none (Ext.refl w')⟩
        · skip
          intro σ5 w5 A5 E5 V5
          have E5x : Ext wl2 w5 := ext_of_oth0 E5
          have s26_5 : σ5 26 = (.bool (!m9)) := V5 9 (Nat.le_of_ble_eq_true rfl)
          have s5_5 : σ5 5 = .int .i64 s2 := (A5 5 rfl).trans i2_S5
          have s0_5 : σ5 0 = (Value.slice p0a p0n p0c) := (A5 0 rfl).trans i2_S0
          have s1_5 : σ5 1 = (Value.slice p1a p1n p1c) := (A5 1 rfl).trans i2_S1
          have X20 : Ext w w5 := i2_X.trans E5x
          refine W_cond (b := (!m9)) s26_5 (fun hc21 => ?_) (fun hc21 => ?_)
          · skip
            replace hr := bif_t hr hc21
            refine W_seq ?_
            refine W_region rfl ?_
            refine da_op rfl (d_as (v := .bool false) rfl ?_)
            refine da_nil ?_
            refine W_ret ?_
            obtain rfl := Option.some.inj hr
            exact ⟨_, rfl, rfl, rfl, X20⟩
          · skip
            replace hr := bif_f hr hc21
            refine W_skip ?_
            refine W_region rfl ?_
            refine da_op rfl (d_mv (v := .int .i64 s2) s5_5 ?_)
            refine da_op rfl (d_iarith rfl rfl (.inl ⟨rfl, rfl⟩) ?_)
            refine da_op rfl (d_as (v := .int .i64 (IntKind.i64.wrap (s2 + 1))) rfl ?_)
            refine da_nil ?_
            obtain rfl := Option.some.inj hr
            exact ⟨_, rfl, ⟨rfl, s0_5, s1_5, X20⟩⟩
      · skip
        replace hr := bif_f hr hc4
        refine W_exit ?_
        obtain rfl := Option.some.inj hr
        exact ⟨_, rfl, rfl, i2_X⟩
    · skip
      intro ex σx2 wx2 hq
      rcases m2 with m2 | m2
      · skip
        obtain ⟨rfl, q2_0_X⟩ := hq
        refine W_seq ?_
        refine W_region rfl ?_
        refine da_op rfl (d_as (v := .bool true) rfl ?_)
        refine da_nil ?_
        refine W_ret ?_
        obtain rfl := Option.some.inj hr
        refine ⟨_, res1 (rv_tmp rfl), ?_⟩
        exact ⟨rfl, q2_0_X⟩
      · skip
        obtain ⟨rfl, q2_1_S4, q2_1_X⟩ := hq
        obtain rfl := Option.some.inj hr
        refine ⟨_, res1 (rv_tmp q2_1_S4), ?_⟩
        exact ⟨rfl, q2_1_X⟩
set_option maxHeartbeats 4000000 in
theorem c59 (p0 : Int) (r : List UInt8) (w : World) (hr : M.impl_Decimal p0 = some r) (t_T10 : T10 Tryd.prog w) :
    Calls Tryd.prog 59 #[.int .i64 p0] w fun e w' => e = .returned (.string (bs r)) ∧ Ext w w' := by
  refine calls_of_W Tryd.func59 rfl (Nat.le_of_ble_eq_true rfl) ?_
  refine W_seq ?_
  refine W_region rfl ?_
  refine da_op rfl (d_as (v := .string (bs ([] : List UInt8))) rfl ?_)
  refine da_nil ?_
  refine W_seq ?_
  refine W_region rfl ?_
  refine da_op rfl (d_mv (v := .int .i64 p0) rfl ?_)
  obtain ⟨m2, hm2, hr⟩ := bind_out hr
  refine da_op rfl (d_cl (vs := [.int .i64 p0, .int .i64 10]) en115 (ac rfl (ac rfl rfl)) rfl ?_)
  refine (sh115 hm2 (t_T10.ext (Ext.refl w))).mono ?_
  rintro _ w1 ⟨rfl, E1⟩
  refine ⟨_, rfl, ?_⟩
  have X3 : Ext w w1 := (Ext.refl w).trans E1
  refine da_op rfl (d_as (v := .string (bs m2)) rfl ?_)
  refine da_nil ?_
  refine W_ret ?_
  obtain rfl := Option.some.inj hr
  refine ⟨_, res1 (rv_tmp rfl), ?_⟩
  exact ⟨rfl, X3⟩
set_option maxHeartbeats 4000000 in
theorem c45 (p0 : List Int) (p0a : Option Addr) (p0n : Nat) (p0c : Nat) (r : List UInt8 × Bool) (w : World) (hr : M.impl_ListText p0 = some r) (p0R : RS w encI_i64 (Value.slice p0a p0n p0c) p0) (t_T10 : T10 Tryd.prog w) :
    Calls Tryd.prog 45 #[(Value.slice p0a p0n p0c)] w fun e w' => e = .returned (.tuple #[.string (bs r.1), .bool r.2]) ∧ Ext w w' := by
  refine calls_of_W Tryd.func45 rfl (Nat.le_of_ble_eq_true rfl) ?_
  refine W_seq ?_
  refine W_region rfl ?_
  refine da_op rfl (d_as (v := .string (bs ([] : List UInt8))) rfl ?_)
  refine da_op rfl (d_as (v := .bool false) rfl ?_)
  refine da_nil ?_
  refine W_seq ?_
  refine W_region rfl ?_
  refine da_op rfl (d_bslice0 un34 size9 fun w1 B1 E1 => ?_)
  have fr1 : ∀ k, (Value.slice (some ⟨w.heap.size, 0, none⟩) 0 0).ownBlock = some k → w.heap.size ≤ k := fun k hk => by cases hk; exact Nat.le_refl _
  have own1 : ∀ k, (Value.slice (some ⟨w.heap.size, 0, none⟩) 0 0).ownBlock = some k → w.heap.size ≤ k := fun k hk => Nat.le_trans (Ext.refl w).size (fr1 k hk)
  have X2 : Ext w w1 := (Ext.refl w).trans E1
  have O1 : OS w1 9 encS (Value.slice (some ⟨w.heap.size, 0, none⟩) 0 0) ([] : List (List UInt8)) := OS.box (xs := ([] : List (List UInt8))) B1 rfl (Nat.le_of_ble_eq_true rfl)
  refine da_op rfl (d_as (v := (Value.slice (some ⟨w.heap.size, 0, none⟩) 0 0)) rfl ?_)
  refine da_nil ?_
  refine W_seq ?_
  refine W_seq ?_
  refine W_region rfl ?_
  refine da_op rfl (d_mv (v := (Value.slice p0a p0n p0c)) rfl ?_)
  have B3 : RS w1 encI_i64 (Value.slice p0a p0n p0c) p0 := p0R.ext X2
  refine da_op rfl (d_len (e := encI_i64) un81 rfl B3 ?_)
  refine da_op rfl (d_mv (v := .int .i64 0) rfl ?_)
  refine da_nil ?_
  refine W_block ?_
  obtain ⟨m4, hm4, hr⟩ := bind_out hr
  refine W_loopM hm4 (fun (s4 : List (List UInt8) × Int) σ w' => ∃ i4_0a : Option Addr, ∃ i4_0n : Nat, ∃ i4_0c : Nat, σ 4 = (Value.slice i4_0a i4_0n i4_0c) ∧ σ 10 = .int .i64 s4.2 ∧ σ 8 = (Value.slice p0a p0n p0c) ∧ σ 9 = .int .i64 ((p0).length : Int) ∧ OS w' 9 encS (Value.slice i4_0a i4_0n i4_0c) s4.1 ∧ (∀ k, (Value.slice i4_0a i4_0n i4_0c).ownBlock = some k → w.heap.size ≤ k) ∧ Ext w w') (fun (e4 : ((List (List UInt8)) ⊕ (List UInt8 × Bool))) ex σ w' => sel e4 (fun e4 => ex = .exit 0 ∧ ∃ q4_0_0a : Option Addr, ∃ q4_0_0n : Nat, ∃ q4_0_0c : Nat, σ 4 = (Value.slice q4_0_0a q4_0_0n q4_0_0c) ∧ OS w' 9 encS (Value.slice q4_0_0a q4_0_0n q4_0_0c) e4 ∧ (∀ k, (Value.slice q4_0_0a q4_0_0n q4_0_0c).ownBlock = some k → w.heap.size ≤ k) ∧ Ext w w') (fun e4 => ex = .ret ∧ σ 2 = .string (bs e4.1) ∧ σ 3 = .bool e4.2 ∧ Ext w w')) ⟨(some ⟨w.heap.size, 0, none⟩), 0, 0, rfl, rfl, rfl, rfl, O1, own1, X2⟩ ?_ ?_
  · skip
    rintro s4 σl4 wl4 r4l ⟨i4_0a, i4_0n, i4_0c, i4_S4, i4_S10, i4_S8, i4_S9, i4_0R, i4_0O, i4_X⟩ hr
    refine W_seq ?_
    refine W_region rfl ?_
    refine da_op rfl (d_icmp cLss i4_S10 i4_S9 ?_)
    refine da_nil ?_
    refine W_seq ?_
    refine W_cond (b := (icmp .lss s4.2 ((p0).length : Int))) rfl (fun hc5 => ?_) (fun hc5 => ?_)
    · skip
      replace hr := bif_t hr hc5
      refine W_skip ?_
      refine W_seq ?_
      refine W_block ?_
      refine W_seq ?_
      refine W_region rfl ?_
      obtain ⟨m6, hm6, hr⟩ := bind_out hr
      have B8 : RS wl4 encI_i64 (Value.slice p0a p0n p0c) p0 := p0R.ext i4_X
      refine da_op rfl (d_index (e := encI_i64) (v := (Value.slice p0a p0n p0c)) un81 size2 i4_S8 i4_S10 B8 hm6 fun g7 o7 cu7 T7 fr7 vs7 hv7 hg7 hp7 hq7 => ?_)
      obtain rfl := dec_encI_i64 hq7
      refine da_op rfl (d_load (v := .int .i64 m6) rfl agg2 hg7 (sub_get (vs := #[.int .i64 m6]) hp7 (i := 0) rfl) ?_)
      refine da_op rfl (d_as (v := .int .i64 m6) rfl ?_)
      refine da_nil ?_
      refine W_seq ?_
      refine W_seq ?_
      obtain ⟨m9, hm9, hr⟩ := letv_out hr
      refine W_cut (fun σ' w' => σ' 21 = .bool m9 ∧ Ext wl4 w') rfl ?_ ?_
      · skip
        have hr := hm9
        refine da_op rfl (d_mv (v := .int .i64 m6) rfl ?_)
        obtain ⟨m10, hm10, hr⟩ := letv_out hr
        refine da_op rfl (d_cl (vs := [.int .i64 m6, .int .i64 (-1000000000000000), .int .i64 1000000000000000]) en103 (ac rfl (ac rfl (ac rfl rfl))) rfl ?_)
        refine (c103 m6 (-1000000000000000) 1000000000000000 m10 wl4 hm10 ).mono ?_
        rintro _ w11 ⟨rfl, E11⟩
        refine ⟨_, rfl, ?_⟩
        have X12 : Ext w w11 := i4_X.trans E11
        refine da_op rfl (d_not rfl ?_)
        refine da_op rfl (d_mv (v := .bool (!m10)) rfl ?_)
        rcases Bool.eq_false_or_eq_true m10 with hc13 | hc13
        · skip
          replace hr := bif_t hr hc13
          refine da_on rfl (Eq.trans (show sl _ _ _ = .bool (!m10) from rfl) (congrArg Value.bool (congrArg not hc13))) (d_mv (v := (Value.slice i4_0a i4_0n i4_0c)) i4_S4 ?_)
          have B14 : OS w11 9 encS (Value.slice i4_0a i4_0n i4_0c) s4.1 := i4_0R.ext E11
          refine da_on rfl (Eq.trans (show sl _ _ _ = .bool (!m10) from rfl) (congrArg Value.bool (congrArg not hc13))) (d_len (e := encS) un34 rfl B14.rs ?_)
          refine da_on rfl (Eq.trans (show sl _ _ _ = .bool (!m10) from rfl) (congrArg Value.bool (congrArg not hc13))) (d_icmp cEql rfl rfl ?_)
          refine da_op rfl (d_pick (b := false) (Eq.trans (show ev _ _ = .bool (!m10) from rfl) (congrArg Value.bool (congrArg not hc13))) ?_)
          refine da_nil ?_
          subst hr
          exact ⟨rfl, (Ext.trans (Ext.refl wl4) E11)⟩
        · skip
          replace hr := bif_f hr hc13
          refine da_off rfl (Eq.trans (show sl _ _ _ = .bool (!m10) from rfl) (congrArg Value.bool (congrArg not hc13))) (by decide) ?_
          refine da_off rfl (Eq.trans (show sl _ _ _ = .bool (!m10) from rfl) (congrArg Value.bool (congrArg not hc13))) (by decide) ?_
          refine da_off rfl (Eq.trans (show sl _ _ _ = .bool (!m10) from rfl) (congrArg Value.bool (congrArg not hc13))) (by decide) ?_
          refine da_op rfl (d_pick (b := true) (Eq.trans (show ev _ _ = .bool (!m10) from rfl) (congrArg Value.bool (congrArg not hc13))) ?_)
          refine da_nil ?_
          subst hr
          exact ⟨rfl, (Ext.trans (Ext.refl wl4) E11)⟩
      · skip
        rintro σ9 w9 o9 ⟨s21_9, E9⟩
        have s4_9 : σ9 4 = (Value.slice i4_0a i4_0n i4_0c) := (o9 4 rfl).trans i4_S4
        have s10_9 : σ9 10 = .int .i64 s4.2 := (o9 10 rfl).trans i4_S10
        have s8_9 : σ9 8 = (Value.slice p0a p0n p0c) := (o9 8 rfl).trans i4_S8
        have s9_9 : σ9 9 = .int .i64 ((p0).length : Int) := (o9 9 rfl).trans i4_S9
        have s6_9 : σ9 6 = .int .i64 m6 := (o9 6 rfl).trans rfl
        have X15 : Ext w w9 := i4_X.trans E9
        refine W_cond (b := m9) s21_9 (fun hc16 => ?_) (fun hc16 => ?_)
        · skip
          replace hr := bif_t hr hc16
          refine W_seq ?_
          refine W_region rfl ?_
          refine da_op rfl (d_as (v := .string (bs ([] : List UInt8))) rfl ?_)
          refine da_op rfl (d_as (v := .bool false) rfl ?_)
          refine da_nil ?_
          refine W_ret ?_
          obtain rfl := Option.some.inj hr
          exact ⟨_, rfl, rfl, rfl, rfl, X15⟩
        · skip
          replace hr := bif_f hr hc16
          refine W_skip ?_
          refine W_region rfl ?_
          refine da_op rfl (d_mv (v := (Value.slice i4_0a i4_0n i4_0c)) s4_9 ?_)
          refine da_op rfl (d_mv (v := .int .i64 m6) s6_9 ?_)
          obtain ⟨m17, hm17, hr⟩ := bind_out hr
          have B18 : OS w9 9 encS (Value.slice i4_0a i4_0n i4_0c) s4.1 := i4_0R.ext E9
          refine da_op rfl (d_cl (vs := [.int .i64 m6]) en59 (ac rfl rfl) rfl ?_)
          refine (c59 m6 m17 w9 hm17 (t_T10.ext X15)).mono ?_
          rintro _ w19 ⟨rfl, E19⟩
          refine ⟨_, rfl, ?_⟩
          have X20 : Ext w w19 := X15.trans E19
          have B22 : OS w19 9 encS (Value.slice i4_0a i4_0n i4_0c) s4.1 := B18.ext E19
          refine da_op rfl (d_bslice (vs := [(0, .string (bs m17))]) (cs := #[.string (bs m17)]) un34 (pc rfl rfl) (by kernel_rfl) fun w21 B21 E21 => ?_)
          have fr21 : ∀ k, (Value.slice (some ⟨w19.heap.size, 0, none⟩) 1 1).ownBlock = some k → w19.heap.size ≤ k := fun k hk => by cases hk; exact Nat.le_refl _
          have own21 : ∀ k, (Value.slice (some ⟨w19.heap.size, 0, none⟩) 1 1).ownBlock = some k → w.heap.size ≤ k := fun k hk => Nat.le_trans X20.size (fr21 k hk)
          have sp23 : ∀ k, (Value.slice i4_0a i4_0n i4_0c).ownBlock = some k → ¬ (Value.slice (some ⟨w19.heap.size, 0, none⟩) 1 1).ownBlock = some k := apart_fresh B22 fr21
          have X24 : Ext w w21 := X20.trans E21
          have O21 : OS w21 9 encS (Value.slice (some ⟨w19.heap.size, 0, none⟩) 1 1) [m17] := OS.box (xs := [m17]) B21 (lc_v rfl rfl) (Nat.le_of_ble_eq_true rfl)
          obtain ⟨m25, hm25, hr⟩ := bind_out hr
          have B26 : OS w21 9 encS (Value.slice i4_0a i4_0n i4_0c) s4.1 := B22.ext E21
          refine da_op rfl (d_append (e := encS) (v := (Value.slice i4_0a i4_0n i4_0c)) (y := (Value.slice (some ⟨w19.heap.size, 0, none⟩) 1 1)) un34 info9 rfl (by kernel_rfl) (by kernel_rfl) (by decide) (by decide) rfl rfl B26 O21.rs hm25 fun v27 w27 O27 Fm27 at_27 nl27 => ?_)
          obtain ⟨v27pa, v27pn, v27pc, rfl⟩ := O27.vals
          have own27 : ∀ k, (Value.slice v27pa v27pn v27pc).ownBlock = some k → w.heap.size ≤ k := app_own (w := w21) at_27 i4_0O X24.size
          have sp28 : ∀ k, (Value.slice (some ⟨w19.heap.size, 0, none⟩) 1 1).ownBlock = some k → ¬ (Value.slice v27pa v27pn v27pc).ownBlock = some k := app_nr at_27 (apart_symm sp23) O21
          have X29 : Ext w w27 := Ext.step X24 Fm27 (fun k _ hk => i4_0O k hk)
          refine da_op rfl (d_as (v := (Value.slice v27pa v27pn v27pc)) rfl ?_)
          refine da_nil ?_
          refine W_region rfl ?_
          refine da_op rfl (d_iarith s10_9 rfl (.inl ⟨rfl, rfl⟩) ?_)
          refine da_op rfl (d_mv (v := .int .i64 (IntKind.i64.wrap (s4.2 + 1))) rfl ?_)
          refine da_nil ?_
          obtain rfl := Option.some.inj hr
          exact ⟨_, rfl, ⟨v27pa, v27pn, v27pc, rfl, rfl, s8_9, s9_9, O27, own27, X29⟩⟩
    · skip
      replace hr := bif_f hr hc5
      refine W_exit ?_
      obtain rfl := Option.some.inj hr
      exact ⟨_, rfl, rfl, i4_0a, i4_0n, i4_0c, i4_S4, i4_0R, i4_0O, i4_X⟩
  · skip
    intro ex σx4 wx4 hq
    rcases m4 with m4 | m4
    · skip
      obtain ⟨rfl, q4_0_0a, q4_0_0n, q4_0_0c, q4_0_S4, q4_0_0R, q4_0_0O, q4_0_X⟩ := hq
      refine W_seq ?_
      refine W_region rfl ?_
      refine da_op rfl (d_mv (v := (Value.slice q4_0_0a q4_0_0n q4_0_0c)) q4_0_S4 ?_)
      obtain ⟨m30, hm30, hr⟩ := bind_out hr
      refine da_op rfl (d_cl (vs := [(Value.slice q4_0_0a q4_0_0n q4_0_0c)]) en99 (ac rfl rfl) rfl ?_)
      refine (c99 m4 q4_0_0a q4_0_0n q4_0_0c m30 wx4 hm30 q4_0_0R.rs).mono ?_
      rintro _ w31 ⟨rfl, E31⟩
      refine ⟨_, rfl, ?_⟩
      have X32 : Ext w w31 := q4_0_X.trans E31
      refine da_op rfl (d_as (v := .string (bs m30)) rfl ?_)
      refine da_op rfl (d_as (v := .bool true) rfl ?_)
      refine da_nil ?_
      refine W_ret ?_
      obtain rfl := Option.some.inj hr
      refine ⟨_, res2 (rv_tmp rfl) (rv_tmp rfl), ?_⟩
      exact ⟨rfl, X32⟩
    · skip
      obtain ⟨rfl, q4_1_S2, q4_1_S3, q4_1_X⟩ := hq
      obtain rfl := Option.some.inj hr
      refine ⟨_, res2 (rv_tmp q4_1_S2) (rv_tmp q4_1_S3), ?_⟩
      exact ⟨rfl, q4_1_X⟩
set_option maxHeartbeats 4000000 in
theorem c104 (p0 : List UInt8) (r : Int × Bool) (w : World) (hr : M.impl_ReadDecimal p0 = some r) (t_TSyn : TSyn Tryd.prog w) (t_TRan : TRan Tryd.prog w) (t_T10 : T10 Tryd.prog w) :
    Calls Tryd.prog 104 #[.string (bs p0)] w fun e w' => e = .returned (.tuple #[.int .i64 r.1, .bool r.2]) ∧ Ext w w' := by
  refine calls_of_W Tryd.func104 rfl (Nat.le_of_ble_eq_true rfl) ?_
  refine W_seq ?_
  refine W_region rfl ?_
  refine da_op rfl (d_as (v := .int .i64 0) rfl ?_)
  refine da_op rfl (d_as (v := .bool false) rfl ?_)
  refine da_nil ?_
  refine W_seq ?_
  refine W_region rfl ?_
  refine da_op rfl (d_mv (v := .string (bs p0)) rfl ?_)
  obtain ⟨m2, hm2, hr⟩ := bind_out hr
  refine da_op rfl (d_cl (vs := [.string (bs p0), .int .i64 10, .int .i64 64]) en157 (ac rfl (ac rfl (ac rfl rfl))) rfl ?_)
  refine (sh157 hm2 (t_TSyn.ext (Ext.refl w)) (t_TRan.ext (Ext.refl w))).mono ?_
  rintro _ w1 ⟨er1, rfl, he1, E1⟩
  refine ⟨_, rfl, ?_⟩
  have X3 : Ext w w1 := (Ext.refl w).trans E1
  refine da_op rfl (d_mv (v := .tuple #[.int .i64 m2.1, er1]) rfl ?_)
  refine da_op rfl (d_extract (v := .int .i64 m2.1) rfl rfl ?_)
  refine da_op rfl (d_extract (v := er1) rfl rfl ?_)
  refine da_op rfl (d_as (v := .int .i64 m2.1) rfl ?_)
  refine da_op rfl (d_as (v := er1) rfl ?_)
  refine da_nil ?_
  refine W_seq ?_
  refine W_seq ?_
  obtain ⟨m4, hm4, hr⟩ := bind_out hr
  refine W_cut (fun σ' w' => σ' 23 = .bool m4 ∧ Ext w1 w') rfl ?_ ?_
  · skip
    have hr := hm4
    refine da_op rfl (d_mv (v := er1) rfl ?_)
    refine da_op rfl (d_errne Tryd.underlying100 rfl rfl he1 ?_)
    refine da_op rfl (d_mv (v := .bool (!m2.2)) rfl ?_)
    rcases Bool.eq_false_or_eq_true m2.2 with hc5 | hc5
    · skip
      replace hr := bif_t hr hc5
      refine da_on rfl (Eq.trans (show sl _ _ _ = .bool (!m2.2) from rfl) (congrArg Value.bool (congrArg not hc5))) (d_mv (v := .int .i64 m2.1) rfl ?_)
      obtain ⟨m6, hm6, hr⟩ := letv_out hr
      refine da_on rfl (Eq.trans (show sl _ _ _ = .bool (!m2.2) from rfl) (congrArg Value.bool (congrArg not hc5))) (d_cl (vs := [.int .i64 m2.1, .int .i64 (-1000000000000000), .int .i64 1000000000000000]) en103 (ac rfl (ac rfl (ac rfl rfl))) rfl ?_)
      refine (c103 m2.1 (-1000000000000000) 1000000000000000 m6 w1 hm6 ).mono ?_
      rintro _ w7 ⟨rfl, E7⟩
      refine ⟨_, rfl, ?_⟩
      have X8 : Ext w w7 := X3.trans E7
      refine da_on rfl (Eq.trans (show sl _ _ _ = .bool (!m2.2) from rfl) (congrArg Value.bool (congrArg not hc5))) (d_not rfl ?_)
      refine da_op rfl (d_pick (b := false) (Eq.trans (show ev _ _ = .bool (!m2.2) from rfl) (congrArg Value.bool (congrArg not hc5))) ?_)
      refine da_op rfl (d_mv (v := .bool (!m6)) rfl ?_)
      rcases Bool.eq_false_or_eq_true m6 with hc9 | hc9
      · skip
        replace hr := bif_t hr hc9
        refine da_on rfl (Eq.trans (show sl _ _ _ = .bool (!m6) from rfl) (congrArg Value.bool (congrArg not hc9))) (d_mv (v := .int .i64 m2.1) rfl ?_)
        obtain ⟨m10, hm10, hr⟩ := bind_out hr
        refine da_on rfl (Eq.trans (show sl _ _ _ = .bool (!m6) from rfl) (congrArg Value.bool (congrArg not hc9))) (d_cl (vs := [.int .i64 m2.1]) en59 (ac rfl rfl) rfl ?_)
        refine (c59 m2.1 m10 w7 hm10 (t_T10.ext X8)).mono ?_
        rintro _ w11 ⟨rfl, E11⟩
        refine ⟨_, rfl, ?_⟩
        have X12 : Ext w w11 := X8.trans E11
        refine da_on rfl (Eq.trans (show sl _ _ _ = .bool (!m6) from rfl) (congrArg Value.bool (congrArg not hc9))) (d_mv (v := .string (bs p0)) rfl ?_)
        refine da_on rfl (Eq.trans (show sl _ _ _ = .bool (!m6) from rfl) (congrArg Value.bool (congrArg not hc9))) (d_sne rfl rfl ?_)
        refine da_op rfl (d_pick (b := false) (Eq.trans (show ev _ _ = .bool (!m6) from rfl) (congrArg Value.bool (congrArg not hc9))) ?_)
        refine da_nil ?_
        obtain rfl := Option.some.inj hr
        exact ⟨rfl, (Ext.trans (Ext.trans (Ext.refl w1) E7) E11)⟩
      · skip
        replace hr := bif_f hr hc9
        refine da_off rfl (Eq.trans (show sl _ _ _ = .bool (!m6) from rfl) (congrArg Value.bool (congrArg not hc9))) (by decide) ?_
        refine da_off rfl (Eq.trans (show sl _ _ _ = .bool (!m6) from rfl) (congrArg Value.bool (congrArg not hc9))) (by decide) ?_
        refine da_off rfl (Eq.trans (show sl _ _ _ = .bool (!m6) from rfl) (congrArg Value.bool (congrArg not hc9))) (by decide) ?_
        refine da_off rfl (Eq.trans (show sl _ _ _ = .bool (!m6) from rfl) (congrArg Value.bool (congrArg not hc9))) (by decide) ?_
        refine da_op rfl (d_pick (b := true) (Eq.trans (show ev _ _ = .bool (!m6) from rfl) (congrArg Value.bool (congrArg not hc9))) ?_)
        refine da_nil ?_
        obtain rfl := Option.some.inj hr
        exact ⟨rfl, (Ext.trans (Ext.refl w1) E7)⟩
    · skip
      replace hr := bif_f hr hc5
      refine da_off rfl (Eq.trans (show sl _ _ _ = .bool (!m2.2) from rfl) (congrArg Value.bool (congrArg not hc5))) (by decide) ?_
      refine da_off rfl (Eq.trans (show sl _ _ _ = .bool (!m2.2) from rfl) (congrArg Value.bool (congrArg not hc5))) (by decide) ?_
      refine da_off rfl (Eq.trans (show sl _ _ _ = .bool (!m2.2) from rfl) (congrArg Value.bool (congrArg not hc5))) (by decide) ?_
      refine da_op rfl (d_pick (b := true) (Eq.trans (show ev _ _ = .bool (!m2.2) from rfl) (congrArg Value.bool (congrArg not hc5))) ?_)
      refine da_op rfl (d_mv (v := .bool true) rfl ?_)
      refine da_off rfl rfl (by decide) ?_
      refine da_off rfl rfl (by decide) ?_
      refine da_off rfl rfl (by decide) ?_
      refine da_off rfl rfl (by decide) ?_
      refine da_op rfl (d_pick (b := true) rfl ?_)
      refine da_nil ?_
      obtain rfl := Option.some.inj hr
      exact ⟨rfl, (Ext.refl w1)⟩
  · skip
    rintro σ4 w4 o4 ⟨s23_4, E4⟩
    have s4_4 : σ4 4 = .int .i64 m2.1 := (o4 4 rfl).trans rfl
    have X13 : Ext w w4 := X3.trans E4
    refine W_cond (b := m4) s23_4 (fun hc14 => ?_) (fun hc14 => ?_)
    · skip
      replace hr := bif_t hr hc14
      refine W_seq ?_
      refine W_region rfl ?_
      refine da_op rfl (d_as (v := .int .i64 0) rfl ?_)
      refine da_op rfl (d_as (v := .bool false) rfl ?_)
      refine da_nil ?_
      refine W_ret ?_
      obtain rfl := Option.some.inj hr
      refine ⟨_, res2 (rv_tmp rfl) (rv_tmp rfl), ?_⟩
      exact ⟨rfl, X13⟩
    · skip
      replace hr := bif_f hr hc14
      refine W_skip ?_
      refine W_seq ?_
      refine W_region rfl ?_
      refine da_op rfl (d_mv (v := .int .i64 m2.1) s4_4 ?_)
      refine da_op rfl (d_as (v := .int .i64 m2.1) rfl ?_)
      refine da_op rfl (d_as (v := .bool true) rfl ?_)
      refine da_nil ?_
      refine W_ret ?_
      obtain rfl := Option.some.inj hr
      refine ⟨_, res2 (rv_tmp rfl) (rv_tmp rfl), ?_⟩
      exact ⟨rfl, X13⟩
end Go.Proofs
