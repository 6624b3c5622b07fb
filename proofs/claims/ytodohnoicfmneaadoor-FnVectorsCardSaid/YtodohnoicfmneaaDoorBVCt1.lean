import Derived.Test.YtodohnoicfmneaaDoorBVCf
namespace Go.Proofs
open Go Go.Fl Go.RowKit Go.Rg
set_option maxRecDepth 100000
set_option linter.unusedVariables false
attribute [local irreducible] Go.Calls doAll Does DoesG W Wr
set_option maxHeartbeats 4000000 in
theorem c4 (p0 : List Int) (p1 : List Int) (p0a : Option Addr) (p0n : Nat) (p0c : Nat) (p1a : Option Addr) (p1n : Nat) (p1c : Nat) (r : Bool) (w : World) (hr : M.laws_b10Long p0 p1 = r) (p0R : RS w encI_u8 (Value.slice p0a p0n p0c) p0) (p1R : RS w encI_u8 (Value.slice p1a p1n p1c) p1) :
    Calls Tryd.prog 4 #[(Value.slice p0a p0n p0c), (Value.slice p1a p1n p1c)] w fun e w' => e = .returned (.bool r) ∧ Ext w w' := by
  refine calls_of_W Tryd.func4 rfl (Nat.le_of_ble_eq_true rfl) ?_
  refine W_seq ?_
  refine W_region rfl ?_
  refine da_op rfl (d_as (v := .bool false) rfl ?_)
  refine da_nil ?_
  refine W_seq ?_
  obtain ⟨m1, hm1, hr⟩ := letv_out hr
  refine W_cut (fun σ' w' => σ' 4 = .bool m1 ∧ Ext w w') rfl ?_ ?_
  · skip
    have hr := hm1
    refine da_op rfl (d_mv (v := (Value.slice p0a p0n p0c)) rfl ?_)
    refine da_op rfl (d_len (e := encI_u8) un22 rfl p0R ?_)
    refine da_op rfl (d_icmp cGtr rfl rfl ?_)
    refine da_op rfl (d_mv (v := .bool (icmp .gtr ((p0).length : Int) 1048576)) rfl ?_)
    rcases Bool.eq_false_or_eq_true (icmp .gtr ((p0).length : Int) 1048576) with hc2 | hc2
    · skip
      replace hr := bif_t hr hc2
      refine da_off rfl (Eq.trans (show sl _ _ _ = .bool (icmp .gtr ((p0).length : Int) 1048576) from rfl) (congrArg Value.bool hc2)) (by decide) ?_
      refine da_off rfl (Eq.trans (show sl _ _ _ = .bool (icmp .gtr ((p0).length : Int) 1048576) from rfl) (congrArg Value.bool hc2)) (by decide) ?_
      refine da_off rfl (Eq.trans (show sl _ _ _ = .bool (icmp .gtr ((p0).length : Int) 1048576) from rfl) (congrArg Value.bool hc2)) (by decide) ?_
      refine da_op rfl (d_pick (b := true) (Eq.trans (show ev _ _ = .bool (icmp .gtr ((p0).length : Int) 1048576) from rfl) (congrArg Value.bool hc2)) ?_)
      refine da_op rfl (d_as (v := .bool true) rfl ?_)
      refine da_nil ?_
      subst hr
      exact ⟨rfl, (Ext.refl w)⟩
    · skip
      replace hr := bif_f hr hc2
      refine da_on rfl (Eq.trans (show sl _ _ _ = .bool (icmp .gtr ((p0).length : Int) 1048576) from rfl) (congrArg Value.bool hc2)) (d_mv (v := (Value.slice p1a p1n p1c)) rfl ?_)
      refine da_on rfl (Eq.trans (show sl _ _ _ = .bool (icmp .gtr ((p0).length : Int) 1048576) from rfl) (congrArg Value.bool hc2)) (d_len (e := encI_u8) un22 rfl p1R ?_)
      refine da_on rfl (Eq.trans (show sl _ _ _ = .bool (icmp .gtr ((p0).length : Int) 1048576) from rfl) (congrArg Value.bool hc2)) (d_icmp cGtr rfl rfl ?_)
      refine da_op rfl (d_pick (b := false) (Eq.trans (show ev _ _ = .bool (icmp .gtr ((p0).length : Int) 1048576) from rfl) (congrArg Value.bool hc2)) ?_)
      refine da_op rfl (d_as (v := .bool (icmp .gtr ((p1).length : Int) 1048576)) rfl ?_)
      refine da_nil ?_
      subst hr
      exact ⟨rfl, (Ext.refl w)⟩
  · skip
    rintro σ1 w1 o1 ⟨s4_1, E1⟩
    have X3 : Ext w w1 := (Ext.refl w).trans E1
    refine W_ret ?_
    subst hr
    refine ⟨_, res1 (rv_tmp s4_1), ?_⟩
    exact ⟨rfl, X3⟩
set_option maxHeartbeats 4000000 in
theorem c21 (p0 : List Int) (p0a : Option Addr) (p0n : Nat) (p0c : Nat) (r : Sl00Src) (w : World) (hr : M.spec_l00From p0 = r) (p0R : RS w encI_u8 (Value.slice p0a p0n p0c) p0) :
    Calls Tryd.prog 21 #[(Value.slice p0a p0n p0c)] w fun e w' => ∃ q0b : Nat, ∃ q0v0a : Option Addr, ∃ q0v0n : Nat, ∃ q0v0c : Nat, e = .returned (.pointer (some ⟨q0b, 0, none⟩)) ∧ Hand (Value.slice p0a p0n p0c) p0 (Value.slice q0v0a q0v0n q0v0c) r.code ∧ w'.heap[q0b]? = some (.cells #[(Value.slice q0v0a q0v0n q0v0c), .int .i64 r.at_, .int .u64 r.seed] 54 (0, 0)) ∧ w.heap.size ≤ q0b ∧ Ext w w' := by
  refine calls_of_W Tryd.func21 rfl (Nat.le_of_ble_eq_true rfl) ?_
  refine W_seq ?_
  refine W_region rfl ?_
  refine da_op rfl (d_as (v := .pointer none) rfl ?_)
  refine da_nil ?_
  refine W_seq ?_
  refine W_region rfl ?_
  refine da_op rfl (d_mv (v := (Value.slice p0a p0n p0c)) rfl ?_)
  refine da_op rfl (d_bd (vs := [(0, (Value.slice p0a p0n p0c))]) (cs := #[(Value.slice p0a p0n p0c), .int .i64 0, .int .u64 0]) (pc rfl rfl) (by kernel_rfl) ?_)
  refine da_op rfl (d_box (cs := #[(Value.slice p0a p0n p0c), .int .i64 0, .int .u64 0]) rfl fun w1 B1 E1 => ?_)
  have own2 : w.heap.size ≤ w.heap.size := Nat.le_trans (Ext.refl w).size (Nat.le_refl _)
  have X3 : Ext w w1 := (Ext.refl w).trans E1
  refine da_op rfl (d_as (v := .pointer (some ⟨w.heap.size, 0, none⟩)) rfl ?_)
  refine da_nil ?_
  refine W_ret ?_
  subst hr
  refine ⟨_, res1 (rv_tmp rfl), ?_⟩
  exact ⟨w.heap.size, p0a, p0n, p0c, rfl, (.inl ⟨rfl, rfl⟩), B1, own2, X3⟩
set_option maxHeartbeats 4000000 in
theorem c32 (p0 : Sl00Src) (p0b : Nat) (p0v0a : Option Addr) (p0v0n : Nat) (p0v0c : Nat) (r : Int × Sl00Src) (w : World) (hr : M.spec_l00Src_next p0 = some r) (p0v0R : RS w encI_u8 (Value.slice p0v0a p0v0n p0v0c) p0.code) (p0B : w.heap[p0b]? = some (.cells #[(Value.slice p0v0a p0v0n p0v0c), .int .i64 p0.at_, .int .u64 p0.seed] 54 (0, 0))) (sp0_1 : ¬ (Value.slice p0v0a p0v0n p0v0c).ownBlock = some p0b) :
    Calls Tryd.prog 32 #[.pointer (some ⟨p0b, 0, none⟩)] w fun e w' => e = .returned (.int .i64 r.1) ∧ w'.heap[p0b]? = some (.cells #[(Value.slice p0v0a p0v0n p0v0c), .int .i64 r.2.at_, .int .u64 r.2.seed] 54 (0, 0)) ∧ Frm (fun k _ => k = p0b) w w' := by
  have X0 : Frm (fun k _ => k = p0b) w w := Frm.refl _ w
  refine calls_of_W Tryd.func32 rfl (Nat.le_of_ble_eq_true rfl) ?_
  refine W_seq ?_
  refine W_region rfl ?_
  refine da_op rfl (d_as (v := .int .i64 0) rfl ?_)
  refine da_nil ?_
  refine W_seq ?_
  refine W_region rfl ?_
  refine da_op rfl (d_as (v := .int .i64 0) rfl ?_)
  refine da_nil ?_
  refine W_seq ?_
  refine W_seq ?_
  refine W_any [] [{ V := fun _ v _ => v = (.pointer (some ⟨p0b, 0, none⟩)) }, { V := fun _ v _ => v = (.pointer (some ⟨p0b, 0, none⟩)) }, { V := fun _ v _ => v = (.pointer (some ⟨p0b, 1, none⟩)) }, { V := fun _ v _ => v = (.int .i64 p0.at_) }, { V := fun _ v _ => v = (.pointer (some ⟨p0b, 0, none⟩)) }, { V := fun _ v _ => v = (.pointer (some ⟨p0b, 0, none⟩)) }, { V := fun _ v _ => v = (.pointer (some ⟨p0b, 0, none⟩)) }, { V := fun _ v _ => v = (Value.slice p0v0a p0v0n p0v0c) }, { V := fun _ v _ => v = (.int .i64 ((p0.code).length : Int)) }, { V := fun _ v _ => v = (.bool (icmp .lss p0.at_ ((p0.code).length : Int))) }] mixed (by kernel_rfl) ⟨trivial, trivial, trivial, trivial, trivial, trivial, trivial, trivial, trivial, trivial, trivial⟩ ⟨?_, ?_, ?_, ?_, ?_, ?_, ?_, ?_, ?_, ?_, trivial⟩ ?_
  · skip
    refine ⟨fun _ _ _ _ _ _ h _ => h, fun _ _ h _ => h, fun σ' w' hA hE hD hP => ?_⟩
    have t0 : σ' 0 = .pointer (some ⟨p0b, 0, none⟩) := (hA 0 rfl).trans rfl
    have B0_2 : w'.heap[p0b]? = some (.cells #[(Value.slice p0v0a p0v0n p0v0c), .int .i64 p0.at_, .int .u64 p0.seed] 54 (0, 0)) := hE.heap not_oth0 p0B
    refine dg_op rfl (d_mv (v := .pointer (some ⟨p0b, 0, none⟩)) t0 ?_)
    exact ⟨rfl, own_none (Ext.refl w')⟩
  · skip
    refine ⟨fun _ _ _ _ _ _ h _ => h, fun _ _ h _ => h, fun σ' w' hA hE hD hP => ?_⟩
    have t4 : σ' 4 = (.pointer (some ⟨p0b, 0, none⟩)) := hD 0 rfl
    have B0_3 : w'.heap[p0b]? = some (.cells #[(Value.slice p0v0a p0v0n p0v0c), .int .i64 p0.at_, .int .u64 p0.seed] 54 (0, 0)) := hE.heap not_oth0 p0B
    refine dg_op rfl (d_nil t4 ?_)
    exact ⟨rfl, own_none (Ext.refl w')⟩
  · skip
    refine ⟨fun _ _ _ _ _ _ h _ => h, fun _ _ h _ => h, fun σ' w' hA hE hD hP => ?_⟩
    have t5 : σ' 5 = (.pointer (some ⟨p0b, 0, none⟩)) := hD 1 rfl
    have B0_4 : w'.heap[p0b]? = some (.cells #[(Value.slice p0v0a p0v0n p0v0c), .int .i64 p0.at_, .int .u64 p0.seed] 54 (0, 0)) := hE.heap not_oth0 p0B
    refine dg_op rfl (d_fieldAddr t5 (fa54_1 _ _) ?_)
    exact ⟨rfl, own_none (Ext.refl w')⟩
  · skip
    refine ⟨fun _ _ _ _ _ _ h _ => h, fun _ _ h _ => h, fun σ' w' hA hE hD hP => ?_⟩
    have t6 : σ' 6 = (.pointer (some ⟨p0b, 1, none⟩)) := hD 2 rfl
    have B0_5 : w'.heap[p0b]? = some (.cells #[(Value.slice p0v0a p0v0n p0v0c), .int .i64 p0.at_, .int .u64 p0.seed] 54 (0, 0)) := hE.heap not_oth0 p0B
    refine dg_op rfl (d_load (v := .int .i64 p0.at_) t6 agg3 B0_5 rfl ?_)
    exact ⟨rfl, own_none (Ext.refl w')⟩
  · skip
    refine ⟨fun _ _ _ _ _ _ h _ => h, fun _ _ h _ => h, fun σ' w' hA hE hD hP => ?_⟩
    have t0 : σ' 0 = .pointer (some ⟨p0b, 0, none⟩) := (hA 0 rfl).trans rfl
    have B0_6 : w'.heap[p0b]? = some (.cells #[(Value.slice p0v0a p0v0n p0v0c), .int .i64 p0.at_, .int .u64 p0.seed] 54 (0, 0)) := hE.heap not_oth0 p0B
    refine dg_op rfl (d_mv (v := .pointer (some ⟨p0b, 0, none⟩)) t0 ?_)
    exact ⟨rfl, own_none (Ext.refl w')⟩
  · skip
    refine ⟨fun _ _ _ _ _ _ h _ => h, fun _ _ h _ => h, fun σ' w' hA hE hD hP => ?_⟩
    have t8 : σ' 8 = (.pointer (some ⟨p0b, 0, none⟩)) := hD 4 rfl
    have B0_7 : w'.heap[p0b]? = some (.cells #[(Value.slice p0v0a p0v0n p0v0c), .int .i64 p0.at_, .int .u64 p0.seed] 54 (0, 0)) := hE.heap not_oth0 p0B
    refine dg_op rfl (d_nil t8 ?_)
    exact ⟨rfl, own_none (Ext.refl w')⟩
  · skip
    refine ⟨fun _ _ _ _ _ _ h _ => h, fun _ _ h _ => h, fun σ' w' hA hE hD hP => ?_⟩
    have t9 : σ' 9 = (.pointer (some ⟨p0b, 0, none⟩)) := hD 5 rfl
    have B0_8 : w'.heap[p0b]? = some (.cells #[(Value.slice p0v0a p0v0n p0v0c), .int .i64 p0.at_, .int .u64 p0.seed] 54 (0, 0)) := hE.heap not_oth0 p0B
    refine dg_op rfl (d_fieldAddr t9 (fa54_0 _ _) ?_)
    exact ⟨rfl, own_none (Ext.refl w')⟩
  · skip
    refine ⟨fun _ _ _ _ _ _ h _ => h, fun _ _ h _ => h, fun σ' w' hA hE hD hP => ?_⟩
    have t10 : σ' 10 = (.pointer (some ⟨p0b, 0, none⟩)) := hD 6 rfl
    have B0_9 : w'.heap[p0b]? = some (.cells #[(Value.slice p0v0a p0v0n p0v0c), .int .i64 p0.at_, .int .u64 p0.seed] 54 (0, 0)) := hE.heap not_oth0 p0B
    refine dg_op rfl (d_load (v := (Value.slice p0v0a p0v0n p0v0c)) t10 agg22 B0_9 rfl ?_)
    exact ⟨rfl, own_none (Ext.refl w')⟩
  · skip
    refine ⟨fun _ _ _ _ _ _ h _ => h, fun _ _ h _ => h, fun σ' w' hA hE hD hP => ?_⟩
    have t11 : σ' 11 = (Value.slice p0v0a p0v0n p0v0c) := hD 7 rfl
    have B0_10 : RS w' encI_u8 (Value.slice p0v0a p0v0n p0v0c) p0.code := p0v0R.frm hE (fun k _ hk => not_oth0)
    refine dg_op rfl (d_len (e := encI_u8) un22 t11 B0_10 ?_)
    exact ⟨rfl, own_none (Ext.refl w')⟩
  · skip
    refine ⟨fun _ _ _ _ _ _ h _ => h, fun _ _ h _ => h, fun σ' w' hA hE hD hP => ?_⟩
    have t7 : σ' 7 = (.int .i64 p0.at_) := hD 3 rfl
    have t12 : σ' 12 = (.int .i64 ((p0.code).length : Int)) := hD 8 rfl
    refine dg_op rfl (d_icmp cLss t7 t12 ?_)
    exact ⟨rfl, own_none (Ext.refl w')⟩
  · skip
    intro σ1 w1 A1 E1 V1
    have E1x : Ext w w1 := ext_of_oth0 E1
    have s13_1 : σ1 13 = (.bool (icmp .lss p0.at_ ((p0.code).length : Int))) := V1 9 (Nat.le_of_ble_eq_true rfl)
    have s0_1 : σ1 0 = .pointer (some ⟨p0b, 0, none⟩) := (A1 0 rfl).trans rfl
    have s3_1 : σ1 3 = .int .i64 0 := (A1 3 rfl).trans rfl
    have X11 : Frm (fun k _ => k = p0b) w w1 := X0.trans E1x.frm
    refine W_cond (b := (icmp .lss p0.at_ ((p0.code).length : Int))) s13_1 (fun hc12 => ?_) (fun hc12 => ?_)
    · skip
      replace hr := bif_t hr hc12
      have B14 : w1.heap[p0b]? = some (.cells #[(Value.slice p0v0a p0v0n p0v0c), .int .i64 p0.at_, .int .u64 p0.seed] 54 (0, 0)) := E1x.heap p0B
      have B15 : RS w1 encI_u8 (Value.slice p0v0a p0v0n p0v0c) p0.code := p0v0R.ext E1x
      obtain ⟨m16, hm16, hr⟩ := bind_out hr
      refine W_any [] [{ V := fun _ v _ => v = (.pointer (some ⟨p0b, 0, none⟩)) }, { V := fun _ v _ => v = (.pointer (some ⟨p0b, 0, none⟩)) }, { V := fun _ v _ => v = (.pointer (some ⟨p0b, 0, none⟩)) }, { V := fun _ v _ => v = (Value.slice p0v0a p0v0n p0v0c) }, { V := fun _ v _ => v = (.pointer (some ⟨p0b, 0, none⟩)) }, { V := fun _ v _ => v = (.pointer (some ⟨p0b, 0, none⟩)) }, { V := fun _ v _ => v = (.pointer (some ⟨p0b, 1, none⟩)) }, { V := fun _ v _ => v = (.int .i64 p0.at_) }, { V := fun _ v _ => ∃ d13_8g : Nat, ∃ d13_8o : Nat, v = (.pointer (some ⟨d13_8g, d13_8o, none⟩)) ∧ EL encI_u8 (Value.slice p0v0a p0v0n p0v0c) (p0.code).length p0.at_ d13_8g d13_8o }, { V := fun _ v _ => v = (.int .u8 m16) }, { V := fun _ v _ => v = (.int .i64 (IntKind.i64.wrap m16)) }, { V := fun _ v _ => v = (.int .i64 (IntKind.i64.wrap m16)) }] mixed (by kernel_rfl) ⟨trivial, trivial, trivial, trivial, trivial, trivial, trivial, trivial, trivial, trivial, trivial, trivial, trivial⟩ ⟨?_, ?_, ?_, ?_, ?_, ?_, ?_, ?_, ?_, ?_, ?_, ?_, trivial⟩ ?_
      · skip
        refine ⟨fun _ _ _ _ _ _ h _ => h, fun _ _ h _ => h, fun σ' w' hA hE hD hP => ?_⟩
        have t0 : σ' 0 = .pointer (some ⟨p0b, 0, none⟩) := (hA 0 rfl).trans s0_1
        have B0_17 : w'.heap[p0b]? = some (.cells #[(Value.slice p0v0a p0v0n p0v0c), .int .i64 p0.at_, .int .u64 p0.seed] 54 (0, 0)) := hE.heap not_oth0 B14
        refine dg_op rfl (d_mv (v := .pointer (some ⟨p0b, 0, none⟩)) t0 ?_)
        exact ⟨rfl, own_none (Ext.refl w')⟩
      · skip
        refine ⟨fun _ _ _ _ _ _ h _ => h, fun _ _ h _ => h, fun σ' w' hA hE hD hP => ?_⟩
        have t14 : σ' 14 = (.pointer (some ⟨p0b, 0, none⟩)) := hD 0 rfl
        have B0_18 : w'.heap[p0b]? = some (.cells #[(Value.slice p0v0a p0v0n p0v0c), .int .i64 p0.at_, .int .u64 p0.seed] 54 (0, 0)) := hE.heap not_oth0 B14
        refine dg_op rfl (d_nil t14 ?_)
        exact ⟨rfl, own_none (Ext.refl w')⟩
      · skip
        refine ⟨fun _ _ _ _ _ _ h _ => h, fun _ _ h _ => h, fun σ' w' hA hE hD hP => ?_⟩
        have t15 : σ' 15 = (.pointer (some ⟨p0b, 0, none⟩)) := hD 1 rfl
        have B0_19 : w'.heap[p0b]? = some (.cells #[(Value.slice p0v0a p0v0n p0v0c), .int .i64 p0.at_, .int .u64 p0.seed] 54 (0, 0)) := hE.heap not_oth0 B14
        refine dg_op rfl (d_fieldAddr t15 (fa54_0 _ _) ?_)
        exact ⟨rfl, own_none (Ext.refl w')⟩
      · skip
        refine ⟨fun _ _ _ _ _ _ h _ => h, fun _ _ h _ => h, fun σ' w' hA hE hD hP => ?_⟩
        have t16 : σ' 16 = (.pointer (some ⟨p0b, 0, none⟩)) := hD 2 rfl
        have B0_20 : w'.heap[p0b]? = some (.cells #[(Value.slice p0v0a p0v0n p0v0c), .int .i64 p0.at_, .int .u64 p0.seed] 54 (0, 0)) := hE.heap not_oth0 B14
        refine dg_op rfl (d_load (v := (Value.slice p0v0a p0v0n p0v0c)) t16 agg22 B0_20 rfl ?_)
        exact ⟨rfl, own_none (Ext.refl w')⟩
      · skip
        refine ⟨fun _ _ _ _ _ _ h _ => h, fun _ _ h _ => h, fun σ' w' hA hE hD hP => ?_⟩
        have t0 : σ' 0 = .pointer (some ⟨p0b, 0, none⟩) := (hA 0 rfl).trans s0_1
        have B0_21 : w'.heap[p0b]? = some (.cells #[(Value.slice p0v0a p0v0n p0v0c), .int .i64 p0.at_, .int .u64 p0.seed] 54 (0, 0)) := hE.heap not_oth0 B14
        refine dg_op rfl (d_mv (v := .pointer (some ⟨p0b, 0, none⟩)) t0 ?_)
        exact ⟨rfl, own_none (Ext.refl w')⟩
      · skip
        refine ⟨fun _ _ _ _ _ _ h _ => h, fun _ _ h _ => h, fun σ' w' hA hE hD hP => ?_⟩
        have t18 : σ' 18 = (.pointer (some ⟨p0b, 0, none⟩)) := hD 4 rfl
        have B0_22 : w'.heap[p0b]? = some (.cells #[(Value.slice p0v0a p0v0n p0v0c), .int .i64 p0.at_, .int .u64 p0.seed] 54 (0, 0)) := hE.heap not_oth0 B14
        refine dg_op rfl (d_nil t18 ?_)
        exact ⟨rfl, own_none (Ext.refl w')⟩
      · skip
        refine ⟨fun _ _ _ _ _ _ h _ => h, fun _ _ h _ => h, fun σ' w' hA hE hD hP => ?_⟩
        have t19 : σ' 19 = (.pointer (some ⟨p0b, 0, none⟩)) := hD 5 rfl
        have B0_23 : w'.heap[p0b]? = some (.cells #[(Value.slice p0v0a p0v0n p0v0c), .int .i64 p0.at_, .int .u64 p0.seed] 54 (0, 0)) := hE.heap not_oth0 B14
        refine dg_op rfl (d_fieldAddr t19 (fa54_1 _ _) ?_)
        exact ⟨rfl, own_none (Ext.refl w')⟩
      · skip
        refine ⟨fun _ _ _ _ _ _ h _ => h, fun _ _ h _ => h, fun σ' w' hA hE hD hP => ?_⟩
        have t20 : σ' 20 = (.pointer (some ⟨p0b, 1, none⟩)) := hD 6 rfl
        have B0_24 : w'.heap[p0b]? = some (.cells #[(Value.slice p0v0a p0v0n p0v0c), .int .i64 p0.at_, .int .u64 p0.seed] 54 (0, 0)) := hE.heap not_oth0 B14
        refine dg_op rfl (d_load (v := .int .i64 p0.at_) t20 agg3 B0_24 rfl ?_)
        exact ⟨rfl, own_none (Ext.refl w')⟩
      · skip
        refine ⟨fun _ _ _ _ _ _ h _ => h, fun _ _ h _ => h, fun σ' w' hA hE hD hP => ?_⟩
        have t17 : σ' 17 = (Value.slice p0v0a p0v0n p0v0c) := hD 3 rfl
        have t21 : σ' 21 = (.int .i64 p0.at_) := hD 7 rfl
        have B0_25 : RS w' encI_u8 (Value.slice p0v0a p0v0n p0v0c) p0.code := B15.frm hE (fun k _ hk => not_oth0)
        refine dg_op rfl (d_indexE (e := encI_u8) (v := (Value.slice p0v0a p0v0n p0v0c)) un22 size5 t17 t21 B0_25 hm16 fun g26 o26 l26 => ?_)
        exact ⟨⟨g26, o26, rfl, l26⟩, own_none (Ext.refl _)⟩
      · skip
        refine ⟨fun _ _ _ _ _ _ h _ => h, fun _ _ h _ => h, fun σ' w' hA hE hD hP => ?_⟩
        obtain ⟨d13_8g, d13_8o, t22, d13_8gE⟩ : ∃ d13_8g : Nat, ∃ d13_8o : Nat, σ' 22 = (.pointer (some ⟨d13_8g, d13_8o, none⟩)) ∧ EL encI_u8 (Value.slice p0v0a p0v0n p0v0c) (p0.code).length p0.at_ d13_8g d13_8o := hD 8 rfl
        have B0_27 : RS w' encI_u8 (Value.slice p0v0a p0v0n p0v0c) p0.code := B15.frm hE (fun k _ hk => not_oth0)
        obtain ⟨d13_8c, d13_8T, d13_8f, d13_8vs, d13_8hg, d13_8P, d13_8hq⟩ := RS.el B0_27 d13_8gE hm16
        obtain rfl := dec_encI_u8 d13_8hq
        refine dg_op rfl (d_load (v := .int .u8 m16) t22 agg5 d13_8hg (sub_get (vs := #[.int .u8 m16]) d13_8P (i := 0) rfl) ?_)
        exact ⟨rfl, own_none (Ext.refl w')⟩
      · skip
        refine ⟨fun _ _ _ _ _ _ h _ => h, fun _ _ h _ => h, fun σ' w' hA hE hD hP => ?_⟩
        have t23 : σ' 23 = (.int .u8 m16) := hD 9 rfl
        refine dg_op rfl (d_iconv un5 un3 t23 ?_)
        exact ⟨rfl, own_none (Ext.refl w')⟩
      · skip
        refine ⟨fun _ _ _ _ _ _ h _ => h, fun _ _ h _ => h, fun σ' w' hA hE hD hP => ?_⟩
        have t24 : σ' 24 = (.int .i64 (IntKind.i64.wrap m16)) := hD 10 rfl
        refine dg_op rfl (d_as (v := .int .i64 (IntKind.i64.wrap m16)) t24 ?_)
        exact ⟨rfl, own_none (Ext.refl w')⟩
      · skip
        intro σ13 w13 A13 E13 V13
        have E13x : Ext w1 w13 := ext_of_oth0 E13
        have s3_13 : σ13 3 = (.int .i64 (IntKind.i64.wrap m16)) := V13 11 (Nat.le_of_ble_eq_true rfl)
        have s0_13 : σ13 0 = .pointer (some ⟨p0b, 0, none⟩) := (A13 0 rfl).trans s0_1
        have X28 : Frm (fun k _ => k = p0b) w w13 := X11.trans E13x.frm
        refine W_seq ?_
        refine W_region rfl ?_
        refine da_op rfl (d_mv (v := .pointer (some ⟨p0b, 0, none⟩)) s0_13 ?_)
        refine da_op rfl (d_nil rfl ?_)
        refine da_op rfl (d_fieldAddr rfl (fa54_1 _ _) ?_)
        have B29 : w13.heap[p0b]? = some (.cells #[(Value.slice p0v0a p0v0n p0v0c), .int .i64 p0.at_, .int .u64 p0.seed] 54 (0, 0)) := E13x.heap B14
        refine da_op rfl (d_load (v := .int .i64 p0.at_) rfl agg3 B29 rfl ?_)
        refine da_op rfl (d_iarith rfl rfl (.inl ⟨rfl, rfl⟩) ?_)
        refine da_op rfl (d_nil rfl ?_)
        refine da_op rfl (d_fieldAddr rfl (fa54_1 _ _) ?_)
        refine da_op rfl (d_store (vs := #[.int .i64 (IntKind.i64.wrap (p0.at_ + 1))]) rfl rfl B29 size3 (Nat.le_of_ble_eq_true rfl) rfl fun w30 S30 => ?_)
        have X31 : Frm (fun k _ => k = p0b) w w30 := Frm.step X28 S30.frmb (fun k _ hk => .inl hk)
        have B32 : w30.heap[p0b]? = some (.cells #[(Value.slice p0v0a p0v0n p0v0c), .int .i64 (IntKind.i64.wrap (p0.at_ + 1)), .int .u64 p0.seed] 54 (0, 0)) := S30.here
        refine da_nil ?_
        refine W_seq ?_
        refine W_region rfl ?_
        refine da_op rfl (d_mv (v := .pointer (some ⟨p0b, 0, none⟩)) s0_13 ?_)
        refine da_op rfl (d_mv (v := .pointer (some ⟨p0b, 0, none⟩)) s0_13 ?_)
        refine da_op rfl (d_nil rfl ?_)
        refine da_op rfl (d_fieldAddr rfl (fa54_2 _ _) ?_)
        refine da_op rfl (d_load (v := .int .u64 p0.seed) rfl agg52 B32 rfl ?_)
        refine da_op rfl (d_iarith rfl rfl (.inr (.inr ⟨rfl, rfl⟩)) ?_)
        refine da_op rfl (d_mv (v := .int .i64 (IntKind.i64.wrap m16)) s3_13 ?_)
        refine da_op rfl (d_iconv un3 un52 rfl ?_)
        refine da_op rfl (d_iarith rfl rfl (.inl ⟨rfl, rfl⟩) ?_)
        refine da_op rfl (d_iarith rfl rfl (.inl ⟨rfl, rfl⟩) ?_)
        refine da_op rfl (d_nil rfl ?_)
        refine da_op rfl (d_fieldAddr rfl (fa54_2 _ _) ?_)
        refine da_op rfl (d_store (vs := #[.int .u64 (IntKind.u64.wrap ((IntKind.u64.wrap ((IntKind.u64.wrap (p0.seed * 6364136223846793005)) + (IntKind.u64.wrap (IntKind.i64.wrap m16)))) + 1442695040888963407))]) rfl rfl B32 size52 (Nat.le_of_ble_eq_true rfl) rfl fun w33 S33 => ?_)
        have X34 : Frm (fun k _ => k = p0b) w w33 := Frm.step X31 S33.frmb (fun k _ hk => .inl hk)
        have B35 : w33.heap[p0b]? = some (.cells #[(Value.slice p0v0a p0v0n p0v0c), .int .i64 (IntKind.i64.wrap (p0.at_ + 1)), .int .u64 (IntKind.u64.wrap ((IntKind.u64.wrap ((IntKind.u64.wrap (p0.seed * 6364136223846793005)) + (IntKind.u64.wrap (IntKind.i64.wrap m16)))) + 1442695040888963407))] 54 (0, 0)) := S33.here
        refine da_nil ?_
        refine W_seq ?_
        refine W_seq ?_
        have B37 : RS w33 encI_u8 (Value.slice p0v0a p0v0n p0v0c) p0.code := ((B15.ext E13x).frm S30.frmb (fun k _ => (rb sp0_1) k)).frm S33.frmb (fun k _ => (rb sp0_1) k)
        refine W_any [] [{ V := fun _ v _ => v = (.pointer (some ⟨p0b, 0, none⟩)) }, { V := fun _ v _ => v = (.pointer (some ⟨p0b, 0, none⟩)) }, { V := fun _ v _ => v = (.pointer (some ⟨p0b, 1, none⟩)) }, { V := fun _ v _ => v = (.int .i64 (IntKind.i64.wrap (p0.at_ + 1))) }, { V := fun _ v _ => v = (.pointer (some ⟨p0b, 0, none⟩)) }, { V := fun _ v _ => v = (.pointer (some ⟨p0b, 0, none⟩)) }, { V := fun _ v _ => v = (.pointer (some ⟨p0b, 0, none⟩)) }, { V := fun _ v _ => v = (Value.slice p0v0a p0v0n p0v0c) }, { V := fun _ v _ => v = (.int .i64 ((p0.code).length : Int)) }, { V := fun _ v _ => v = (.bool (icmp .leq (IntKind.i64.wrap (p0.at_ + 1)) ((p0.code).length : Int))) }] mixed (by kernel_rfl) ⟨trivial, trivial, trivial, trivial, trivial, trivial, trivial, trivial, trivial, trivial, trivial⟩ ⟨?_, ?_, ?_, ?_, ?_, ?_, ?_, ?_, ?_, ?_, trivial⟩ ?_
        · skip
          refine ⟨fun _ _ _ _ _ _ h _ => h, fun _ _ h _ => h, fun σ' w' hA hE hD hP => ?_⟩
          have t0 : σ' 0 = .pointer (some ⟨p0b, 0, none⟩) := (hA 0 rfl).trans s0_13
          have B0_38 : w'.heap[p0b]? = some (.cells #[(Value.slice p0v0a p0v0n p0v0c), .int .i64 (IntKind.i64.wrap (p0.at_ + 1)), .int .u64 (IntKind.u64.wrap ((IntKind.u64.wrap ((IntKind.u64.wrap (p0.seed * 6364136223846793005)) + (IntKind.u64.wrap (IntKind.i64.wrap m16)))) + 1442695040888963407))] 54 (0, 0)) := hE.heap not_oth0 B35
          refine dg_op rfl (d_mv (v := .pointer (some ⟨p0b, 0, none⟩)) t0 ?_)
          exact ⟨rfl, own_none (Ext.refl w')⟩
        · skip
          refine ⟨fun _ _ _ _ _ _ h _ => h, fun _ _ h _ => h, fun σ' w' hA hE hD hP => ?_⟩
          have t44 : σ' 44 = (.pointer (some ⟨p0b, 0, none⟩)) := hD 0 rfl
          have B0_39 : w'.heap[p0b]? = some (.cells #[(Value.slice p0v0a p0v0n p0v0c), .int .i64 (IntKind.i64.wrap (p0.at_ + 1)), .int .u64 (IntKind.u64.wrap ((IntKind.u64.wrap ((IntKind.u64.wrap (p0.seed * 6364136223846793005)) + (IntKind.u64.wrap (IntKind.i64.wrap m16)))) + 1442695040888963407))] 54 (0, 0)) := hE.heap not_oth0 B35
          refine dg_op rfl (d_nil t44 ?_)
          exact ⟨rfl, own_none (Ext.refl w')⟩
        · skip
          refine ⟨fun _ _ _ _ _ _ h _ => h, fun _ _ h _ => h, fun σ' w' hA hE hD hP => ?_⟩
          have t45 : σ' 45 = (.pointer (some ⟨p0b, 0, none⟩)) := hD 1 rfl
          have B0_40 : w'.heap[p0b]? = some (.cells #[(Value.slice p0v0a p0v0n p0v0c), .int .i64 (IntKind.i64.wrap (p0.at_ + 1)), .int .u64 (IntKind.u64.wrap ((IntKind.u64.wrap ((IntKind.u64.wrap (p0.seed * 6364136223846793005)) + (IntKind.u64.wrap (IntKind.i64.wrap m16)))) + 1442695040888963407))] 54 (0, 0)) := hE.heap not_oth0 B35
          refine dg_op rfl (d_fieldAddr t45 (fa54_1 _ _) ?_)
          exact ⟨rfl, own_none (Ext.refl w')⟩
        · skip
          refine ⟨fun _ _ _ _ _ _ h _ => h, fun _ _ h _ => h, fun σ' w' hA hE hD hP => ?_⟩
          have t46 : σ' 46 = (.pointer (some ⟨p0b, 1, none⟩)) := hD 2 rfl
          have B0_41 : w'.heap[p0b]? = some (.cells #[(Value.slice p0v0a p0v0n p0v0c), .int .i64 (IntKind.i64.wrap (p0.at_ + 1)), .int .u64 (IntKind.u64.wrap ((IntKind.u64.wrap ((IntKind.u64.wrap (p0.seed * 6364136223846793005)) + (IntKind.u64.wrap (IntKind.i64.wrap m16)))) + 1442695040888963407))] 54 (0, 0)) := hE.heap not_oth0 B35
          refine dg_op rfl (d_load (v := .int .i64 (IntKind.i64.wrap (p0.at_ + 1))) t46 agg3 B0_41 rfl ?_)
          exact ⟨rfl, own_none (Ext.refl w')⟩
        · skip
          refine ⟨fun _ _ _ _ _ _ h _ => h, fun _ _ h _ => h, fun σ' w' hA hE hD hP => ?_⟩
          have t0 : σ' 0 = .pointer (some ⟨p0b, 0, none⟩) := (hA 0 rfl).trans s0_13
          have B0_42 : w'.heap[p0b]? = some (.cells #[(Value.slice p0v0a p0v0n p0v0c), .int .i64 (IntKind.i64.wrap (p0.at_ + 1)), .int .u64 (IntKind.u64.wrap ((IntKind.u64.wrap ((IntKind.u64.wrap (p0.seed * 6364136223846793005)) + (IntKind.u64.wrap (IntKind.i64.wrap m16)))) + 1442695040888963407))] 54 (0, 0)) := hE.heap not_oth0 B35
          refine dg_op rfl (d_mv (v := .pointer (some ⟨p0b, 0, none⟩)) t0 ?_)
          exact ⟨rfl, own_none (Ext.refl w')⟩
        · skip
          refine ⟨fun _ _ _ _ _ _ h _ => h, fun _ _ h _ => h, fun σ' w' hA hE hD hP => ?_⟩
          have t48 : σ' 48 = (.pointer (some ⟨p0b, 0, none⟩)) := hD 4 rfl
          have B0_43 : w'.heap[p0b]? = some (.cells #[(Value.slice p0v0a p0v0n p0v0c), .int .i64 (IntKind.i64.wrap (p0.at_ + 1)), .int .u64 (IntKind.u64.wrap ((IntKind.u64.wrap ((IntKind.u64.wrap (p0.seed * 6364136223846793005)) + (IntKind.u64.wrap (IntKind.i64.wrap m16)))) + 1442695040888963407))] 54 (0, 0)) := hE.heap not_oth0 B35
          refine dg_op rfl (d_nil t48 ?_)
          exact ⟨rfl, own_none (Ext.refl w')⟩
        · skip
          refine ⟨fun _ _ _ _ _ _ h _ => h, fun _ _ h _ => h, fun σ' w' hA hE hD hP => ?_⟩
          have t49 : σ' 49 = (.pointer (some ⟨p0b, 0, none⟩)) := hD 5 rfl
          have B0_44 : w'.heap[p0b]? = some (.cells #[(Value.slice p0v0a p0v0n p0v0c), .int .i64 (IntKind.i64.wrap (p0.at_ + 1)), .int .u64 (IntKind.u64.wrap ((IntKind.u64.wrap ((IntKind.u64.wrap (p0.seed * 6364136223846793005)) + (IntKind.u64.wrap (IntKind.i64.wrap m16)))) + 1442695040888963407))] 54 (0, 0)) := hE.heap not_oth0 B35
          refine dg_op rfl (d_fieldAddr t49 (fa54_0 _ _) ?_)
          exact ⟨rfl, own_none (Ext.refl w')⟩
        · skip
          refine ⟨fun _ _ _ _ _ _ h _ => h, fun _ _ h _ => h, fun σ' w' hA hE hD hP => ?_⟩
          have t50 : σ' 50 = (.pointer (some ⟨p0b, 0, none⟩)) := hD 6 rfl
          have B0_45 : w'.heap[p0b]? = some (.cells #[(Value.slice p0v0a p0v0n p0v0c), .int .i64 (IntKind.i64.wrap (p0.at_ + 1)), .int .u64 (IntKind.u64.wrap ((IntKind.u64.wrap ((IntKind.u64.wrap (p0.seed * 6364136223846793005)) + (IntKind.u64.wrap (IntKind.i64.wrap m16)))) + 1442695040888963407))] 54 (0, 0)) := hE.heap not_oth0 B35
          refine dg_op rfl (d_load (v := (Value.slice p0v0a p0v0n p0v0c)) t50 agg22 B0_45 rfl ?_)
          exact ⟨rfl, own_none (Ext.refl w')⟩
        · skip
          refine ⟨fun _ _ _ _ _ _ h _ => h, fun _ _ h _ => h, fun σ' w' hA hE hD hP => ?_⟩
          have t51 : σ' 51 = (Value.slice p0v0a p0v0n p0v0c) := hD 7 rfl
          have B0_46 : RS w' encI_u8 (Value.slice p0v0a p0v0n p0v0c) p0.code := B37.frm hE (fun k _ hk => not_oth0)
          refine dg_op rfl (d_len (e := encI_u8) un22 t51 B0_46 ?_)
          exact ⟨rfl, own_none (Ext.refl w')⟩
        · skip
          refine ⟨fun _ _ _ _ _ _ h _ => h, fun _ _ h _ => h, fun σ' w' hA hE hD hP => ?_⟩
          have t47 : σ' 47 = (.int .i64 (IntKind.i64.wrap (p0.at_ + 1))) := hD 3 rfl
          have t52 : σ' 52 = (.int .i64 ((p0.code).length : Int)) := hD 8 rfl
          refine dg_op rfl (d_icmp cLeq t47 t52 ?_)
          exact ⟨rfl, own_none (Ext.refl w')⟩
        · skip
          intro σ36 w36 A36 E36 V36
          have E36x : Ext w33 w36 := ext_of_oth0 E36
          have s53_36 : σ36 53 = (.bool (icmp .leq (IntKind.i64.wrap (p0.at_ + 1)) ((p0.code).length : Int))) := V36 9 (Nat.le_of_ble_eq_true rfl)
          have s0_36 : σ36 0 = .pointer (some ⟨p0b, 0, none⟩) := (A36 0 rfl).trans s0_13
          have s3_36 : σ36 3 = .int .i64 (IntKind.i64.wrap m16) := (A36 3 rfl).trans s3_13
          have X47 : Frm (fun k _ => k = p0b) w w36 := X34.trans E36x.frm
          refine W_cond (b := (icmp .leq (IntKind.i64.wrap (p0.at_ + 1)) ((p0.code).length : Int))) s53_36 (fun hc48 => ?_) (fun hc48 => ?_)
          · skip
            replace hr := bif_t hr hc48
            refine W_seq ?_
            refine W_region rfl ?_
            refine da_op rfl (d_mv (v := .int .i64 (IntKind.i64.wrap m16)) s3_36 ?_)
            refine da_op rfl (d_as (v := .int .i64 (IntKind.i64.wrap m16)) rfl ?_)
            refine da_nil ?_
            refine W_ret ?_
            have B49 : w36.heap[p0b]? = some (.cells #[(Value.slice p0v0a p0v0n p0v0c), .int .i64 (IntKind.i64.wrap (p0.at_ + 1)), .int .u64 (IntKind.u64.wrap ((IntKind.u64.wrap ((IntKind.u64.wrap (p0.seed * 6364136223846793005)) + (IntKind.u64.wrap (IntKind.i64.wrap m16)))) + 1442695040888963407))] 54 (0, 0)) := E36x.heap B35
            obtain rfl := Option.some.inj hr
            refine ⟨_, res1 (rv_tmp rfl), ?_⟩
            exact ⟨rfl, B49, X47⟩
          · skip
            replace hr := bif_f hr hc48
            refine W_skip ?_
            refine W_seq ?_
            refine W_region rfl ?_
            refine da_op rfl (d_mv (v := .pointer (some ⟨p0b, 0, none⟩)) s0_36 ?_)
            refine da_op rfl (d_nil rfl ?_)
            refine da_op rfl (d_fieldAddr rfl (fa54_2 _ _) ?_)
            have B50 : w36.heap[p0b]? = some (.cells #[(Value.slice p0v0a p0v0n p0v0c), .int .i64 (IntKind.i64.wrap (p0.at_ + 1)), .int .u64 (IntKind.u64.wrap ((IntKind.u64.wrap ((IntKind.u64.wrap (p0.seed * 6364136223846793005)) + (IntKind.u64.wrap (IntKind.i64.wrap m16)))) + 1442695040888963407))] 54 (0, 0)) := E36x.heap B35
            refine da_op rfl (d_load (v := .int .u64 (IntKind.u64.wrap ((IntKind.u64.wrap ((IntKind.u64.wrap (p0.seed * 6364136223846793005)) + (IntKind.u64.wrap (IntKind.i64.wrap m16)))) + 1442695040888963407))) rfl agg52 B50 rfl ?_)
            refine da_op rfl (d_shrL rfl rfl (n := 40) (by decide) ?_)
            refine da_op rfl (d_and rfl rfl ?_)
            refine da_op rfl (d_iconv un52 un2 rfl ?_)
            refine da_op rfl (d_as (v := .int .i64 (IntKind.i64.wrap (iand .u64 (((IntKind.u64.wrap ((IntKind.u64.wrap ((IntKind.u64.wrap (p0.seed * 6364136223846793005)) + (IntKind.u64.wrap (IntKind.i64.wrap m16)))) + 1442695040888963407))).fdiv (2 ^ 40)) 255))) rfl ?_)
            refine da_nil ?_
            refine W_ret ?_
            obtain rfl := Option.some.inj hr
            refine ⟨_, res1 (rv_tmp rfl), ?_⟩
            exact ⟨rfl, B50, X47⟩
    · skip
      replace hr := bif_f hr hc12
      refine W_skip ?_
      refine W_seq ?_
      refine W_region rfl ?_
      refine da_op rfl (d_mv (v := .pointer (some ⟨p0b, 0, none⟩)) s0_1 ?_)
      refine da_op rfl (d_nil rfl ?_)
      refine da_op rfl (d_fieldAddr rfl (fa54_1 _ _) ?_)
      have B51 : w1.heap[p0b]? = some (.cells #[(Value.slice p0v0a p0v0n p0v0c), .int .i64 p0.at_, .int .u64 p0.seed] 54 (0, 0)) := E1x.heap p0B
      refine da_op rfl (d_load (v := .int .i64 p0.at_) rfl agg3 B51 rfl ?_)
      refine da_op rfl (d_iarith rfl rfl (.inl ⟨rfl, rfl⟩) ?_)
      refine da_op rfl (d_nil rfl ?_)
      refine da_op rfl (d_fieldAddr rfl (fa54_1 _ _) ?_)
      refine da_op rfl (d_store (vs := #[.int .i64 (IntKind.i64.wrap (p0.at_ + 1))]) rfl rfl B51 size3 (Nat.le_of_ble_eq_true rfl) rfl fun w52 S52 => ?_)
      have X53 : Frm (fun k _ => k = p0b) w w52 := Frm.step X11 S52.frmb (fun k _ hk => .inl hk)
      have B54 : w52.heap[p0b]? = some (.cells #[(Value.slice p0v0a p0v0n p0v0c), .int .i64 (IntKind.i64.wrap (p0.at_ + 1)), .int .u64 p0.seed] 54 (0, 0)) := S52.here
      refine da_nil ?_
      refine W_seq ?_
      refine W_region rfl ?_
      refine da_op rfl (d_mv (v := .pointer (some ⟨p0b, 0, none⟩)) s0_1 ?_)
      refine da_op rfl (d_mv (v := .pointer (some ⟨p0b, 0, none⟩)) s0_1 ?_)
      refine da_op rfl (d_nil rfl ?_)
      refine da_op rfl (d_fieldAddr rfl (fa54_2 _ _) ?_)
      refine da_op rfl (d_load (v := .int .u64 p0.seed) rfl agg52 B54 rfl ?_)
      refine da_op rfl (d_iarith rfl rfl (.inr (.inr ⟨rfl, rfl⟩)) ?_)
      refine da_op rfl (d_mv (v := .int .i64 0) s3_1 ?_)
      refine da_op rfl (d_iconvL (r := 0) un3 un52 rfl (by decide) ?_)
      refine da_op rfl (d_iarith rfl rfl (.inl ⟨rfl, rfl⟩) ?_)
      refine da_op rfl (d_iarith rfl rfl (.inl ⟨rfl, rfl⟩) ?_)
      refine da_op rfl (d_nil rfl ?_)
      refine da_op rfl (d_fieldAddr rfl (fa54_2 _ _) ?_)
      refine da_op rfl (d_store (vs := #[.int .u64 (IntKind.u64.wrap ((IntKind.u64.wrap ((IntKind.u64.wrap (p0.seed * 6364136223846793005)) + 0)) + 1442695040888963407))]) rfl rfl B54 size52 (Nat.le_of_ble_eq_true rfl) rfl fun w55 S55 => ?_)
      have X56 : Frm (fun k _ => k = p0b) w w55 := Frm.step X53 S55.frmb (fun k _ hk => .inl hk)
      have B57 : w55.heap[p0b]? = some (.cells #[(Value.slice p0v0a p0v0n p0v0c), .int .i64 (IntKind.i64.wrap (p0.at_ + 1)), .int .u64 (IntKind.u64.wrap ((IntKind.u64.wrap ((IntKind.u64.wrap (p0.seed * 6364136223846793005)) + 0)) + 1442695040888963407))] 54 (0, 0)) := S55.here
      refine da_nil ?_
      refine W_seq ?_
      refine W_seq ?_
      have B59 : RS w55 encI_u8 (Value.slice p0v0a p0v0n p0v0c) p0.code := ((p0v0R.ext E1x).frm S52.frmb (fun k _ => (rb sp0_1) k)).frm S55.frmb (fun k _ => (rb sp0_1) k)
      refine W_any [] [{ V := fun _ v _ => v = (.pointer (some ⟨p0b, 0, none⟩)) }, { V := fun _ v _ => v = (.pointer (some ⟨p0b, 0, none⟩)) }, { V := fun _ v _ => v = (.pointer (some ⟨p0b, 1, none⟩)) }, { V := fun _ v _ => v = (.int .i64 (IntKind.i64.wrap (p0.at_ + 1))) }, { V := fun _ v _ => v = (.pointer (some ⟨p0b, 0, none⟩)) }, { V := fun _ v _ => v = (.pointer (some ⟨p0b, 0, none⟩)) }, { V := fun _ v _ => v = (.pointer (some ⟨p0b, 0, none⟩)) }, { V := fun _ v _ => v = (Value.slice p0v0a p0v0n p0v0c) }, { V := fun _ v _ => v = (.int .i64 ((p0.code).length : Int)) }, { V := fun _ v _ => v = (.bool (icmp .leq (IntKind.i64.wrap (p0.at_ + 1)) ((p0.code).length : Int))) }] mixed (by kernel_rfl) ⟨trivial, trivial, trivial, trivial, trivial, trivial, trivial, trivial, trivial, trivial, trivial⟩ ⟨?_, ?_, ?_, ?_, ?_, ?_, ?_, ?_, ?_, ?_, trivial⟩ ?_
      · skip
        refine ⟨fun _ _ _ _ _ _ h _ => h, fun _ _ h _ => h, fun σ' w' hA hE hD hP => ?_⟩
        have t0 : σ' 0 = .pointer (some ⟨p0b, 0, none⟩) := (hA 0 rfl).trans s0_1
        have B0_60 : w'.heap[p0b]? = some (.cells #[(Value.slice p0v0a p0v0n p0v0c), .int .i64 (IntKind.i64.wrap (p0.at_ + 1)), .int .u64 (IntKind.u64.wrap ((IntKind.u64.wrap ((IntKind.u64.wrap (p0.seed * 6364136223846793005)) + 0)) + 1442695040888963407))] 54 (0, 0)) := hE.heap not_oth0 B57
        refine dg_op rfl (d_mv (v := .pointer (some ⟨p0b, 0, none⟩)) t0 ?_)
        exact ⟨rfl, own_none (Ext.refl w')⟩
      · skip
        refine ⟨fun _ _ _ _ _ _ h _ => h, fun _ _ h _ => h, fun σ' w' hA hE hD hP => ?_⟩
        have t44 : σ' 44 = (.pointer (some ⟨p0b, 0, none⟩)) := hD 0 rfl
        have B0_61 : w'.heap[p0b]? = some (.cells #[(Value.slice p0v0a p0v0n p0v0c), .int .i64 (IntKind.i64.wrap (p0.at_ + 1)), .int .u64 (IntKind.u64.wrap ((IntKind.u64.wrap ((IntKind.u64.wrap (p0.seed * 6364136223846793005)) + 0)) + 1442695040888963407))] 54 (0, 0)) := hE.heap not_oth0 B57
        refine dg_op rfl (d_nil t44 ?_)
        exact ⟨rfl, own_none (Ext.refl w')⟩
      · skip
        refine ⟨fun _ _ _ _ _ _ h _ => h, fun _ _ h _ => h, fun σ' w' hA hE hD hP => ?_⟩
        have t45 : σ' 45 = (.pointer (some ⟨p0b, 0, none⟩)) := hD 1 rfl
        have B0_62 : w'.heap[p0b]? = some (.cells #[(Value.slice p0v0a p0v0n p0v0c), .int .i64 (IntKind.i64.wrap (p0.at_ + 1)), .int .u64 (IntKind.u64.wrap ((IntKind.u64.wrap ((IntKind.u64.wrap (p0.seed * 6364136223846793005)) + 0)) + 1442695040888963407))] 54 (0, 0)) := hE.heap not_oth0 B57
        refine dg_op rfl (d_fieldAddr t45 (fa54_1 _ _) ?_)
        exact ⟨rfl, own_none (Ext.refl w')⟩
      · skip
        refine ⟨fun _ _ _ _ _ _ h _ => h, fun _ _ h _ => h, fun σ' w' hA hE hD hP => ?_⟩
        have t46 : σ' 46 = (.pointer (some ⟨p0b, 1, none⟩)) := hD 2 rfl
        have B0_63 : w'.heap[p0b]? = some (.cells #[(Value.slice p0v0a p0v0n p0v0c), .int .i64 (IntKind.i64.wrap (p0.at_ + 1)), .int .u64 (IntKind.u64.wrap ((IntKind.u64.wrap ((IntKind.u64.wrap (p0.seed * 6364136223846793005)) + 0)) + 1442695040888963407))] 54 (0, 0)) := hE.heap not_oth0 B57
        refine dg_op rfl (d_load (v := .int .i64 (IntKind.i64.wrap (p0.at_ + 1))) t46 agg3 B0_63 rfl ?_)
        exact ⟨rfl, own_none (Ext.refl w')⟩
      · skip
        refine ⟨fun _ _ _ _ _ _ h _ => h, fun _ _ h _ => h, fun σ' w' hA hE hD hP => ?_⟩
        have t0 : σ' 0 = .pointer (some ⟨p0b, 0, none⟩) := (hA 0 rfl).trans s0_1
        have B0_64 : w'.heap[p0b]? = some (.cells #[(Value.slice p0v0a p0v0n p0v0c), .int .i64 (IntKind.i64.wrap (p0.at_ + 1)), .int .u64 (IntKind.u64.wrap ((IntKind.u64.wrap ((IntKind.u64.wrap (p0.seed * 6364136223846793005)) + 0)) + 1442695040888963407))] 54 (0, 0)) := hE.heap not_oth0 B57
        refine dg_op rfl (d_mv (v := .pointer (some ⟨p0b, 0, none⟩)) t0 ?_)
        exact ⟨rfl, own_none (Ext.refl w')⟩
      · skip
        refine ⟨fun _ _ _ _ _ _ h _ => h, fun _ _ h _ => h, fun σ' w' hA hE hD hP => ?_⟩
        have t48 : σ' 48 = (.pointer (some ⟨p0b, 0, none⟩)) := hD 4 rfl
        have B0_65 : w'.heap[p0b]? = some (.cells #[(Value.slice p0v0a p0v0n p0v0c), .int .i64 (IntKind.i64.wrap (p0.at_ + 1)), .int .u64 (IntKind.u64.wrap ((IntKind.u64.wrap ((IntKind.u64.wrap (p0.seed * 6364136223846793005)) + 0)) + 1442695040888963407))] 54 (0, 0)) := hE.heap not_oth0 B57
        refine dg_op rfl (d_nil t48 ?_)
        exact ⟨rfl, own_none (Ext.refl w')⟩
      · skip
        refine ⟨fun _ _ _ _ _ _ h _ => h, fun _ _ h _ => h, fun σ' w' hA hE hD hP => ?_⟩
        have t49 : σ' 49 = (.pointer (some ⟨p0b, 0, none⟩)) := hD 5 rfl
        have B0_66 : w'.heap[p0b]? = some (.cells #[(Value.slice p0v0a p0v0n p0v0c), .int .i64 (IntKind.i64.wrap (p0.at_ + 1)), .int .u64 (IntKind.u64.wrap ((IntKind.u64.wrap ((IntKind.u64.wrap (p0.seed * 6364136223846793005)) + 0)) + 1442695040888963407))] 54 (0, 0)) := hE.heap not_oth0 B57
        refine dg_op rfl (d_fieldAddr t49 (fa54_0 _ _) ?_)
        exact ⟨rfl, own_none (Ext.refl w')⟩
      · skip
        refine ⟨fun _ _ _ _ _ _ h _ => h, fun _ _ h _ => h, fun σ' w' hA hE hD hP => ?_⟩
        have t50 : σ' 50 = (.pointer (some ⟨p0b, 0, none⟩)) := hD 6 rfl
        have B0_67 : w'.heap[p0b]? = some (.cells #[(Value.slice p0v0a p0v0n p0v0c), .int .i64 (IntKind.i64.wrap (p0.at_ + 1)), .int .u64 (IntKind.u64.wrap ((IntKind.u64.wrap ((IntKind.u64.wrap (p0.seed * 6364136223846793005)) + 0)) + 1442695040888963407))] 54 (0, 0)) := hE.heap not_oth0 B57
        refine dg_op rfl (d_load (v := (Value.slice p0v0a p0v0n p0v0c)) t50 agg22 B0_67 rfl ?_)
        exact ⟨rfl, own_none (Ext.refl w')⟩
      · skip
        refine ⟨fun _ _ _ _ _ _ h _ => h, fun _ _ h _ => h, fun σ' w' hA hE hD hP => ?_⟩
        have t51 : σ' 51 = (Value.slice p0v0a p0v0n p0v0c) := hD 7 rfl
        have B0_68 : RS w' encI_u8 (Value.slice p0v0a p0v0n p0v0c) p0.code := B59.frm hE (fun k _ hk => not_oth0)
        refine dg_op rfl (d_len (e := encI_u8) un22 t51 B0_68 ?_)
        exact ⟨rfl, own_none (Ext.refl w')⟩
      · skip
        refine ⟨fun _ _ _ _ _ _ h _ => h, fun _ _ h _ => h, fun σ' w' hA hE hD hP => ?_⟩
        have t47 : σ' 47 = (.int .i64 (IntKind.i64.wrap (p0.at_ + 1))) := hD 3 rfl
        have t52 : σ' 52 = (.int .i64 ((p0.code).length : Int)) := hD 8 rfl
        refine dg_op rfl (d_icmp cLeq t47 t52 ?_)
        exact ⟨rfl, own_none (Ext.refl w')⟩
      · skip
        intro σ58 w58 A58 E58 V58
        have E58x : Ext w55 w58 := ext_of_oth0 E58
        have s53_58 : σ58 53 = (.bool (icmp .leq (IntKind.i64.wrap (p0.at_ + 1)) ((p0.code).length : Int))) := V58 9 (Nat.le_of_ble_eq_true rfl)
        have s0_58 : σ58 0 = .pointer (some ⟨p0b, 0, none⟩) := (A58 0 rfl).trans s0_1
        have s3_58 : σ58 3 = .int .i64 0 := (A58 3 rfl).trans s3_1
        have X69 : Frm (fun k _ => k = p0b) w w58 := X56.trans E58x.frm
        refine W_cond (b := (icmp .leq (IntKind.i64.wrap (p0.at_ + 1)) ((p0.code).length : Int))) s53_58 (fun hc70 => ?_) (fun hc70 => ?_)
        · skip
          replace hr := bif_t hr hc70
          refine W_seq ?_
          refine W_region rfl ?_
          refine da_op rfl (d_mv (v := .int .i64 0) s3_58 ?_)
          refine da_op rfl (d_as (v := .int .i64 0) rfl ?_)
          refine da_nil ?_
          refine W_ret ?_
          have B71 : w58.heap[p0b]? = some (.cells #[(Value.slice p0v0a p0v0n p0v0c), .int .i64 (IntKind.i64.wrap (p0.at_ + 1)), .int .u64 (IntKind.u64.wrap ((IntKind.u64.wrap ((IntKind.u64.wrap (p0.seed * 6364136223846793005)) + 0)) + 1442695040888963407))] 54 (0, 0)) := E58x.heap B57
          obtain rfl := Option.some.inj hr
          refine ⟨_, res1 (rv_tmp rfl), ?_⟩
          exact ⟨rfl, B71, X69⟩
        · skip
          replace hr := bif_f hr hc70
          refine W_skip ?_
          refine W_seq ?_
          refine W_region rfl ?_
          refine da_op rfl (d_mv (v := .pointer (some ⟨p0b, 0, none⟩)) s0_58 ?_)
          refine da_op rfl (d_nil rfl ?_)
          refine da_op rfl (d_fieldAddr rfl (fa54_2 _ _) ?_)
          have B72 : w58.heap[p0b]? = some (.cells #[(Value.slice p0v0a p0v0n p0v0c), .int .i64 (IntKind.i64.wrap (p0.at_ + 1)), .int .u64 (IntKind.u64.wrap ((IntKind.u64.wrap ((IntKind.u64.wrap (p0.seed * 6364136223846793005)) + 0)) + 1442695040888963407))] 54 (0, 0)) := E58x.heap B57
          refine da_op rfl (d_load (v := .int .u64 (IntKind.u64.wrap ((IntKind.u64.wrap ((IntKind.u64.wrap (p0.seed * 6364136223846793005)) + 0)) + 1442695040888963407))) rfl agg52 B72 rfl ?_)
          refine da_op rfl (d_shrL rfl rfl (n := 40) (by decide) ?_)
          refine da_op rfl (d_and rfl rfl ?_)
          refine da_op rfl (d_iconv un52 un2 rfl ?_)
          refine da_op rfl (d_as (v := .int .i64 (IntKind.i64.wrap (iand .u64 (((IntKind.u64.wrap ((IntKind.u64.wrap ((IntKind.u64.wrap (p0.seed * 6364136223846793005)) + 0)) + 1442695040888963407))).fdiv (2 ^ 40)) 255))) rfl ?_)
          refine da_nil ?_
          refine W_ret ?_
          obtain rfl := Option.some.inj hr
          refine ⟨_, res1 (rv_tmp rfl), ?_⟩
          exact ⟨rfl, B72, X69⟩
set_option maxHeartbeats 4000000 in
theorem c22 (p0 : Sl00Src) (p1 : Int) (p0b : Nat) (p0v0a : Option Addr) (p0v0n : Nat) (p0v0c : Nat) (r : Int × Sl00Src) (w : World) (hr : M.spec_l00Src_pick p0 p1 = some r) (p0v0R : RS w encI_u8 (Value.slice p0v0a p0v0n p0v0c) p0.code) (p0B : w.heap[p0b]? = some (.cells #[(Value.slice p0v0a p0v0n p0v0c), .int .i64 p0.at_, .int .u64 p0.seed] 54 (0, 0))) (sp0_1 : ¬ (Value.slice p0v0a p0v0n p0v0c).ownBlock = some p0b) :
    Calls Tryd.prog 22 #[.pointer (some ⟨p0b, 0, none⟩), .int .i64 p1] w fun e w' => e = .returned (.int .i64 r.1) ∧ w'.heap[p0b]? = some (.cells #[(Value.slice p0v0a p0v0n p0v0c), .int .i64 r.2.at_, .int .u64 r.2.seed] 54 (0, 0)) ∧ Frm (fun k _ => k = p0b) w w' := by
  have X0 : Frm (fun k _ => k = p0b) w w := Frm.refl _ w
  refine calls_of_W Tryd.func22 rfl (Nat.le_of_ble_eq_true rfl) ?_
  refine W_seq ?_
  refine W_region rfl ?_
  refine da_op rfl (d_as (v := .int .i64 0) rfl ?_)
  refine da_nil ?_
  refine W_seq ?_
  refine W_seq ?_
  refine W_region rfl ?_
  refine da_op rfl (d_mv (v := .int .i64 p1) rfl ?_)
  refine da_op rfl (d_icmp cLeq rfl rfl ?_)
  refine da_nil ?_
  refine W_cond (b := (icmp .leq p1 1)) rfl (fun hc1 => ?_) (fun hc1 => ?_)
  · skip
    replace hr := bif_t hr hc1
    refine W_seq ?_
    refine W_region rfl ?_
    refine da_op rfl (d_as (v := .int .i64 0) rfl ?_)
    refine da_nil ?_
    refine W_ret ?_
    obtain rfl := Option.some.inj hr
    refine ⟨_, res1 (rv_tmp rfl), ?_⟩
    exact ⟨rfl, p0B, X0⟩
  · skip
    replace hr := bif_f hr hc1
    refine W_skip ?_
    refine W_seq ?_
    refine W_region rfl ?_
    refine da_op rfl (d_mv (v := .pointer (some ⟨p0b, 0, none⟩)) rfl ?_)
    obtain ⟨m2, hm2, hr⟩ := bind_out hr
    refine da_op rfl (d_cl (vs := [.pointer (some ⟨p0b, 0, none⟩)]) en32 (ac rfl rfl) rfl ?_)
    refine (c32 p0 p0b p0v0a p0v0n p0v0c m2 w hm2 p0v0R p0B sp0_1).mono ?_
    rintro _ w3 ⟨rfl, q3_m0B, E3⟩
    refine ⟨_, rfl, ?_⟩
    have X4 : Frm (fun k _ => k = p0b) w w3 := Frm.step X0 E3 (fun k _ hk => .inl hk)
    refine da_op rfl (d_as (v := .int .i64 m2.1) rfl ?_)
    refine da_nil ?_
    refine W_seq ?_
    refine W_seq ?_
    refine W_region rfl ?_
    refine da_op rfl (d_mv (v := .int .i64 p1) rfl ?_)
    refine da_op rfl (d_icmp cGtr rfl rfl ?_)
    refine da_nil ?_
    refine W_cond (b := (icmp .gtr p1 200)) rfl (fun hc5 => ?_) (fun hc5 => ?_)
    · skip
      replace hr := bif_t hr hc5
      refine W_region rfl ?_
      refine da_op rfl (d_mv (v := .int .i64 m2.1) rfl ?_)
      refine da_op rfl (d_iarith rfl rfl (.inr (.inr ⟨rfl, rfl⟩)) ?_)
      refine da_op rfl (d_mv (v := .pointer (some ⟨p0b, 0, none⟩)) rfl ?_)
      obtain ⟨m6, hm6, hr⟩ := bind_out hr
      have B7 : RS w3 encI_u8 (Value.slice p0v0a p0v0n p0v0c) p0.code := p0v0R.frm E3 (fun k _ => (fun k hk => ((rb sp0_1) k hk)) k)
      refine da_op rfl (d_cl (vs := [.pointer (some ⟨p0b, 0, none⟩)]) en32 (ac rfl rfl) rfl ?_)
      refine (c32 (⟨p0.code, m2.2.at_, m2.2.seed⟩ : Sl00Src) p0b p0v0a p0v0n p0v0c m6 w3 hm6 B7 q3_m0B sp0_1).mono ?_
      rintro _ w8 ⟨rfl, q8_m0B, E8⟩
      refine ⟨_, rfl, ?_⟩
      have X9 : Frm (fun k _ => k = p0b) w w8 := Frm.step X4 E8 (fun k _ hk => .inl hk)
      refine da_op rfl (d_iarith rfl rfl (.inl ⟨rfl, rfl⟩) ?_)
      refine da_op rfl (d_as (v := .int .i64 (IntKind.i64.wrap ((IntKind.i64.wrap (m2.1 * 256)) + m6.1))) rfl ?_)
      refine da_nil ?_
      refine W_seq ?_
      refine W_region rfl ?_
      refine da_op rfl (d_mv (v := .int .i64 (IntKind.i64.wrap ((IntKind.i64.wrap (m2.1 * 256)) + m6.1))) rfl ?_)
      refine da_op rfl (d_mv (v := .int .i64 p1) rfl ?_)
      obtain ⟨m10, hm10, hr⟩ := bind_out hr
      refine da_op rfl (d_rem rfl rfl hm10 ?_)
      refine da_op rfl (d_as (v := .int .i64 m10) rfl ?_)
      refine da_nil ?_
      refine W_ret ?_
      obtain rfl := Option.some.inj hr
      refine ⟨_, res1 (rv_tmp rfl), ?_⟩
      exact ⟨rfl, q8_m0B, X9⟩
    · skip
      replace hr := bif_f hr hc5
      refine W_skip ?_
      refine W_seq ?_
      refine W_region rfl ?_
      refine da_op rfl (d_mv (v := .int .i64 m2.1) rfl ?_)
      refine da_op rfl (d_mv (v := .int .i64 p1) rfl ?_)
      obtain ⟨m11, hm11, hr⟩ := bind_out hr
      refine da_op rfl (d_rem rfl rfl hm11 ?_)
      refine da_op rfl (d_as (v := .int .i64 m11) rfl ?_)
      refine da_nil ?_
      refine W_ret ?_
      obtain rfl := Option.some.inj hr
      refine ⟨_, res1 (rv_tmp rfl), ?_⟩
      exact ⟨rfl, q3_m0B, X4⟩
set_option maxHeartbeats 4000000 in
theorem c5 (p0 : List Int) (p1 : Int) (p0a : Option Addr) (p0n : Nat) (p0c : Nat) (r : SVector) (w : World) (hr : M.spec_B10Vector p0 p1 = some r) (p0R : RS w encI_u8 (Value.slice p0a p0n p0c) p0) :
    Calls Tryd.prog 5 #[(Value.slice p0a p0n p0c), .int .i64 p1] w fun e w' => ∃ q0r0 : Nat, ∃ q0r1 : Nat, ∃ q0r2 : Nat, e = .returned (.agg #[.float .f32 q0r0, .float .f32 q0r1, .float .f32 q0r2]) ∧ cn .f32 q0r0 = r.x ∧ cn .f32 q0r1 = r.y ∧ cn .f32 q0r2 = r.z ∧ Ext w w' := by
  refine calls_of_W Tryd.func5 rfl (Nat.le_of_ble_eq_true rfl) ?_
  refine W_seq ?_
  refine W_region rfl ?_
  refine da_op rfl (d_alloc (cs := #[.float .f32 0, .float .f32 0, .float .f32 0]) zero26 rfl fun w1 B1 E1 => ?_)
  have own2 : w.heap.size ≤ w.heap.size := Nat.le_trans (Ext.refl w).size (Nat.le_refl _)
  have X3 : Ext w w1 := (Ext.refl w).trans E1
  refine da_nil ?_
  refine W_seq ?_
  refine W_region rfl ?_
  refine da_op rfl (d_mv (v := (Value.slice p0a p0n p0c)) rfl ?_)
  obtain ⟨m4, hm4, hr⟩ := letv_out hr
  have B5 : RS w1 encI_u8 (Value.slice p0a p0n p0c) p0 := p0R.ext X3
  refine da_op rfl (d_cl (vs := [(Value.slice p0a p0n p0c)]) en21 (ac rfl rfl) rfl ?_)
  refine (c21 p0 p0a p0n p0c m4 w1 hm4 B5).mono ?_
  rintro _ w6 ⟨q6_0b, q6_0v0a, q6_0v0n, q6_0v0c, rfl, q6_0v0H, q6_0B, q6_0G, E6⟩
  refine ⟨_, rfl, ?_⟩
  have own7 : w.heap.size ≤ q6_0b := Nat.le_trans X3.size q6_0G
  have sp8 : w.heap.size ≠ q6_0b := Nat.ne_of_lt (Nat.lt_of_lt_of_le (lt_heap B1) q6_0G)
  have X9 : Ext w w6 := X3.trans E6
  have B11 : RS w6 encI_u8 (Value.slice p0a p0n p0c) p0 := p0R.ext X9
  have O10 : RS w6 encI_u8 (Value.slice q6_0v0a q6_0v0n q6_0v0c) m4.code := Hand.rs q6_0v0H B11
  refine da_op rfl (d_as (v := .pointer (some ⟨q6_0b, 0, none⟩)) rfl ?_)
  refine da_nil ?_
  refine W_seq ?_
  refine W_region rfl ?_
  refine da_op rfl (d_mv (v := .pointer (some ⟨q6_0b, 0, none⟩)) rfl ?_)
  refine da_op rfl (d_mv (v := .int .i64 p1) rfl ?_)
  refine da_op rfl (d_iarith rfl rfl (.inr (.inr ⟨rfl, rfl⟩)) ?_)
  refine da_op rfl (d_iarith rfl rfl (.inl ⟨rfl, rfl⟩) ?_)
  obtain ⟨m12, hm12, hr⟩ := bind_out hr
  have B13 : w6.heap[w.heap.size]? = some (.cells #[.float .f32 0, .float .f32 0, .float .f32 0] 26 (0, 0)) := E6.heap B1
  refine da_op rfl (d_cl (vs := [.pointer (some ⟨q6_0b, 0, none⟩), .int .i64 (IntKind.i64.wrap ((IntKind.i64.wrap (2 * p1)) + 1))]) en22 (ac rfl (ac rfl rfl)) rfl ?_)
  refine (c22 m4 (IntKind.i64.wrap ((IntKind.i64.wrap (2 * p1)) + 1)) q6_0b q6_0v0a q6_0v0n q6_0v0c m12 w6 hm12 O10 q6_0B (fun e => old_ltb (Hand.lt q6_0v0H (RS.lt p0R)) own7 _ e rfl)).mono ?_
  rintro _ w14 ⟨rfl, q14_m0B, E14⟩
  refine ⟨_, rfl, ?_⟩
  have X15 : Ext w w14 := Ext.step X9 E14 (fun k _ hk => hk ▸ own7)
  refine da_op rfl (d_mv (v := .int .i64 p1) rfl ?_)
  refine da_op rfl (d_iarith rfl rfl (.inr (.inl ⟨rfl, rfl⟩)) ?_)
  refine da_op rfl (d_ofInt un2 un24 rfl ?_)
  refine da_op rfl (d_bd (vs := [(0, .float .f32 (fint .f32 (IntKind.i64.wrap (m12.1 - p1))))]) (cs := #[.float .f32 (fint .f32 (IntKind.i64.wrap (m12.1 - p1))), .float .f32 0, .float .f32 0]) (pc rfl rfl) (by kernel_rfl) ?_)
  have B17 : w14.heap[w.heap.size]? = some (.cells #[.float .f32 0, .float .f32 0, .float .f32 0] 26 (0, 0)) := E14.heap sp8 B13
  refine da_op rfl (d_alloc (cs := #[.float .f32 0, .float .f32 0, .float .f32 0]) zero26 rfl fun w16 B16 E16 => ?_)
  have own18 : w.heap.size ≤ w14.heap.size := Nat.le_trans X15.size (Nat.le_refl _)
  have sp19 : w.heap.size ≠ w14.heap.size := Nat.ne_of_lt (Nat.lt_of_lt_of_le (lt_heap B17) (Nat.le_refl _))
  have sp20 : q6_0b ≠ w14.heap.size := Nat.ne_of_lt (Nat.lt_of_lt_of_le (lt_heap q14_m0B) (Nat.le_refl _))
  have X21 : Ext w w16 := X15.trans E16
  refine da_op rfl (d_store (vs := #[.float .f32 (fint .f32 (IntKind.i64.wrap (m12.1 - p1))), .float .f32 0, .float .f32 0]) rfl rfl B16 size26 (Nat.le_of_ble_eq_true rfl) rfl fun w22 S22 => ?_)
  have X23 : Ext w w22 := Ext.step X21 S22.frmb (fun k _ hk => hk ▸ own18)
  have B24 : w22.heap[w14.heap.size]? = some (.cells #[.float .f32 (fint .f32 (IntKind.i64.wrap (m12.1 - p1))), .float .f32 0, .float .f32 0] 26 (0, 0)) := S22.here
  refine da_nil ?_
  refine W_seq ?_
  refine W_region rfl ?_
  refine da_op rfl (d_mv (v := .pointer (some ⟨q6_0b, 0, none⟩)) rfl ?_)
  refine da_op rfl (d_mv (v := .int .i64 p1) rfl ?_)
  refine da_op rfl (d_iarith rfl rfl (.inr (.inr ⟨rfl, rfl⟩)) ?_)
  refine da_op rfl (d_iarith rfl rfl (.inl ⟨rfl, rfl⟩) ?_)
  obtain ⟨m25, hm25, hr⟩ := bind_out hr
  have B26 : w22.heap[q6_0b]? = some (.cells #[(Value.slice q6_0v0a q6_0v0n q6_0v0c), .int .i64 m12.2.at_, .int .u64 m12.2.seed] 54 (0, 0)) := S22.frmb.heap sp20 (E16.heap q14_m0B)
  have B27 : RS w22 encI_u8 (Value.slice q6_0v0a q6_0v0n q6_0v0c) m4.code := ((O10.frm E14 (fun k _ => (fun k hk => ((old_ltb (Hand.lt q6_0v0H (RS.lt p0R)) own7) k hk)) k)).ext E16).frm S22.frmb (fun k _ => (old_ltb (Hand.lt q6_0v0H (RS.lt p0R)) own18) k)
  have B28 : w22.heap[w.heap.size]? = some (.cells #[.float .f32 0, .float .f32 0, .float .f32 0] 26 (0, 0)) := S22.frmb.heap sp19 (E16.heap B17)
  refine da_op rfl (d_cl (vs := [.pointer (some ⟨q6_0b, 0, none⟩), .int .i64 (IntKind.i64.wrap ((IntKind.i64.wrap (2 * p1)) + 1))]) en22 (ac rfl (ac rfl rfl)) rfl ?_)
  refine (c22 (⟨m4.code, m12.2.at_, m12.2.seed⟩ : Sl00Src) (IntKind.i64.wrap ((IntKind.i64.wrap (2 * p1)) + 1)) q6_0b q6_0v0a q6_0v0n q6_0v0c m25 w22 hm25 B27 B26 (fun e => old_ltb (Hand.lt q6_0v0H (RS.lt p0R)) own7 _ e rfl)).mono ?_
  rintro _ w29 ⟨rfl, q29_m0B, E29⟩
  refine ⟨_, rfl, ?_⟩
  have X30 : Ext w w29 := Ext.step X23 E29 (fun k _ hk => hk ▸ own7)
  refine da_op rfl (d_mv (v := .int .i64 p1) rfl ?_)
  refine da_op rfl (d_iarith rfl rfl (.inr (.inl ⟨rfl, rfl⟩)) ?_)
  refine da_op rfl (d_ofInt un2 un24 rfl ?_)
  refine da_op rfl (d_fieldAddr rfl (fa26_1 _ _) ?_)
  have B31 : w29.heap[w14.heap.size]? = some (.cells #[.float .f32 (fint .f32 (IntKind.i64.wrap (m12.1 - p1))), .float .f32 0, .float .f32 0] 26 (0, 0)) := E29.heap (Ne.symm sp20) B24
  refine da_op rfl (d_store (vs := #[.float .f32 (fint .f32 (IntKind.i64.wrap (m25.1 - p1)))]) rfl rfl B31 size24 (Nat.le_of_ble_eq_true rfl) rfl fun w32 S32 => ?_)
  have X33 : Ext w w32 := Ext.step X30 S32.frmb (fun k _ hk => hk ▸ own18)
  have B34 : w32.heap[w14.heap.size]? = some (.cells #[.float .f32 (fint .f32 (IntKind.i64.wrap (m12.1 - p1))), .float .f32 (fint .f32 (IntKind.i64.wrap (m25.1 - p1))), .float .f32 0] 26 (0, 0)) := S32.here
  refine da_nil ?_
  refine W_seq ?_
  refine W_region rfl ?_
  refine da_op rfl (d_mv (v := .pointer (some ⟨q6_0b, 0, none⟩)) rfl ?_)
  refine da_op rfl (d_mv (v := .int .i64 p1) rfl ?_)
  refine da_op rfl (d_iarith rfl rfl (.inr (.inr ⟨rfl, rfl⟩)) ?_)
  refine da_op rfl (d_iarith rfl rfl (.inl ⟨rfl, rfl⟩) ?_)
  obtain ⟨m35, hm35, hr⟩ := bind_out hr
  have B36 : w32.heap[q6_0b]? = some (.cells #[(Value.slice q6_0v0a q6_0v0n q6_0v0c), .int .i64 m25.2.at_, .int .u64 m25.2.seed] 54 (0, 0)) := S32.frmb.heap sp20 q29_m0B
  have B37 : RS w32 encI_u8 (Value.slice q6_0v0a q6_0v0n q6_0v0c) m4.code := (B27.frm E29 (fun k _ => (fun k hk => ((old_ltb (Hand.lt q6_0v0H (RS.lt p0R)) own7) k hk)) k)).frm S32.frmb (fun k _ => (old_ltb (Hand.lt q6_0v0H (RS.lt p0R)) own18) k)
  have B38 : w32.heap[w.heap.size]? = some (.cells #[.float .f32 0, .float .f32 0, .float .f32 0] 26 (0, 0)) := S32.frmb.heap sp19 (E29.heap sp8 B28)
  refine da_op rfl (d_cl (vs := [.pointer (some ⟨q6_0b, 0, none⟩), .int .i64 (IntKind.i64.wrap ((IntKind.i64.wrap (2 * p1)) + 1))]) en22 (ac rfl (ac rfl rfl)) rfl ?_)
  refine (c22 (⟨m4.code, m25.2.at_, m25.2.seed⟩ : Sl00Src) (IntKind.i64.wrap ((IntKind.i64.wrap (2 * p1)) + 1)) q6_0b q6_0v0a q6_0v0n q6_0v0c m35 w32 hm35 B37 B36 (fun e => old_ltb (Hand.lt q6_0v0H (RS.lt p0R)) own7 _ e rfl)).mono ?_
  rintro _ w39 ⟨rfl, q39_m0B, E39⟩
  refine ⟨_, rfl, ?_⟩
  have X40 : Ext w w39 := Ext.step X33 E39 (fun k _ hk => hk ▸ own7)
  refine da_op rfl (d_mv (v := .int .i64 p1) rfl ?_)
  refine da_op rfl (d_iarith rfl rfl (.inr (.inl ⟨rfl, rfl⟩)) ?_)
  refine da_op rfl (d_ofInt un2 un24 rfl ?_)
  refine da_op rfl (d_fieldAddr rfl (fa26_2 _ _) ?_)
  have B41 : w39.heap[w14.heap.size]? = some (.cells #[.float .f32 (fint .f32 (IntKind.i64.wrap (m12.1 - p1))), .float .f32 (fint .f32 (IntKind.i64.wrap (m25.1 - p1))), .float .f32 0] 26 (0, 0)) := E39.heap (Ne.symm sp20) B34
  refine da_op rfl (d_store (vs := #[.float .f32 (fint .f32 (IntKind.i64.wrap (m35.1 - p1)))]) rfl rfl B41 size24 (Nat.le_of_ble_eq_true rfl) rfl fun w42 S42 => ?_)
  have X43 : Ext w w42 := Ext.step X40 S42.frmb (fun k _ hk => hk ▸ own18)
  have B44 : w42.heap[w14.heap.size]? = some (.cells #[.float .f32 (fint .f32 (IntKind.i64.wrap (m12.1 - p1))), .float .f32 (fint .f32 (IntKind.i64.wrap (m25.1 - p1))), .float .f32 (fint .f32 (IntKind.i64.wrap (m35.1 - p1)))] 26 (0, 0)) := S42.here
  refine da_nil ?_
  refine W_seq ?_
  refine W_region rfl ?_
  refine da_op rfl (d_loads (vs := #[.float .f32 (fint .f32 (IntKind.i64.wrap (m12.1 - p1))), .float .f32 (fint .f32 (IntKind.i64.wrap (m25.1 - p1))), .float .f32 (fint .f32 (IntKind.i64.wrap (m35.1 - p1)))]) rfl agg26 size26 B44 rfl ?_)
  have B45 : w42.heap[w.heap.size]? = some (.cells #[.float .f32 0, .float .f32 0, .float .f32 0] 26 (0, 0)) := S42.frmb.heap sp19 (E39.heap sp8 B38)
  refine da_op rfl (d_store (vs := #[.float .f32 (fint .f32 (IntKind.i64.wrap (m12.1 - p1))), .float .f32 (fint .f32 (IntKind.i64.wrap (m25.1 - p1))), .float .f32 (fint .f32 (IntKind.i64.wrap (m35.1 - p1)))]) rfl rfl B45 size26 (Nat.le_of_ble_eq_true rfl) rfl fun w46 S46 => ?_)
  have X47 : Ext w w46 := Ext.step X43 S46.frmb (fun k _ hk => hk ▸ own2)
  have B48 : w46.heap[w.heap.size]? = some (.cells #[.float .f32 (fint .f32 (IntKind.i64.wrap (m12.1 - p1))), .float .f32 (fint .f32 (IntKind.i64.wrap (m25.1 - p1))), .float .f32 (fint .f32 (IntKind.i64.wrap (m35.1 - p1)))] 26 (0, 0)) := S46.here
  refine da_nil ?_
  refine W_ret ?_
  obtain rfl := Option.some.inj hr
  refine ⟨_, res1 (rv_cells (vs := #[.float .f32 (fint .f32 (IntKind.i64.wrap (m12.1 - p1))), .float .f32 (fint .f32 (IntKind.i64.wrap (m25.1 - p1))), .float .f32 (fint .f32 (IntKind.i64.wrap (m35.1 - p1)))]) rfl agg26 size26 B48 rfl), ?_⟩
  exact ⟨(fint .f32 (IntKind.i64.wrap (m12.1 - p1))), (fint .f32 (IntKind.i64.wrap (m25.1 - p1))), (fint .f32 (IntKind.i64.wrap (m35.1 - p1))), rfl, (cn_fint _ _), (cn_fint _ _), (cn_fint _ _), X47⟩
set_option maxHeartbeats 4000000 in
theorem c23 (p0 : Nat) (p1 : Nat) (p2 : Nat) (p3 : Nat) (p0r : Nat) (p1r : Nat) (p2r : Nat) (p3r : Nat) (r : Nat) (w : World) (hr : M.impl_crossed p0 p1 p2 p3 = r) (p0h : cn .f32 p0r = p0) (p1h : cn .f32 p1r = p1) (p2h : cn .f32 p2r = p2) (p3h : cn .f32 p3r = p3) :
    Calls Tryd.prog 23 #[.float .f32 p0r, .float .f32 p1r, .float .f32 p2r, .float .f32 p3r] w fun e w' => ∃ q0r : Nat, e = .returned (.float .f32 q0r) ∧ cn .f32 q0r = r ∧ Ext w w' := by
  refine calls_of_W Tryd.func23 rfl (Nat.le_of_ble_eq_true rfl) ?_
  refine W_seq ?_
  refine W_region rfl ?_
  refine da_op rfl (d_as (v := .float .f32 0) rfl ?_)
  refine da_nil ?_
  refine W_seq ?_
  refine W_region rfl ?_
  refine da_op rfl (d_mv (v := .float .f32 p0r) rfl ?_)
  refine da_op rfl (d_mv (v := .float .f32 p1r) rfl ?_)
  refine da_op rfl (d_fop (k := .f32) fMul rfl rfl p0h p1h fun r1 w1 h1 _ E1 => ?_)
  have X2 : Ext w w1 := (Ext.refl w).trans E1
  refine da_op rfl (d_mv (v := .float .f32 p2r) rfl ?_)
  refine da_op rfl (d_mv (v := .float .f32 p3r) rfl ?_)
  refine da_op rfl (d_fop (k := .f32) fMul rfl rfl p2h p3h fun r3 w3 h3 _ E3 => ?_)
  have X4 : Ext w w3 := X2.trans E3
  refine da_op rfl (d_fop (k := .f32) fSub rfl rfl h1 h3 fun r5 w5 h5 _ E5 => ?_)
  have X6 : Ext w w5 := X4.trans E5
  refine da_op rfl (d_as (v := .float .f32 r5) rfl ?_)
  refine da_nil ?_
  refine W_ret ?_
  subst hr
  refine ⟨_, res1 (rv_tmp rfl), ?_⟩
  exact ⟨r5, rfl, h5, X6⟩
set_option maxHeartbeats 4000000 in
theorem c6 (p0 : SVector) (p1 : SVector) (p0r0 : Nat) (p0r1 : Nat) (p0r2 : Nat) (p1r0 : Nat) (p1r1 : Nat) (p1r2 : Nat) (r : SVector) (w : World) (hr : M.impl_CrossOf p0 p1 = r) (p0h0 : cn .f32 p0r0 = p0.x) (p0h1 : cn .f32 p0r1 = p0.y) (p0h2 : cn .f32 p0r2 = p0.z) (p1h0 : cn .f32 p1r0 = p1.x) (p1h1 : cn .f32 p1r1 = p1.y) (p1h2 : cn .f32 p1r2 = p1.z) :
    Calls Tryd.prog 6 #[.agg #[.float .f32 p0r0, .float .f32 p0r1, .float .f32 p0r2], .agg #[.float .f32 p1r0, .float .f32 p1r1, .float .f32 p1r2]] w fun e w' => ∃ q0r0 : Nat, ∃ q0r1 : Nat, ∃ q0r2 : Nat, e = .returned (.agg #[.float .f32 q0r0, .float .f32 q0r1, .float .f32 q0r2]) ∧ cn .f32 q0r0 = r.x ∧ cn .f32 q0r1 = r.y ∧ cn .f32 q0r2 = r.z ∧ Ext w w' := by
  refine calls_of_W Tryd.func6 rfl (Nat.le_of_ble_eq_true rfl) ?_
  refine W_seq ?_
  refine W_region rfl ?_
  refine da_op rfl (d_box (cs := #[.float .f32 p0r0, .float .f32 p0r1, .float .f32 p0r2]) rfl fun w1 B1 E1 => ?_)
  have own2 : w.heap.size ≤ w.heap.size := Nat.le_trans (Ext.refl w).size (Nat.le_refl _)
  have X3 : Ext w w1 := (Ext.refl w).trans E1
  refine da_op rfl (d_box (cs := #[.float .f32 p1r0, .float .f32 p1r1, .float .f32 p1r2]) rfl fun w4 B4 E4 => ?_)
  have own5 : w.heap.size ≤ w1.heap.size := Nat.le_trans X3.size (Nat.le_refl _)
  have sp6 : w.heap.size ≠ w1.heap.size := Nat.ne_of_lt (Nat.lt_of_lt_of_le (lt_heap B1) (Nat.le_refl _))
  have X7 : Ext w w4 := X3.trans E4
  have B9 : w4.heap[w.heap.size]? = some (.cells #[.float .f32 p0r0, .float .f32 p0r1, .float .f32 p0r2] 26 (0, 0)) := E4.heap B1
  refine da_op rfl (d_alloc (cs := #[.float .f32 0, .float .f32 0, .float .f32 0]) zero26 rfl fun w8 B8 E8 => ?_)
  have own10 : w.heap.size ≤ w4.heap.size := Nat.le_trans X7.size (Nat.le_refl _)
  have sp11 : w.heap.size ≠ w4.heap.size := Nat.ne_of_lt (Nat.lt_of_lt_of_le (lt_heap B9) (Nat.le_refl _))
  have sp12 : w1.heap.size ≠ w4.heap.size := Nat.ne_of_lt (Nat.lt_of_lt_of_le (lt_heap B4) (Nat.le_refl _))
  have X13 : Ext w w8 := X7.trans E8
  refine da_nil ?_
  refine W_seq ?_
  have B15 : w8.heap[w.heap.size]? = some (.cells #[.float .f32 p0r0, .float .f32 p0r1, .float .f32 p0r2] 26 (0, 0)) := E8.heap B9
  have B16 : w8.heap[w1.heap.size]? = some (.cells #[.float .f32 p1r0, .float .f32 p1r1, .float .f32 p1r2] 26 (0, 0)) := E8.heap B4
  obtain ⟨m17, hm17, hr⟩ := letv_out hr
  obtain ⟨m18, hm18, hr⟩ := letv_out hr
  obtain ⟨m19, hm19, hr⟩ := letv_out hr
  refine W_anyT 28 [] [{ V := fun _ v _ => v = (.pointer (some ⟨w.heap.size, 1, none⟩)) }, { V := fun _ v _ => v = (.float .f32 p0r1) }, { V := fun _ v _ => v = (.pointer (some ⟨w1.heap.size, 2, none⟩)) }, { V := fun _ v _ => v = (.float .f32 p1r2) }, { V := fun _ v _ => v = (.pointer (some ⟨w.heap.size, 2, none⟩)) }, { V := fun _ v _ => v = (.float .f32 p0r2) }, { V := fun _ v _ => v = (.pointer (some ⟨w1.heap.size, 1, none⟩)) }, { V := fun _ v _ => v = (.float .f32 p1r1) }, { V := fun _ v _ => ∃ d14_8_0r : Nat, v = (.float .f32 d14_8_0r) ∧ cn .f32 d14_8_0r = m17 }, { V := fun _ v _ => v = (.pointer (some ⟨w.heap.size, 2, none⟩)) }, { V := fun _ v _ => v = (.float .f32 p0r2) }, { V := fun _ v _ => v = (.pointer (some ⟨w1.heap.size, 0, none⟩)) }, { V := fun _ v _ => v = (.float .f32 p1r0) }, { V := fun _ v _ => v = (.pointer (some ⟨w.heap.size, 0, none⟩)) }, { V := fun _ v _ => v = (.float .f32 p0r0) }, { V := fun _ v _ => v = (.pointer (some ⟨w1.heap.size, 2, none⟩)) }, { V := fun _ v _ => v = (.float .f32 p1r2) }, { V := fun _ v _ => ∃ d14_17_0r : Nat, v = (.float .f32 d14_17_0r) ∧ cn .f32 d14_17_0r = m18 }, { V := fun _ v _ => v = (.pointer (some ⟨w.heap.size, 0, none⟩)) }, { V := fun _ v _ => v = (.float .f32 p0r0) }, { V := fun _ v _ => v = (.pointer (some ⟨w1.heap.size, 1, none⟩)) }, { V := fun _ v _ => v = (.float .f32 p1r1) }, { V := fun _ v _ => v = (.pointer (some ⟨w.heap.size, 1, none⟩)) }, { V := fun _ v _ => v = (.float .f32 p0r1) }, { V := fun _ v _ => v = (.pointer (some ⟨w1.heap.size, 0, none⟩)) }, { V := fun _ v _ => v = (.float .f32 p1r0) }, { V := fun _ v _ => ∃ d14_26_0r : Nat, v = (.float .f32 d14_26_0r) ∧ cn .f32 d14_26_0r = m19 }, { V := fun _ v _ => ∃ d14_8_0r : Nat, ∃ d14_17_0r : Nat, ∃ d14_26_0r : Nat, v = (.agg #[.float .f32 d14_8_0r, .float .f32 d14_17_0r, .float .f32 d14_26_0r]) ∧ cn .f32 d14_8_0r = m17 ∧ cn .f32 d14_17_0r = m18 ∧ cn .f32 d14_26_0r = m19 }] mixed (by kernel_rfl) ⟨trivial, trivial, trivial, trivial, trivial, trivial, trivial, trivial, trivial, trivial, trivial, trivial, trivial, trivial, trivial, trivial, trivial, trivial, trivial, trivial, trivial, trivial, trivial, trivial, trivial, trivial, trivial, trivial, trivial⟩ ⟨?_, ?_, ?_, ?_, ?_, ?_, ?_, ?_, ?_, ?_, ?_, ?_, ?_, ?_, ?_, ?_, ?_, ?_, ?_, ?_, ?_, ?_, ?_, ?_, ?_, ?_, ?_, ?_, trivial⟩ ?_
  · skip
    refine ⟨fun _ _ _ _ _ _ h _ => h, fun _ _ h _ => h, fun σ' w' hA hE hD hP => ?_⟩
    have t2 : σ' 2 = .pointer (some ⟨w.heap.size, 0, none⟩) := (hA 2 rfl).trans rfl
    have B0_20 : w'.heap[w.heap.size]? = some (.cells #[.float .f32 p0r0, .float .f32 p0r1, .float .f32 p0r2] 26 (0, 0)) := hE.heap not_oth0 B15
    refine dg_op rfl (d_fieldAddr t2 (fa26_1 _ _) ?_)
    exact ⟨rfl, own_none (Ext.refl w')⟩
  · skip
    refine ⟨fun _ _ _ _ _ _ h _ => h, fun _ _ h _ => h, fun σ' w' hA hE hD hP => ?_⟩
    have t5 : σ' 5 = (.pointer (some ⟨w.heap.size, 1, none⟩)) := hD 0 rfl
    have B0_21 : w'.heap[w.heap.size]? = some (.cells #[.float .f32 p0r0, .float .f32 p0r1, .float .f32 p0r2] 26 (0, 0)) := hE.heap not_oth0 B15
    refine dg_op rfl (d_load (v := .float .f32 p0r1) t5 agg24 B0_21 rfl ?_)
    exact ⟨rfl, own_none (Ext.refl w')⟩
  · skip
    refine ⟨fun _ _ _ _ _ _ h _ => h, fun _ _ h _ => h, fun σ' w' hA hE hD hP => ?_⟩
    have t3 : σ' 3 = .pointer (some ⟨w1.heap.size, 0, none⟩) := (hA 3 rfl).trans rfl
    have B0_22 : w'.heap[w1.heap.size]? = some (.cells #[.float .f32 p1r0, .float .f32 p1r1, .float .f32 p1r2] 26 (0, 0)) := hE.heap not_oth0 B16
    refine dg_op rfl (d_fieldAddr t3 (fa26_2 _ _) ?_)
    exact ⟨rfl, own_none (Ext.refl w')⟩
  · skip
    refine ⟨fun _ _ _ _ _ _ h _ => h, fun _ _ h _ => h, fun σ' w' hA hE hD hP => ?_⟩
    have t7 : σ' 7 = (.pointer (some ⟨w1.heap.size, 2, none⟩)) := hD 2 rfl
    have B0_23 : w'.heap[w1.heap.size]? = some (.cells #[.float .f32 p1r0, .float .f32 p1r1, .float .f32 p1r2] 26 (0, 0)) := hE.heap not_oth0 B16
    refine dg_op rfl (d_load (v := .float .f32 p1r2) t7 agg24 B0_23 rfl ?_)
    exact ⟨rfl, own_none (Ext.refl w')⟩
  · skip
    refine ⟨fun _ _ _ _ _ _ h _ => h, fun _ _ h _ => h, fun σ' w' hA hE hD hP => ?_⟩
    have t2 : σ' 2 = .pointer (some ⟨w.heap.size, 0, none⟩) := (hA 2 rfl).trans rfl
    have B0_24 : w'.heap[w.heap.size]? = some (.cells #[.float .f32 p0r0, .float .f32 p0r1, .float .f32 p0r2] 26 (0, 0)) := hE.heap not_oth0 B15
    refine dg_op rfl (d_fieldAddr t2 (fa26_2 _ _) ?_)
    exact ⟨rfl, own_none (Ext.refl w')⟩
  · skip
    refine ⟨fun _ _ _ _ _ _ h _ => h, fun _ _ h _ => h, fun σ' w' hA hE hD hP => ?_⟩
    have t9 : σ' 9 = (.pointer (some ⟨w.heap.size, 2, none⟩)) := hD 4 rfl
    have B0_25 : w'.heap[w.heap.size]? = some (.cells #[.float .f32 p0r0, .float .f32 p0r1, .float .f32 p0r2] 26 (0, 0)) := hE.heap not_oth0 B15
    refine dg_op rfl (d_load (v := .float .f32 p0r2) t9 agg24 B0_25 rfl ?_)
    exact ⟨rfl, own_none (Ext.refl w')⟩
  · skip
    refine ⟨fun _ _ _ _ _ _ h _ => h, fun _ _ h _ => h, fun σ' w' hA hE hD hP => ?_⟩
    have t3 : σ' 3 = .pointer (some ⟨w1.heap.size, 0, none⟩) := (hA 3 rfl).trans rfl
    have B0_26 : w'.heap[w1.heap.size]? = some (.cells #[.float .f32 p1r0, .float .f32 p1r1, .float .f32 p1r2] 26 (0, 0)) := hE.heap not_oth0 B16
    refine dg_op rfl (d_fieldAddr t3 (fa26_1 _ _) ?_)
    exact ⟨rfl, own_none (Ext.refl w')⟩
  · skip
    refine ⟨fun _ _ _ _ _ _ h _ => h, fun _ _ h _ => h, fun σ' w' hA hE hD hP => ?_⟩
    have t11 : σ' 11 = (.pointer (some ⟨w1.heap.size, 1, none⟩)) := hD 6 rfl
    have B0_27 : w'.heap[w1.heap.size]? = some (.cells #[.float .f32 p1r0, .float .f32 p1r1, .float .f32 p1r2] 26 (0, 0)) := hE.heap not_oth0 B16
    refine dg_op rfl (d_load (v := .float .f32 p1r1) t11 agg24 B0_27 rfl ?_)
    exact ⟨rfl, own_none (Ext.refl w')⟩
  · skip
    refine ⟨fun _ _ _ _ _ _ h _ => h, fun _ _ h _ => h, fun σ' w' hA hE hD hP => ?_⟩
    have t6 : σ' 6 = (.float .f32 p0r1) := hD 1 rfl
    have t8 : σ' 8 = (.float .f32 p1r2) := hD 3 rfl
    have t10 : σ' 10 = (.float .f32 p0r2) := hD 5 rfl
    have t12 : σ' 12 = (.float .f32 p1r1) := hD 7 rfl
    refine dg_op rfl (d_cl (vs := [.float .f32 p0r1, .float .f32 p1r2, .float .f32 p0r2, .float .f32 p1r1]) en23 (ac t6 (ac t8 (ac t10 (ac t12 rfl)))) rfl ?_)
    refine (c23 p0.y p1.z p0.z p1.y p0r1 p1r2 p0r2 p1r1 m17 w' hm17 p0h1 p1h2 p0h2 p1h1).mono ?_
    rintro _ w28 ⟨q28_0r, rfl, q28_0h, E28⟩
    refine ⟨_, rfl, ?_⟩
    have X29 : Ext w' w28 := (Ext.refl w').trans E28
    exact ⟨⟨q28_0r, rfl, q28_0h⟩, own_none X29⟩
  · skip
    refine ⟨fun _ _ _ _ _ _ h _ => h, fun _ _ h _ => h, fun σ' w' hA hE hD hP => ?_⟩
    have t2 : σ' 2 = .pointer (some ⟨w.heap.size, 0, none⟩) := (hA 2 rfl).trans rfl
    have B0_30 : w'.heap[w.heap.size]? = some (.cells #[.float .f32 p0r0, .float .f32 p0r1, .float .f32 p0r2] 26 (0, 0)) := hE.heap not_oth0 B15
    refine dg_op rfl (d_fieldAddr t2 (fa26_2 _ _) ?_)
    exact ⟨rfl, own_none (Ext.refl w')⟩
  · skip
    refine ⟨fun _ _ _ _ _ _ h _ => h, fun _ _ h _ => h, fun σ' w' hA hE hD hP => ?_⟩
    have t14 : σ' 14 = (.pointer (some ⟨w.heap.size, 2, none⟩)) := hD 9 rfl
    have B0_31 : w'.heap[w.heap.size]? = some (.cells #[.float .f32 p0r0, .float .f32 p0r1, .float .f32 p0r2] 26 (0, 0)) := hE.heap not_oth0 B15
    refine dg_op rfl (d_load (v := .float .f32 p0r2) t14 agg24 B0_31 rfl ?_)
    exact ⟨rfl, own_none (Ext.refl w')⟩
  · skip
    refine ⟨fun _ _ _ _ _ _ h _ => h, fun _ _ h _ => h, fun σ' w' hA hE hD hP => ?_⟩
    have t3 : σ' 3 = .pointer (some ⟨w1.heap.size, 0, none⟩) := (hA 3 rfl).trans rfl
    have B0_32 : w'.heap[w1.heap.size]? = some (.cells #[.float .f32 p1r0, .float .f32 p1r1, .float .f32 p1r2] 26 (0, 0)) := hE.heap not_oth0 B16
    refine dg_op rfl (d_fieldAddr t3 (fa26_0 _ _) ?_)
    exact ⟨rfl, own_none (Ext.refl w')⟩
  · skip
    refine ⟨fun _ _ _ _ _ _ h _ => h, fun _ _ h _ => h, fun σ' w' hA hE hD hP => ?_⟩
    have t16 : σ' 16 = (.pointer (some ⟨w1.heap.size, 0, none⟩)) := hD 11 rfl
    have B0_33 : w'.heap[w1.heap.size]? = some (.cells #[.float .f32 p1r0, .float .f32 p1r1, .float .f32 p1r2] 26 (0, 0)) := hE.heap not_oth0 B16
    refine dg_op rfl (d_load (v := .float .f32 p1r0) t16 agg24 B0_33 rfl ?_)
    exact ⟨rfl, own_none (Ext.refl w')⟩
  · skip
    refine ⟨fun _ _ _ _ _ _ h _ => h, fun _ _ h _ => h, fun σ' w' hA hE hD hP => ?_⟩
    have t2 : σ' 2 = .pointer (some ⟨w.heap.size, 0, none⟩) := (hA 2 rfl).trans rfl
    have B0_34 : w'.heap[w.heap.size]? = some (.cells #[.float .f32 p0r0, .float .f32 p0r1, .float .f32 p0r2] 26 (0, 0)) := hE.heap not_oth0 B15
    refine dg_op rfl (d_fieldAddr t2 (fa26_0 _ _) ?_)
    exact ⟨rfl, own_none (Ext.refl w')⟩
  · skip
    refine ⟨fun _ _ _ _ _ _ h _ => h, fun _ _ h _ => h, fun σ' w' hA hE hD hP => ?_⟩
    have t18 : σ' 18 = (.pointer (some ⟨w.heap.size, 0, none⟩)) := hD 13 rfl
    have B0_35 : w'.heap[w.heap.size]? = some (.cells #[.float .f32 p0r0, .float .f32 p0r1, .float .f32 p0r2] 26 (0, 0)) := hE.heap not_oth0 B15
    refine dg_op rfl (d_load (v := .float .f32 p0r0) t18 agg24 B0_35 rfl ?_)
    exact ⟨rfl, own_none (Ext.refl w')⟩
  · skip
    refine ⟨fun _ _ _ _ _ _ h _ => h, fun _ _ h _ => h, fun σ' w' hA hE hD hP => ?_⟩
    have t3 : σ' 3 = .pointer (some ⟨w1.heap.size, 0, none⟩) := (hA 3 rfl).trans rfl
    have B0_36 : w'.heap[w1.heap.size]? = some (.cells #[.float .f32 p1r0, .float .f32 p1r1, .float .f32 p1r2] 26 (0, 0)) := hE.heap not_oth0 B16
    refine dg_op rfl (d_fieldAddr t3 (fa26_2 _ _) ?_)
    exact ⟨rfl, own_none (Ext.refl w')⟩
  · skip
    refine ⟨fun _ _ _ _ _ _ h _ => h, fun _ _ h _ => h, fun σ' w' hA hE hD hP => ?_⟩
    have t20 : σ' 20 = (.pointer (some ⟨w1.heap.size, 2, none⟩)) := hD 15 rfl
    have B0_37 : w'.heap[w1.heap.size]? = some (.cells #[.float .f32 p1r0, .float .f32 p1r1, .float .f32 p1r2] 26 (0, 0)) := hE.heap not_oth0 B16
    refine dg_op rfl (d_load (v := .float .f32 p1r2) t20 agg24 B0_37 rfl ?_)
    exact ⟨rfl, own_none (Ext.refl w')⟩
  · skip
    refine ⟨fun _ _ _ _ _ _ h _ => h, fun _ _ h _ => h, fun σ' w' hA hE hD hP => ?_⟩
    have t15 : σ' 15 = (.float .f32 p0r2) := hD 10 rfl
    have t17 : σ' 17 = (.float .f32 p1r0) := hD 12 rfl
    have t19 : σ' 19 = (.float .f32 p0r0) := hD 14 rfl
    have t21 : σ' 21 = (.float .f32 p1r2) := hD 16 rfl
    refine dg_op rfl (d_cl (vs := [.float .f32 p0r2, .float .f32 p1r0, .float .f32 p0r0, .float .f32 p1r2]) en23 (ac t15 (ac t17 (ac t19 (ac t21 rfl)))) rfl ?_)
    refine (c23 p0.z p1.x p0.x p1.z p0r2 p1r0 p0r0 p1r2 m18 w' hm18 p0h2 p1h0 p0h0 p1h2).mono ?_
    rintro _ w38 ⟨q38_0r, rfl, q38_0h, E38⟩
    refine ⟨_, rfl, ?_⟩
    have X39 : Ext w' w38 := (Ext.refl w').trans E38
    exact ⟨⟨q38_0r, rfl, q38_0h⟩, own_none X39⟩
  · skip
    refine ⟨fun _ _ _ _ _ _ h _ => h, fun _ _ h _ => h, fun σ' w' hA hE hD hP => ?_⟩
    have t2 : σ' 2 = .pointer (some ⟨w.heap.size, 0, none⟩) := (hA 2 rfl).trans rfl
    have B0_40 : w'.heap[w.heap.size]? = some (.cells #[.float .f32 p0r0, .float .f32 p0r1, .float .f32 p0r2] 26 (0, 0)) := hE.heap not_oth0 B15
    refine dg_op rfl (d_fieldAddr t2 (fa26_0 _ _) ?_)
    exact ⟨rfl, own_none (Ext.refl w')⟩
  · skip
    refine ⟨fun _ _ _ _ _ _ h _ => h, fun _ _ h _ => h, fun σ' w' hA hE hD hP => ?_⟩
    have t23 : σ' 23 = (.pointer (some ⟨w.heap.size, 0, none⟩)) := hD 18 rfl
    have B0_41 : w'.heap[w.heap.size]? = some (.cells #[.float .f32 p0r0, .float .f32 p0r1, .float .f32 p0r2] 26 (0, 0)) := hE.heap not_oth0 B15
    refine dg_op rfl (d_load (v := .float .f32 p0r0) t23 agg24 B0_41 rfl ?_)
    exact ⟨rfl, own_none (Ext.refl w')⟩
  · skip
    refine ⟨fun _ _ _ _ _ _ h _ => h, fun _ _ h _ => h, fun σ' w' hA hE hD hP => ?_⟩
    have t3 : σ' 3 = .pointer (some ⟨w1.heap.size, 0, none⟩) := (hA 3 rfl).trans rfl
    have B0_42 : w'.heap[w1.heap.size]? = some (.cells #[.float .f32 p1r0, .float .f32 p1r1, .float .f32 p1r2] 26 (0, 0)) := hE.heap not_oth0 B16
    refine dg_op rfl (d_fieldAddr t3 (fa26_1 _ _) ?_)
    exact ⟨rfl, own_none (Ext.refl w')⟩
  · skip
    refine ⟨fun _ _ _ _ _ _ h _ => h, fun _ _ h _ => h, fun σ' w' hA hE hD hP => ?_⟩
    have t25 : σ' 25 = (.pointer (some ⟨w1.heap.size, 1, none⟩)) := hD 20 rfl
    have B0_43 : w'.heap[w1.heap.size]? = some (.cells #[.float .f32 p1r0, .float .f32 p1r1, .float .f32 p1r2] 26 (0, 0)) := hE.heap not_oth0 B16
    refine dg_op rfl (d_load (v := .float .f32 p1r1) t25 agg24 B0_43 rfl ?_)
    exact ⟨rfl, own_none (Ext.refl w')⟩
  · skip
    refine ⟨fun _ _ _ _ _ _ h _ => h, fun _ _ h _ => h, fun σ' w' hA hE hD hP => ?_⟩
    have t2 : σ' 2 = .pointer (some ⟨w.heap.size, 0, none⟩) := (hA 2 rfl).trans rfl
    have B0_44 : w'.heap[w.heap.size]? = some (.cells #[.float .f32 p0r0, .float .f32 p0r1, .float .f32 p0r2] 26 (0, 0)) := hE.heap not_oth0 B15
    refine dg_op rfl (d_fieldAddr t2 (fa26_1 _ _) ?_)
    exact ⟨rfl, own_none (Ext.refl w')⟩
  · skip
    refine ⟨fun _ _ _ _ _ _ h _ => h, fun _ _ h _ => h, fun σ' w' hA hE hD hP => ?_⟩
    have t27 : σ' 27 = (.pointer (some ⟨w.heap.size, 1, none⟩)) := hD 22 rfl
    have B0_45 : w'.heap[w.heap.size]? = some (.cells #[.float .f32 p0r0, .float .f32 p0r1, .float .f32 p0r2] 26 (0, 0)) := hE.heap not_oth0 B15
    refine dg_op rfl (d_load (v := .float .f32 p0r1) t27 agg24 B0_45 rfl ?_)
    exact ⟨rfl, own_none (Ext.refl w')⟩
  · skip
    refine ⟨fun _ _ _ _ _ _ h _ => h, fun _ _ h _ => h, fun σ' w' hA hE hD hP => ?_⟩
    have t3 : σ' 3 = .pointer (some ⟨w1.heap.size, 0, none⟩) := (hA 3 rfl).trans rfl
    have B0_46 : w'.heap[w1.heap.size]? = some (.cells #[.float .f32 p1r0, .float .f32 p1r1, .float .f32 p1r2] 26 (0, 0)) := hE.heap not_oth0 B16
    refine dg_op rfl (d_fieldAddr t3 (fa26_0 _ _) ?_)
    exact ⟨rfl, own_none (Ext.refl w')⟩
  · skip
    refine ⟨fun _ _ _ _ _ _ h _ => h, fun _ _ h _ => h, fun σ' w' hA hE hD hP => ?_⟩
    have t29 : σ' 29 = (.pointer (some ⟨w1.heap.size, 0, none⟩)) := hD 24 rfl
    have B0_47 : w'.heap[w1.heap.size]? = some (.cells #[.float .f32 p1r0, .float .f32 p1r1, .float .f32 p1r2] 26 (0, 0)) := hE.heap not_oth0 B16
    refine dg_op rfl (d_load (v := .float .f32 p1r0) t29 agg24 B0_47 rfl ?_)
    exact ⟨rfl, own_none (Ext.refl w')⟩
  · skip
    refine ⟨fun _ _ _ _ _ _ h _ => h, fun _ _ h _ => h, fun σ' w' hA hE hD hP => ?_⟩
    have t24 : σ' 24 = (.float .f32 p0r0) := hD 19 rfl
    have t26 : σ' 26 = (.float .f32 p1r1) := hD 21 rfl
    have t28 : σ' 28 = (.float .f32 p0r1) := hD 23 rfl
    have t30 : σ' 30 = (.float .f32 p1r0) := hD 25 rfl
    refine dg_op rfl (d_cl (vs := [.float .f32 p0r0, .float .f32 p1r1, .float .f32 p0r1, .float .f32 p1r0]) en23 (ac t24 (ac t26 (ac t28 (ac t30 rfl)))) rfl ?_)
    refine (c23 p0.x p1.y p0.y p1.x p0r0 p1r1 p0r1 p1r0 m19 w' hm19 p0h0 p1h1 p0h1 p1h0).mono ?_
    rintro _ w48 ⟨q48_0r, rfl, q48_0h, E48⟩
    refine ⟨_, rfl, ?_⟩
    have X49 : Ext w' w48 := (Ext.refl w').trans E48
    exact ⟨⟨q48_0r, rfl, q48_0h⟩, own_none X49⟩
  · skip
    refine ⟨fun _ _ _ _ _ _ h _ => h, fun _ _ h _ => h, fun σ' w' hA hE hD hP => ?_⟩
    obtain ⟨d14_8_0r, t13, d14_8_0h⟩ : ∃ d14_8_0r : Nat, σ' 13 = (.float .f32 d14_8_0r) ∧ cn .f32 d14_8_0r = m17 := hD 8 rfl
    obtain ⟨d14_17_0r, t22, d14_17_0h⟩ : ∃ d14_17_0r : Nat, σ' 22 = (.float .f32 d14_17_0r) ∧ cn .f32 d14_17_0r = m18 := hD 17 rfl
    obtain ⟨d14_26_0r, t31, d14_26_0h⟩ : ∃ d14_26_0r : Nat, σ' 31 = (.float .f32 d14_26_0r) ∧ cn .f32 d14_26_0r = m19 := hD 26 rfl
    refine dg_op rfl (d_bd (vs := [(0, .float .f32 d14_8_0r), (1, .float .f32 d14_17_0r), (2, .float .f32 d14_26_0r)]) (cs := #[.float .f32 d14_8_0r, .float .f32 d14_17_0r, .float .f32 d14_26_0r]) (pc t13 (pc t22 (pc t31 rfl))) (by kernel_rfl) ?_)
    exact ⟨⟨d14_8_0r, d14_17_0r, d14_26_0r, rfl, d14_8_0h, d14_17_0h, d14_26_0h⟩, own_none (Ext.refl w')⟩
  · skip
    intro σ14 w14 A14 E14 V14
    have E14x : Ext w8 w14 := ext_of_oth0 E14
    obtain ⟨z14_32_8_0r, z14_32_17_0r, z14_32_26_0r, s32_14, z14_32_8_0h, z14_32_17_0h, z14_32_26_0h⟩ : ∃ z14_32_8_0r : Nat, ∃ z14_32_17_0r : Nat, ∃ z14_32_26_0r : Nat, σ14 32 = (.agg #[.float .f32 z14_32_8_0r, .float .f32 z14_32_17_0r, .float .f32 z14_32_26_0r]) ∧ cn .f32 z14_32_8_0r = m17 ∧ cn .f32 z14_32_17_0r = m18 ∧ cn .f32 z14_32_26_0r = m19 := V14 27 (Nat.le_of_ble_eq_true rfl)
    have s4_14 : σ14 4 = .pointer (some ⟨w4.heap.size, 0, none⟩) := (A14 4 rfl).trans rfl
    have X50 : Ext w w14 := X13.trans E14x
    have B51 : w14.heap[w4.heap.size]? = some (.cells #[.float .f32 0, .float .f32 0, .float .f32 0] 26 (0, 0)) := E14x.heap B8
    refine da_op rfl (d_store (vs := #[.float .f32 z14_32_8_0r, .float .f32 z14_32_17_0r, .float .f32 z14_32_26_0r]) s4_14 (congrArg Value.cells s32_14) B51 size26 (Nat.le_of_ble_eq_true rfl) rfl fun w52 S52 => ?_)
    have X53 : Ext w w52 := Ext.step X50 S52.frmb (fun k _ hk => hk ▸ own10)
    have B54 : w52.heap[w4.heap.size]? = some (.cells #[.float .f32 z14_32_8_0r, .float .f32 z14_32_17_0r, .float .f32 z14_32_26_0r] 26 (0, 0)) := S52.here
    refine da_nil ?_
    refine W_ret ?_
    subst hr
    refine ⟨_, res1 (rv_cells (vs := #[.float .f32 z14_32_8_0r, .float .f32 z14_32_17_0r, .float .f32 z14_32_26_0r]) s4_14 agg26 size26 B54 rfl), ?_⟩
    exact ⟨z14_32_8_0r, z14_32_17_0r, z14_32_26_0r, rfl, z14_32_8_0h, z14_32_17_0h, z14_32_26_0h, X53⟩
set_option maxHeartbeats 4000000 in
theorem c8 (p0 : SVector) (p1 : SVector) (p0r0 : Nat) (p0r1 : Nat) (p0r2 : Nat) (p1r0 : Nat) (p1r1 : Nat) (p1r2 : Nat) (r : SVector) (w : World) (hr : M.impl_LessVectors p0 p1 = r) (p0h0 : cn .f32 p0r0 = p0.x) (p0h1 : cn .f32 p0r1 = p0.y) (p0h2 : cn .f32 p0r2 = p0.z) (p1h0 : cn .f32 p1r0 = p1.x) (p1h1 : cn .f32 p1r1 = p1.y) (p1h2 : cn .f32 p1r2 = p1.z) :
    Calls Tryd.prog 8 #[.agg #[.float .f32 p0r0, .float .f32 p0r1, .float .f32 p0r2], .agg #[.float .f32 p1r0, .float .f32 p1r1, .float .f32 p1r2]] w fun e w' => ∃ q0r0 : Nat, ∃ q0r1 : Nat, ∃ q0r2 : Nat, e = .returned (.agg #[.float .f32 q0r0, .float .f32 q0r1, .float .f32 q0r2]) ∧ cn .f32 q0r0 = r.x ∧ cn .f32 q0r1 = r.y ∧ cn .f32 q0r2 = r.z ∧ Ext w w' := by
  refine calls_of_W Tryd.func8 rfl (Nat.le_of_ble_eq_true rfl) ?_
  refine W_seq ?_
  refine W_region rfl ?_
  refine da_op rfl (d_box (cs := #[.float .f32 p0r0, .float .f32 p0r1, .float .f32 p0r2]) rfl fun w1 B1 E1 => ?_)
  have own2 : w.heap.size ≤ w.heap.size := Nat.le_trans (Ext.refl w).size (Nat.le_refl _)
  have X3 : Ext w w1 := (Ext.refl w).trans E1
  refine da_op rfl (d_box (cs := #[.float .f32 p1r0, .float .f32 p1r1, .float .f32 p1r2]) rfl fun w4 B4 E4 => ?_)
  have own5 : w.heap.size ≤ w1.heap.size := Nat.le_trans X3.size (Nat.le_refl _)
  have sp6 : w.heap.size ≠ w1.heap.size := Nat.ne_of_lt (Nat.lt_of_lt_of_le (lt_heap B1) (Nat.le_refl _))
  have X7 : Ext w w4 := X3.trans E4
  have B9 : w4.heap[w.heap.size]? = some (.cells #[.float .f32 p0r0, .float .f32 p0r1, .float .f32 p0r2] 26 (0, 0)) := E4.heap B1
  refine da_op rfl (d_alloc (cs := #[.float .f32 0, .float .f32 0, .float .f32 0]) zero26 rfl fun w8 B8 E8 => ?_)
  have own10 : w.heap.size ≤ w4.heap.size := Nat.le_trans X7.size (Nat.le_refl _)
  have sp11 : w.heap.size ≠ w4.heap.size := Nat.ne_of_lt (Nat.lt_of_lt_of_le (lt_heap B9) (Nat.le_refl _))
  have sp12 : w1.heap.size ≠ w4.heap.size := Nat.ne_of_lt (Nat.lt_of_lt_of_le (lt_heap B4) (Nat.le_refl _))
  have X13 : Ext w w8 := X7.trans E8
  refine da_nil ?_
  refine W_seq ?_
  refine W_region rfl ?_
  refine da_op rfl (d_fieldAddr rfl (fa26_0 _ _) ?_)
  have B14 : w8.heap[w.heap.size]? = some (.cells #[.float .f32 p0r0, .float .f32 p0r1, .float .f32 p0r2] 26 (0, 0)) := E8.heap B9
  refine da_op rfl (d_load (v := .float .f32 p0r0) rfl agg24 B14 rfl ?_)
  refine da_op rfl (d_fieldAddr rfl (fa26_0 _ _) ?_)
  have B15 : w8.heap[w1.heap.size]? = some (.cells #[.float .f32 p1r0, .float .f32 p1r1, .float .f32 p1r2] 26 (0, 0)) := E8.heap B4
  refine da_op rfl (d_load (v := .float .f32 p1r0) rfl agg24 B15 rfl ?_)
  refine da_op rfl (d_fop (k := .f32) fSub rfl rfl p0h0 p1h0 fun r16 w16 h16 _ E16 => ?_)
  have X17 : Ext w w16 := X13.trans E16
  refine da_op rfl (d_fieldAddr rfl (fa26_1 _ _) ?_)
  have B18 : w16.heap[w.heap.size]? = some (.cells #[.float .f32 p0r0, .float .f32 p0r1, .float .f32 p0r2] 26 (0, 0)) := E16.heap B14
  refine da_op rfl (d_load (v := .float .f32 p0r1) rfl agg24 B18 rfl ?_)
  refine da_op rfl (d_fieldAddr rfl (fa26_1 _ _) ?_)
  have B19 : w16.heap[w1.heap.size]? = some (.cells #[.float .f32 p1r0, .float .f32 p1r1, .float .f32 p1r2] 26 (0, 0)) := E16.heap B15
  refine da_op rfl (d_load (v := .float .f32 p1r1) rfl agg24 B19 rfl ?_)
  refine da_op rfl (d_fop (k := .f32) fSub rfl rfl p0h1 p1h1 fun r20 w20 h20 _ E20 => ?_)
  have X21 : Ext w w20 := X17.trans E20
  refine da_op rfl (d_fieldAddr rfl (fa26_2 _ _) ?_)
  have B22 : w20.heap[w.heap.size]? = some (.cells #[.float .f32 p0r0, .float .f32 p0r1, .float .f32 p0r2] 26 (0, 0)) := E20.heap B18
  refine da_op rfl (d_load (v := .float .f32 p0r2) rfl agg24 B22 rfl ?_)
  refine da_op rfl (d_fieldAddr rfl (fa26_2 _ _) ?_)
  have B23 : w20.heap[w1.heap.size]? = some (.cells #[.float .f32 p1r0, .float .f32 p1r1, .float .f32 p1r2] 26 (0, 0)) := E20.heap B19
  refine da_op rfl (d_load (v := .float .f32 p1r2) rfl agg24 B23 rfl ?_)
  refine da_op rfl (d_fop (k := .f32) fSub rfl rfl p0h2 p1h2 fun r24 w24 h24 _ E24 => ?_)
  have X25 : Ext w w24 := X21.trans E24
  refine da_op rfl (d_bd (vs := [(0, .float .f32 r16), (1, .float .f32 r20), (2, .float .f32 r24)]) (cs := #[.float .f32 r16, .float .f32 r20, .float .f32 r24]) (pc rfl (pc rfl (pc rfl rfl))) (by kernel_rfl) ?_)
  have B26 : w24.heap[w4.heap.size]? = some (.cells #[.float .f32 0, .float .f32 0, .float .f32 0] 26 (0, 0)) := E24.heap (E20.heap (E16.heap B8))
  refine da_op rfl (d_store (vs := #[.float .f32 r16, .float .f32 r20, .float .f32 r24]) rfl rfl B26 size26 (Nat.le_of_ble_eq_true rfl) rfl fun w27 S27 => ?_)
  have X28 : Ext w w27 := Ext.step X25 S27.frmb (fun k _ hk => hk ▸ own10)
  have B29 : w27.heap[w4.heap.size]? = some (.cells #[.float .f32 r16, .float .f32 r20, .float .f32 r24] 26 (0, 0)) := S27.here
  refine da_nil ?_
  refine W_ret ?_
  subst hr
  refine ⟨_, res1 (rv_cells (vs := #[.float .f32 r16, .float .f32 r20, .float .f32 r24]) rfl agg26 size26 B29 rfl), ?_⟩
  exact ⟨r16, r20, r24, rfl, h16, h20, h24, X28⟩
set_option maxHeartbeats 4000000 in
theorem c7 (p0 : SVector) (p1 : SVector) (p0r0 : Nat) (p0r1 : Nat) (p0r2 : Nat) (p1r0 : Nat) (p1r1 : Nat) (p1r2 : Nat) (r : SVector) (w : World) (hr : M.impl_AddVectors p0 p1 = r) (p0h0 : cn .f32 p0r0 = p0.x) (p0h1 : cn .f32 p0r1 = p0.y) (p0h2 : cn .f32 p0r2 = p0.z) (p1h0 : cn .f32 p1r0 = p1.x) (p1h1 : cn .f32 p1r1 = p1.y) (p1h2 : cn .f32 p1r2 = p1.z) :
    Calls Tryd.prog 7 #[.agg #[.float .f32 p0r0, .float .f32 p0r1, .float .f32 p0r2], .agg #[.float .f32 p1r0, .float .f32 p1r1, .float .f32 p1r2]] w fun e w' => ∃ q0r0 : Nat, ∃ q0r1 : Nat, ∃ q0r2 : Nat, e = .returned (.agg #[.float .f32 q0r0, .float .f32 q0r1, .float .f32 q0r2]) ∧ cn .f32 q0r0 = r.x ∧ cn .f32 q0r1 = r.y ∧ cn .f32 q0r2 = r.z ∧ Ext w w' := by
  refine calls_of_W Tryd.func7 rfl (Nat.le_of_ble_eq_true rfl) ?_
  refine W_seq ?_
  refine W_region rfl ?_
  refine da_op rfl (d_box (cs := #[.float .f32 p0r0, .float .f32 p0r1, .float .f32 p0r2]) rfl fun w1 B1 E1 => ?_)
  have own2 : w.heap.size ≤ w.heap.size := Nat.le_trans (Ext.refl w).size (Nat.le_refl _)
  have X3 : Ext w w1 := (Ext.refl w).trans E1
  refine da_op rfl (d_box (cs := #[.float .f32 p1r0, .float .f32 p1r1, .float .f32 p1r2]) rfl fun w4 B4 E4 => ?_)
  have own5 : w.heap.size ≤ w1.heap.size := Nat.le_trans X3.size (Nat.le_refl _)
  have sp6 : w.heap.size ≠ w1.heap.size := Nat.ne_of_lt (Nat.lt_of_lt_of_le (lt_heap B1) (Nat.le_refl _))
  have X7 : Ext w w4 := X3.trans E4
  have B9 : w4.heap[w.heap.size]? = some (.cells #[.float .f32 p0r0, .float .f32 p0r1, .float .f32 p0r2] 26 (0, 0)) := E4.heap B1
  refine da_op rfl (d_alloc (cs := #[.float .f32 0, .float .f32 0, .float .f32 0]) zero26 rfl fun w8 B8 E8 => ?_)
  have own10 : w.heap.size ≤ w4.heap.size := Nat.le_trans X7.size (Nat.le_refl _)
  have sp11 : w.heap.size ≠ w4.heap.size := Nat.ne_of_lt (Nat.lt_of_lt_of_le (lt_heap B9) (Nat.le_refl _))
  have sp12 : w1.heap.size ≠ w4.heap.size := Nat.ne_of_lt (Nat.lt_of_lt_of_le (lt_heap B4) (Nat.le_refl _))
  have X13 : Ext w w8 := X7.trans E8
  refine da_nil ?_
  refine W_seq ?_
  refine W_region rfl ?_
  refine da_op rfl (d_fieldAddr rfl (fa26_0 _ _) ?_)
  have B14 : w8.heap[w.heap.size]? = some (.cells #[.float .f32 p0r0, .float .f32 p0r1, .float .f32 p0r2] 26 (0, 0)) := E8.heap B9
  refine da_op rfl (d_load (v := .float .f32 p0r0) rfl agg24 B14 rfl ?_)
  refine da_op rfl (d_fieldAddr rfl (fa26_0 _ _) ?_)
  have B15 : w8.heap[w1.heap.size]? = some (.cells #[.float .f32 p1r0, .float .f32 p1r1, .float .f32 p1r2] 26 (0, 0)) := E8.heap B4
  refine da_op rfl (d_load (v := .float .f32 p1r0) rfl agg24 B15 rfl ?_)
  refine da_op rfl (d_fop (k := .f32) fAdd rfl rfl p0h0 p1h0 fun r16 w16 h16 _ E16 => ?_)
  have X17 : Ext w w16 := X13.trans E16
  refine da_op rfl (d_fieldAddr rfl (fa26_1 _ _) ?_)
  have B18 : w16.heap[w.heap.size]? = some (.cells #[.float .f32 p0r0, .float .f32 p0r1, .float .f32 p0r2] 26 (0, 0)) := E16.heap B14
  refine da_op rfl (d_load (v := .float .f32 p0r1) rfl agg24 B18 rfl ?_)
  refine da_op rfl (d_fieldAddr rfl (fa26_1 _ _) ?_)
  have B19 : w16.heap[w1.heap.size]? = some (.cells #[.float .f32 p1r0, .float .f32 p1r1, .float .f32 p1r2] 26 (0, 0)) := E16.heap B15
  refine da_op rfl (d_load (v := .float .f32 p1r1) rfl agg24 B19 rfl ?_)
  refine da_op rfl (d_fop (k := .f32) fAdd rfl rfl p0h1 p1h1 fun r20 w20 h20 _ E20 => ?_)
  have X21 : Ext w w20 := X17.trans E20
  refine da_op rfl (d_fieldAddr rfl (fa26_2 _ _) ?_)
  have B22 : w20.heap[w.heap.size]? = some (.cells #[.float .f32 p0r0, .float .f32 p0r1, .float .f32 p0r2] 26 (0, 0)) := E20.heap B18
  refine da_op rfl (d_load (v := .float .f32 p0r2) rfl agg24 B22 rfl ?_)
  refine da_op rfl (d_fieldAddr rfl (fa26_2 _ _) ?_)
  have B23 : w20.heap[w1.heap.size]? = some (.cells #[.float .f32 p1r0, .float .f32 p1r1, .float .f32 p1r2] 26 (0, 0)) := E20.heap B19
  refine da_op rfl (d_load (v := .float .f32 p1r2) rfl agg24 B23 rfl ?_)
  refine da_op rfl (d_fop (k := .f32) fAdd rfl rfl p0h2 p1h2 fun r24 w24 h24 _ E24 => ?_)
  have X25 : Ext w w24 := X21.trans E24
  refine da_op rfl (d_bd (vs := [(0, .float .f32 r16), (1, .float .f32 r20), (2, .float .f32 r24)]) (cs := #[.float .f32 r16, .float .f32 r20, .float .f32 r24]) (pc rfl (pc rfl (pc rfl rfl))) (by kernel_rfl) ?_)
  have B26 : w24.heap[w4.heap.size]? = some (.cells #[.float .f32 0, .float .f32 0, .float .f32 0] 26 (0, 0)) := E24.heap (E20.heap (E16.heap B8))
  refine da_op rfl (d_store (vs := #[.float .f32 r16, .float .f32 r20, .float .f32 r24]) rfl rfl B26 size26 (Nat.le_of_ble_eq_true rfl) rfl fun w27 S27 => ?_)
  have X28 : Ext w w27 := Ext.step X25 S27.frmb (fun k _ hk => hk ▸ own10)
  have B29 : w27.heap[w4.heap.size]? = some (.cells #[.float .f32 r16, .float .f32 r20, .float .f32 r24] 26 (0, 0)) := S27.here
  refine da_nil ?_
  refine W_ret ?_
  subst hr
  refine ⟨_, res1 (rv_cells (vs := #[.float .f32 r16, .float .f32 r20, .float .f32 r24]) rfl agg26 size26 B29 rfl), ?_⟩
  exact ⟨r16, r20, r24, rfl, h16, h20, h24, X28⟩
set_option maxHeartbeats 4000000 in
theorem c9 (p0 : SVector) (p1 : Nat) (p0r0 : Nat) (p0r1 : Nat) (p0r2 : Nat) (p1r : Nat) (r : SVector) (w : World) (hr : M.impl_ScaleVector p0 p1 = r) (p0h0 : cn .f32 p0r0 = p0.x) (p0h1 : cn .f32 p0r1 = p0.y) (p0h2 : cn .f32 p0r2 = p0.z) (p1h : cn .f32 p1r = p1) :
    Calls Tryd.prog 9 #[.agg #[.float .f32 p0r0, .float .f32 p0r1, .float .f32 p0r2], .float .f32 p1r] w fun e w' => ∃ q0r0 : Nat, ∃ q0r1 : Nat, ∃ q0r2 : Nat, e = .returned (.agg #[.float .f32 q0r0, .float .f32 q0r1, .float .f32 q0r2]) ∧ cn .f32 q0r0 = r.x ∧ cn .f32 q0r1 = r.y ∧ cn .f32 q0r2 = r.z ∧ Ext w w' := by
  refine calls_of_W Tryd.func9 rfl (Nat.le_of_ble_eq_true rfl) ?_
  refine W_seq ?_
  refine W_region rfl ?_
  refine da_op rfl (d_box (cs := #[.float .f32 p0r0, .float .f32 p0r1, .float .f32 p0r2]) rfl fun w1 B1 E1 => ?_)
  have own2 : w.heap.size ≤ w.heap.size := Nat.le_trans (Ext.refl w).size (Nat.le_refl _)
  have X3 : Ext w w1 := (Ext.refl w).trans E1
  refine da_op rfl (d_alloc (cs := #[.float .f32 0, .float .f32 0, .float .f32 0]) zero26 rfl fun w4 B4 E4 => ?_)
  have own5 : w.heap.size ≤ w1.heap.size := Nat.le_trans X3.size (Nat.le_refl _)
  have sp6 : w.heap.size ≠ w1.heap.size := Nat.ne_of_lt (Nat.lt_of_lt_of_le (lt_heap B1) (Nat.le_refl _))
  have X7 : Ext w w4 := X3.trans E4
  refine da_nil ?_
  refine W_seq ?_
  refine W_region rfl ?_
  refine da_op rfl (d_fieldAddr rfl (fa26_0 _ _) ?_)
  have B8 : w4.heap[w.heap.size]? = some (.cells #[.float .f32 p0r0, .float .f32 p0r1, .float .f32 p0r2] 26 (0, 0)) := E4.heap B1
  refine da_op rfl (d_load (v := .float .f32 p0r0) rfl agg24 B8 rfl ?_)
  refine da_op rfl (d_mv (v := .float .f32 p1r) rfl ?_)
  refine da_op rfl (d_fop (k := .f32) fMul rfl rfl p0h0 p1h fun r9 w9 h9 _ E9 => ?_)
  have X10 : Ext w w9 := X7.trans E9
  refine da_op rfl (d_fieldAddr rfl (fa26_1 _ _) ?_)
  have B11 : w9.heap[w.heap.size]? = some (.cells #[.float .f32 p0r0, .float .f32 p0r1, .float .f32 p0r2] 26 (0, 0)) := E9.heap B8
  refine da_op rfl (d_load (v := .float .f32 p0r1) rfl agg24 B11 rfl ?_)
  refine da_op rfl (d_mv (v := .float .f32 p1r) rfl ?_)
  refine da_op rfl (d_fop (k := .f32) fMul rfl rfl p0h1 p1h fun r12 w12 h12 _ E12 => ?_)
  have X13 : Ext w w12 := X10.trans E12
  refine da_op rfl (d_fieldAddr rfl (fa26_2 _ _) ?_)
  have B14 : w12.heap[w.heap.size]? = some (.cells #[.float .f32 p0r0, .float .f32 p0r1, .float .f32 p0r2] 26 (0, 0)) := E12.heap B11
  refine da_op rfl (d_load (v := .float .f32 p0r2) rfl agg24 B14 rfl ?_)
  refine da_op rfl (d_mv (v := .float .f32 p1r) rfl ?_)
  refine da_op rfl (d_fop (k := .f32) fMul rfl rfl p0h2 p1h fun r15 w15 h15 _ E15 => ?_)
  have X16 : Ext w w15 := X13.trans E15
  refine da_op rfl (d_bd (vs := [(0, .float .f32 r9), (1, .float .f32 r12), (2, .float .f32 r15)]) (cs := #[.float .f32 r9, .float .f32 r12, .float .f32 r15]) (pc rfl (pc rfl (pc rfl rfl))) (by kernel_rfl) ?_)
  have B17 : w15.heap[w1.heap.size]? = some (.cells #[.float .f32 0, .float .f32 0, .float .f32 0] 26 (0, 0)) := E15.heap (E12.heap (E9.heap B4))
  refine da_op rfl (d_store (vs := #[.float .f32 r9, .float .f32 r12, .float .f32 r15]) rfl rfl B17 size26 (Nat.le_of_ble_eq_true rfl) rfl fun w18 S18 => ?_)
  have X19 : Ext w w18 := Ext.step X16 S18.frmb (fun k _ hk => hk ▸ own5)
  have B20 : w18.heap[w1.heap.size]? = some (.cells #[.float .f32 r9, .float .f32 r12, .float .f32 r15] 26 (0, 0)) := S18.here
  refine da_nil ?_
  refine W_ret ?_
  subst hr
  refine ⟨_, res1 (rv_cells (vs := #[.float .f32 r9, .float .f32 r12, .float .f32 r15]) rfl agg26 size26 B20 rfl), ?_⟩
  exact ⟨r9, r12, r15, rfl, h9, h12, h15, X19⟩
set_option maxHeartbeats 4000000 in
theorem c10 (p0 : SVector) (p1 : SVector) (p0r0 : Nat) (p0r1 : Nat) (p0r2 : Nat) (p1r0 : Nat) (p1r1 : Nat) (p1r2 : Nat) (r : Bool) (w : World) (hr : M.laws_b10VEqual p0 p1 = r) (p0h0 : cn .f32 p0r0 = p0.x) (p0h1 : cn .f32 p0r1 = p0.y) (p0h2 : cn .f32 p0r2 = p0.z) (p1h0 : cn .f32 p1r0 = p1.x) (p1h1 : cn .f32 p1r1 = p1.y) (p1h2 : cn .f32 p1r2 = p1.z) :
    Calls Tryd.prog 10 #[.agg #[.float .f32 p0r0, .float .f32 p0r1, .float .f32 p0r2], .agg #[.float .f32 p1r0, .float .f32 p1r1, .float .f32 p1r2]] w fun e w' => e = .returned (.bool r) ∧ Ext w w' := by
  refine calls_of_W Tryd.func10 rfl (Nat.le_of_ble_eq_true rfl) ?_
  refine W_seq ?_
  refine W_region rfl ?_
  refine da_op rfl (d_box (cs := #[.float .f32 p0r0, .float .f32 p0r1, .float .f32 p0r2]) rfl fun w1 B1 E1 => ?_)
  have own2 : w.heap.size ≤ w.heap.size := Nat.le_trans (Ext.refl w).size (Nat.le_refl _)
  have X3 : Ext w w1 := (Ext.refl w).trans E1
  refine da_op rfl (d_box (cs := #[.float .f32 p1r0, .float .f32 p1r1, .float .f32 p1r2]) rfl fun w4 B4 E4 => ?_)
  have own5 : w.heap.size ≤ w1.heap.size := Nat.le_trans X3.size (Nat.le_refl _)
  have sp6 : w.heap.size ≠ w1.heap.size := Nat.ne_of_lt (Nat.lt_of_lt_of_le (lt_heap B1) (Nat.le_refl _))
  have X7 : Ext w w4 := X3.trans E4
  refine da_op rfl (d_as (v := .bool false) rfl ?_)
  refine da_nil ?_
  refine W_seq ?_
  have B9 : w4.heap[w.heap.size]? = some (.cells #[.float .f32 p0r0, .float .f32 p0r1, .float .f32 p0r2] 26 (0, 0)) := E4.heap B1
  obtain ⟨m8, hm8, hr⟩ := letv_out hr
  refine W_cut (fun σ' w' => σ' 4 = .bool m8 ∧ Ext w4 w') rfl ?_ ?_
  · skip
    have hr := hm8
    refine da_op rfl (d_fieldAddr rfl (fa26_0 _ _) ?_)
    refine da_op rfl (d_load (v := .float .f32 p0r0) rfl agg24 B9 rfl ?_)
    refine da_op rfl (d_fieldAddr rfl (fa26_0 _ _) ?_)
    refine da_op rfl (d_load (v := .float .f32 p1r0) rfl agg24 B4 rfl ?_)
    refine da_op rfl (d_fcmp (k := .f32) cEql rfl rfl p0h0 p1h0 ?_)
    refine da_op rfl (d_mv (v := .bool (fcmp .eql .f32 p0.x p1.x)) rfl ?_)
    rcases Bool.eq_false_or_eq_true (fcmp .eql .f32 p0.x p1.x) with hc10 | hc10
    · skip
      replace hr := bif_t hr hc10
      refine da_on rfl (Eq.trans (show sl _ _ _ = .bool (fcmp .eql .f32 p0.x p1.x) from rfl) (congrArg Value.bool hc10)) (d_fieldAddr rfl (fa26_1 _ _) ?_)
      refine da_on rfl (Eq.trans (show sl _ _ _ = .bool (fcmp .eql .f32 p0.x p1.x) from rfl) (congrArg Value.bool hc10)) (d_load (v := .float .f32 p0r1) rfl agg24 B9 rfl ?_)
      refine da_on rfl (Eq.trans (show sl _ _ _ = .bool (fcmp .eql .f32 p0.x p1.x) from rfl) (congrArg Value.bool hc10)) (d_fieldAddr rfl (fa26_1 _ _) ?_)
      refine da_on rfl (Eq.trans (show sl _ _ _ = .bool (fcmp .eql .f32 p0.x p1.x) from rfl) (congrArg Value.bool hc10)) (d_load (v := .float .f32 p1r1) rfl agg24 B4 rfl ?_)
      refine da_on rfl (Eq.trans (show sl _ _ _ = .bool (fcmp .eql .f32 p0.x p1.x) from rfl) (congrArg Value.bool hc10)) (d_fcmp (k := .f32) cEql rfl rfl p0h1 p1h1 ?_)
      refine da_op rfl (d_pick (b := true) (Eq.trans (show ev _ _ = .bool (fcmp .eql .f32 p0.x p1.x) from rfl) (congrArg Value.bool hc10)) ?_)
      refine da_op rfl (d_mv (v := .bool (fcmp .eql .f32 p0.y p1.y)) rfl ?_)
      rcases Bool.eq_false_or_eq_true (fcmp .eql .f32 p0.y p1.y) with hc11 | hc11
      · skip
        replace hr := bif_t hr hc11
        refine da_on rfl (Eq.trans (show sl _ _ _ = .bool (fcmp .eql .f32 p0.y p1.y) from rfl) (congrArg Value.bool hc11)) (d_fieldAddr rfl (fa26_2 _ _) ?_)
        refine da_on rfl (Eq.trans (show sl _ _ _ = .bool (fcmp .eql .f32 p0.y p1.y) from rfl) (congrArg Value.bool hc11)) (d_load (v := .float .f32 p0r2) rfl agg24 B9 rfl ?_)
        refine da_on rfl (Eq.trans (show sl _ _ _ = .bool (fcmp .eql .f32 p0.y p1.y) from rfl) (congrArg Value.bool hc11)) (d_fieldAddr rfl (fa26_2 _ _) ?_)
        refine da_on rfl (Eq.trans (show sl _ _ _ = .bool (fcmp .eql .f32 p0.y p1.y) from rfl) (congrArg Value.bool hc11)) (d_load (v := .float .f32 p1r2) rfl agg24 B4 rfl ?_)
        refine da_on rfl (Eq.trans (show sl _ _ _ = .bool (fcmp .eql .f32 p0.y p1.y) from rfl) (congrArg Value.bool hc11)) (d_fcmp (k := .f32) cEql rfl rfl p0h2 p1h2 ?_)
        refine da_op rfl (d_pick (b := true) (Eq.trans (show ev _ _ = .bool (fcmp .eql .f32 p0.y p1.y) from rfl) (congrArg Value.bool hc11)) ?_)
        refine da_op rfl (d_as (v := .bool (fcmp .eql .f32 p0.z p1.z)) rfl ?_)
        refine da_nil ?_
        subst hr
        exact ⟨rfl, (Ext.refl w4)⟩
      · skip
        replace hr := bif_f hr hc11
        refine da_off rfl (Eq.trans (show sl _ _ _ = .bool (fcmp .eql .f32 p0.y p1.y) from rfl) (congrArg Value.bool hc11)) (by decide) ?_
        refine da_off rfl (Eq.trans (show sl _ _ _ = .bool (fcmp .eql .f32 p0.y p1.y) from rfl) (congrArg Value.bool hc11)) (by decide) ?_
        refine da_off rfl (Eq.trans (show sl _ _ _ = .bool (fcmp .eql .f32 p0.y p1.y) from rfl) (congrArg Value.bool hc11)) (by decide) ?_
        refine da_off rfl (Eq.trans (show sl _ _ _ = .bool (fcmp .eql .f32 p0.y p1.y) from rfl) (congrArg Value.bool hc11)) (by decide) ?_
        refine da_off rfl (Eq.trans (show sl _ _ _ = .bool (fcmp .eql .f32 p0.y p1.y) from rfl) (congrArg Value.bool hc11)) (by decide) ?_
        refine da_op rfl (d_pick (b := false) (Eq.trans (show ev _ _ = .bool (fcmp .eql .f32 p0.y p1.y) from rfl) (congrArg Value.bool hc11)) ?_)
        refine da_op rfl (d_as (v := .bool false) rfl ?_)
        refine da_nil ?_
        subst hr
        exact ⟨rfl, (Ext.refl w4)⟩
    · skip
      replace hr := bif_f hr hc10
      refine da_off rfl (Eq.trans (show sl _ _ _ = .bool (fcmp .eql .f32 p0.x p1.x) from rfl) (congrArg Value.bool hc10)) (by decide) ?_
      refine da_off rfl (Eq.trans (show sl _ _ _ = .bool (fcmp .eql .f32 p0.x p1.x) from rfl) (congrArg Value.bool hc10)) (by decide) ?_
      refine da_off rfl (Eq.trans (show sl _ _ _ = .bool (fcmp .eql .f32 p0.x p1.x) from rfl) (congrArg Value.bool hc10)) (by decide) ?_
      refine da_off rfl (Eq.trans (show sl _ _ _ = .bool (fcmp .eql .f32 p0.x p1.x) from rfl) (congrArg Value.bool hc10)) (by decide) ?_
      refine da_off rfl (Eq.trans (show sl _ _ _ = .bool (fcmp .eql .f32 p0.x p1.x) from rfl) (congrArg Value.bool hc10)) (by decide) ?_
      refine da_op rfl (d_pick (b := false) (Eq.trans (show ev _ _ = .bool (fcmp .eql .f32 p0.x p1.x) from rfl) (congrArg Value.bool hc10)) ?_)
      refine da_op rfl (d_mv (v := .bool false) rfl ?_)
      refine da_off rfl rfl (by decide) ?_
      refine da_off rfl rfl (by decide) ?_
      refine da_off rfl rfl (by decide) ?_
      refine da_off rfl rfl (by decide) ?_
      refine da_off rfl rfl (by decide) ?_
      refine da_op rfl (d_pick (b := false) rfl ?_)
      refine da_op rfl (d_as (v := .bool false) rfl ?_)
      refine da_nil ?_
      subst hr
      exact ⟨rfl, (Ext.refl w4)⟩
  · skip
    rintro σ8 w8 o8 ⟨s4_8, E8⟩
    have X12 : Ext w w8 := X7.trans E8
    refine W_ret ?_
    subst hr
    refine ⟨_, res1 (rv_tmp s4_8), ?_⟩
    exact ⟨rfl, X12⟩
set_option maxHeartbeats 4000000 in
theorem c11 (p0 : SVector) (p1 : SVector) (p0r0 : Nat) (p0r1 : Nat) (p0r2 : Nat) (p1r0 : Nat) (p1r1 : Nat) (p1r2 : Nat) (r : Nat) (w : World) (hr : M.impl_InnerOf p0 p1 = r) (p0h0 : cn .f32 p0r0 = p0.x) (p0h1 : cn .f32 p0r1 = p0.y) (p0h2 : cn .f32 p0r2 = p0.z) (p1h0 : cn .f32 p1r0 = p1.x) (p1h1 : cn .f32 p1r1 = p1.y) (p1h2 : cn .f32 p1r2 = p1.z) :
    Calls Tryd.prog 11 #[.agg #[.float .f32 p0r0, .float .f32 p0r1, .float .f32 p0r2], .agg #[.float .f32 p1r0, .float .f32 p1r1, .float .f32 p1r2]] w fun e w' => ∃ q0r : Nat, e = .returned (.float .f32 q0r) ∧ cn .f32 q0r = r ∧ Ext w w' := by
  refine calls_of_W Tryd.func11 rfl (Nat.le_of_ble_eq_true rfl) ?_
  refine W_seq ?_
  refine W_region rfl ?_
  refine da_op rfl (d_box (cs := #[.float .f32 p0r0, .float .f32 p0r1, .float .f32 p0r2]) rfl fun w1 B1 E1 => ?_)
  have own2 : w.heap.size ≤ w.heap.size := Nat.le_trans (Ext.refl w).size (Nat.le_refl _)
  have X3 : Ext w w1 := (Ext.refl w).trans E1
  refine da_op rfl (d_box (cs := #[.float .f32 p1r0, .float .f32 p1r1, .float .f32 p1r2]) rfl fun w4 B4 E4 => ?_)
  have own5 : w.heap.size ≤ w1.heap.size := Nat.le_trans X3.size (Nat.le_refl _)
  have sp6 : w.heap.size ≠ w1.heap.size := Nat.ne_of_lt (Nat.lt_of_lt_of_le (lt_heap B1) (Nat.le_refl _))
  have X7 : Ext w w4 := X3.trans E4
  refine da_op rfl (d_as (v := .float .f32 0) rfl ?_)
  refine da_nil ?_
  refine W_seq ?_
  refine W_region rfl ?_
  refine da_op rfl (d_fieldAddr rfl (fa26_0 _ _) ?_)
  have B8 : w4.heap[w.heap.size]? = some (.cells #[.float .f32 p0r0, .float .f32 p0r1, .float .f32 p0r2] 26 (0, 0)) := E4.heap B1
  refine da_op rfl (d_load (v := .float .f32 p0r0) rfl agg24 B8 rfl ?_)
  refine da_op rfl (d_fieldAddr rfl (fa26_0 _ _) ?_)
  refine da_op rfl (d_load (v := .float .f32 p1r0) rfl agg24 B4 rfl ?_)
  refine da_op rfl (d_fop (k := .f32) fMul rfl rfl p0h0 p1h0 fun r9 w9 h9 _ E9 => ?_)
  have X10 : Ext w w9 := X7.trans E9
  refine da_op rfl (d_fieldAddr rfl (fa26_1 _ _) ?_)
  have B11 : w9.heap[w.heap.size]? = some (.cells #[.float .f32 p0r0, .float .f32 p0r1, .float .f32 p0r2] 26 (0, 0)) := E9.heap B8
  refine da_op rfl (d_load (v := .float .f32 p0r1) rfl agg24 B11 rfl ?_)
  refine da_op rfl (d_fieldAddr rfl (fa26_1 _ _) ?_)
  have B12 : w9.heap[w1.heap.size]? = some (.cells #[.float .f32 p1r0, .float .f32 p1r1, .float .f32 p1r2] 26 (0, 0)) := E9.heap B4
  refine da_op rfl (d_load (v := .float .f32 p1r1) rfl agg24 B12 rfl ?_)
  refine da_op rfl (d_fop (k := .f32) fMul rfl rfl p0h1 p1h1 fun r13 w13 h13 _ E13 => ?_)
  have X14 : Ext w w13 := X10.trans E13
  refine da_op rfl (d_fop (k := .f32) fAdd rfl rfl h9 h13 fun r15 w15 h15 _ E15 => ?_)
  have X16 : Ext w w15 := X14.trans E15
  refine da_op rfl (d_fieldAddr rfl (fa26_2 _ _) ?_)
  have B17 : w15.heap[w.heap.size]? = some (.cells #[.float .f32 p0r0, .float .f32 p0r1, .float .f32 p0r2] 26 (0, 0)) := E15.heap (E13.heap B11)
  refine da_op rfl (d_load (v := .float .f32 p0r2) rfl agg24 B17 rfl ?_)
  refine da_op rfl (d_fieldAddr rfl (fa26_2 _ _) ?_)
  have B18 : w15.heap[w1.heap.size]? = some (.cells #[.float .f32 p1r0, .float .f32 p1r1, .float .f32 p1r2] 26 (0, 0)) := E15.heap (E13.heap B12)
  refine da_op rfl (d_load (v := .float .f32 p1r2) rfl agg24 B18 rfl ?_)
  refine da_op rfl (d_fop (k := .f32) fMul rfl rfl p0h2 p1h2 fun r19 w19 h19 _ E19 => ?_)
  have X20 : Ext w w19 := X16.trans E19
  refine da_op rfl (d_fop (k := .f32) fAdd rfl rfl h15 h19 fun r21 w21 h21 _ E21 => ?_)
  have X22 : Ext w w21 := X20.trans E21
  refine da_op rfl (d_as (v := .float .f32 r21) rfl ?_)
  refine da_nil ?_
  refine W_ret ?_
  subst hr
  refine ⟨_, res1 (rv_tmp rfl), ?_⟩
  exact ⟨r21, rfl, h21, X22⟩
set_option maxHeartbeats 4000000 in
theorem c12 (p0 : SVector) (p0r0 : Nat) (p0r1 : Nat) (p0r2 : Nat) (r : Nat) (w : World) (hr : M.laws_b10Square p0 = r) (p0h0 : cn .f32 p0r0 = p0.x) (p0h1 : cn .f32 p0r1 = p0.y) (p0h2 : cn .f32 p0r2 = p0.z) :
    Calls Tryd.prog 12 #[.agg #[.float .f32 p0r0, .float .f32 p0r1, .float .f32 p0r2]] w fun e w' => ∃ q0r : Nat, e = .returned (.float .f32 q0r) ∧ cn .f32 q0r = r ∧ Ext w w' := by
  refine calls_of_W Tryd.func12 rfl (Nat.le_of_ble_eq_true rfl) ?_
  refine W_seq ?_
  refine W_region rfl ?_
  refine da_op rfl (d_box (cs := #[.float .f32 p0r0, .float .f32 p0r1, .float .f32 p0r2]) rfl fun w1 B1 E1 => ?_)
  have own2 : w.heap.size ≤ w.heap.size := Nat.le_trans (Ext.refl w).size (Nat.le_refl _)
  have X3 : Ext w w1 := (Ext.refl w).trans E1
  refine da_op rfl (d_as (v := .float .f32 0) rfl ?_)
  refine da_nil ?_
  refine W_seq ?_
  refine W_region rfl ?_
  refine da_op rfl (d_fieldAddr rfl (fa26_0 _ _) ?_)
  refine da_op rfl (d_load (v := .float .f32 p0r0) rfl agg24 B1 rfl ?_)
  refine da_op rfl (d_fieldAddr rfl (fa26_0 _ _) ?_)
  refine da_op rfl (d_load (v := .float .f32 p0r0) rfl agg24 B1 rfl ?_)
  refine da_op rfl (d_fop (k := .f32) fMul rfl rfl p0h0 p0h0 fun r4 w4 h4 _ E4 => ?_)
  have X5 : Ext w w4 := X3.trans E4
  refine da_op rfl (d_fieldAddr rfl (fa26_1 _ _) ?_)
  have B6 : w4.heap[w.heap.size]? = some (.cells #[.float .f32 p0r0, .float .f32 p0r1, .float .f32 p0r2] 26 (0, 0)) := E4.heap B1
  refine da_op rfl (d_load (v := .float .f32 p0r1) rfl agg24 B6 rfl ?_)
  refine da_op rfl (d_fieldAddr rfl (fa26_1 _ _) ?_)
  refine da_op rfl (d_load (v := .float .f32 p0r1) rfl agg24 B6 rfl ?_)
  refine da_op rfl (d_fop (k := .f32) fMul rfl rfl p0h1 p0h1 fun r7 w7 h7 _ E7 => ?_)
  have X8 : Ext w w7 := X5.trans E7
  refine da_op rfl (d_fop (k := .f32) fAdd rfl rfl h4 h7 fun r9 w9 h9 _ E9 => ?_)
  have X10 : Ext w w9 := X8.trans E9
  refine da_op rfl (d_fieldAddr rfl (fa26_2 _ _) ?_)
  have B11 : w9.heap[w.heap.size]? = some (.cells #[.float .f32 p0r0, .float .f32 p0r1, .float .f32 p0r2] 26 (0, 0)) := E9.heap (E7.heap B6)
  refine da_op rfl (d_load (v := .float .f32 p0r2) rfl agg24 B11 rfl ?_)
  refine da_op rfl (d_fieldAddr rfl (fa26_2 _ _) ?_)
  refine da_op rfl (d_load (v := .float .f32 p0r2) rfl agg24 B11 rfl ?_)
  refine da_op rfl (d_fop (k := .f32) fMul rfl rfl p0h2 p0h2 fun r12 w12 h12 _ E12 => ?_)
  have X13 : Ext w w12 := X10.trans E12
  refine da_op rfl (d_fop (k := .f32) fAdd rfl rfl h9 h12 fun r14 w14 h14 _ E14 => ?_)
  have X15 : Ext w w14 := X13.trans E14
  refine da_op rfl (d_as (v := .float .f32 r14) rfl ?_)
  refine da_nil ?_
  refine W_ret ?_
  subst hr
  refine ⟨_, res1 (rv_tmp rfl), ?_⟩
  exact ⟨r14, rfl, h14, X15⟩
set_option maxHeartbeats 4000000 in
theorem c34 (p0 : Nat) (p0r : Nat) (r : Nat) (w : World) (hr : M.math_Sqrt p0 = r) (p0h : cn .f64 p0r = p0) :
    Calls Tryd.prog 34 #[.float .f64 p0r] w fun e w' => ∃ q0r : Nat, e = .returned (.float .f64 q0r) ∧ cn .f64 q0r = r ∧ Ext w w' := by
  refine calls_of_W Tryd.func34 rfl (Nat.le_of_ble_eq_true rfl) ?_
  refine W_seq ?_
  refine W_region rfl ?_
  refine da_op rfl (d_as (v := .float .f64 0) rfl ?_)
  refine da_nil ?_
  refine W_seq ?_
  refine W_region rfl ?_
  refine da_op rfl (d_mv (v := .float .f64 p0r) rfl ?_)
  refine da_op rfl (d_sqrt sqrtF0 sqrtF1 sqrtF2 (Option.isNone_iff_eq_none.1 sqrtF3) sqrtF4 rfl rfl p0h fun r1 w1 h1 _ E1 => ?_)
  have X2 : Ext w w1 := (Ext.refl w).trans E1
  refine da_op rfl (d_as (v := .float .f64 r1) rfl ?_)
  refine da_nil ?_
  refine W_ret ?_
  subst hr
  refine ⟨_, res1 (rv_tmp rfl), ?_⟩
  exact ⟨r1, rfl, h1, X2⟩
set_option maxHeartbeats 4000000 in
theorem c25 (p0 : Nat) (p0r : Nat) (r : Nat) (w : World) (hr : M.impl_RootNumber p0 = r) (p0h : cn .f32 p0r = p0) :
    Calls Tryd.prog 25 #[.float .f32 p0r] w fun e w' => ∃ q0r : Nat, e = .returned (.float .f32 q0r) ∧ cn .f32 q0r = r ∧ Ext w w' := by
  refine calls_of_W Tryd.func25 rfl (Nat.le_of_ble_eq_true rfl) ?_
  refine W_seq ?_
  refine W_region rfl ?_
  refine da_op rfl (d_as (v := .float .f32 0) rfl ?_)
  refine da_nil ?_
  refine W_seq ?_
  refine W_region rfl ?_
  refine da_op rfl (d_mv (v := .float .f32 p0r) rfl ?_)
  refine da_op rfl (d_widen un24 un57 rfl p0h fun r1 w1 h1 _ E1 => ?_)
  have X2 : Ext w w1 := (Ext.refl w).trans E1
  obtain ⟨m3, hm3, hr⟩ := letv_out hr
  refine da_op rfl (d_cl (vs := [.float .f64 r1]) en34 (ac rfl rfl) rfl ?_)
  refine (c34 (widen p0) r1 m3 w1 hm3 h1).mono ?_
  rintro _ w4 ⟨q4_0r, rfl, q4_0h, E4⟩
  refine ⟨_, rfl, ?_⟩
  have X5 : Ext w w4 := X2.trans E4
  refine da_op rfl (d_narrow un57 un24 rfl q4_0h (by rw [← hm3]; exact nar_sqrt _) fun r6 w6 h6 _ E6 => ?_)
  have X7 : Ext w w6 := X5.trans E6
  refine da_op rfl (d_as (v := .float .f32 r6) rfl ?_)
  refine da_nil ?_
  refine W_ret ?_
  subst hr
  refine ⟨_, res1 (rv_tmp rfl), ?_⟩
  exact ⟨r6, rfl, h6, X7⟩
set_option maxHeartbeats 4000000 in
theorem c14 (p0 : SVector) (p0r0 : Nat) (p0r1 : Nat) (p0r2 : Nat) (r : Nat) (w : World) (hr : M.impl_LongOf p0 = r) (p0h0 : cn .f32 p0r0 = p0.x) (p0h1 : cn .f32 p0r1 = p0.y) (p0h2 : cn .f32 p0r2 = p0.z) :
    Calls Tryd.prog 14 #[.agg #[.float .f32 p0r0, .float .f32 p0r1, .float .f32 p0r2]] w fun e w' => ∃ q0r : Nat, e = .returned (.float .f32 q0r) ∧ cn .f32 q0r = r ∧ Ext w w' := by
  refine calls_of_W Tryd.func14 rfl (Nat.le_of_ble_eq_true rfl) ?_
  refine W_seq ?_
  refine W_region rfl ?_
  refine da_op rfl (d_box (cs := #[.float .f32 p0r0, .float .f32 p0r1, .float .f32 p0r2]) rfl fun w1 B1 E1 => ?_)
  have own2 : w.heap.size ≤ w.heap.size := Nat.le_trans (Ext.refl w).size (Nat.le_refl _)
  have X3 : Ext w w1 := (Ext.refl w).trans E1
  refine da_op rfl (d_as (v := .float .f32 0) rfl ?_)
  refine da_nil ?_
  refine W_seq ?_
  refine W_region rfl ?_
  refine da_op rfl (d_loads (vs := #[.float .f32 p0r0, .float .f32 p0r1, .float .f32 p0r2]) rfl agg26 size26 B1 rfl ?_)
  refine da_op rfl (d_loads (vs := #[.float .f32 p0r0, .float .f32 p0r1, .float .f32 p0r2]) rfl agg26 size26 B1 rfl ?_)
  obtain ⟨m4, hm4, hr⟩ := letv_out hr
  refine da_op rfl (d_cl (vs := [.agg #[.float .f32 p0r0, .float .f32 p0r1, .float .f32 p0r2], .agg #[.float .f32 p0r0, .float .f32 p0r1, .float .f32 p0r2]]) en11 (ac rfl (ac rfl rfl)) rfl ?_)
  refine (c11 p0 p0 p0r0 p0r1 p0r2 p0r0 p0r1 p0r2 m4 w1 hm4 p0h0 p0h1 p0h2 p0h0 p0h1 p0h2).mono ?_
  rintro _ w5 ⟨q5_0r, rfl, q5_0h, E5⟩
  refine ⟨_, rfl, ?_⟩
  have X6 : Ext w w5 := X3.trans E5
  obtain ⟨m7, hm7, hr⟩ := letv_out hr
  have B8 : w5.heap[w.heap.size]? = some (.cells #[.float .f32 p0r0, .float .f32 p0r1, .float .f32 p0r2] 26 (0, 0)) := E5.heap B1
  refine da_op rfl (d_cl (vs := [.float .f32 q5_0r]) en25 (ac rfl rfl) rfl ?_)
  refine (c25 m4 q5_0r m7 w5 hm7 q5_0h).mono ?_
  rintro _ w9 ⟨q9_0r, rfl, q9_0h, E9⟩
  refine ⟨_, rfl, ?_⟩
  have X10 : Ext w w9 := X6.trans E9
  refine da_op rfl (d_as (v := .float .f32 q9_0r) rfl ?_)
  refine da_nil ?_
  refine W_ret ?_
  subst hr
  refine ⟨_, res1 (rv_tmp rfl), ?_⟩
  exact ⟨q9_0r, rfl, q9_0h, X10⟩
set_option maxHeartbeats 4000000 in
theorem c35 (p0 : Nat) (p0r : Nat) (r : Nat) (w : World) (hr : M.spec_l01Narrow p0 = r) (p0h : cn .f64 p0r = p0) (p0N : Nar p0) :
    Calls Tryd.prog 35 #[.float .f64 p0r] w fun e w' => ∃ q0r : Nat, e = .returned (.float .f32 q0r) ∧ cn .f32 q0r = r ∧ Ext w w' := by
  refine calls_of_W Tryd.func35 rfl (Nat.le_of_ble_eq_true rfl) ?_
  refine W_seq ?_
  refine W_region rfl ?_
  refine da_op rfl (d_as (v := .float .f32 0) rfl ?_)
  refine da_nil ?_
  refine W_seq ?_
  refine W_region rfl ?_
  refine da_op rfl (d_mv (v := .float .f64 p0r) rfl ?_)
  refine da_op rfl (d_narrow un57 un24 rfl p0h p0N fun r1 w1 h1 _ E1 => ?_)
  have X2 : Ext w w1 := (Ext.refl w).trans E1
  refine da_op rfl (d_as (v := .float .f32 r1) rfl ?_)
  refine da_nil ?_
  refine W_ret ?_
  subst hr
  refine ⟨_, res1 (rv_tmp rfl), ?_⟩
  exact ⟨r1, rfl, h1, X2⟩
set_option maxHeartbeats 4000000 in
theorem c26 (p0 : Nat) (p0r : Nat) (r : Nat) (w : World) (hr : M.spec_l01Sqrt p0 = r) (p0h : cn .f32 p0r = p0) :
    Calls Tryd.prog 26 #[.float .f32 p0r] w fun e w' => ∃ q0r : Nat, e = .returned (.float .f32 q0r) ∧ cn .f32 q0r = r ∧ Ext w w' := by
  refine calls_of_W Tryd.func26 rfl (Nat.le_of_ble_eq_true rfl) ?_
  refine W_seq ?_
  refine W_region rfl ?_
  refine da_op rfl (d_as (v := .float .f32 0) rfl ?_)
  refine da_nil ?_
  refine W_seq ?_
  refine W_region rfl ?_
  refine da_op rfl (d_mv (v := .float .f32 p0r) rfl ?_)
  refine da_op rfl (d_widen un24 un57 rfl p0h fun r1 w1 h1 _ E1 => ?_)
  have X2 : Ext w w1 := (Ext.refl w).trans E1
  obtain ⟨m3, hm3, hr⟩ := letv_out hr
  refine da_op rfl (d_cl (vs := [.float .f64 r1]) en34 (ac rfl rfl) rfl ?_)
  refine (c34 (widen p0) r1 m3 w1 hm3 h1).mono ?_
  rintro _ w4 ⟨q4_0r, rfl, q4_0h, E4⟩
  refine ⟨_, rfl, ?_⟩
  have X5 : Ext w w4 := X2.trans E4
  obtain ⟨m6, hm6, hr⟩ := letv_out hr
  refine da_op rfl (d_cl (vs := [.float .f64 q4_0r]) en35 (ac rfl rfl) rfl ?_)
  refine (c35 m3 q4_0r m6 w4 hm6 q4_0h (by rw [← hm3]; exact nar_sqrt _)).mono ?_
  rintro _ w7 ⟨q7_0r, rfl, q7_0h, E7⟩
  refine ⟨_, rfl, ?_⟩
  have X8 : Ext w w7 := X5.trans E7
  refine da_op rfl (d_as (v := .float .f32 q7_0r) rfl ?_)
  refine da_nil ?_
  refine W_ret ?_
  subst hr
  refine ⟨_, res1 (rv_tmp rfl), ?_⟩
  exact ⟨q7_0r, rfl, q7_0h, X8⟩
set_option maxHeartbeats 4000000 in
theorem c15 (p0 : Nat) (p0r : Nat) (r : Nat) (w : World) (hr : M.spec_RootNumber p0 = r) (p0h : cn .f32 p0r = p0) :
    Calls Tryd.prog 15 #[.float .f32 p0r] w fun e w' => ∃ q0r : Nat, e = .returned (.float .f32 q0r) ∧ cn .f32 q0r = r ∧ Ext w w' := by
  refine calls_of_W Tryd.func15 rfl (Nat.le_of_ble_eq_true rfl) ?_
  refine W_seq ?_
  refine W_region rfl ?_
  refine da_op rfl (d_as (v := .float .f32 0) rfl ?_)
  refine da_nil ?_
  refine W_seq ?_
  refine W_region rfl ?_
  refine da_op rfl (d_mv (v := .float .f32 p0r) rfl ?_)
  obtain ⟨m1, hm1, hr⟩ := letv_out hr
  refine da_op rfl (d_cl (vs := [.float .f32 p0r]) en26 (ac rfl rfl) rfl ?_)
  refine (c26 p0 p0r m1 w hm1 p0h).mono ?_
  rintro _ w2 ⟨q2_0r, rfl, q2_0h, E2⟩
  refine ⟨_, rfl, ?_⟩
  have X3 : Ext w w2 := (Ext.refl w).trans E2
  refine da_op rfl (d_as (v := .float .f32 q2_0r) rfl ?_)
  refine da_nil ?_
  refine W_ret ?_
  subst hr
  refine ⟨_, res1 (rv_tmp rfl), ?_⟩
  exact ⟨q2_0r, rfl, q2_0h, X3⟩
set_option maxHeartbeats 4000000 in
theorem c33 (p0 : Nat) (p0r : Nat) (r : Int) (w : World) (hr : M.spec_l01Bits p0 = r) (p0h : cn .f32 p0r = p0) :
    Calls Tryd.prog 33 #[.float .f32 p0r] w fun e w' => e = .returned (.int .i64 r) ∧ Ext w w' := by
  refine calls_of_W Tryd.func33 rfl (Nat.le_of_ble_eq_true rfl) ?_
  refine W_seq ?_
  refine W_region rfl ?_
  refine da_op rfl (d_as (v := .int .i64 0) rfl ?_)
  refine da_nil ?_
  refine W_seq ?_
  refine W_seq ?_
  refine W_region rfl ?_
  refine da_op rfl (d_mv (v := .float .f32 p0r) rfl ?_)
  refine da_op rfl (d_mv (v := .float .f32 p0r) rfl ?_)
  refine da_op rfl (d_fcmp (k := .f32) cNeq rfl rfl p0h p0h ?_)
  refine da_nil ?_
  refine W_cond (b := (fcmp .neq .f32 p0 p0)) rfl (fun hc1 => ?_) (fun hc1 => ?_)
  · skip
    replace hr := bif_t hr hc1
    refine W_seq ?_
    refine W_region rfl ?_
    refine da_op rfl (d_as (v := .int .i64 2143289344) rfl ?_)
    refine da_nil ?_
    refine W_ret ?_
    subst hr
    refine ⟨_, res1 (rv_tmp rfl), ?_⟩
    exact ⟨rfl, (Ext.refl w)⟩
  · skip
    replace hr := bif_f hr hc1
    refine W_skip ?_
    refine W_seq ?_
    refine W_region rfl ?_
    refine da_op rfl (d_mv (v := .float .f32 p0r) rfl ?_)
    refine da_op rfl (d_f32bits ext46_0 ext46_1 ext46_2 (Option.isNone_iff_eq_none.1 ext46_3) ext46_4 rfl rfl p0h (nn_ne hc1) ?_)
    refine da_op rfl (d_iconv un70 un2 rfl ?_)
    refine da_op rfl (d_as (v := .int .i64 (IntKind.i64.wrap (p0 : Int))) rfl ?_)
    refine da_nil ?_
    refine W_ret ?_
    subst hr
    refine ⟨_, res1 (rv_tmp rfl), ?_⟩
    exact ⟨rfl, (Ext.refl w)⟩
set_option maxHeartbeats 4000000 in
theorem c24 (p0 : Nat) (p1 : Nat) (p0r : Nat) (p1r : Nat) (r : Bool) (w : World) (hr : M.spec_l01Same p0 p1 = r) (p0h : cn .f32 p0r = p0) (p1h : cn .f32 p1r = p1) :
    Calls Tryd.prog 24 #[.float .f32 p0r, .float .f32 p1r] w fun e w' => e = .returned (.bool r) ∧ Ext w w' := by
  refine calls_of_W Tryd.func24 rfl (Nat.le_of_ble_eq_true rfl) ?_
  refine W_seq ?_
  refine W_region rfl ?_
  refine da_op rfl (d_as (v := .bool false) rfl ?_)
  refine da_nil ?_
  refine W_seq ?_
  refine W_region rfl ?_
  refine da_op rfl (d_mv (v := .float .f32 p0r) rfl ?_)
  obtain ⟨m1, hm1, hr⟩ := letv_out hr
  refine da_op rfl (d_cl (vs := [.float .f32 p0r]) en33 (ac rfl rfl) rfl ?_)
  refine (c33 p0 p0r m1 w hm1 p0h).mono ?_
  rintro _ w2 ⟨rfl, E2⟩
  refine ⟨_, rfl, ?_⟩
  have X3 : Ext w w2 := (Ext.refl w).trans E2
  refine da_op rfl (d_mv (v := .float .f32 p1r) rfl ?_)
  obtain ⟨m4, hm4, hr⟩ := letv_out hr
  refine da_op rfl (d_cl (vs := [.float .f32 p1r]) en33 (ac rfl rfl) rfl ?_)
  refine (c33 p1 p1r m4 w2 hm4 p1h).mono ?_
  rintro _ w5 ⟨rfl, E5⟩
  refine ⟨_, rfl, ?_⟩
  have X6 : Ext w w5 := X3.trans E5
  refine da_op rfl (d_icmp cEql rfl rfl ?_)
  refine da_op rfl (d_as (v := .bool (icmp .eql m1 m4)) rfl ?_)
  refine da_nil ?_
  refine W_ret ?_
  subst hr
  refine ⟨_, res1 (rv_tmp rfl), ?_⟩
  exact ⟨rfl, X6⟩
set_option maxHeartbeats 4000000 in
theorem c13 (p0 : Nat) (p1 : Nat) (p0r : Nat) (p1r : Nat) (r : Bool) (w : World) (hr : M.spec_SameNumber p0 p1 = r) (p0h : cn .f32 p0r = p0) (p1h : cn .f32 p1r = p1) :
    Calls Tryd.prog 13 #[.float .f32 p0r, .float .f32 p1r] w fun e w' => e = .returned (.bool r) ∧ Ext w w' := by
  refine calls_of_W Tryd.func13 rfl (Nat.le_of_ble_eq_true rfl) ?_
  refine W_seq ?_
  refine W_region rfl ?_
  refine da_op rfl (d_as (v := .bool false) rfl ?_)
  refine da_nil ?_
  refine W_seq ?_
  refine W_region rfl ?_
  refine da_op rfl (d_mv (v := .float .f32 p0r) rfl ?_)
  refine da_op rfl (d_mv (v := .float .f32 p1r) rfl ?_)
  obtain ⟨m1, hm1, hr⟩ := letv_out hr
  refine da_op rfl (d_cl (vs := [.float .f32 p0r, .float .f32 p1r]) en24 (ac rfl (ac rfl rfl)) rfl ?_)
  refine (c24 p0 p1 p0r p1r m1 w hm1 p0h p1h).mono ?_
  rintro _ w2 ⟨rfl, E2⟩
  refine ⟨_, rfl, ?_⟩
  have X3 : Ext w w2 := (Ext.refl w).trans E2
  refine da_op rfl (d_as (v := .bool m1) rfl ?_)
  refine da_nil ?_
  refine W_ret ?_
  subst hr
  refine ⟨_, res1 (rv_tmp rfl), ?_⟩
  exact ⟨rfl, X3⟩
set_option maxHeartbeats 4000000 in
theorem c16 (p0 : SVector) (p1 : SVector) (p2 : Nat) (p0r0 : Nat) (p0r1 : Nat) (p0r2 : Nat) (p1r0 : Nat) (p1r1 : Nat) (p1r2 : Nat) (p2r : Nat) (r : SVector) (w : World) (hr : M.impl_BetweenVectors p0 p1 p2 = r) (p0h0 : cn .f32 p0r0 = p0.x) (p0h1 : cn .f32 p0r1 = p0.y) (p0h2 : cn .f32 p0r2 = p0.z) (p1h0 : cn .f32 p1r0 = p1.x) (p1h1 : cn .f32 p1r1 = p1.y) (p1h2 : cn .f32 p1r2 = p1.z) (p2h : cn .f32 p2r = p2) :
    Calls Tryd.prog 16 #[.agg #[.float .f32 p0r0, .float .f32 p0r1, .float .f32 p0r2], .agg #[.float .f32 p1r0, .float .f32 p1r1, .float .f32 p1r2], .float .f32 p2r] w fun e w' => ∃ q0r0 : Nat, ∃ q0r1 : Nat, ∃ q0r2 : Nat, e = .returned (.agg #[.float .f32 q0r0, .float .f32 q0r1, .float .f32 q0r2]) ∧ cn .f32 q0r0 = r.x ∧ cn .f32 q0r1 = r.y ∧ cn .f32 q0r2 = r.z ∧ Ext w w' := by
  refine calls_of_W Tryd.func16 rfl (Nat.le_of_ble_eq_true rfl) ?_
  refine W_seq ?_
  refine W_region rfl ?_
  refine da_op rfl (d_box (cs := #[.float .f32 p0r0, .float .f32 p0r1, .float .f32 p0r2]) rfl fun w1 B1 E1 => ?_)
  have own2 : w.heap.size ≤ w.heap.size := Nat.le_trans (Ext.refl w).size (Nat.le_refl _)
  have X3 : Ext w w1 := (Ext.refl w).trans E1
  refine da_op rfl (d_box (cs := #[.float .f32 p1r0, .float .f32 p1r1, .float .f32 p1r2]) rfl fun w4 B4 E4 => ?_)
  have own5 : w.heap.size ≤ w1.heap.size := Nat.le_trans X3.size (Nat.le_refl _)
  have sp6 : w.heap.size ≠ w1.heap.size := Nat.ne_of_lt (Nat.lt_of_lt_of_le (lt_heap B1) (Nat.le_refl _))
  have X7 : Ext w w4 := X3.trans E4
  have B9 : w4.heap[w.heap.size]? = some (.cells #[.float .f32 p0r0, .float .f32 p0r1, .float .f32 p0r2] 26 (0, 0)) := E4.heap B1
  refine da_op rfl (d_alloc (cs := #[.float .f32 0, .float .f32 0, .float .f32 0]) zero26 rfl fun w8 B8 E8 => ?_)
  have own10 : w.heap.size ≤ w4.heap.size := Nat.le_trans X7.size (Nat.le_refl _)
  have sp11 : w.heap.size ≠ w4.heap.size := Nat.ne_of_lt (Nat.lt_of_lt_of_le (lt_heap B9) (Nat.le_refl _))
  have sp12 : w1.heap.size ≠ w4.heap.size := Nat.ne_of_lt (Nat.lt_of_lt_of_le (lt_heap B4) (Nat.le_refl _))
  have X13 : Ext w w8 := X7.trans E8
  refine da_nil ?_
  refine W_seq ?_
  have B15 : w8.heap[w.heap.size]? = some (.cells #[.float .f32 p0r0, .float .f32 p0r1, .float .f32 p0r2] 26 (0, 0)) := E8.heap B9
  have B16 : w8.heap[w1.heap.size]? = some (.cells #[.float .f32 p1r0, .float .f32 p1r1, .float .f32 p1r2] 26 (0, 0)) := E8.heap B4
  obtain ⟨m17, hm17, hr⟩ := letv_out hr
  obtain ⟨m18, hm18, hr⟩ := letv_out hr
  obtain ⟨m19, hm19, hr⟩ := letv_out hr
  refine W_anyT 7 [] [{ V := fun _ v _ => v = (.agg #[.float .f32 p0r0, .float .f32 p0r1, .float .f32 p0r2]) }, { V := fun _ v _ => v = (.agg #[.float .f32 p1r0, .float .f32 p1r1, .float .f32 p1r2]) }, { V := fun _ v _ => v = (.agg #[.float .f32 p0r0, .float .f32 p0r1, .float .f32 p0r2]) }, { V := fun _ v _ => ∃ d14_3_0r0 : Nat, ∃ d14_3_0r1 : Nat, ∃ d14_3_0r2 : Nat, v = (.agg #[.float .f32 d14_3_0r0, .float .f32 d14_3_0r1, .float .f32 d14_3_0r2]) ∧ cn .f32 d14_3_0r0 = m17.x ∧ cn .f32 d14_3_0r1 = m17.y ∧ cn .f32 d14_3_0r2 = m17.z }, { V := fun _ v _ => v = (.float .f32 p2r) }, { V := fun _ v _ => ∃ d14_5_0r0 : Nat, ∃ d14_5_0r1 : Nat, ∃ d14_5_0r2 : Nat, v = (.agg #[.float .f32 d14_5_0r0, .float .f32 d14_5_0r1, .float .f32 d14_5_0r2]) ∧ cn .f32 d14_5_0r0 = m18.x ∧ cn .f32 d14_5_0r1 = m18.y ∧ cn .f32 d14_5_0r2 = m18.z }, { V := fun _ v _ => ∃ d14_6_0r0 : Nat, ∃ d14_6_0r1 : Nat, ∃ d14_6_0r2 : Nat, v = (.agg #[.float .f32 d14_6_0r0, .float .f32 d14_6_0r1, .float .f32 d14_6_0r2]) ∧ cn .f32 d14_6_0r0 = m19.x ∧ cn .f32 d14_6_0r1 = m19.y ∧ cn .f32 d14_6_0r2 = m19.z }] mixed (by kernel_rfl) ⟨trivial, trivial, trivial, trivial, trivial, trivial, trivial, trivial⟩ ⟨?_, ?_, ?_, ?_, ?_, ?_, ?_, trivial⟩ ?_
  · skip
    refine ⟨fun _ _ _ _ _ _ h _ => h, fun _ _ h _ => h, fun σ' w' hA hE hD hP => ?_⟩
    have t3 : σ' 3 = .pointer (some ⟨w.heap.size, 0, none⟩) := (hA 3 rfl).trans rfl
    have B0_20 : w'.heap[w.heap.size]? = some (.cells #[.float .f32 p0r0, .float .f32 p0r1, .float .f32 p0r2] 26 (0, 0)) := hE.heap not_oth0 B15
    refine dg_op rfl (d_loads (vs := #[.float .f32 p0r0, .float .f32 p0r1, .float .f32 p0r2]) t3 agg26 size26 B0_20 rfl ?_)
    exact ⟨rfl, own_none (Ext.refl w')⟩
  · skip
    refine ⟨fun _ _ _ _ _ _ h _ => h, fun _ _ h _ => h, fun σ' w' hA hE hD hP => ?_⟩
    have t4 : σ' 4 = .pointer (some ⟨w1.heap.size, 0, none⟩) := (hA 4 rfl).trans rfl
    have B0_21 : w'.heap[w1.heap.size]? = some (.cells #[.float .f32 p1r0, .float .f32 p1r1, .float .f32 p1r2] 26 (0, 0)) := hE.heap not_oth0 B16
    refine dg_op rfl (d_loads (vs := #[.float .f32 p1r0, .float .f32 p1r1, .float .f32 p1r2]) t4 agg26 size26 B0_21 rfl ?_)
    exact ⟨rfl, own_none (Ext.refl w')⟩
  · skip
    refine ⟨fun _ _ _ _ _ _ h _ => h, fun _ _ h _ => h, fun σ' w' hA hE hD hP => ?_⟩
    have t3 : σ' 3 = .pointer (some ⟨w.heap.size, 0, none⟩) := (hA 3 rfl).trans rfl
    have B0_22 : w'.heap[w.heap.size]? = some (.cells #[.float .f32 p0r0, .float .f32 p0r1, .float .f32 p0r2] 26 (0, 0)) := hE.heap not_oth0 B15
    refine dg_op rfl (d_loads (vs := #[.float .f32 p0r0, .float .f32 p0r1, .float .f32 p0r2]) t3 agg26 size26 B0_22 rfl ?_)
    exact ⟨rfl, own_none (Ext.refl w')⟩
  · skip
    refine ⟨fun _ _ _ _ _ _ h _ => h, fun _ _ h _ => h, fun σ' w' hA hE hD hP => ?_⟩
    have t8 : σ' 8 = (.agg #[.float .f32 p1r0, .float .f32 p1r1, .float .f32 p1r2]) := hD 1 rfl
    have t9 : σ' 9 = (.agg #[.float .f32 p0r0, .float .f32 p0r1, .float .f32 p0r2]) := hD 2 rfl
    refine dg_op rfl (d_cl (vs := [.agg #[.float .f32 p1r0, .float .f32 p1r1, .float .f32 p1r2], .agg #[.float .f32 p0r0, .float .f32 p0r1, .float .f32 p0r2]]) en8 (ac t8 (ac t9 rfl)) rfl ?_)
    refine (c8 p1 p0 p1r0 p1r1 p1r2 p0r0 p0r1 p0r2 m17 w' hm17 p1h0 p1h1 p1h2 p0h0 p0h1 p0h2).mono ?_
    rintro _ w23 ⟨q23_0r0, q23_0r1, q23_0r2, rfl, q23_0h0, q23_0h1, q23_0h2, E23⟩
    refine ⟨_, rfl, ?_⟩
    have X24 : Ext w' w23 := (Ext.refl w').trans E23
    exact ⟨⟨q23_0r0, q23_0r1, q23_0r2, rfl, q23_0h0, q23_0h1, q23_0h2⟩, own_none X24⟩
  · skip
    refine ⟨fun _ _ _ _ _ _ h _ => h, fun _ _ h _ => h, fun σ' w' hA hE hD hP => ?_⟩
    have t2 : σ' 2 = .float .f32 p2r := (hA 2 rfl).trans rfl
    refine dg_op rfl (d_mv (v := .float .f32 p2r) t2 ?_)
    exact ⟨rfl, own_none (Ext.refl w')⟩
  · skip
    refine ⟨fun _ _ _ _ _ _ h _ => h, fun _ _ h _ => h, fun σ' w' hA hE hD hP => ?_⟩
    obtain ⟨d14_3_0r0, d14_3_0r1, d14_3_0r2, t10, d14_3_0h0, d14_3_0h1, d14_3_0h2⟩ : ∃ d14_3_0r0 : Nat, ∃ d14_3_0r1 : Nat, ∃ d14_3_0r2 : Nat, σ' 10 = (.agg #[.float .f32 d14_3_0r0, .float .f32 d14_3_0r1, .float .f32 d14_3_0r2]) ∧ cn .f32 d14_3_0r0 = m17.x ∧ cn .f32 d14_3_0r1 = m17.y ∧ cn .f32 d14_3_0r2 = m17.z := hD 3 rfl
    have t11 : σ' 11 = (.float .f32 p2r) := hD 4 rfl
    refine dg_op rfl (d_cl (vs := [.agg #[.float .f32 d14_3_0r0, .float .f32 d14_3_0r1, .float .f32 d14_3_0r2], .float .f32 p2r]) en9 (ac t10 (ac t11 rfl)) rfl ?_)
    refine (c9 m17 p2 d14_3_0r0 d14_3_0r1 d14_3_0r2 p2r m18 w' hm18 d14_3_0h0 d14_3_0h1 d14_3_0h2 p2h).mono ?_
    rintro _ w25 ⟨q25_0r0, q25_0r1, q25_0r2, rfl, q25_0h0, q25_0h1, q25_0h2, E25⟩
    refine ⟨_, rfl, ?_⟩
    have X26 : Ext w' w25 := (Ext.refl w').trans E25
    exact ⟨⟨q25_0r0, q25_0r1, q25_0r2, rfl, q25_0h0, q25_0h1, q25_0h2⟩, own_none X26⟩
  · skip
    refine ⟨fun _ _ _ _ _ _ h _ => h, fun _ _ h _ => h, fun σ' w' hA hE hD hP => ?_⟩
    have t7 : σ' 7 = (.agg #[.float .f32 p0r0, .float .f32 p0r1, .float .f32 p0r2]) := hD 0 rfl
    obtain ⟨d14_5_0r0, d14_5_0r1, d14_5_0r2, t12, d14_5_0h0, d14_5_0h1, d14_5_0h2⟩ : ∃ d14_5_0r0 : Nat, ∃ d14_5_0r1 : Nat, ∃ d14_5_0r2 : Nat, σ' 12 = (.agg #[.float .f32 d14_5_0r0, .float .f32 d14_5_0r1, .float .f32 d14_5_0r2]) ∧ cn .f32 d14_5_0r0 = m18.x ∧ cn .f32 d14_5_0r1 = m18.y ∧ cn .f32 d14_5_0r2 = m18.z := hD 5 rfl
    refine dg_op rfl (d_cl (vs := [.agg #[.float .f32 p0r0, .float .f32 p0r1, .float .f32 p0r2], .agg #[.float .f32 d14_5_0r0, .float .f32 d14_5_0r1, .float .f32 d14_5_0r2]]) en7 (ac t7 (ac t12 rfl)) rfl ?_)
    refine (c7 p0 m18 p0r0 p0r1 p0r2 d14_5_0r0 d14_5_0r1 d14_5_0r2 m19 w' hm19 p0h0 p0h1 p0h2 d14_5_0h0 d14_5_0h1 d14_5_0h2).mono ?_
    rintro _ w27 ⟨q27_0r0, q27_0r1, q27_0r2, rfl, q27_0h0, q27_0h1, q27_0h2, E27⟩
    refine ⟨_, rfl, ?_⟩
    have X28 : Ext w' w27 := (Ext.refl w').trans E27
    exact ⟨⟨q27_0r0, q27_0r1, q27_0r2, rfl, q27_0h0, q27_0h1, q27_0h2⟩, own_none X28⟩
  · skip
    intro σ14 w14 A14 E14 V14
    have E14x : Ext w8 w14 := ext_of_oth0 E14
    obtain ⟨z14_13_6_0r0, z14_13_6_0r1, z14_13_6_0r2, s13_14, z14_13_6_0h0, z14_13_6_0h1, z14_13_6_0h2⟩ : ∃ z14_13_6_0r0 : Nat, ∃ z14_13_6_0r1 : Nat, ∃ z14_13_6_0r2 : Nat, σ14 13 = (.agg #[.float .f32 z14_13_6_0r0, .float .f32 z14_13_6_0r1, .float .f32 z14_13_6_0r2]) ∧ cn .f32 z14_13_6_0r0 = m19.x ∧ cn .f32 z14_13_6_0r1 = m19.y ∧ cn .f32 z14_13_6_0r2 = m19.z := V14 6 (Nat.le_of_ble_eq_true rfl)
    have s6_14 : σ14 6 = .pointer (some ⟨w4.heap.size, 0, none⟩) := (A14 6 rfl).trans rfl
    have X29 : Ext w w14 := X13.trans E14x
    have B30 : w14.heap[w4.heap.size]? = some (.cells #[.float .f32 0, .float .f32 0, .float .f32 0] 26 (0, 0)) := E14x.heap B8
    refine da_op rfl (d_store (vs := #[.float .f32 z14_13_6_0r0, .float .f32 z14_13_6_0r1, .float .f32 z14_13_6_0r2]) s6_14 (congrArg Value.cells s13_14) B30 size26 (Nat.le_of_ble_eq_true rfl) rfl fun w31 S31 => ?_)
    have X32 : Ext w w31 := Ext.step X29 S31.frmb (fun k _ hk => hk ▸ own10)
    have B33 : w31.heap[w4.heap.size]? = some (.cells #[.float .f32 z14_13_6_0r0, .float .f32 z14_13_6_0r1, .float .f32 z14_13_6_0r2] 26 (0, 0)) := S31.here
    refine da_nil ?_
    refine W_ret ?_
    subst hr
    refine ⟨_, res1 (rv_cells (vs := #[.float .f32 z14_13_6_0r0, .float .f32 z14_13_6_0r1, .float .f32 z14_13_6_0r2]) s6_14 agg26 size26 B33 rfl), ?_⟩
    exact ⟨z14_13_6_0r0, z14_13_6_0r1, z14_13_6_0r2, rfl, z14_13_6_0h0, z14_13_6_0h1, z14_13_6_0h2, X32⟩
set_option maxHeartbeats 4000000 in
theorem c36 (p0 : Sl00Src) (p1 : Int) (p0b : Nat) (p0v0a : Option Addr) (p0v0n : Nat) (p0v0c : Nat) (r : Bool × Sl00Src) (w : World) (hr : M.spec_l00Src_one p0 p1 = some r) (p0v0R : RS w encI_u8 (Value.slice p0v0a p0v0n p0v0c) p0.code) (p0B : w.heap[p0b]? = some (.cells #[(Value.slice p0v0a p0v0n p0v0c), .int .i64 p0.at_, .int .u64 p0.seed] 54 (0, 0))) (sp0_1 : ¬ (Value.slice p0v0a p0v0n p0v0c).ownBlock = some p0b) :
    Calls Tryd.prog 36 #[.pointer (some ⟨p0b, 0, none⟩), .int .i64 p1] w fun e w' => e = .returned (.bool r.1) ∧ w'.heap[p0b]? = some (.cells #[(Value.slice p0v0a p0v0n p0v0c), .int .i64 r.2.at_, .int .u64 r.2.seed] 54 (0, 0)) ∧ Frm (fun k _ => k = p0b) w w' := by
  have X0 : Frm (fun k _ => k = p0b) w w := Frm.refl _ w
  refine calls_of_W Tryd.func36 rfl (Nat.le_of_ble_eq_true rfl) ?_
  refine W_seq ?_
  refine W_region rfl ?_
  refine da_op rfl (d_as (v := .bool false) rfl ?_)
  refine da_nil ?_
  refine W_seq ?_
  refine W_region rfl ?_
  refine da_op rfl (d_mv (v := .pointer (some ⟨p0b, 0, none⟩)) rfl ?_)
  refine da_op rfl (d_mv (v := .int .i64 p1) rfl ?_)
  obtain ⟨m1, hm1, hr⟩ := bind_out hr
  refine da_op rfl (d_cl (vs := [.pointer (some ⟨p0b, 0, none⟩), .int .i64 p1]) en22 (ac rfl (ac rfl rfl)) rfl ?_)
  refine (c22 p0 p1 p0b p0v0a p0v0n p0v0c m1 w hm1 p0v0R p0B sp0_1).mono ?_
  rintro _ w2 ⟨rfl, q2_m0B, E2⟩
  refine ⟨_, rfl, ?_⟩
  have X3 : Frm (fun k _ => k = p0b) w w2 := Frm.step X0 E2 (fun k _ hk => .inl hk)
  refine da_op rfl (d_icmp cEql rfl rfl ?_)
  refine da_op rfl (d_as (v := .bool (icmp .eql m1.1 0)) rfl ?_)
  refine da_nil ?_
  refine W_ret ?_
  obtain rfl := Option.some.inj hr
  refine ⟨_, res1 (rv_tmp rfl), ?_⟩
  exact ⟨rfl, q2_m0B, X3⟩
set_option maxHeartbeats 4000000 in
theorem c37 (p0 : Sl00Src) (p0b : Nat) (p0v0a : Option Addr) (p0v0n : Nat) (p0v0c : Nat) (r : Nat × Sl00Src) (w : World) (hr : M.spec_l01DrawSmall p0 = some r) (p0v0R : RS w encI_u8 (Value.slice p0v0a p0v0n p0v0c) p0.code) (p0B : w.heap[p0b]? = some (.cells #[(Value.slice p0v0a p0v0n p0v0c), .int .i64 p0.at_, .int .u64 p0.seed] 54 (0, 0))) (sp0_1 : ¬ (Value.slice p0v0a p0v0n p0v0c).ownBlock = some p0b) :
    Calls Tryd.prog 37 #[.pointer (some ⟨p0b, 0, none⟩)] w fun e w' => ∃ q0r : Nat, e = .returned (.float .f32 q0r) ∧ cn .f32 q0r = r.1 ∧ w'.heap[p0b]? = some (.cells #[(Value.slice p0v0a p0v0n p0v0c), .int .i64 r.2.at_, .int .u64 r.2.seed] 54 (0, 0)) ∧ Frm (fun k _ => k = p0b) w w' := by
  have X0 : Frm (fun k _ => k = p0b) w w := Frm.refl _ w
  refine calls_of_W Tryd.func37 rfl (Nat.le_of_ble_eq_true rfl) ?_
  refine W_seq ?_
  refine W_region rfl ?_
  refine da_op rfl (d_as (v := .float .f32 0) rfl ?_)
  refine da_nil ?_
  refine W_seq ?_
  refine W_region rfl ?_
  refine da_op rfl (d_mv (v := .pointer (some ⟨p0b, 0, none⟩)) rfl ?_)
  obtain ⟨m1, hm1, hr⟩ := bind_out hr
  refine da_op rfl (d_cl (vs := [.pointer (some ⟨p0b, 0, none⟩), .int .i64 33]) en22 (ac rfl (ac rfl rfl)) rfl ?_)
  refine (c22 p0 33 p0b p0v0a p0v0n p0v0c m1 w hm1 p0v0R p0B sp0_1).mono ?_
  rintro _ w2 ⟨rfl, q2_m0B, E2⟩
  refine ⟨_, rfl, ?_⟩
  have X3 : Frm (fun k _ => k = p0b) w w2 := Frm.step X0 E2 (fun k _ hk => .inl hk)
  refine da_op rfl (d_iarith rfl rfl (.inr (.inl ⟨rfl, rfl⟩)) ?_)
  refine da_op rfl (d_ofInt un2 un24 rfl ?_)
  refine da_op rfl (d_fop (k := .f32) fQuo rfl rfl (cn_fint _ _) cn_f32_1082130432 fun r4 w4 h4 _ E4 => ?_)
  have X5 : Frm (fun k _ => k = p0b) w w4 := X3.trans E4.frm
  refine da_op rfl (d_as (v := .float .f32 r4) rfl ?_)
  refine da_nil ?_
  refine W_ret ?_
  have B6 : w4.heap[p0b]? = some (.cells #[(Value.slice p0v0a p0v0n p0v0c), .int .i64 m1.2.at_, .int .u64 m1.2.seed] 54 (0, 0)) := E4.heap q2_m0B
  obtain rfl := Option.some.inj hr
  refine ⟨_, res1 (rv_tmp rfl), ?_⟩
  exact ⟨r4, rfl, h4, B6, X5⟩
set_option maxHeartbeats 4000000 in
theorem c48 (p0 : Sl00Src) (p0b : Nat) (p0v0a : Option Addr) (p0v0n : Nat) (p0v0c : Nat) (r : Nat × Sl00Src) (w : World) (hr : M.spec_l01DrawPlain p0 = some r) (p0v0R : RS w encI_u8 (Value.slice p0v0a p0v0n p0v0c) p0.code) (p0B : w.heap[p0b]? = some (.cells #[(Value.slice p0v0a p0v0n p0v0c), .int .i64 p0.at_, .int .u64 p0.seed] 54 (0, 0))) (sp0_1 : ¬ (Value.slice p0v0a p0v0n p0v0c).ownBlock = some p0b) :
    Calls Tryd.prog 48 #[.pointer (some ⟨p0b, 0, none⟩)] w fun e w' => ∃ q0r : Nat, e = .returned (.float .f32 q0r) ∧ cn .f32 q0r = r.1 ∧ w'.heap[p0b]? = some (.cells #[(Value.slice p0v0a p0v0n p0v0c), .int .i64 r.2.at_, .int .u64 r.2.seed] 54 (0, 0)) ∧ Frm (fun k _ => k = p0b) w w' := by
  have X0 : Frm (fun k _ => k = p0b) w w := Frm.refl _ w
  refine calls_of_W Tryd.func48 rfl (Nat.le_of_ble_eq_true rfl) ?_
  refine W_seq ?_
  refine W_region rfl ?_
  refine da_op rfl (d_as (v := .float .f32 0) rfl ?_)
  refine da_nil ?_
  refine W_seq ?_
  refine W_region rfl ?_
  refine da_op rfl (d_mv (v := .pointer (some ⟨p0b, 0, none⟩)) rfl ?_)
  obtain ⟨m1, hm1, hr⟩ := bind_out hr
  refine da_op rfl (d_cl (vs := [.pointer (some ⟨p0b, 0, none⟩), .int .i64 129]) en22 (ac rfl (ac rfl rfl)) rfl ?_)
  refine (c22 p0 129 p0b p0v0a p0v0n p0v0c m1 w hm1 p0v0R p0B sp0_1).mono ?_
  rintro _ w2 ⟨rfl, q2_m0B, E2⟩
  refine ⟨_, rfl, ?_⟩
  have X3 : Frm (fun k _ => k = p0b) w w2 := Frm.step X0 E2 (fun k _ hk => .inl hk)
  refine da_op rfl (d_iarith rfl rfl (.inr (.inl ⟨rfl, rfl⟩)) ?_)
  refine da_op rfl (d_as (v := .int .i64 (IntKind.i64.wrap (m1.1 - 64))) rfl ?_)
  refine da_nil ?_
  refine W_seq ?_
  refine W_seq ?_
  refine W_region rfl ?_
  refine da_op rfl (d_mv (v := .pointer (some ⟨p0b, 0, none⟩)) rfl ?_)
  obtain ⟨m4, hm4, hr⟩ := bind_out hr
  have B5 : RS w2 encI_u8 (Value.slice p0v0a p0v0n p0v0c) p0.code := p0v0R.frm E2 (fun k _ => (fun k hk => ((rb sp0_1) k hk)) k)
  refine da_op rfl (d_cl (vs := [.pointer (some ⟨p0b, 0, none⟩), .int .i64 4]) en36 (ac rfl (ac rfl rfl)) rfl ?_)
  refine (c36 (⟨p0.code, m1.2.at_, m1.2.seed⟩ : Sl00Src) 4 p0b p0v0a p0v0n p0v0c m4 w2 hm4 B5 q2_m0B sp0_1).mono ?_
  rintro _ w6 ⟨rfl, q6_m0B, E6⟩
  refine ⟨_, rfl, ?_⟩
  have X7 : Frm (fun k _ => k = p0b) w w6 := Frm.step X3 E6 (fun k _ hk => .inl hk)
  refine da_nil ?_
  refine W_cond (b := m4.1) rfl (fun hc8 => ?_) (fun hc8 => ?_)
  · skip
    replace hr := bif_t hr hc8
    refine W_seq ?_
    refine W_region rfl ?_
    refine da_op rfl (d_mv (v := .int .i64 (IntKind.i64.wrap (m1.1 - 64))) rfl ?_)
    refine da_op rfl (d_ofInt un2 un24 rfl ?_)
    refine da_op rfl (d_fop (k := .f32) fQuo rfl rfl (cn_fint _ _) cn_f32_1088421888 fun r9 w9 h9 _ E9 => ?_)
    have X10 : Frm (fun k _ => k = p0b) w w9 := X7.trans E9.frm
    refine da_op rfl (d_as (v := .float .f32 r9) rfl ?_)
    refine da_nil ?_
    refine W_ret ?_
    have B11 : w9.heap[p0b]? = some (.cells #[(Value.slice p0v0a p0v0n p0v0c), .int .i64 m4.2.at_, .int .u64 m4.2.seed] 54 (0, 0)) := E9.heap q6_m0B
    obtain rfl := Option.some.inj hr
    refine ⟨_, res1 (rv_tmp rfl), ?_⟩
    exact ⟨r9, rfl, h9, B11, X10⟩
  · skip
    replace hr := bif_f hr hc8
    refine W_skip ?_
    refine W_seq ?_
    refine W_region rfl ?_
    refine da_op rfl (d_mv (v := .int .i64 (IntKind.i64.wrap (m1.1 - 64))) rfl ?_)
    refine da_op rfl (d_ofInt un2 un24 rfl ?_)
    refine da_op rfl (d_fop (k := .f32) fQuo rfl rfl (cn_fint _ _) cn_f32_1098907648 fun r12 w12 h12 _ E12 => ?_)
    have X13 : Frm (fun k _ => k = p0b) w w12 := X7.trans E12.frm
    refine da_op rfl (d_as (v := .float .f32 r12) rfl ?_)
    refine da_nil ?_
    refine W_ret ?_
    have B14 : w12.heap[p0b]? = some (.cells #[(Value.slice p0v0a p0v0n p0v0c), .int .i64 m4.2.at_, .int .u64 m4.2.seed] 54 (0, 0)) := E12.heap q6_m0B
    obtain rfl := Option.some.inj hr
    refine ⟨_, res1 (rv_tmp rfl), ?_⟩
    exact ⟨r12, rfl, h12, B14, X13⟩
set_option maxHeartbeats 4000000 in
theorem c50 (p0 : Sl00Src) (p1 : List Int) (p0b : Nat) (p0v0a : Option Addr) (p0v0n : Nat) (p0v0c : Nat) (p1a : Option Addr) (p1n : Nat) (p1c : Nat) (r : Int × Sl00Src) (w : World) (hr : M.spec_l00Src_among p0 p1 = some r) (p0v0R : RS w encI_u8 (Value.slice p0v0a p0v0n p0v0c) p0.code) (p0B : w.heap[p0b]? = some (.cells #[(Value.slice p0v0a p0v0n p0v0c), .int .i64 p0.at_, .int .u64 p0.seed] 54 (0, 0))) (p1R : RS w encI_i64 (Value.slice p1a p1n p1c) p1) (sp0_1 : ¬ (Value.slice p0v0a p0v0n p0v0c).ownBlock = some p0b) (sp0_2 : ¬ (Value.slice p1a p1n p1c).ownBlock = some p0b) :
    Calls Tryd.prog 50 #[.pointer (some ⟨p0b, 0, none⟩), (Value.slice p1a p1n p1c)] w fun e w' => e = .returned (.int .i64 r.1) ∧ w'.heap[p0b]? = some (.cells #[(Value.slice p0v0a p0v0n p0v0c), .int .i64 r.2.at_, .int .u64 r.2.seed] 54 (0, 0)) ∧ Frm (fun k _ => k = p0b) w w' := by
  have X0 : Frm (fun k _ => k = p0b) w w := Frm.refl _ w
  refine calls_of_W Tryd.func50 rfl (Nat.le_of_ble_eq_true rfl) ?_
  refine W_seq ?_
  refine W_region rfl ?_
  refine da_op rfl (d_as (v := .int .i64 0) rfl ?_)
  refine da_nil ?_
  refine W_seq ?_
  refine W_region rfl ?_
  refine da_op rfl (d_mv (v := (Value.slice p1a p1n p1c)) rfl ?_)
  refine da_op rfl (d_mv (v := .pointer (some ⟨p0b, 0, none⟩)) rfl ?_)
  refine da_op rfl (d_mv (v := (Value.slice p1a p1n p1c)) rfl ?_)
  refine da_op rfl (d_len (e := encI_i64) un74 rfl p1R ?_)
  obtain ⟨m1, hm1, hr⟩ := bind_out hr
  refine da_op rfl (d_cl (vs := [.pointer (some ⟨p0b, 0, none⟩), .int .i64 ((p1).length : Int)]) en22 (ac rfl (ac rfl rfl)) rfl ?_)
  refine (c22 p0 ((p1).length : Int) p0b p0v0a p0v0n p0v0c m1 w hm1 p0v0R p0B sp0_1).mono ?_
  rintro _ w2 ⟨rfl, q2_m0B, E2⟩
  refine ⟨_, rfl, ?_⟩
  have X3 : Frm (fun k _ => k = p0b) w w2 := Frm.step X0 E2 (fun k _ hk => .inl hk)
  obtain ⟨m4, hm4, hr⟩ := bind_out hr
  have B6 : RS w2 encI_i64 (Value.slice p1a p1n p1c) p1 := p1R.frm E2 (fun k _ => (fun k hk => ((rb sp0_2) k hk)) k)
  refine da_op rfl (d_index (e := encI_i64) (v := (Value.slice p1a p1n p1c)) un74 size2 rfl rfl B6 hm4 fun g5 o5 cu5 T5 fr5 vs5 hv5 hg5 hp5 hq5 => ?_)
  obtain rfl := dec_encI_i64 hq5
  refine da_op rfl (d_load (v := .int .i64 m4) rfl agg2 hg5 (sub_get (vs := #[.int .i64 m4]) hp5 (i := 0) rfl) ?_)
  refine da_op rfl (d_as (v := .int .i64 m4) rfl ?_)
  refine da_nil ?_
  refine W_ret ?_
  obtain rfl := Option.some.inj hr
  refine ⟨_, res1 (rv_tmp rfl), ?_⟩
  exact ⟨rfl, q2_m0B, X3⟩
set_option maxHeartbeats 4000000 in
theorem c49 (p0 : Int) (r : Nat) (w : World) (hr : M.spec_l01From p0 = r)  :
    Calls Tryd.prog 49 #[.int .i64 p0] w fun e w' => ∃ q0r : Nat, e = .returned (.float .f32 q0r) ∧ cn .f32 q0r = r ∧ Ext w w' := by
  refine calls_of_W Tryd.func49 rfl (Nat.le_of_ble_eq_true rfl) ?_
  refine W_seq ?_
  refine W_region rfl ?_
  refine da_op rfl (d_as (v := .float .f32 0) rfl ?_)
  refine da_nil ?_
  refine W_seq ?_
  refine W_region rfl ?_
  refine da_op rfl (d_mv (v := .int .i64 p0) rfl ?_)
  refine da_op rfl (d_iconv un2 un70 rfl ?_)
  refine da_op rfl (d_f32from ext56_0 ext56_1 ext56_2 (Option.isNone_iff_eq_none.1 ext56_3) ext56_4 rfl rfl ?_)
  refine da_op rfl (d_as (v := .float .f32 ((IntKind.u32.wrap p0)).toNat) rfl ?_)
  refine da_nil ?_
  refine W_ret ?_
  subst hr
  refine ⟨_, res1 (rv_tmp rfl), ?_⟩
  exact ⟨((IntKind.u32.wrap p0)).toNat, rfl, rfl, (Ext.refl w)⟩
set_option maxHeartbeats 4000000 in
theorem c38 (p0 : Sl00Src) (p0b : Nat) (p0v0a : Option Addr) (p0v0n : Nat) (p0v0c : Nat) (r : Nat × Sl00Src) (w : World) (hr : M.spec_l01DrawFloat p0 = some r) (p0v0R : RS w encI_u8 (Value.slice p0v0a p0v0n p0v0c) p0.code) (p0B : w.heap[p0b]? = some (.cells #[(Value.slice p0v0a p0v0n p0v0c), .int .i64 p0.at_, .int .u64 p0.seed] 54 (0, 0))) (sp0_1 : ¬ (Value.slice p0v0a p0v0n p0v0c).ownBlock = some p0b) :
    Calls Tryd.prog 38 #[.pointer (some ⟨p0b, 0, none⟩)] w fun e w' => ∃ q0r : Nat, e = .returned (.float .f32 q0r) ∧ cn .f32 q0r = r.1 ∧ w'.heap[p0b]? = some (.cells #[(Value.slice p0v0a p0v0n p0v0c), .int .i64 r.2.at_, .int .u64 r.2.seed] 54 (0, 0)) ∧ Frm (fun k _ => k = p0b) w w' := by
  have X0 : Frm (fun k _ => k = p0b) w w := Frm.refl _ w
  refine calls_of_W Tryd.func38 rfl (Nat.le_of_ble_eq_true rfl) ?_
  refine W_seq ?_
  refine W_region rfl ?_
  refine da_op rfl (d_as (v := .float .f32 0) rfl ?_)
  refine da_nil ?_
  refine W_seq ?_
  refine W_seq ?_
  refine W_region rfl ?_
  refine da_op rfl (d_mv (v := .pointer (some ⟨p0b, 0, none⟩)) rfl ?_)
  obtain ⟨m1, hm1, hr⟩ := bind_out hr
  refine da_op rfl (d_cl (vs := [.pointer (some ⟨p0b, 0, none⟩), .int .i64 12]) en36 (ac rfl (ac rfl rfl)) rfl ?_)
  refine (c36 p0 12 p0b p0v0a p0v0n p0v0c m1 w hm1 p0v0R p0B sp0_1).mono ?_
  rintro _ w2 ⟨rfl, q2_m0B, E2⟩
  refine ⟨_, rfl, ?_⟩
  have X3 : Frm (fun k _ => k = p0b) w w2 := Frm.step X0 E2 (fun k _ hk => .inl hk)
  refine da_op rfl (d_not rfl ?_)
  refine da_nil ?_
  refine W_cond (b := (!m1.1)) rfl (fun hc4 => ?_) (fun hc4 => ?_)
  · skip
    replace hr := bif_t hr hc4
    refine W_seq ?_
    refine W_region rfl ?_
    refine da_op rfl (d_mv (v := .pointer (some ⟨p0b, 0, none⟩)) rfl ?_)
    obtain ⟨m5, hm5, hr⟩ := bind_out hr
    have B6 : RS w2 encI_u8 (Value.slice p0v0a p0v0n p0v0c) p0.code := p0v0R.frm E2 (fun k _ => (fun k hk => ((rb sp0_1) k hk)) k)
    refine da_op rfl (d_cl (vs := [.pointer (some ⟨p0b, 0, none⟩)]) en48 (ac rfl rfl) rfl ?_)
    refine (c48 (⟨p0.code, m1.2.at_, m1.2.seed⟩ : Sl00Src) p0b p0v0a p0v0n p0v0c m5 w2 hm5 B6 q2_m0B sp0_1).mono ?_
    rintro _ w7 ⟨q7_0r, rfl, q7_0h, q7_m0B, E7⟩
    refine ⟨_, rfl, ?_⟩
    have X8 : Frm (fun k _ => k = p0b) w w7 := Frm.step X3 E7 (fun k _ hk => .inl hk)
    refine da_op rfl (d_as (v := .float .f32 q7_0r) rfl ?_)
    refine da_nil ?_
    refine W_ret ?_
    obtain rfl := Option.some.inj hr
    refine ⟨_, res1 (rv_tmp rfl), ?_⟩
    exact ⟨q7_0r, rfl, q7_0h, q7_m0B, X8⟩
  · skip
    replace hr := bif_f hr hc4
    refine W_skip ?_
    refine W_seq ?_
    refine W_seq ?_
    refine W_region rfl ?_
    refine da_op rfl (d_mv (v := .pointer (some ⟨p0b, 0, none⟩)) rfl ?_)
    obtain ⟨m9, hm9, hr⟩ := bind_out hr
    have B10 : RS w2 encI_u8 (Value.slice p0v0a p0v0n p0v0c) p0.code := p0v0R.frm E2 (fun k _ => (fun k hk => ((rb sp0_1) k hk)) k)
    refine da_op rfl (d_cl (vs := [.pointer (some ⟨p0b, 0, none⟩), .int .i64 4]) en22 (ac rfl (ac rfl rfl)) rfl ?_)
    refine (c22 (⟨p0.code, m1.2.at_, m1.2.seed⟩ : Sl00Src) 4 p0b p0v0a p0v0n p0v0c m9 w2 hm9 B10 q2_m0B sp0_1).mono ?_
    rintro _ w11 ⟨rfl, q11_m0B, E11⟩
    refine ⟨_, rfl, ?_⟩
    have X12 : Frm (fun k _ => k = p0b) w w11 := Frm.step X3 E11 (fun k _ hk => .inl hk)
    refine da_nil ?_
    refine W_block ?_
    refine W_seq ?_
    refine W_region rfl ?_
    refine da_op rfl (d_icmp cEql rfl rfl ?_)
    refine da_op rfl (d_as (v := .bool (icmp .eql m9.1 0)) rfl ?_)
    refine da_nil ?_
    refine W_cond (b := (icmp .eql m9.1 0)) rfl (fun hc13 => ?_) (fun hc13 => ?_)
    · skip
      replace hr := bif_t hr hc13
      refine W_seq ?_
      refine W_region rfl ?_
      refine da_op rfl (d_mv (v := .pointer (some ⟨p0b, 0, none⟩)) rfl ?_)
      refine da_op rfl (d_bslice (vs := [(0, .int .i64 0), (1, .int .i64 2147483648), (2, .int .i64 2139095040), (3, .int .i64 4286578688), (4, .int .i64 2143289344), (5, .int .i64 1), (6, .int .i64 2139095039), (7, .int .i64 8388608), (8, .int .i64 8388607), (9, .int .i64 2147483649)]) (cs := #[.int .i64 0, .int .i64 2147483648, .int .i64 2139095040, .int .i64 4286578688, .int .i64 2143289344, .int .i64 1, .int .i64 2139095039, .int .i64 8388608, .int .i64 8388607, .int .i64 2147483649]) un74 (pc rfl (pc rfl (pc rfl (pc rfl (pc rfl (pc rfl (pc rfl (pc rfl (pc rfl (pc rfl rfl)))))))))) (by kernel_rfl) fun w14 B14 E14 => ?_)
      have fr14 : ∀ k, (Value.slice (some ⟨w11.heap.size, 0, none⟩) 10 10).ownBlock = some k → w11.heap.size ≤ k := fun k hk => by cases hk; exact Nat.le_refl _
      have own14 : ∀ k, (Value.slice (some ⟨w11.heap.size, 0, none⟩) 10 10).ownBlock = some k → w.heap.size ≤ k := fun k hk => Nat.le_trans X12.size (fr14 k hk)
      have sp15 : ¬ (Value.slice (some ⟨w11.heap.size, 0, none⟩) 10 10).ownBlock = some p0b := ne_fresh fr14 (lt_heap q11_m0B)
      have X16 : Frm (fun k _ => k = p0b) w w14 := X12.trans E14.frm
      have O14 : OS w14 2 encI_i64 (Value.slice (some ⟨w11.heap.size, 0, none⟩) 10 10) [0, 2147483648, 2139095040, 4286578688, 2143289344, 1, 2139095039, 8388608, 8388607, 2147483649] := OS.box (xs := [0, 2147483648, 2139095040, 4286578688, 2143289344, 1, 2139095039, 8388608, 8388607, 2147483649]) B14 (lc_v rfl (lc_v rfl (lc_v rfl (lc_v rfl (lc_v rfl (lc_v rfl (lc_v rfl (lc_v rfl (lc_v rfl (lc_v rfl rfl)))))))))) (Nat.le_of_ble_eq_true rfl)
      obtain ⟨m17, hm17, hr⟩ := bind_out hr
      have B18 : w14.heap[p0b]? = some (.cells #[(Value.slice p0v0a p0v0n p0v0c), .int .i64 m9.2.at_, .int .u64 m9.2.seed] 54 (0, 0)) := E14.heap q11_m0B
      have B19 : RS w14 encI_u8 (Value.slice p0v0a p0v0n p0v0c) p0.code := (B10.frm E11 (fun k _ => (fun k hk => ((rb sp0_1) k hk)) k)).ext E14
      refine da_op rfl (d_cl (vs := [.pointer (some ⟨p0b, 0, none⟩), (Value.slice (some ⟨w11.heap.size, 0, none⟩) 10 10)]) en50 (ac rfl (ac rfl rfl)) rfl ?_)
      refine (c50 (⟨p0.code, m9.2.at_, m9.2.seed⟩ : Sl00Src) ([0, 2147483648, 2139095040, 4286578688, 2143289344, 1, 2139095039, 8388608, 8388607, 2147483649]) p0b p0v0a p0v0n p0v0c (some ⟨w11.heap.size, 0, none⟩) 10 10 m17 w14 hm17 B19 B18 O14.rs sp0_1 sp15).mono ?_
      rintro _ w20 ⟨rfl, q20_m0B, E20⟩
      refine ⟨_, rfl, ?_⟩
      have X21 : Frm (fun k _ => k = p0b) w w20 := Frm.step X16 E20 (fun k _ hk => .inl hk)
      obtain ⟨m22, hm22, hr⟩ := letv_out hr
      have B23 : OS w20 2 encI_i64 (Value.slice (some ⟨w11.heap.size, 0, none⟩) 10 10) ([0, 2147483648, 2139095040, 4286578688, 2143289344, 1, 2139095039, 8388608, 8388607, 2147483649]) := O14.frm E20 (fun k hk => ((rb sp15) k hk))
      refine da_op rfl (d_cl (vs := [.int .i64 m17.1]) en49 (ac rfl rfl) rfl ?_)
      refine (c49 m17.1 m22 w20 hm22 ).mono ?_
      rintro _ w24 ⟨q24_0r, rfl, q24_0h, E24⟩
      refine ⟨_, rfl, ?_⟩
      have X25 : Frm (fun k _ => k = p0b) w w24 := X21.trans E24.frm
      refine da_op rfl (d_as (v := .float .f32 q24_0r) rfl ?_)
      refine da_nil ?_
      refine W_ret ?_
      have B26 : w24.heap[p0b]? = some (.cells #[(Value.slice p0v0a p0v0n p0v0c), .int .i64 m17.2.at_, .int .u64 m17.2.seed] 54 (0, 0)) := E24.heap q20_m0B
      obtain rfl := Option.some.inj hr
      refine ⟨_, res1 (rv_tmp rfl), ?_⟩
      exact ⟨q24_0r, rfl, q24_0h, B26, X25⟩
    · skip
      replace hr := bif_f hr hc13
      refine W_seq ?_
      refine W_region rfl ?_
      refine da_op rfl (d_icmp cEql rfl rfl ?_)
      refine da_op rfl (d_as (v := .bool (icmp .eql m9.1 1)) rfl ?_)
      refine da_nil ?_
      refine W_cond (b := (icmp .eql m9.1 1)) rfl (fun hc27 => ?_) (fun hc27 => ?_)
      · skip
        replace hr := bif_t hr hc27
        refine W_seq ?_
        refine W_region rfl ?_
        refine da_op rfl (d_mv (v := .pointer (some ⟨p0b, 0, none⟩)) rfl ?_)
        obtain ⟨m28, hm28, hr⟩ := bind_out hr
        have B29 : RS w11 encI_u8 (Value.slice p0v0a p0v0n p0v0c) p0.code := B10.frm E11 (fun k _ => (fun k hk => ((rb sp0_1) k hk)) k)
        refine da_op rfl (d_cl (vs := [.pointer (some ⟨p0b, 0, none⟩), .int .i64 65536]) en22 (ac rfl (ac rfl rfl)) rfl ?_)
        refine (c22 (⟨p0.code, m9.2.at_, m9.2.seed⟩ : Sl00Src) 65536 p0b p0v0a p0v0n p0v0c m28 w11 hm28 B29 q11_m0B sp0_1).mono ?_
        rintro _ w30 ⟨rfl, q30_m0B, E30⟩
        refine ⟨_, rfl, ?_⟩
        have X31 : Frm (fun k _ => k = p0b) w w30 := Frm.step X12 E30 (fun k _ hk => .inl hk)
        refine da_op rfl (d_iarith rfl rfl (.inr (.inr ⟨rfl, rfl⟩)) ?_)
        refine da_op rfl (d_as (v := .int .i64 (IntKind.i64.wrap (m28.1 * 65536))) rfl ?_)
        refine da_nil ?_
        refine W_seq ?_
        refine W_region rfl ?_
        refine da_op rfl (d_mv (v := .int .i64 (IntKind.i64.wrap (m28.1 * 65536))) rfl ?_)
        refine da_op rfl (d_mv (v := .pointer (some ⟨p0b, 0, none⟩)) rfl ?_)
        obtain ⟨m32, hm32, hr⟩ := bind_out hr
        have B33 : RS w30 encI_u8 (Value.slice p0v0a p0v0n p0v0c) p0.code := B29.frm E30 (fun k _ => (fun k hk => ((rb sp0_1) k hk)) k)
        refine da_op rfl (d_cl (vs := [.pointer (some ⟨p0b, 0, none⟩), .int .i64 65536]) en22 (ac rfl (ac rfl rfl)) rfl ?_)
        refine (c22 (⟨p0.code, m28.2.at_, m28.2.seed⟩ : Sl00Src) 65536 p0b p0v0a p0v0n p0v0c m32 w30 hm32 B33 q30_m0B sp0_1).mono ?_
        rintro _ w34 ⟨rfl, q34_m0B, E34⟩
        refine ⟨_, rfl, ?_⟩
        have X35 : Frm (fun k _ => k = p0b) w w34 := Frm.step X31 E34 (fun k _ hk => .inl hk)
        refine da_op rfl (d_iarith rfl rfl (.inl ⟨rfl, rfl⟩) ?_)
        obtain ⟨m36, hm36, hr⟩ := letv_out hr
        refine da_op rfl (d_cl (vs := [.int .i64 (IntKind.i64.wrap ((IntKind.i64.wrap (m28.1 * 65536)) + m32.1))]) en49 (ac rfl rfl) rfl ?_)
        refine (c49 (IntKind.i64.wrap ((IntKind.i64.wrap (m28.1 * 65536)) + m32.1)) m36 w34 hm36 ).mono ?_
        rintro _ w37 ⟨q37_0r, rfl, q37_0h, E37⟩
        refine ⟨_, rfl, ?_⟩
        have X38 : Frm (fun k _ => k = p0b) w w37 := X35.trans E37.frm
        refine da_op rfl (d_as (v := .float .f32 q37_0r) rfl ?_)
        refine da_nil ?_
        refine W_ret ?_
        have B39 : w37.heap[p0b]? = some (.cells #[(Value.slice p0v0a p0v0n p0v0c), .int .i64 m32.2.at_, .int .u64 m32.2.seed] 54 (0, 0)) := E37.heap q34_m0B
        obtain rfl := Option.some.inj hr
        refine ⟨_, res1 (rv_tmp rfl), ?_⟩
        exact ⟨q37_0r, rfl, q37_0h, B39, X38⟩
      · skip
        replace hr := bif_f hr hc27
        refine W_seq ?_
        refine W_region rfl ?_
        refine da_op rfl (d_icmp cEql rfl rfl ?_)
        refine da_op rfl (d_as (v := .bool (icmp .eql m9.1 2)) rfl ?_)
        refine da_nil ?_
        refine W_cond (b := (icmp .eql m9.1 2)) rfl (fun hc40 => ?_) (fun hc40 => ?_)
        · skip
          replace hr := bif_t hr hc40
          refine W_seq ?_
          refine W_region rfl ?_
          refine da_op rfl (d_mv (v := .pointer (some ⟨p0b, 0, none⟩)) rfl ?_)
          obtain ⟨m41, hm41, hr⟩ := bind_out hr
          have B42 : RS w11 encI_u8 (Value.slice p0v0a p0v0n p0v0c) p0.code := B10.frm E11 (fun k _ => (fun k hk => ((rb sp0_1) k hk)) k)
          refine da_op rfl (d_cl (vs := [.pointer (some ⟨p0b, 0, none⟩), .int .i64 65536]) en22 (ac rfl (ac rfl rfl)) rfl ?_)
          refine (c22 (⟨p0.code, m9.2.at_, m9.2.seed⟩ : Sl00Src) 65536 p0b p0v0a p0v0n p0v0c m41 w11 hm41 B42 q11_m0B sp0_1).mono ?_
          rintro _ w43 ⟨rfl, q43_m0B, E43⟩
          refine ⟨_, rfl, ?_⟩
          have X44 : Frm (fun k _ => k = p0b) w w43 := Frm.step X12 E43 (fun k _ hk => .inl hk)
          refine da_op rfl (d_iarith rfl rfl (.inr (.inr ⟨rfl, rfl⟩)) ?_)
          obtain ⟨m45, hm45, hr⟩ := letv_out hr
          refine da_op rfl (d_cl (vs := [.int .i64 (IntKind.i64.wrap (m41.1 * 65536))]) en49 (ac rfl rfl) rfl ?_)
          refine (c49 (IntKind.i64.wrap (m41.1 * 65536)) m45 w43 hm45 ).mono ?_
          rintro _ w46 ⟨q46_0r, rfl, q46_0h, E46⟩
          refine ⟨_, rfl, ?_⟩
          have X47 : Frm (fun k _ => k = p0b) w w46 := X44.trans E46.frm
          refine da_op rfl (d_as (v := .float .f32 q46_0r) rfl ?_)
          refine da_nil ?_
          refine W_ret ?_
          have B48 : w46.heap[p0b]? = some (.cells #[(Value.slice p0v0a p0v0n p0v0c), .int .i64 m41.2.at_, .int .u64 m41.2.seed] 54 (0, 0)) := E46.heap q43_m0B
          obtain rfl := Option.some.inj hr
          refine ⟨_, res1 (rv_tmp rfl), ?_⟩
          exact ⟨q46_0r, rfl, q46_0h, B48, X47⟩
        · skip
          replace hr := bif_f hr hc40
          refine W_skip ?_
          refine W_seq ?_
          refine W_region rfl ?_
          refine da_op rfl (d_mv (v := .pointer (some ⟨p0b, 0, none⟩)) rfl ?_)
          obtain ⟨m49, hm49, hr⟩ := bind_out hr
          have B50 : RS w11 encI_u8 (Value.slice p0v0a p0v0n p0v0c) p0.code := B10.frm E11 (fun k _ => (fun k hk => ((rb sp0_1) k hk)) k)
          refine da_op rfl (d_cl (vs := [.pointer (some ⟨p0b, 0, none⟩)]) en48 (ac rfl rfl) rfl ?_)
          refine (c48 (⟨p0.code, m9.2.at_, m9.2.seed⟩ : Sl00Src) p0b p0v0a p0v0n p0v0c m49 w11 hm49 B50 q11_m0B sp0_1).mono ?_
          rintro _ w51 ⟨q51_0r, rfl, q51_0h, q51_m0B, E51⟩
          refine ⟨_, rfl, ?_⟩
          have X52 : Frm (fun k _ => k = p0b) w w51 := Frm.step X12 E51 (fun k _ hk => .inl hk)
          refine da_op rfl (d_mv (v := .pointer (some ⟨p0b, 0, none⟩)) rfl ?_)
          refine da_op rfl (d_bslice (vs := [(0, .int .i64 8388608), (1, .int .i64 2130706432), (2, .int .i64 1610612736), (3, .int .i64 536870912)]) (cs := #[.int .i64 8388608, .int .i64 2130706432, .int .i64 1610612736, .int .i64 536870912]) un74 (pc rfl (pc rfl (pc rfl (pc rfl rfl)))) (by kernel_rfl) fun w53 B53 E53 => ?_)
          have fr53 : ∀ k, (Value.slice (some ⟨w51.heap.size, 0, none⟩) 4 4).ownBlock = some k → w51.heap.size ≤ k := fun k hk => by cases hk; exact Nat.le_refl _
          have own53 : ∀ k, (Value.slice (some ⟨w51.heap.size, 0, none⟩) 4 4).ownBlock = some k → w.heap.size ≤ k := fun k hk => Nat.le_trans X52.size (fr53 k hk)
          have sp54 : ¬ (Value.slice (some ⟨w51.heap.size, 0, none⟩) 4 4).ownBlock = some p0b := ne_fresh fr53 (lt_heap q51_m0B)
          have X55 : Frm (fun k _ => k = p0b) w w53 := X52.trans E53.frm
          have O53 : OS w53 2 encI_i64 (Value.slice (some ⟨w51.heap.size, 0, none⟩) 4 4) [8388608, 2130706432, 1610612736, 536870912] := OS.box (xs := [8388608, 2130706432, 1610612736, 536870912]) B53 (lc_v rfl (lc_v rfl (lc_v rfl (lc_v rfl rfl)))) (Nat.le_of_ble_eq_true rfl)
          obtain ⟨m56, hm56, hr⟩ := bind_out hr
          have B57 : w53.heap[p0b]? = some (.cells #[(Value.slice p0v0a p0v0n p0v0c), .int .i64 m49.2.at_, .int .u64 m49.2.seed] 54 (0, 0)) := E53.heap q51_m0B
          have B58 : RS w53 encI_u8 (Value.slice p0v0a p0v0n p0v0c) p0.code := (B50.frm E51 (fun k _ => (fun k hk => ((rb sp0_1) k hk)) k)).ext E53
          refine da_op rfl (d_cl (vs := [.pointer (some ⟨p0b, 0, none⟩), (Value.slice (some ⟨w51.heap.size, 0, none⟩) 4 4)]) en50 (ac rfl (ac rfl rfl)) rfl ?_)
          refine (c50 (⟨p0.code, m49.2.at_, m49.2.seed⟩ : Sl00Src) ([8388608, 2130706432, 1610612736, 536870912]) p0b p0v0a p0v0n p0v0c (some ⟨w51.heap.size, 0, none⟩) 4 4 m56 w53 hm56 B58 B57 O53.rs sp0_1 sp54).mono ?_
          rintro _ w59 ⟨rfl, q59_m0B, E59⟩
          refine ⟨_, rfl, ?_⟩
          have X60 : Frm (fun k _ => k = p0b) w w59 := Frm.step X55 E59 (fun k _ hk => .inl hk)
          obtain ⟨m61, hm61, hr⟩ := letv_out hr
          have B62 : OS w59 2 encI_i64 (Value.slice (some ⟨w51.heap.size, 0, none⟩) 4 4) ([8388608, 2130706432, 1610612736, 536870912]) := O53.frm E59 (fun k hk => ((rb sp54) k hk))
          refine da_op rfl (d_cl (vs := [.int .i64 m56.1]) en49 (ac rfl rfl) rfl ?_)
          refine (c49 m56.1 m61 w59 hm61 ).mono ?_
          rintro _ w63 ⟨q63_0r, rfl, q63_0h, E63⟩
          refine ⟨_, rfl, ?_⟩
          have X64 : Frm (fun k _ => k = p0b) w w63 := X60.trans E63.frm
          refine da_op rfl (d_fop (k := .f32) fMul rfl rfl q51_0h q63_0h fun r65 w65 h65 _ E65 => ?_)
          have X66 : Frm (fun k _ => k = p0b) w w65 := X64.trans E65.frm
          refine da_op rfl (d_as (v := .float .f32 r65) rfl ?_)
          refine da_nil ?_
          refine W_ret ?_
          have B67 : w65.heap[p0b]? = some (.cells #[(Value.slice p0v0a p0v0n p0v0c), .int .i64 m56.2.at_, .int .u64 m56.2.seed] 54 (0, 0)) := E65.heap (E63.heap q59_m0B)
          obtain rfl := Option.some.inj hr
          refine ⟨_, res1 (rv_tmp rfl), ?_⟩
          exact ⟨r65, rfl, h65, B67, X66⟩
set_option maxHeartbeats 4000000 in
theorem c27 (p0 : Sl00Src) (p0b : Nat) (p0v0a : Option Addr) (p0v0n : Nat) (p0v0c : Nat) (r : SVector × Sl00Src) (w : World) (hr : M.spec_l01DrawVector p0 = some r) (p0v0R : RS w encI_u8 (Value.slice p0v0a p0v0n p0v0c) p0.code) (p0B : w.heap[p0b]? = some (.cells #[(Value.slice p0v0a p0v0n p0v0c), .int .i64 p0.at_, .int .u64 p0.seed] 54 (0, 0))) (sp0_1 : ¬ (Value.slice p0v0a p0v0n p0v0c).ownBlock = some p0b) :
    Calls Tryd.prog 27 #[.pointer (some ⟨p0b, 0, none⟩)] w fun e w' => ∃ q0r0 : Nat, ∃ q0r1 : Nat, ∃ q0r2 : Nat, e = .returned (.agg #[.float .f32 q0r0, .float .f32 q0r1, .float .f32 q0r2]) ∧ cn .f32 q0r0 = r.1.x ∧ cn .f32 q0r1 = r.1.y ∧ cn .f32 q0r2 = r.1.z ∧ w'.heap[p0b]? = some (.cells #[(Value.slice p0v0a p0v0n p0v0c), .int .i64 r.2.at_, .int .u64 r.2.seed] 54 (0, 0)) ∧ Frm (fun k _ => k = p0b) w w' := by
  have X0 : Frm (fun k _ => k = p0b) w w := Frm.refl _ w
  refine calls_of_W Tryd.func27 rfl (Nat.le_of_ble_eq_true rfl) ?_
  refine W_seq ?_
  refine W_region rfl ?_
  refine da_op rfl (d_alloc (cs := #[.float .f32 0, .float .f32 0, .float .f32 0]) zero26 rfl fun w1 B1 E1 => ?_)
  have own2 : w.heap.size ≤ w.heap.size := Nat.le_trans X0.size (Nat.le_refl _)
  have sp3 : p0b ≠ w.heap.size := Nat.ne_of_lt (Nat.lt_of_lt_of_le (lt_heap p0B) (Nat.le_refl _))
  have X4 : Frm (fun k _ => k = p0b) w w1 := X0.trans E1.frm
  refine da_nil ?_
  refine W_seq ?_
  refine W_region rfl ?_
  refine da_op rfl (d_mv (v := .pointer (some ⟨p0b, 0, none⟩)) rfl ?_)
  obtain ⟨m5, hm5, hr⟩ := bind_out hr
  have B6 : w1.heap[p0b]? = some (.cells #[(Value.slice p0v0a p0v0n p0v0c), .int .i64 p0.at_, .int .u64 p0.seed] 54 (0, 0)) := E1.heap p0B
  have B7 : RS w1 encI_u8 (Value.slice p0v0a p0v0n p0v0c) p0.code := p0v0R.ext E1
  refine da_op rfl (d_cl (vs := [.pointer (some ⟨p0b, 0, none⟩), .int .i64 10]) en36 (ac rfl (ac rfl rfl)) rfl ?_)
  refine (c36 p0 10 p0b p0v0a p0v0n p0v0c m5 w1 hm5 B7 B6 sp0_1).mono ?_
  rintro _ w8 ⟨rfl, q8_m0B, E8⟩
  refine ⟨_, rfl, ?_⟩
  have X9 : Frm (fun k _ => k = p0b) w w8 := Frm.step X4 E8 (fun k _ hk => .inl hk)
  refine da_op rfl (d_as (v := .bool m5.1) rfl ?_)
  refine da_nil ?_
  refine W_seq ?_
  refine W_region rfl ?_
  refine da_op rfl (d_mv (v := .pointer (some ⟨p0b, 0, none⟩)) rfl ?_)
  obtain ⟨m10, hm10, hr⟩ := bind_out hr
  have B11 : RS w8 encI_u8 (Value.slice p0v0a p0v0n p0v0c) p0.code := B7.frm E8 (fun k _ => (fun k hk => ((rb sp0_1) k hk)) k)
  have B12 : w8.heap[w.heap.size]? = some (.cells #[.float .f32 0, .float .f32 0, .float .f32 0] 26 (0, 0)) := E8.heap (Ne.symm sp3) B1
  refine da_op rfl (d_cl (vs := [.pointer (some ⟨p0b, 0, none⟩)]) en37 (ac rfl rfl) rfl ?_)
  refine (c37 (⟨p0.code, m5.2.at_, m5.2.seed⟩ : Sl00Src) p0b p0v0a p0v0n p0v0c m10 w8 hm10 B11 q8_m0B sp0_1).mono ?_
  rintro _ w13 ⟨q13_0r, rfl, q13_0h, q13_m0B, E13⟩
  refine ⟨_, rfl, ?_⟩
  have X14 : Frm (fun k _ => k = p0b) w w13 := Frm.step X9 E13 (fun k _ hk => .inl hk)
  refine da_op rfl (d_bd (vs := [(0, .float .f32 q13_0r)]) (cs := #[.float .f32 q13_0r, .float .f32 0, .float .f32 0]) (pc rfl rfl) (by kernel_rfl) ?_)
  have B16 : w13.heap[w.heap.size]? = some (.cells #[.float .f32 0, .float .f32 0, .float .f32 0] 26 (0, 0)) := E13.heap (Ne.symm sp3) B12
  refine da_op rfl (d_alloc (cs := #[.float .f32 0, .float .f32 0, .float .f32 0]) zero26 rfl fun w15 B15 E15 => ?_)
  have own17 : w.heap.size ≤ w13.heap.size := Nat.le_trans X14.size (Nat.le_refl _)
  have sp18 : p0b ≠ w13.heap.size := Nat.ne_of_lt (Nat.lt_of_lt_of_le (lt_heap q13_m0B) (Nat.le_refl _))
  have sp19 : w.heap.size ≠ w13.heap.size := Nat.ne_of_lt (Nat.lt_of_lt_of_le (lt_heap B16) (Nat.le_refl _))
  have X20 : Frm (fun k _ => k = p0b) w w15 := X14.trans E15.frm
  refine da_op rfl (d_store (vs := #[.float .f32 q13_0r, .float .f32 0, .float .f32 0]) rfl rfl B15 size26 (Nat.le_of_ble_eq_true rfl) rfl fun w21 S21 => ?_)
  have X22 : Frm (fun k _ => k = p0b) w w21 := Frm.step X20 S21.frmb (fun k _ hk => .inr (hk ▸ own17))
  have B23 : w21.heap[w13.heap.size]? = some (.cells #[.float .f32 q13_0r, .float .f32 0, .float .f32 0] 26 (0, 0)) := S21.here
  refine da_nil ?_
  refine W_seq ?_
  refine W_region rfl ?_
  refine da_op rfl (d_mv (v := .pointer (some ⟨p0b, 0, none⟩)) rfl ?_)
  obtain ⟨m24, hm24, hr⟩ := bind_out hr
  have B25 : w21.heap[p0b]? = some (.cells #[(Value.slice p0v0a p0v0n p0v0c), .int .i64 m10.2.at_, .int .u64 m10.2.seed] 54 (0, 0)) := S21.frmb.heap sp18 (E15.heap q13_m0B)
  have B26 : RS w21 encI_u8 (Value.slice p0v0a p0v0n p0v0c) p0.code := ((B11.frm E13 (fun k _ => (fun k hk => ((rb sp0_1) k hk)) k)).ext E15).frm S21.frmb (fun k _ => (old_rb p0v0R own17) k)
  have B27 : w21.heap[w.heap.size]? = some (.cells #[.float .f32 0, .float .f32 0, .float .f32 0] 26 (0, 0)) := S21.frmb.heap sp19 (E15.heap B16)
  refine da_op rfl (d_cl (vs := [.pointer (some ⟨p0b, 0, none⟩)]) en37 (ac rfl rfl) rfl ?_)
  refine (c37 (⟨p0.code, m10.2.at_, m10.2.seed⟩ : Sl00Src) p0b p0v0a p0v0n p0v0c m24 w21 hm24 B26 B25 sp0_1).mono ?_
  rintro _ w28 ⟨q28_0r, rfl, q28_0h, q28_m0B, E28⟩
  refine ⟨_, rfl, ?_⟩
  have X29 : Frm (fun k _ => k = p0b) w w28 := Frm.step X22 E28 (fun k _ hk => .inl hk)
  refine da_op rfl (d_fieldAddr rfl (fa26_1 _ _) ?_)
  have B30 : w28.heap[w13.heap.size]? = some (.cells #[.float .f32 q13_0r, .float .f32 0, .float .f32 0] 26 (0, 0)) := E28.heap (Ne.symm sp18) B23
  refine da_op rfl (d_store (vs := #[.float .f32 q28_0r]) rfl rfl B30 size24 (Nat.le_of_ble_eq_true rfl) rfl fun w31 S31 => ?_)
  have X32 : Frm (fun k _ => k = p0b) w w31 := Frm.step X29 S31.frmb (fun k _ hk => .inr (hk ▸ own17))
  have B33 : w31.heap[w13.heap.size]? = some (.cells #[.float .f32 q13_0r, .float .f32 q28_0r, .float .f32 0] 26 (0, 0)) := S31.here
  refine da_nil ?_
  refine W_seq ?_
  refine W_region rfl ?_
  refine da_op rfl (d_mv (v := .pointer (some ⟨p0b, 0, none⟩)) rfl ?_)
  obtain ⟨m34, hm34, hr⟩ := bind_out hr
  have B35 : w31.heap[p0b]? = some (.cells #[(Value.slice p0v0a p0v0n p0v0c), .int .i64 m24.2.at_, .int .u64 m24.2.seed] 54 (0, 0)) := S31.frmb.heap sp18 q28_m0B
  have B36 : RS w31 encI_u8 (Value.slice p0v0a p0v0n p0v0c) p0.code := (B26.frm E28 (fun k _ => (fun k hk => ((rb sp0_1) k hk)) k)).frm S31.frmb (fun k _ => (old_rb p0v0R own17) k)
  have B37 : w31.heap[w.heap.size]? = some (.cells #[.float .f32 0, .float .f32 0, .float .f32 0] 26 (0, 0)) := S31.frmb.heap sp19 (E28.heap (Ne.symm sp3) B27)
  refine da_op rfl (d_cl (vs := [.pointer (some ⟨p0b, 0, none⟩)]) en37 (ac rfl rfl) rfl ?_)
  refine (c37 (⟨p0.code, m24.2.at_, m24.2.seed⟩ : Sl00Src) p0b p0v0a p0v0n p0v0c m34 w31 hm34 B36 B35 sp0_1).mono ?_
  rintro _ w38 ⟨q38_0r, rfl, q38_0h, q38_m0B, E38⟩
  refine ⟨_, rfl, ?_⟩
  have X39 : Frm (fun k _ => k = p0b) w w38 := Frm.step X32 E38 (fun k _ hk => .inl hk)
  refine da_op rfl (d_fieldAddr rfl (fa26_2 _ _) ?_)
  have B40 : w38.heap[w13.heap.size]? = some (.cells #[.float .f32 q13_0r, .float .f32 q28_0r, .float .f32 0] 26 (0, 0)) := E38.heap (Ne.symm sp18) B33
  refine da_op rfl (d_store (vs := #[.float .f32 q38_0r]) rfl rfl B40 size24 (Nat.le_of_ble_eq_true rfl) rfl fun w41 S41 => ?_)
  have X42 : Frm (fun k _ => k = p0b) w w41 := Frm.step X39 S41.frmb (fun k _ hk => .inr (hk ▸ own17))
  have B43 : w41.heap[w13.heap.size]? = some (.cells #[.float .f32 q13_0r, .float .f32 q28_0r, .float .f32 q38_0r] 26 (0, 0)) := S41.here
  refine da_nil ?_
  refine W_seq ?_
  refine W_seq ?_
  refine W_region rfl ?_
  refine da_op rfl (d_mv (v := .bool m5.1) rfl ?_)
  refine da_nil ?_
  refine W_cond (b := m5.1) rfl (fun hc44 => ?_) (fun hc44 => ?_)
  · skip
    replace hr := bif_t hr hc44
    refine W_region rfl ?_
    refine da_op rfl (d_mv (v := .pointer (some ⟨p0b, 0, none⟩)) rfl ?_)
    obtain ⟨m45, hm45, hr⟩ := bind_out hr
    have B46 : w41.heap[p0b]? = some (.cells #[(Value.slice p0v0a p0v0n p0v0c), .int .i64 m34.2.at_, .int .u64 m34.2.seed] 54 (0, 0)) := S41.frmb.heap sp18 q38_m0B
    have B47 : RS w41 encI_u8 (Value.slice p0v0a p0v0n p0v0c) p0.code := (B36.frm E38 (fun k _ => (fun k hk => ((rb sp0_1) k hk)) k)).frm S41.frmb (fun k _ => (old_rb p0v0R own17) k)
    have B48 : w41.heap[w.heap.size]? = some (.cells #[.float .f32 0, .float .f32 0, .float .f32 0] 26 (0, 0)) := S41.frmb.heap sp19 (E38.heap (Ne.symm sp3) B37)
    refine da_op rfl (d_cl (vs := [.pointer (some ⟨p0b, 0, none⟩)]) en38 (ac rfl rfl) rfl ?_)
    refine (c38 (⟨p0.code, m34.2.at_, m34.2.seed⟩ : Sl00Src) p0b p0v0a p0v0n p0v0c m45 w41 hm45 B47 B46 sp0_1).mono ?_
    rintro _ w49 ⟨q49_0r, rfl, q49_0h, q49_m0B, E49⟩
    refine ⟨_, rfl, ?_⟩
    have X50 : Frm (fun k _ => k = p0b) w w49 := Frm.step X42 E49 (fun k _ hk => .inl hk)
    refine da_op rfl (d_fieldAddr rfl (fa26_1 _ _) ?_)
    have B51 : w49.heap[w13.heap.size]? = some (.cells #[.float .f32 q13_0r, .float .f32 q28_0r, .float .f32 q38_0r] 26 (0, 0)) := E49.heap (Ne.symm sp18) B43
    refine da_op rfl (d_store (vs := #[.float .f32 q49_0r]) rfl rfl B51 size24 (Nat.le_of_ble_eq_true rfl) rfl fun w52 S52 => ?_)
    have X53 : Frm (fun k _ => k = p0b) w w52 := Frm.step X50 S52.frmb (fun k _ hk => .inr (hk ▸ own17))
    have B54 : w52.heap[w13.heap.size]? = some (.cells #[.float .f32 q13_0r, .float .f32 q49_0r, .float .f32 q38_0r] 26 (0, 0)) := S52.here
    refine da_nil ?_
    refine W_seq ?_
    refine W_region rfl ?_
    refine da_op rfl (d_loads (vs := #[.float .f32 q13_0r, .float .f32 q49_0r, .float .f32 q38_0r]) rfl agg26 size26 B54 rfl ?_)
    have B55 : w52.heap[w.heap.size]? = some (.cells #[.float .f32 0, .float .f32 0, .float .f32 0] 26 (0, 0)) := S52.frmb.heap sp19 (E49.heap (Ne.symm sp3) B48)
    refine da_op rfl (d_store (vs := #[.float .f32 q13_0r, .float .f32 q49_0r, .float .f32 q38_0r]) rfl rfl B55 size26 (Nat.le_of_ble_eq_true rfl) rfl fun w56 S56 => ?_)
    have X57 : Frm (fun k _ => k = p0b) w w56 := Frm.step X53 S56.frmb (fun k _ hk => .inr (hk ▸ own2))
    have B58 : w56.heap[w.heap.size]? = some (.cells #[.float .f32 q13_0r, .float .f32 q49_0r, .float .f32 q38_0r] 26 (0, 0)) := S56.here
    refine da_nil ?_
    refine W_ret ?_
    have B59 : w56.heap[p0b]? = some (.cells #[(Value.slice p0v0a p0v0n p0v0c), .int .i64 m45.2.at_, .int .u64 m45.2.seed] 54 (0, 0)) := S56.frmb.heap sp3 (S52.frmb.heap sp18 q49_m0B)
    obtain rfl := Option.some.inj hr
    refine ⟨_, res1 (rv_cells (vs := #[.float .f32 q13_0r, .float .f32 q49_0r, .float .f32 q38_0r]) rfl agg26 size26 B58 rfl), ?_⟩
    exact ⟨q13_0r, q49_0r, q38_0r, rfl, q13_0h, q49_0h, q38_0h, B59, X57⟩
  · skip
    replace hr := bif_f hr hc44
    refine W_skip ?_
    refine W_seq ?_
    refine W_region rfl ?_
    refine da_op rfl (d_loads (vs := #[.float .f32 q13_0r, .float .f32 q28_0r, .float .f32 q38_0r]) rfl agg26 size26 B43 rfl ?_)
    have B60 : w41.heap[w.heap.size]? = some (.cells #[.float .f32 0, .float .f32 0, .float .f32 0] 26 (0, 0)) := S41.frmb.heap sp19 (E38.heap (Ne.symm sp3) B37)
    refine da_op rfl (d_store (vs := #[.float .f32 q13_0r, .float .f32 q28_0r, .float .f32 q38_0r]) rfl rfl B60 size26 (Nat.le_of_ble_eq_true rfl) rfl fun w61 S61 => ?_)
    have X62 : Frm (fun k _ => k = p0b) w w61 := Frm.step X42 S61.frmb (fun k _ hk => .inr (hk ▸ own2))
    have B63 : w61.heap[w.heap.size]? = some (.cells #[.float .f32 q13_0r, .float .f32 q28_0r, .float .f32 q38_0r] 26 (0, 0)) := S61.here
    refine da_nil ?_
    refine W_ret ?_
    have B64 : w61.heap[p0b]? = some (.cells #[(Value.slice p0v0a p0v0n p0v0c), .int .i64 m34.2.at_, .int .u64 m34.2.seed] 54 (0, 0)) := S61.frmb.heap sp3 (S41.frmb.heap sp18 q38_m0B)
    obtain rfl := Option.some.inj hr
    refine ⟨_, res1 (rv_cells (vs := #[.float .f32 q13_0r, .float .f32 q28_0r, .float .f32 q38_0r]) rfl agg26 size26 B63 rfl), ?_⟩
    exact ⟨q13_0r, q28_0r, q38_0r, rfl, q13_0h, q28_0h, q38_0h, B64, X62⟩
set_option maxHeartbeats 4000000 in
theorem c17 (p0 : List Int) (p0a : Option Addr) (p0n : Nat) (p0c : Nat) (r : SVector) (w : World) (hr : M.spec_B10Any p0 = some r) (p0R : RS w encI_u8 (Value.slice p0a p0n p0c) p0) :
    Calls Tryd.prog 17 #[(Value.slice p0a p0n p0c)] w fun e w' => ∃ q0r0 : Nat, ∃ q0r1 : Nat, ∃ q0r2 : Nat, e = .returned (.agg #[.float .f32 q0r0, .float .f32 q0r1, .float .f32 q0r2]) ∧ cn .f32 q0r0 = r.x ∧ cn .f32 q0r1 = r.y ∧ cn .f32 q0r2 = r.z ∧ Ext w w' := by
  refine calls_of_W Tryd.func17 rfl (Nat.le_of_ble_eq_true rfl) ?_
  refine W_seq ?_
  refine W_region rfl ?_
  refine da_op rfl (d_alloc (cs := #[.float .f32 0, .float .f32 0, .float .f32 0]) zero26 rfl fun w1 B1 E1 => ?_)
  have own2 : w.heap.size ≤ w.heap.size := Nat.le_trans (Ext.refl w).size (Nat.le_refl _)
  have X3 : Ext w w1 := (Ext.refl w).trans E1
  refine da_nil ?_
  refine W_seq ?_
  refine W_region rfl ?_
  refine da_op rfl (d_mv (v := (Value.slice p0a p0n p0c)) rfl ?_)
  obtain ⟨m4, hm4, hr⟩ := letv_out hr
  have B5 : RS w1 encI_u8 (Value.slice p0a p0n p0c) p0 := p0R.ext X3
  refine da_op rfl (d_cl (vs := [(Value.slice p0a p0n p0c)]) en21 (ac rfl rfl) rfl ?_)
  refine (c21 p0 p0a p0n p0c m4 w1 hm4 B5).mono ?_
  rintro _ w6 ⟨q6_0b, q6_0v0a, q6_0v0n, q6_0v0c, rfl, q6_0v0H, q6_0B, q6_0G, E6⟩
  refine ⟨_, rfl, ?_⟩
  have own7 : w.heap.size ≤ q6_0b := Nat.le_trans X3.size q6_0G
  have sp8 : w.heap.size ≠ q6_0b := Nat.ne_of_lt (Nat.lt_of_lt_of_le (lt_heap B1) q6_0G)
  have X9 : Ext w w6 := X3.trans E6
  have B11 : RS w6 encI_u8 (Value.slice p0a p0n p0c) p0 := p0R.ext X9
  have O10 : RS w6 encI_u8 (Value.slice q6_0v0a q6_0v0n q6_0v0c) m4.code := Hand.rs q6_0v0H B11
  refine da_op rfl (d_as (v := .pointer (some ⟨q6_0b, 0, none⟩)) rfl ?_)
  refine da_nil ?_
  refine W_seq ?_
  refine W_region rfl ?_
  refine da_op rfl (d_mv (v := .pointer (some ⟨q6_0b, 0, none⟩)) rfl ?_)
  obtain ⟨m12, hm12, hr⟩ := bind_out hr
  have B13 : w6.heap[w.heap.size]? = some (.cells #[.float .f32 0, .float .f32 0, .float .f32 0] 26 (0, 0)) := E6.heap B1
  refine da_op rfl (d_cl (vs := [.pointer (some ⟨q6_0b, 0, none⟩)]) en27 (ac rfl rfl) rfl ?_)
  refine (c27 m4 q6_0b q6_0v0a q6_0v0n q6_0v0c m12 w6 hm12 O10 q6_0B (fun e => old_ltb (Hand.lt q6_0v0H (RS.lt p0R)) own7 _ e rfl)).mono ?_
  rintro _ w14 ⟨q14_0r0, q14_0r1, q14_0r2, rfl, q14_0h0, q14_0h1, q14_0h2, q14_m0B, E14⟩
  refine ⟨_, rfl, ?_⟩
  have X15 : Ext w w14 := Ext.step X9 E14 (fun k _ hk => hk ▸ own7)
  have B16 : w14.heap[w.heap.size]? = some (.cells #[.float .f32 0, .float .f32 0, .float .f32 0] 26 (0, 0)) := E14.heap sp8 B13
  refine da_op rfl (d_store (vs := #[.float .f32 q14_0r0, .float .f32 q14_0r1, .float .f32 q14_0r2]) rfl rfl B16 size26 (Nat.le_of_ble_eq_true rfl) rfl fun w17 S17 => ?_)
  have X18 : Ext w w17 := Ext.step X15 S17.frmb (fun k _ hk => hk ▸ own2)
  have B19 : w17.heap[w.heap.size]? = some (.cells #[.float .f32 q14_0r0, .float .f32 q14_0r1, .float .f32 q14_0r2] 26 (0, 0)) := S17.here
  refine da_nil ?_
  refine W_ret ?_
  obtain rfl := Option.some.inj hr
  refine ⟨_, res1 (rv_cells (vs := #[.float .f32 q14_0r0, .float .f32 q14_0r1, .float .f32 q14_0r2]) rfl agg26 size26 B19 rfl), ?_⟩
  exact ⟨q14_0r0, q14_0r1, q14_0r2, rfl, q14_0h0, q14_0h1, q14_0h2, X18⟩
set_option maxHeartbeats 4000000 in
theorem c29 (p0 : SVector) (p0r0 : Nat) (p0r1 : Nat) (p0r2 : Nat) (r : List Nat) (w : World) (hr : M.impl_Vector_numbers p0 = r) (p0h0 : cn .f32 p0r0 = p0.x) (p0h1 : cn .f32 p0r1 = p0.y) (p0h2 : cn .f32 p0r2 = p0.z) :
    Calls Tryd.prog 29 #[.agg #[.float .f32 p0r0, .float .f32 p0r1, .float .f32 p0r2]] w fun e w' => ∃ q0a : Option Addr, ∃ q0n : Nat, ∃ q0c : Nat, e = .returned ((Value.slice q0a q0n q0c)) ∧ OS w' 24 encF_f32 (Value.slice q0a q0n q0c) r ∧ (∀ k, (Value.slice q0a q0n q0c).ownBlock = some k → w.heap.size ≤ k) ∧ Ext w w' := by
  refine calls_of_W Tryd.func29 rfl (Nat.le_of_ble_eq_true rfl) ?_
  refine W_seq ?_
  refine W_region rfl ?_
  refine da_op rfl (d_box (cs := #[.float .f32 p0r0, .float .f32 p0r1, .float .f32 p0r2]) rfl fun w1 B1 E1 => ?_)
  have own2 : w.heap.size ≤ w.heap.size := Nat.le_trans (Ext.refl w).size (Nat.le_refl _)
  have X3 : Ext w w1 := (Ext.refl w).trans E1
  refine da_op rfl (d_as (v := .slice none 0 0) rfl ?_)
  refine da_nil ?_
  refine W_seq ?_
  refine W_region rfl ?_
  refine da_op rfl (d_fieldAddr rfl (fa26_0 _ _) ?_)
  refine da_op rfl (d_load (v := .float .f32 p0r0) rfl agg24 B1 rfl ?_)
  refine da_op rfl (d_fieldAddr rfl (fa26_1 _ _) ?_)
  refine da_op rfl (d_load (v := .float .f32 p0r1) rfl agg24 B1 rfl ?_)
  refine da_op rfl (d_fieldAddr rfl (fa26_2 _ _) ?_)
  refine da_op rfl (d_load (v := .float .f32 p0r2) rfl agg24 B1 rfl ?_)
  refine da_op rfl (d_bslice (vs := [(0, .float .f32 p0r0), (1, .float .f32 p0r1), (2, .float .f32 p0r2)]) (cs := #[.float .f32 p0r0, .float .f32 p0r1, .float .f32 p0r2]) un47 (pc rfl (pc rfl (pc rfl rfl))) (by kernel_rfl) fun w4 B4 E4 => ?_)
  have fr4 : ∀ k, (Value.slice (some ⟨w1.heap.size, 0, none⟩) 3 3).ownBlock = some k → w1.heap.size ≤ k := fun k hk => by cases hk; exact Nat.le_refl _
  have own4 : ∀ k, (Value.slice (some ⟨w1.heap.size, 0, none⟩) 3 3).ownBlock = some k → w.heap.size ≤ k := fun k hk => Nat.le_trans X3.size (fr4 k hk)
  have sp5 : ¬ (Value.slice (some ⟨w1.heap.size, 0, none⟩) 3 3).ownBlock = some w.heap.size := ne_fresh fr4 (lt_heap B1)
  have X6 : Ext w w4 := X3.trans E4
  have O4 : OS w4 24 encF_f32 (Value.slice (some ⟨w1.heap.size, 0, none⟩) 3 3) [p0.x, p0.y, p0.z] := OS.box (xs := [p0.x, p0.y, p0.z]) B4 (lc_f p0h0 (lc_f p0h1 (lc_f p0h2 rfl))) (Nat.le_of_ble_eq_true rfl)
  refine da_op rfl (d_as (v := (Value.slice (some ⟨w1.heap.size, 0, none⟩) 3 3)) rfl ?_)
  refine da_nil ?_
  refine W_ret ?_
  subst hr
  refine ⟨_, res1 (rv_tmp rfl), ?_⟩
  exact ⟨(some ⟨w1.heap.size, 0, none⟩), 3, 3, rfl, O4, own4, X6⟩
set_option maxHeartbeats 4000000 in
theorem c39 (p0 : List Nat) (p0a : Option Addr) (p0n : Nat) (p0c : Nat) (r : Bool) (w : World) (hr : M.impl_listOk p0 = r) (p0R : RS w encF_f32 (Value.slice p0a p0n p0c) p0) :
    Calls Tryd.prog 39 #[(Value.slice p0a p0n p0c)] w fun e w' => e = .returned (.bool r) ∧ Ext w w' := by
  refine calls_of_W Tryd.func39 rfl (Nat.le_of_ble_eq_true rfl) ?_
  refine W_seq ?_
  refine W_region rfl ?_
  refine da_op rfl (d_as (v := .bool false) rfl ?_)
  refine da_nil ?_
  refine W_seq ?_
  refine W_region rfl ?_
  refine da_op rfl (d_mv (v := (Value.slice p0a p0n p0c)) rfl ?_)
  refine da_op rfl (d_len (e := encF_f32) un47 rfl p0R ?_)
  refine da_op rfl (d_icmp cLeq rfl rfl ?_)
  refine da_op rfl (d_as (v := .bool (icmp .leq ((p0).length : Int) 256)) rfl ?_)
  refine da_nil ?_
  refine W_ret ?_
  subst hr
  refine ⟨_, res1 (rv_tmp rfl), ?_⟩
  exact ⟨rfl, (Ext.refl w)⟩
set_option maxHeartbeats 4000000 in
theorem c51 (p0 : Nat) (p0r : Nat) (r : Bool) (w : World) (hr : M.impl_isNaN p0 = r) (p0h : cn .f32 p0r = p0) :
    Calls Tryd.prog 51 #[.float .f32 p0r] w fun e w' => e = .returned (.bool r) ∧ Ext w w' := by
  refine calls_of_W Tryd.func51 rfl (Nat.le_of_ble_eq_true rfl) ?_
  refine W_seq ?_
  refine W_region rfl ?_
  refine da_op rfl (d_as (v := .bool false) rfl ?_)
  refine da_nil ?_
  refine W_seq ?_
  refine W_region rfl ?_
  refine da_op rfl (d_mv (v := .float .f32 p0r) rfl ?_)
  refine da_op rfl (d_mv (v := .float .f32 p0r) rfl ?_)
  refine da_op rfl (d_fcmp (k := .f32) cNeq rfl rfl p0h p0h ?_)
  refine da_op rfl (d_as (v := .bool (fcmp .neq .f32 p0 p0)) rfl ?_)
  refine da_nil ?_
  refine W_ret ?_
  subst hr
  refine ⟨_, res1 (rv_tmp rfl), ?_⟩
  exact ⟨rfl, (Ext.refl w)⟩
set_option maxHeartbeats 4000000 in
theorem c40 (p0 : Nat) (p0r : Nat) (r : Int) (w : World) (hr : M.impl_BitsOf p0 = r) (p0h : cn .f32 p0r = p0) :
    Calls Tryd.prog 40 #[.float .f32 p0r] w fun e w' => e = .returned (.int .i64 r) ∧ Ext w w' := by
  refine calls_of_W Tryd.func40 rfl (Nat.le_of_ble_eq_true rfl) ?_
  refine W_seq ?_
  refine W_region rfl ?_
  refine da_op rfl (d_as (v := .int .i64 0) rfl ?_)
  refine da_nil ?_
  refine W_seq ?_
  refine W_seq ?_
  refine W_region rfl ?_
  refine da_op rfl (d_mv (v := .float .f32 p0r) rfl ?_)
  obtain ⟨m1, hm1, hr⟩ := letv_out hr
  refine da_op rfl (d_cl (vs := [.float .f32 p0r]) en51 (ac rfl rfl) rfl ?_)
  refine (c51 p0 p0r m1 w hm1 p0h).mono ?_
  rintro _ w2 ⟨rfl, E2⟩
  refine ⟨_, rfl, ?_⟩
  have X3 : Ext w w2 := (Ext.refl w).trans E2
  refine da_nil ?_
  refine W_cond (b := m1) rfl (fun hc4 => ?_) (fun hc4 => ?_)
  · skip
    replace hr := bif_t hr hc4
    refine W_seq ?_
    refine W_region rfl ?_
    refine da_op rfl (d_as (v := .int .i64 2143289344) rfl ?_)
    refine da_nil ?_
    refine W_ret ?_
    subst hr
    refine ⟨_, res1 (rv_tmp rfl), ?_⟩
    exact ⟨rfl, X3⟩
  · skip
    replace hr := bif_f hr hc4
    refine W_skip ?_
    refine W_seq ?_
    refine W_region rfl ?_
    refine da_op rfl (d_mv (v := .float .f32 p0r) rfl ?_)
    refine da_op rfl (d_f32bits ext46_0 ext46_1 ext46_2 (Option.isNone_iff_eq_none.1 ext46_3) ext46_4 rfl rfl p0h (nn_ne (Eq.trans (show fcmp .neq .f32 p0 p0 = m1 from hm1) hc4)) ?_)
    refine da_op rfl (d_iconv un70 un2 rfl ?_)
    refine da_op rfl (d_as (v := .int .i64 (IntKind.i64.wrap (p0 : Int))) rfl ?_)
    refine da_nil ?_
    refine W_ret ?_
    subst hr
    refine ⟨_, res1 (rv_tmp rfl), ?_⟩
    exact ⟨rfl, X3⟩
set_option maxHeartbeats 4000000 in
theorem c41 (p0 : List (List UInt8)) (p0a : Option Addr) (p0n : Nat) (p0c : Nat) (r : List UInt8) (w : World) (hr : M.impl_joined p0 = some r) (p0R : RS w encS (Value.slice p0a p0n p0c) p0) :
    Calls Tryd.prog 41 #[(Value.slice p0a p0n p0c)] w fun e w' => e = .returned (.string (bs r)) ∧ Ext w w' := by
  refine calls_of_W Tryd.func41 rfl (Nat.le_of_ble_eq_true rfl) ?_
  refine W_seq ?_
  refine W_region rfl ?_
  refine da_op rfl (d_as (v := .string (bs ([] : List UInt8))) rfl ?_)
  refine da_nil ?_
  refine W_seq ?_
  refine W_seq ?_
  refine W_region rfl ?_
  refine da_op rfl (d_mv (v := (Value.slice p0a p0n p0c)) rfl ?_)
  refine da_op rfl (d_len (e := encS) un63 rfl p0R ?_)
  refine da_op rfl (d_icmp cEql rfl rfl ?_)
  refine da_nil ?_
  refine W_cond (b := (icmp .eql ((p0).length : Int) 0)) rfl (fun hc1 => ?_) (fun hc1 => ?_)
  · skip
    replace hr := bif_t hr hc1
    refine W_seq ?_
    refine W_region rfl ?_
    refine da_op rfl (d_as (v := .string (bs ([110, 111, 110, 101] : List UInt8))) rfl ?_)
    refine da_nil ?_
    refine W_ret ?_
    obtain rfl := Option.some.inj hr
    refine ⟨_, res1 (rv_tmp rfl), ?_⟩
    exact ⟨rfl, (Ext.refl w)⟩
  · skip
    replace hr := bif_f hr hc1
    refine W_skip ?_
    refine W_seq ?_
    refine W_region rfl ?_
    refine da_op rfl (d_mv (v := (Value.slice p0a p0n p0c)) rfl ?_)
    obtain ⟨m3, hm3, hr⟩ := bind_out hr
    refine da_op rfl (d_cl (vs := [(Value.slice p0a p0n p0c), .string (bs ([44] : List UInt8))]) en52 (ac rfl (ac rfl rfl)) rfl ?_)
    refine (sh52 hm3 p0R).mono ?_
    rintro _ w2 ⟨rfl, E2⟩
    refine ⟨_, rfl, ?_⟩
    have X4 : Ext w w2 := (Ext.refl w).trans E2
    refine da_op rfl (d_as (v := .string (bs m3)) rfl ?_)
    refine da_nil ?_
    refine W_ret ?_
    obtain rfl := Option.some.inj hr
    refine ⟨_, res1 (rv_tmp rfl), ?_⟩
    exact ⟨rfl, X4⟩
set_option maxHeartbeats 4000000 in
theorem c28 (p0 : List Nat) (p0a : Option Addr) (p0n : Nat) (p0c : Nat) (r : List UInt8 × Bool) (w : World) (hr : M.impl_NumbersText p0 = some r) (p0R : RS w encF_f32 (Value.slice p0a p0n p0c) p0) :
    Calls Tryd.prog 28 #[(Value.slice p0a p0n p0c)] w fun e w' => e = .returned (.tuple #[.string (bs r.1), .bool r.2]) ∧ Ext w w' := by
  refine calls_of_W Tryd.func28 rfl (Nat.le_of_ble_eq_true rfl) ?_
  refine W_seq ?_
  refine W_region rfl ?_
  refine da_op rfl (d_as (v := .string (bs ([] : List UInt8))) rfl ?_)
  refine da_op rfl (d_as (v := .bool false) rfl ?_)
  refine da_nil ?_
  refine W_seq ?_
  refine W_seq ?_
  refine W_region rfl ?_
  refine da_op rfl (d_mv (v := (Value.slice p0a p0n p0c)) rfl ?_)
  obtain ⟨m1, hm1, hr⟩ := letv_out hr
  refine da_op rfl (d_cl (vs := [(Value.slice p0a p0n p0c)]) en39 (ac rfl rfl) rfl ?_)
  refine (c39 p0 p0a p0n p0c m1 w hm1 p0R).mono ?_
  rintro _ w2 ⟨rfl, E2⟩
  refine ⟨_, rfl, ?_⟩
  have X3 : Ext w w2 := (Ext.refl w).trans E2
  refine da_op rfl (d_not rfl ?_)
  refine da_nil ?_
  refine W_cond (b := (!m1)) rfl (fun hc4 => ?_) (fun hc4 => ?_)
  · skip
    replace hr := bif_t hr hc4
    refine W_seq ?_
    refine W_region rfl ?_
    refine da_op rfl (d_as (v := .string (bs ([] : List UInt8))) rfl ?_)
    refine da_op rfl (d_as (v := .bool false) rfl ?_)
    refine da_nil ?_
    refine W_ret ?_
    obtain rfl := Option.some.inj hr
    refine ⟨_, res2 (rv_tmp rfl) (rv_tmp rfl), ?_⟩
    exact ⟨rfl, X3⟩
  · skip
    replace hr := bif_f hr hc4
    refine W_skip ?_
    refine W_seq ?_
    refine W_region rfl ?_
    refine da_op rfl (d_bslice0 un63 size9 fun w5 B5 E5 => ?_)
    have fr5 : ∀ k, (Value.slice (some ⟨w2.heap.size, 0, none⟩) 0 0).ownBlock = some k → w2.heap.size ≤ k := fun k hk => by cases hk; exact Nat.le_refl _
    have own5 : ∀ k, (Value.slice (some ⟨w2.heap.size, 0, none⟩) 0 0).ownBlock = some k → w.heap.size ≤ k := fun k hk => Nat.le_trans X3.size (fr5 k hk)
    have X6 : Ext w w5 := X3.trans E5
    have O5 : OS w5 9 encS (Value.slice (some ⟨w2.heap.size, 0, none⟩) 0 0) ([] : List (List UInt8)) := OS.box (xs := ([] : List (List UInt8))) B5 rfl (Nat.le_of_ble_eq_true rfl)
    refine da_op rfl (d_as (v := (Value.slice (some ⟨w2.heap.size, 0, none⟩) 0 0)) rfl ?_)
    refine da_nil ?_
    refine W_seq ?_
    refine W_seq ?_
    refine W_region rfl ?_
    refine da_op rfl (d_mv (v := (Value.slice p0a p0n p0c)) rfl ?_)
    have B7 : RS w5 encF_f32 (Value.slice p0a p0n p0c) p0 := p0R.ext X6
    refine da_op rfl (d_len (e := encF_f32) un47 rfl B7 ?_)
    refine da_op rfl (d_mv (v := .int .i64 0) rfl ?_)
    refine da_nil ?_
    refine W_block ?_
    obtain ⟨m8, hm8, hr⟩ := bind_out hr
    refine W_loopM hm8 (fun (s8 : List (List UInt8) × Int) σ w' => ∃ i8_0a : Option Addr, ∃ i8_0n : Nat, ∃ i8_0c : Nat, σ 4 = (Value.slice i8_0a i8_0n i8_0c) ∧ σ 15 = .int .i64 s8.2 ∧ σ 13 = (Value.slice p0a p0n p0c) ∧ σ 14 = .int .i64 ((p0).length : Int) ∧ OS w' 9 encS (Value.slice i8_0a i8_0n i8_0c) s8.1 ∧ (∀ k, (Value.slice i8_0a i8_0n i8_0c).ownBlock = some k → w.heap.size ≤ k) ∧ Ext w w') (fun (e8 : (List (List UInt8))) ex σ w' => ex = .exit 0 ∧ ∃ q8_0_0a : Option Addr, ∃ q8_0_0n : Nat, ∃ q8_0_0c : Nat, σ 4 = (Value.slice q8_0_0a q8_0_0n q8_0_0c) ∧ OS w' 9 encS (Value.slice q8_0_0a q8_0_0n q8_0_0c) e8 ∧ (∀ k, (Value.slice q8_0_0a q8_0_0n q8_0_0c).ownBlock = some k → w.heap.size ≤ k) ∧ Ext w w') ⟨(some ⟨w2.heap.size, 0, none⟩), 0, 0, rfl, rfl, rfl, rfl, O5, own5, X6⟩ ?_ ?_
    · skip
      rintro s8 σl8 wl8 r8l ⟨i8_0a, i8_0n, i8_0c, i8_S4, i8_S15, i8_S13, i8_S14, i8_0R, i8_0O, i8_X⟩ hr
      refine W_seq ?_
      refine W_region rfl ?_
      refine da_op rfl (d_icmp cLss i8_S15 i8_S14 ?_)
      refine da_nil ?_
      refine W_seq ?_
      refine W_cond (b := (icmp .lss s8.2 ((p0).length : Int))) rfl (fun hc9 => ?_) (fun hc9 => ?_)
      · skip
        replace hr := bif_t hr hc9
        refine W_skip ?_
        refine W_seq ?_
        refine W_block ?_
        refine W_seq ?_
        refine W_region rfl ?_
        obtain ⟨m10, hm10, hr⟩ := bind_out hr
        have B12 : RS wl8 encF_f32 (Value.slice p0a p0n p0c) p0 := p0R.ext i8_X
        refine da_op rfl (d_index (e := encF_f32) (v := (Value.slice p0a p0n p0c)) un47 size24 i8_S13 i8_S15 B12 hm10 fun g11 o11 cu11 T11 fr11 vs11 hv11 hg11 hp11 hq11 => ?_)
        obtain ⟨e11_r0, rfl, e11_h0⟩ := dec_encF_f32 hq11
        refine da_op rfl (d_load (v := .float .f32 e11_r0) rfl agg24 hg11 (sub_get (vs := #[.float .f32 e11_r0]) hp11 (i := 0) rfl) ?_)
        refine da_op rfl (d_as (v := .float .f32 e11_r0) rfl ?_)
        refine da_nil ?_
        refine W_seq ?_
        refine W_region rfl ?_
        refine da_op rfl (d_bslice0 un22 size5 fun w13 B13 E13 => ?_)
        have fr13 : ∀ k, (Value.slice (some ⟨wl8.heap.size, 0, none⟩) 0 0).ownBlock = some k → wl8.heap.size ≤ k := fun k hk => by cases hk; exact Nat.le_refl _
        have own13 : ∀ k, (Value.slice (some ⟨wl8.heap.size, 0, none⟩) 0 0).ownBlock = some k → w.heap.size ≤ k := fun k hk => Nat.le_trans i8_X.size (fr13 k hk)
        have sp14 : ∀ k, (Value.slice i8_0a i8_0n i8_0c).ownBlock = some k → ¬ (Value.slice (some ⟨wl8.heap.size, 0, none⟩) 0 0).ownBlock = some k := apart_fresh i8_0R fr13
        have X15 : Ext w w13 := i8_X.trans E13
        have O13 : OS w13 5 encI_u8 (Value.slice (some ⟨wl8.heap.size, 0, none⟩) 0 0) ([] : List Int) := OS.box (xs := ([] : List Int)) B13 rfl (Nat.le_of_ble_eq_true rfl)
        refine da_op rfl (d_as (v := (Value.slice (some ⟨wl8.heap.size, 0, none⟩) 0 0)) rfl ?_)
        refine da_nil ?_
        refine W_seq ?_
        refine W_seq ?_
        refine W_region rfl ?_
        refine da_op rfl (d_as (v := .int .i64 28) rfl ?_)
        refine da_nil ?_
        refine W_block ?_
        refine W_rounds 100 ?_
        refine Wr_next ?_
        refine W_seq ?_
        refine W_seq ?_
        refine W_region rfl ?_
        refine da_op rfl (d_mv (v := .int .i64 28) rfl ?_)
        refine da_op rfl (d_icmpL (b := true) cGeq rfl rfl (by decide) ?_)
        refine da_nil ?_
        refine W_true rfl ?_
        refine W_skip ?_
        refine W_seq ?_
        refine W_block ?_
        refine W_region rfl ?_
        refine da_op rfl (d_mv (v := (Value.slice (some ⟨wl8.heap.size, 0, none⟩) 0 0)) rfl ?_)
        refine da_op rfl (d_mv (v := .float .f32 e11_r0) rfl ?_)
        obtain ⟨m16, hm16, hr⟩ := letv_out hr
        have B17 : OS w13 9 encS (Value.slice i8_0a i8_0n i8_0c) s8.1 := i8_0R.ext E13
        refine da_op rfl (d_cl (vs := [.float .f32 e11_r0]) en40 (ac rfl rfl) rfl ?_)
        refine (c40 m10 e11_r0 m16 w13 hm16 e11_h0).mono ?_
        rintro _ w18 ⟨rfl, E18⟩
        refine ⟨_, rfl, ?_⟩
        have X19 : Ext w w18 := X15.trans E18
        refine da_op rfl (d_mv (v := .int .i64 28) rfl ?_)
        refine da_op rfl (d_shrL rfl rfl (n := 28) (by decide) ?_)
        refine da_op rfl (d_and rfl rfl ?_)
        obtain ⟨m20, hm20, hr⟩ := bind_out hr
        refine da_op rfl (d_sidx un9 rfl rfl hm20 ?_)
        have B22 : OS w18 9 encS (Value.slice i8_0a i8_0n i8_0c) s8.1 := B17.ext E18
        have B23 : OS w18 5 encI_u8 (Value.slice (some ⟨wl8.heap.size, 0, none⟩) 0 0) ([] : List Int) := O13.ext E18
        refine da_op rfl (d_bslice (vs := [(0, .int .u8 m20)]) (cs := #[.int .u8 m20]) un22 (pc rfl rfl) (by kernel_rfl) fun w21 B21 E21 => ?_)
        have fr21 : ∀ k, (Value.slice (some ⟨w18.heap.size, 0, none⟩) 1 1).ownBlock = some k → w18.heap.size ≤ k := fun k hk => by cases hk; exact Nat.le_refl _
        have own21 : ∀ k, (Value.slice (some ⟨w18.heap.size, 0, none⟩) 1 1).ownBlock = some k → w.heap.size ≤ k := fun k hk => Nat.le_trans X19.size (fr21 k hk)
        have sp24 : ∀ k, (Value.slice i8_0a i8_0n i8_0c).ownBlock = some k → ¬ (Value.slice (some ⟨w18.heap.size, 0, none⟩) 1 1).ownBlock = some k := apart_fresh B22 fr21
        have sp25 : ∀ k, (Value.slice (some ⟨wl8.heap.size, 0, none⟩) 0 0).ownBlock = some k → ¬ (Value.slice (some ⟨w18.heap.size, 0, none⟩) 1 1).ownBlock = some k := apart_fresh B23 fr21
        have X26 : Ext w w21 := X19.trans E21
        have O21 : OS w21 5 encI_u8 (Value.slice (some ⟨w18.heap.size, 0, none⟩) 1 1) [m20] := OS.box (xs := [m20]) B21 (lc_v rfl rfl) (Nat.le_of_ble_eq_true rfl)
        obtain ⟨m27, hm27, hr⟩ := bind_out hr
        have B28 : OS w21 5 encI_u8 (Value.slice (some ⟨wl8.heap.size, 0, none⟩) 0 0) ([] : List Int) := B23.ext E21
        have B29 : OS w21 9 encS (Value.slice i8_0a i8_0n i8_0c) s8.1 := B22.ext E21
        refine da_op rfl (d_append (e := encI_u8) (v := (Value.slice (some ⟨wl8.heap.size, 0, none⟩) 0 0)) (y := (Value.slice (some ⟨w18.heap.size, 0, none⟩) 1 1)) un22 info5 rfl (by kernel_rfl) (by kernel_rfl) (by decide) (by decide) rfl rfl B28 O21.rs hm27 fun v30 w30 O30 Fm30 at_30 nl30 => ?_)
        obtain ⟨v30pa, v30pn, v30pc, rfl⟩ := O30.vals
        have own30 : ∀ k, (Value.slice v30pa v30pn v30pc).ownBlock = some k → w.heap.size ≤ k := app_own (w := w21) at_30 own13 X26.size
        have sp31 : ∀ k, (Value.slice i8_0a i8_0n i8_0c).ownBlock = some k → ¬ (Value.slice v30pa v30pn v30pc).ownBlock = some k := app_nr at_30 sp14 B29
        have sp32 : ∀ k, (Value.slice (some ⟨w18.heap.size, 0, none⟩) 1 1).ownBlock = some k → ¬ (Value.slice v30pa v30pn v30pc).ownBlock = some k := app_nr at_30 (apart_symm sp25) O21
        have X33 : Ext w w30 := Ext.step X26 Fm30 (fun k _ hk => own13 k hk)
        refine da_op rfl (d_as (v := (Value.slice v30pa v30pn v30pc)) rfl ?_)
        refine da_nil ?_
        refine W_region rfl ?_
        refine da_op rfl (d_mv (v := .int .i64 28) rfl ?_)
        refine da_op rfl (d_iarith (r := 24) rfl rfl (.inr (.inl ⟨rfl, (by decide)⟩)) ?_)
        refine da_op rfl (d_as (v := .int .i64 24) rfl ?_)
        refine da_nil ?_
        refine Wr_next ?_
        refine W_seq ?_
        refine W_seq ?_
        refine W_region rfl ?_
        refine da_op rfl (d_mv (v := .int .i64 24) rfl ?_)
        refine da_op rfl (d_icmpL (b := true) cGeq rfl rfl (by decide) ?_)
        refine da_nil ?_
        refine W_true rfl ?_
        refine W_skip ?_
        refine W_seq ?_
        refine W_block ?_
        refine W_region rfl ?_
        refine da_op rfl (d_mv (v := (Value.slice v30pa v30pn v30pc)) rfl ?_)
        refine da_op rfl (d_mv (v := .float .f32 e11_r0) rfl ?_)
        obtain ⟨m34, hm34, hr⟩ := letv_out hr
        have B35 : OS w30 9 encS (Value.slice i8_0a i8_0n i8_0c) s8.1 := B29.frm Fm30 sp14
        refine da_op rfl (d_cl (vs := [.float .f32 e11_r0]) en40 (ac rfl rfl) rfl ?_)
        refine (c40 m10 e11_r0 m34 w30 hm34 e11_h0).mono ?_
        rintro _ w36 ⟨rfl, E36⟩
        refine ⟨_, rfl, ?_⟩
        have X37 : Ext w w36 := X33.trans E36
        refine da_op rfl (d_mv (v := .int .i64 24) rfl ?_)
        refine da_op rfl (d_shrL rfl rfl (n := 24) (by decide) ?_)
        refine da_op rfl (d_and rfl rfl ?_)
        obtain ⟨m38, hm38, hr⟩ := bind_out hr
        refine da_op rfl (d_sidx un9 rfl rfl hm38 ?_)
        have B40 : OS w36 9 encS (Value.slice i8_0a i8_0n i8_0c) s8.1 := B35.ext E36
        have B41 : OS w36 5 encI_u8 (Value.slice v30pa v30pn v30pc) m27 := O30.ext E36
        refine da_op rfl (d_bslice (vs := [(0, .int .u8 m38)]) (cs := #[.int .u8 m38]) un22 (pc rfl rfl) (by kernel_rfl) fun w39 B39 E39 => ?_)
        have fr39 : ∀ k, (Value.slice (some ⟨w36.heap.size, 0, none⟩) 1 1).ownBlock = some k → w36.heap.size ≤ k := fun k hk => by cases hk; exact Nat.le_refl _
        have own39 : ∀ k, (Value.slice (some ⟨w36.heap.size, 0, none⟩) 1 1).ownBlock = some k → w.heap.size ≤ k := fun k hk => Nat.le_trans X37.size (fr39 k hk)
        have sp42 : ∀ k, (Value.slice i8_0a i8_0n i8_0c).ownBlock = some k → ¬ (Value.slice (some ⟨w36.heap.size, 0, none⟩) 1 1).ownBlock = some k := apart_fresh B40 fr39
        have sp43 : ∀ k, (Value.slice v30pa v30pn v30pc).ownBlock = some k → ¬ (Value.slice (some ⟨w36.heap.size, 0, none⟩) 1 1).ownBlock = some k := apart_fresh B41 fr39
        have X44 : Ext w w39 := X37.trans E39
        have O39 : OS w39 5 encI_u8 (Value.slice (some ⟨w36.heap.size, 0, none⟩) 1 1) [m38] := OS.box (xs := [m38]) B39 (lc_v rfl rfl) (Nat.le_of_ble_eq_true rfl)
        obtain ⟨m45, hm45, hr⟩ := bind_out hr
        have B46 : OS w39 5 encI_u8 (Value.slice v30pa v30pn v30pc) m27 := B41.ext E39
        have B47 : OS w39 9 encS (Value.slice i8_0a i8_0n i8_0c) s8.1 := B40.ext E39
        refine da_op rfl (d_append (e := encI_u8) (v := (Value.slice v30pa v30pn v30pc)) (y := (Value.slice (some ⟨w36.heap.size, 0, none⟩) 1 1)) un22 info5 rfl (by kernel_rfl) (by kernel_rfl) (by decide) (by decide) rfl rfl B46 O39.rs hm45 fun v48 w48 O48 Fm48 at_48 nl48 => ?_)
        obtain ⟨v48pa, v48pn, v48pc, rfl⟩ := O48.vals
        have own48 : ∀ k, (Value.slice v48pa v48pn v48pc).ownBlock = some k → w.heap.size ≤ k := app_own (w := w39) at_48 own30 X44.size
        have sp49 : ∀ k, (Value.slice i8_0a i8_0n i8_0c).ownBlock = some k → ¬ (Value.slice v48pa v48pn v48pc).ownBlock = some k := app_nr at_48 sp31 B47
        have sp50 : ∀ k, (Value.slice (some ⟨w36.heap.size, 0, none⟩) 1 1).ownBlock = some k → ¬ (Value.slice v48pa v48pn v48pc).ownBlock = some k := app_nr at_48 (apart_symm sp43) O39
        have X51 : Ext w w48 := Ext.step X44 Fm48 (fun k _ hk => own30 k hk)
        refine da_op rfl (d_as (v := (Value.slice v48pa v48pn v48pc)) rfl ?_)
        refine da_nil ?_
        refine W_region rfl ?_
        refine da_op rfl (d_mv (v := .int .i64 24) rfl ?_)
        refine da_op rfl (d_iarith (r := 20) rfl rfl (.inr (.inl ⟨rfl, (by decide)⟩)) ?_)
        refine da_op rfl (d_as (v := .int .i64 20) rfl ?_)
        refine da_nil ?_
        refine Wr_next ?_
        refine W_seq ?_
        refine W_seq ?_
        refine W_region rfl ?_
        refine da_op rfl (d_mv (v := .int .i64 20) rfl ?_)
        refine da_op rfl (d_icmpL (b := true) cGeq rfl rfl (by decide) ?_)
        refine da_nil ?_
        refine W_true rfl ?_
        refine W_skip ?_
        refine W_seq ?_
        refine W_block ?_
        refine W_region rfl ?_
        refine da_op rfl (d_mv (v := (Value.slice v48pa v48pn v48pc)) rfl ?_)
        refine da_op rfl (d_mv (v := .float .f32 e11_r0) rfl ?_)
        obtain ⟨m52, hm52, hr⟩ := letv_out hr
        have B53 : OS w48 9 encS (Value.slice i8_0a i8_0n i8_0c) s8.1 := B47.frm Fm48 sp31
        refine da_op rfl (d_cl (vs := [.float .f32 e11_r0]) en40 (ac rfl rfl) rfl ?_)
        refine (c40 m10 e11_r0 m52 w48 hm52 e11_h0).mono ?_
        rintro _ w54 ⟨rfl, E54⟩
        refine ⟨_, rfl, ?_⟩
        have X55 : Ext w w54 := X51.trans E54
        refine da_op rfl (d_mv (v := .int .i64 20) rfl ?_)
        refine da_op rfl (d_shrL rfl rfl (n := 20) (by decide) ?_)
        refine da_op rfl (d_and rfl rfl ?_)
        obtain ⟨m56, hm56, hr⟩ := bind_out hr
        refine da_op rfl (d_sidx un9 rfl rfl hm56 ?_)
        have B58 : OS w54 9 encS (Value.slice i8_0a i8_0n i8_0c) s8.1 := B53.ext E54
        have B59 : OS w54 5 encI_u8 (Value.slice v48pa v48pn v48pc) m45 := O48.ext E54
        refine da_op rfl (d_bslice (vs := [(0, .int .u8 m56)]) (cs := #[.int .u8 m56]) un22 (pc rfl rfl) (by kernel_rfl) fun w57 B57 E57 => ?_)
        have fr57 : ∀ k, (Value.slice (some ⟨w54.heap.size, 0, none⟩) 1 1).ownBlock = some k → w54.heap.size ≤ k := fun k hk => by cases hk; exact Nat.le_refl _
        have own57 : ∀ k, (Value.slice (some ⟨w54.heap.size, 0, none⟩) 1 1).ownBlock = some k → w.heap.size ≤ k := fun k hk => Nat.le_trans X55.size (fr57 k hk)
        have sp60 : ∀ k, (Value.slice i8_0a i8_0n i8_0c).ownBlock = some k → ¬ (Value.slice (some ⟨w54.heap.size, 0, none⟩) 1 1).ownBlock = some k := apart_fresh B58 fr57
        have sp61 : ∀ k, (Value.slice v48pa v48pn v48pc).ownBlock = some k → ¬ (Value.slice (some ⟨w54.heap.size, 0, none⟩) 1 1).ownBlock = some k := apart_fresh B59 fr57
        have X62 : Ext w w57 := X55.trans E57
        have O57 : OS w57 5 encI_u8 (Value.slice (some ⟨w54.heap.size, 0, none⟩) 1 1) [m56] := OS.box (xs := [m56]) B57 (lc_v rfl rfl) (Nat.le_of_ble_eq_true rfl)
        obtain ⟨m63, hm63, hr⟩ := bind_out hr
        have B64 : OS w57 5 encI_u8 (Value.slice v48pa v48pn v48pc) m45 := B59.ext E57
        have B65 : OS w57 9 encS (Value.slice i8_0a i8_0n i8_0c) s8.1 := B58.ext E57
        refine da_op rfl (d_append (e := encI_u8) (v := (Value.slice v48pa v48pn v48pc)) (y := (Value.slice (some ⟨w54.heap.size, 0, none⟩) 1 1)) un22 info5 rfl (by kernel_rfl) (by kernel_rfl) (by decide) (by decide) rfl rfl B64 O57.rs hm63 fun v66 w66 O66 Fm66 at_66 nl66 => ?_)
        obtain ⟨v66pa, v66pn, v66pc, rfl⟩ := O66.vals
        have own66 : ∀ k, (Value.slice v66pa v66pn v66pc).ownBlock = some k → w.heap.size ≤ k := app_own (w := w57) at_66 own48 X62.size
        have sp67 : ∀ k, (Value.slice i8_0a i8_0n i8_0c).ownBlock = some k → ¬ (Value.slice v66pa v66pn v66pc).ownBlock = some k := app_nr at_66 sp49 B65
        have sp68 : ∀ k, (Value.slice (some ⟨w54.heap.size, 0, none⟩) 1 1).ownBlock = some k → ¬ (Value.slice v66pa v66pn v66pc).ownBlock = some k := app_nr at_66 (apart_symm sp61) O57
        have X69 : Ext w w66 := Ext.step X62 Fm66 (fun k _ hk => own48 k hk)
        refine da_op rfl (d_as (v := (Value.slice v66pa v66pn v66pc)) rfl ?_)
        refine da_nil ?_
        refine W_region rfl ?_
        refine da_op rfl (d_mv (v := .int .i64 20) rfl ?_)
        refine da_op rfl (d_iarith (r := 16) rfl rfl (.inr (.inl ⟨rfl, (by decide)⟩)) ?_)
        refine da_op rfl (d_as (v := .int .i64 16) rfl ?_)
        refine da_nil ?_
        refine Wr_next ?_
        refine W_seq ?_
        refine W_seq ?_
        refine W_region rfl ?_
        refine da_op rfl (d_mv (v := .int .i64 16) rfl ?_)
        refine da_op rfl (d_icmpL (b := true) cGeq rfl rfl (by decide) ?_)
        refine da_nil ?_
        refine W_true rfl ?_
        refine W_skip ?_
        refine W_seq ?_
        refine W_block ?_
        refine W_region rfl ?_
        refine da_op rfl (d_mv (v := (Value.slice v66pa v66pn v66pc)) rfl ?_)
        refine da_op rfl (d_mv (v := .float .f32 e11_r0) rfl ?_)
        obtain ⟨m70, hm70, hr⟩ := letv_out hr
        have B71 : OS w66 9 encS (Value.slice i8_0a i8_0n i8_0c) s8.1 := B65.frm Fm66 sp49
        refine da_op rfl (d_cl (vs := [.float .f32 e11_r0]) en40 (ac rfl rfl) rfl ?_)
        refine (c40 m10 e11_r0 m70 w66 hm70 e11_h0).mono ?_
        rintro _ w72 ⟨rfl, E72⟩
        refine ⟨_, rfl, ?_⟩
        have X73 : Ext w w72 := X69.trans E72
        refine da_op rfl (d_mv (v := .int .i64 16) rfl ?_)
        refine da_op rfl (d_shrL rfl rfl (n := 16) (by decide) ?_)
        refine da_op rfl (d_and rfl rfl ?_)
        obtain ⟨m74, hm74, hr⟩ := bind_out hr
        refine da_op rfl (d_sidx un9 rfl rfl hm74 ?_)
        have B76 : OS w72 9 encS (Value.slice i8_0a i8_0n i8_0c) s8.1 := B71.ext E72
        have B77 : OS w72 5 encI_u8 (Value.slice v66pa v66pn v66pc) m63 := O66.ext E72
        refine da_op rfl (d_bslice (vs := [(0, .int .u8 m74)]) (cs := #[.int .u8 m74]) un22 (pc rfl rfl) (by kernel_rfl) fun w75 B75 E75 => ?_)
        have fr75 : ∀ k, (Value.slice (some ⟨w72.heap.size, 0, none⟩) 1 1).ownBlock = some k → w72.heap.size ≤ k := fun k hk => by cases hk; exact Nat.le_refl _
        have own75 : ∀ k, (Value.slice (some ⟨w72.heap.size, 0, none⟩) 1 1).ownBlock = some k → w.heap.size ≤ k := fun k hk => Nat.le_trans X73.size (fr75 k hk)
        have sp78 : ∀ k, (Value.slice i8_0a i8_0n i8_0c).ownBlock = some k → ¬ (Value.slice (some ⟨w72.heap.size, 0, none⟩) 1 1).ownBlock = some k := apart_fresh B76 fr75
        have sp79 : ∀ k, (Value.slice v66pa v66pn v66pc).ownBlock = some k → ¬ (Value.slice (some ⟨w72.heap.size, 0, none⟩) 1 1).ownBlock = some k := apart_fresh B77 fr75
        have X80 : Ext w w75 := X73.trans E75
        have O75 : OS w75 5 encI_u8 (Value.slice (some ⟨w72.heap.size, 0, none⟩) 1 1) [m74] := OS.box (xs := [m74]) B75 (lc_v rfl rfl) (Nat.le_of_ble_eq_true rfl)
        obtain ⟨m81, hm81, hr⟩ := bind_out hr
        have B82 : OS w75 5 encI_u8 (Value.slice v66pa v66pn v66pc) m63 := B77.ext E75
        have B83 : OS w75 9 encS (Value.slice i8_0a i8_0n i8_0c) s8.1 := B76.ext E75
        refine da_op rfl (d_append (e := encI_u8) (v := (Value.slice v66pa v66pn v66pc)) (y := (Value.slice (some ⟨w72.heap.size, 0, none⟩) 1 1)) un22 info5 rfl (by kernel_rfl) (by kernel_rfl) (by decide) (by decide) rfl rfl B82 O75.rs hm81 fun v84 w84 O84 Fm84 at_84 nl84 => ?_)
        obtain ⟨v84pa, v84pn, v84pc, rfl⟩ := O84.vals
        have own84 : ∀ k, (Value.slice v84pa v84pn v84pc).ownBlock = some k → w.heap.size ≤ k := app_own (w := w75) at_84 own66 X80.size
        have sp85 : ∀ k, (Value.slice i8_0a i8_0n i8_0c).ownBlock = some k → ¬ (Value.slice v84pa v84pn v84pc).ownBlock = some k := app_nr at_84 sp67 B83
        have sp86 : ∀ k, (Value.slice (some ⟨w72.heap.size, 0, none⟩) 1 1).ownBlock = some k → ¬ (Value.slice v84pa v84pn v84pc).ownBlock = some k := app_nr at_84 (apart_symm sp79) O75
        have X87 : Ext w w84 := Ext.step X80 Fm84 (fun k _ hk => own66 k hk)
        refine da_op rfl (d_as (v := (Value.slice v84pa v84pn v84pc)) rfl ?_)
        refine da_nil ?_
        refine W_region rfl ?_
        refine da_op rfl (d_mv (v := .int .i64 16) rfl ?_)
        refine da_op rfl (d_iarith (r := 12) rfl rfl (.inr (.inl ⟨rfl, (by decide)⟩)) ?_)
        refine da_op rfl (d_as (v := .int .i64 12) rfl ?_)
        refine da_nil ?_
        refine Wr_next ?_
        refine W_seq ?_
        refine W_seq ?_
        refine W_region rfl ?_
        refine da_op rfl (d_mv (v := .int .i64 12) rfl ?_)
        refine da_op rfl (d_icmpL (b := true) cGeq rfl rfl (by decide) ?_)
        refine da_nil ?_
        refine W_true rfl ?_
        refine W_skip ?_
        refine W_seq ?_
        refine W_block ?_
        refine W_region rfl ?_
        refine da_op rfl (d_mv (v := (Value.slice v84pa v84pn v84pc)) rfl ?_)
        refine da_op rfl (d_mv (v := .float .f32 e11_r0) rfl ?_)
        obtain ⟨m88, hm88, hr⟩ := letv_out hr
        have B89 : OS w84 9 encS (Value.slice i8_0a i8_0n i8_0c) s8.1 := B83.frm Fm84 sp67
        refine da_op rfl (d_cl (vs := [.float .f32 e11_r0]) en40 (ac rfl rfl) rfl ?_)
        refine (c40 m10 e11_r0 m88 w84 hm88 e11_h0).mono ?_
        rintro _ w90 ⟨rfl, E90⟩
        refine ⟨_, rfl, ?_⟩
        have X91 : Ext w w90 := X87.trans E90
        refine da_op rfl (d_mv (v := .int .i64 12) rfl ?_)
        refine da_op rfl (d_shrL rfl rfl (n := 12) (by decide) ?_)
        refine da_op rfl (d_and rfl rfl ?_)
        obtain ⟨m92, hm92, hr⟩ := bind_out hr
        refine da_op rfl (d_sidx un9 rfl rfl hm92 ?_)
        have B94 : OS w90 9 encS (Value.slice i8_0a i8_0n i8_0c) s8.1 := B89.ext E90
        have B95 : OS w90 5 encI_u8 (Value.slice v84pa v84pn v84pc) m81 := O84.ext E90
        refine da_op rfl (d_bslice (vs := [(0, .int .u8 m92)]) (cs := #[.int .u8 m92]) un22 (pc rfl rfl) (by kernel_rfl) fun w93 B93 E93 => ?_)
        have fr93 : ∀ k, (Value.slice (some ⟨w90.heap.size, 0, none⟩) 1 1).ownBlock = some k → w90.heap.size ≤ k := fun k hk => by cases hk; exact Nat.le_refl _
        have own93 : ∀ k, (Value.slice (some ⟨w90.heap.size, 0, none⟩) 1 1).ownBlock = some k → w.heap.size ≤ k := fun k hk => Nat.le_trans X91.size (fr93 k hk)
        have sp96 : ∀ k, (Value.slice i8_0a i8_0n i8_0c).ownBlock = some k → ¬ (Value.slice (some ⟨w90.heap.size, 0, none⟩) 1 1).ownBlock = some k := apart_fresh B94 fr93
        have sp97 : ∀ k, (Value.slice v84pa v84pn v84pc).ownBlock = some k → ¬ (Value.slice (some ⟨w90.heap.size, 0, none⟩) 1 1).ownBlock = some k := apart_fresh B95 fr93
        have X98 : Ext w w93 := X91.trans E93
        have O93 : OS w93 5 encI_u8 (Value.slice (some ⟨w90.heap.size, 0, none⟩) 1 1) [m92] := OS.box (xs := [m92]) B93 (lc_v rfl rfl) (Nat.le_of_ble_eq_true rfl)
        obtain ⟨m99, hm99, hr⟩ := bind_out hr
        have B100 : OS w93 5 encI_u8 (Value.slice v84pa v84pn v84pc) m81 := B95.ext E93
        have B101 : OS w93 9 encS (Value.slice i8_0a i8_0n i8_0c) s8.1 := B94.ext E93
        refine da_op rfl (d_append (e := encI_u8) (v := (Value.slice v84pa v84pn v84pc)) (y := (Value.slice (some ⟨w90.heap.size, 0, none⟩) 1 1)) un22 info5 rfl (by kernel_rfl) (by kernel_rfl) (by decide) (by decide) rfl rfl B100 O93.rs hm99 fun v102 w102 O102 Fm102 at_102 nl102 => ?_)
        obtain ⟨v102pa, v102pn, v102pc, rfl⟩ := O102.vals
        have own102 : ∀ k, (Value.slice v102pa v102pn v102pc).ownBlock = some k → w.heap.size ≤ k := app_own (w := w93) at_102 own84 X98.size
        have sp103 : ∀ k, (Value.slice i8_0a i8_0n i8_0c).ownBlock = some k → ¬ (Value.slice v102pa v102pn v102pc).ownBlock = some k := app_nr at_102 sp85 B101
        have sp104 : ∀ k, (Value.slice (some ⟨w90.heap.size, 0, none⟩) 1 1).ownBlock = some k → ¬ (Value.slice v102pa v102pn v102pc).ownBlock = some k := app_nr at_102 (apart_symm sp97) O93
        have X105 : Ext w w102 := Ext.step X98 Fm102 (fun k _ hk => own84 k hk)
        refine da_op rfl (d_as (v := (Value.slice v102pa v102pn v102pc)) rfl ?_)
        refine da_nil ?_
        refine W_region rfl ?_
        refine da_op rfl (d_mv (v := .int .i64 12) rfl ?_)
        refine da_op rfl (d_iarith (r := 8) rfl rfl (.inr (.inl ⟨rfl, (by decide)⟩)) ?_)
        refine da_op rfl (d_as (v := .int .i64 8) rfl ?_)
        refine da_nil ?_
        refine Wr_next ?_
        refine W_seq ?_
        refine W_seq ?_
        refine W_region rfl ?_
        refine da_op rfl (d_mv (v := .int .i64 8) rfl ?_)
        refine da_op rfl (d_icmpL (b := true) cGeq rfl rfl (by decide) ?_)
        refine da_nil ?_
        refine W_true rfl ?_
        refine W_skip ?_
        refine W_seq ?_
        refine W_block ?_
        refine W_region rfl ?_
        refine da_op rfl (d_mv (v := (Value.slice v102pa v102pn v102pc)) rfl ?_)
        refine da_op rfl (d_mv (v := .float .f32 e11_r0) rfl ?_)
        obtain ⟨m106, hm106, hr⟩ := letv_out hr
        have B107 : OS w102 9 encS (Value.slice i8_0a i8_0n i8_0c) s8.1 := B101.frm Fm102 sp85
        refine da_op rfl (d_cl (vs := [.float .f32 e11_r0]) en40 (ac rfl rfl) rfl ?_)
        refine (c40 m10 e11_r0 m106 w102 hm106 e11_h0).mono ?_
        rintro _ w108 ⟨rfl, E108⟩
        refine ⟨_, rfl, ?_⟩
        have X109 : Ext w w108 := X105.trans E108
        refine da_op rfl (d_mv (v := .int .i64 8) rfl ?_)
        refine da_op rfl (d_shrL rfl rfl (n := 8) (by decide) ?_)
        refine da_op rfl (d_and rfl rfl ?_)
        obtain ⟨m110, hm110, hr⟩ := bind_out hr
        refine da_op rfl (d_sidx un9 rfl rfl hm110 ?_)
        have B112 : OS w108 9 encS (Value.slice i8_0a i8_0n i8_0c) s8.1 := B107.ext E108
        have B113 : OS w108 5 encI_u8 (Value.slice v102pa v102pn v102pc) m99 := O102.ext E108
        refine da_op rfl (d_bslice (vs := [(0, .int .u8 m110)]) (cs := #[.int .u8 m110]) un22 (pc rfl rfl) (by kernel_rfl) fun w111 B111 E111 => ?_)
        have fr111 : ∀ k, (Value.slice (some ⟨w108.heap.size, 0, none⟩) 1 1).ownBlock = some k → w108.heap.size ≤ k := fun k hk => by cases hk; exact Nat.le_refl _
        have own111 : ∀ k, (Value.slice (some ⟨w108.heap.size, 0, none⟩) 1 1).ownBlock = some k → w.heap.size ≤ k := fun k hk => Nat.le_trans X109.size (fr111 k hk)
        have sp114 : ∀ k, (Value.slice i8_0a i8_0n i8_0c).ownBlock = some k → ¬ (Value.slice (some ⟨w108.heap.size, 0, none⟩) 1 1).ownBlock = some k := apart_fresh B112 fr111
        have sp115 : ∀ k, (Value.slice v102pa v102pn v102pc).ownBlock = some k → ¬ (Value.slice (some ⟨w108.heap.size, 0, none⟩) 1 1).ownBlock = some k := apart_fresh B113 fr111
        have X116 : Ext w w111 := X109.trans E111
        have O111 : OS w111 5 encI_u8 (Value.slice (some ⟨w108.heap.size, 0, none⟩) 1 1) [m110] := OS.box (xs := [m110]) B111 (lc_v rfl rfl) (Nat.le_of_ble_eq_true rfl)
        obtain ⟨m117, hm117, hr⟩ := bind_out hr
        have B118 : OS w111 5 encI_u8 (Value.slice v102pa v102pn v102pc) m99 := B113.ext E111
        have B119 : OS w111 9 encS (Value.slice i8_0a i8_0n i8_0c) s8.1 := B112.ext E111
        refine da_op rfl (d_append (e := encI_u8) (v := (Value.slice v102pa v102pn v102pc)) (y := (Value.slice (some ⟨w108.heap.size, 0, none⟩) 1 1)) un22 info5 rfl (by kernel_rfl) (by kernel_rfl) (by decide) (by decide) rfl rfl B118 O111.rs hm117 fun v120 w120 O120 Fm120 at_120 nl120 => ?_)
        obtain ⟨v120pa, v120pn, v120pc, rfl⟩ := O120.vals
        have own120 : ∀ k, (Value.slice v120pa v120pn v120pc).ownBlock = some k → w.heap.size ≤ k := app_own (w := w111) at_120 own102 X116.size
        have sp121 : ∀ k, (Value.slice i8_0a i8_0n i8_0c).ownBlock = some k → ¬ (Value.slice v120pa v120pn v120pc).ownBlock = some k := app_nr at_120 sp103 B119
        have sp122 : ∀ k, (Value.slice (some ⟨w108.heap.size, 0, none⟩) 1 1).ownBlock = some k → ¬ (Value.slice v120pa v120pn v120pc).ownBlock = some k := app_nr at_120 (apart_symm sp115) O111
        have X123 : Ext w w120 := Ext.step X116 Fm120 (fun k _ hk => own102 k hk)
        refine da_op rfl (d_as (v := (Value.slice v120pa v120pn v120pc)) rfl ?_)
        refine da_nil ?_
        refine W_region rfl ?_
        refine da_op rfl (d_mv (v := .int .i64 8) rfl ?_)
        refine da_op rfl (d_iarith (r := 4) rfl rfl (.inr (.inl ⟨rfl, (by decide)⟩)) ?_)
        refine da_op rfl (d_as (v := .int .i64 4) rfl ?_)
        refine da_nil ?_
        refine Wr_next ?_
        refine W_seq ?_
        refine W_seq ?_
        refine W_region rfl ?_
        refine da_op rfl (d_mv (v := .int .i64 4) rfl ?_)
        refine da_op rfl (d_icmpL (b := true) cGeq rfl rfl (by decide) ?_)
        refine da_nil ?_
        refine W_true rfl ?_
        refine W_skip ?_
        refine W_seq ?_
        refine W_block ?_
        refine W_region rfl ?_
        refine da_op rfl (d_mv (v := (Value.slice v120pa v120pn v120pc)) rfl ?_)
        refine da_op rfl (d_mv (v := .float .f32 e11_r0) rfl ?_)
        obtain ⟨m124, hm124, hr⟩ := letv_out hr
        have B125 : OS w120 9 encS (Value.slice i8_0a i8_0n i8_0c) s8.1 := B119.frm Fm120 sp103
        refine da_op rfl (d_cl (vs := [.float .f32 e11_r0]) en40 (ac rfl rfl) rfl ?_)
        refine (c40 m10 e11_r0 m124 w120 hm124 e11_h0).mono ?_
        rintro _ w126 ⟨rfl, E126⟩
        refine ⟨_, rfl, ?_⟩
        have X127 : Ext w w126 := X123.trans E126
        refine da_op rfl (d_mv (v := .int .i64 4) rfl ?_)
        refine da_op rfl (d_shrL rfl rfl (n := 4) (by decide) ?_)
        refine da_op rfl (d_and rfl rfl ?_)
        obtain ⟨m128, hm128, hr⟩ := bind_out hr
        refine da_op rfl (d_sidx un9 rfl rfl hm128 ?_)
        have B130 : OS w126 9 encS (Value.slice i8_0a i8_0n i8_0c) s8.1 := B125.ext E126
        have B131 : OS w126 5 encI_u8 (Value.slice v120pa v120pn v120pc) m117 := O120.ext E126
        refine da_op rfl (d_bslice (vs := [(0, .int .u8 m128)]) (cs := #[.int .u8 m128]) un22 (pc rfl rfl) (by kernel_rfl) fun w129 B129 E129 => ?_)
        have fr129 : ∀ k, (Value.slice (some ⟨w126.heap.size, 0, none⟩) 1 1).ownBlock = some k → w126.heap.size ≤ k := fun k hk => by cases hk; exact Nat.le_refl _
        have own129 : ∀ k, (Value.slice (some ⟨w126.heap.size, 0, none⟩) 1 1).ownBlock = some k → w.heap.size ≤ k := fun k hk => Nat.le_trans X127.size (fr129 k hk)
        have sp132 : ∀ k, (Value.slice i8_0a i8_0n i8_0c).ownBlock = some k → ¬ (Value.slice (some ⟨w126.heap.size, 0, none⟩) 1 1).ownBlock = some k := apart_fresh B130 fr129
        have sp133 : ∀ k, (Value.slice v120pa v120pn v120pc).ownBlock = some k → ¬ (Value.slice (some ⟨w126.heap.size, 0, none⟩) 1 1).ownBlock = some k := apart_fresh B131 fr129
        have X134 : Ext w w129 := X127.trans E129
        have O129 : OS w129 5 encI_u8 (Value.slice (some ⟨w126.heap.size, 0, none⟩) 1 1) [m128] := OS.box (xs := [m128]) B129 (lc_v rfl rfl) (Nat.le_of_ble_eq_true rfl)
        obtain ⟨m135, hm135, hr⟩ := bind_out hr
        have B136 : OS w129 5 encI_u8 (Value.slice v120pa v120pn v120pc) m117 := B131.ext E129
        have B137 : OS w129 9 encS (Value.slice i8_0a i8_0n i8_0c) s8.1 := B130.ext E129
        refine da_op rfl (d_append (e := encI_u8) (v := (Value.slice v120pa v120pn v120pc)) (y := (Value.slice (some ⟨w126.heap.size, 0, none⟩) 1 1)) un22 info5 rfl (by kernel_rfl) (by kernel_rfl) (by decide) (by decide) rfl rfl B136 O129.rs hm135 fun v138 w138 O138 Fm138 at_138 nl138 => ?_)
        obtain ⟨v138pa, v138pn, v138pc, rfl⟩ := O138.vals
        have own138 : ∀ k, (Value.slice v138pa v138pn v138pc).ownBlock = some k → w.heap.size ≤ k := app_own (w := w129) at_138 own120 X134.size
        have sp139 : ∀ k, (Value.slice i8_0a i8_0n i8_0c).ownBlock = some k → ¬ (Value.slice v138pa v138pn v138pc).ownBlock = some k := app_nr at_138 sp121 B137
        have sp140 : ∀ k, (Value.slice (some ⟨w126.heap.size, 0, none⟩) 1 1).ownBlock = some k → ¬ (Value.slice v138pa v138pn v138pc).ownBlock = some k := app_nr at_138 (apart_symm sp133) O129
        have X141 : Ext w w138 := Ext.step X134 Fm138 (fun k _ hk => own120 k hk)
        refine da_op rfl (d_as (v := (Value.slice v138pa v138pn v138pc)) rfl ?_)
        refine da_nil ?_
        refine W_region rfl ?_
        refine da_op rfl (d_mv (v := .int .i64 4) rfl ?_)
        refine da_op rfl (d_iarith (r := 0) rfl rfl (.inr (.inl ⟨rfl, (by decide)⟩)) ?_)
        refine da_op rfl (d_as (v := .int .i64 0) rfl ?_)
        refine da_nil ?_
        refine Wr_next ?_
        refine W_seq ?_
        refine W_seq ?_
        refine W_region rfl ?_
        refine da_op rfl (d_mv (v := .int .i64 0) rfl ?_)
        refine da_op rfl (d_icmpL (b := true) cGeq rfl rfl (by decide) ?_)
        refine da_nil ?_
        refine W_true rfl ?_
        refine W_skip ?_
        refine W_seq ?_
        refine W_block ?_
        refine W_region rfl ?_
        refine da_op rfl (d_mv (v := (Value.slice v138pa v138pn v138pc)) rfl ?_)
        refine da_op rfl (d_mv (v := .float .f32 e11_r0) rfl ?_)
        obtain ⟨m142, hm142, hr⟩ := letv_out hr
        have B143 : OS w138 9 encS (Value.slice i8_0a i8_0n i8_0c) s8.1 := B137.frm Fm138 sp121
        refine da_op rfl (d_cl (vs := [.float .f32 e11_r0]) en40 (ac rfl rfl) rfl ?_)
        refine (c40 m10 e11_r0 m142 w138 hm142 e11_h0).mono ?_
        rintro _ w144 ⟨rfl, E144⟩
        refine ⟨_, rfl, ?_⟩
        have X145 : Ext w w144 := X141.trans E144
        refine da_op rfl (d_mv (v := .int .i64 0) rfl ?_)
        refine da_op rfl (d_shrL rfl rfl (n := 0) (by decide) ?_)
        refine da_op rfl (d_and rfl rfl ?_)
        obtain ⟨m146, hm146, hr⟩ := bind_out hr
        refine da_op rfl (d_sidx un9 rfl rfl hm146 ?_)
        have B148 : OS w144 9 encS (Value.slice i8_0a i8_0n i8_0c) s8.1 := B143.ext E144
        have B149 : OS w144 5 encI_u8 (Value.slice v138pa v138pn v138pc) m135 := O138.ext E144
        refine da_op rfl (d_bslice (vs := [(0, .int .u8 m146)]) (cs := #[.int .u8 m146]) un22 (pc rfl rfl) (by kernel_rfl) fun w147 B147 E147 => ?_)
        have fr147 : ∀ k, (Value.slice (some ⟨w144.heap.size, 0, none⟩) 1 1).ownBlock = some k → w144.heap.size ≤ k := fun k hk => by cases hk; exact Nat.le_refl _
        have own147 : ∀ k, (Value.slice (some ⟨w144.heap.size, 0, none⟩) 1 1).ownBlock = some k → w.heap.size ≤ k := fun k hk => Nat.le_trans X145.size (fr147 k hk)
        have sp150 : ∀ k, (Value.slice i8_0a i8_0n i8_0c).ownBlock = some k → ¬ (Value.slice (some ⟨w144.heap.size, 0, none⟩) 1 1).ownBlock = some k := apart_fresh B148 fr147
        have sp151 : ∀ k, (Value.slice v138pa v138pn v138pc).ownBlock = some k → ¬ (Value.slice (some ⟨w144.heap.size, 0, none⟩) 1 1).ownBlock = some k := apart_fresh B149 fr147
        have X152 : Ext w w147 := X145.trans E147
        have O147 : OS w147 5 encI_u8 (Value.slice (some ⟨w144.heap.size, 0, none⟩) 1 1) [m146] := OS.box (xs := [m146]) B147 (lc_v rfl rfl) (Nat.le_of_ble_eq_true rfl)
        obtain ⟨m153, hm153, hr⟩ := bind_out hr
        have B154 : OS w147 5 encI_u8 (Value.slice v138pa v138pn v138pc) m135 := B149.ext E147
        have B155 : OS w147 9 encS (Value.slice i8_0a i8_0n i8_0c) s8.1 := B148.ext E147
        refine da_op rfl (d_append (e := encI_u8) (v := (Value.slice v138pa v138pn v138pc)) (y := (Value.slice (some ⟨w144.heap.size, 0, none⟩) 1 1)) un22 info5 rfl (by kernel_rfl) (by kernel_rfl) (by decide) (by decide) rfl rfl B154 O147.rs hm153 fun v156 w156 O156 Fm156 at_156 nl156 => ?_)
        obtain ⟨v156pa, v156pn, v156pc, rfl⟩ := O156.vals
        have own156 : ∀ k, (Value.slice v156pa v156pn v156pc).ownBlock = some k → w.heap.size ≤ k := app_own (w := w147) at_156 own138 X152.size
        have sp157 : ∀ k, (Value.slice i8_0a i8_0n i8_0c).ownBlock = some k → ¬ (Value.slice v156pa v156pn v156pc).ownBlock = some k := app_nr at_156 sp139 B155
        have sp158 : ∀ k, (Value.slice (some ⟨w144.heap.size, 0, none⟩) 1 1).ownBlock = some k → ¬ (Value.slice v156pa v156pn v156pc).ownBlock = some k := app_nr at_156 (apart_symm sp151) O147
        have X159 : Ext w w156 := Ext.step X152 Fm156 (fun k _ hk => own138 k hk)
        refine da_op rfl (d_as (v := (Value.slice v156pa v156pn v156pc)) rfl ?_)
        refine da_nil ?_
        refine W_region rfl ?_
        refine da_op rfl (d_mv (v := .int .i64 0) rfl ?_)
        refine da_op rfl (d_iarith (r := -4) rfl rfl (.inr (.inl ⟨rfl, (by decide)⟩)) ?_)
        refine da_op rfl (d_as (v := .int .i64 (-4)) rfl ?_)
        refine da_nil ?_
        refine Wr_next ?_
        refine W_seq ?_
        refine W_seq ?_
        refine W_region rfl ?_
        refine da_op rfl (d_mv (v := .int .i64 (-4)) rfl ?_)
        refine da_op rfl (d_icmpL (b := false) cGeq rfl rfl (by decide) ?_)
        refine da_nil ?_
        refine W_false rfl ?_
        refine W_exit ?_
        refine W_region rfl ?_
        refine da_op rfl (d_mv (v := (Value.slice i8_0a i8_0n i8_0c)) i8_S4 ?_)
        refine da_op rfl (d_mv (v := (Value.slice v156pa v156pn v156pc)) rfl ?_)
        refine da_op rfl (d_bstr (e := encI_u8) (v := (Value.slice v156pa v156pn v156pc)) rfl un22 un5 un9 rfl O156.rs ?_)
        have B161 : OS w156 9 encS (Value.slice i8_0a i8_0n i8_0c) s8.1 := B155.frm Fm156 sp139
        refine da_op rfl (d_bslice (vs := [(0, .string (bs (u8s m153)))]) (cs := #[.string (bs (u8s m153))]) un63 (pc rfl rfl) (by kernel_rfl) fun w160 B160 E160 => ?_)
        have fr160 : ∀ k, (Value.slice (some ⟨w156.heap.size, 0, none⟩) 1 1).ownBlock = some k → w156.heap.size ≤ k := fun k hk => by cases hk; exact Nat.le_refl _
        have own160 : ∀ k, (Value.slice (some ⟨w156.heap.size, 0, none⟩) 1 1).ownBlock = some k → w.heap.size ≤ k := fun k hk => Nat.le_trans X159.size (fr160 k hk)
        have sp162 : ∀ k, (Value.slice i8_0a i8_0n i8_0c).ownBlock = some k → ¬ (Value.slice (some ⟨w156.heap.size, 0, none⟩) 1 1).ownBlock = some k := apart_fresh B161 fr160
        have sp163 : ∀ k, (Value.slice v156pa v156pn v156pc).ownBlock = some k → ¬ (Value.slice (some ⟨w156.heap.size, 0, none⟩) 1 1).ownBlock = some k := apart_fresh O156 fr160
        have X164 : Ext w w160 := X159.trans E160
        have O160 : OS w160 9 encS (Value.slice (some ⟨w156.heap.size, 0, none⟩) 1 1) [(u8s m153)] := OS.box (xs := [(u8s m153)]) B160 (lc_v rfl rfl) (Nat.le_of_ble_eq_true rfl)
        obtain ⟨m165, hm165, hr⟩ := bind_out hr
        have B166 : OS w160 9 encS (Value.slice i8_0a i8_0n i8_0c) s8.1 := B161.ext E160
        have B167 : OS w160 5 encI_u8 (Value.slice v156pa v156pn v156pc) m153 := O156.ext E160
        refine da_op rfl (d_append (e := encS) (v := (Value.slice i8_0a i8_0n i8_0c)) (y := (Value.slice (some ⟨w156.heap.size, 0, none⟩) 1 1)) un63 info9 rfl (by kernel_rfl) (by kernel_rfl) (by decide) (by decide) rfl rfl B166 O160.rs hm165 fun v168 w168 O168 Fm168 at_168 nl168 => ?_)
        obtain ⟨v168pa, v168pn, v168pc, rfl⟩ := O168.vals
        have own168 : ∀ k, (Value.slice v168pa v168pn v168pc).ownBlock = some k → w.heap.size ≤ k := app_own (w := w160) at_168 i8_0O X164.size
        have sp169 : ∀ k, (Value.slice v156pa v156pn v156pc).ownBlock = some k → ¬ (Value.slice v168pa v168pn v168pc).ownBlock = some k := app_nr at_168 (apart_symm sp157) B167
        have sp170 : ∀ k, (Value.slice (some ⟨w156.heap.size, 0, none⟩) 1 1).ownBlock = some k → ¬ (Value.slice v168pa v168pn v168pc).ownBlock = some k := app_nr at_168 (apart_symm sp162) O160
        have X171 : Ext w w168 := Ext.step X164 Fm168 (fun k _ hk => i8_0O k hk)
        refine da_op rfl (d_as (v := (Value.slice v168pa v168pn v168pc)) rfl ?_)
        refine da_nil ?_
        refine W_region rfl ?_
        refine da_op rfl (d_iarith i8_S15 rfl (.inl ⟨rfl, rfl⟩) ?_)
        refine da_op rfl (d_mv (v := .int .i64 (IntKind.i64.wrap (s8.2 + 1))) rfl ?_)
        refine da_nil ?_
        obtain rfl := Option.some.inj hr
        exact ⟨_, rfl, ⟨v168pa, v168pn, v168pc, rfl, rfl, i8_S13, i8_S14, O168, own168, X171⟩⟩
      · skip
        replace hr := bif_f hr hc9
        refine W_exit ?_
        obtain rfl := Option.some.inj hr
        exact ⟨_, rfl, rfl, i8_0a, i8_0n, i8_0c, i8_S4, i8_0R, i8_0O, i8_X⟩
    · skip
      intro ex σx8 wx8 hq
      obtain ⟨rfl, q8_0_0a, q8_0_0n, q8_0_0c, q8_0_S4, q8_0_0R, q8_0_0O, q8_0_X⟩ := hq
      refine W_seq ?_
      refine W_region rfl ?_
      refine da_op rfl (d_mv (v := (Value.slice q8_0_0a q8_0_0n q8_0_0c)) q8_0_S4 ?_)
      obtain ⟨m172, hm172, hr⟩ := bind_out hr
      refine da_op rfl (d_cl (vs := [(Value.slice q8_0_0a q8_0_0n q8_0_0c)]) en41 (ac rfl rfl) rfl ?_)
      refine (c41 m8 q8_0_0a q8_0_0n q8_0_0c m172 wx8 hm172 q8_0_0R.rs).mono ?_
      rintro _ w173 ⟨rfl, E173⟩
      refine ⟨_, rfl, ?_⟩
      have X174 : Ext w w173 := q8_0_X.trans E173
      refine da_op rfl (d_as (v := .string (bs m172)) rfl ?_)
      refine da_op rfl (d_as (v := .bool true) rfl ?_)
      refine da_nil ?_
      refine W_ret ?_
      obtain rfl := Option.some.inj hr
      refine ⟨_, res2 (rv_tmp rfl) (rv_tmp rfl), ?_⟩
      exact ⟨rfl, X174⟩
set_option maxHeartbeats 4000000 in
theorem c18 (p0 : SVector) (p0r0 : Nat) (p0r1 : Nat) (p0r2 : Nat) (r : List UInt8) (w : World) (hr : M.impl_VectorText p0 = some r) (p0h0 : cn .f32 p0r0 = p0.x) (p0h1 : cn .f32 p0r1 = p0.y) (p0h2 : cn .f32 p0r2 = p0.z) :
    Calls Tryd.prog 18 #[.agg #[.float .f32 p0r0, .float .f32 p0r1, .float .f32 p0r2]] w fun e w' => e = .returned (.string (bs r)) ∧ Ext w w' := by
  refine calls_of_W Tryd.func18 rfl (Nat.le_of_ble_eq_true rfl) ?_
  refine W_seq ?_
  refine W_region rfl ?_
  refine da_op rfl (d_box (cs := #[.float .f32 p0r0, .float .f32 p0r1, .float .f32 p0r2]) rfl fun w1 B1 E1 => ?_)
  have own2 : w.heap.size ≤ w.heap.size := Nat.le_trans (Ext.refl w).size (Nat.le_refl _)
  have X3 : Ext w w1 := (Ext.refl w).trans E1
  refine da_op rfl (d_as (v := .string (bs ([] : List UInt8))) rfl ?_)
  refine da_nil ?_
  refine W_seq ?_
  refine W_region rfl ?_
  refine da_op rfl (d_loads (vs := #[.float .f32 p0r0, .float .f32 p0r1, .float .f32 p0r2]) rfl agg26 size26 B1 rfl ?_)
  obtain ⟨m4, hm4, hr⟩ := letv_out hr
  refine da_op rfl (d_cl (vs := [.agg #[.float .f32 p0r0, .float .f32 p0r1, .float .f32 p0r2]]) en29 (ac rfl rfl) rfl ?_)
  refine (c29 p0 p0r0 p0r1 p0r2 m4 w1 hm4 p0h0 p0h1 p0h2).mono ?_
  rintro _ w5 ⟨q5_0a, q5_0n, q5_0c, rfl, q5_0R, q5_0F, E5⟩
  refine ⟨_, rfl, ?_⟩
  have own6 : ∀ k, (Value.slice q5_0a q5_0n q5_0c).ownBlock = some k → w.heap.size ≤ k := fun k hk => Nat.le_trans X3.size (q5_0F k hk)
  have sp7 : ¬ (Value.slice q5_0a q5_0n q5_0c).ownBlock = some w.heap.size := ne_fresh q5_0F (lt_heap B1)
  have X8 : Ext w w5 := X3.trans E5
  obtain ⟨m9, hm9, hr⟩ := bind_out hr
  have B10 : w5.heap[w.heap.size]? = some (.cells #[.float .f32 p0r0, .float .f32 p0r1, .float .f32 p0r2] 26 (0, 0)) := E5.heap B1
  refine da_op rfl (d_cl (vs := [(Value.slice q5_0a q5_0n q5_0c)]) en28 (ac rfl rfl) rfl ?_)
  refine (c28 m4 q5_0a q5_0n q5_0c m9 w5 hm9 q5_0R.rs).mono ?_
  rintro _ w11 ⟨rfl, E11⟩
  refine ⟨_, rfl, ?_⟩
  have X12 : Ext w w11 := X8.trans E11
  refine da_op rfl (d_mv (v := .tuple #[.string (bs m9.1), .bool m9.2]) rfl ?_)
  refine da_op rfl (d_extract (v := .string (bs m9.1)) rfl rfl ?_)
  refine da_op rfl (d_extract (v := .bool m9.2) rfl rfl ?_)
  refine da_op rfl (d_as (v := .string (bs m9.1)) rfl ?_)
  refine da_op rfl (d_as (v := .bool m9.2) rfl ?_)
  refine da_nil ?_
  refine W_seq ?_
  refine W_region rfl ?_
  refine da_op rfl (d_mv (v := .string (bs m9.1)) rfl ?_)
  refine da_op rfl (d_as (v := .string (bs m9.1)) rfl ?_)
  refine da_nil ?_
  refine W_ret ?_
  obtain rfl := Option.some.inj hr
  refine ⟨_, res1 (rv_tmp rfl), ?_⟩
  exact ⟨rfl, X12⟩
set_option maxHeartbeats 4000000 in
theorem c66_s2c (p0 : List UInt8) (r : Int) (w : World) (hr : M.strings_Count_s2c p0 = some r)  :
    Calls Tryd.prog 66 #[.string (bs p0), .string (bs ([44] : List UInt8))] w fun e w' => e = .returned (.int .i64 r) ∧ Ext w w' := by
  refine calls_of_W Tryd.func66 rfl (Nat.le_of_ble_eq_true rfl) ?_
  refine W_seq ?_
  refine W_region rfl ?_
  refine da_op rfl (d_as (v := .int .i64 0) rfl ?_)
  refine da_nil ?_
  refine W_seq ?_
  refine W_seq ?_
  refine W_region rfl ?_
  refine da_op rfl (d_mv (v := .string (bs ([44] : List UInt8))) rfl ?_)
  refine da_op rfl (d_slenL (n := 1) un9 rfl rfl ?_)
  refine da_op rfl (d_icmpL (b := false) cEql rfl rfl (by decide) ?_)
  refine da_nil ?_
  refine W_false rfl ?_
  refine W_skip ?_
  refine W_seq ?_
  refine W_seq ?_
  refine W_region rfl ?_
  refine da_op rfl (d_mv (v := .string (bs ([44] : List UInt8))) rfl ?_)
  refine da_op rfl (d_slenL (n := 1) un9 rfl rfl ?_)
  refine da_op rfl (d_icmpL (b := true) cEql rfl rfl (by decide) ?_)
  refine da_nil ?_
  refine W_true rfl ?_
  refine W_seq ?_
  refine W_region rfl ?_
  refine da_op rfl (d_mv (v := .string (bs p0)) rfl ?_)
  refine da_op rfl (d_mv (v := .string (bs ([44] : List UInt8))) rfl ?_)
  obtain ⟨m1, hm1, hr⟩ := bind_out hr
  refine da_op rfl (d_sidx un9 rfl rfl hm1 ?_)
  refine da_op rfl (d_scount ext73_0 ext73_1 ext73_2 (Option.isNone_iff_eq_none.1 ext73_3) ext73_4 rfl rfl rfl ?_)
  refine da_op rfl (d_as (v := .int .i64 (scount p0 m1)) rfl ?_)
  refine da_nil ?_
  refine W_ret ?_
  obtain rfl := Option.some.inj hr
  refine ⟨_, res1 (rv_tmp rfl), ?_⟩
  exact ⟨rfl, (Ext.refl w)⟩
set_option maxHeartbeats 4000000 in
theorem c61 (p0 : List UInt8) (p1 : Int) (r : Int) (w : World) (hr : M.internal_stringslite_IndexByte p0 p1 = r)  :
    Calls Tryd.prog 61 #[.string (bs p0), .int .u8 p1] w fun e w' => e = .returned (.int .i64 r) ∧ Ext w w' := by
  refine calls_of_W Tryd.func61 rfl (Nat.le_of_ble_eq_true rfl) ?_
  refine W_seq ?_
  refine W_region rfl ?_
  refine da_op rfl (d_as (v := .int .i64 0) rfl ?_)
  refine da_nil ?_
  refine W_seq ?_
  refine W_region rfl ?_
  refine da_op rfl (d_mv (v := .string (bs p0)) rfl ?_)
  refine da_op rfl (d_mv (v := .int .u8 p1) rfl ?_)
  refine da_op rfl (d_sfind ext68_0 ext68_1 ext68_2 (Option.isNone_iff_eq_none.1 ext68_3) ext68_4 rfl rfl rfl ?_)
  refine da_op rfl (d_as (v := .int .i64 (sfind p0 p1)) rfl ?_)
  refine da_nil ?_
  refine W_ret ?_
  subst hr
  refine ⟨_, res1 (rv_tmp rfl), ?_⟩
  exact ⟨rfl, (Ext.refl w)⟩
end Go.Proofs
