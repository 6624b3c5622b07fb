import Derived.Test.YtdcienojgkioiaaDoorACt1
namespace Go.Proofs
open Go Go.Fl Go.RowKit Go.Rg
set_option maxRecDepth 100000
set_option linter.unusedVariables false
attribute [local irreducible] Go.Calls doAll Does DoesG W Wr
set_option maxHeartbeats 4000000 in
theorem c52 (p0 : List UInt8) (r : SPendulum × Bool) (w : World) (hr : M.spec_l08ReadPendulum p0 = some r)  :
    Calls Tryd.prog 52 #[.string (bs p0)] w fun e w' => ∃ q0r0 : Nat, ∃ q0r1 : Nat, ∃ q0r2 : Nat, ∃ q0r3 : Nat, ∃ q0r4 : Nat, e = .returned (.tuple #[.agg #[.float .f32 q0r0, .float .f32 q0r1, .float .f32 q0r2, .float .f32 q0r3, .float .f32 q0r4], .bool r.2]) ∧ cn .f32 q0r0 = r.1.long ∧ cn .f32 q0r1 = r.1.pull ∧ cn .f32 q0r2 = r.1.drag ∧ cn .f32 q0r3 = r.1.drive ∧ cn .f32 q0r4 = r.1.rate ∧ Ext w w' := by
  refine calls_of_W Tryd.func52 rfl (Nat.le_of_ble_eq_true rfl) ?_
  refine W_seq ?_
  refine W_region rfl ?_
  refine da_op rfl (d_alloc (cs := #[.float .f32 0, .float .f32 0, .float .f32 0, .float .f32 0, .float .f32 0]) zero30 rfl fun w1 B1 E1 => ?_)
  have own2 : w.heap.size ≤ w.heap.size := Nat.le_trans (Ext.refl w).size (Nat.le_refl _)
  have X3 : Ext w w1 := (Ext.refl w).trans E1
  refine da_op rfl (d_as (v := .bool false) rfl ?_)
  refine da_nil ?_
  refine W_seq ?_
  refine W_region rfl ?_
  refine da_op rfl (d_mv (v := .string (bs p0)) rfl ?_)
  obtain ⟨m4, hm4, hr⟩ := bind_out hr
  refine da_op rfl (d_cl (vs := [.string (bs p0)]) en105 (ac rfl rfl) rfl ?_)
  refine (c105 p0 m4 w1 hm4 ).mono ?_
  rintro _ w5 ⟨q5_0v, rfl, q5_0R, q5_0F, E5⟩
  refine ⟨_, rfl, ?_⟩
  have own6 : ∀ k, q5_0v.ownBlock = some k → w.heap.size ≤ k := fun k hk => Nat.le_trans X3.size (q5_0F k hk)
  have sp7 : ¬ q5_0v.ownBlock = some w.heap.size := ne_fresh q5_0F (lt_heap B1)
  have X8 : Ext w w5 := X3.trans E5
  refine da_op rfl (d_mv (v := .tuple #[q5_0v, .bool m4.2]) rfl ?_)
  refine da_op rfl (d_extract (v := q5_0v) rfl rfl ?_)
  refine da_op rfl (d_extract (v := .bool m4.2) rfl rfl ?_)
  refine da_op rfl (d_as (v := q5_0v) rfl ?_)
  refine da_op rfl (d_as (v := .bool m4.2) rfl ?_)
  refine da_nil ?_
  refine W_seq ?_
  refine W_seq ?_
  have B10 : w5.heap[w.heap.size]? = some (.cells #[.float .f32 0, .float .f32 0, .float .f32 0, .float .f32 0, .float .f32 0] 30 (0, 0)) := E5.heap B1
  obtain ⟨m9, hm9, hr⟩ := letv_out hr
  refine W_cut (fun σ' w' => σ' 18 = .bool m9 ∧ Ext w5 w') rfl ?_ ?_
  · skip
    have hr := hm9
    refine da_op rfl (d_mv (v := .bool m4.2) rfl ?_)
    refine da_op rfl (d_not rfl ?_)
    refine da_op rfl (d_mv (v := .bool (!m4.2)) rfl ?_)
    rcases Bool.eq_false_or_eq_true m4.2 with hc11 | hc11
    · skip
      replace hr := bif_t hr hc11
      refine da_on rfl (Eq.trans (show sl _ _ _ = .bool (!m4.2) from rfl) (congrArg Value.bool (congrArg not hc11))) (d_mv (v := q5_0v) rfl ?_)
      refine da_on rfl (Eq.trans (show sl _ _ _ = .bool (!m4.2) from rfl) (congrArg Value.bool (congrArg not hc11))) (d_len (e := encF_f32) un53 rfl q5_0R.rs ?_)
      refine da_on rfl (Eq.trans (show sl _ _ _ = .bool (!m4.2) from rfl) (congrArg Value.bool (congrArg not hc11))) (d_icmp cNeq rfl rfl ?_)
      refine da_op rfl (d_pick (b := false) (Eq.trans (show ev _ _ = .bool (!m4.2) from rfl) (congrArg Value.bool (congrArg not hc11))) ?_)
      refine da_nil ?_
      subst hr
      exact ⟨rfl, (Ext.refl w5)⟩
    · skip
      replace hr := bif_f hr hc11
      refine da_off rfl (Eq.trans (show sl _ _ _ = .bool (!m4.2) from rfl) (congrArg Value.bool (congrArg not hc11))) (by decide) ?_
      refine da_off rfl (Eq.trans (show sl _ _ _ = .bool (!m4.2) from rfl) (congrArg Value.bool (congrArg not hc11))) (by decide) ?_
      refine da_off rfl (Eq.trans (show sl _ _ _ = .bool (!m4.2) from rfl) (congrArg Value.bool (congrArg not hc11))) (by decide) ?_
      refine da_op rfl (d_pick (b := true) (Eq.trans (show ev _ _ = .bool (!m4.2) from rfl) (congrArg Value.bool (congrArg not hc11))) ?_)
      refine da_nil ?_
      subst hr
      exact ⟨rfl, (Ext.refl w5)⟩
  · skip
    rintro σ9 w9 o9 ⟨s18_9, E9⟩
    have s2_9 : σ9 2 = .pointer (some ⟨w.heap.size, 0, none⟩) := (o9 2 rfl).trans rfl
    have s4_9 : σ9 4 = q5_0v := (o9 4 rfl).trans rfl
    have X12 : Ext w w9 := X8.trans E9
    refine W_cond (b := m9) s18_9 (fun hc13 => ?_) (fun hc13 => ?_)
    · skip
      replace hr := bif_t hr hc13
      refine W_seq ?_
      refine W_region rfl ?_
      refine da_op rfl (d_bd (vs := []) (cs := #[.float .f32 0, .float .f32 0, .float .f32 0, .float .f32 0, .float .f32 0]) rfl (by kernel_rfl) ?_)
      have B14 : w9.heap[w.heap.size]? = some (.cells #[.float .f32 0, .float .f32 0, .float .f32 0, .float .f32 0, .float .f32 0] 30 (0, 0)) := E9.heap B10
      refine da_op rfl (d_store (vs := #[.float .f32 0, .float .f32 0, .float .f32 0, .float .f32 0, .float .f32 0]) s2_9 rfl B14 size30 (Nat.le_of_ble_eq_true rfl) rfl fun w15 S15 => ?_)
      have X16 : Ext w w15 := Ext.step X12 S15.frmb (fun k _ hk => hk ▸ own2)
      have B17 : w15.heap[w.heap.size]? = some (.cells #[.float .f32 0, .float .f32 0, .float .f32 0, .float .f32 0, .float .f32 0] 30 (0, 0)) := S15.here
      refine da_op rfl (d_as (v := .bool false) rfl ?_)
      refine da_nil ?_
      refine W_ret ?_
      obtain rfl := Option.some.inj hr
      refine ⟨_, res2 (rv_cells (vs := #[.float .f32 0, .float .f32 0, .float .f32 0, .float .f32 0, .float .f32 0]) s2_9 agg30 size30 B17 rfl) (rv_tmp rfl), ?_⟩
      exact ⟨0, 0, 0, 0, 0, rfl, cn_f32_0, cn_f32_0, cn_f32_0, cn_f32_0, cn_f32_0, X16⟩
    · skip
      replace hr := bif_f hr hc13
      refine W_skip ?_
      refine W_seq ?_
      have B19 : w9.heap[w.heap.size]? = some (.cells #[.float .f32 0, .float .f32 0, .float .f32 0, .float .f32 0, .float .f32 0] 30 (0, 0)) := E9.heap B10
      have B20 : OS w9 22 encF_f32 q5_0v m4.1 := q5_0R.ext E9
      obtain ⟨m21, hm21, hr⟩ := bind_out hr
      obtain ⟨m22, hm22, hr⟩ := bind_out hr
      obtain ⟨m23, hm23, hr⟩ := bind_out hr
      obtain ⟨m24, hm24, hr⟩ := bind_out hr
      obtain ⟨m25, hm25, hr⟩ := bind_out hr
      refine W_any [(fun k t => w9.heap.size ≤ k ∧ t = some 30)] [{ V := fun _ v _ => v = q5_0v }, { V := fun _ v _ => ∃ d18_1g : Nat, ∃ d18_1o : Nat, v = (.pointer (some ⟨d18_1g, d18_1o, none⟩)) ∧ EL encF_f32 q5_0v (m4.1).length 0 d18_1g d18_1o }, { V := fun _ v _ => ∃ d18_1r0 : Nat, v = (.float .f32 d18_1r0) ∧ cn .f32 d18_1r0 = m21 }, { V := fun _ v _ => v = q5_0v }, { V := fun _ v _ => ∃ d18_4g : Nat, ∃ d18_4o : Nat, v = (.pointer (some ⟨d18_4g, d18_4o, none⟩)) ∧ EL encF_f32 q5_0v (m4.1).length 1 d18_4g d18_4o }, { V := fun _ v _ => ∃ d18_4r0 : Nat, v = (.float .f32 d18_4r0) ∧ cn .f32 d18_4r0 = m22 }, { V := fun _ v _ => v = q5_0v }, { V := fun _ v _ => ∃ d18_7g : Nat, ∃ d18_7o : Nat, v = (.pointer (some ⟨d18_7g, d18_7o, none⟩)) ∧ EL encF_f32 q5_0v (m4.1).length 2 d18_7g d18_7o }, { V := fun _ v _ => ∃ d18_7r0 : Nat, v = (.float .f32 d18_7r0) ∧ cn .f32 d18_7r0 = m23 }, { V := fun _ v _ => v = q5_0v }, { V := fun _ v _ => ∃ d18_10g : Nat, ∃ d18_10o : Nat, v = (.pointer (some ⟨d18_10g, d18_10o, none⟩)) ∧ EL encF_f32 q5_0v (m4.1).length 3 d18_10g d18_10o }, { V := fun _ v _ => ∃ d18_10r0 : Nat, v = (.float .f32 d18_10r0) ∧ cn .f32 d18_10r0 = m24 }, { V := fun _ v _ => v = q5_0v }, { V := fun _ v _ => ∃ d18_13g : Nat, ∃ d18_13o : Nat, v = (.pointer (some ⟨d18_13g, d18_13o, none⟩)) ∧ EL encF_f32 q5_0v (m4.1).length 4 d18_13g d18_13o }, { V := fun _ v _ => ∃ d18_13r0 : Nat, v = (.float .f32 d18_13r0) ∧ cn .f32 d18_13r0 = m25 }, { V := fun _ v _ => ∃ d18_1r0 : Nat, ∃ d18_4r0 : Nat, ∃ d18_7r0 : Nat, ∃ d18_10r0 : Nat, ∃ d18_13r0 : Nat, v = (.agg #[.float .f32 d18_1r0, .float .f32 d18_4r0, .float .f32 d18_7r0, .float .f32 d18_10r0, .float .f32 d18_13r0]) ∧ cn .f32 d18_1r0 = m21 ∧ cn .f32 d18_4r0 = m22 ∧ cn .f32 d18_7r0 = m23 ∧ cn .f32 d18_10r0 = m24 ∧ cn .f32 d18_13r0 = m25 }, { V := fun _ v w' => ∃ d18_16b : Nat, ∃ d18_16c : Array Value, v = (.pointer (some ⟨d18_16b, 0, none⟩)) ∧ w9.heap.size ≤ d18_16b ∧ w'.heap[d18_16b]? = some (.cells d18_16c 30 (0, 0)) ∧ d18_16c.size = 5 }, ⟨fun sg _ w' => ∃ d18_16b : Nat, ∃ d18_1r0 : Nat, ∃ d18_4r0 : Nat, ∃ d18_7r0 : Nat, ∃ d18_10r0 : Nat, ∃ d18_13r0 : Nat, sg 6 = .pointer (some ⟨d18_16b, 0, none⟩) ∧ w'.heap[d18_16b]? = some (.cells #[.float .f32 d18_1r0, .float .f32 d18_4r0, .float .f32 d18_7r0, .float .f32 d18_10r0, .float .f32 d18_13r0] 30 (0, 0)) ∧ cn .f32 d18_1r0 = m21 ∧ cn .f32 d18_4r0 = m22 ∧ cn .f32 d18_7r0 = m23 ∧ cn .f32 d18_10r0 = m24 ∧ cn .f32 d18_13r0 = m25, some 0, fun _ => True⟩] mixed (by kernel_rfl) ⟨trivial, trivial, trivial, trivial, trivial, trivial, trivial, trivial, trivial, trivial, trivial, trivial, trivial, trivial, trivial, trivial, trivial, trivial, trivial⟩ ⟨?_, ?_, ?_, ?_, ?_, ?_, ?_, ?_, ?_, ?_, ?_, ?_, ?_, ?_, ?_, ?_, ?_, ?_, trivial⟩ ?_
      · skip
        refine ⟨fun _ _ _ _ _ _ h _ => h, fun _ _ h _ => h, fun σ' w' hA hE hD hP => ?_⟩
        have t4 : σ' 4 = q5_0v := (hA 4 rfl).trans s4_9
        have B0_26 : OS w' 22 encF_f32 q5_0v m4.1 := B20.frm hE (fun k hk => (not_oth1 ((not_newT_row B20) k hk)))
        refine dg_op rfl (d_mv (v := q5_0v) t4 ?_)
        exact ⟨rfl, own_none (Ext.refl w')⟩
      · skip
        refine ⟨fun _ _ _ _ _ _ h _ => h, fun _ _ h _ => h, fun σ' w' hA hE hD hP => ?_⟩
        have t20 : σ' 20 = q5_0v := hD 0 rfl
        have B0_27 : OS w' 22 encF_f32 q5_0v m4.1 := B20.frm hE (fun k hk => (not_oth1 ((not_newT_row B20) k hk)))
        refine dg_op rfl (d_indexE (e := encF_f32) (v := q5_0v) un53 size22 t20 rfl B0_27.rs hm21 fun g28 o28 l28 => ?_)
        exact ⟨⟨g28, o28, rfl, l28⟩, own_none (Ext.refl _)⟩
      · skip
        refine ⟨fun _ _ _ _ _ _ h _ => h, fun _ _ h _ => h, fun σ' w' hA hE hD hP => ?_⟩
        obtain ⟨d18_1g, d18_1o, t21, d18_1gE⟩ : ∃ d18_1g : Nat, ∃ d18_1o : Nat, σ' 21 = (.pointer (some ⟨d18_1g, d18_1o, none⟩)) ∧ EL encF_f32 q5_0v (m4.1).length 0 d18_1g d18_1o := hD 1 rfl
        have B0_29 : OS w' 22 encF_f32 q5_0v m4.1 := B20.frm hE (fun k hk => (not_oth1 ((not_newT_row B20) k hk)))
        obtain ⟨d18_1c, d18_1T, d18_1f, d18_1vs, d18_1hg, d18_1P, d18_1hq⟩ := RS.el B0_29.rs d18_1gE hm21
        obtain ⟨d18_1r0, rfl, d18_1h0⟩ := dec_encF_f32 d18_1hq
        refine dg_op rfl (d_load (v := .float .f32 d18_1r0) t21 agg22 d18_1hg (sub_get (vs := #[.float .f32 d18_1r0]) d18_1P (i := 0) rfl) ?_)
        exact ⟨⟨d18_1r0, rfl, d18_1h0⟩, own_none (Ext.refl w')⟩
      · skip
        refine ⟨fun _ _ _ _ _ _ h _ => h, fun _ _ h _ => h, fun σ' w' hA hE hD hP => ?_⟩
        have t4 : σ' 4 = q5_0v := (hA 4 rfl).trans s4_9
        have B0_30 : OS w' 22 encF_f32 q5_0v m4.1 := B20.frm hE (fun k hk => (not_oth1 ((not_newT_row B20) k hk)))
        refine dg_op rfl (d_mv (v := q5_0v) t4 ?_)
        exact ⟨rfl, own_none (Ext.refl w')⟩
      · skip
        refine ⟨fun _ _ _ _ _ _ h _ => h, fun _ _ h _ => h, fun σ' w' hA hE hD hP => ?_⟩
        have t23 : σ' 23 = q5_0v := hD 3 rfl
        have B0_31 : OS w' 22 encF_f32 q5_0v m4.1 := B20.frm hE (fun k hk => (not_oth1 ((not_newT_row B20) k hk)))
        refine dg_op rfl (d_indexE (e := encF_f32) (v := q5_0v) un53 size22 t23 rfl B0_31.rs hm22 fun g32 o32 l32 => ?_)
        exact ⟨⟨g32, o32, rfl, l32⟩, own_none (Ext.refl _)⟩
      · skip
        refine ⟨fun _ _ _ _ _ _ h _ => h, fun _ _ h _ => h, fun σ' w' hA hE hD hP => ?_⟩
        obtain ⟨d18_4g, d18_4o, t24, d18_4gE⟩ : ∃ d18_4g : Nat, ∃ d18_4o : Nat, σ' 24 = (.pointer (some ⟨d18_4g, d18_4o, none⟩)) ∧ EL encF_f32 q5_0v (m4.1).length 1 d18_4g d18_4o := hD 4 rfl
        have B0_33 : OS w' 22 encF_f32 q5_0v m4.1 := B20.frm hE (fun k hk => (not_oth1 ((not_newT_row B20) k hk)))
        obtain ⟨d18_4c, d18_4T, d18_4f, d18_4vs, d18_4hg, d18_4P, d18_4hq⟩ := RS.el B0_33.rs d18_4gE hm22
        obtain ⟨d18_4r0, rfl, d18_4h0⟩ := dec_encF_f32 d18_4hq
        refine dg_op rfl (d_load (v := .float .f32 d18_4r0) t24 agg22 d18_4hg (sub_get (vs := #[.float .f32 d18_4r0]) d18_4P (i := 0) rfl) ?_)
        exact ⟨⟨d18_4r0, rfl, d18_4h0⟩, own_none (Ext.refl w')⟩
      · skip
        refine ⟨fun _ _ _ _ _ _ h _ => h, fun _ _ h _ => h, fun σ' w' hA hE hD hP => ?_⟩
        have t4 : σ' 4 = q5_0v := (hA 4 rfl).trans s4_9
        have B0_34 : OS w' 22 encF_f32 q5_0v m4.1 := B20.frm hE (fun k hk => (not_oth1 ((not_newT_row B20) k hk)))
        refine dg_op rfl (d_mv (v := q5_0v) t4 ?_)
        exact ⟨rfl, own_none (Ext.refl w')⟩
      · skip
        refine ⟨fun _ _ _ _ _ _ h _ => h, fun _ _ h _ => h, fun σ' w' hA hE hD hP => ?_⟩
        have t26 : σ' 26 = q5_0v := hD 6 rfl
        have B0_35 : OS w' 22 encF_f32 q5_0v m4.1 := B20.frm hE (fun k hk => (not_oth1 ((not_newT_row B20) k hk)))
        refine dg_op rfl (d_indexE (e := encF_f32) (v := q5_0v) un53 size22 t26 rfl B0_35.rs hm23 fun g36 o36 l36 => ?_)
        exact ⟨⟨g36, o36, rfl, l36⟩, own_none (Ext.refl _)⟩
      · skip
        refine ⟨fun _ _ _ _ _ _ h _ => h, fun _ _ h _ => h, fun σ' w' hA hE hD hP => ?_⟩
        obtain ⟨d18_7g, d18_7o, t27, d18_7gE⟩ : ∃ d18_7g : Nat, ∃ d18_7o : Nat, σ' 27 = (.pointer (some ⟨d18_7g, d18_7o, none⟩)) ∧ EL encF_f32 q5_0v (m4.1).length 2 d18_7g d18_7o := hD 7 rfl
        have B0_37 : OS w' 22 encF_f32 q5_0v m4.1 := B20.frm hE (fun k hk => (not_oth1 ((not_newT_row B20) k hk)))
        obtain ⟨d18_7c, d18_7T, d18_7f, d18_7vs, d18_7hg, d18_7P, d18_7hq⟩ := RS.el B0_37.rs d18_7gE hm23
        obtain ⟨d18_7r0, rfl, d18_7h0⟩ := dec_encF_f32 d18_7hq
        refine dg_op rfl (d_load (v := .float .f32 d18_7r0) t27 agg22 d18_7hg (sub_get (vs := #[.float .f32 d18_7r0]) d18_7P (i := 0) rfl) ?_)
        exact ⟨⟨d18_7r0, rfl, d18_7h0⟩, own_none (Ext.refl w')⟩
      · skip
        refine ⟨fun _ _ _ _ _ _ h _ => h, fun _ _ h _ => h, fun σ' w' hA hE hD hP => ?_⟩
        have t4 : σ' 4 = q5_0v := (hA 4 rfl).trans s4_9
        have B0_38 : OS w' 22 encF_f32 q5_0v m4.1 := B20.frm hE (fun k hk => (not_oth1 ((not_newT_row B20) k hk)))
        refine dg_op rfl (d_mv (v := q5_0v) t4 ?_)
        exact ⟨rfl, own_none (Ext.refl w')⟩
      · skip
        refine ⟨fun _ _ _ _ _ _ h _ => h, fun _ _ h _ => h, fun σ' w' hA hE hD hP => ?_⟩
        have t29 : σ' 29 = q5_0v := hD 9 rfl
        have B0_39 : OS w' 22 encF_f32 q5_0v m4.1 := B20.frm hE (fun k hk => (not_oth1 ((not_newT_row B20) k hk)))
        refine dg_op rfl (d_indexE (e := encF_f32) (v := q5_0v) un53 size22 t29 rfl B0_39.rs hm24 fun g40 o40 l40 => ?_)
        exact ⟨⟨g40, o40, rfl, l40⟩, own_none (Ext.refl _)⟩
      · skip
        refine ⟨fun _ _ _ _ _ _ h _ => h, fun _ _ h _ => h, fun σ' w' hA hE hD hP => ?_⟩
        obtain ⟨d18_10g, d18_10o, t30, d18_10gE⟩ : ∃ d18_10g : Nat, ∃ d18_10o : Nat, σ' 30 = (.pointer (some ⟨d18_10g, d18_10o, none⟩)) ∧ EL encF_f32 q5_0v (m4.1).length 3 d18_10g d18_10o := hD 10 rfl
        have B0_41 : OS w' 22 encF_f32 q5_0v m4.1 := B20.frm hE (fun k hk => (not_oth1 ((not_newT_row B20) k hk)))
        obtain ⟨d18_10c, d18_10T, d18_10f, d18_10vs, d18_10hg, d18_10P, d18_10hq⟩ := RS.el B0_41.rs d18_10gE hm24
        obtain ⟨d18_10r0, rfl, d18_10h0⟩ := dec_encF_f32 d18_10hq
        refine dg_op rfl (d_load (v := .float .f32 d18_10r0) t30 agg22 d18_10hg (sub_get (vs := #[.float .f32 d18_10r0]) d18_10P (i := 0) rfl) ?_)
        exact ⟨⟨d18_10r0, rfl, d18_10h0⟩, own_none (Ext.refl w')⟩
      · skip
        refine ⟨fun _ _ _ _ _ _ h _ => h, fun _ _ h _ => h, fun σ' w' hA hE hD hP => ?_⟩
        have t4 : σ' 4 = q5_0v := (hA 4 rfl).trans s4_9
        have B0_42 : OS w' 22 encF_f32 q5_0v m4.1 := B20.frm hE (fun k hk => (not_oth1 ((not_newT_row B20) k hk)))
        refine dg_op rfl (d_mv (v := q5_0v) t4 ?_)
        exact ⟨rfl, own_none (Ext.refl w')⟩
      · skip
        refine ⟨fun _ _ _ _ _ _ h _ => h, fun _ _ h _ => h, fun σ' w' hA hE hD hP => ?_⟩
        have t32 : σ' 32 = q5_0v := hD 12 rfl
        have B0_43 : OS w' 22 encF_f32 q5_0v m4.1 := B20.frm hE (fun k hk => (not_oth1 ((not_newT_row B20) k hk)))
        refine dg_op rfl (d_indexE (e := encF_f32) (v := q5_0v) un53 size22 t32 rfl B0_43.rs hm25 fun g44 o44 l44 => ?_)
        exact ⟨⟨g44, o44, rfl, l44⟩, own_none (Ext.refl _)⟩
      · skip
        refine ⟨fun _ _ _ _ _ _ h _ => h, fun _ _ h _ => h, fun σ' w' hA hE hD hP => ?_⟩
        obtain ⟨d18_13g, d18_13o, t33, d18_13gE⟩ : ∃ d18_13g : Nat, ∃ d18_13o : Nat, σ' 33 = (.pointer (some ⟨d18_13g, d18_13o, none⟩)) ∧ EL encF_f32 q5_0v (m4.1).length 4 d18_13g d18_13o := hD 13 rfl
        have B0_45 : OS w' 22 encF_f32 q5_0v m4.1 := B20.frm hE (fun k hk => (not_oth1 ((not_newT_row B20) k hk)))
        obtain ⟨d18_13c, d18_13T, d18_13f, d18_13vs, d18_13hg, d18_13P, d18_13hq⟩ := RS.el B0_45.rs d18_13gE hm25
        obtain ⟨d18_13r0, rfl, d18_13h0⟩ := dec_encF_f32 d18_13hq
        refine dg_op rfl (d_load (v := .float .f32 d18_13r0) t33 agg22 d18_13hg (sub_get (vs := #[.float .f32 d18_13r0]) d18_13P (i := 0) rfl) ?_)
        exact ⟨⟨d18_13r0, rfl, d18_13h0⟩, own_none (Ext.refl w')⟩
      · skip
        refine ⟨fun _ _ _ _ _ _ h _ => h, fun _ _ h _ => h, fun σ' w' hA hE hD hP => ?_⟩
        obtain ⟨d18_1r0, t22, d18_1h0⟩ : ∃ d18_1r0 : Nat, σ' 22 = (.float .f32 d18_1r0) ∧ cn .f32 d18_1r0 = m21 := hD 2 rfl
        obtain ⟨d18_4r0, t25, d18_4h0⟩ : ∃ d18_4r0 : Nat, σ' 25 = (.float .f32 d18_4r0) ∧ cn .f32 d18_4r0 = m22 := hD 5 rfl
        obtain ⟨d18_7r0, t28, d18_7h0⟩ : ∃ d18_7r0 : Nat, σ' 28 = (.float .f32 d18_7r0) ∧ cn .f32 d18_7r0 = m23 := hD 8 rfl
        obtain ⟨d18_10r0, t31, d18_10h0⟩ : ∃ d18_10r0 : Nat, σ' 31 = (.float .f32 d18_10r0) ∧ cn .f32 d18_10r0 = m24 := hD 11 rfl
        obtain ⟨d18_13r0, t34, d18_13h0⟩ : ∃ d18_13r0 : Nat, σ' 34 = (.float .f32 d18_13r0) ∧ cn .f32 d18_13r0 = m25 := hD 14 rfl
        refine dg_op rfl (d_bd (vs := [(0, .float .f32 d18_1r0), (1, .float .f32 d18_4r0), (2, .float .f32 d18_7r0), (3, .float .f32 d18_10r0), (4, .float .f32 d18_13r0)]) (cs := #[.float .f32 d18_1r0, .float .f32 d18_4r0, .float .f32 d18_7r0, .float .f32 d18_10r0, .float .f32 d18_13r0]) (pc t22 (pc t25 (pc t28 (pc t31 (pc t34 rfl))))) (by kernel_rfl) ?_)
        exact ⟨⟨d18_1r0, d18_4r0, d18_7r0, d18_10r0, d18_13r0, rfl, d18_1h0, d18_4h0, d18_7h0, d18_10h0, d18_13h0⟩, own_none (Ext.refl w')⟩
      · skip
        refine ⟨fun _ _ _ w' w'' _ ⟨d18_16b, d18_16c, hv, d18_16ble, d18_16bB, d18_16bZ⟩ hF => let ⟨c2, hB2, hZ2⟩ := hF.shape _ _ _ _ d18_16bB; ⟨d18_16b, c2, hv, d18_16ble, hB2, (hZ2.trans d18_16bZ)⟩, fun _ _ h _ => h, fun σ' w' hA hE hD hP => ?_⟩
        refine dg_op rfl (d_alloc (cs := #[.float .f32 0, .float .f32 0, .float .f32 0, .float .f32 0, .float .f32 0]) zero30 rfl fun w46 B46 E46 => ?_)
        have X48 : Ext w' w46 := (Ext.refl w').trans E46
        exact ⟨⟨w'.heap.size, #[.float .f32 0, .float .f32 0, .float .f32 0, .float .f32 0, .float .f32 0], rfl, hE.size, B46, rfl⟩, own_none X48⟩
      · skip
        refine ⟨fun _ _ _ w' w'' hs ⟨d18_16b, d18_1r0, d18_4r0, d18_7r0, d18_10r0, d18_13r0, hb, hB, d18_1h0, d18_4h0, d18_7h0, d18_10h0, d18_13h0⟩ hF => ⟨d18_16b, d18_1r0, d18_4r0, d18_7r0, d18_10r0, d18_13r0, (hs 16 rfl).trans hb, hF.heap not_oth1s hB, d18_1h0, d18_4h0, d18_7h0, d18_10h0, d18_13h0⟩, fun _ _ h _ => h, fun σ' w' hA hE hD hP => ?_⟩
        obtain ⟨d18_16b, d18_16c, t6, d18_16ble, d18_16bB, d18_16bZ⟩ : ∃ d18_16b : Nat, ∃ d18_16c : Array Value, σ' 6 = (.pointer (some ⟨d18_16b, 0, none⟩)) ∧ w9.heap.size ≤ d18_16b ∧ w'.heap[d18_16b]? = some (.cells d18_16c 30 (0, 0)) ∧ d18_16c.size = 5 := hD 16 rfl
        obtain ⟨d18_1r0, d18_4r0, d18_7r0, d18_10r0, d18_13r0, t35, d18_1h0, d18_4h0, d18_7h0, d18_10h0, d18_13h0⟩ : ∃ d18_1r0 : Nat, ∃ d18_4r0 : Nat, ∃ d18_7r0 : Nat, ∃ d18_10r0 : Nat, ∃ d18_13r0 : Nat, σ' 35 = (.agg #[.float .f32 d18_1r0, .float .f32 d18_4r0, .float .f32 d18_7r0, .float .f32 d18_10r0, .float .f32 d18_13r0]) ∧ cn .f32 d18_1r0 = m21 ∧ cn .f32 d18_4r0 = m22 ∧ cn .f32 d18_7r0 = m23 ∧ cn .f32 d18_10r0 = m24 ∧ cn .f32 d18_13r0 = m25 := hD 15 rfl
        refine dg_op rfl (d_store_new (vs := #[.float .f32 d18_1r0, .float .f32 d18_4r0, .float .f32 d18_7r0, .float .f32 d18_10r0, .float .f32 d18_13r0]) t6 (congrArg Value.cells t35) d18_16bB d18_16bZ size30 rfl rfl fun w49 S49 => ?_)
        exact ⟨⟨d18_16b, d18_1r0, d18_4r0, d18_7r0, d18_10r0, d18_13r0, t6, S49.here, d18_1h0, d18_4h0, d18_7h0, d18_10h0, d18_13h0⟩, own_some (j := 0) rfl (S49.frm.mono (fun k t h => ⟨h.1 ▸ d18_16ble, h.2⟩))⟩
      · skip
        intro σ18 w18 A18 E18 V18
        obtain ⟨z18_6_16b, z18_6_16c, s6_18, z18_6_16ble, z18_6_16bB, z18_6_16bZ⟩ : ∃ z18_6_16b : Nat, ∃ z18_6_16c : Array Value, σ18 6 = (.pointer (some ⟨z18_6_16b, 0, none⟩)) ∧ w9.heap.size ≤ z18_6_16b ∧ w18.heap[z18_6_16b]? = some (.cells z18_6_16c 30 (0, 0)) ∧ z18_6_16c.size = 5 := V18 16 (Nat.le_of_ble_eq_true rfl)
        obtain ⟨z18_m0_16b, z18_m0_1r0, z18_m0_4r0, z18_m0_7r0, z18_m0_10r0, z18_m0_13r0, hbn18, hBn18, z18_m0_1h0, z18_m0_4h0, z18_m0_7h0, z18_m0_10h0, z18_m0_13h0⟩ : ∃ z18_m0_16b : Nat, ∃ z18_m0_1r0 : Nat, ∃ z18_m0_4r0 : Nat, ∃ z18_m0_7r0 : Nat, ∃ z18_m0_10r0 : Nat, ∃ z18_m0_13r0 : Nat, σ18 6 = .pointer (some ⟨z18_m0_16b, 0, none⟩) ∧ w18.heap[z18_m0_16b]? = some (.cells #[.float .f32 z18_m0_1r0, .float .f32 z18_m0_4r0, .float .f32 z18_m0_7r0, .float .f32 z18_m0_10r0, .float .f32 z18_m0_13r0] 30 (0, 0)) ∧ cn .f32 z18_m0_1r0 = m21 ∧ cn .f32 z18_m0_4r0 = m22 ∧ cn .f32 z18_m0_7r0 = m23 ∧ cn .f32 z18_m0_10r0 = m24 ∧ cn .f32 z18_m0_13r0 = m25 := V18 17 (Nat.le_of_ble_eq_true rfl)
        have hen18 : z18_m0_16b = z18_6_16b := by have := hbn18.symm.trans s6_18; simp only [Value.pointer.injEq, Option.some.injEq, Addr.mk.injEq] at this; exact this.1
        rw [hen18] at hBn18
        have own50 : w.heap.size ≤ z18_6_16b := Nat.le_trans X12.size z18_6_16ble
        have sp51 : w.heap.size ≠ z18_6_16b := Nat.ne_of_lt (Nat.lt_of_lt_of_le (lt_heap B19) z18_6_16ble)
        have sp52 : ¬ q5_0v.ownBlock = some z18_6_16b := OS.ne_new B20 z18_6_16ble
        have s2_18 : σ18 2 = .pointer (some ⟨w.heap.size, 0, none⟩) := (A18 2 rfl).trans s2_9
        have X53 : Ext w w18 := Ext.step X12 E18 (oth_own1 (fun k _ hk => Nat.le_trans X12.size hk.1))
        refine W_seq ?_
        refine W_seq ?_
        refine W_region rfl ?_
        obtain ⟨m54, hm54, hr⟩ := letv_out hr
        have B55 : w18.heap[w.heap.size]? = some (.cells #[.float .f32 0, .float .f32 0, .float .f32 0, .float .f32 0, .float .f32 0] 30 (0, 0)) := E18.heap (not_oth1 (not_newT_box B19)) B19
        refine da_op rfl (d_cl (vs := [.pointer (some ⟨z18_6_16b, 0, none⟩)]) en109 (ac s6_18 rfl) rfl ?_)
        refine (c109 (⟨m21, m22, m23, m24, m25⟩ : SPendulum) z18_6_16b 0 #[.float .f32 z18_m0_1r0, .float .f32 z18_m0_4r0, .float .f32 z18_m0_7r0, .float .f32 z18_m0_10r0, .float .f32 z18_m0_13r0] 30 (0, 0) z18_m0_1r0 z18_m0_4r0 z18_m0_7r0 z18_m0_10r0 z18_m0_13r0 m54 w18 hm54 z18_m0_1h0 z18_m0_4h0 z18_m0_7h0 z18_m0_10h0 z18_m0_13h0 hBn18 rfl).mono ?_
        rintro _ w56 ⟨rfl, E56⟩
        refine ⟨_, rfl, ?_⟩
        have X57 : Ext w w56 := X53.trans E56
        refine da_op rfl (d_not rfl ?_)
        refine da_nil ?_
        refine W_cond (b := (!m54)) rfl (fun hc58 => ?_) (fun hc58 => ?_)
        · skip
          replace hr := bif_t hr hc58
          refine W_seq ?_
          refine W_region rfl ?_
          refine da_op rfl (d_bd (vs := []) (cs := #[.float .f32 0, .float .f32 0, .float .f32 0, .float .f32 0, .float .f32 0]) rfl (by kernel_rfl) ?_)
          have B59 : w56.heap[w.heap.size]? = some (.cells #[.float .f32 0, .float .f32 0, .float .f32 0, .float .f32 0, .float .f32 0] 30 (0, 0)) := E56.heap B55
          refine da_op rfl (d_store (vs := #[.float .f32 0, .float .f32 0, .float .f32 0, .float .f32 0, .float .f32 0]) s2_18 rfl B59 size30 (Nat.le_of_ble_eq_true rfl) rfl fun w60 S60 => ?_)
          have X61 : Ext w w60 := Ext.step X57 S60.frmb (fun k _ hk => hk ▸ own2)
          have B62 : w60.heap[w.heap.size]? = some (.cells #[.float .f32 0, .float .f32 0, .float .f32 0, .float .f32 0, .float .f32 0] 30 (0, 0)) := S60.here
          refine da_op rfl (d_as (v := .bool false) rfl ?_)
          refine da_nil ?_
          refine W_ret ?_
          obtain rfl := Option.some.inj hr
          refine ⟨_, res2 (rv_cells (vs := #[.float .f32 0, .float .f32 0, .float .f32 0, .float .f32 0, .float .f32 0]) s2_18 agg30 size30 B62 rfl) (rv_tmp rfl), ?_⟩
          exact ⟨0, 0, 0, 0, 0, rfl, cn_f32_0, cn_f32_0, cn_f32_0, cn_f32_0, cn_f32_0, X61⟩
        · skip
          replace hr := bif_f hr hc58
          refine W_skip ?_
          refine W_seq ?_
          refine W_region rfl ?_
          have B63 : w56.heap[z18_6_16b]? = some (.cells #[.float .f32 z18_m0_1r0, .float .f32 z18_m0_4r0, .float .f32 z18_m0_7r0, .float .f32 z18_m0_10r0, .float .f32 z18_m0_13r0] 30 (0, 0)) := E56.heap hBn18
          refine da_op rfl (d_loads (vs := #[.float .f32 z18_m0_1r0, .float .f32 z18_m0_4r0, .float .f32 z18_m0_7r0, .float .f32 z18_m0_10r0, .float .f32 z18_m0_13r0]) s6_18 agg30 size30 B63 rfl ?_)
          have B64 : w56.heap[w.heap.size]? = some (.cells #[.float .f32 0, .float .f32 0, .float .f32 0, .float .f32 0, .float .f32 0] 30 (0, 0)) := E56.heap B55
          refine da_op rfl (d_store (vs := #[.float .f32 z18_m0_1r0, .float .f32 z18_m0_4r0, .float .f32 z18_m0_7r0, .float .f32 z18_m0_10r0, .float .f32 z18_m0_13r0]) s2_18 rfl B64 size30 (Nat.le_of_ble_eq_true rfl) rfl fun w65 S65 => ?_)
          have X66 : Ext w w65 := Ext.step X57 S65.frmb (fun k _ hk => hk ▸ own2)
          have B67 : w65.heap[w.heap.size]? = some (.cells #[.float .f32 z18_m0_1r0, .float .f32 z18_m0_4r0, .float .f32 z18_m0_7r0, .float .f32 z18_m0_10r0, .float .f32 z18_m0_13r0] 30 (0, 0)) := S65.here
          refine da_op rfl (d_as (v := .bool true) rfl ?_)
          refine da_nil ?_
          refine W_ret ?_
          obtain rfl := Option.some.inj hr
          refine ⟨_, res2 (rv_cells (vs := #[.float .f32 z18_m0_1r0, .float .f32 z18_m0_4r0, .float .f32 z18_m0_7r0, .float .f32 z18_m0_10r0, .float .f32 z18_m0_13r0]) s2_18 agg30 size30 B67 rfl) (rv_tmp rfl), ?_⟩
          exact ⟨z18_m0_1r0, z18_m0_4r0, z18_m0_7r0, z18_m0_10r0, z18_m0_13r0, rfl, z18_m0_1h0, z18_m0_4h0, z18_m0_7h0, z18_m0_10h0, z18_m0_13h0, X66⟩
set_option maxHeartbeats 4000000 in
theorem c14 (p0 : List UInt8) (r : SPendulum × Bool) (w : World) (hr : M.spec_ReadPendulum p0 = some r)  :
    Calls Tryd.prog 14 #[.string (bs p0)] w fun e w' => ∃ q0r0 : Nat, ∃ q0r1 : Nat, ∃ q0r2 : Nat, ∃ q0r3 : Nat, ∃ q0r4 : Nat, e = .returned (.tuple #[.agg #[.float .f32 q0r0, .float .f32 q0r1, .float .f32 q0r2, .float .f32 q0r3, .float .f32 q0r4], .bool r.2]) ∧ cn .f32 q0r0 = r.1.long ∧ cn .f32 q0r1 = r.1.pull ∧ cn .f32 q0r2 = r.1.drag ∧ cn .f32 q0r3 = r.1.drive ∧ cn .f32 q0r4 = r.1.rate ∧ Ext w w' := by
  refine calls_of_W Tryd.func14 rfl (Nat.le_of_ble_eq_true rfl) ?_
  refine W_seq ?_
  refine W_region rfl ?_
  refine da_op rfl (d_alloc (cs := #[.float .f32 0, .float .f32 0, .float .f32 0, .float .f32 0, .float .f32 0]) zero30 rfl fun w1 B1 E1 => ?_)
  have own2 : w.heap.size ≤ w.heap.size := Nat.le_trans (Ext.refl w).size (Nat.le_refl _)
  have X3 : Ext w w1 := (Ext.refl w).trans E1
  refine da_op rfl (d_as (v := .bool false) rfl ?_)
  refine da_nil ?_
  refine W_seq ?_
  refine W_region rfl ?_
  refine da_op rfl (d_mv (v := .string (bs p0)) rfl ?_)
  obtain ⟨m4, hm4, hr⟩ := bind_out hr
  refine da_op rfl (d_cl (vs := [.string (bs p0)]) en52 (ac rfl rfl) rfl ?_)
  refine (c52 p0 m4 w1 hm4 ).mono ?_
  rintro _ w5 ⟨q5_0r0, q5_0r1, q5_0r2, q5_0r3, q5_0r4, rfl, q5_0h0, q5_0h1, q5_0h2, q5_0h3, q5_0h4, E5⟩
  refine ⟨_, rfl, ?_⟩
  have X6 : Ext w w5 := X3.trans E5
  refine da_op rfl (d_extract (v := .agg #[.float .f32 q5_0r0, .float .f32 q5_0r1, .float .f32 q5_0r2, .float .f32 q5_0r3, .float .f32 q5_0r4]) rfl rfl ?_)
  refine da_op rfl (d_extract (v := .bool m4.2) rfl rfl ?_)
  have B7 : w5.heap[w.heap.size]? = some (.cells #[.float .f32 0, .float .f32 0, .float .f32 0, .float .f32 0, .float .f32 0] 30 (0, 0)) := E5.heap B1
  refine da_op rfl (d_store (vs := #[.float .f32 q5_0r0, .float .f32 q5_0r1, .float .f32 q5_0r2, .float .f32 q5_0r3, .float .f32 q5_0r4]) rfl rfl B7 size30 (Nat.le_of_ble_eq_true rfl) rfl fun w8 S8 => ?_)
  have X9 : Ext w w8 := Ext.step X6 S8.frmb (fun k _ hk => hk ▸ own2)
  have B10 : w8.heap[w.heap.size]? = some (.cells #[.float .f32 q5_0r0, .float .f32 q5_0r1, .float .f32 q5_0r2, .float .f32 q5_0r3, .float .f32 q5_0r4] 30 (0, 0)) := S8.here
  refine da_op rfl (d_as (v := .bool m4.2) rfl ?_)
  refine da_nil ?_
  refine W_ret ?_
  obtain rfl := Option.some.inj hr
  refine ⟨_, res2 (rv_cells (vs := #[.float .f32 q5_0r0, .float .f32 q5_0r1, .float .f32 q5_0r2, .float .f32 q5_0r3, .float .f32 q5_0r4]) rfl agg30 size30 B10 rfl) (rv_tmp rfl), ?_⟩
  exact ⟨q5_0r0, q5_0r1, q5_0r2, q5_0r3, q5_0r4, rfl, q5_0h0, q5_0h1, q5_0h2, q5_0h3, q5_0h4, X9⟩
set_option maxHeartbeats 4000000 in
theorem c110 (p0 : SPendulum) (p0b p0o : Nat) (p0c : Array Value) (p0T : TypeId) (p0f : Nat × Nat) (p0r0 : Nat) (p0r1 : Nat) (p0r2 : Nat) (p0r3 : Nat) (p0r4 : Nat) (r : List Nat) (w : World) (hr : M.impl_Pendulum_numbers p0 = r) (p0h0 : cn .f32 p0r0 = p0.long) (p0h1 : cn .f32 p0r1 = p0.pull) (p0h2 : cn .f32 p0r2 = p0.drag) (p0h3 : cn .f32 p0r3 = p0.drive) (p0h4 : cn .f32 p0r4 = p0.rate) (p0B : w.heap[p0b]? = some (.cells p0c p0T p0f)) (p0P : (p0c.toList.drop p0o).take 5 = [.float .f32 p0r0, .float .f32 p0r1, .float .f32 p0r2, .float .f32 p0r3, .float .f32 p0r4]) :
    Calls Tryd.prog 110 #[.pointer (some ⟨p0b, p0o, none⟩)] w fun e w' => ∃ q0v : Value, e = .returned (q0v) ∧ OS w' 22 encF_f32 q0v r ∧ (∀ k, q0v.ownBlock = some k → w.heap.size ≤ k) ∧ Ext w w' := by
  refine calls_of_W Tryd.func110 rfl (Nat.le_of_ble_eq_true rfl) ?_
  refine W_seq ?_
  refine W_region rfl ?_
  refine da_op rfl (d_as (v := .slice none 0 0) rfl ?_)
  refine da_nil ?_
  refine W_seq ?_
  refine W_any [] [{ V := fun _ v _ => v = (.pointer (some ⟨p0b, p0o, none⟩)) }, { V := fun _ v _ => v = (.pointer (some ⟨p0b, p0o, none⟩)) }, { V := fun _ v _ => v = (.pointer (some ⟨p0b, p0o, none⟩)) }, { V := fun _ v _ => v = (.float .f32 p0r0) }, { V := fun _ v _ => v = (.pointer (some ⟨p0b, p0o, none⟩)) }, { V := fun _ v _ => v = (.pointer (some ⟨p0b, p0o, none⟩)) }, { V := fun _ v _ => v = (.pointer (some ⟨p0b, p0o + 1, none⟩)) }, { V := fun _ v _ => v = (.float .f32 p0r1) }, { V := fun _ v _ => v = (.pointer (some ⟨p0b, p0o, none⟩)) }, { V := fun _ v _ => v = (.pointer (some ⟨p0b, p0o, none⟩)) }, { V := fun _ v _ => v = (.pointer (some ⟨p0b, p0o + 2, none⟩)) }, { V := fun _ v _ => v = (.float .f32 p0r2) }, { V := fun _ v _ => v = (.pointer (some ⟨p0b, p0o, none⟩)) }, { V := fun _ v _ => v = (.pointer (some ⟨p0b, p0o, none⟩)) }, { V := fun _ v _ => v = (.pointer (some ⟨p0b, p0o + 3, none⟩)) }, { V := fun _ v _ => v = (.float .f32 p0r3) }, { V := fun _ v _ => v = (.pointer (some ⟨p0b, p0o, none⟩)) }, { V := fun _ v _ => v = (.pointer (some ⟨p0b, p0o, none⟩)) }, { V := fun _ v _ => v = (.pointer (some ⟨p0b, p0o + 4, none⟩)) }, { V := fun _ v _ => v = (.float .f32 p0r4) }, { V := fun _ v w' => ∃ d1_20v : Value, v = d1_20v ∧ (∀ k, d1_20v.ownBlock = some k → w.heap.size ≤ k) ∧ OS w' 22 encF_f32 d1_20v ([p0.long, p0.pull, p0.drag, p0.drive, p0.rate]) }, { V := fun _ v w' => ∃ d1_20v : Value, v = d1_20v ∧ (∀ k, d1_20v.ownBlock = some k → w.heap.size ≤ k) ∧ OS w' 22 encF_f32 d1_20v ([p0.long, p0.pull, p0.drag, p0.drive, p0.rate]) }] mixed (by kernel_rfl) ⟨trivial, trivial, trivial, trivial, trivial, trivial, trivial, trivial, trivial, trivial, trivial, trivial, trivial, trivial, trivial, trivial, trivial, trivial, trivial, trivial, trivial, trivial, trivial⟩ ⟨?_, ?_, ?_, ?_, ?_, ?_, ?_, ?_, ?_, ?_, ?_, ?_, ?_, ?_, ?_, ?_, ?_, ?_, ?_, ?_, ?_, ?_, trivial⟩ ?_
  · skip
    refine ⟨fun _ _ _ _ _ _ h _ => h, fun _ _ h _ => h, fun σ' w' hA hE hD hP => ?_⟩
    have t0 : σ' 0 = .pointer (some ⟨p0b, p0o, none⟩) := (hA 0 rfl).trans rfl
    have B0_2 : w'.heap[p0b]? = some (.cells p0c p0T p0f) := hE.heap not_oth0 p0B
    refine dg_op rfl (d_mv (v := .pointer (some ⟨p0b, p0o, none⟩)) t0 ?_)
    exact ⟨rfl, own_none (Ext.refl w')⟩
  · skip
    refine ⟨fun _ _ _ _ _ _ h _ => h, fun _ _ h _ => h, fun σ' w' hA hE hD hP => ?_⟩
    have t3 : σ' 3 = (.pointer (some ⟨p0b, p0o, none⟩)) := hD 0 rfl
    have B0_3 : w'.heap[p0b]? = some (.cells p0c p0T p0f) := hE.heap not_oth0 p0B
    refine dg_op rfl (d_nil t3 ?_)
    exact ⟨rfl, own_none (Ext.refl w')⟩
  · skip
    refine ⟨fun _ _ _ _ _ _ h _ => h, fun _ _ h _ => h, fun σ' w' hA hE hD hP => ?_⟩
    have t4 : σ' 4 = (.pointer (some ⟨p0b, p0o, none⟩)) := hD 1 rfl
    have B0_4 : w'.heap[p0b]? = some (.cells p0c p0T p0f) := hE.heap not_oth0 p0B
    refine dg_op rfl (d_fieldAddr t4 (fa30_0 _ _) ?_)
    exact ⟨rfl, own_none (Ext.refl w')⟩
  · skip
    refine ⟨fun _ _ _ _ _ _ h _ => h, fun _ _ h _ => h, fun σ' w' hA hE hD hP => ?_⟩
    have t5 : σ' 5 = (.pointer (some ⟨p0b, p0o, none⟩)) := hD 2 rfl
    have B0_5 : w'.heap[p0b]? = some (.cells p0c p0T p0f) := hE.heap not_oth0 p0B
    refine dg_op rfl (d_load (v := .float .f32 p0r0) t5 agg22 B0_5 (sub_get (vs := #[.float .f32 p0r0, .float .f32 p0r1, .float .f32 p0r2, .float .f32 p0r3, .float .f32 p0r4]) p0P (i := 0) rfl) ?_)
    exact ⟨rfl, own_none (Ext.refl w')⟩
  · skip
    refine ⟨fun _ _ _ _ _ _ h _ => h, fun _ _ h _ => h, fun σ' w' hA hE hD hP => ?_⟩
    have t0 : σ' 0 = .pointer (some ⟨p0b, p0o, none⟩) := (hA 0 rfl).trans rfl
    have B0_6 : w'.heap[p0b]? = some (.cells p0c p0T p0f) := hE.heap not_oth0 p0B
    refine dg_op rfl (d_mv (v := .pointer (some ⟨p0b, p0o, none⟩)) t0 ?_)
    exact ⟨rfl, own_none (Ext.refl w')⟩
  · skip
    refine ⟨fun _ _ _ _ _ _ h _ => h, fun _ _ h _ => h, fun σ' w' hA hE hD hP => ?_⟩
    have t7 : σ' 7 = (.pointer (some ⟨p0b, p0o, none⟩)) := hD 4 rfl
    have B0_7 : w'.heap[p0b]? = some (.cells p0c p0T p0f) := hE.heap not_oth0 p0B
    refine dg_op rfl (d_nil t7 ?_)
    exact ⟨rfl, own_none (Ext.refl w')⟩
  · skip
    refine ⟨fun _ _ _ _ _ _ h _ => h, fun _ _ h _ => h, fun σ' w' hA hE hD hP => ?_⟩
    have t8 : σ' 8 = (.pointer (some ⟨p0b, p0o, none⟩)) := hD 5 rfl
    have B0_8 : w'.heap[p0b]? = some (.cells p0c p0T p0f) := hE.heap not_oth0 p0B
    refine dg_op rfl (d_fieldAddr t8 (fa30_1 _ _) ?_)
    exact ⟨rfl, own_none (Ext.refl w')⟩
  · skip
    refine ⟨fun _ _ _ _ _ _ h _ => h, fun _ _ h _ => h, fun σ' w' hA hE hD hP => ?_⟩
    have t9 : σ' 9 = (.pointer (some ⟨p0b, p0o + 1, none⟩)) := hD 6 rfl
    have B0_9 : w'.heap[p0b]? = some (.cells p0c p0T p0f) := hE.heap not_oth0 p0B
    refine dg_op rfl (d_load (v := .float .f32 p0r1) t9 agg22 B0_9 (sub_get (vs := #[.float .f32 p0r0, .float .f32 p0r1, .float .f32 p0r2, .float .f32 p0r3, .float .f32 p0r4]) p0P (i := 1) rfl) ?_)
    exact ⟨rfl, own_none (Ext.refl w')⟩
  · skip
    refine ⟨fun _ _ _ _ _ _ h _ => h, fun _ _ h _ => h, fun σ' w' hA hE hD hP => ?_⟩
    have t0 : σ' 0 = .pointer (some ⟨p0b, p0o, none⟩) := (hA 0 rfl).trans rfl
    have B0_10 : w'.heap[p0b]? = some (.cells p0c p0T p0f) := hE.heap not_oth0 p0B
    refine dg_op rfl (d_mv (v := .pointer (some ⟨p0b, p0o, none⟩)) t0 ?_)
    exact ⟨rfl, own_none (Ext.refl w')⟩
  · skip
    refine ⟨fun _ _ _ _ _ _ h _ => h, fun _ _ h _ => h, fun σ' w' hA hE hD hP => ?_⟩
    have t11 : σ' 11 = (.pointer (some ⟨p0b, p0o, none⟩)) := hD 8 rfl
    have B0_11 : w'.heap[p0b]? = some (.cells p0c p0T p0f) := hE.heap not_oth0 p0B
    refine dg_op rfl (d_nil t11 ?_)
    exact ⟨rfl, own_none (Ext.refl w')⟩
  · skip
    refine ⟨fun _ _ _ _ _ _ h _ => h, fun _ _ h _ => h, fun σ' w' hA hE hD hP => ?_⟩
    have t12 : σ' 12 = (.pointer (some ⟨p0b, p0o, none⟩)) := hD 9 rfl
    have B0_12 : w'.heap[p0b]? = some (.cells p0c p0T p0f) := hE.heap not_oth0 p0B
    refine dg_op rfl (d_fieldAddr t12 (fa30_2 _ _) ?_)
    exact ⟨rfl, own_none (Ext.refl w')⟩
  · skip
    refine ⟨fun _ _ _ _ _ _ h _ => h, fun _ _ h _ => h, fun σ' w' hA hE hD hP => ?_⟩
    have t13 : σ' 13 = (.pointer (some ⟨p0b, p0o + 2, none⟩)) := hD 10 rfl
    have B0_13 : w'.heap[p0b]? = some (.cells p0c p0T p0f) := hE.heap not_oth0 p0B
    refine dg_op rfl (d_load (v := .float .f32 p0r2) t13 agg22 B0_13 (sub_get (vs := #[.float .f32 p0r0, .float .f32 p0r1, .float .f32 p0r2, .float .f32 p0r3, .float .f32 p0r4]) p0P (i := 2) rfl) ?_)
    exact ⟨rfl, own_none (Ext.refl w')⟩
  · skip
    refine ⟨fun _ _ _ _ _ _ h _ => h, fun _ _ h _ => h, fun σ' w' hA hE hD hP => ?_⟩
    have t0 : σ' 0 = .pointer (some ⟨p0b, p0o, none⟩) := (hA 0 rfl).trans rfl
    have B0_14 : w'.heap[p0b]? = some (.cells p0c p0T p0f) := hE.heap not_oth0 p0B
    refine dg_op rfl (d_mv (v := .pointer (some ⟨p0b, p0o, none⟩)) t0 ?_)
    exact ⟨rfl, own_none (Ext.refl w')⟩
  · skip
    refine ⟨fun _ _ _ _ _ _ h _ => h, fun _ _ h _ => h, fun σ' w' hA hE hD hP => ?_⟩
    have t15 : σ' 15 = (.pointer (some ⟨p0b, p0o, none⟩)) := hD 12 rfl
    have B0_15 : w'.heap[p0b]? = some (.cells p0c p0T p0f) := hE.heap not_oth0 p0B
    refine dg_op rfl (d_nil t15 ?_)
    exact ⟨rfl, own_none (Ext.refl w')⟩
  · skip
    refine ⟨fun _ _ _ _ _ _ h _ => h, fun _ _ h _ => h, fun σ' w' hA hE hD hP => ?_⟩
    have t16 : σ' 16 = (.pointer (some ⟨p0b, p0o, none⟩)) := hD 13 rfl
    have B0_16 : w'.heap[p0b]? = some (.cells p0c p0T p0f) := hE.heap not_oth0 p0B
    refine dg_op rfl (d_fieldAddr t16 (fa30_3 _ _) ?_)
    exact ⟨rfl, own_none (Ext.refl w')⟩
  · skip
    refine ⟨fun _ _ _ _ _ _ h _ => h, fun _ _ h _ => h, fun σ' w' hA hE hD hP => ?_⟩
    have t17 : σ' 17 = (.pointer (some ⟨p0b, p0o + 3, none⟩)) := hD 14 rfl
    have B0_17 : w'.heap[p0b]? = some (.cells p0c p0T p0f) := hE.heap not_oth0 p0B
    refine dg_op rfl (d_load (v := .float .f32 p0r3) t17 agg22 B0_17 (sub_get (vs := #[.float .f32 p0r0, .float .f32 p0r1, .float .f32 p0r2, .float .f32 p0r3, .float .f32 p0r4]) p0P (i := 3) rfl) ?_)
    exact ⟨rfl, own_none (Ext.refl w')⟩
  · skip
    refine ⟨fun _ _ _ _ _ _ h _ => h, fun _ _ h _ => h, fun σ' w' hA hE hD hP => ?_⟩
    have t0 : σ' 0 = .pointer (some ⟨p0b, p0o, none⟩) := (hA 0 rfl).trans rfl
    have B0_18 : w'.heap[p0b]? = some (.cells p0c p0T p0f) := hE.heap not_oth0 p0B
    refine dg_op rfl (d_mv (v := .pointer (some ⟨p0b, p0o, none⟩)) t0 ?_)
    exact ⟨rfl, own_none (Ext.refl w')⟩
  · skip
    refine ⟨fun _ _ _ _ _ _ h _ => h, fun _ _ h _ => h, fun σ' w' hA hE hD hP => ?_⟩
    have t19 : σ' 19 = (.pointer (some ⟨p0b, p0o, none⟩)) := hD 16 rfl
    have B0_19 : w'.heap[p0b]? = some (.cells p0c p0T p0f) := hE.heap not_oth0 p0B
    refine dg_op rfl (d_nil t19 ?_)
    exact ⟨rfl, own_none (Ext.refl w')⟩
  · skip
    refine ⟨fun _ _ _ _ _ _ h _ => h, fun _ _ h _ => h, fun σ' w' hA hE hD hP => ?_⟩
    have t20 : σ' 20 = (.pointer (some ⟨p0b, p0o, none⟩)) := hD 17 rfl
    have B0_20 : w'.heap[p0b]? = some (.cells p0c p0T p0f) := hE.heap not_oth0 p0B
    refine dg_op rfl (d_fieldAddr t20 (fa30_4 _ _) ?_)
    exact ⟨rfl, own_none (Ext.refl w')⟩
  · skip
    refine ⟨fun _ _ _ _ _ _ h _ => h, fun _ _ h _ => h, fun σ' w' hA hE hD hP => ?_⟩
    have t21 : σ' 21 = (.pointer (some ⟨p0b, p0o + 4, none⟩)) := hD 18 rfl
    have B0_21 : w'.heap[p0b]? = some (.cells p0c p0T p0f) := hE.heap not_oth0 p0B
    refine dg_op rfl (d_load (v := .float .f32 p0r4) t21 agg22 B0_21 (sub_get (vs := #[.float .f32 p0r0, .float .f32 p0r1, .float .f32 p0r2, .float .f32 p0r3, .float .f32 p0r4]) p0P (i := 4) rfl) ?_)
    exact ⟨rfl, own_none (Ext.refl w')⟩
  · skip
    refine ⟨fun _ _ _ w' w'' _ ⟨d1_20v, hv, d1_20vL, d1_20vR⟩ hF => ⟨d1_20v, hv, d1_20vL, d1_20vR.frm hF (fun k hk => not_oth0)⟩, fun _ _ h _ => h, fun σ' w' hA hE hD hP => ?_⟩
    have t6 : σ' 6 = (.float .f32 p0r0) := hD 3 rfl
    have t10 : σ' 10 = (.float .f32 p0r1) := hD 7 rfl
    have t14 : σ' 14 = (.float .f32 p0r2) := hD 11 rfl
    have t18 : σ' 18 = (.float .f32 p0r3) := hD 15 rfl
    have t22 : σ' 22 = (.float .f32 p0r4) := hD 19 rfl
    refine dg_op rfl (d_bslice (vs := [(0, .float .f32 p0r0), (1, .float .f32 p0r1), (2, .float .f32 p0r2), (3, .float .f32 p0r3), (4, .float .f32 p0r4)]) (cs := #[.float .f32 p0r0, .float .f32 p0r1, .float .f32 p0r2, .float .f32 p0r3, .float .f32 p0r4]) un53 (pc t6 (pc t10 (pc t14 (pc t18 (pc t22 rfl))))) (by kernel_rfl) fun w22 B22 E22 => ?_)
    have fr22 : ∀ k, (Value.slice (some ⟨w'.heap.size, 0, none⟩) 5 5).ownBlock = some k → w'.heap.size ≤ k := fun k hk => by cases hk; exact Nat.le_refl _
    have X23 : Ext w' w22 := (Ext.refl w').trans E22
    have O22 : OS w22 22 encF_f32 (Value.slice (some ⟨w'.heap.size, 0, none⟩) 5 5) [p0.long, p0.pull, p0.drag, p0.drive, p0.rate] := OS.box (xs := [p0.long, p0.pull, p0.drag, p0.drive, p0.rate]) B22 (lc_f p0h0 (lc_f p0h1 (lc_f p0h2 (lc_f p0h3 (lc_f p0h4 rfl))))) (Nat.le_of_ble_eq_true rfl)
    exact ⟨⟨(Value.slice (some ⟨w'.heap.size, 0, none⟩) 5 5), rfl, (fun k hk => Nat.le_trans hE.size (fr22 k hk)), O22⟩, own_none X23⟩
  · skip
    refine ⟨fun _ _ _ w' w'' _ ⟨d1_20v, hv, d1_20vL, d1_20vR⟩ hF => ⟨d1_20v, hv, d1_20vL, d1_20vR.frm hF (fun k hk => not_oth0)⟩, fun _ _ h _ => h, fun σ' w' hA hE hD hP => ?_⟩
    obtain ⟨d1_20v, t23, d1_20vL, d1_20vR⟩ : ∃ d1_20v : Value, σ' 23 = d1_20v ∧ (∀ k, d1_20v.ownBlock = some k → w.heap.size ≤ k) ∧ OS w' 22 encF_f32 d1_20v ([p0.long, p0.pull, p0.drag, p0.drive, p0.rate]) := hD 20 rfl
    refine dg_op rfl (d_as (v := d1_20v) t23 ?_)
    exact ⟨⟨d1_20v, rfl, d1_20vL, d1_20vR⟩, own_none (Ext.refl w')⟩
  · skip
    intro σ1 w1 A1 E1 V1
    have E1x : Ext w w1 := ext_of_oth0 E1
    obtain ⟨z1_2_20v, s2_1, z1_2_20vL, z1_2_20vR⟩ : ∃ z1_2_20v : Value, σ1 2 = z1_2_20v ∧ (∀ k, z1_2_20v.ownBlock = some k → w.heap.size ≤ k) ∧ OS w1 22 encF_f32 z1_2_20v ([p0.long, p0.pull, p0.drag, p0.drive, p0.rate]) := V1 21 (Nat.le_of_ble_eq_true rfl)
    have own24 : ∀ k, z1_2_20v.ownBlock = some k → w.heap.size ≤ k := fun k hk => Nat.le_trans (Ext.refl w).size (z1_2_20vL k hk)
    have X25 : Ext w w1 := (Ext.refl w).trans E1x
    refine W_ret ?_
    subst hr
    refine ⟨_, res1 (rv_tmp s2_1), ?_⟩
    exact ⟨z1_2_20v, rfl, z1_2_20vR, own24, X25⟩
set_option maxHeartbeats 4000000 in
theorem c53 (p0 : SPendulum) (p0r0 : Nat) (p0r1 : Nat) (p0r2 : Nat) (p0r3 : Nat) (p0r4 : Nat) (r : Bool) (w : World) (hr : M.impl_ValidPendulum p0 = some r) (p0h0 : cn .f32 p0r0 = p0.long) (p0h1 : cn .f32 p0r1 = p0.pull) (p0h2 : cn .f32 p0r2 = p0.drag) (p0h3 : cn .f32 p0r3 = p0.drive) (p0h4 : cn .f32 p0r4 = p0.rate) :
    Calls Tryd.prog 53 #[.agg #[.float .f32 p0r0, .float .f32 p0r1, .float .f32 p0r2, .float .f32 p0r3, .float .f32 p0r4]] w fun e w' => e = .returned (.bool r) ∧ Ext w w' := by
  refine calls_of_W Tryd.func53 rfl (Nat.le_of_ble_eq_true rfl) ?_
  refine W_seq ?_
  refine W_region rfl ?_
  refine da_op rfl (d_box (cs := #[.float .f32 p0r0, .float .f32 p0r1, .float .f32 p0r2, .float .f32 p0r3, .float .f32 p0r4]) rfl fun w1 B1 E1 => ?_)
  have own2 : w.heap.size ≤ w.heap.size := Nat.le_trans (Ext.refl w).size (Nat.le_refl _)
  have X3 : Ext w w1 := (Ext.refl w).trans E1
  refine da_op rfl (d_as (v := .bool false) rfl ?_)
  refine da_nil ?_
  refine W_seq ?_
  obtain ⟨m4, hm4, hr⟩ := bind_out hr
  refine W_cut (fun σ' w' => σ' 2 = .bool m4 ∧ Ext w1 w') rfl ?_ ?_
  · skip
    have hr := hm4
    obtain ⟨m5, hm5, hr⟩ := letv_out hr
    refine da_op rfl (d_cl (vs := [.pointer (some ⟨w.heap.size, 0, none⟩)]) en110 (ac rfl rfl) rfl ?_)
    refine (c110 p0 w.heap.size 0 #[.float .f32 p0r0, .float .f32 p0r1, .float .f32 p0r2, .float .f32 p0r3, .float .f32 p0r4] 30 (0, 0) p0r0 p0r1 p0r2 p0r3 p0r4 m5 w1 hm5 p0h0 p0h1 p0h2 p0h3 p0h4 B1 rfl).mono ?_
    rintro _ w6 ⟨q6_0v, rfl, q6_0R, q6_0F, E6⟩
    refine ⟨_, rfl, ?_⟩
    have own7 : ∀ k, q6_0v.ownBlock = some k → w.heap.size ≤ k := fun k hk => Nat.le_trans X3.size (q6_0F k hk)
    have sp8 : ¬ q6_0v.ownBlock = some w.heap.size := ne_fresh q6_0F (lt_heap B1)
    have X9 : Ext w w6 := X3.trans E6
    obtain ⟨m10, hm10, hr⟩ := bind_out hr
    have B11 : w6.heap[w.heap.size]? = some (.cells #[.float .f32 p0r0, .float .f32 p0r1, .float .f32 p0r2, .float .f32 p0r3, .float .f32 p0r4] 30 (0, 0)) := E6.heap B1
    refine da_op rfl (d_cl (vs := [q6_0v]) en107 (ac rfl rfl) rfl ?_)
    refine (c107 m5 q6_0v m10 w6 hm10 q6_0R.rs).mono ?_
    rintro _ w12 ⟨rfl, E12⟩
    refine ⟨_, rfl, ?_⟩
    have X13 : Ext w w12 := X9.trans E12
    refine da_op rfl (d_mv (v := .bool m10) rfl ?_)
    rcases Bool.eq_false_or_eq_true m10 with hc14 | hc14
    · skip
      replace hr := bif_t hr hc14
      refine da_on rfl (Eq.trans (show sl _ _ _ = .bool m10 from rfl) (congrArg Value.bool hc14)) (d_fieldAddr rfl (fa30_0 _ _) ?_)
      have B15 : w12.heap[w.heap.size]? = some (.cells #[.float .f32 p0r0, .float .f32 p0r1, .float .f32 p0r2, .float .f32 p0r3, .float .f32 p0r4] 30 (0, 0)) := E12.heap B11
      refine da_on rfl (Eq.trans (show sl _ _ _ = .bool m10 from rfl) (congrArg Value.bool hc14)) (d_load (v := .float .f32 p0r0) rfl agg22 B15 rfl ?_)
      refine da_on rfl (Eq.trans (show sl _ _ _ = .bool m10 from rfl) (congrArg Value.bool hc14)) (d_fcmp (k := .f32) cGtr rfl rfl p0h0 cn_f32_0 ?_)
      refine da_op rfl (d_pick (b := true) (Eq.trans (show ev _ _ = .bool m10 from rfl) (congrArg Value.bool hc14)) ?_)
      refine da_op rfl (d_mv (v := .bool (fcmp .gtr .f32 p0.long 0)) rfl ?_)
      rcases Bool.eq_false_or_eq_true (fcmp .gtr .f32 p0.long 0) with hc16 | hc16
      · skip
        replace hr := bif_t hr hc16
        refine da_on rfl (Eq.trans (show sl _ _ _ = .bool (fcmp .gtr .f32 p0.long 0) from rfl) (congrArg Value.bool hc16)) (d_fieldAddr rfl (fa30_1 _ _) ?_)
        refine da_on rfl (Eq.trans (show sl _ _ _ = .bool (fcmp .gtr .f32 p0.long 0) from rfl) (congrArg Value.bool hc16)) (d_load (v := .float .f32 p0r1) rfl agg22 B15 rfl ?_)
        refine da_on rfl (Eq.trans (show sl _ _ _ = .bool (fcmp .gtr .f32 p0.long 0) from rfl) (congrArg Value.bool hc16)) (d_fcmp (k := .f32) cGeq rfl rfl p0h1 cn_f32_0 ?_)
        refine da_op rfl (d_pick (b := true) (Eq.trans (show ev _ _ = .bool (fcmp .gtr .f32 p0.long 0) from rfl) (congrArg Value.bool hc16)) ?_)
        refine da_op rfl (d_mv (v := .bool (fcmp .geq .f32 p0.pull 0)) rfl ?_)
        rcases Bool.eq_false_or_eq_true (fcmp .geq .f32 p0.pull 0) with hc17 | hc17
        · skip
          replace hr := bif_t hr hc17
          refine da_on rfl (Eq.trans (show sl _ _ _ = .bool (fcmp .geq .f32 p0.pull 0) from rfl) (congrArg Value.bool hc17)) (d_fieldAddr rfl (fa30_2 _ _) ?_)
          refine da_on rfl (Eq.trans (show sl _ _ _ = .bool (fcmp .geq .f32 p0.pull 0) from rfl) (congrArg Value.bool hc17)) (d_load (v := .float .f32 p0r2) rfl agg22 B15 rfl ?_)
          refine da_on rfl (Eq.trans (show sl _ _ _ = .bool (fcmp .geq .f32 p0.pull 0) from rfl) (congrArg Value.bool hc17)) (d_fcmp (k := .f32) cGeq rfl rfl p0h2 cn_f32_0 ?_)
          refine da_op rfl (d_pick (b := true) (Eq.trans (show ev _ _ = .bool (fcmp .geq .f32 p0.pull 0) from rfl) (congrArg Value.bool hc17)) ?_)
          refine da_op rfl (d_as (v := .bool (fcmp .geq .f32 p0.drag 0)) rfl ?_)
          refine da_nil ?_
          obtain rfl := Option.some.inj hr
          exact ⟨rfl, (Ext.trans (Ext.trans (Ext.refl w1) E6) E12)⟩
        · skip
          replace hr := bif_f hr hc17
          refine da_off rfl (Eq.trans (show sl _ _ _ = .bool (fcmp .geq .f32 p0.pull 0) from rfl) (congrArg Value.bool hc17)) (by decide) ?_
          refine da_off rfl (Eq.trans (show sl _ _ _ = .bool (fcmp .geq .f32 p0.pull 0) from rfl) (congrArg Value.bool hc17)) (by decide) ?_
          refine da_off rfl (Eq.trans (show sl _ _ _ = .bool (fcmp .geq .f32 p0.pull 0) from rfl) (congrArg Value.bool hc17)) (by decide) ?_
          refine da_op rfl (d_pick (b := false) (Eq.trans (show ev _ _ = .bool (fcmp .geq .f32 p0.pull 0) from rfl) (congrArg Value.bool hc17)) ?_)
          refine da_op rfl (d_as (v := .bool false) rfl ?_)
          refine da_nil ?_
          obtain rfl := Option.some.inj hr
          exact ⟨rfl, (Ext.trans (Ext.trans (Ext.refl w1) E6) E12)⟩
      · skip
        replace hr := bif_f hr hc16
        refine da_off rfl (Eq.trans (show sl _ _ _ = .bool (fcmp .gtr .f32 p0.long 0) from rfl) (congrArg Value.bool hc16)) (by decide) ?_
        refine da_off rfl (Eq.trans (show sl _ _ _ = .bool (fcmp .gtr .f32 p0.long 0) from rfl) (congrArg Value.bool hc16)) (by decide) ?_
        refine da_off rfl (Eq.trans (show sl _ _ _ = .bool (fcmp .gtr .f32 p0.long 0) from rfl) (congrArg Value.bool hc16)) (by decide) ?_
        refine da_op rfl (d_pick (b := false) (Eq.trans (show ev _ _ = .bool (fcmp .gtr .f32 p0.long 0) from rfl) (congrArg Value.bool hc16)) ?_)
        refine da_op rfl (d_mv (v := .bool false) rfl ?_)
        refine da_off rfl rfl (by decide) ?_
        refine da_off rfl rfl (by decide) ?_
        refine da_off rfl rfl (by decide) ?_
        refine da_op rfl (d_pick (b := false) rfl ?_)
        refine da_op rfl (d_as (v := .bool false) rfl ?_)
        refine da_nil ?_
        obtain rfl := Option.some.inj hr
        exact ⟨rfl, (Ext.trans (Ext.trans (Ext.refl w1) E6) E12)⟩
    · skip
      replace hr := bif_f hr hc14
      refine da_off rfl (Eq.trans (show sl _ _ _ = .bool m10 from rfl) (congrArg Value.bool hc14)) (by decide) ?_
      refine da_off rfl (Eq.trans (show sl _ _ _ = .bool m10 from rfl) (congrArg Value.bool hc14)) (by decide) ?_
      refine da_off rfl (Eq.trans (show sl _ _ _ = .bool m10 from rfl) (congrArg Value.bool hc14)) (by decide) ?_
      refine da_op rfl (d_pick (b := false) (Eq.trans (show ev _ _ = .bool m10 from rfl) (congrArg Value.bool hc14)) ?_)
      refine da_op rfl (d_mv (v := .bool false) rfl ?_)
      refine da_off rfl rfl (by decide) ?_
      refine da_off rfl rfl (by decide) ?_
      refine da_off rfl rfl (by decide) ?_
      refine da_op rfl (d_pick (b := false) rfl ?_)
      refine da_op rfl (d_mv (v := .bool false) rfl ?_)
      refine da_off rfl rfl (by decide) ?_
      refine da_off rfl rfl (by decide) ?_
      refine da_off rfl rfl (by decide) ?_
      refine da_op rfl (d_pick (b := false) rfl ?_)
      refine da_op rfl (d_as (v := .bool false) rfl ?_)
      refine da_nil ?_
      obtain rfl := Option.some.inj hr
      exact ⟨rfl, (Ext.trans (Ext.trans (Ext.refl w1) E6) E12)⟩
  · skip
    rintro σ4 w4 o4 ⟨s2_4, E4⟩
    have X18 : Ext w w4 := X3.trans E4
    refine W_ret ?_
    obtain rfl := Option.some.inj hr
    refine ⟨_, res1 (rv_tmp s2_4), ?_⟩
    exact ⟨rfl, X18⟩
set_option maxHeartbeats 4000000 in
theorem c15 (p0 : List UInt8) (r : SPendulum × Bool) (w : World) (hr : M.impl_ReadPendulum p0 = some r)  :
    Calls Tryd.prog 15 #[.string (bs p0)] w fun e w' => ∃ q0r0 : Nat, ∃ q0r1 : Nat, ∃ q0r2 : Nat, ∃ q0r3 : Nat, ∃ q0r4 : Nat, e = .returned (.tuple #[.agg #[.float .f32 q0r0, .float .f32 q0r1, .float .f32 q0r2, .float .f32 q0r3, .float .f32 q0r4], .bool r.2]) ∧ cn .f32 q0r0 = r.1.long ∧ cn .f32 q0r1 = r.1.pull ∧ cn .f32 q0r2 = r.1.drag ∧ cn .f32 q0r3 = r.1.drive ∧ cn .f32 q0r4 = r.1.rate ∧ Ext w w' := by
  refine calls_of_W Tryd.func15 rfl (Nat.le_of_ble_eq_true rfl) ?_
  refine W_seq ?_
  refine W_region rfl ?_
  refine da_op rfl (d_alloc (cs := #[.float .f32 0, .float .f32 0, .float .f32 0, .float .f32 0, .float .f32 0]) zero30 rfl fun w1 B1 E1 => ?_)
  have own2 : w.heap.size ≤ w.heap.size := Nat.le_trans (Ext.refl w).size (Nat.le_refl _)
  have X3 : Ext w w1 := (Ext.refl w).trans E1
  refine da_op rfl (d_as (v := .bool false) rfl ?_)
  refine da_nil ?_
  refine W_seq ?_
  refine W_region rfl ?_
  refine da_op rfl (d_mv (v := .string (bs p0)) rfl ?_)
  obtain ⟨m4, hm4, hr⟩ := bind_out hr
  refine da_op rfl (d_cl (vs := [.string (bs p0), .int .i64 5]) en49 (ac rfl (ac rfl rfl)) rfl ?_)
  refine (c49 p0 5 m4 w1 hm4 ).mono ?_
  rintro _ w5 ⟨q5_0v, rfl, q5_0R, q5_0F, E5⟩
  refine ⟨_, rfl, ?_⟩
  have own6 : ∀ k, q5_0v.ownBlock = some k → w.heap.size ≤ k := fun k hk => Nat.le_trans X3.size (q5_0F k hk)
  have sp7 : ¬ q5_0v.ownBlock = some w.heap.size := ne_fresh q5_0F (lt_heap B1)
  have X8 : Ext w w5 := X3.trans E5
  refine da_op rfl (d_mv (v := .tuple #[q5_0v, .bool m4.2]) rfl ?_)
  refine da_op rfl (d_extract (v := q5_0v) rfl rfl ?_)
  refine da_op rfl (d_extract (v := .bool m4.2) rfl rfl ?_)
  refine da_op rfl (d_as (v := q5_0v) rfl ?_)
  refine da_op rfl (d_as (v := .bool m4.2) rfl ?_)
  refine da_nil ?_
  refine W_seq ?_
  have B10 : w5.heap[w.heap.size]? = some (.cells #[.float .f32 0, .float .f32 0, .float .f32 0, .float .f32 0, .float .f32 0] 30 (0, 0)) := E5.heap B1
  obtain ⟨m11, hm11, hr⟩ := bind_out hr
  obtain ⟨m12, hm12, hr⟩ := bind_out hr
  obtain ⟨m13, hm13, hr⟩ := bind_out hr
  obtain ⟨m14, hm14, hr⟩ := bind_out hr
  obtain ⟨m15, hm15, hr⟩ := bind_out hr
  refine W_any [(fun k t => w5.heap.size ≤ k ∧ t = some 30)] [{ V := fun _ v _ => v = q5_0v }, { V := fun _ v _ => ∃ d9_1g : Nat, ∃ d9_1o : Nat, v = (.pointer (some ⟨d9_1g, d9_1o, none⟩)) ∧ EL encF_f32 q5_0v (m4.1).length 0 d9_1g d9_1o }, { V := fun _ v _ => ∃ d9_1r0 : Nat, v = (.float .f32 d9_1r0) ∧ cn .f32 d9_1r0 = m11 }, { V := fun _ v _ => v = q5_0v }, { V := fun _ v _ => ∃ d9_4g : Nat, ∃ d9_4o : Nat, v = (.pointer (some ⟨d9_4g, d9_4o, none⟩)) ∧ EL encF_f32 q5_0v (m4.1).length 1 d9_4g d9_4o }, { V := fun _ v _ => ∃ d9_4r0 : Nat, v = (.float .f32 d9_4r0) ∧ cn .f32 d9_4r0 = m12 }, { V := fun _ v _ => v = q5_0v }, { V := fun _ v _ => ∃ d9_7g : Nat, ∃ d9_7o : Nat, v = (.pointer (some ⟨d9_7g, d9_7o, none⟩)) ∧ EL encF_f32 q5_0v (m4.1).length 2 d9_7g d9_7o }, { V := fun _ v _ => ∃ d9_7r0 : Nat, v = (.float .f32 d9_7r0) ∧ cn .f32 d9_7r0 = m13 }, { V := fun _ v _ => v = q5_0v }, { V := fun _ v _ => ∃ d9_10g : Nat, ∃ d9_10o : Nat, v = (.pointer (some ⟨d9_10g, d9_10o, none⟩)) ∧ EL encF_f32 q5_0v (m4.1).length 3 d9_10g d9_10o }, { V := fun _ v _ => ∃ d9_10r0 : Nat, v = (.float .f32 d9_10r0) ∧ cn .f32 d9_10r0 = m14 }, { V := fun _ v _ => v = q5_0v }, { V := fun _ v _ => ∃ d9_13g : Nat, ∃ d9_13o : Nat, v = (.pointer (some ⟨d9_13g, d9_13o, none⟩)) ∧ EL encF_f32 q5_0v (m4.1).length 4 d9_13g d9_13o }, { V := fun _ v _ => ∃ d9_13r0 : Nat, v = (.float .f32 d9_13r0) ∧ cn .f32 d9_13r0 = m15 }, { V := fun _ v _ => ∃ d9_1r0 : Nat, ∃ d9_4r0 : Nat, ∃ d9_7r0 : Nat, ∃ d9_10r0 : Nat, ∃ d9_13r0 : Nat, v = (.agg #[.float .f32 d9_1r0, .float .f32 d9_4r0, .float .f32 d9_7r0, .float .f32 d9_10r0, .float .f32 d9_13r0]) ∧ cn .f32 d9_1r0 = m11 ∧ cn .f32 d9_4r0 = m12 ∧ cn .f32 d9_7r0 = m13 ∧ cn .f32 d9_10r0 = m14 ∧ cn .f32 d9_13r0 = m15 }, { V := fun _ v w' => ∃ d9_16b : Nat, ∃ d9_16c : Array Value, v = (.pointer (some ⟨d9_16b, 0, none⟩)) ∧ w5.heap.size ≤ d9_16b ∧ w'.heap[d9_16b]? = some (.cells d9_16c 30 (0, 0)) ∧ d9_16c.size = 5 }, ⟨fun sg _ w' => ∃ d9_16b : Nat, ∃ d9_1r0 : Nat, ∃ d9_4r0 : Nat, ∃ d9_7r0 : Nat, ∃ d9_10r0 : Nat, ∃ d9_13r0 : Nat, sg 6 = .pointer (some ⟨d9_16b, 0, none⟩) ∧ w'.heap[d9_16b]? = some (.cells #[.float .f32 d9_1r0, .float .f32 d9_4r0, .float .f32 d9_7r0, .float .f32 d9_10r0, .float .f32 d9_13r0] 30 (0, 0)) ∧ cn .f32 d9_1r0 = m11 ∧ cn .f32 d9_4r0 = m12 ∧ cn .f32 d9_7r0 = m13 ∧ cn .f32 d9_10r0 = m14 ∧ cn .f32 d9_13r0 = m15, some 0, fun _ => True⟩] mixed (by kernel_rfl) ⟨trivial, trivial, trivial, trivial, trivial, trivial, trivial, trivial, trivial, trivial, trivial, trivial, trivial, trivial, trivial, trivial, trivial, trivial, trivial⟩ ⟨?_, ?_, ?_, ?_, ?_, ?_, ?_, ?_, ?_, ?_, ?_, ?_, ?_, ?_, ?_, ?_, ?_, ?_, trivial⟩ ?_
  · skip
    refine ⟨fun _ _ _ _ _ _ h _ => h, fun _ _ h _ => h, fun σ' w' hA hE hD hP => ?_⟩
    have t4 : σ' 4 = q5_0v := (hA 4 rfl).trans rfl
    have B0_16 : OS w' 22 encF_f32 q5_0v m4.1 := q5_0R.frm hE (fun k hk => (not_oth1 ((not_newT_row q5_0R) k hk)))
    refine dg_op rfl (d_mv (v := q5_0v) t4 ?_)
    exact ⟨rfl, own_none (Ext.refl w')⟩
  · skip
    refine ⟨fun _ _ _ _ _ _ h _ => h, fun _ _ h _ => h, fun σ' w' hA hE hD hP => ?_⟩
    have t12 : σ' 12 = q5_0v := hD 0 rfl
    have B0_17 : OS w' 22 encF_f32 q5_0v m4.1 := q5_0R.frm hE (fun k hk => (not_oth1 ((not_newT_row q5_0R) k hk)))
    refine dg_op rfl (d_indexE (e := encF_f32) (v := q5_0v) un53 size22 t12 rfl B0_17.rs hm11 fun g18 o18 l18 => ?_)
    exact ⟨⟨g18, o18, rfl, l18⟩, own_none (Ext.refl _)⟩
  · skip
    refine ⟨fun _ _ _ _ _ _ h _ => h, fun _ _ h _ => h, fun σ' w' hA hE hD hP => ?_⟩
    obtain ⟨d9_1g, d9_1o, t13, d9_1gE⟩ : ∃ d9_1g : Nat, ∃ d9_1o : Nat, σ' 13 = (.pointer (some ⟨d9_1g, d9_1o, none⟩)) ∧ EL encF_f32 q5_0v (m4.1).length 0 d9_1g d9_1o := hD 1 rfl
    have B0_19 : OS w' 22 encF_f32 q5_0v m4.1 := q5_0R.frm hE (fun k hk => (not_oth1 ((not_newT_row q5_0R) k hk)))
    obtain ⟨d9_1c, d9_1T, d9_1f, d9_1vs, d9_1hg, d9_1P, d9_1hq⟩ := RS.el B0_19.rs d9_1gE hm11
    obtain ⟨d9_1r0, rfl, d9_1h0⟩ := dec_encF_f32 d9_1hq
    refine dg_op rfl (d_load (v := .float .f32 d9_1r0) t13 agg22 d9_1hg (sub_get (vs := #[.float .f32 d9_1r0]) d9_1P (i := 0) rfl) ?_)
    exact ⟨⟨d9_1r0, rfl, d9_1h0⟩, own_none (Ext.refl w')⟩
  · skip
    refine ⟨fun _ _ _ _ _ _ h _ => h, fun _ _ h _ => h, fun σ' w' hA hE hD hP => ?_⟩
    have t4 : σ' 4 = q5_0v := (hA 4 rfl).trans rfl
    have B0_20 : OS w' 22 encF_f32 q5_0v m4.1 := q5_0R.frm hE (fun k hk => (not_oth1 ((not_newT_row q5_0R) k hk)))
    refine dg_op rfl (d_mv (v := q5_0v) t4 ?_)
    exact ⟨rfl, own_none (Ext.refl w')⟩
  · skip
    refine ⟨fun _ _ _ _ _ _ h _ => h, fun _ _ h _ => h, fun σ' w' hA hE hD hP => ?_⟩
    have t15 : σ' 15 = q5_0v := hD 3 rfl
    have B0_21 : OS w' 22 encF_f32 q5_0v m4.1 := q5_0R.frm hE (fun k hk => (not_oth1 ((not_newT_row q5_0R) k hk)))
    refine dg_op rfl (d_indexE (e := encF_f32) (v := q5_0v) un53 size22 t15 rfl B0_21.rs hm12 fun g22 o22 l22 => ?_)
    exact ⟨⟨g22, o22, rfl, l22⟩, own_none (Ext.refl _)⟩
  · skip
    refine ⟨fun _ _ _ _ _ _ h _ => h, fun _ _ h _ => h, fun σ' w' hA hE hD hP => ?_⟩
    obtain ⟨d9_4g, d9_4o, t16, d9_4gE⟩ : ∃ d9_4g : Nat, ∃ d9_4o : Nat, σ' 16 = (.pointer (some ⟨d9_4g, d9_4o, none⟩)) ∧ EL encF_f32 q5_0v (m4.1).length 1 d9_4g d9_4o := hD 4 rfl
    have B0_23 : OS w' 22 encF_f32 q5_0v m4.1 := q5_0R.frm hE (fun k hk => (not_oth1 ((not_newT_row q5_0R) k hk)))
    obtain ⟨d9_4c, d9_4T, d9_4f, d9_4vs, d9_4hg, d9_4P, d9_4hq⟩ := RS.el B0_23.rs d9_4gE hm12
    obtain ⟨d9_4r0, rfl, d9_4h0⟩ := dec_encF_f32 d9_4hq
    refine dg_op rfl (d_load (v := .float .f32 d9_4r0) t16 agg22 d9_4hg (sub_get (vs := #[.float .f32 d9_4r0]) d9_4P (i := 0) rfl) ?_)
    exact ⟨⟨d9_4r0, rfl, d9_4h0⟩, own_none (Ext.refl w')⟩
  · skip
    refine ⟨fun _ _ _ _ _ _ h _ => h, fun _ _ h _ => h, fun σ' w' hA hE hD hP => ?_⟩
    have t4 : σ' 4 = q5_0v := (hA 4 rfl).trans rfl
    have B0_24 : OS w' 22 encF_f32 q5_0v m4.1 := q5_0R.frm hE (fun k hk => (not_oth1 ((not_newT_row q5_0R) k hk)))
    refine dg_op rfl (d_mv (v := q5_0v) t4 ?_)
    exact ⟨rfl, own_none (Ext.refl w')⟩
  · skip
    refine ⟨fun _ _ _ _ _ _ h _ => h, fun _ _ h _ => h, fun σ' w' hA hE hD hP => ?_⟩
    have t18 : σ' 18 = q5_0v := hD 6 rfl
    have B0_25 : OS w' 22 encF_f32 q5_0v m4.1 := q5_0R.frm hE (fun k hk => (not_oth1 ((not_newT_row q5_0R) k hk)))
    refine dg_op rfl (d_indexE (e := encF_f32) (v := q5_0v) un53 size22 t18 rfl B0_25.rs hm13 fun g26 o26 l26 => ?_)
    exact ⟨⟨g26, o26, rfl, l26⟩, own_none (Ext.refl _)⟩
  · skip
    refine ⟨fun _ _ _ _ _ _ h _ => h, fun _ _ h _ => h, fun σ' w' hA hE hD hP => ?_⟩
    obtain ⟨d9_7g, d9_7o, t19, d9_7gE⟩ : ∃ d9_7g : Nat, ∃ d9_7o : Nat, σ' 19 = (.pointer (some ⟨d9_7g, d9_7o, none⟩)) ∧ EL encF_f32 q5_0v (m4.1).length 2 d9_7g d9_7o := hD 7 rfl
    have B0_27 : OS w' 22 encF_f32 q5_0v m4.1 := q5_0R.frm hE (fun k hk => (not_oth1 ((not_newT_row q5_0R) k hk)))
    obtain ⟨d9_7c, d9_7T, d9_7f, d9_7vs, d9_7hg, d9_7P, d9_7hq⟩ := RS.el B0_27.rs d9_7gE hm13
    obtain ⟨d9_7r0, rfl, d9_7h0⟩ := dec_encF_f32 d9_7hq
    refine dg_op rfl (d_load (v := .float .f32 d9_7r0) t19 agg22 d9_7hg (sub_get (vs := #[.float .f32 d9_7r0]) d9_7P (i := 0) rfl) ?_)
    exact ⟨⟨d9_7r0, rfl, d9_7h0⟩, own_none (Ext.refl w')⟩
  · skip
    refine ⟨fun _ _ _ _ _ _ h _ => h, fun _ _ h _ => h, fun σ' w' hA hE hD hP => ?_⟩
    have t4 : σ' 4 = q5_0v := (hA 4 rfl).trans rfl
    have B0_28 : OS w' 22 encF_f32 q5_0v m4.1 := q5_0R.frm hE (fun k hk => (not_oth1 ((not_newT_row q5_0R) k hk)))
    refine dg_op rfl (d_mv (v := q5_0v) t4 ?_)
    exact ⟨rfl, own_none (Ext.refl w')⟩
  · skip
    refine ⟨fun _ _ _ _ _ _ h _ => h, fun _ _ h _ => h, fun σ' w' hA hE hD hP => ?_⟩
    have t21 : σ' 21 = q5_0v := hD 9 rfl
    have B0_29 : OS w' 22 encF_f32 q5_0v m4.1 := q5_0R.frm hE (fun k hk => (not_oth1 ((not_newT_row q5_0R) k hk)))
    refine dg_op rfl (d_indexE (e := encF_f32) (v := q5_0v) un53 size22 t21 rfl B0_29.rs hm14 fun g30 o30 l30 => ?_)
    exact ⟨⟨g30, o30, rfl, l30⟩, own_none (Ext.refl _)⟩
  · skip
    refine ⟨fun _ _ _ _ _ _ h _ => h, fun _ _ h _ => h, fun σ' w' hA hE hD hP => ?_⟩
    obtain ⟨d9_10g, d9_10o, t22, d9_10gE⟩ : ∃ d9_10g : Nat, ∃ d9_10o : Nat, σ' 22 = (.pointer (some ⟨d9_10g, d9_10o, none⟩)) ∧ EL encF_f32 q5_0v (m4.1).length 3 d9_10g d9_10o := hD 10 rfl
    have B0_31 : OS w' 22 encF_f32 q5_0v m4.1 := q5_0R.frm hE (fun k hk => (not_oth1 ((not_newT_row q5_0R) k hk)))
    obtain ⟨d9_10c, d9_10T, d9_10f, d9_10vs, d9_10hg, d9_10P, d9_10hq⟩ := RS.el B0_31.rs d9_10gE hm14
    obtain ⟨d9_10r0, rfl, d9_10h0⟩ := dec_encF_f32 d9_10hq
    refine dg_op rfl (d_load (v := .float .f32 d9_10r0) t22 agg22 d9_10hg (sub_get (vs := #[.float .f32 d9_10r0]) d9_10P (i := 0) rfl) ?_)
    exact ⟨⟨d9_10r0, rfl, d9_10h0⟩, own_none (Ext.refl w')⟩
  · skip
    refine ⟨fun _ _ _ _ _ _ h _ => h, fun _ _ h _ => h, fun σ' w' hA hE hD hP => ?_⟩
    have t4 : σ' 4 = q5_0v := (hA 4 rfl).trans rfl
    have B0_32 : OS w' 22 encF_f32 q5_0v m4.1 := q5_0R.frm hE (fun k hk => (not_oth1 ((not_newT_row q5_0R) k hk)))
    refine dg_op rfl (d_mv (v := q5_0v) t4 ?_)
    exact ⟨rfl, own_none (Ext.refl w')⟩
  · skip
    refine ⟨fun _ _ _ _ _ _ h _ => h, fun _ _ h _ => h, fun σ' w' hA hE hD hP => ?_⟩
    have t24 : σ' 24 = q5_0v := hD 12 rfl
    have B0_33 : OS w' 22 encF_f32 q5_0v m4.1 := q5_0R.frm hE (fun k hk => (not_oth1 ((not_newT_row q5_0R) k hk)))
    refine dg_op rfl (d_indexE (e := encF_f32) (v := q5_0v) un53 size22 t24 rfl B0_33.rs hm15 fun g34 o34 l34 => ?_)
    exact ⟨⟨g34, o34, rfl, l34⟩, own_none (Ext.refl _)⟩
  · skip
    refine ⟨fun _ _ _ _ _ _ h _ => h, fun _ _ h _ => h, fun σ' w' hA hE hD hP => ?_⟩
    obtain ⟨d9_13g, d9_13o, t25, d9_13gE⟩ : ∃ d9_13g : Nat, ∃ d9_13o : Nat, σ' 25 = (.pointer (some ⟨d9_13g, d9_13o, none⟩)) ∧ EL encF_f32 q5_0v (m4.1).length 4 d9_13g d9_13o := hD 13 rfl
    have B0_35 : OS w' 22 encF_f32 q5_0v m4.1 := q5_0R.frm hE (fun k hk => (not_oth1 ((not_newT_row q5_0R) k hk)))
    obtain ⟨d9_13c, d9_13T, d9_13f, d9_13vs, d9_13hg, d9_13P, d9_13hq⟩ := RS.el B0_35.rs d9_13gE hm15
    obtain ⟨d9_13r0, rfl, d9_13h0⟩ := dec_encF_f32 d9_13hq
    refine dg_op rfl (d_load (v := .float .f32 d9_13r0) t25 agg22 d9_13hg (sub_get (vs := #[.float .f32 d9_13r0]) d9_13P (i := 0) rfl) ?_)
    exact ⟨⟨d9_13r0, rfl, d9_13h0⟩, own_none (Ext.refl w')⟩
  · skip
    refine ⟨fun _ _ _ _ _ _ h _ => h, fun _ _ h _ => h, fun σ' w' hA hE hD hP => ?_⟩
    obtain ⟨d9_1r0, t14, d9_1h0⟩ : ∃ d9_1r0 : Nat, σ' 14 = (.float .f32 d9_1r0) ∧ cn .f32 d9_1r0 = m11 := hD 2 rfl
    obtain ⟨d9_4r0, t17, d9_4h0⟩ : ∃ d9_4r0 : Nat, σ' 17 = (.float .f32 d9_4r0) ∧ cn .f32 d9_4r0 = m12 := hD 5 rfl
    obtain ⟨d9_7r0, t20, d9_7h0⟩ : ∃ d9_7r0 : Nat, σ' 20 = (.float .f32 d9_7r0) ∧ cn .f32 d9_7r0 = m13 := hD 8 rfl
    obtain ⟨d9_10r0, t23, d9_10h0⟩ : ∃ d9_10r0 : Nat, σ' 23 = (.float .f32 d9_10r0) ∧ cn .f32 d9_10r0 = m14 := hD 11 rfl
    obtain ⟨d9_13r0, t26, d9_13h0⟩ : ∃ d9_13r0 : Nat, σ' 26 = (.float .f32 d9_13r0) ∧ cn .f32 d9_13r0 = m15 := hD 14 rfl
    refine dg_op rfl (d_bd (vs := [(0, .float .f32 d9_1r0), (1, .float .f32 d9_4r0), (2, .float .f32 d9_7r0), (3, .float .f32 d9_10r0), (4, .float .f32 d9_13r0)]) (cs := #[.float .f32 d9_1r0, .float .f32 d9_4r0, .float .f32 d9_7r0, .float .f32 d9_10r0, .float .f32 d9_13r0]) (pc t14 (pc t17 (pc t20 (pc t23 (pc t26 rfl))))) (by kernel_rfl) ?_)
    exact ⟨⟨d9_1r0, d9_4r0, d9_7r0, d9_10r0, d9_13r0, rfl, d9_1h0, d9_4h0, d9_7h0, d9_10h0, d9_13h0⟩, own_none (Ext.refl w')⟩
  · skip
    refine ⟨fun _ _ _ w' w'' _ ⟨d9_16b, d9_16c, hv, d9_16ble, d9_16bB, d9_16bZ⟩ hF => let ⟨c2, hB2, hZ2⟩ := hF.shape _ _ _ _ d9_16bB; ⟨d9_16b, c2, hv, d9_16ble, hB2, (hZ2.trans d9_16bZ)⟩, fun _ _ h _ => h, fun σ' w' hA hE hD hP => ?_⟩
    refine dg_op rfl (d_alloc (cs := #[.float .f32 0, .float .f32 0, .float .f32 0, .float .f32 0, .float .f32 0]) zero30 rfl fun w36 B36 E36 => ?_)
    have X38 : Ext w' w36 := (Ext.refl w').trans E36
    exact ⟨⟨w'.heap.size, #[.float .f32 0, .float .f32 0, .float .f32 0, .float .f32 0, .float .f32 0], rfl, hE.size, B36, rfl⟩, own_none X38⟩
  · skip
    refine ⟨fun _ _ _ w' w'' hs ⟨d9_16b, d9_1r0, d9_4r0, d9_7r0, d9_10r0, d9_13r0, hb, hB, d9_1h0, d9_4h0, d9_7h0, d9_10h0, d9_13h0⟩ hF => ⟨d9_16b, d9_1r0, d9_4r0, d9_7r0, d9_10r0, d9_13r0, (hs 16 rfl).trans hb, hF.heap not_oth1s hB, d9_1h0, d9_4h0, d9_7h0, d9_10h0, d9_13h0⟩, fun _ _ h _ => h, fun σ' w' hA hE hD hP => ?_⟩
    obtain ⟨d9_16b, d9_16c, t6, d9_16ble, d9_16bB, d9_16bZ⟩ : ∃ d9_16b : Nat, ∃ d9_16c : Array Value, σ' 6 = (.pointer (some ⟨d9_16b, 0, none⟩)) ∧ w5.heap.size ≤ d9_16b ∧ w'.heap[d9_16b]? = some (.cells d9_16c 30 (0, 0)) ∧ d9_16c.size = 5 := hD 16 rfl
    obtain ⟨d9_1r0, d9_4r0, d9_7r0, d9_10r0, d9_13r0, t27, d9_1h0, d9_4h0, d9_7h0, d9_10h0, d9_13h0⟩ : ∃ d9_1r0 : Nat, ∃ d9_4r0 : Nat, ∃ d9_7r0 : Nat, ∃ d9_10r0 : Nat, ∃ d9_13r0 : Nat, σ' 27 = (.agg #[.float .f32 d9_1r0, .float .f32 d9_4r0, .float .f32 d9_7r0, .float .f32 d9_10r0, .float .f32 d9_13r0]) ∧ cn .f32 d9_1r0 = m11 ∧ cn .f32 d9_4r0 = m12 ∧ cn .f32 d9_7r0 = m13 ∧ cn .f32 d9_10r0 = m14 ∧ cn .f32 d9_13r0 = m15 := hD 15 rfl
    refine dg_op rfl (d_store_new (vs := #[.float .f32 d9_1r0, .float .f32 d9_4r0, .float .f32 d9_7r0, .float .f32 d9_10r0, .float .f32 d9_13r0]) t6 (congrArg Value.cells t27) d9_16bB d9_16bZ size30 rfl rfl fun w39 S39 => ?_)
    exact ⟨⟨d9_16b, d9_1r0, d9_4r0, d9_7r0, d9_10r0, d9_13r0, t6, S39.here, d9_1h0, d9_4h0, d9_7h0, d9_10h0, d9_13h0⟩, own_some (j := 0) rfl (S39.frm.mono (fun k t h => ⟨h.1 ▸ d9_16ble, h.2⟩))⟩
  · skip
    intro σ9 w9 A9 E9 V9
    obtain ⟨z9_6_16b, z9_6_16c, s6_9, z9_6_16ble, z9_6_16bB, z9_6_16bZ⟩ : ∃ z9_6_16b : Nat, ∃ z9_6_16c : Array Value, σ9 6 = (.pointer (some ⟨z9_6_16b, 0, none⟩)) ∧ w5.heap.size ≤ z9_6_16b ∧ w9.heap[z9_6_16b]? = some (.cells z9_6_16c 30 (0, 0)) ∧ z9_6_16c.size = 5 := V9 16 (Nat.le_of_ble_eq_true rfl)
    obtain ⟨z9_m0_16b, z9_m0_1r0, z9_m0_4r0, z9_m0_7r0, z9_m0_10r0, z9_m0_13r0, hbn9, hBn9, z9_m0_1h0, z9_m0_4h0, z9_m0_7h0, z9_m0_10h0, z9_m0_13h0⟩ : ∃ z9_m0_16b : Nat, ∃ z9_m0_1r0 : Nat, ∃ z9_m0_4r0 : Nat, ∃ z9_m0_7r0 : Nat, ∃ z9_m0_10r0 : Nat, ∃ z9_m0_13r0 : Nat, σ9 6 = .pointer (some ⟨z9_m0_16b, 0, none⟩) ∧ w9.heap[z9_m0_16b]? = some (.cells #[.float .f32 z9_m0_1r0, .float .f32 z9_m0_4r0, .float .f32 z9_m0_7r0, .float .f32 z9_m0_10r0, .float .f32 z9_m0_13r0] 30 (0, 0)) ∧ cn .f32 z9_m0_1r0 = m11 ∧ cn .f32 z9_m0_4r0 = m12 ∧ cn .f32 z9_m0_7r0 = m13 ∧ cn .f32 z9_m0_10r0 = m14 ∧ cn .f32 z9_m0_13r0 = m15 := V9 17 (Nat.le_of_ble_eq_true rfl)
    have hen9 : z9_m0_16b = z9_6_16b := by have := hbn9.symm.trans s6_9; simp only [Value.pointer.injEq, Option.some.injEq, Addr.mk.injEq] at this; exact this.1
    rw [hen9] at hBn9
    have own40 : w.heap.size ≤ z9_6_16b := Nat.le_trans X8.size z9_6_16ble
    have sp41 : w.heap.size ≠ z9_6_16b := Nat.ne_of_lt (Nat.lt_of_lt_of_le (lt_heap B10) z9_6_16ble)
    have sp42 : ¬ q5_0v.ownBlock = some z9_6_16b := OS.ne_new q5_0R z9_6_16ble
    have s2_9 : σ9 2 = .pointer (some ⟨w.heap.size, 0, none⟩) := (A9 2 rfl).trans rfl
    have s5_9 : σ9 5 = .bool m4.2 := (A9 5 rfl).trans rfl
    have X43 : Ext w w9 := Ext.step X8 E9 (oth_own1 (fun k _ hk => Nat.le_trans X8.size hk.1))
    refine W_seq ?_
    refine W_seq ?_
    have B45 : w9.heap[w.heap.size]? = some (.cells #[.float .f32 0, .float .f32 0, .float .f32 0, .float .f32 0, .float .f32 0] 30 (0, 0)) := E9.heap (not_oth1 (not_newT_box B10)) B10
    obtain ⟨m44, hm44, hr⟩ := bind_out hr
    refine W_cut (fun σ' w' => σ' 34 = .bool m44 ∧ Ext w9 w') rfl ?_ ?_
    · skip
      have hr := hm44
      refine da_op rfl (d_mv (v := .bool m4.2) s5_9 ?_)
      refine da_op rfl (d_not rfl ?_)
      refine da_op rfl (d_mv (v := .bool (!m4.2)) rfl ?_)
      rcases Bool.eq_false_or_eq_true m4.2 with hc46 | hc46
      · skip
        replace hr := bif_t hr hc46
        refine da_on rfl (Eq.trans (show sl _ _ _ = .bool (!m4.2) from rfl) (congrArg Value.bool (congrArg not hc46))) (d_loads (vs := #[.float .f32 z9_m0_1r0, .float .f32 z9_m0_4r0, .float .f32 z9_m0_7r0, .float .f32 z9_m0_10r0, .float .f32 z9_m0_13r0]) s6_9 agg30 size30 hBn9 rfl ?_)
        obtain ⟨m47, hm47, hr⟩ := bind_out hr
        refine da_on rfl (Eq.trans (show sl _ _ _ = .bool (!m4.2) from rfl) (congrArg Value.bool (congrArg not hc46))) (d_cl (vs := [.agg #[.float .f32 z9_m0_1r0, .float .f32 z9_m0_4r0, .float .f32 z9_m0_7r0, .float .f32 z9_m0_10r0, .float .f32 z9_m0_13r0]]) en53 (ac rfl rfl) rfl ?_)
        refine (c53 (⟨m11, m12, m13, m14, m15⟩ : SPendulum) z9_m0_1r0 z9_m0_4r0 z9_m0_7r0 z9_m0_10r0 z9_m0_13r0 m47 w9 hm47 z9_m0_1h0 z9_m0_4h0 z9_m0_7h0 z9_m0_10h0 z9_m0_13h0).mono ?_
        rintro _ w48 ⟨rfl, E48⟩
        refine ⟨_, rfl, ?_⟩
        have X49 : Ext w w48 := X43.trans E48
        refine da_on rfl (Eq.trans (show sl _ _ _ = .bool (!m4.2) from rfl) (congrArg Value.bool (congrArg not hc46))) (d_not rfl ?_)
        refine da_op rfl (d_pick (b := false) (Eq.trans (show ev _ _ = .bool (!m4.2) from rfl) (congrArg Value.bool (congrArg not hc46))) ?_)
        refine da_nil ?_
        obtain rfl := Option.some.inj hr
        exact ⟨rfl, (Ext.trans (Ext.refl w9) E48)⟩
      · skip
        replace hr := bif_f hr hc46
        refine da_off rfl (Eq.trans (show sl _ _ _ = .bool (!m4.2) from rfl) (congrArg Value.bool (congrArg not hc46))) (by decide) ?_
        refine da_off rfl (Eq.trans (show sl _ _ _ = .bool (!m4.2) from rfl) (congrArg Value.bool (congrArg not hc46))) (by decide) ?_
        refine da_off rfl (Eq.trans (show sl _ _ _ = .bool (!m4.2) from rfl) (congrArg Value.bool (congrArg not hc46))) (by decide) ?_
        refine da_op rfl (d_pick (b := true) (Eq.trans (show ev _ _ = .bool (!m4.2) from rfl) (congrArg Value.bool (congrArg not hc46))) ?_)
        refine da_nil ?_
        obtain rfl := Option.some.inj hr
        exact ⟨rfl, (Ext.refl w9)⟩
    · skip
      rintro σ44 w44 o44 ⟨s34_44, E44⟩
      have s2_44 : σ44 2 = .pointer (some ⟨w.heap.size, 0, none⟩) := (o44 2 rfl).trans s2_9
      have s6_44 : σ44 6 = .pointer (some ⟨z9_6_16b, 0, none⟩) := (o44 6 rfl).trans s6_9
      have X50 : Ext w w44 := X43.trans E44
      refine W_cond (b := m44) s34_44 (fun hc51 => ?_) (fun hc51 => ?_)
      · skip
        replace hr := bif_t hr hc51
        refine W_seq ?_
        refine W_region rfl ?_
        refine da_op rfl (d_bd (vs := []) (cs := #[.float .f32 0, .float .f32 0, .float .f32 0, .float .f32 0, .float .f32 0]) rfl (by kernel_rfl) ?_)
        have B52 : w44.heap[w.heap.size]? = some (.cells #[.float .f32 0, .float .f32 0, .float .f32 0, .float .f32 0, .float .f32 0] 30 (0, 0)) := E44.heap B45
        refine da_op rfl (d_store (vs := #[.float .f32 0, .float .f32 0, .float .f32 0, .float .f32 0, .float .f32 0]) s2_44 rfl B52 size30 (Nat.le_of_ble_eq_true rfl) rfl fun w53 S53 => ?_)
        have X54 : Ext w w53 := Ext.step X50 S53.frmb (fun k _ hk => hk ▸ own2)
        have B55 : w53.heap[w.heap.size]? = some (.cells #[.float .f32 0, .float .f32 0, .float .f32 0, .float .f32 0, .float .f32 0] 30 (0, 0)) := S53.here
        refine da_op rfl (d_as (v := .bool false) rfl ?_)
        refine da_nil ?_
        refine W_ret ?_
        obtain rfl := Option.some.inj hr
        refine ⟨_, res2 (rv_cells (vs := #[.float .f32 0, .float .f32 0, .float .f32 0, .float .f32 0, .float .f32 0]) s2_44 agg30 size30 B55 rfl) (rv_tmp rfl), ?_⟩
        exact ⟨0, 0, 0, 0, 0, rfl, cn_f32_0, cn_f32_0, cn_f32_0, cn_f32_0, cn_f32_0, X54⟩
      · skip
        replace hr := bif_f hr hc51
        refine W_skip ?_
        refine W_seq ?_
        refine W_region rfl ?_
        have B56 : w44.heap[z9_6_16b]? = some (.cells #[.float .f32 z9_m0_1r0, .float .f32 z9_m0_4r0, .float .f32 z9_m0_7r0, .float .f32 z9_m0_10r0, .float .f32 z9_m0_13r0] 30 (0, 0)) := E44.heap hBn9
        refine da_op rfl (d_loads (vs := #[.float .f32 z9_m0_1r0, .float .f32 z9_m0_4r0, .float .f32 z9_m0_7r0, .float .f32 z9_m0_10r0, .float .f32 z9_m0_13r0]) s6_44 agg30 size30 B56 rfl ?_)
        have B57 : w44.heap[w.heap.size]? = some (.cells #[.float .f32 0, .float .f32 0, .float .f32 0, .float .f32 0, .float .f32 0] 30 (0, 0)) := E44.heap B45
        refine da_op rfl (d_store (vs := #[.float .f32 z9_m0_1r0, .float .f32 z9_m0_4r0, .float .f32 z9_m0_7r0, .float .f32 z9_m0_10r0, .float .f32 z9_m0_13r0]) s2_44 rfl B57 size30 (Nat.le_of_ble_eq_true rfl) rfl fun w58 S58 => ?_)
        have X59 : Ext w w58 := Ext.step X50 S58.frmb (fun k _ hk => hk ▸ own2)
        have B60 : w58.heap[w.heap.size]? = some (.cells #[.float .f32 z9_m0_1r0, .float .f32 z9_m0_4r0, .float .f32 z9_m0_7r0, .float .f32 z9_m0_10r0, .float .f32 z9_m0_13r0] 30 (0, 0)) := S58.here
        refine da_op rfl (d_as (v := .bool true) rfl ?_)
        refine da_nil ?_
        refine W_ret ?_
        obtain rfl := Option.some.inj hr
        refine ⟨_, res2 (rv_cells (vs := #[.float .f32 z9_m0_1r0, .float .f32 z9_m0_4r0, .float .f32 z9_m0_7r0, .float .f32 z9_m0_10r0, .float .f32 z9_m0_13r0]) s2_44 agg30 size30 B60 rfl) (rv_tmp rfl), ?_⟩
        exact ⟨z9_m0_1r0, z9_m0_4r0, z9_m0_7r0, z9_m0_10r0, z9_m0_13r0, rfl, z9_m0_1h0, z9_m0_4h0, z9_m0_7h0, z9_m0_10h0, z9_m0_13h0, X59⟩
set_option maxHeartbeats 4000000 in
theorem c16 (p0 : SPendulum) (p1 : SPendulum) (p0r0 : Nat) (p0r1 : Nat) (p0r2 : Nat) (p0r3 : Nat) (p0r4 : Nat) (p1r0 : Nat) (p1r1 : Nat) (p1r2 : Nat) (p1r3 : Nat) (p1r4 : Nat) (r : Bool) (w : World) (hr : M.laws_eqPendulum p0 p1 = r) (p0h0 : cn .f32 p0r0 = p0.long) (p0h1 : cn .f32 p0r1 = p0.pull) (p0h2 : cn .f32 p0r2 = p0.drag) (p0h3 : cn .f32 p0r3 = p0.drive) (p0h4 : cn .f32 p0r4 = p0.rate) (p1h0 : cn .f32 p1r0 = p1.long) (p1h1 : cn .f32 p1r1 = p1.pull) (p1h2 : cn .f32 p1r2 = p1.drag) (p1h3 : cn .f32 p1r3 = p1.drive) (p1h4 : cn .f32 p1r4 = p1.rate) :
    Calls Tryd.prog 16 #[.agg #[.float .f32 p0r0, .float .f32 p0r1, .float .f32 p0r2, .float .f32 p0r3, .float .f32 p0r4], .agg #[.float .f32 p1r0, .float .f32 p1r1, .float .f32 p1r2, .float .f32 p1r3, .float .f32 p1r4]] w fun e w' => e = .returned (.bool r) ∧ Ext w w' := by
  refine calls_of_W Tryd.func16 rfl (Nat.le_of_ble_eq_true rfl) ?_
  refine W_seq ?_
  refine W_region rfl ?_
  refine da_op rfl (d_box (cs := #[.float .f32 p0r0, .float .f32 p0r1, .float .f32 p0r2, .float .f32 p0r3, .float .f32 p0r4]) rfl fun w1 B1 E1 => ?_)
  have own2 : w.heap.size ≤ w.heap.size := Nat.le_trans (Ext.refl w).size (Nat.le_refl _)
  have X3 : Ext w w1 := (Ext.refl w).trans E1
  refine da_op rfl (d_box (cs := #[.float .f32 p1r0, .float .f32 p1r1, .float .f32 p1r2, .float .f32 p1r3, .float .f32 p1r4]) rfl fun w4 B4 E4 => ?_)
  have own5 : w.heap.size ≤ w1.heap.size := Nat.le_trans X3.size (Nat.le_refl _)
  have sp6 : w.heap.size ≠ w1.heap.size := Nat.ne_of_lt (Nat.lt_of_lt_of_le (lt_heap B1) (Nat.le_refl _))
  have X7 : Ext w w4 := X3.trans E4
  refine da_op rfl (d_as (v := .bool false) rfl ?_)
  refine da_nil ?_
  refine W_seq ?_
  refine W_seq ?_
  refine W_region rfl ?_
  refine da_op rfl (d_fieldAddr rfl (fa30_0 _ _) ?_)
  have B8 : w4.heap[w.heap.size]? = some (.cells #[.float .f32 p0r0, .float .f32 p0r1, .float .f32 p0r2, .float .f32 p0r3, .float .f32 p0r4] 30 (0, 0)) := E4.heap B1
  refine da_op rfl (d_load (v := .float .f32 p0r0) rfl agg22 B8 rfl ?_)
  refine da_op rfl (d_widen un22 un89 rfl p0h0 fun r9 w9 h9 _ E9 => ?_)
  have X10 : Ext w w9 := X7.trans E9
  refine da_op rfl (d_fieldAddr rfl (fa30_0 _ _) ?_)
  have B11 : w9.heap[w1.heap.size]? = some (.cells #[.float .f32 p1r0, .float .f32 p1r1, .float .f32 p1r2, .float .f32 p1r3, .float .f32 p1r4] 30 (0, 0)) := E9.heap B4
  refine da_op rfl (d_load (v := .float .f32 p1r0) rfl agg22 B11 rfl ?_)
  refine da_op rfl (d_widen un22 un89 rfl p1h0 fun r12 w12 h12 _ E12 => ?_)
  have X13 : Ext w w12 := X10.trans E12
  obtain ⟨m14, hm14, hr⟩ := letv_out hr
  have B15 : w12.heap[w.heap.size]? = some (.cells #[.float .f32 p0r0, .float .f32 p0r1, .float .f32 p0r2, .float .f32 p0r3, .float .f32 p0r4] 30 (0, 0)) := E12.heap (E9.heap B8)
  have B16 : w12.heap[w1.heap.size]? = some (.cells #[.float .f32 p1r0, .float .f32 p1r1, .float .f32 p1r2, .float .f32 p1r3, .float .f32 p1r4] 30 (0, 0)) := E12.heap B11
  refine da_op rfl (d_cl (vs := [.float .f64 r9, .float .f64 r12]) en51 (ac rfl (ac rfl rfl)) rfl ?_)
  refine (c51 (widen p0.long) (widen p1.long) r9 r12 m14 w12 hm14 h9 h12).mono ?_
  rintro _ w17 ⟨rfl, E17⟩
  refine ⟨_, rfl, ?_⟩
  have X18 : Ext w w17 := X13.trans E17
  refine da_op rfl (d_not rfl ?_)
  refine da_nil ?_
  refine W_cond (b := (!m14)) rfl (fun hc19 => ?_) (fun hc19 => ?_)
  · skip
    replace hr := bif_t hr hc19
    refine W_seq ?_
    refine W_region rfl ?_
    refine da_op rfl (d_as (v := .bool false) rfl ?_)
    refine da_nil ?_
    refine W_ret ?_
    subst hr
    refine ⟨_, res1 (rv_tmp rfl), ?_⟩
    exact ⟨rfl, X18⟩
  · skip
    replace hr := bif_f hr hc19
    refine W_skip ?_
    refine W_seq ?_
    refine W_seq ?_
    refine W_region rfl ?_
    refine da_op rfl (d_fieldAddr rfl (fa30_1 _ _) ?_)
    have B20 : w17.heap[w.heap.size]? = some (.cells #[.float .f32 p0r0, .float .f32 p0r1, .float .f32 p0r2, .float .f32 p0r3, .float .f32 p0r4] 30 (0, 0)) := E17.heap B15
    refine da_op rfl (d_load (v := .float .f32 p0r1) rfl agg22 B20 rfl ?_)
    refine da_op rfl (d_widen un22 un89 rfl p0h1 fun r21 w21 h21 _ E21 => ?_)
    have X22 : Ext w w21 := X18.trans E21
    refine da_op rfl (d_fieldAddr rfl (fa30_1 _ _) ?_)
    have B23 : w21.heap[w1.heap.size]? = some (.cells #[.float .f32 p1r0, .float .f32 p1r1, .float .f32 p1r2, .float .f32 p1r3, .float .f32 p1r4] 30 (0, 0)) := E21.heap (E17.heap B16)
    refine da_op rfl (d_load (v := .float .f32 p1r1) rfl agg22 B23 rfl ?_)
    refine da_op rfl (d_widen un22 un89 rfl p1h1 fun r24 w24 h24 _ E24 => ?_)
    have X25 : Ext w w24 := X22.trans E24
    obtain ⟨m26, hm26, hr⟩ := letv_out hr
    have B27 : w24.heap[w.heap.size]? = some (.cells #[.float .f32 p0r0, .float .f32 p0r1, .float .f32 p0r2, .float .f32 p0r3, .float .f32 p0r4] 30 (0, 0)) := E24.heap (E21.heap B20)
    have B28 : w24.heap[w1.heap.size]? = some (.cells #[.float .f32 p1r0, .float .f32 p1r1, .float .f32 p1r2, .float .f32 p1r3, .float .f32 p1r4] 30 (0, 0)) := E24.heap B23
    refine da_op rfl (d_cl (vs := [.float .f64 r21, .float .f64 r24]) en51 (ac rfl (ac rfl rfl)) rfl ?_)
    refine (c51 (widen p0.pull) (widen p1.pull) r21 r24 m26 w24 hm26 h21 h24).mono ?_
    rintro _ w29 ⟨rfl, E29⟩
    refine ⟨_, rfl, ?_⟩
    have X30 : Ext w w29 := X25.trans E29
    refine da_op rfl (d_not rfl ?_)
    refine da_nil ?_
    refine W_cond (b := (!m26)) rfl (fun hc31 => ?_) (fun hc31 => ?_)
    · skip
      replace hr := bif_t hr hc31
      refine W_seq ?_
      refine W_region rfl ?_
      refine da_op rfl (d_as (v := .bool false) rfl ?_)
      refine da_nil ?_
      refine W_ret ?_
      subst hr
      refine ⟨_, res1 (rv_tmp rfl), ?_⟩
      exact ⟨rfl, X30⟩
    · skip
      replace hr := bif_f hr hc31
      refine W_skip ?_
      refine W_seq ?_
      refine W_seq ?_
      refine W_region rfl ?_
      refine da_op rfl (d_fieldAddr rfl (fa30_2 _ _) ?_)
      have B32 : w29.heap[w.heap.size]? = some (.cells #[.float .f32 p0r0, .float .f32 p0r1, .float .f32 p0r2, .float .f32 p0r3, .float .f32 p0r4] 30 (0, 0)) := E29.heap B27
      refine da_op rfl (d_load (v := .float .f32 p0r2) rfl agg22 B32 rfl ?_)
      refine da_op rfl (d_widen un22 un89 rfl p0h2 fun r33 w33 h33 _ E33 => ?_)
      have X34 : Ext w w33 := X30.trans E33
      refine da_op rfl (d_fieldAddr rfl (fa30_2 _ _) ?_)
      have B35 : w33.heap[w1.heap.size]? = some (.cells #[.float .f32 p1r0, .float .f32 p1r1, .float .f32 p1r2, .float .f32 p1r3, .float .f32 p1r4] 30 (0, 0)) := E33.heap (E29.heap B28)
      refine da_op rfl (d_load (v := .float .f32 p1r2) rfl agg22 B35 rfl ?_)
      refine da_op rfl (d_widen un22 un89 rfl p1h2 fun r36 w36 h36 _ E36 => ?_)
      have X37 : Ext w w36 := X34.trans E36
      obtain ⟨m38, hm38, hr⟩ := letv_out hr
      have B39 : w36.heap[w.heap.size]? = some (.cells #[.float .f32 p0r0, .float .f32 p0r1, .float .f32 p0r2, .float .f32 p0r3, .float .f32 p0r4] 30 (0, 0)) := E36.heap (E33.heap B32)
      have B40 : w36.heap[w1.heap.size]? = some (.cells #[.float .f32 p1r0, .float .f32 p1r1, .float .f32 p1r2, .float .f32 p1r3, .float .f32 p1r4] 30 (0, 0)) := E36.heap B35
      refine da_op rfl (d_cl (vs := [.float .f64 r33, .float .f64 r36]) en51 (ac rfl (ac rfl rfl)) rfl ?_)
      refine (c51 (widen p0.drag) (widen p1.drag) r33 r36 m38 w36 hm38 h33 h36).mono ?_
      rintro _ w41 ⟨rfl, E41⟩
      refine ⟨_, rfl, ?_⟩
      have X42 : Ext w w41 := X37.trans E41
      refine da_op rfl (d_not rfl ?_)
      refine da_nil ?_
      refine W_cond (b := (!m38)) rfl (fun hc43 => ?_) (fun hc43 => ?_)
      · skip
        replace hr := bif_t hr hc43
        refine W_seq ?_
        refine W_region rfl ?_
        refine da_op rfl (d_as (v := .bool false) rfl ?_)
        refine da_nil ?_
        refine W_ret ?_
        subst hr
        refine ⟨_, res1 (rv_tmp rfl), ?_⟩
        exact ⟨rfl, X42⟩
      · skip
        replace hr := bif_f hr hc43
        refine W_skip ?_
        refine W_seq ?_
        refine W_seq ?_
        refine W_region rfl ?_
        refine da_op rfl (d_fieldAddr rfl (fa30_3 _ _) ?_)
        have B44 : w41.heap[w.heap.size]? = some (.cells #[.float .f32 p0r0, .float .f32 p0r1, .float .f32 p0r2, .float .f32 p0r3, .float .f32 p0r4] 30 (0, 0)) := E41.heap B39
        refine da_op rfl (d_load (v := .float .f32 p0r3) rfl agg22 B44 rfl ?_)
        refine da_op rfl (d_widen un22 un89 rfl p0h3 fun r45 w45 h45 _ E45 => ?_)
        have X46 : Ext w w45 := X42.trans E45
        refine da_op rfl (d_fieldAddr rfl (fa30_3 _ _) ?_)
        have B47 : w45.heap[w1.heap.size]? = some (.cells #[.float .f32 p1r0, .float .f32 p1r1, .float .f32 p1r2, .float .f32 p1r3, .float .f32 p1r4] 30 (0, 0)) := E45.heap (E41.heap B40)
        refine da_op rfl (d_load (v := .float .f32 p1r3) rfl agg22 B47 rfl ?_)
        refine da_op rfl (d_widen un22 un89 rfl p1h3 fun r48 w48 h48 _ E48 => ?_)
        have X49 : Ext w w48 := X46.trans E48
        obtain ⟨m50, hm50, hr⟩ := letv_out hr
        have B51 : w48.heap[w.heap.size]? = some (.cells #[.float .f32 p0r0, .float .f32 p0r1, .float .f32 p0r2, .float .f32 p0r3, .float .f32 p0r4] 30 (0, 0)) := E48.heap (E45.heap B44)
        have B52 : w48.heap[w1.heap.size]? = some (.cells #[.float .f32 p1r0, .float .f32 p1r1, .float .f32 p1r2, .float .f32 p1r3, .float .f32 p1r4] 30 (0, 0)) := E48.heap B47
        refine da_op rfl (d_cl (vs := [.float .f64 r45, .float .f64 r48]) en51 (ac rfl (ac rfl rfl)) rfl ?_)
        refine (c51 (widen p0.drive) (widen p1.drive) r45 r48 m50 w48 hm50 h45 h48).mono ?_
        rintro _ w53 ⟨rfl, E53⟩
        refine ⟨_, rfl, ?_⟩
        have X54 : Ext w w53 := X49.trans E53
        refine da_op rfl (d_not rfl ?_)
        refine da_nil ?_
        refine W_cond (b := (!m50)) rfl (fun hc55 => ?_) (fun hc55 => ?_)
        · skip
          replace hr := bif_t hr hc55
          refine W_seq ?_
          refine W_region rfl ?_
          refine da_op rfl (d_as (v := .bool false) rfl ?_)
          refine da_nil ?_
          refine W_ret ?_
          subst hr
          refine ⟨_, res1 (rv_tmp rfl), ?_⟩
          exact ⟨rfl, X54⟩
        · skip
          replace hr := bif_f hr hc55
          refine W_skip ?_
          refine W_seq ?_
          refine W_seq ?_
          refine W_region rfl ?_
          refine da_op rfl (d_fieldAddr rfl (fa30_4 _ _) ?_)
          have B56 : w53.heap[w.heap.size]? = some (.cells #[.float .f32 p0r0, .float .f32 p0r1, .float .f32 p0r2, .float .f32 p0r3, .float .f32 p0r4] 30 (0, 0)) := E53.heap B51
          refine da_op rfl (d_load (v := .float .f32 p0r4) rfl agg22 B56 rfl ?_)
          refine da_op rfl (d_widen un22 un89 rfl p0h4 fun r57 w57 h57 _ E57 => ?_)
          have X58 : Ext w w57 := X54.trans E57
          refine da_op rfl (d_fieldAddr rfl (fa30_4 _ _) ?_)
          have B59 : w57.heap[w1.heap.size]? = some (.cells #[.float .f32 p1r0, .float .f32 p1r1, .float .f32 p1r2, .float .f32 p1r3, .float .f32 p1r4] 30 (0, 0)) := E57.heap (E53.heap B52)
          refine da_op rfl (d_load (v := .float .f32 p1r4) rfl agg22 B59 rfl ?_)
          refine da_op rfl (d_widen un22 un89 rfl p1h4 fun r60 w60 h60 _ E60 => ?_)
          have X61 : Ext w w60 := X58.trans E60
          obtain ⟨m62, hm62, hr⟩ := letv_out hr
          have B63 : w60.heap[w.heap.size]? = some (.cells #[.float .f32 p0r0, .float .f32 p0r1, .float .f32 p0r2, .float .f32 p0r3, .float .f32 p0r4] 30 (0, 0)) := E60.heap (E57.heap B56)
          have B64 : w60.heap[w1.heap.size]? = some (.cells #[.float .f32 p1r0, .float .f32 p1r1, .float .f32 p1r2, .float .f32 p1r3, .float .f32 p1r4] 30 (0, 0)) := E60.heap B59
          refine da_op rfl (d_cl (vs := [.float .f64 r57, .float .f64 r60]) en51 (ac rfl (ac rfl rfl)) rfl ?_)
          refine (c51 (widen p0.rate) (widen p1.rate) r57 r60 m62 w60 hm62 h57 h60).mono ?_
          rintro _ w65 ⟨rfl, E65⟩
          refine ⟨_, rfl, ?_⟩
          have X66 : Ext w w65 := X61.trans E65
          refine da_op rfl (d_not rfl ?_)
          refine da_nil ?_
          refine W_cond (b := (!m62)) rfl (fun hc67 => ?_) (fun hc67 => ?_)
          · skip
            replace hr := bif_t hr hc67
            refine W_seq ?_
            refine W_region rfl ?_
            refine da_op rfl (d_as (v := .bool false) rfl ?_)
            refine da_nil ?_
            refine W_ret ?_
            subst hr
            refine ⟨_, res1 (rv_tmp rfl), ?_⟩
            exact ⟨rfl, X66⟩
          · skip
            replace hr := bif_f hr hc67
            refine W_skip ?_
            refine W_seq ?_
            refine W_region rfl ?_
            refine da_op rfl (d_as (v := .bool true) rfl ?_)
            refine da_nil ?_
            refine W_ret ?_
            subst hr
            refine ⟨_, res1 (rv_tmp rfl), ?_⟩
            exact ⟨rfl, X66⟩
set_option maxHeartbeats 4000000 in
theorem c4 (p0 : List UInt8) (r : Bool) (w : World) (hr : M.laws_FnExactReadPendulum p0 = some r)  :
    Calls Tryd.prog 4 #[.string (bs p0)] w fun e w' => e = .returned (.bool r) ∧ Ext w w' := by
  refine calls_of_W Tryd.func4 rfl (Nat.le_of_ble_eq_true rfl) ?_
  refine W_seq ?_
  refine W_region rfl ?_
  refine da_op rfl (d_as (v := .bool false) rfl ?_)
  refine da_nil ?_
  refine W_seq ?_
  refine W_seq ?_
  refine W_region rfl ?_
  refine da_op rfl (d_mv (v := .string (bs p0)) rfl ?_)
  refine da_op rfl (d_slen un9 rfl ?_)
  refine da_op rfl (d_icmp cGtr rfl rfl ?_)
  refine da_nil ?_
  refine W_cond (b := (icmp .gtr ((p0).length : Int) 1048576)) rfl (fun hc1 => ?_) (fun hc1 => ?_)
  · skip
    replace hr := bif_t hr hc1
    refine W_seq ?_
    refine W_region rfl ?_
    refine da_op rfl (d_as (v := .bool true) rfl ?_)
    refine da_nil ?_
    refine W_ret ?_
    obtain rfl := Option.some.inj hr
    refine ⟨_, res1 (rv_tmp rfl), ?_⟩
    exact ⟨rfl, (Ext.refl w)⟩
  · skip
    replace hr := bif_f hr hc1
    refine W_skip ?_
    refine W_seq ?_
    refine W_region rfl ?_
    refine da_op rfl (d_mv (v := .string (bs p0)) rfl ?_)
    obtain ⟨m2, hm2, hr⟩ := bind_out hr
    refine da_op rfl (d_cl (vs := [.string (bs p0)]) en14 (ac rfl rfl) rfl ?_)
    refine (c14 p0 m2 w hm2 ).mono ?_
    rintro _ w3 ⟨q3_0r0, q3_0r1, q3_0r2, q3_0r3, q3_0r4, rfl, q3_0h0, q3_0h1, q3_0h2, q3_0h3, q3_0h4, E3⟩
    refine ⟨_, rfl, ?_⟩
    have X4 : Ext w w3 := (Ext.refl w).trans E3
    refine da_op rfl (d_mv (v := .tuple #[.agg #[.float .f32 q3_0r0, .float .f32 q3_0r1, .float .f32 q3_0r2, .float .f32 q3_0r3, .float .f32 q3_0r4], .bool m2.2]) rfl ?_)
    refine da_op rfl (d_extract (v := .agg #[.float .f32 q3_0r0, .float .f32 q3_0r1, .float .f32 q3_0r2, .float .f32 q3_0r3, .float .f32 q3_0r4]) rfl rfl ?_)
    refine da_op rfl (d_extract (v := .bool m2.2) rfl rfl ?_)
    refine da_op rfl (d_alloc (cs := #[.float .f32 0, .float .f32 0, .float .f32 0, .float .f32 0, .float .f32 0]) zero30 rfl fun w5 B5 E5 => ?_)
    have own6 : w.heap.size ≤ w3.heap.size := Nat.le_trans X4.size (Nat.le_refl _)
    have X7 : Ext w w5 := X4.trans E5
    refine da_op rfl (d_store (vs := #[.float .f32 q3_0r0, .float .f32 q3_0r1, .float .f32 q3_0r2, .float .f32 q3_0r3, .float .f32 q3_0r4]) rfl rfl B5 size30 (Nat.le_of_ble_eq_true rfl) rfl fun w8 S8 => ?_)
    have X9 : Ext w w8 := Ext.step X7 S8.frmb (fun k _ hk => hk ▸ own6)
    have B10 : w8.heap[w3.heap.size]? = some (.cells #[.float .f32 q3_0r0, .float .f32 q3_0r1, .float .f32 q3_0r2, .float .f32 q3_0r3, .float .f32 q3_0r4] 30 (0, 0)) := S8.here
    refine da_op rfl (d_as (v := .bool m2.2) rfl ?_)
    refine da_nil ?_
    refine W_seq ?_
    refine W_region rfl ?_
    refine da_op rfl (d_mv (v := .string (bs p0)) rfl ?_)
    obtain ⟨m11, hm11, hr⟩ := bind_out hr
    refine da_op rfl (d_cl (vs := [.string (bs p0)]) en15 (ac rfl rfl) rfl ?_)
    refine (c15 p0 m11 w8 hm11 ).mono ?_
    rintro _ w12 ⟨q12_0r0, q12_0r1, q12_0r2, q12_0r3, q12_0r4, rfl, q12_0h0, q12_0h1, q12_0h2, q12_0h3, q12_0h4, E12⟩
    refine ⟨_, rfl, ?_⟩
    have X13 : Ext w w12 := X9.trans E12
    refine da_op rfl (d_mv (v := .tuple #[.agg #[.float .f32 q12_0r0, .float .f32 q12_0r1, .float .f32 q12_0r2, .float .f32 q12_0r3, .float .f32 q12_0r4], .bool m11.2]) rfl ?_)
    refine da_op rfl (d_extract (v := .agg #[.float .f32 q12_0r0, .float .f32 q12_0r1, .float .f32 q12_0r2, .float .f32 q12_0r3, .float .f32 q12_0r4]) rfl rfl ?_)
    refine da_op rfl (d_extract (v := .bool m11.2) rfl rfl ?_)
    have B15 : w12.heap[w3.heap.size]? = some (.cells #[.float .f32 q3_0r0, .float .f32 q3_0r1, .float .f32 q3_0r2, .float .f32 q3_0r3, .float .f32 q3_0r4] 30 (0, 0)) := E12.heap B10
    refine da_op rfl (d_alloc (cs := #[.float .f32 0, .float .f32 0, .float .f32 0, .float .f32 0, .float .f32 0]) zero30 rfl fun w14 B14 E14 => ?_)
    have own16 : w.heap.size ≤ w12.heap.size := Nat.le_trans X13.size (Nat.le_refl _)
    have sp17 : w3.heap.size ≠ w12.heap.size := Nat.ne_of_lt (Nat.lt_of_lt_of_le (lt_heap B15) (Nat.le_refl _))
    have X18 : Ext w w14 := X13.trans E14
    refine da_op rfl (d_store (vs := #[.float .f32 q12_0r0, .float .f32 q12_0r1, .float .f32 q12_0r2, .float .f32 q12_0r3, .float .f32 q12_0r4]) rfl rfl B14 size30 (Nat.le_of_ble_eq_true rfl) rfl fun w19 S19 => ?_)
    have X20 : Ext w w19 := Ext.step X18 S19.frmb (fun k _ hk => hk ▸ own16)
    have B21 : w19.heap[w12.heap.size]? = some (.cells #[.float .f32 q12_0r0, .float .f32 q12_0r1, .float .f32 q12_0r2, .float .f32 q12_0r3, .float .f32 q12_0r4] 30 (0, 0)) := S19.here
    refine da_op rfl (d_as (v := .bool m11.2) rfl ?_)
    refine da_nil ?_
    refine W_seq ?_
    refine W_seq ?_
    have B23 : w19.heap[w3.heap.size]? = some (.cells #[.float .f32 q3_0r0, .float .f32 q3_0r1, .float .f32 q3_0r2, .float .f32 q3_0r3, .float .f32 q3_0r4] 30 (0, 0)) := S19.frmb.heap sp17 (E14.heap B15)
    obtain ⟨m22, hm22, hr⟩ := letv_out hr
    refine W_cut (fun σ' w' => σ' 28 = .bool m22 ∧ Ext w19 w') rfl ?_ ?_
    · skip
      have hr := hm22
      refine da_op rfl (d_loads (vs := #[.float .f32 q12_0r0, .float .f32 q12_0r1, .float .f32 q12_0r2, .float .f32 q12_0r3, .float .f32 q12_0r4]) rfl agg30 size30 B21 rfl ?_)
      refine da_op rfl (d_loads (vs := #[.float .f32 q3_0r0, .float .f32 q3_0r1, .float .f32 q3_0r2, .float .f32 q3_0r3, .float .f32 q3_0r4]) rfl agg30 size30 B23 rfl ?_)
      obtain ⟨m24, hm24, hr⟩ := letv_out hr
      refine da_op rfl (d_cl (vs := [.agg #[.float .f32 q12_0r0, .float .f32 q12_0r1, .float .f32 q12_0r2, .float .f32 q12_0r3, .float .f32 q12_0r4], .agg #[.float .f32 q3_0r0, .float .f32 q3_0r1, .float .f32 q3_0r2, .float .f32 q3_0r3, .float .f32 q3_0r4]]) en16 (ac rfl (ac rfl rfl)) rfl ?_)
      refine (c16 (⟨m11.1.long, m11.1.pull, m11.1.drag, m11.1.drive, m11.1.rate⟩ : SPendulum) (⟨m2.1.long, m2.1.pull, m2.1.drag, m2.1.drive, m2.1.rate⟩ : SPendulum) q12_0r0 q12_0r1 q12_0r2 q12_0r3 q12_0r4 q3_0r0 q3_0r1 q3_0r2 q3_0r3 q3_0r4 m24 w19 hm24 q12_0h0 q12_0h1 q12_0h2 q12_0h3 q12_0h4 q3_0h0 q3_0h1 q3_0h2 q3_0h3 q3_0h4).mono ?_
      rintro _ w25 ⟨rfl, E25⟩
      refine ⟨_, rfl, ?_⟩
      have X26 : Ext w w25 := X20.trans E25
      refine da_op rfl (d_not rfl ?_)
      refine da_op rfl (d_mv (v := .bool (!m24)) rfl ?_)
      rcases Bool.eq_false_or_eq_true m24 with hc27 | hc27
      · skip
        replace hr := bif_t hr hc27
        refine da_on rfl (Eq.trans (show sl _ _ _ = .bool (!m24) from rfl) (congrArg Value.bool (congrArg not hc27))) (d_mv (v := .bool m11.2) rfl ?_)
        refine da_on rfl (Eq.trans (show sl _ _ _ = .bool (!m24) from rfl) (congrArg Value.bool (congrArg not hc27))) (d_mv (v := .bool m2.2) rfl ?_)
        refine da_on rfl (Eq.trans (show sl _ _ _ = .bool (!m24) from rfl) (congrArg Value.bool (congrArg not hc27))) (d_bne un4 rfl rfl ?_)
        refine da_op rfl (d_pick (b := false) (Eq.trans (show ev _ _ = .bool (!m24) from rfl) (congrArg Value.bool (congrArg not hc27))) ?_)
        refine da_nil ?_
        subst hr
        exact ⟨rfl, (Ext.trans (Ext.refl w19) E25)⟩
      · skip
        replace hr := bif_f hr hc27
        refine da_off rfl (Eq.trans (show sl _ _ _ = .bool (!m24) from rfl) (congrArg Value.bool (congrArg not hc27))) (by decide) ?_
        refine da_off rfl (Eq.trans (show sl _ _ _ = .bool (!m24) from rfl) (congrArg Value.bool (congrArg not hc27))) (by decide) ?_
        refine da_off rfl (Eq.trans (show sl _ _ _ = .bool (!m24) from rfl) (congrArg Value.bool (congrArg not hc27))) (by decide) ?_
        refine da_op rfl (d_pick (b := true) (Eq.trans (show ev _ _ = .bool (!m24) from rfl) (congrArg Value.bool (congrArg not hc27))) ?_)
        refine da_nil ?_
        subst hr
        exact ⟨rfl, (Ext.trans (Ext.refl w19) E25)⟩
    · skip
      rintro σ22 w22 o22 ⟨s28_22, E22⟩
      have X28 : Ext w w22 := X20.trans E22
      refine W_cond (b := m22) s28_22 (fun hc29 => ?_) (fun hc29 => ?_)
      · skip
        replace hr := bif_t hr hc29
        refine W_seq ?_
        refine W_region rfl ?_
        refine da_op rfl (d_as (v := .bool false) rfl ?_)
        refine da_nil ?_
        refine W_ret ?_
        obtain rfl := Option.some.inj hr
        refine ⟨_, res1 (rv_tmp rfl), ?_⟩
        exact ⟨rfl, X28⟩
      · skip
        replace hr := bif_f hr hc29
        refine W_skip ?_
        refine W_seq ?_
        refine W_region rfl ?_
        refine da_op rfl (d_as (v := .bool true) rfl ?_)
        refine da_nil ?_
        refine W_ret ?_
        obtain rfl := Option.some.inj hr
        refine ⟨_, res1 (rv_tmp rfl), ?_⟩
        exact ⟨rfl, X28⟩
end Go.Proofs
