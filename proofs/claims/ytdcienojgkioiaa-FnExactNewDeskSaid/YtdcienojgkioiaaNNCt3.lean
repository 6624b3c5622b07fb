import Derived.Test.YtdcienojgkioiaaNNCt2
namespace Go.Proofs
open Go Go.Fl Go.RowKit Go.Rg
set_option maxRecDepth 100000
set_option linter.unusedVariables false
attribute [local irreducible] Go.Calls doAll Does DoesG W Wr
set_option maxHeartbeats 4000000 in
theorem c37 (p0 : Int) (p1 : Nat) (p2 : Nat) (p1r : Nat) (p2r : Nat) (r : SChain × Bool) (w : World) (hr : M.impl_RopeChain p0 p1 p2 = some r) (p1h : cn .f32 p1r = p1) (p2h : cn .f32 p2r = p2) :
    Calls Try.prog 37 #[.int .i64 p0, .float .f32 p1r, .float .f32 p2r] w fun e w' => ∃ q0v0a : Option Addr, ∃ q0v0n : Nat, ∃ q0v0c : Nat, ∃ q0v1a : Option Addr, ∃ q0v1n : Nat, ∃ q0v1c : Nat, ∃ q0v2a : Option Addr, ∃ q0v2n : Nat, ∃ q0v2c : Nat, ∃ q0v3a : Option Addr, ∃ q0v3n : Nat, ∃ q0v3c : Nat, e = .returned (.tuple #[.agg #[(Value.slice q0v0a q0v0n q0v0c), (Value.slice q0v1a q0v1n q0v1c), (Value.slice q0v2a q0v2n q0v2c), (Value.slice q0v3a q0v3n q0v3c)], .bool r.2]) ∧ OS w' 29 encSVector (Value.slice q0v0a q0v0n q0v0c) r.1.places ∧ (∀ k, (Value.slice q0v0a q0v0n q0v0c).ownBlock = some k → w.heap.size ≤ k) ∧ OS w' 29 encSVector (Value.slice q0v1a q0v1n q0v1c) r.1.before ∧ (∀ k, (Value.slice q0v1a q0v1n q0v1c).ownBlock = some k → w.heap.size ≤ k) ∧ OS w' 22 encF_f32 (Value.slice q0v2a q0v2n q0v2c) r.1.weights ∧ (∀ k, (Value.slice q0v2a q0v2n q0v2c).ownBlock = some k → w.heap.size ≤ k) ∧ OS w' 104 encSRod (Value.slice q0v3a q0v3n q0v3c) r.1.rods ∧ (∀ k, (Value.slice q0v3a q0v3n q0v3c).ownBlock = some k → w.heap.size ≤ k) ∧ (∀ k, (Value.slice q0v0a q0v0n q0v0c).ownBlock = some k → ¬ (Value.slice q0v1a q0v1n q0v1c).ownBlock = some k) ∧ (∀ k, (Value.slice q0v0a q0v0n q0v0c).ownBlock = some k → ¬ (Value.slice q0v2a q0v2n q0v2c).ownBlock = some k) ∧ (∀ k, (Value.slice q0v1a q0v1n q0v1c).ownBlock = some k → ¬ (Value.slice q0v2a q0v2n q0v2c).ownBlock = some k) ∧ (∀ k, (Value.slice q0v0a q0v0n q0v0c).ownBlock = some k → ¬ (Value.slice q0v3a q0v3n q0v3c).ownBlock = some k) ∧ (∀ k, (Value.slice q0v1a q0v1n q0v1c).ownBlock = some k → ¬ (Value.slice q0v3a q0v3n q0v3c).ownBlock = some k) ∧ (∀ k, (Value.slice q0v2a q0v2n q0v2c).ownBlock = some k → ¬ (Value.slice q0v3a q0v3n q0v3c).ownBlock = some k) ∧ Ext w w' := by
  refine calls_of_W Try.func37 rfl (Nat.le_of_ble_eq_true rfl) ?_
  refine W_seq ?_
  refine W_region rfl ?_
  refine da_op rfl (d_alloc (cs := #[.slice none 0 0, .slice none 0 0, .slice none 0 0, .slice none 0 0]) zero51 rfl fun w1 B1 E1 => ?_)
  have own2 : w.heap.size ≤ w.heap.size := Nat.le_trans (Ext.refl w).size (Nat.le_refl _)
  have X3 : Ext w w1 := (Ext.refl w).trans E1
  refine da_op rfl (d_as (v := .bool false) rfl ?_)
  refine da_nil ?_
  refine W_seq ?_
  refine W_seq ?_
  obtain ⟨m4, hm4, hr⟩ := letv_out hr
  refine W_cut (fun σ' w' => σ' 22 = .bool m4 ∧ Ext w1 w') rfl ?_ ?_
  · skip
    have hr := hm4
    refine da_op rfl (d_mv (v := .int .i64 p0) rfl ?_)
    obtain ⟨m5, hm5, hr⟩ := letv_out hr
    refine da_op rfl (d_cl (vs := [.int .i64 p0, .int .i64 2, .int .i64 24]) en54 (ac rfl (ac rfl (ac rfl rfl))) rfl ?_)
    refine (c54 p0 2 24 m5 w1 hm5 ).mono ?_
    rintro _ w6 ⟨rfl, E6⟩
    refine ⟨_, rfl, ?_⟩
    have X7 : Ext w w6 := X3.trans E6
    refine da_op rfl (d_not rfl ?_)
    refine da_op rfl (d_mv (v := .bool (!m5)) rfl ?_)
    rcases Bool.eq_false_or_eq_true m5 with hc8 | hc8
    · skip
      replace hr := bif_t hr hc8
      refine da_on rfl (Eq.trans (show sl _ _ _ = .bool (!m5) from rfl) (congrArg Value.bool (congrArg not hc8))) (d_mv (v := .float .f32 p1r) rfl ?_)
      obtain ⟨m9, hm9, hr⟩ := letv_out hr
      have B10 : w6.heap[w.heap.size]? = some (.cells #[.slice none 0 0, .slice none 0 0, .slice none 0 0, .slice none 0 0] 51 (0, 0)) := E6.heap B1
      refine da_on rfl (Eq.trans (show sl _ _ _ = .bool (!m5) from rfl) (congrArg Value.bool (congrArg not hc8))) (d_cl (vs := [.float .f32 p1r]) en70 (ac rfl rfl) rfl ?_)
      refine (c70 p1 p1r m9 w6 hm9 p1h).mono ?_
      rintro _ w11 ⟨rfl, E11⟩
      refine ⟨_, rfl, ?_⟩
      have X12 : Ext w w11 := X7.trans E11
      refine da_on rfl (Eq.trans (show sl _ _ _ = .bool (!m5) from rfl) (congrArg Value.bool (congrArg not hc8))) (d_not rfl ?_)
      refine da_op rfl (d_pick (b := false) (Eq.trans (show ev _ _ = .bool (!m5) from rfl) (congrArg Value.bool (congrArg not hc8))) ?_)
      refine da_op rfl (d_mv (v := .bool (!m9)) rfl ?_)
      rcases Bool.eq_false_or_eq_true m9 with hc13 | hc13
      · skip
        replace hr := bif_t hr hc13
        refine da_on rfl (Eq.trans (show sl _ _ _ = .bool (!m9) from rfl) (congrArg Value.bool (congrArg not hc13))) (d_mv (v := .float .f32 p2r) rfl ?_)
        obtain ⟨m14, hm14, hr⟩ := letv_out hr
        have B15 : w11.heap[w.heap.size]? = some (.cells #[.slice none 0 0, .slice none 0 0, .slice none 0 0, .slice none 0 0] 51 (0, 0)) := E11.heap B10
        refine da_on rfl (Eq.trans (show sl _ _ _ = .bool (!m9) from rfl) (congrArg Value.bool (congrArg not hc13))) (d_cl (vs := [.float .f32 p2r]) en70 (ac rfl rfl) rfl ?_)
        refine (c70 p2 p2r m14 w11 hm14 p2h).mono ?_
        rintro _ w16 ⟨rfl, E16⟩
        refine ⟨_, rfl, ?_⟩
        have X17 : Ext w w16 := X12.trans E16
        refine da_on rfl (Eq.trans (show sl _ _ _ = .bool (!m9) from rfl) (congrArg Value.bool (congrArg not hc13))) (d_not rfl ?_)
        refine da_op rfl (d_pick (b := false) (Eq.trans (show ev _ _ = .bool (!m9) from rfl) (congrArg Value.bool (congrArg not hc13))) ?_)
        refine da_nil ?_
        subst hr
        exact ⟨rfl, (Ext.trans (Ext.trans (Ext.trans (Ext.refl w1) E6) E11) E16)⟩
      · skip
        replace hr := bif_f hr hc13
        refine da_off rfl (Eq.trans (show sl _ _ _ = .bool (!m9) from rfl) (congrArg Value.bool (congrArg not hc13))) (by decide) ?_
        refine da_off rfl (Eq.trans (show sl _ _ _ = .bool (!m9) from rfl) (congrArg Value.bool (congrArg not hc13))) (by decide) ?_
        refine da_off rfl (Eq.trans (show sl _ _ _ = .bool (!m9) from rfl) (congrArg Value.bool (congrArg not hc13))) (by decide) ?_
        refine da_op rfl (d_pick (b := true) (Eq.trans (show ev _ _ = .bool (!m9) from rfl) (congrArg Value.bool (congrArg not hc13))) ?_)
        refine da_nil ?_
        subst hr
        exact ⟨rfl, (Ext.trans (Ext.trans (Ext.refl w1) E6) E11)⟩
    · skip
      replace hr := bif_f hr hc8
      refine da_off rfl (Eq.trans (show sl _ _ _ = .bool (!m5) from rfl) (congrArg Value.bool (congrArg not hc8))) (by decide) ?_
      refine da_off rfl (Eq.trans (show sl _ _ _ = .bool (!m5) from rfl) (congrArg Value.bool (congrArg not hc8))) (by decide) ?_
      refine da_off rfl (Eq.trans (show sl _ _ _ = .bool (!m5) from rfl) (congrArg Value.bool (congrArg not hc8))) (by decide) ?_
      refine da_op rfl (d_pick (b := true) (Eq.trans (show ev _ _ = .bool (!m5) from rfl) (congrArg Value.bool (congrArg not hc8))) ?_)
      refine da_op rfl (d_mv (v := .bool true) rfl ?_)
      refine da_off rfl rfl (by decide) ?_
      refine da_off rfl rfl (by decide) ?_
      refine da_off rfl rfl (by decide) ?_
      refine da_op rfl (d_pick (b := true) rfl ?_)
      refine da_nil ?_
      subst hr
      exact ⟨rfl, (Ext.trans (Ext.refl w1) E6)⟩
  · skip
    rintro σ4 w4 o4 ⟨s22_4, E4⟩
    have s0_4 : σ4 0 = .int .i64 p0 := (o4 0 rfl).trans rfl
    have s1_4 : σ4 1 = .float .f32 p1r := (o4 1 rfl).trans rfl
    have s2_4 : σ4 2 = .float .f32 p2r := (o4 2 rfl).trans rfl
    have s6_4 : σ4 6 = .pointer (some ⟨w.heap.size, 0, none⟩) := (o4 6 rfl).trans rfl
    have X18 : Ext w w4 := X3.trans E4
    refine W_cond (b := m4) s22_4 (fun hc19 => ?_) (fun hc19 => ?_)
    · skip
      replace hr := bif_t hr hc19
      refine W_seq ?_
      refine W_region rfl ?_
      refine da_op rfl (d_bd (vs := []) (cs := #[.slice none 0 0, .slice none 0 0, .slice none 0 0, .slice none 0 0]) rfl (by kernel_rfl) ?_)
      have B20 : w4.heap[w.heap.size]? = some (.cells #[.slice none 0 0, .slice none 0 0, .slice none 0 0, .slice none 0 0] 51 (0, 0)) := E4.heap B1
      refine da_op rfl (d_store (vs := #[.slice none 0 0, .slice none 0 0, .slice none 0 0, .slice none 0 0]) s6_4 rfl B20 size51 (Nat.le_of_ble_eq_true rfl) rfl fun w21 S21 => ?_)
      have X22 : Ext w w21 := Ext.step X18 S21.frmb (fun k _ hk => hk ▸ own2)
      have B23 : w21.heap[w.heap.size]? = some (.cells #[.slice none 0 0, .slice none 0 0, .slice none 0 0, .slice none 0 0] 51 (0, 0)) := S21.here
      refine da_op rfl (d_as (v := .bool false) rfl ?_)
      refine da_nil ?_
      refine W_ret ?_
      obtain rfl := Option.some.inj hr
      refine ⟨_, res2 (rv_cells (vs := #[.slice none 0 0, .slice none 0 0, .slice none 0 0, .slice none 0 0]) s6_4 agg51 size51 B23 rfl) (rv_tmp rfl), ?_⟩
      exact ⟨none, 0, 0, none, 0, 0, none, 0, 0, none, 0, 0, rfl, (OS.nil _ 29 encSVector), (fun k hk => by cases hk), (OS.nil _ 29 encSVector), (fun k hk => by cases hk), (OS.nil _ 22 encF_f32), (fun k hk => by cases hk), (OS.nil _ 104 encSRod), (fun k hk => by cases hk), (by intro k hk; cases hk), (by intro k hk; cases hk), (by intro k hk; cases hk), (by intro k hk; cases hk), (by intro k hk; cases hk), (by intro k hk; cases hk), X22⟩
    · skip
      replace hr := bif_f hr hc19
      refine W_skip ?_
      refine W_seq ?_
      refine W_region rfl ?_
      refine da_op rfl (d_bd (vs := []) (cs := #[.slice none 0 0, .slice none 0 0, .slice none 0 0, .slice none 0 0]) rfl (by kernel_rfl) ?_)
      have B25 : w4.heap[w.heap.size]? = some (.cells #[.slice none 0 0, .slice none 0 0, .slice none 0 0, .slice none 0 0] 51 (0, 0)) := E4.heap B1
      refine da_op rfl (d_alloc (cs := #[.slice none 0 0, .slice none 0 0, .slice none 0 0, .slice none 0 0]) zero51 rfl fun w24 B24 E24 => ?_)
      have own26 : w.heap.size ≤ w4.heap.size := Nat.le_trans X18.size (Nat.le_refl _)
      have sp27 : w.heap.size ≠ w4.heap.size := Nat.ne_of_lt (Nat.lt_of_lt_of_le (lt_heap B25) (Nat.le_refl _))
      have X28 : Ext w w24 := X18.trans E24
      refine da_op rfl (d_store (vs := #[.slice none 0 0, .slice none 0 0, .slice none 0 0, .slice none 0 0]) rfl rfl B24 size51 (Nat.le_of_ble_eq_true rfl) rfl fun w29 S29 => ?_)
      have X30 : Ext w w29 := Ext.step X28 S29.frmb (fun k _ hk => hk ▸ own26)
      have B31 : w29.heap[w4.heap.size]? = some (.cells #[.slice none 0 0, .slice none 0 0, .slice none 0 0, .slice none 0 0] 51 (0, 0)) := S29.here
      refine da_nil ?_
      refine W_seq ?_
      refine W_seq ?_
      refine W_region rfl ?_
      refine da_op rfl (d_mv (v := .int .i64 p0) s0_4 ?_)
      refine da_op rfl (d_mv (v := .int .i64 0) rfl ?_)
      refine da_nil ?_
      refine W_block ?_
      have B33 : w29.heap[w.heap.size]? = some (.cells #[.slice none 0 0, .slice none 0 0, .slice none 0 0, .slice none 0 0] 51 (0, 0)) := S29.frmb.heap sp27 (E24.heap B25)
      obtain ⟨m32, hm32, hr⟩ := bind_out hr
      refine W_loopM hm32 (fun (s32 : Int × SChain) σ w' => ∃ i32_1v0a : Option Addr, ∃ i32_1v0n : Nat, ∃ i32_1v0c : Nat, ∃ i32_1v1a : Option Addr, ∃ i32_1v1n : Nat, ∃ i32_1v1c : Nat, ∃ i32_1v2a : Option Addr, ∃ i32_1v2n : Nat, ∃ i32_1v2c : Nat, ∃ i32_1v3a : Option Addr, ∃ i32_1v3n : Nat, ∃ i32_1v3c : Nat, σ 26 = .int .i64 s32.1 ∧ σ 1 = .float .f32 p1r ∧ σ 2 = .float .f32 p2r ∧ σ 6 = .pointer (some ⟨w.heap.size, 0, none⟩) ∧ σ 8 = .pointer (some ⟨w4.heap.size, 0, none⟩) ∧ σ 25 = .int .i64 p0 ∧ OS w' 29 encSVector (Value.slice i32_1v0a i32_1v0n i32_1v0c) s32.2.places ∧ (∀ k, (Value.slice i32_1v0a i32_1v0n i32_1v0c).ownBlock = some k → w.heap.size ≤ k) ∧ OS w' 29 encSVector (Value.slice i32_1v1a i32_1v1n i32_1v1c) s32.2.before ∧ (∀ k, (Value.slice i32_1v1a i32_1v1n i32_1v1c).ownBlock = some k → w.heap.size ≤ k) ∧ OS w' 22 encF_f32 (Value.slice i32_1v2a i32_1v2n i32_1v2c) s32.2.weights ∧ (∀ k, (Value.slice i32_1v2a i32_1v2n i32_1v2c).ownBlock = some k → w.heap.size ≤ k) ∧ OS w' 104 encSRod (Value.slice i32_1v3a i32_1v3n i32_1v3c) s32.2.rods ∧ (∀ k, (Value.slice i32_1v3a i32_1v3n i32_1v3c).ownBlock = some k → w.heap.size ≤ k) ∧ w'.heap[w4.heap.size]? = some (.cells #[(Value.slice i32_1v0a i32_1v0n i32_1v0c), (Value.slice i32_1v1a i32_1v1n i32_1v1c), (Value.slice i32_1v2a i32_1v2n i32_1v2c), (Value.slice i32_1v3a i32_1v3n i32_1v3c)] 51 (0, 0)) ∧ w'.heap[w.heap.size]? = some (.cells #[.slice none 0 0, .slice none 0 0, .slice none 0 0, .slice none 0 0] 51 (0, 0)) ∧ ¬ (Value.slice i32_1v0a i32_1v0n i32_1v0c).ownBlock = some w.heap.size ∧ ¬ (Value.slice i32_1v0a i32_1v0n i32_1v0c).ownBlock = some w4.heap.size ∧ ¬ (Value.slice i32_1v1a i32_1v1n i32_1v1c).ownBlock = some w.heap.size ∧ ¬ (Value.slice i32_1v1a i32_1v1n i32_1v1c).ownBlock = some w4.heap.size ∧ ¬ (Value.slice i32_1v2a i32_1v2n i32_1v2c).ownBlock = some w.heap.size ∧ ¬ (Value.slice i32_1v2a i32_1v2n i32_1v2c).ownBlock = some w4.heap.size ∧ ¬ (Value.slice i32_1v3a i32_1v3n i32_1v3c).ownBlock = some w.heap.size ∧ ¬ (Value.slice i32_1v3a i32_1v3n i32_1v3c).ownBlock = some w4.heap.size ∧ (∀ k, (Value.slice i32_1v0a i32_1v0n i32_1v0c).ownBlock = some k → ¬ (Value.slice i32_1v1a i32_1v1n i32_1v1c).ownBlock = some k) ∧ (∀ k, (Value.slice i32_1v0a i32_1v0n i32_1v0c).ownBlock = some k → ¬ (Value.slice i32_1v2a i32_1v2n i32_1v2c).ownBlock = some k) ∧ (∀ k, (Value.slice i32_1v1a i32_1v1n i32_1v1c).ownBlock = some k → ¬ (Value.slice i32_1v2a i32_1v2n i32_1v2c).ownBlock = some k) ∧ (∀ k, (Value.slice i32_1v0a i32_1v0n i32_1v0c).ownBlock = some k → ¬ (Value.slice i32_1v3a i32_1v3n i32_1v3c).ownBlock = some k) ∧ (∀ k, (Value.slice i32_1v1a i32_1v1n i32_1v1c).ownBlock = some k → ¬ (Value.slice i32_1v3a i32_1v3n i32_1v3c).ownBlock = some k) ∧ (∀ k, (Value.slice i32_1v2a i32_1v2n i32_1v2c).ownBlock = some k → ¬ (Value.slice i32_1v3a i32_1v3n i32_1v3c).ownBlock = some k) ∧ Ext w w') (fun (e32 : SChain) ex σ w' => ex = .exit 0 ∧ ∃ q32_0_0v0a : Option Addr, ∃ q32_0_0v0n : Nat, ∃ q32_0_0v0c : Nat, ∃ q32_0_0v1a : Option Addr, ∃ q32_0_0v1n : Nat, ∃ q32_0_0v1c : Nat, ∃ q32_0_0v2a : Option Addr, ∃ q32_0_0v2n : Nat, ∃ q32_0_0v2c : Nat, ∃ q32_0_0v3a : Option Addr, ∃ q32_0_0v3n : Nat, ∃ q32_0_0v3c : Nat, σ 6 = .pointer (some ⟨w.heap.size, 0, none⟩) ∧ σ 8 = .pointer (some ⟨w4.heap.size, 0, none⟩) ∧ OS w' 29 encSVector (Value.slice q32_0_0v0a q32_0_0v0n q32_0_0v0c) e32.places ∧ (∀ k, (Value.slice q32_0_0v0a q32_0_0v0n q32_0_0v0c).ownBlock = some k → w.heap.size ≤ k) ∧ OS w' 29 encSVector (Value.slice q32_0_0v1a q32_0_0v1n q32_0_0v1c) e32.before ∧ (∀ k, (Value.slice q32_0_0v1a q32_0_0v1n q32_0_0v1c).ownBlock = some k → w.heap.size ≤ k) ∧ OS w' 22 encF_f32 (Value.slice q32_0_0v2a q32_0_0v2n q32_0_0v2c) e32.weights ∧ (∀ k, (Value.slice q32_0_0v2a q32_0_0v2n q32_0_0v2c).ownBlock = some k → w.heap.size ≤ k) ∧ OS w' 104 encSRod (Value.slice q32_0_0v3a q32_0_0v3n q32_0_0v3c) e32.rods ∧ (∀ k, (Value.slice q32_0_0v3a q32_0_0v3n q32_0_0v3c).ownBlock = some k → w.heap.size ≤ k) ∧ w'.heap[w4.heap.size]? = some (.cells #[(Value.slice q32_0_0v0a q32_0_0v0n q32_0_0v0c), (Value.slice q32_0_0v1a q32_0_0v1n q32_0_0v1c), (Value.slice q32_0_0v2a q32_0_0v2n q32_0_0v2c), (Value.slice q32_0_0v3a q32_0_0v3n q32_0_0v3c)] 51 (0, 0)) ∧ w'.heap[w.heap.size]? = some (.cells #[.slice none 0 0, .slice none 0 0, .slice none 0 0, .slice none 0 0] 51 (0, 0)) ∧ ¬ (Value.slice q32_0_0v0a q32_0_0v0n q32_0_0v0c).ownBlock = some w.heap.size ∧ ¬ (Value.slice q32_0_0v0a q32_0_0v0n q32_0_0v0c).ownBlock = some w4.heap.size ∧ ¬ (Value.slice q32_0_0v1a q32_0_0v1n q32_0_0v1c).ownBlock = some w.heap.size ∧ ¬ (Value.slice q32_0_0v1a q32_0_0v1n q32_0_0v1c).ownBlock = some w4.heap.size ∧ ¬ (Value.slice q32_0_0v2a q32_0_0v2n q32_0_0v2c).ownBlock = some w.heap.size ∧ ¬ (Value.slice q32_0_0v2a q32_0_0v2n q32_0_0v2c).ownBlock = some w4.heap.size ∧ ¬ (Value.slice q32_0_0v3a q32_0_0v3n q32_0_0v3c).ownBlock = some w.heap.size ∧ ¬ (Value.slice q32_0_0v3a q32_0_0v3n q32_0_0v3c).ownBlock = some w4.heap.size ∧ (∀ k, (Value.slice q32_0_0v0a q32_0_0v0n q32_0_0v0c).ownBlock = some k → ¬ (Value.slice q32_0_0v1a q32_0_0v1n q32_0_0v1c).ownBlock = some k) ∧ (∀ k, (Value.slice q32_0_0v0a q32_0_0v0n q32_0_0v0c).ownBlock = some k → ¬ (Value.slice q32_0_0v2a q32_0_0v2n q32_0_0v2c).ownBlock = some k) ∧ (∀ k, (Value.slice q32_0_0v1a q32_0_0v1n q32_0_0v1c).ownBlock = some k → ¬ (Value.slice q32_0_0v2a q32_0_0v2n q32_0_0v2c).ownBlock = some k) ∧ (∀ k, (Value.slice q32_0_0v0a q32_0_0v0n q32_0_0v0c).ownBlock = some k → ¬ (Value.slice q32_0_0v3a q32_0_0v3n q32_0_0v3c).ownBlock = some k) ∧ (∀ k, (Value.slice q32_0_0v1a q32_0_0v1n q32_0_0v1c).ownBlock = some k → ¬ (Value.slice q32_0_0v3a q32_0_0v3n q32_0_0v3c).ownBlock = some k) ∧ (∀ k, (Value.slice q32_0_0v2a q32_0_0v2n q32_0_0v2c).ownBlock = some k → ¬ (Value.slice q32_0_0v3a q32_0_0v3n q32_0_0v3c).ownBlock = some k) ∧ Ext w w') ⟨none, 0, 0, none, 0, 0, none, 0, 0, none, 0, 0, rfl, s1_4, s2_4, s6_4, rfl, rfl, (OS.nil _ 29 encSVector), (fun k hk => by cases hk), (OS.nil _ 29 encSVector), (fun k hk => by cases hk), (OS.nil _ 22 encF_f32), (fun k hk => by cases hk), (OS.nil _ 104 encSRod), (fun k hk => by cases hk), B31, B33, (by intro e; cases e), (by intro e; cases e), (by intro e; cases e), (by intro e; cases e), (by intro e; cases e), (by intro e; cases e), (by intro e; cases e), (by intro e; cases e), (by intro k hk; cases hk), (by intro k hk; cases hk), (by intro k hk; cases hk), (by intro k hk; cases hk), (by intro k hk; cases hk), (by intro k hk; cases hk), X30⟩ ?_ ?_
      · skip
        rintro s32 σl32 wl32 r32l ⟨i32_1v0a, i32_1v0n, i32_1v0c, i32_1v1a, i32_1v1n, i32_1v1c, i32_1v2a, i32_1v2n, i32_1v2c, i32_1v3a, i32_1v3n, i32_1v3c, i32_S26, i32_S1, i32_S2, i32_S6, i32_S8, i32_S25, i32_1v0R, i32_1v0O, i32_1v1R, i32_1v1O, i32_1v2R, i32_1v2O, i32_1v3R, i32_1v3O, i32_1B, i32_K0, i32_A0, i32_A1, i32_A2, i32_A3, i32_A4, i32_A5, i32_A6, i32_A7, i32_A8, i32_A9, i32_A10, i32_A11, i32_A12, i32_A13, i32_X⟩ hr
        refine W_seq ?_
        refine W_region rfl ?_
        refine da_op rfl (d_icmp cLss i32_S26 i32_S25 ?_)
        refine da_nil ?_
        refine W_seq ?_
        refine W_cond (b := (icmp .lss s32.1 p0)) rfl (fun hc34 => ?_) (fun hc34 => ?_)
        · skip
          replace hr := bif_t hr hc34
          refine W_skip ?_
          refine W_seq ?_
          refine W_block ?_
          refine W_seq ?_
          refine W_region rfl ?_
          refine da_op rfl (d_mv (v := .int .i64 s32.1) i32_S26 ?_)
          refine da_op rfl (d_as (v := .int .i64 s32.1) rfl ?_)
          refine da_nil ?_
          refine W_seq ?_
          refine W_region rfl ?_
          refine da_op rfl (d_mv (v := .int .i64 s32.1) rfl ?_)
          refine da_op rfl (d_ofInt un2 un22 rfl ?_)
          refine da_op rfl (d_mv (v := .float .f32 p1r) i32_S1 ?_)
          refine da_op rfl (d_fop (k := .f32) fMul rfl rfl (cn_fint _ _) p1h fun r35 w35 h35 _ E35 => ?_)
          have X36 : Ext w w35 := i32_X.trans E35
          refine da_op rfl (d_bd (vs := [(0, .float .f32 r35), (1, .float .f32 0), (2, .float .f32 0)]) (cs := #[.float .f32 r35, .float .f32 0, .float .f32 0]) (pc rfl (pc rfl (pc rfl rfl))) (by kernel_rfl) ?_)
          refine da_op rfl (d_mv (v := .float .f32 p2r) i32_S2 ?_)
          refine da_op rfl (d_cl (vs := [.pointer (some ⟨w4.heap.size, 0, none⟩), .agg #[.float .f32 r35, .float .f32 0, .float .f32 0], .float .f32 p2r]) en71 (ac i32_S8 (ac rfl (ac rfl rfl))) rfl ?_)
          refine calls_of_W Try.func71 rfl (Nat.le_of_ble_eq_true rfl) ?_
          refine W_seq ?_
          refine W_region rfl ?_
          have B38 : w35.heap[w.heap.size]? = some (.cells #[.slice none 0 0, .slice none 0 0, .slice none 0 0, .slice none 0 0] 51 (0, 0)) := E35.heap i32_K0
          have B39 : OS w35 29 encSVector (Value.slice i32_1v0a i32_1v0n i32_1v0c) s32.2.places := i32_1v0R.ext E35
          have B40 : OS w35 29 encSVector (Value.slice i32_1v1a i32_1v1n i32_1v1c) s32.2.before := i32_1v1R.ext E35
          have B41 : OS w35 22 encF_f32 (Value.slice i32_1v2a i32_1v2n i32_1v2c) s32.2.weights := i32_1v2R.ext E35
          have B42 : OS w35 104 encSRod (Value.slice i32_1v3a i32_1v3n i32_1v3c) s32.2.rods := i32_1v3R.ext E35
          have B43 : w35.heap[w4.heap.size]? = some (.cells #[(Value.slice i32_1v0a i32_1v0n i32_1v0c), (Value.slice i32_1v1a i32_1v1n i32_1v1c), (Value.slice i32_1v2a i32_1v2n i32_1v2c), (Value.slice i32_1v3a i32_1v3n i32_1v3c)] 51 (0, 0)) := E35.heap i32_1B
          refine da_op rfl (d_box (cs := #[.float .f32 r35, .float .f32 0, .float .f32 0]) rfl fun w37 B37 E37 => ?_)
          have own44 : w.heap.size ≤ w35.heap.size := Nat.le_trans X36.size (Nat.le_refl _)
          have sp45 : w.heap.size ≠ w35.heap.size := Nat.ne_of_lt (Nat.lt_of_lt_of_le (lt_heap B38) (Nat.le_refl _))
          have sp46 : ¬ (Value.slice i32_1v0a i32_1v0n i32_1v0c).ownBlock = some w35.heap.size := OS.ne_new B39 (Nat.le_refl _)
          have sp47 : ¬ (Value.slice i32_1v1a i32_1v1n i32_1v1c).ownBlock = some w35.heap.size := OS.ne_new B40 (Nat.le_refl _)
          have sp48 : ¬ (Value.slice i32_1v2a i32_1v2n i32_1v2c).ownBlock = some w35.heap.size := OS.ne_new B41 (Nat.le_refl _)
          have sp49 : ¬ (Value.slice i32_1v3a i32_1v3n i32_1v3c).ownBlock = some w35.heap.size := OS.ne_new B42 (Nat.le_refl _)
          have sp50 : w4.heap.size ≠ w35.heap.size := Nat.ne_of_lt (Nat.lt_of_lt_of_le (lt_heap B43) (Nat.le_refl _))
          have X51 : Ext w w37 := X36.trans E37
          refine da_nil ?_
          have B53 : w37.heap[w.heap.size]? = some (.cells #[.slice none 0 0, .slice none 0 0, .slice none 0 0, .slice none 0 0] 51 (0, 0)) := E37.heap B38
          have B54 : OS w37 29 encSVector (Value.slice i32_1v0a i32_1v0n i32_1v0c) s32.2.places := B39.ext E37
          have B55 : OS w37 29 encSVector (Value.slice i32_1v1a i32_1v1n i32_1v1c) s32.2.before := B40.ext E37
          have B56 : OS w37 22 encF_f32 (Value.slice i32_1v2a i32_1v2n i32_1v2c) s32.2.weights := B41.ext E37
          have B57 : OS w37 104 encSRod (Value.slice i32_1v3a i32_1v3n i32_1v3c) s32.2.rods := B42.ext E37
          have B58 : w37.heap[w4.heap.size]? = some (.cells #[(Value.slice i32_1v0a i32_1v0n i32_1v0c), (Value.slice i32_1v1a i32_1v1n i32_1v1c), (Value.slice i32_1v2a i32_1v2n i32_1v2c), (Value.slice i32_1v3a i32_1v3n i32_1v3c)] 51 (0, 0)) := E37.heap B43
          obtain ⟨m59, hm59, hr⟩ := bind_out hr
          obtain ⟨m60, hm60, hr⟩ := bind_out hr
          obtain ⟨m61, hm61, hr⟩ := bind_out hr
          refine W_anyF 24 [1, 2] [fun k _ => (Value.slice i32_1v0a i32_1v0n i32_1v0c).ownBlock = some k, fun k _ => (Value.slice i32_1v1a i32_1v1n i32_1v1c).ownBlock = some k, fun k _ => (Value.slice i32_1v2a i32_1v2n i32_1v2c).ownBlock = some k] [{ V := fun _ v _ => v = (.pointer (some ⟨w4.heap.size, 0, none⟩)) }, { V := fun _ v _ => v = (.pointer (some ⟨w4.heap.size, 0, none⟩)) }, { V := fun _ v _ => v = (.pointer (some ⟨w4.heap.size, 0, none⟩)) }, { V := fun _ v _ => v = (.pointer (some ⟨w4.heap.size, 0, none⟩)) }, { V := fun _ v _ => v = (.pointer (some ⟨w4.heap.size, 0, none⟩)) }, { V := fun _ v _ => v = (.pointer (some ⟨w4.heap.size, 0, none⟩)) }, { V := fun _ v _ => v = (Value.slice i32_1v0a i32_1v0n i32_1v0c) }, { V := fun _ v _ => v = (.agg #[.float .f32 r35, .float .f32 0, .float .f32 0]) }, { V := fun _ v w' => ∃ d52_8a : Option Addr, ∃ d52_8n : Nat, ∃ d52_8c : Nat, v = (Value.slice d52_8a d52_8n d52_8c) ∧ (∀ k, (Value.slice d52_8a d52_8n d52_8c).ownBlock = some k → w37.heap.size ≤ k) ∧ OS w' 29 encSVector (Value.slice d52_8a d52_8n d52_8c) ([(⟨(fop .mul .f32 (fint .f32 s32.1) p1), 0, 0⟩ : SVector)]) }, ⟨fun _ v w' => ∃ d52_9a : Option Addr, ∃ d52_9n : Nat, ∃ d52_9c : Nat, v = (Value.slice d52_9a d52_9n d52_9c) ∧ (∀ k, (Value.slice d52_9a d52_9n d52_9c).ownBlock = some k → (Value.slice i32_1v0a i32_1v0n i32_1v0c).ownBlock = some k ∨ w37.heap.size ≤ k) ∧ OS w' 29 encSVector (Value.slice d52_9a d52_9n d52_9c) m59, some 0, fun w' => OS w' 29 encSVector (Value.slice i32_1v0a i32_1v0n i32_1v0c) s32.2.places⟩, { V := fun _ v _ => v = (.pointer (some ⟨w4.heap.size, 0, none⟩)) }, { V := fun _ v _ => v = (.pointer (some ⟨w4.heap.size, 0, none⟩)) }, { V := fun _ v _ => v = (.pointer (some ⟨w4.heap.size, 1, none⟩)) }, { V := fun _ v _ => v = (Value.slice i32_1v1a i32_1v1n i32_1v1c) }, { V := fun _ v _ => v = (.agg #[.float .f32 r35, .float .f32 0, .float .f32 0]) }, { V := fun _ v w' => ∃ d52_15a : Option Addr, ∃ d52_15n : Nat, ∃ d52_15c : Nat, v = (Value.slice d52_15a d52_15n d52_15c) ∧ (∀ k, (Value.slice d52_15a d52_15n d52_15c).ownBlock = some k → w37.heap.size ≤ k) ∧ OS w' 29 encSVector (Value.slice d52_15a d52_15n d52_15c) ([(⟨(fop .mul .f32 (fint .f32 s32.1) p1), 0, 0⟩ : SVector)]) }, ⟨fun sg v w' => ∃ d52_16a : Option Addr, ∃ d52_16n : Nat, ∃ d52_16c : Nat, v = (Value.slice d52_16a d52_16n d52_16c) ∧ (∀ k, (Value.slice d52_16a d52_16n d52_16c).ownBlock = some k → (Value.slice i32_1v1a i32_1v1n i32_1v1c).ownBlock = some k ∨ w37.heap.size ≤ k) ∧ OS w' 29 encSVector (Value.slice d52_16a d52_16n d52_16c) m60 ∧ (∀ k, (sg 15).ownBlock = some k → ¬ (Value.slice d52_16a d52_16n d52_16c).ownBlock = some k), some 1, fun w' => OS w' 29 encSVector (Value.slice i32_1v1a i32_1v1n i32_1v1c) s32.2.before⟩, { V := fun _ v _ => v = (.pointer (some ⟨w4.heap.size, 0, none⟩)) }, { V := fun _ v _ => v = (.pointer (some ⟨w4.heap.size, 0, none⟩)) }, { V := fun _ v _ => v = (.pointer (some ⟨w4.heap.size, 2, none⟩)) }, { V := fun _ v _ => v = (Value.slice i32_1v2a i32_1v2n i32_1v2c) }, { V := fun _ v _ => v = (.float .f32 p2r) }, { V := fun _ v w' => ∃ d52_22a : Option Addr, ∃ d52_22n : Nat, ∃ d52_22c : Nat, v = (Value.slice d52_22a d52_22n d52_22c) ∧ (∀ k, (Value.slice d52_22a d52_22n d52_22c).ownBlock = some k → w37.heap.size ≤ k) ∧ OS w' 22 encF_f32 (Value.slice d52_22a d52_22n d52_22c) ([p2]) }, ⟨fun _ v w' => ∃ d52_23a : Option Addr, ∃ d52_23n : Nat, ∃ d52_23c : Nat, v = (Value.slice d52_23a d52_23n d52_23c) ∧ (∀ k, (Value.slice d52_23a d52_23n d52_23c).ownBlock = some k → (Value.slice i32_1v2a i32_1v2n i32_1v2c).ownBlock = some k ∨ w37.heap.size ≤ k) ∧ OS w' 22 encF_f32 (Value.slice d52_23a d52_23n d52_23c) m61, some 2, fun w' => OS w' 22 encF_f32 (Value.slice i32_1v2a i32_1v2n i32_1v2c) s32.2.weights⟩] mixed (by kernel_rfl) ⟨trivial, trivial, trivial, trivial, trivial, trivial, trivial, trivial, trivial, B54, trivial, trivial, trivial, trivial, trivial, trivial, B55, trivial, trivial, trivial, trivial, trivial, trivial, B56, trivial⟩ ⟨?_, ?_, ?_, ?_, ?_, ?_, ?_, ?_, ?_, ?_, ?_, ?_, ?_, ?_, ?_, ?_, ?_, ?_, ?_, ?_, ?_, ?_, ?_, ?_, trivial⟩ ?_
          · skip
            refine ⟨fun _ _ _ _ _ _ h _ => h, fun _ _ h _ => h, fun σ' w' hA hE hD hP => ?_⟩
            have t0 : σ' 0 = .pointer (some ⟨w4.heap.size, 0, none⟩) := (hA 0 rfl).trans rfl
            have B0_62 : w'.heap[w4.heap.size]? = some (.cells #[(Value.slice i32_1v0a i32_1v0n i32_1v0c), (Value.slice i32_1v1a i32_1v1n i32_1v1c), (Value.slice i32_1v2a i32_1v2n i32_1v2c), (Value.slice i32_1v3a i32_1v3n i32_1v3c)] 51 (0, 0)) := hE.heap (not_othN ⟨.inr i32_A1, ⟨.inr i32_A3, ⟨.inr i32_A5, trivial⟩⟩⟩) B58
            have B0_66 : OS w' 104 encSRod (Value.slice i32_1v3a i32_1v3n i32_1v3c) s32.2.rods := B57.frm hE (fun k hk => (not_othN ⟨.inr ((apart_symm i32_A11) k hk), ⟨.inr ((apart_symm i32_A12) k hk), ⟨.inr ((apart_symm i32_A13) k hk), trivial⟩⟩⟩))
            refine dg_op rfl (d_mv (v := .pointer (some ⟨w4.heap.size, 0, none⟩)) t0 ?_)
            exact ⟨rfl, own_none (Ext.refl w')⟩
          · skip
            refine ⟨fun _ _ _ _ _ _ h _ => h, fun _ _ h _ => h, fun σ' w' hA hE hD hP => ?_⟩
            have t0 : σ' 0 = .pointer (some ⟨w4.heap.size, 0, none⟩) := (hA 0 rfl).trans rfl
            have B0_67 : w'.heap[w4.heap.size]? = some (.cells #[(Value.slice i32_1v0a i32_1v0n i32_1v0c), (Value.slice i32_1v1a i32_1v1n i32_1v1c), (Value.slice i32_1v2a i32_1v2n i32_1v2c), (Value.slice i32_1v3a i32_1v3n i32_1v3c)] 51 (0, 0)) := hE.heap (not_othN ⟨.inr i32_A1, ⟨.inr i32_A3, ⟨.inr i32_A5, trivial⟩⟩⟩) B58
            have B0_71 : OS w' 104 encSRod (Value.slice i32_1v3a i32_1v3n i32_1v3c) s32.2.rods := B57.frm hE (fun k hk => (not_othN ⟨.inr ((apart_symm i32_A11) k hk), ⟨.inr ((apart_symm i32_A12) k hk), ⟨.inr ((apart_symm i32_A13) k hk), trivial⟩⟩⟩))
            refine dg_op rfl (d_mv (v := .pointer (some ⟨w4.heap.size, 0, none⟩)) t0 ?_)
            exact ⟨rfl, own_none (Ext.refl w')⟩
          · skip
            refine ⟨fun _ _ _ _ _ _ h _ => h, fun _ _ h _ => h, fun σ' w' hA hE hD hP => ?_⟩
            have t0 : σ' 0 = .pointer (some ⟨w4.heap.size, 0, none⟩) := (hA 0 rfl).trans rfl
            have B0_72 : w'.heap[w4.heap.size]? = some (.cells #[(Value.slice i32_1v0a i32_1v0n i32_1v0c), (Value.slice i32_1v1a i32_1v1n i32_1v1c), (Value.slice i32_1v2a i32_1v2n i32_1v2c), (Value.slice i32_1v3a i32_1v3n i32_1v3c)] 51 (0, 0)) := hE.heap (not_othN ⟨.inr i32_A1, ⟨.inr i32_A3, ⟨.inr i32_A5, trivial⟩⟩⟩) B58
            have B0_76 : OS w' 104 encSRod (Value.slice i32_1v3a i32_1v3n i32_1v3c) s32.2.rods := B57.frm hE (fun k hk => (not_othN ⟨.inr ((apart_symm i32_A11) k hk), ⟨.inr ((apart_symm i32_A12) k hk), ⟨.inr ((apart_symm i32_A13) k hk), trivial⟩⟩⟩))
            refine dg_op rfl (d_mv (v := .pointer (some ⟨w4.heap.size, 0, none⟩)) t0 ?_)
            exact ⟨rfl, own_none (Ext.refl w')⟩
          · skip
            refine ⟨fun _ _ _ _ _ _ h _ => h, fun _ _ h _ => h, fun σ' w' hA hE hD hP => ?_⟩
            have t0 : σ' 0 = .pointer (some ⟨w4.heap.size, 0, none⟩) := (hA 0 rfl).trans rfl
            have B0_77 : w'.heap[w4.heap.size]? = some (.cells #[(Value.slice i32_1v0a i32_1v0n i32_1v0c), (Value.slice i32_1v1a i32_1v1n i32_1v1c), (Value.slice i32_1v2a i32_1v2n i32_1v2c), (Value.slice i32_1v3a i32_1v3n i32_1v3c)] 51 (0, 0)) := hE.heap (not_othN ⟨.inr i32_A1, ⟨.inr i32_A3, ⟨.inr i32_A5, trivial⟩⟩⟩) B58
            have B0_81 : OS w' 104 encSRod (Value.slice i32_1v3a i32_1v3n i32_1v3c) s32.2.rods := B57.frm hE (fun k hk => (not_othN ⟨.inr ((apart_symm i32_A11) k hk), ⟨.inr ((apart_symm i32_A12) k hk), ⟨.inr ((apart_symm i32_A13) k hk), trivial⟩⟩⟩))
            refine dg_op rfl (d_mv (v := .pointer (some ⟨w4.heap.size, 0, none⟩)) t0 ?_)
            exact ⟨rfl, own_none (Ext.refl w')⟩
          · skip
            refine ⟨fun _ _ _ _ _ _ h _ => h, fun _ _ h _ => h, fun σ' w' hA hE hD hP => ?_⟩
            have t9 : σ' 9 = (.pointer (some ⟨w4.heap.size, 0, none⟩)) := hD 3 rfl
            have B0_82 : w'.heap[w4.heap.size]? = some (.cells #[(Value.slice i32_1v0a i32_1v0n i32_1v0c), (Value.slice i32_1v1a i32_1v1n i32_1v1c), (Value.slice i32_1v2a i32_1v2n i32_1v2c), (Value.slice i32_1v3a i32_1v3n i32_1v3c)] 51 (0, 0)) := hE.heap (not_othN ⟨.inr i32_A1, ⟨.inr i32_A3, ⟨.inr i32_A5, trivial⟩⟩⟩) B58
            have B0_86 : OS w' 104 encSRod (Value.slice i32_1v3a i32_1v3n i32_1v3c) s32.2.rods := B57.frm hE (fun k hk => (not_othN ⟨.inr ((apart_symm i32_A11) k hk), ⟨.inr ((apart_symm i32_A12) k hk), ⟨.inr ((apart_symm i32_A13) k hk), trivial⟩⟩⟩))
            refine dg_op rfl (d_nil t9 ?_)
            exact ⟨rfl, own_none (Ext.refl w')⟩
          · skip
            refine ⟨fun _ _ _ _ _ _ h _ => h, fun _ _ h _ => h, fun σ' w' hA hE hD hP => ?_⟩
            have t10 : σ' 10 = (.pointer (some ⟨w4.heap.size, 0, none⟩)) := hD 4 rfl
            have B0_87 : w'.heap[w4.heap.size]? = some (.cells #[(Value.slice i32_1v0a i32_1v0n i32_1v0c), (Value.slice i32_1v1a i32_1v1n i32_1v1c), (Value.slice i32_1v2a i32_1v2n i32_1v2c), (Value.slice i32_1v3a i32_1v3n i32_1v3c)] 51 (0, 0)) := hE.heap (not_othN ⟨.inr i32_A1, ⟨.inr i32_A3, ⟨.inr i32_A5, trivial⟩⟩⟩) B58
            have B0_91 : OS w' 104 encSRod (Value.slice i32_1v3a i32_1v3n i32_1v3c) s32.2.rods := B57.frm hE (fun k hk => (not_othN ⟨.inr ((apart_symm i32_A11) k hk), ⟨.inr ((apart_symm i32_A12) k hk), ⟨.inr ((apart_symm i32_A13) k hk), trivial⟩⟩⟩))
            refine dg_op rfl (d_fieldAddr t10 (fa51_0 _ _) ?_)
            exact ⟨rfl, own_none (Ext.refl w')⟩
          · skip
            refine ⟨fun _ _ _ _ _ _ h _ => h, fun _ _ h _ => h, fun σ' w' hA hE hD hP => ?_⟩
            have t11 : σ' 11 = (.pointer (some ⟨w4.heap.size, 0, none⟩)) := hD 5 rfl
            have B0_92 : w'.heap[w4.heap.size]? = some (.cells #[(Value.slice i32_1v0a i32_1v0n i32_1v0c), (Value.slice i32_1v1a i32_1v1n i32_1v1c), (Value.slice i32_1v2a i32_1v2n i32_1v2c), (Value.slice i32_1v3a i32_1v3n i32_1v3c)] 51 (0, 0)) := hE.heap (not_othN ⟨.inr i32_A1, ⟨.inr i32_A3, ⟨.inr i32_A5, trivial⟩⟩⟩) B58
            have B0_93 : OS w' 29 encSVector (Value.slice i32_1v0a i32_1v0n i32_1v0c) s32.2.places := (hP 9 _ _ rfl rfl (.inr rfl)).1
            have B0_96 : OS w' 104 encSRod (Value.slice i32_1v3a i32_1v3n i32_1v3c) s32.2.rods := B57.frm hE (fun k hk => (not_othN ⟨.inr ((apart_symm i32_A11) k hk), ⟨.inr ((apart_symm i32_A12) k hk), ⟨.inr ((apart_symm i32_A13) k hk), trivial⟩⟩⟩))
            refine dg_op rfl (d_load (v := (Value.slice i32_1v0a i32_1v0n i32_1v0c)) t11 agg33 B0_92 rfl ?_)
            exact ⟨rfl, own_none (Ext.refl w')⟩
          · skip
            refine ⟨fun _ _ _ _ _ _ h _ => h, fun _ _ h _ => h, fun σ' w' hA hE hD hP => ?_⟩
            have t4 : σ' 4 = .pointer (some ⟨w35.heap.size, 0, none⟩) := (hA 4 rfl).trans rfl
            have B0_97 : w'.heap[w35.heap.size]? = some (.cells #[.float .f32 r35, .float .f32 0, .float .f32 0] 29 (0, 0)) := hE.heap (not_othN ⟨.inr sp46, ⟨.inr sp47, ⟨.inr sp48, trivial⟩⟩⟩) B37
            refine dg_op rfl (d_loads (vs := #[.float .f32 r35, .float .f32 0, .float .f32 0]) t4 agg29 size29 B0_97 rfl ?_)
            exact ⟨rfl, own_none (Ext.refl w')⟩
          · skip
            refine ⟨fun _ _ _ w' w'' _ ⟨d52_8a, d52_8n, d52_8c, hv, d52_8L, d52_8R⟩ hF => ⟨d52_8a, d52_8n, d52_8c, hv, d52_8L, d52_8R.frm hF (fun k hk => (not_othN ⟨.inr (nb_row B54 (d52_8L k hk)), ⟨.inr (nb_row B55 (d52_8L k hk)), ⟨.inr (nb_row B56 (d52_8L k hk)), trivial⟩⟩⟩))⟩, fun _ _ h _ => h, fun σ' w' hA hE hD hP => ?_⟩
            have t13 : σ' 13 = (.agg #[.float .f32 r35, .float .f32 0, .float .f32 0]) := hD 7 rfl
            refine dg_op rfl (d_bslice (vs := [(0, .agg #[.float .f32 r35, .float .f32 0, .float .f32 0])]) (cs := #[.float .f32 r35, .float .f32 0, .float .f32 0]) un33 (pc t13 rfl) (by kernel_rfl) fun w98 B98 E98 => ?_)
            have fr98 : ∀ k, (Value.slice (some ⟨w'.heap.size, 0, none⟩) 1 1).ownBlock = some k → w'.heap.size ≤ k := fun k hk => by cases hk; exact Nat.le_refl _
            have X99 : Ext w' w98 := (Ext.refl w').trans E98
            have O98 : OS w98 29 encSVector (Value.slice (some ⟨w'.heap.size, 0, none⟩) 1 1) [(⟨(fop .mul .f32 (fint .f32 s32.1) p1), 0, 0⟩ : SVector)] := OS.box (xs := [(⟨(fop .mul .f32 (fint .f32 s32.1) p1), 0, 0⟩ : SVector)]) B98 (lc_f h35 (lc_f cn_f32_0 (lc_f cn_f32_0 rfl))) (Nat.le_of_ble_eq_true rfl)
            exact ⟨⟨(some ⟨w'.heap.size, 0, none⟩), 1, 1, rfl, (fun k hk => Nat.le_trans hE.size (fr98 k hk)), O98⟩, own_none X99⟩
          · skip
            refine ⟨fun _ _ _ w' w'' _ ⟨d52_9a, d52_9n, d52_9c, hv, d52_9L, d52_9R⟩ hF => ⟨d52_9a, d52_9n, d52_9c, hv, d52_9L, d52_9R.frm hF (fun k hk => (not_othN ⟨.inl rfl, ⟨.inr (nb_row2 (d52_9L k hk) i32_A8 B55), ⟨.inr (nb_row2 (d52_9L k hk) i32_A9 B56), trivial⟩⟩⟩))⟩, fun _ _ h hF => h.frm hF (fun k hk => (not_othN ⟨.inl rfl, ⟨.inr (i32_A8 k hk), ⟨.inr (i32_A9 k hk), trivial⟩⟩⟩)), fun σ' w' hA hE hD hP => ?_⟩
            have t12 : σ' 12 = (Value.slice i32_1v0a i32_1v0n i32_1v0c) := hD 6 rfl
            obtain ⟨d52_8a, d52_8n, d52_8c, t14, d52_8L, d52_8R⟩ : ∃ d52_8a : Option Addr, ∃ d52_8n : Nat, ∃ d52_8c : Nat, σ' 14 = (Value.slice d52_8a d52_8n d52_8c) ∧ (∀ k, (Value.slice d52_8a d52_8n d52_8c).ownBlock = some k → w37.heap.size ≤ k) ∧ OS w' 29 encSVector (Value.slice d52_8a d52_8n d52_8c) ([(⟨(fop .mul .f32 (fint .f32 s32.1) p1), 0, 0⟩ : SVector)]) := hD 8 rfl
            have B0_100 : OS w' 29 encSVector (Value.slice i32_1v0a i32_1v0n i32_1v0c) s32.2.places := (hP 9 _ _ rfl rfl (.inl rfl)).1
            refine dg_op rfl (d_append (e := encSVector) (v := (Value.slice i32_1v0a i32_1v0n i32_1v0c)) (y := (Value.slice d52_8a d52_8n d52_8c)) un33 info29 rfl (by kernel_rfl) (by kernel_rfl) (by decide) (by decide) t12 t14 B0_100 d52_8R.rs hm59 fun v101 w101 O101 Fm101 at_101 nl101 => ?_)
            obtain ⟨v101pa, v101pn, v101pc, rfl⟩ := O101.vals
            exact ⟨⟨v101pa, v101pn, v101pc, rfl, (app_loc at_101 hE.size), O101⟩, own_some (j := 0) rfl Fm101⟩
          · skip
            refine ⟨fun _ _ _ _ _ _ h _ => h, fun _ _ h _ => h, fun σ' w' hA hE hD hP => ?_⟩
            have t0 : σ' 0 = .pointer (some ⟨w4.heap.size, 0, none⟩) := (hA 0 rfl).trans rfl
            have B0_102 : w'.heap[w4.heap.size]? = some (.cells #[(Value.slice i32_1v0a i32_1v0n i32_1v0c), (Value.slice i32_1v1a i32_1v1n i32_1v1c), (Value.slice i32_1v2a i32_1v2n i32_1v2c), (Value.slice i32_1v3a i32_1v3n i32_1v3c)] 51 (0, 0)) := hE.heap (not_othN ⟨.inr i32_A1, ⟨.inr i32_A3, ⟨.inr i32_A5, trivial⟩⟩⟩) B58
            have B0_106 : OS w' 104 encSRod (Value.slice i32_1v3a i32_1v3n i32_1v3c) s32.2.rods := B57.frm hE (fun k hk => (not_othN ⟨.inr ((apart_symm i32_A11) k hk), ⟨.inr ((apart_symm i32_A12) k hk), ⟨.inr ((apart_symm i32_A13) k hk), trivial⟩⟩⟩))
            refine dg_op rfl (d_mv (v := .pointer (some ⟨w4.heap.size, 0, none⟩)) t0 ?_)
            exact ⟨rfl, own_none (Ext.refl w')⟩
          · skip
            refine ⟨fun _ _ _ _ _ _ h _ => h, fun _ _ h _ => h, fun σ' w' hA hE hD hP => ?_⟩
            have t16 : σ' 16 = (.pointer (some ⟨w4.heap.size, 0, none⟩)) := hD 10 rfl
            have B0_107 : w'.heap[w4.heap.size]? = some (.cells #[(Value.slice i32_1v0a i32_1v0n i32_1v0c), (Value.slice i32_1v1a i32_1v1n i32_1v1c), (Value.slice i32_1v2a i32_1v2n i32_1v2c), (Value.slice i32_1v3a i32_1v3n i32_1v3c)] 51 (0, 0)) := hE.heap (not_othN ⟨.inr i32_A1, ⟨.inr i32_A3, ⟨.inr i32_A5, trivial⟩⟩⟩) B58
            have B0_111 : OS w' 104 encSRod (Value.slice i32_1v3a i32_1v3n i32_1v3c) s32.2.rods := B57.frm hE (fun k hk => (not_othN ⟨.inr ((apart_symm i32_A11) k hk), ⟨.inr ((apart_symm i32_A12) k hk), ⟨.inr ((apart_symm i32_A13) k hk), trivial⟩⟩⟩))
            refine dg_op rfl (d_nil t16 ?_)
            exact ⟨rfl, own_none (Ext.refl w')⟩
          · skip
            refine ⟨fun _ _ _ _ _ _ h _ => h, fun _ _ h _ => h, fun σ' w' hA hE hD hP => ?_⟩
            have t17 : σ' 17 = (.pointer (some ⟨w4.heap.size, 0, none⟩)) := hD 11 rfl
            have B0_112 : w'.heap[w4.heap.size]? = some (.cells #[(Value.slice i32_1v0a i32_1v0n i32_1v0c), (Value.slice i32_1v1a i32_1v1n i32_1v1c), (Value.slice i32_1v2a i32_1v2n i32_1v2c), (Value.slice i32_1v3a i32_1v3n i32_1v3c)] 51 (0, 0)) := hE.heap (not_othN ⟨.inr i32_A1, ⟨.inr i32_A3, ⟨.inr i32_A5, trivial⟩⟩⟩) B58
            have B0_116 : OS w' 104 encSRod (Value.slice i32_1v3a i32_1v3n i32_1v3c) s32.2.rods := B57.frm hE (fun k hk => (not_othN ⟨.inr ((apart_symm i32_A11) k hk), ⟨.inr ((apart_symm i32_A12) k hk), ⟨.inr ((apart_symm i32_A13) k hk), trivial⟩⟩⟩))
            refine dg_op rfl (d_fieldAddr t17 (fa51_1 _ _) ?_)
            exact ⟨rfl, own_none (Ext.refl w')⟩
          · skip
            refine ⟨fun _ _ _ _ _ _ h _ => h, fun _ _ h _ => h, fun σ' w' hA hE hD hP => ?_⟩
            have t18 : σ' 18 = (.pointer (some ⟨w4.heap.size, 1, none⟩)) := hD 12 rfl
            have B0_117 : w'.heap[w4.heap.size]? = some (.cells #[(Value.slice i32_1v0a i32_1v0n i32_1v0c), (Value.slice i32_1v1a i32_1v1n i32_1v1c), (Value.slice i32_1v2a i32_1v2n i32_1v2c), (Value.slice i32_1v3a i32_1v3n i32_1v3c)] 51 (0, 0)) := hE.heap (not_othN ⟨.inr i32_A1, ⟨.inr i32_A3, ⟨.inr i32_A5, trivial⟩⟩⟩) B58
            have B0_119 : OS w' 29 encSVector (Value.slice i32_1v1a i32_1v1n i32_1v1c) s32.2.before := (hP 16 _ _ rfl rfl (.inr rfl)).1
            have B0_121 : OS w' 104 encSRod (Value.slice i32_1v3a i32_1v3n i32_1v3c) s32.2.rods := B57.frm hE (fun k hk => (not_othN ⟨.inr ((apart_symm i32_A11) k hk), ⟨.inr ((apart_symm i32_A12) k hk), ⟨.inr ((apart_symm i32_A13) k hk), trivial⟩⟩⟩))
            refine dg_op rfl (d_load (v := (Value.slice i32_1v1a i32_1v1n i32_1v1c)) t18 agg33 B0_117 rfl ?_)
            exact ⟨rfl, own_none (Ext.refl w')⟩
          · skip
            refine ⟨fun _ _ _ _ _ _ h _ => h, fun _ _ h _ => h, fun σ' w' hA hE hD hP => ?_⟩
            have t4 : σ' 4 = .pointer (some ⟨w35.heap.size, 0, none⟩) := (hA 4 rfl).trans rfl
            have B0_122 : w'.heap[w35.heap.size]? = some (.cells #[.float .f32 r35, .float .f32 0, .float .f32 0] 29 (0, 0)) := hE.heap (not_othN ⟨.inr sp46, ⟨.inr sp47, ⟨.inr sp48, trivial⟩⟩⟩) B37
            refine dg_op rfl (d_loads (vs := #[.float .f32 r35, .float .f32 0, .float .f32 0]) t4 agg29 size29 B0_122 rfl ?_)
            exact ⟨rfl, own_none (Ext.refl w')⟩
          · skip
            refine ⟨fun _ _ _ w' w'' _ ⟨d52_15a, d52_15n, d52_15c, hv, d52_15L, d52_15R⟩ hF => ⟨d52_15a, d52_15n, d52_15c, hv, d52_15L, d52_15R.frm hF (fun k hk => (not_othN ⟨.inr (nb_row B54 (d52_15L k hk)), ⟨.inr (nb_row B55 (d52_15L k hk)), ⟨.inr (nb_row B56 (d52_15L k hk)), trivial⟩⟩⟩))⟩, fun _ _ h _ => h, fun σ' w' hA hE hD hP => ?_⟩
            have t20 : σ' 20 = (.agg #[.float .f32 r35, .float .f32 0, .float .f32 0]) := hD 14 rfl
            refine dg_op rfl (d_bslice (vs := [(0, .agg #[.float .f32 r35, .float .f32 0, .float .f32 0])]) (cs := #[.float .f32 r35, .float .f32 0, .float .f32 0]) un33 (pc t20 rfl) (by kernel_rfl) fun w123 B123 E123 => ?_)
            have fr123 : ∀ k, (Value.slice (some ⟨w'.heap.size, 0, none⟩) 1 1).ownBlock = some k → w'.heap.size ≤ k := fun k hk => by cases hk; exact Nat.le_refl _
            have X124 : Ext w' w123 := (Ext.refl w').trans E123
            have O123 : OS w123 29 encSVector (Value.slice (some ⟨w'.heap.size, 0, none⟩) 1 1) [(⟨(fop .mul .f32 (fint .f32 s32.1) p1), 0, 0⟩ : SVector)] := OS.box (xs := [(⟨(fop .mul .f32 (fint .f32 s32.1) p1), 0, 0⟩ : SVector)]) B123 (lc_f h35 (lc_f cn_f32_0 (lc_f cn_f32_0 rfl))) (Nat.le_of_ble_eq_true rfl)
            exact ⟨⟨(some ⟨w'.heap.size, 0, none⟩), 1, 1, rfl, (fun k hk => Nat.le_trans hE.size (fr123 k hk)), O123⟩, own_none X124⟩
          · skip
            refine ⟨fun _ _ _ w' w'' hs ⟨d52_16a, d52_16n, d52_16c, hv, d52_16L, d52_16R, d52_16P9⟩ hF => ⟨d52_16a, d52_16n, d52_16c, hv, d52_16L, d52_16R.frm hF (fun k hk => (not_othN ⟨.inr (nb_row2 (d52_16L k hk) (apart_symm i32_A8) B54), ⟨.inl rfl, ⟨.inr (nb_row2 (d52_16L k hk) i32_A10 B56), trivial⟩⟩⟩)), (fun k hk => d52_16P9 k ((congrArg Value.ownBlock (hs 9 rfl)).symm.trans hk))⟩, fun _ _ h hF => h.frm hF (fun k hk => (not_othN ⟨.inr ((apart_symm i32_A8) k hk), ⟨.inl rfl, ⟨.inr (i32_A10 k hk), trivial⟩⟩⟩)), fun σ' w' hA hE hD hP => ?_⟩
            obtain ⟨d52_9a, d52_9n, d52_9c, t15, d52_9L, d52_9R⟩ : ∃ d52_9a : Option Addr, ∃ d52_9n : Nat, ∃ d52_9c : Nat, σ' 15 = (Value.slice d52_9a d52_9n d52_9c) ∧ (∀ k, (Value.slice d52_9a d52_9n d52_9c).ownBlock = some k → (Value.slice i32_1v0a i32_1v0n i32_1v0c).ownBlock = some k ∨ w37.heap.size ≤ k) ∧ OS w' 29 encSVector (Value.slice d52_9a d52_9n d52_9c) m59 := hD 9 rfl
            have t19 : σ' 19 = (Value.slice i32_1v1a i32_1v1n i32_1v1c) := hD 13 rfl
            obtain ⟨d52_15a, d52_15n, d52_15c, t21, d52_15L, d52_15R⟩ : ∃ d52_15a : Option Addr, ∃ d52_15n : Nat, ∃ d52_15c : Nat, σ' 21 = (Value.slice d52_15a d52_15n d52_15c) ∧ (∀ k, (Value.slice d52_15a d52_15n d52_15c).ownBlock = some k → w37.heap.size ≤ k) ∧ OS w' 29 encSVector (Value.slice d52_15a d52_15n d52_15c) ([(⟨(fop .mul .f32 (fint .f32 s32.1) p1), 0, 0⟩ : SVector)]) := hD 15 rfl
            have B0_125 : OS w' 29 encSVector (Value.slice i32_1v1a i32_1v1n i32_1v1c) s32.2.before := (hP 16 _ _ rfl rfl (.inl rfl)).1
            refine dg_op rfl (d_append (e := encSVector) (v := (Value.slice i32_1v1a i32_1v1n i32_1v1c)) (y := (Value.slice d52_15a d52_15n d52_15c)) un33 info29 rfl (by kernel_rfl) (by kernel_rfl) (by decide) (by decide) t19 t21 B0_125 d52_15R.rs hm60 fun v126 w126 O126 Fm126 at_126 nl126 => ?_)
            obtain ⟨v126pa, v126pn, v126pc, rfl⟩ := O126.vals
            exact ⟨⟨v126pa, v126pn, v126pc, rfl, (app_loc at_126 hE.size), O126, (app_ap t15 d52_9L d52_9R at_126 i32_A8 B55)⟩, own_some (j := 1) rfl Fm126⟩
          · skip
            refine ⟨fun _ _ _ _ _ _ h _ => h, fun _ _ h _ => h, fun σ' w' hA hE hD hP => ?_⟩
            have t0 : σ' 0 = .pointer (some ⟨w4.heap.size, 0, none⟩) := (hA 0 rfl).trans rfl
            have B0_127 : w'.heap[w4.heap.size]? = some (.cells #[(Value.slice i32_1v0a i32_1v0n i32_1v0c), (Value.slice i32_1v1a i32_1v1n i32_1v1c), (Value.slice i32_1v2a i32_1v2n i32_1v2c), (Value.slice i32_1v3a i32_1v3n i32_1v3c)] 51 (0, 0)) := hE.heap (not_othN ⟨.inr i32_A1, ⟨.inr i32_A3, ⟨.inr i32_A5, trivial⟩⟩⟩) B58
            have B0_131 : OS w' 104 encSRod (Value.slice i32_1v3a i32_1v3n i32_1v3c) s32.2.rods := B57.frm hE (fun k hk => (not_othN ⟨.inr ((apart_symm i32_A11) k hk), ⟨.inr ((apart_symm i32_A12) k hk), ⟨.inr ((apart_symm i32_A13) k hk), trivial⟩⟩⟩))
            refine dg_op rfl (d_mv (v := .pointer (some ⟨w4.heap.size, 0, none⟩)) t0 ?_)
            exact ⟨rfl, own_none (Ext.refl w')⟩
          · skip
            refine ⟨fun _ _ _ _ _ _ h _ => h, fun _ _ h _ => h, fun σ' w' hA hE hD hP => ?_⟩
            have t23 : σ' 23 = (.pointer (some ⟨w4.heap.size, 0, none⟩)) := hD 17 rfl
            have B0_132 : w'.heap[w4.heap.size]? = some (.cells #[(Value.slice i32_1v0a i32_1v0n i32_1v0c), (Value.slice i32_1v1a i32_1v1n i32_1v1c), (Value.slice i32_1v2a i32_1v2n i32_1v2c), (Value.slice i32_1v3a i32_1v3n i32_1v3c)] 51 (0, 0)) := hE.heap (not_othN ⟨.inr i32_A1, ⟨.inr i32_A3, ⟨.inr i32_A5, trivial⟩⟩⟩) B58
            have B0_136 : OS w' 104 encSRod (Value.slice i32_1v3a i32_1v3n i32_1v3c) s32.2.rods := B57.frm hE (fun k hk => (not_othN ⟨.inr ((apart_symm i32_A11) k hk), ⟨.inr ((apart_symm i32_A12) k hk), ⟨.inr ((apart_symm i32_A13) k hk), trivial⟩⟩⟩))
            refine dg_op rfl (d_nil t23 ?_)
            exact ⟨rfl, own_none (Ext.refl w')⟩
          · skip
            refine ⟨fun _ _ _ _ _ _ h _ => h, fun _ _ h _ => h, fun σ' w' hA hE hD hP => ?_⟩
            have t24 : σ' 24 = (.pointer (some ⟨w4.heap.size, 0, none⟩)) := hD 18 rfl
            have B0_137 : w'.heap[w4.heap.size]? = some (.cells #[(Value.slice i32_1v0a i32_1v0n i32_1v0c), (Value.slice i32_1v1a i32_1v1n i32_1v1c), (Value.slice i32_1v2a i32_1v2n i32_1v2c), (Value.slice i32_1v3a i32_1v3n i32_1v3c)] 51 (0, 0)) := hE.heap (not_othN ⟨.inr i32_A1, ⟨.inr i32_A3, ⟨.inr i32_A5, trivial⟩⟩⟩) B58
            have B0_141 : OS w' 104 encSRod (Value.slice i32_1v3a i32_1v3n i32_1v3c) s32.2.rods := B57.frm hE (fun k hk => (not_othN ⟨.inr ((apart_symm i32_A11) k hk), ⟨.inr ((apart_symm i32_A12) k hk), ⟨.inr ((apart_symm i32_A13) k hk), trivial⟩⟩⟩))
            refine dg_op rfl (d_fieldAddr t24 (fa51_2 _ _) ?_)
            exact ⟨rfl, own_none (Ext.refl w')⟩
          · skip
            refine ⟨fun _ _ _ _ _ _ h _ => h, fun _ _ h _ => h, fun σ' w' hA hE hD hP => ?_⟩
            have t25 : σ' 25 = (.pointer (some ⟨w4.heap.size, 2, none⟩)) := hD 19 rfl
            have B0_142 : w'.heap[w4.heap.size]? = some (.cells #[(Value.slice i32_1v0a i32_1v0n i32_1v0c), (Value.slice i32_1v1a i32_1v1n i32_1v1c), (Value.slice i32_1v2a i32_1v2n i32_1v2c), (Value.slice i32_1v3a i32_1v3n i32_1v3c)] 51 (0, 0)) := hE.heap (not_othN ⟨.inr i32_A1, ⟨.inr i32_A3, ⟨.inr i32_A5, trivial⟩⟩⟩) B58
            have B0_145 : OS w' 22 encF_f32 (Value.slice i32_1v2a i32_1v2n i32_1v2c) s32.2.weights := (hP 23 _ _ rfl rfl (.inr rfl)).1
            have B0_146 : OS w' 104 encSRod (Value.slice i32_1v3a i32_1v3n i32_1v3c) s32.2.rods := B57.frm hE (fun k hk => (not_othN ⟨.inr ((apart_symm i32_A11) k hk), ⟨.inr ((apart_symm i32_A12) k hk), ⟨.inr ((apart_symm i32_A13) k hk), trivial⟩⟩⟩))
            refine dg_op rfl (d_load (v := (Value.slice i32_1v2a i32_1v2n i32_1v2c)) t25 agg48 B0_142 rfl ?_)
            exact ⟨rfl, own_none (Ext.refl w')⟩
          · skip
            refine ⟨fun _ _ _ _ _ _ h _ => h, fun _ _ h _ => h, fun σ' w' hA hE hD hP => ?_⟩
            have t2 : σ' 2 = .float .f32 p2r := (hA 2 rfl).trans rfl
            refine dg_op rfl (d_mv (v := .float .f32 p2r) t2 ?_)
            exact ⟨rfl, own_none (Ext.refl w')⟩
          · skip
            refine ⟨fun _ _ _ w' w'' _ ⟨d52_22a, d52_22n, d52_22c, hv, d52_22L, d52_22R⟩ hF => ⟨d52_22a, d52_22n, d52_22c, hv, d52_22L, d52_22R.frm hF (fun k hk => (not_othN ⟨.inr (nb_row B54 (d52_22L k hk)), ⟨.inr (nb_row B55 (d52_22L k hk)), ⟨.inr (nb_row B56 (d52_22L k hk)), trivial⟩⟩⟩))⟩, fun _ _ h _ => h, fun σ' w' hA hE hD hP => ?_⟩
            have t27 : σ' 27 = (.float .f32 p2r) := hD 21 rfl
            refine dg_op rfl (d_bslice (vs := [(0, .float .f32 p2r)]) (cs := #[.float .f32 p2r]) un48 (pc t27 rfl) (by kernel_rfl) fun w147 B147 E147 => ?_)
            have fr147 : ∀ k, (Value.slice (some ⟨w'.heap.size, 0, none⟩) 1 1).ownBlock = some k → w'.heap.size ≤ k := fun k hk => by cases hk; exact Nat.le_refl _
            have X148 : Ext w' w147 := (Ext.refl w').trans E147
            have O147 : OS w147 22 encF_f32 (Value.slice (some ⟨w'.heap.size, 0, none⟩) 1 1) [p2] := OS.box (xs := [p2]) B147 (lc_f p2h rfl) (Nat.le_of_ble_eq_true rfl)
            exact ⟨⟨(some ⟨w'.heap.size, 0, none⟩), 1, 1, rfl, (fun k hk => Nat.le_trans hE.size (fr147 k hk)), O147⟩, own_none X148⟩
          · skip
            refine ⟨fun _ _ _ w' w'' _ ⟨d52_23a, d52_23n, d52_23c, hv, d52_23L, d52_23R⟩ hF => ⟨d52_23a, d52_23n, d52_23c, hv, d52_23L, d52_23R.frm hF (fun k hk => (not_othN ⟨.inr (nb_row2 (d52_23L k hk) (apart_symm i32_A9) B54), ⟨.inr (nb_row2 (d52_23L k hk) (apart_symm i32_A10) B55), ⟨.inl rfl, trivial⟩⟩⟩))⟩, fun _ _ h hF => h.frm hF (fun k hk => (not_othN ⟨.inr ((apart_symm i32_A9) k hk), ⟨.inr ((apart_symm i32_A10) k hk), ⟨.inl rfl, trivial⟩⟩⟩)), fun σ' w' hA hE hD hP => ?_⟩
            have t26 : σ' 26 = (Value.slice i32_1v2a i32_1v2n i32_1v2c) := hD 20 rfl
            obtain ⟨d52_22a, d52_22n, d52_22c, t28, d52_22L, d52_22R⟩ : ∃ d52_22a : Option Addr, ∃ d52_22n : Nat, ∃ d52_22c : Nat, σ' 28 = (Value.slice d52_22a d52_22n d52_22c) ∧ (∀ k, (Value.slice d52_22a d52_22n d52_22c).ownBlock = some k → w37.heap.size ≤ k) ∧ OS w' 22 encF_f32 (Value.slice d52_22a d52_22n d52_22c) ([p2]) := hD 22 rfl
            have B0_149 : OS w' 22 encF_f32 (Value.slice i32_1v2a i32_1v2n i32_1v2c) s32.2.weights := (hP 23 _ _ rfl rfl (.inl rfl)).1
            refine dg_op rfl (d_append (e := encF_f32) (v := (Value.slice i32_1v2a i32_1v2n i32_1v2c)) (y := (Value.slice d52_22a d52_22n d52_22c)) un48 info22 rfl (by kernel_rfl) (by kernel_rfl) (by decide) (by decide) t26 t28 B0_149 d52_22R.rs hm61 fun v150 w150 O150 Fm150 at_150 nl150 => ?_)
            obtain ⟨v150pa, v150pn, v150pc, rfl⟩ := O150.vals
            exact ⟨⟨v150pa, v150pn, v150pc, rfl, (app_loc at_150 hE.size), O150⟩, own_some (j := 2) rfl Fm150⟩
          · skip
            intro σ52 w52 A52 E52 V52
            have s6_52 : σ52 6 = (.pointer (some ⟨w4.heap.size, 0, none⟩)) := V52 0 (Nat.le_of_ble_eq_true rfl)
            have s7_52 : σ52 7 = (.pointer (some ⟨w4.heap.size, 0, none⟩)) := V52 1 (Nat.le_of_ble_eq_true rfl)
            have s8_52 : σ52 8 = (.pointer (some ⟨w4.heap.size, 0, none⟩)) := V52 2 (Nat.le_of_ble_eq_true rfl)
            obtain ⟨z52_15_9a, z52_15_9n, z52_15_9c, s15_52, z52_15_9L, z52_15_9R⟩ : ∃ z52_15_9a : Option Addr, ∃ z52_15_9n : Nat, ∃ z52_15_9c : Nat, σ52 15 = (Value.slice z52_15_9a z52_15_9n z52_15_9c) ∧ (∀ k, (Value.slice z52_15_9a z52_15_9n z52_15_9c).ownBlock = some k → (Value.slice i32_1v0a i32_1v0n i32_1v0c).ownBlock = some k ∨ w37.heap.size ≤ k) ∧ OS w52 29 encSVector (Value.slice z52_15_9a z52_15_9n z52_15_9c) m59 := V52 9 (Nat.le_of_ble_eq_true rfl)
            obtain ⟨z52_22_16a, z52_22_16n, z52_22_16c, s22_52, z52_22_16L, z52_22_16R, z52_22_16P9⟩ : ∃ z52_22_16a : Option Addr, ∃ z52_22_16n : Nat, ∃ z52_22_16c : Nat, σ52 22 = (Value.slice z52_22_16a z52_22_16n z52_22_16c) ∧ (∀ k, (Value.slice z52_22_16a z52_22_16n z52_22_16c).ownBlock = some k → (Value.slice i32_1v1a i32_1v1n i32_1v1c).ownBlock = some k ∨ w37.heap.size ≤ k) ∧ OS w52 29 encSVector (Value.slice z52_22_16a z52_22_16n z52_22_16c) m60 ∧ (∀ k, (σ52 15).ownBlock = some k → ¬ (Value.slice z52_22_16a z52_22_16n z52_22_16c).ownBlock = some k) := V52 16 (Nat.le_of_ble_eq_true rfl)
            obtain ⟨z52_29_23a, z52_29_23n, z52_29_23c, s29_52, z52_29_23L, z52_29_23R⟩ : ∃ z52_29_23a : Option Addr, ∃ z52_29_23n : Nat, ∃ z52_29_23c : Nat, σ52 29 = (Value.slice z52_29_23a z52_29_23n z52_29_23c) ∧ (∀ k, (Value.slice z52_29_23a z52_29_23n z52_29_23c).ownBlock = some k → (Value.slice i32_1v2a i32_1v2n i32_1v2c).ownBlock = some k ∨ w37.heap.size ≤ k) ∧ OS w52 22 encF_f32 (Value.slice z52_29_23a z52_29_23n z52_29_23c) m61 := V52 23 (Nat.le_of_ble_eq_true rfl)
            have sp151 : ∀ k, (Value.slice z52_15_9a z52_15_9n z52_15_9c).ownBlock = some k → ¬ (Value.slice z52_22_16a z52_22_16n z52_22_16c).ownBlock = some k := fun k hk => z52_22_16P9 k ((congrArg Value.ownBlock s15_52).trans hk)
            have sp152 : ∀ k, (Value.slice z52_15_9a z52_15_9n z52_15_9c).ownBlock = some k → ¬ (Value.slice z52_29_23a z52_29_23n z52_29_23c).ownBlock = some k := os_ty z52_15_9R z52_29_23R (by decide)
            have sp153 : ∀ k, (Value.slice z52_22_16a z52_22_16n z52_22_16c).ownBlock = some k → ¬ (Value.slice z52_29_23a z52_29_23n z52_29_23c).ownBlock = some k := os_ty z52_22_16R z52_29_23R (by decide)
            have own154 : ∀ k, (Value.slice z52_15_9a z52_15_9n z52_15_9c).ownBlock = some k → w.heap.size ≤ k := app_own2 z52_15_9L i32_1v0O X51.size
            have sp155 : ¬ (Value.slice z52_15_9a z52_15_9n z52_15_9c).ownBlock = some w.heap.size := app_nb2 z52_15_9L i32_A0 B53
            have sp156 : ∀ k, (Value.slice i32_1v1a i32_1v1n i32_1v1c).ownBlock = some k → ¬ (Value.slice z52_15_9a z52_15_9n z52_15_9c).ownBlock = some k := app_nr2 z52_15_9L (apart_symm i32_A8) B55
            have sp157 : ∀ k, (Value.slice i32_1v2a i32_1v2n i32_1v2c).ownBlock = some k → ¬ (Value.slice z52_15_9a z52_15_9n z52_15_9c).ownBlock = some k := app_nr2 z52_15_9L (apart_symm i32_A9) B56
            have sp158 : ∀ k, (Value.slice i32_1v3a i32_1v3n i32_1v3c).ownBlock = some k → ¬ (Value.slice z52_15_9a z52_15_9n z52_15_9c).ownBlock = some k := app_nr2 z52_15_9L (apart_symm i32_A11) B57
            have sp159 : ¬ (Value.slice z52_15_9a z52_15_9n z52_15_9c).ownBlock = some w4.heap.size := app_nb2 z52_15_9L i32_A1 B58
            have sp160 : ¬ (Value.slice z52_15_9a z52_15_9n z52_15_9c).ownBlock = some w35.heap.size := app_nb2 z52_15_9L sp46 B37
            have own161 : ∀ k, (Value.slice z52_22_16a z52_22_16n z52_22_16c).ownBlock = some k → w.heap.size ≤ k := app_own2 z52_22_16L i32_1v1O X51.size
            have sp162 : ¬ (Value.slice z52_22_16a z52_22_16n z52_22_16c).ownBlock = some w.heap.size := app_nb2 z52_22_16L i32_A2 B53
            have sp163 : ∀ k, (Value.slice i32_1v0a i32_1v0n i32_1v0c).ownBlock = some k → ¬ (Value.slice z52_22_16a z52_22_16n z52_22_16c).ownBlock = some k := app_nr2 z52_22_16L i32_A8 B54
            have sp164 : ∀ k, (Value.slice i32_1v2a i32_1v2n i32_1v2c).ownBlock = some k → ¬ (Value.slice z52_22_16a z52_22_16n z52_22_16c).ownBlock = some k := app_nr2 z52_22_16L (apart_symm i32_A10) B56
            have sp165 : ∀ k, (Value.slice i32_1v3a i32_1v3n i32_1v3c).ownBlock = some k → ¬ (Value.slice z52_22_16a z52_22_16n z52_22_16c).ownBlock = some k := app_nr2 z52_22_16L (apart_symm i32_A12) B57
            have sp166 : ¬ (Value.slice z52_22_16a z52_22_16n z52_22_16c).ownBlock = some w4.heap.size := app_nb2 z52_22_16L i32_A3 B58
            have sp167 : ¬ (Value.slice z52_22_16a z52_22_16n z52_22_16c).ownBlock = some w35.heap.size := app_nb2 z52_22_16L sp47 B37
            have own168 : ∀ k, (Value.slice z52_29_23a z52_29_23n z52_29_23c).ownBlock = some k → w.heap.size ≤ k := app_own2 z52_29_23L i32_1v2O X51.size
            have sp169 : ¬ (Value.slice z52_29_23a z52_29_23n z52_29_23c).ownBlock = some w.heap.size := app_nb2 z52_29_23L i32_A4 B53
            have sp170 : ∀ k, (Value.slice i32_1v0a i32_1v0n i32_1v0c).ownBlock = some k → ¬ (Value.slice z52_29_23a z52_29_23n z52_29_23c).ownBlock = some k := app_nr2 z52_29_23L i32_A9 B54
            have sp171 : ∀ k, (Value.slice i32_1v1a i32_1v1n i32_1v1c).ownBlock = some k → ¬ (Value.slice z52_29_23a z52_29_23n z52_29_23c).ownBlock = some k := app_nr2 z52_29_23L i32_A10 B55
            have sp172 : ∀ k, (Value.slice i32_1v3a i32_1v3n i32_1v3c).ownBlock = some k → ¬ (Value.slice z52_29_23a z52_29_23n z52_29_23c).ownBlock = some k := app_nr2 z52_29_23L (apart_symm i32_A13) B57
            have sp173 : ¬ (Value.slice z52_29_23a z52_29_23n z52_29_23c).ownBlock = some w4.heap.size := app_nb2 z52_29_23L i32_A5 B58
            have sp174 : ¬ (Value.slice z52_29_23a z52_29_23n z52_29_23c).ownBlock = some w35.heap.size := app_nb2 z52_29_23L sp48 B37
            have X175 : Ext w w52 := Ext.step X51 E52 (oth_ownN (allD_cons (fun k _ hk => i32_1v0O k hk) (allD_cons (fun k _ hk => i32_1v1O k hk) (allD_cons (fun k _ hk => i32_1v2O k hk) allD_nil))))
            refine da_op rfl (d_nil s6_52 ?_)
            refine da_op rfl (d_fieldAddr rfl (fa51_0 _ _) ?_)
            have B176 : w52.heap[w4.heap.size]? = some (.cells #[(Value.slice i32_1v0a i32_1v0n i32_1v0c), (Value.slice i32_1v1a i32_1v1n i32_1v1c), (Value.slice i32_1v2a i32_1v2n i32_1v2c), (Value.slice i32_1v3a i32_1v3n i32_1v3c)] 51 (0, 0)) := E52.heap (not_othN ⟨.inr i32_A1, ⟨.inr i32_A3, ⟨.inr i32_A5, trivial⟩⟩⟩) B58
            refine da_op rfl (d_store (vs := #[(Value.slice z52_15_9a z52_15_9n z52_15_9c)]) rfl (congrArg Value.cells s15_52) B176 size33 (Nat.le_of_ble_eq_true rfl) rfl fun w177 S177 => ?_)
            have X178 : Ext w w177 := Ext.step X175 S177.frmb (fun k _ hk => hk ▸ own26)
            have B179 : w177.heap[w4.heap.size]? = some (.cells #[(Value.slice z52_15_9a z52_15_9n z52_15_9c), (Value.slice i32_1v1a i32_1v1n i32_1v1c), (Value.slice i32_1v2a i32_1v2n i32_1v2c), (Value.slice i32_1v3a i32_1v3n i32_1v3c)] 51 (0, 0)) := S177.here
            refine da_op rfl (d_nil s7_52 ?_)
            refine da_op rfl (d_fieldAddr rfl (fa51_1 _ _) ?_)
            refine da_op rfl (d_store (vs := #[(Value.slice z52_22_16a z52_22_16n z52_22_16c)]) rfl (congrArg Value.cells s22_52) B179 size33 (Nat.le_of_ble_eq_true rfl) rfl fun w180 S180 => ?_)
            have X181 : Ext w w180 := Ext.step X178 S180.frmb (fun k _ hk => hk ▸ own26)
            have B182 : w180.heap[w4.heap.size]? = some (.cells #[(Value.slice z52_15_9a z52_15_9n z52_15_9c), (Value.slice z52_22_16a z52_22_16n z52_22_16c), (Value.slice i32_1v2a i32_1v2n i32_1v2c), (Value.slice i32_1v3a i32_1v3n i32_1v3c)] 51 (0, 0)) := S180.here
            refine da_op rfl (d_nil s8_52 ?_)
            refine da_op rfl (d_fieldAddr rfl (fa51_2 _ _) ?_)
            refine da_op rfl (d_store (vs := #[(Value.slice z52_29_23a z52_29_23n z52_29_23c)]) rfl (congrArg Value.cells s29_52) B182 size48 (Nat.le_of_ble_eq_true rfl) rfl fun w183 S183 => ?_)
            have X184 : Ext w w183 := Ext.step X181 S183.frmb (fun k _ hk => hk ▸ own26)
            have B185 : w183.heap[w4.heap.size]? = some (.cells #[(Value.slice z52_15_9a z52_15_9n z52_15_9c), (Value.slice z52_22_16a z52_22_16n z52_22_16c), (Value.slice z52_29_23a z52_29_23n z52_29_23c), (Value.slice i32_1v3a i32_1v3n i32_1v3c)] 51 (0, 0)) := S183.here
            refine da_nil ?_
            refine ⟨_, res0 , ?_⟩
            refine ⟨_, rfl, ?_⟩
            refine da_nil ?_
            refine W_seq ?_
            refine W_region rfl ?_
            refine da_op rfl (d_mv (v := .int .i64 s32.1) rfl ?_)
            refine da_op rfl (d_icmp cGtr rfl rfl ?_)
            refine da_nil ?_
            refine W_cond (b := (icmp .gtr s32.1 0)) rfl (fun hc186 => ?_) (fun hc186 => ?_)
            · skip
              replace hr := bif_t hr hc186
              refine W_region rfl ?_
              refine da_op rfl (d_fieldAddr i32_S8 (fa51_3 _ _) ?_)
              refine da_op rfl (d_load (v := (Value.slice i32_1v3a i32_1v3n i32_1v3c)) rfl agg49 B185 rfl ?_)
              refine da_op rfl (d_mv (v := .int .i64 s32.1) rfl ?_)
              refine da_op rfl (d_iarith rfl rfl (.inr (.inl ⟨rfl, rfl⟩)) ?_)
              refine da_op rfl (d_mv (v := .int .i64 s32.1) rfl ?_)
              refine da_op rfl (d_mv (v := .float .f32 p1r) i32_S1 ?_)
              refine da_op rfl (d_bd (vs := [(0, .int .i64 (IntKind.i64.wrap (s32.1 - 1))), (1, .int .i64 s32.1), (2, .float .f32 p1r)]) (cs := #[.int .i64 (IntKind.i64.wrap (s32.1 - 1)), .int .i64 s32.1, .float .f32 p1r]) (pc rfl (pc rfl (pc rfl rfl))) (by kernel_rfl) ?_)
              have B188 : w183.heap[w.heap.size]? = some (.cells #[.slice none 0 0, .slice none 0 0, .slice none 0 0, .slice none 0 0] 51 (0, 0)) := S183.frmb.heap sp27 (S180.frmb.heap sp27 (S177.frmb.heap sp27 (E52.heap (not_othN ⟨.inr i32_A0, ⟨.inr i32_A2, ⟨.inr i32_A4, trivial⟩⟩⟩) B53)))
              have B189 : OS w183 104 encSRod (Value.slice i32_1v3a i32_1v3n i32_1v3c) s32.2.rods := (((B57.frm E52 (fun k hk => (not_othN ⟨.inr ((apart_symm i32_A11) k hk), ⟨.inr ((apart_symm i32_A12) k hk), ⟨.inr ((apart_symm i32_A13) k hk), trivial⟩⟩⟩))).frm S177.frmb (rb i32_A7)).frm S180.frmb (rb i32_A7)).frm S183.frmb (rb i32_A7)
              have B190 : OS w183 29 encSVector (Value.slice z52_15_9a z52_15_9n z52_15_9c) m59 := ((z52_15_9R.frm S177.frmb (rb sp159)).frm S180.frmb (rb sp159)).frm S183.frmb (rb sp159)
              have B191 : OS w183 29 encSVector (Value.slice z52_22_16a z52_22_16n z52_22_16c) m60 := ((z52_22_16R.frm S177.frmb (rb sp166)).frm S180.frmb (rb sp166)).frm S183.frmb (rb sp166)
              have B192 : OS w183 22 encF_f32 (Value.slice z52_29_23a z52_29_23n z52_29_23c) m61 := ((z52_29_23R.frm S177.frmb (rb sp173)).frm S180.frmb (rb sp173)).frm S183.frmb (rb sp173)
              refine da_op rfl (d_bslice (vs := [(0, .agg #[.int .i64 (IntKind.i64.wrap (s32.1 - 1)), .int .i64 s32.1, .float .f32 p1r])]) (cs := #[.int .i64 (IntKind.i64.wrap (s32.1 - 1)), .int .i64 s32.1, .float .f32 p1r]) un49 (pc rfl rfl) (by kernel_rfl) fun w187 B187 E187 => ?_)
              have fr187 : ∀ k, (Value.slice (some ⟨w183.heap.size, 0, none⟩) 1 1).ownBlock = some k → w183.heap.size ≤ k := fun k hk => by cases hk; exact Nat.le_refl _
              have own187 : ∀ k, (Value.slice (some ⟨w183.heap.size, 0, none⟩) 1 1).ownBlock = some k → w.heap.size ≤ k := fun k hk => Nat.le_trans X184.size (fr187 k hk)
              have sp193 : ¬ (Value.slice (some ⟨w183.heap.size, 0, none⟩) 1 1).ownBlock = some w.heap.size := ne_fresh fr187 (lt_heap B188)
              have sp194 : ∀ k, (Value.slice i32_1v3a i32_1v3n i32_1v3c).ownBlock = some k → ¬ (Value.slice (some ⟨w183.heap.size, 0, none⟩) 1 1).ownBlock = some k := apart_fresh B189 fr187
              have sp195 : ¬ (Value.slice (some ⟨w183.heap.size, 0, none⟩) 1 1).ownBlock = some w4.heap.size := ne_fresh fr187 (lt_heap B185)
              have sp196 : ∀ k, (Value.slice z52_15_9a z52_15_9n z52_15_9c).ownBlock = some k → ¬ (Value.slice (some ⟨w183.heap.size, 0, none⟩) 1 1).ownBlock = some k := apart_fresh B190 fr187
              have sp197 : ∀ k, (Value.slice z52_22_16a z52_22_16n z52_22_16c).ownBlock = some k → ¬ (Value.slice (some ⟨w183.heap.size, 0, none⟩) 1 1).ownBlock = some k := apart_fresh B191 fr187
              have sp198 : ∀ k, (Value.slice z52_29_23a z52_29_23n z52_29_23c).ownBlock = some k → ¬ (Value.slice (some ⟨w183.heap.size, 0, none⟩) 1 1).ownBlock = some k := apart_fresh B192 fr187
              have X199 : Ext w w187 := X184.trans E187
              have O187 : OS w187 104 encSRod (Value.slice (some ⟨w183.heap.size, 0, none⟩) 1 1) [(⟨(IntKind.i64.wrap (s32.1 - 1)), s32.1, p1⟩ : SRod)] := OS.box (xs := [(⟨(IntKind.i64.wrap (s32.1 - 1)), s32.1, p1⟩ : SRod)]) B187 (lc_v rfl (lc_v rfl (lc_f p1h rfl))) (Nat.le_of_ble_eq_true rfl)
              obtain ⟨m200, hm200, hr⟩ := bind_out hr
              have B201 : OS w187 104 encSRod (Value.slice i32_1v3a i32_1v3n i32_1v3c) s32.2.rods := B189.ext E187
              have B202 : w187.heap[w.heap.size]? = some (.cells #[.slice none 0 0, .slice none 0 0, .slice none 0 0, .slice none 0 0] 51 (0, 0)) := E187.heap B188
              have B203 : w187.heap[w4.heap.size]? = some (.cells #[(Value.slice z52_15_9a z52_15_9n z52_15_9c), (Value.slice z52_22_16a z52_22_16n z52_22_16c), (Value.slice z52_29_23a z52_29_23n z52_29_23c), (Value.slice i32_1v3a i32_1v3n i32_1v3c)] 51 (0, 0)) := E187.heap B185
              have B204 : OS w187 29 encSVector (Value.slice z52_15_9a z52_15_9n z52_15_9c) m59 := B190.ext E187
              have B205 : OS w187 29 encSVector (Value.slice z52_22_16a z52_22_16n z52_22_16c) m60 := B191.ext E187
              have B206 : OS w187 22 encF_f32 (Value.slice z52_29_23a z52_29_23n z52_29_23c) m61 := B192.ext E187
              refine da_op rfl (d_append (e := encSRod) (v := (Value.slice i32_1v3a i32_1v3n i32_1v3c)) (y := (Value.slice (some ⟨w183.heap.size, 0, none⟩) 1 1)) un49 info104 rfl (by kernel_rfl) (by kernel_rfl) (by decide) (by decide) rfl rfl B201 O187.rs hm200 fun v207 w207 O207 Fm207 at_207 nl207 => ?_)
              obtain ⟨v207pa, v207pn, v207pc, rfl⟩ := O207.vals
              have own207 : ∀ k, (Value.slice v207pa v207pn v207pc).ownBlock = some k → w.heap.size ≤ k := app_own (w := w187) at_207 i32_1v3O X199.size
              have sp208 : ¬ (Value.slice v207pa v207pn v207pc).ownBlock = some w.heap.size := app_nb at_207 i32_A6 (lt_heap B202)
              have sp209 : ¬ (Value.slice v207pa v207pn v207pc).ownBlock = some w4.heap.size := app_nb at_207 i32_A7 (lt_heap B203)
              have sp210 : ∀ k, (Value.slice z52_15_9a z52_15_9n z52_15_9c).ownBlock = some k → ¬ (Value.slice v207pa v207pn v207pc).ownBlock = some k := app_nr at_207 (apart_symm sp158) B204
              have sp211 : ∀ k, (Value.slice z52_22_16a z52_22_16n z52_22_16c).ownBlock = some k → ¬ (Value.slice v207pa v207pn v207pc).ownBlock = some k := app_nr at_207 (apart_symm sp165) B205
              have sp212 : ∀ k, (Value.slice z52_29_23a z52_29_23n z52_29_23c).ownBlock = some k → ¬ (Value.slice v207pa v207pn v207pc).ownBlock = some k := app_nr at_207 (apart_symm sp172) B206
              have sp213 : ∀ k, (Value.slice (some ⟨w183.heap.size, 0, none⟩) 1 1).ownBlock = some k → ¬ (Value.slice v207pa v207pn v207pc).ownBlock = some k := app_nr at_207 (apart_symm sp194) O187
              have X214 : Ext w w207 := Ext.step X199 Fm207 (fun k _ hk => i32_1v3O k hk)
              refine da_op rfl (d_fieldAddr i32_S8 (fa51_3 _ _) ?_)
              have B215 : w207.heap[w4.heap.size]? = some (.cells #[(Value.slice z52_15_9a z52_15_9n z52_15_9c), (Value.slice z52_22_16a z52_22_16n z52_22_16c), (Value.slice z52_29_23a z52_29_23n z52_29_23c), (Value.slice i32_1v3a i32_1v3n i32_1v3c)] 51 (0, 0)) := Fm207.heap i32_A7 B203
              refine da_op rfl (d_store (vs := #[(Value.slice v207pa v207pn v207pc)]) rfl rfl B215 size49 (Nat.le_of_ble_eq_true rfl) rfl fun w216 S216 => ?_)
              have X217 : Ext w w216 := Ext.step X214 S216.frmb (fun k _ hk => hk ▸ own26)
              have B218 : w216.heap[w4.heap.size]? = some (.cells #[(Value.slice z52_15_9a z52_15_9n z52_15_9c), (Value.slice z52_22_16a z52_22_16n z52_22_16c), (Value.slice z52_29_23a z52_29_23n z52_29_23c), (Value.slice v207pa v207pn v207pc)] 51 (0, 0)) := S216.here
              refine da_nil ?_
              refine W_region rfl ?_
              refine da_op rfl (d_iarith i32_S26 rfl (.inl ⟨rfl, rfl⟩) ?_)
              refine da_op rfl (d_mv (v := .int .i64 (IntKind.i64.wrap (s32.1 + 1))) rfl ?_)
              refine da_nil ?_
              have B219 : OS w216 29 encSVector (Value.slice z52_15_9a z52_15_9n z52_15_9c) m59 := (B204.frm Fm207 (apart_symm sp158)).frm S216.frmb (rb sp159)
              have B220 : OS w216 29 encSVector (Value.slice z52_22_16a z52_22_16n z52_22_16c) m60 := (B205.frm Fm207 (apart_symm sp165)).frm S216.frmb (rb sp166)
              have B221 : OS w216 22 encF_f32 (Value.slice z52_29_23a z52_29_23n z52_29_23c) m61 := (B206.frm Fm207 (apart_symm sp172)).frm S216.frmb (rb sp173)
              have B222 : OS w216 104 encSRod (Value.slice v207pa v207pn v207pc) m200 := O207.frm S216.frmb (rb sp209)
              have B223 : w216.heap[w.heap.size]? = some (.cells #[.slice none 0 0, .slice none 0 0, .slice none 0 0, .slice none 0 0] 51 (0, 0)) := S216.frmb.heap sp27 (Fm207.heap i32_A6 B202)
              obtain rfl := Option.some.inj hr
              exact ⟨_, rfl, ⟨z52_15_9a, z52_15_9n, z52_15_9c, z52_22_16a, z52_22_16n, z52_22_16c, z52_29_23a, z52_29_23n, z52_29_23c, v207pa, v207pn, v207pc, rfl, i32_S1, i32_S2, i32_S6, i32_S8, i32_S25, B219, own154, B220, own161, B221, own168, B222, own207, B218, B223, sp155, sp159, sp162, sp166, sp169, sp173, sp208, sp209, sp151, sp152, sp153, sp210, sp211, sp212, X217⟩⟩
            · skip
              replace hr := bif_f hr hc186
              refine W_skip ?_
              refine W_region rfl ?_
              refine da_op rfl (d_iarith i32_S26 rfl (.inl ⟨rfl, rfl⟩) ?_)
              refine da_op rfl (d_mv (v := .int .i64 (IntKind.i64.wrap (s32.1 + 1))) rfl ?_)
              refine da_nil ?_
              have B224 : OS w183 29 encSVector (Value.slice z52_15_9a z52_15_9n z52_15_9c) m59 := ((z52_15_9R.frm S177.frmb (rb sp159)).frm S180.frmb (rb sp159)).frm S183.frmb (rb sp159)
              have B225 : OS w183 29 encSVector (Value.slice z52_22_16a z52_22_16n z52_22_16c) m60 := ((z52_22_16R.frm S177.frmb (rb sp166)).frm S180.frmb (rb sp166)).frm S183.frmb (rb sp166)
              have B226 : OS w183 22 encF_f32 (Value.slice z52_29_23a z52_29_23n z52_29_23c) m61 := ((z52_29_23R.frm S177.frmb (rb sp173)).frm S180.frmb (rb sp173)).frm S183.frmb (rb sp173)
              have B227 : OS w183 104 encSRod (Value.slice i32_1v3a i32_1v3n i32_1v3c) s32.2.rods := (((B57.frm E52 (fun k hk => (not_othN ⟨.inr ((apart_symm i32_A11) k hk), ⟨.inr ((apart_symm i32_A12) k hk), ⟨.inr ((apart_symm i32_A13) k hk), trivial⟩⟩⟩))).frm S177.frmb (rb i32_A7)).frm S180.frmb (rb i32_A7)).frm S183.frmb (rb i32_A7)
              have B228 : w183.heap[w.heap.size]? = some (.cells #[.slice none 0 0, .slice none 0 0, .slice none 0 0, .slice none 0 0] 51 (0, 0)) := S183.frmb.heap sp27 (S180.frmb.heap sp27 (S177.frmb.heap sp27 (E52.heap (not_othN ⟨.inr i32_A0, ⟨.inr i32_A2, ⟨.inr i32_A4, trivial⟩⟩⟩) B53)))
              obtain rfl := Option.some.inj hr
              exact ⟨_, rfl, ⟨z52_15_9a, z52_15_9n, z52_15_9c, z52_22_16a, z52_22_16n, z52_22_16c, z52_29_23a, z52_29_23n, z52_29_23c, i32_1v3a, i32_1v3n, i32_1v3c, rfl, i32_S1, i32_S2, i32_S6, i32_S8, i32_S25, B224, own154, B225, own161, B226, own168, B227, i32_1v3O, B185, B228, sp155, sp159, sp162, sp166, sp169, sp173, i32_A6, i32_A7, sp151, sp152, sp153, (apart_symm sp158), (apart_symm sp165), (apart_symm sp172), X184⟩⟩
        · skip
          replace hr := bif_f hr hc34
          refine W_exit ?_
          obtain rfl := Option.some.inj hr
          exact ⟨_, rfl, rfl, i32_1v0a, i32_1v0n, i32_1v0c, i32_1v1a, i32_1v1n, i32_1v1c, i32_1v2a, i32_1v2n, i32_1v2c, i32_1v3a, i32_1v3n, i32_1v3c, i32_S6, i32_S8, i32_1v0R, i32_1v0O, i32_1v1R, i32_1v1O, i32_1v2R, i32_1v2O, i32_1v3R, i32_1v3O, i32_1B, i32_K0, i32_A0, i32_A1, i32_A2, i32_A3, i32_A4, i32_A5, i32_A6, i32_A7, i32_A8, i32_A9, i32_A10, i32_A11, i32_A12, i32_A13, i32_X⟩
      · skip
        intro ex σx32 wx32 hq
        obtain ⟨rfl, q32_0_0v0a, q32_0_0v0n, q32_0_0v0c, q32_0_0v1a, q32_0_0v1n, q32_0_0v1c, q32_0_0v2a, q32_0_0v2n, q32_0_0v2c, q32_0_0v3a, q32_0_0v3n, q32_0_0v3c, q32_0_S6, q32_0_S8, q32_0_0v0R, q32_0_0v0O, q32_0_0v1R, q32_0_0v1O, q32_0_0v2R, q32_0_0v2O, q32_0_0v3R, q32_0_0v3O, q32_0_0B, q32_0_K0, q32_0_A0, q32_0_A1, q32_0_A2, q32_0_A3, q32_0_A4, q32_0_A5, q32_0_A6, q32_0_A7, q32_0_A8, q32_0_A9, q32_0_A10, q32_0_A11, q32_0_A12, q32_0_A13, q32_0_X⟩ := hq
        refine W_seq ?_
        refine W_region rfl ?_
        refine da_op rfl (d_fieldAddr q32_0_S8 (fa51_2 _ _) ?_)
        refine da_op rfl (d_load (v := (Value.slice q32_0_0v2a q32_0_0v2n q32_0_0v2c)) rfl agg48 q32_0_0B rfl ?_)
        obtain ⟨m229, hm229, hr⟩ := bind_out hr
        refine da_op rfl (d_indexO (e := encF_f32) (v := (Value.slice q32_0_0v2a q32_0_0v2n q32_0_0v2c)) un48 size22 rfl rfl q32_0_0v2R hm229 fun g230 fr230 cu230 vs230 hv230 hg230 hp230 hq230 => ?_)
        obtain ⟨e230_r0, rfl, e230_h0⟩ := dec_encF_f32 hq230
        have sp231 : g230 ≠ w.heap.size := fun e => q32_0_A4 (by rw [hv230, e]; rfl)
        have sp232 : ¬ (Value.slice q32_0_0v0a q32_0_0v0n q32_0_0v0c).ownBlock = some g230 := fun e => q32_0_A9 _ e (by rw [hv230]; rfl)
        have sp233 : ¬ (Value.slice q32_0_0v1a q32_0_0v1n q32_0_0v1c).ownBlock = some g230 := fun e => q32_0_A10 _ e (by rw [hv230]; rfl)
        have sp234 : ¬ (Value.slice q32_0_0v3a q32_0_0v3n q32_0_0v3c).ownBlock = some g230 := fun e => (apart_symm q32_0_A13) _ e (by rw [hv230]; rfl)
        have sp235 : g230 ≠ w4.heap.size := fun e => q32_0_A5 (by rw [hv230, e]; rfl)
        refine da_op rfl (d_store_elem (e := encF_f32) (i := 0) (k := 0) (old := [.float .f32 e230_r0]) (vs := #[.float .f32 0]) (new := [.float .f32 0]) (x2 := 0) rfl rfl hv230 q32_0_0v2R hg230 hp230 hm229 size22 (by kernel_rfl) (Nat.le_of_ble_eq_true rfl) rfl rfl (lc_f cn_f32_0 rfl) rfl fun w236 S236 O237 => ?_)
        have X238 : Ext w w236 := Ext.step q32_0_X S236.frmb (fun k _ hk => q32_0_0v2O k (by rw [hv230, hk]; rfl))
        refine da_nil ?_
        refine W_seq ?_
        refine W_region rfl ?_
        have B239 : w236.heap[w4.heap.size]? = some (.cells #[(Value.slice q32_0_0v0a q32_0_0v0n q32_0_0v0c), (Value.slice q32_0_0v1a q32_0_0v1n q32_0_0v1c), (Value.slice q32_0_0v2a q32_0_0v2n q32_0_0v2c), (Value.slice q32_0_0v3a q32_0_0v3n q32_0_0v3c)] 51 (0, 0)) := S236.frmb.heap (Ne.symm sp235) q32_0_0B
        refine da_op rfl (d_loads (vs := #[(Value.slice q32_0_0v0a q32_0_0v0n q32_0_0v0c), (Value.slice q32_0_0v1a q32_0_0v1n q32_0_0v1c), (Value.slice q32_0_0v2a q32_0_0v2n q32_0_0v2c), (Value.slice q32_0_0v3a q32_0_0v3n q32_0_0v3c)]) q32_0_S8 agg51 size51 B239 rfl ?_)
        obtain ⟨m240, hm240, hr⟩ := bind_out hr
        have B241 : OS w236 29 encSVector (Value.slice q32_0_0v0a q32_0_0v0n q32_0_0v0c) m32.places := q32_0_0v0R.frm S236.frmb (rb sp232)
        have B242 : OS w236 29 encSVector (Value.slice q32_0_0v1a q32_0_0v1n q32_0_0v1c) m32.before := q32_0_0v1R.frm S236.frmb (rb sp233)
        have B243 : OS w236 104 encSRod (Value.slice q32_0_0v3a q32_0_0v3n q32_0_0v3c) m32.rods := q32_0_0v3R.frm S236.frmb (rb sp234)
        have B244 : w236.heap[w.heap.size]? = some (.cells #[.slice none 0 0, .slice none 0 0, .slice none 0 0, .slice none 0 0] 51 (0, 0)) := S236.frmb.heap (Ne.symm sp231) q32_0_K0
        refine da_op rfl (d_cl (vs := [.agg #[(Value.slice q32_0_0v0a q32_0_0v0n q32_0_0v0c), (Value.slice q32_0_0v1a q32_0_0v1n q32_0_0v1c), (Value.slice q32_0_0v2a q32_0_0v2n q32_0_0v2c), (Value.slice q32_0_0v3a q32_0_0v3n q32_0_0v3c)]]) en72 (ac rfl rfl) rfl ?_)
        refine (c72 (⟨m32.places, m32.before, (m32.weights.set (Int.toNat 0) 0), m32.rods⟩ : SChain) q32_0_0v0a q32_0_0v0n q32_0_0v0c q32_0_0v1a q32_0_0v1n q32_0_0v1c q32_0_0v2a q32_0_0v2n q32_0_0v2c q32_0_0v3a q32_0_0v3n q32_0_0v3c m240 w236 hm240 B241.rs B242.rs O237.rs B243.rs).mono ?_
        rintro _ w245 ⟨q245_0v0a, q245_0v0n, q245_0v0c, q245_0v1a, q245_0v1n, q245_0v1c, q245_0v2a, q245_0v2n, q245_0v2c, q245_0v3a, q245_0v3n, q245_0v3c, rfl, q245_0v0H, q245_0v1H, q245_0v2H, q245_0v3H, E245⟩
        refine ⟨_, rfl, ?_⟩
        have X246 : Ext w w245 := X238.trans E245
        have B248 : OS w245 29 encSVector (Value.slice q32_0_0v0a q32_0_0v0n q32_0_0v0c) m32.places := B241.ext E245
        have O247 : OS w245 29 encSVector (Value.slice q245_0v0a q245_0v0n q245_0v0c) m240.1.places := Hand.os q245_0v0H B248
        have B250 : OS w245 29 encSVector (Value.slice q32_0_0v1a q32_0_0v1n q32_0_0v1c) m32.before := B242.ext E245
        have O249 : OS w245 29 encSVector (Value.slice q245_0v1a q245_0v1n q245_0v1c) m240.1.before := Hand.os q245_0v1H B250
        have B252 : OS w245 22 encF_f32 (Value.slice q32_0_0v2a q32_0_0v2n q32_0_0v2c) (m32.weights.set (Int.toNat 0) 0) := O237.ext E245
        have O251 : OS w245 22 encF_f32 (Value.slice q245_0v2a q245_0v2n q245_0v2c) m240.1.weights := Hand.os q245_0v2H B252
        have B254 : OS w245 104 encSRod (Value.slice q32_0_0v3a q32_0_0v3n q32_0_0v3c) m32.rods := B243.ext E245
        have O253 : OS w245 104 encSRod (Value.slice q245_0v3a q245_0v3n q245_0v3c) m240.1.rods := Hand.os q245_0v3H B254
        refine da_op rfl (d_extract (v := .agg #[(Value.slice q245_0v0a q245_0v0n q245_0v0c), (Value.slice q245_0v1a q245_0v1n q245_0v1c), (Value.slice q245_0v2a q245_0v2n q245_0v2c), (Value.slice q245_0v3a q245_0v3n q245_0v3c)]) rfl rfl ?_)
        refine da_op rfl (d_extract (v := .bool m240.2) rfl rfl ?_)
        have B255 : w245.heap[w.heap.size]? = some (.cells #[.slice none 0 0, .slice none 0 0, .slice none 0 0, .slice none 0 0] 51 (0, 0)) := E245.heap B244
        refine da_op rfl (d_store (vs := #[(Value.slice q245_0v0a q245_0v0n q245_0v0c), (Value.slice q245_0v1a q245_0v1n q245_0v1c), (Value.slice q245_0v2a q245_0v2n q245_0v2c), (Value.slice q245_0v3a q245_0v3n q245_0v3c)]) q32_0_S6 rfl B255 size51 (Nat.le_of_ble_eq_true rfl) rfl fun w256 S256 => ?_)
        have X257 : Ext w w256 := Ext.step X246 S256.frmb (fun k _ hk => hk ▸ own2)
        have B258 : w256.heap[w.heap.size]? = some (.cells #[(Value.slice q245_0v0a q245_0v0n q245_0v0c), (Value.slice q245_0v1a q245_0v1n q245_0v1c), (Value.slice q245_0v2a q245_0v2n q245_0v2c), (Value.slice q245_0v3a q245_0v3n q245_0v3c)] 51 (0, 0)) := S256.here
        refine da_op rfl (d_as (v := .bool m240.2) rfl ?_)
        refine da_nil ?_
        refine W_ret ?_
        have B259 : OS w256 29 encSVector (Value.slice q245_0v0a q245_0v0n q245_0v0c) m240.1.places := O247.frm S256.frmb (rb (Hand.nb q245_0v0H q32_0_A0))
        have B260 : OS w256 29 encSVector (Value.slice q245_0v1a q245_0v1n q245_0v1c) m240.1.before := O249.frm S256.frmb (rb (Hand.nb q245_0v1H q32_0_A2))
        have B261 : OS w256 22 encF_f32 (Value.slice q245_0v2a q245_0v2n q245_0v2c) m240.1.weights := O251.frm S256.frmb (rb (Hand.nb q245_0v2H q32_0_A4))
        have B262 : OS w256 104 encSRod (Value.slice q245_0v3a q245_0v3n q245_0v3c) m240.1.rods := O253.frm S256.frmb (rb (Hand.nb q245_0v3H q32_0_A6))
        obtain rfl := Option.some.inj hr
        refine ⟨_, res2 (rv_cells (vs := #[(Value.slice q245_0v0a q245_0v0n q245_0v0c), (Value.slice q245_0v1a q245_0v1n q245_0v1c), (Value.slice q245_0v2a q245_0v2n q245_0v2c), (Value.slice q245_0v3a q245_0v3n q245_0v3c)]) q32_0_S6 agg51 size51 B258 rfl) (rv_tmp rfl), ?_⟩
        exact ⟨q245_0v0a, q245_0v0n, q245_0v0c, q245_0v1a, q245_0v1n, q245_0v1c, q245_0v2a, q245_0v2n, q245_0v2c, q245_0v3a, q245_0v3n, q245_0v3c, rfl, B259, (Hand.own q245_0v0H q32_0_0v0O), B260, (Hand.own q245_0v1H q32_0_0v1O), B261, (Hand.own q245_0v2H q32_0_0v2O), B262, (Hand.own q245_0v3H q32_0_0v3O), (Hand.nr q245_0v0H (Hand.nr2 q245_0v1H q32_0_A8)), (Hand.nr q245_0v0H (Hand.nr2 q245_0v2H q32_0_A9)), (Hand.nr q245_0v1H (Hand.nr2 q245_0v2H q32_0_A10)), (Hand.nr q245_0v0H (Hand.nr2 q245_0v3H q32_0_A11)), (Hand.nr q245_0v1H (Hand.nr2 q245_0v3H q32_0_A12)), (Hand.nr q245_0v2H (Hand.nr2 q245_0v3H q32_0_A13)), X257⟩
set_option maxHeartbeats 4000000 in
theorem c125 (p0 : Int) (p1 : Int) (r : Int × Int) (w : World) (hr : M.math_bits_Mul64 p0 p1 = r)  :
    Calls Try.prog 125 #[.int .u64 p0, .int .u64 p1] w fun e w' => e = .returned (.tuple #[.int .u64 r.1, .int .u64 r.2]) ∧ Ext w w' := by
  refine calls_of_W Try.func125 rfl (Nat.le_of_ble_eq_true rfl) ?_
  refine W_seq ?_
  refine W_region rfl ?_
  refine da_op rfl (d_as (v := .int .u64 0) rfl ?_)
  refine da_op rfl (d_as (v := .int .u64 0) rfl ?_)
  refine da_nil ?_
  refine W_seq ?_
  refine W_region rfl ?_
  refine da_op rfl (d_mv (v := .int .u64 p0) rfl ?_)
  refine da_op rfl (d_and rfl rfl ?_)
  refine da_op rfl (d_as (v := .int .u64 (iand .u64 p0 4294967295)) rfl ?_)
  refine da_nil ?_
  refine W_seq ?_
  refine W_region rfl ?_
  refine da_op rfl (d_mv (v := .int .u64 p0) rfl ?_)
  refine da_op rfl (d_shrL rfl rfl (n := 32) (by decide) ?_)
  refine da_op rfl (d_as (v := .int .u64 ((p0).fdiv (2 ^ 32))) rfl ?_)
  refine da_nil ?_
  refine W_seq ?_
  refine W_region rfl ?_
  refine da_op rfl (d_mv (v := .int .u64 p1) rfl ?_)
  refine da_op rfl (d_and rfl rfl ?_)
  refine da_op rfl (d_as (v := .int .u64 (iand .u64 p1 4294967295)) rfl ?_)
  refine da_nil ?_
  refine W_seq ?_
  refine W_region rfl ?_
  refine da_op rfl (d_mv (v := .int .u64 p1) rfl ?_)
  refine da_op rfl (d_shrL rfl rfl (n := 32) (by decide) ?_)
  refine da_op rfl (d_as (v := .int .u64 ((p1).fdiv (2 ^ 32))) rfl ?_)
  refine da_nil ?_
  refine W_seq ?_
  refine W_region rfl ?_
  refine da_op rfl (d_mv (v := .int .u64 (iand .u64 p0 4294967295)) rfl ?_)
  refine da_op rfl (d_mv (v := .int .u64 (iand .u64 p1 4294967295)) rfl ?_)
  refine da_op rfl (d_iarith rfl rfl (.inr (.inr ⟨rfl, rfl⟩)) ?_)
  refine da_op rfl (d_as (v := .int .u64 (IntKind.u64.wrap ((iand .u64 p0 4294967295) * (iand .u64 p1 4294967295)))) rfl ?_)
  refine da_nil ?_
  refine W_seq ?_
  refine W_region rfl ?_
  refine da_op rfl (d_mv (v := .int .u64 ((p0).fdiv (2 ^ 32))) rfl ?_)
  refine da_op rfl (d_mv (v := .int .u64 (iand .u64 p1 4294967295)) rfl ?_)
  refine da_op rfl (d_iarith rfl rfl (.inr (.inr ⟨rfl, rfl⟩)) ?_)
  refine da_op rfl (d_mv (v := .int .u64 (IntKind.u64.wrap ((iand .u64 p0 4294967295) * (iand .u64 p1 4294967295)))) rfl ?_)
  refine da_op rfl (d_shrL rfl rfl (n := 32) (by decide) ?_)
  refine da_op rfl (d_iarith rfl rfl (.inl ⟨rfl, rfl⟩) ?_)
  refine da_op rfl (d_as (v := .int .u64 (IntKind.u64.wrap ((IntKind.u64.wrap (((p0).fdiv (2 ^ 32)) * (iand .u64 p1 4294967295))) + (((IntKind.u64.wrap ((iand .u64 p0 4294967295) * (iand .u64 p1 4294967295)))).fdiv (2 ^ 32))))) rfl ?_)
  refine da_nil ?_
  refine W_seq ?_
  refine W_region rfl ?_
  refine da_op rfl (d_mv (v := .int .u64 (IntKind.u64.wrap ((IntKind.u64.wrap (((p0).fdiv (2 ^ 32)) * (iand .u64 p1 4294967295))) + (((IntKind.u64.wrap ((iand .u64 p0 4294967295) * (iand .u64 p1 4294967295)))).fdiv (2 ^ 32))))) rfl ?_)
  refine da_op rfl (d_and rfl rfl ?_)
  refine da_op rfl (d_as (v := .int .u64 (iand .u64 (IntKind.u64.wrap ((IntKind.u64.wrap (((p0).fdiv (2 ^ 32)) * (iand .u64 p1 4294967295))) + (((IntKind.u64.wrap ((iand .u64 p0 4294967295) * (iand .u64 p1 4294967295)))).fdiv (2 ^ 32)))) 4294967295)) rfl ?_)
  refine da_nil ?_
  refine W_seq ?_
  refine W_region rfl ?_
  refine da_op rfl (d_mv (v := .int .u64 (IntKind.u64.wrap ((IntKind.u64.wrap (((p0).fdiv (2 ^ 32)) * (iand .u64 p1 4294967295))) + (((IntKind.u64.wrap ((iand .u64 p0 4294967295) * (iand .u64 p1 4294967295)))).fdiv (2 ^ 32))))) rfl ?_)
  refine da_op rfl (d_shrL rfl rfl (n := 32) (by decide) ?_)
  refine da_op rfl (d_as (v := .int .u64 (((IntKind.u64.wrap ((IntKind.u64.wrap (((p0).fdiv (2 ^ 32)) * (iand .u64 p1 4294967295))) + (((IntKind.u64.wrap ((iand .u64 p0 4294967295) * (iand .u64 p1 4294967295)))).fdiv (2 ^ 32))))).fdiv (2 ^ 32))) rfl ?_)
  refine da_nil ?_
  refine W_seq ?_
  refine W_region rfl ?_
  refine da_op rfl (d_mv (v := .int .u64 (iand .u64 (IntKind.u64.wrap ((IntKind.u64.wrap (((p0).fdiv (2 ^ 32)) * (iand .u64 p1 4294967295))) + (((IntKind.u64.wrap ((iand .u64 p0 4294967295) * (iand .u64 p1 4294967295)))).fdiv (2 ^ 32)))) 4294967295)) rfl ?_)
  refine da_op rfl (d_mv (v := .int .u64 (iand .u64 p0 4294967295)) rfl ?_)
  refine da_op rfl (d_mv (v := .int .u64 ((p1).fdiv (2 ^ 32))) rfl ?_)
  refine da_op rfl (d_iarith rfl rfl (.inr (.inr ⟨rfl, rfl⟩)) ?_)
  refine da_op rfl (d_iarith rfl rfl (.inl ⟨rfl, rfl⟩) ?_)
  refine da_op rfl (d_as (v := .int .u64 (IntKind.u64.wrap ((iand .u64 (IntKind.u64.wrap ((IntKind.u64.wrap (((p0).fdiv (2 ^ 32)) * (iand .u64 p1 4294967295))) + (((IntKind.u64.wrap ((iand .u64 p0 4294967295) * (iand .u64 p1 4294967295)))).fdiv (2 ^ 32)))) 4294967295) + (IntKind.u64.wrap ((iand .u64 p0 4294967295) * ((p1).fdiv (2 ^ 32))))))) rfl ?_)
  refine da_nil ?_
  refine W_seq ?_
  refine W_region rfl ?_
  refine da_op rfl (d_mv (v := .int .u64 ((p0).fdiv (2 ^ 32))) rfl ?_)
  refine da_op rfl (d_mv (v := .int .u64 ((p1).fdiv (2 ^ 32))) rfl ?_)
  refine da_op rfl (d_iarith rfl rfl (.inr (.inr ⟨rfl, rfl⟩)) ?_)
  refine da_op rfl (d_mv (v := .int .u64 (((IntKind.u64.wrap ((IntKind.u64.wrap (((p0).fdiv (2 ^ 32)) * (iand .u64 p1 4294967295))) + (((IntKind.u64.wrap ((iand .u64 p0 4294967295) * (iand .u64 p1 4294967295)))).fdiv (2 ^ 32))))).fdiv (2 ^ 32))) rfl ?_)
  refine da_op rfl (d_iarith rfl rfl (.inl ⟨rfl, rfl⟩) ?_)
  refine da_op rfl (d_mv (v := .int .u64 (IntKind.u64.wrap ((iand .u64 (IntKind.u64.wrap ((IntKind.u64.wrap (((p0).fdiv (2 ^ 32)) * (iand .u64 p1 4294967295))) + (((IntKind.u64.wrap ((iand .u64 p0 4294967295) * (iand .u64 p1 4294967295)))).fdiv (2 ^ 32)))) 4294967295) + (IntKind.u64.wrap ((iand .u64 p0 4294967295) * ((p1).fdiv (2 ^ 32))))))) rfl ?_)
  refine da_op rfl (d_shrL rfl rfl (n := 32) (by decide) ?_)
  refine da_op rfl (d_iarith rfl rfl (.inl ⟨rfl, rfl⟩) ?_)
  refine da_op rfl (d_as (v := .int .u64 (IntKind.u64.wrap ((IntKind.u64.wrap ((IntKind.u64.wrap (((p0).fdiv (2 ^ 32)) * ((p1).fdiv (2 ^ 32)))) + (((IntKind.u64.wrap ((IntKind.u64.wrap (((p0).fdiv (2 ^ 32)) * (iand .u64 p1 4294967295))) + (((IntKind.u64.wrap ((iand .u64 p0 4294967295) * (iand .u64 p1 4294967295)))).fdiv (2 ^ 32))))).fdiv (2 ^ 32)))) + (((IntKind.u64.wrap ((iand .u64 (IntKind.u64.wrap ((IntKind.u64.wrap (((p0).fdiv (2 ^ 32)) * (iand .u64 p1 4294967295))) + (((IntKind.u64.wrap ((iand .u64 p0 4294967295) * (iand .u64 p1 4294967295)))).fdiv (2 ^ 32)))) 4294967295) + (IntKind.u64.wrap ((iand .u64 p0 4294967295) * ((p1).fdiv (2 ^ 32))))))).fdiv (2 ^ 32))))) rfl ?_)
  refine da_nil ?_
  refine W_seq ?_
  refine W_region rfl ?_
  refine da_op rfl (d_mv (v := .int .u64 p0) rfl ?_)
  refine da_op rfl (d_mv (v := .int .u64 p1) rfl ?_)
  refine da_op rfl (d_iarith rfl rfl (.inr (.inr ⟨rfl, rfl⟩)) ?_)
  refine da_op rfl (d_as (v := .int .u64 (IntKind.u64.wrap (p0 * p1))) rfl ?_)
  refine da_nil ?_
  refine W_ret ?_
  subst hr
  refine ⟨_, res2 (rv_tmp rfl) (rv_tmp rfl), ?_⟩
  exact ⟨rfl, (Ext.refl w)⟩
set_option maxHeartbeats 4000000 in
theorem c105 (p0 : Int) (p1 : Int) (r : Int × Int) (w : World) (hr : M.math_bits_Mul p0 p1 = r)  :
    Calls Try.prog 105 #[.int .u64 p0, .int .u64 p1] w fun e w' => e = .returned (.tuple #[.int .u64 r.1, .int .u64 r.2]) ∧ Ext w w' := by
  refine calls_of_W Try.func105 rfl (Nat.le_of_ble_eq_true rfl) ?_
  refine W_seq ?_
  refine W_region rfl ?_
  refine da_op rfl (d_as (v := .int .u64 0) rfl ?_)
  refine da_op rfl (d_as (v := .int .u64 0) rfl ?_)
  refine da_nil ?_
  refine W_seq ?_
  refine W_false rfl ?_
  refine W_skip ?_
  refine W_seq ?_
  refine W_region rfl ?_
  refine da_op rfl (d_mv (v := .int .u64 p0) rfl ?_)
  refine da_op rfl (d_mv (v := .int .u64 p1) rfl ?_)
  obtain ⟨m1, hm1, hr⟩ := letv_out hr
  refine da_op rfl (d_cl (vs := [.int .u64 p0, .int .u64 p1]) en125 (ac rfl (ac rfl rfl)) rfl ?_)
  refine (c125 p0 p1 m1 w hm1 ).mono ?_
  rintro _ w2 ⟨rfl, E2⟩
  refine ⟨_, rfl, ?_⟩
  have X3 : Ext w w2 := (Ext.refl w).trans E2
  refine da_op rfl (d_mv (v := .tuple #[.int .u64 m1.1, .int .u64 m1.2]) rfl ?_)
  refine da_op rfl (d_extract (v := .int .u64 m1.1) rfl rfl ?_)
  refine da_op rfl (d_extract (v := .int .u64 m1.2) rfl rfl ?_)
  refine da_op rfl (d_as (v := .int .u64 m1.1) rfl ?_)
  refine da_op rfl (d_as (v := .int .u64 m1.2) rfl ?_)
  refine da_nil ?_
  refine W_seq ?_
  refine W_region rfl ?_
  refine da_op rfl (d_mv (v := .int .u64 m1.1) rfl ?_)
  refine da_op rfl (d_mv (v := .int .u64 m1.2) rfl ?_)
  refine da_op rfl (d_as (v := .int .u64 m1.1) rfl ?_)
  refine da_op rfl (d_as (v := .int .u64 m1.2) rfl ?_)
  refine da_nil ?_
  refine W_ret ?_
  subst hr
  refine ⟨_, res2 (rv_tmp rfl) (rv_tmp rfl), ?_⟩
  exact ⟨rfl, X3⟩
set_option maxHeartbeats 4000000 in
theorem c73 (p0 : List Nat) (p1 : Int) (p0a : Option Addr) (p0n : Nat) (p0c : Nat) (r : List Nat) (w : World) (hr : M.slices_Repeat___float32_float32_ p0 p1 = some r) (p0R : RS w encF_f32 (Value.slice p0a p0n p0c) p0) :
    Calls Try.prog 73 #[(Value.slice p0a p0n p0c), .int .i64 p1] w fun e w' => ∃ q0a : Option Addr, ∃ q0n : Nat, ∃ q0c : Nat, e = .returned ((Value.slice q0a q0n q0c)) ∧ OS w' 22 encF_f32 (Value.slice q0a q0n q0c) r ∧ (∀ k, (Value.slice q0a q0n q0c).ownBlock = some k → w.heap.size ≤ k) ∧ Ext w w' := by
  refine calls_of_W Try.func73 rfl (Nat.le_of_ble_eq_true rfl) ?_
  refine W_seq ?_
  refine W_region rfl ?_
  refine da_op rfl (d_as (v := .slice none 0 0) rfl ?_)
  refine da_nil ?_
  refine W_seq ?_
  refine W_seq ?_
  refine W_region rfl ?_
  refine da_op rfl (d_mv (v := .int .i64 p1) rfl ?_)
  refine da_op rfl (d_icmp cLss rfl rfl ?_)
  refine da_nil ?_
  refine W_cond (b := (icmp .lss p1 0)) rfl (fun hc1 => ?_) (fun hc1 => ?_)
  · skip
    replace hr := bif_t hr hc1
    cases hr
  · skip
    replace hr := bif_f hr hc1
    refine W_skip ?_
    refine W_seq ?_
    refine W_region rfl ?_
    refine da_op rfl (d_mv (v := (Value.slice p0a p0n p0c)) rfl ?_)
    refine da_op rfl (d_len (e := encF_f32) un48 rfl p0R ?_)
    refine da_op rfl (d_iconv un3 un133 rfl ?_)
    refine da_op rfl (d_mv (v := .int .i64 p1) rfl ?_)
    refine da_op rfl (d_iconv un3 un133 rfl ?_)
    obtain ⟨m2, hm2, hr⟩ := letv_out hr
    refine da_op rfl (d_cl (vs := [.int .u64 (IntKind.u64.wrap ((p0).length : Int)), .int .u64 (IntKind.u64.wrap p1)]) en105 (ac rfl (ac rfl rfl)) rfl ?_)
    refine (c105 (IntKind.u64.wrap ((p0).length : Int)) (IntKind.u64.wrap p1) m2 w hm2 ).mono ?_
    rintro _ w3 ⟨rfl, E3⟩
    refine ⟨_, rfl, ?_⟩
    have X4 : Ext w w3 := (Ext.refl w).trans E3
    refine da_op rfl (d_mv (v := .tuple #[.int .u64 m2.1, .int .u64 m2.2]) rfl ?_)
    refine da_op rfl (d_extract (v := .int .u64 m2.1) rfl rfl ?_)
    refine da_op rfl (d_extract (v := .int .u64 m2.2) rfl rfl ?_)
    refine da_op rfl (d_as (v := .int .u64 m2.1) rfl ?_)
    refine da_op rfl (d_as (v := .int .u64 m2.2) rfl ?_)
    refine da_nil ?_
    refine W_seq ?_
    refine W_seq ?_
    obtain ⟨m5, hm5, hr⟩ := letv_out hr
    refine W_cut (fun σ' w' => σ' 26 = .bool m5 ∧ Ext w3 w') rfl ?_ ?_
    · skip
      have hr := hm5
      refine da_op rfl (d_mv (v := .int .u64 m2.1) rfl ?_)
      refine da_op rfl (d_icmp cGtr rfl rfl ?_)
      refine da_op rfl (d_mv (v := .bool (icmp .gtr m2.1 0)) rfl ?_)
      rcases Bool.eq_false_or_eq_true (icmp .gtr m2.1 0) with hc6 | hc6
      · skip
        replace hr := bif_t hr hc6
        refine da_off rfl (Eq.trans (show sl _ _ _ = .bool (icmp .gtr m2.1 0) from rfl) (congrArg Value.bool hc6)) (by decide) ?_
        refine da_off rfl (Eq.trans (show sl _ _ _ = .bool (icmp .gtr m2.1 0) from rfl) (congrArg Value.bool hc6)) (by decide) ?_
        refine da_op rfl (d_pick (b := true) (Eq.trans (show ev _ _ = .bool (icmp .gtr m2.1 0) from rfl) (congrArg Value.bool hc6)) ?_)
        refine da_nil ?_
        subst hr
        exact ⟨rfl, (Ext.refl w3)⟩
      · skip
        replace hr := bif_f hr hc6
        refine da_on rfl (Eq.trans (show sl _ _ _ = .bool (icmp .gtr m2.1 0) from rfl) (congrArg Value.bool hc6)) (d_mv (v := .int .u64 m2.2) rfl ?_)
        refine da_on rfl (Eq.trans (show sl _ _ _ = .bool (icmp .gtr m2.1 0) from rfl) (congrArg Value.bool hc6)) (d_icmp cGtr rfl rfl ?_)
        refine da_op rfl (d_pick (b := false) (Eq.trans (show ev _ _ = .bool (icmp .gtr m2.1 0) from rfl) (congrArg Value.bool hc6)) ?_)
        refine da_nil ?_
        subst hr
        exact ⟨rfl, (Ext.refl w3)⟩
    · skip
      rintro σ5 w5 o5 ⟨s26_5, E5⟩
      have s0_5 : σ5 0 = (Value.slice p0a p0n p0c) := (o5 0 rfl).trans rfl
      have s6_5 : σ5 6 = .int .u64 m2.2 := (o5 6 rfl).trans rfl
      have X7 : Ext w w5 := X4.trans E5
      refine W_cond (b := m5) s26_5 (fun hc8 => ?_) (fun hc8 => ?_)
      · skip
        replace hr := bif_t hr hc8
        cases hr
      · skip
        replace hr := bif_f hr hc8
        refine W_skip ?_
        refine W_seq ?_
        refine W_region rfl ?_
        refine da_op rfl (d_mv (v := .int .u64 m2.2) s6_5 ?_)
        refine da_op rfl (d_iconv un133 un3 rfl ?_)
        obtain ⟨m9, hm9, hr⟩ := bind_out hr
        refine da_op rfl (d_make (e := encF_f32) un48 info22 rfl (by kernel_rfl) (by kernel_rfl) (by decide) (by decide) rfl rfl hm9 fun v10 w10 O10 E10 fr10 => ?_)
        obtain ⟨v10pa, v10pn, v10pc, rfl⟩ := O10.vals
        have own10 : ∀ k, (Value.slice v10pa v10pn v10pc).ownBlock = some k → w.heap.size ≤ k := fun k hk => Nat.le_trans X7.size (fr10 k hk)
        have X11 : Ext w w10 := X7.trans E10
        refine da_op rfl (d_as (v := (Value.slice v10pa v10pn v10pc)) rfl ?_)
        refine da_nil ?_
        refine W_seq ?_
        refine W_region rfl ?_
        refine da_op rfl (d_mv (v := (Value.slice v10pa v10pn v10pc)) rfl ?_)
        refine da_op rfl (d_mv (v := (Value.slice p0a p0n p0c)) s0_5 ?_)
        have B13 : RS w10 encF_f32 (Value.slice p0a p0n p0c) p0 := p0R.ext X11
        refine da_op rfl (d_copy0 (e := encF_f32) un48 (by kernel_rfl) rfl rfl rfl O10 B13 fun w12 O12 F12 => ?_)
        have X14 : Ext w w12 := Ext.step X11 F12 (fun k _ hk => own10 k hk)
        refine da_op rfl (d_as (v := .int .i64 ((min (p0).length (m9).length : Nat) : Int)) rfl ?_)
        refine da_nil ?_
        refine W_seq ?_
        refine W_block ?_
        obtain ⟨m15, hm15, hr⟩ := bind_out hr
        refine W_loopM hm15 (fun (s15 : Int × List Nat) σ w' => σ 8 = .int .i64 s15.1 ∧ σ 7 = (Value.slice v10pa v10pn v10pc) ∧ OS w' 22 encF_f32 (Value.slice v10pa v10pn v10pc) s15.2 ∧ Ext w w') (fun (e15 : (List Nat)) ex σ w' => ex = .exit 0 ∧ σ 7 = (Value.slice v10pa v10pn v10pc) ∧ OS w' 22 encF_f32 (Value.slice v10pa v10pn v10pc) e15 ∧ Ext w w') ⟨rfl, rfl, O12, X14⟩ ?_ ?_
        · skip
          rintro s15 σl15 wl15 r15l ⟨i15_S8, i15_S7, i15_1R, i15_X⟩ hr
          refine W_seq ?_
          refine W_seq ?_
          refine W_region rfl ?_
          refine da_op rfl (d_mv (v := .int .i64 s15.1) i15_S8 ?_)
          refine da_op rfl (d_mv (v := (Value.slice v10pa v10pn v10pc)) i15_S7 ?_)
          refine da_op rfl (d_len (e := encF_f32) un48 rfl i15_1R.rs ?_)
          refine da_op rfl (d_icmp cLss rfl rfl ?_)
          refine da_nil ?_
          refine W_cond (b := (icmp .lss s15.1 ((s15.2).length : Int))) rfl (fun hc16 => ?_) (fun hc16 => ?_)
          · skip
            replace hr := bif_t hr hc16
            refine W_skip ?_
            refine W_block ?_
            have B18 : RS wl15 encF_f32 (Value.slice p0a p0n p0c) p0 := p0R.ext i15_X
            obtain ⟨m19, hm19, hr⟩ := bind_out hr
            refine W_rep (e := encF_f32) mixed un48 size22 (by kernel_rfl) rfl i15_S7 i15_S8 hm19 i15_1R fun σ20 w20 s8_20 A20 O20 E20 => ?_
            have s7_20 : σ20 7 = (Value.slice v10pa v10pn v10pc) := (A20 7 rfl).trans i15_S7
            have X21 : Ext w w20 := Ext.step i15_X E20 (fun k _ hk => own10 k hk)
            obtain rfl := Option.some.inj hr
            exact ⟨_, rfl, ⟨s8_20, s7_20, O20, X21⟩⟩
          · skip
            replace hr := bif_f hr hc16
            refine W_exit ?_
            obtain rfl := Option.some.inj hr
            exact ⟨_, rfl, rfl, i15_S7, i15_1R, i15_X⟩
        · skip
          intro ex σx15 wx15 hq
          obtain ⟨rfl, q15_0_S7, q15_0_0R, q15_0_X⟩ := hq
          refine W_seq ?_
          refine W_region rfl ?_
          refine da_op rfl (d_mv (v := (Value.slice v10pa v10pn v10pc)) q15_0_S7 ?_)
          refine da_op rfl (d_as (v := (Value.slice v10pa v10pn v10pc)) rfl ?_)
          refine da_nil ?_
          refine W_ret ?_
          obtain rfl := Option.some.inj hr
          refine ⟨_, res1 (rv_tmp rfl), ?_⟩
          exact ⟨v10pa, v10pn, v10pc, rfl, q15_0_0R, own10, q15_0_X⟩
set_option maxHeartbeats 4000000 in
theorem c107 (p0 : SClock) (p0r0 : Nat) (p0r1 : Nat) (r : Bool) (w : World) (hr : M.impl_ValidClocks_1 p0 = r) (p0h0 : cn .f32 p0r0 = p0.turn) (p0h1 : cn .f32 p0r1 = p0.rate) :
    Calls Try.prog 107 #[.agg #[.float .f32 p0r0, .float .f32 p0r1]] w fun e w' => e = .returned (.bool r) ∧ Ext w w' := by
  refine calls_of_W Try.func107 rfl (Nat.le_of_ble_eq_true rfl) ?_
  refine W_seq ?_
  refine W_region rfl ?_
  refine da_op rfl (d_box (cs := #[.float .f32 p0r0, .float .f32 p0r1]) rfl fun w1 B1 E1 => ?_)
  have own2 : w.heap.size ≤ w.heap.size := Nat.le_trans (Ext.refl w).size (Nat.le_refl _)
  have X3 : Ext w w1 := (Ext.refl w).trans E1
  refine da_op rfl (d_as (v := .bool false) rfl ?_)
  refine da_nil ?_
  refine W_seq ?_
  obtain ⟨m4, hm4, hr⟩ := letv_out hr
  refine W_cut (fun σ' w' => σ' 2 = .bool m4 ∧ Ext w1 w') rfl ?_ ?_
  · skip
    have hr := hm4
    refine da_op rfl (d_fieldAddr rfl (fa109_0 _ _) ?_)
    refine da_op rfl (d_load (v := .float .f32 p0r0) rfl agg22 B1 rfl ?_)
    refine da_op rfl (d_fcmp (k := .f32) cGeq rfl rfl p0h0 cn_f32_0 ?_)
    refine da_op rfl (d_mv (v := .bool (fcmp .geq .f32 p0.turn 0)) rfl ?_)
    rcases Bool.eq_false_or_eq_true (fcmp .geq .f32 p0.turn 0) with hc5 | hc5
    · skip
      replace hr := bif_t hr hc5
      refine da_on rfl (Eq.trans (show sl _ _ _ = .bool (fcmp .geq .f32 p0.turn 0) from rfl) (congrArg Value.bool hc5)) (d_fieldAddr rfl (fa109_0 _ _) ?_)
      refine da_on rfl (Eq.trans (show sl _ _ _ = .bool (fcmp .geq .f32 p0.turn 0) from rfl) (congrArg Value.bool hc5)) (d_load (v := .float .f32 p0r0) rfl agg22 B1 rfl ?_)
      refine da_on rfl (Eq.trans (show sl _ _ _ = .bool (fcmp .geq .f32 p0.turn 0) from rfl) (congrArg Value.bool hc5)) (d_fcmp (k := .f32) cLss rfl rfl p0h0 cn_f32_1065353216 ?_)
      refine da_op rfl (d_pick (b := true) (Eq.trans (show ev _ _ = .bool (fcmp .geq .f32 p0.turn 0) from rfl) (congrArg Value.bool hc5)) ?_)
      refine da_op rfl (d_not rfl ?_)
      refine da_op rfl (d_mv (v := .bool (!(fcmp .lss .f32 p0.turn 1065353216))) rfl ?_)
      rcases Bool.eq_false_or_eq_true (fcmp .lss .f32 p0.turn 1065353216) with hc6 | hc6
      · skip
        replace hr := bif_t hr hc6
        refine da_on rfl (Eq.trans (show sl _ _ _ = .bool (!(fcmp .lss .f32 p0.turn 1065353216)) from rfl) (congrArg Value.bool (congrArg not hc6))) (d_fieldAddr rfl (fa109_1 _ _) ?_)
        refine da_on rfl (Eq.trans (show sl _ _ _ = .bool (!(fcmp .lss .f32 p0.turn 1065353216)) from rfl) (congrArg Value.bool (congrArg not hc6))) (d_load (v := .float .f32 p0r1) rfl agg22 B1 rfl ?_)
        obtain ⟨m7, hm7, hr⟩ := letv_out hr
        refine da_on rfl (Eq.trans (show sl _ _ _ = .bool (!(fcmp .lss .f32 p0.turn 1065353216)) from rfl) (congrArg Value.bool (congrArg not hc6))) (d_cl (vs := [.float .f32 p0r1]) en53 (ac rfl rfl) rfl ?_)
        refine (c53 p0.rate p0r1 m7 w1 hm7 p0h1).mono ?_
        rintro _ w8 ⟨rfl, E8⟩
        refine ⟨_, rfl, ?_⟩
        have X9 : Ext w w8 := X3.trans E8
        refine da_on rfl (Eq.trans (show sl _ _ _ = .bool (!(fcmp .lss .f32 p0.turn 1065353216)) from rfl) (congrArg Value.bool (congrArg not hc6))) (d_not rfl ?_)
        refine da_op rfl (d_pick (b := false) (Eq.trans (show ev _ _ = .bool (!(fcmp .lss .f32 p0.turn 1065353216)) from rfl) (congrArg Value.bool (congrArg not hc6))) ?_)
        refine da_op rfl (d_as (v := .bool (!m7)) rfl ?_)
        refine da_nil ?_
        subst hr
        exact ⟨rfl, (Ext.trans (Ext.refl w1) E8)⟩
      · skip
        replace hr := bif_f hr hc6
        refine da_off rfl (Eq.trans (show sl _ _ _ = .bool (!(fcmp .lss .f32 p0.turn 1065353216)) from rfl) (congrArg Value.bool (congrArg not hc6))) (by decide) ?_
        refine da_off rfl (Eq.trans (show sl _ _ _ = .bool (!(fcmp .lss .f32 p0.turn 1065353216)) from rfl) (congrArg Value.bool (congrArg not hc6))) (by decide) ?_
        refine da_off rfl (Eq.trans (show sl _ _ _ = .bool (!(fcmp .lss .f32 p0.turn 1065353216)) from rfl) (congrArg Value.bool (congrArg not hc6))) (by decide) ?_
        refine da_off rfl (Eq.trans (show sl _ _ _ = .bool (!(fcmp .lss .f32 p0.turn 1065353216)) from rfl) (congrArg Value.bool (congrArg not hc6))) (by decide) ?_
        refine da_op rfl (d_pick (b := true) (Eq.trans (show ev _ _ = .bool (!(fcmp .lss .f32 p0.turn 1065353216)) from rfl) (congrArg Value.bool (congrArg not hc6))) ?_)
        refine da_op rfl (d_as (v := .bool true) rfl ?_)
        refine da_nil ?_
        subst hr
        exact ⟨rfl, (Ext.refl w1)⟩
    · skip
      replace hr := bif_f hr hc5
      refine da_off rfl (Eq.trans (show sl _ _ _ = .bool (fcmp .geq .f32 p0.turn 0) from rfl) (congrArg Value.bool hc5)) (by decide) ?_
      refine da_off rfl (Eq.trans (show sl _ _ _ = .bool (fcmp .geq .f32 p0.turn 0) from rfl) (congrArg Value.bool hc5)) (by decide) ?_
      refine da_off rfl (Eq.trans (show sl _ _ _ = .bool (fcmp .geq .f32 p0.turn 0) from rfl) (congrArg Value.bool hc5)) (by decide) ?_
      refine da_op rfl (d_pick (b := false) (Eq.trans (show ev _ _ = .bool (fcmp .geq .f32 p0.turn 0) from rfl) (congrArg Value.bool hc5)) ?_)
      refine da_op rfl (d_not rfl ?_)
      refine da_op rfl (d_mv (v := .bool true) rfl ?_)
      refine da_off rfl rfl (by decide) ?_
      refine da_off rfl rfl (by decide) ?_
      refine da_off rfl rfl (by decide) ?_
      refine da_off rfl rfl (by decide) ?_
      refine da_op rfl (d_pick (b := true) rfl ?_)
      refine da_op rfl (d_as (v := .bool true) rfl ?_)
      refine da_nil ?_
      subst hr
      exact ⟨rfl, (Ext.refl w1)⟩
  · skip
    rintro σ4 w4 o4 ⟨s2_4, E4⟩
    have X10 : Ext w w4 := X3.trans E4
    refine W_ret ?_
    subst hr
    refine ⟨_, res1 (rv_tmp s2_4), ?_⟩
    exact ⟨rfl, X10⟩
set_option maxHeartbeats 4000000 in
theorem c126_f107 (p0 : List SClock) (p0a : Option Addr) (p0n : Nat) (p0c : Nat) (r : Int) (w : World) (hr : M.slices_IndexFunc___impl_Clock_impl_Clock__f107 p0 = some r) (p0R : RS w encSClock (Value.slice p0a p0n p0c) p0) :
    Calls Try.prog 126 #[(Value.slice p0a p0n p0c), .func (.func 107) #[] #[]] w fun e w' => e = .returned (.int .i64 r) ∧ Ext w w' := by
  refine calls_of_W Try.func126 rfl (Nat.le_of_ble_eq_true rfl) ?_
  refine W_seq ?_
  refine W_region rfl ?_
  refine da_op rfl (d_as (v := .int .i64 0) rfl ?_)
  refine da_nil ?_
  refine W_seq ?_
  refine W_seq ?_
  refine W_region rfl ?_
  refine da_op rfl (d_mv (v := (Value.slice p0a p0n p0c)) rfl ?_)
  refine da_op rfl (d_len (e := encSClock) un52 rfl p0R ?_)
  refine da_op rfl (d_mv (v := .int .i64 0) rfl ?_)
  refine da_nil ?_
  refine W_block ?_
  obtain ⟨m1, hm1, hr⟩ := bind_out hr
  refine W_loopM hm1 (fun (s1 : Int) σ w' => σ 8 = .int .i64 s1 ∧ σ 0 = (Value.slice p0a p0n p0c) ∧ σ 1 = .func (.func 107) #[] #[] ∧ σ 7 = .int .i64 ((p0).length : Int) ∧ Ext w w') (fun (e1 : (Unit ⊕ Int)) ex σ w' => sel e1 (fun e1 => ex = .exit 0 ∧ Ext w w') (fun e1 => ex = .ret ∧ σ 4 = .int .i64 e1 ∧ Ext w w')) ⟨rfl, rfl, rfl, rfl, (Ext.refl w)⟩ ?_ ?_
  · skip
    rintro s1 σl1 wl1 r1l ⟨i1_S8, i1_S0, i1_S1, i1_S7, i1_X⟩ hr
    refine W_seq ?_
    refine W_region rfl ?_
    refine da_op rfl (d_icmp cLss i1_S8 i1_S7 ?_)
    refine da_nil ?_
    refine W_seq ?_
    refine W_cond (b := (icmp .lss s1 ((p0).length : Int))) rfl (fun hc2 => ?_) (fun hc2 => ?_)
    · skip
      replace hr := bif_t hr hc2
      refine W_skip ?_
      refine W_seq ?_
      refine W_block ?_
      refine W_seq ?_
      refine W_region rfl ?_
      refine da_op rfl (d_mv (v := .int .i64 s1) i1_S8 ?_)
      refine da_op rfl (d_as (v := .int .i64 s1) rfl ?_)
      refine da_nil ?_
      refine W_seq ?_
      refine W_region rfl ?_
      refine da_op rfl (d_mv (v := .func (.func 107) #[] #[]) i1_S1 ?_)
      refine da_op rfl (d_mv (v := (Value.slice p0a p0n p0c)) i1_S0 ?_)
      refine da_op rfl (d_mv (v := .int .i64 s1) rfl ?_)
      obtain ⟨m3, hm3, hr⟩ := bind_out hr
      have B5 : RS wl1 encSClock (Value.slice p0a p0n p0c) p0 := p0R.ext i1_X
      refine da_op rfl (d_index (e := encSClock) (v := (Value.slice p0a p0n p0c)) un52 size109 rfl rfl B5 hm3 fun g4 o4 cu4 T4 fr4 vs4 hv4 hg4 hp4 hq4 => ?_)
      obtain ⟨e4_r0, e4_r1, rfl, e4_h0, e4_h1⟩ := dec_encSClock hq4
      refine da_op rfl (d_loads (vs := #[.float .f32 e4_r0, .float .f32 e4_r1]) rfl agg109 size109 hg4 (sub_take (vs := #[.float .f32 e4_r0, .float .f32 e4_r1]) (us := #[.float .f32 e4_r0, .float .f32 e4_r1]) (i := 0) hp4 rfl (Nat.le_of_ble_eq_true rfl)) ?_)
      obtain ⟨m6, hm6, hr⟩ := letv_out hr
      refine da_op rfl (d_clv (vs := [.agg #[.float .f32 e4_r0, .float .f32 e4_r1]]) (cap := []) en107 rfl (ac rfl rfl) ?_)
      refine (c107 m3 e4_r0 e4_r1 m6 wl1 hm6 e4_h0 e4_h1).mono ?_
      rintro _ w7 ⟨rfl, E7⟩
      refine ⟨_, rfl, ?_⟩
      have X8 : Ext w w7 := i1_X.trans E7
      refine da_nil ?_
      refine W_cond (b := m6) rfl (fun hc9 => ?_) (fun hc9 => ?_)
      · skip
        replace hr := bif_t hr hc9
        refine W_seq ?_
        refine W_region rfl ?_
        refine da_op rfl (d_mv (v := .int .i64 s1) rfl ?_)
        refine da_op rfl (d_as (v := .int .i64 s1) rfl ?_)
        refine da_nil ?_
        refine W_ret ?_
        obtain rfl := Option.some.inj hr
        exact ⟨_, rfl, rfl, rfl, X8⟩
      · skip
        replace hr := bif_f hr hc9
        refine W_skip ?_
        refine W_region rfl ?_
        refine da_op rfl (d_iarith i1_S8 rfl (.inl ⟨rfl, rfl⟩) ?_)
        refine da_op rfl (d_mv (v := .int .i64 (IntKind.i64.wrap (s1 + 1))) rfl ?_)
        refine da_nil ?_
        obtain rfl := Option.some.inj hr
        exact ⟨_, rfl, ⟨rfl, i1_S0, i1_S1, i1_S7, X8⟩⟩
    · skip
      replace hr := bif_f hr hc2
      refine W_exit ?_
      obtain rfl := Option.some.inj hr
      exact ⟨_, rfl, rfl, i1_X⟩
  · skip
    intro ex σx1 wx1 hq
    rcases m1 with m1 | m1
    · skip
      obtain ⟨rfl, q1_0_X⟩ := hq
      refine W_seq ?_
      refine W_region rfl ?_
      refine da_op rfl (d_as (v := .int .i64 (-1)) rfl ?_)
      refine da_nil ?_
      refine W_ret ?_
      obtain rfl := Option.some.inj hr
      refine ⟨_, res1 (rv_tmp rfl), ?_⟩
      exact ⟨rfl, q1_0_X⟩
    · skip
      obtain ⟨rfl, q1_1_S4, q1_1_X⟩ := hq
      obtain rfl := Option.some.inj hr
      refine ⟨_, res1 (rv_tmp q1_1_S4), ?_⟩
      exact ⟨rfl, q1_1_X⟩
set_option maxHeartbeats 4000000 in
theorem c106_f107 (p0 : List SClock) (p0a : Option Addr) (p0n : Nat) (p0c : Nat) (r : Bool) (w : World) (hr : M.slices_ContainsFunc___impl_Clock_impl_Clock__f107 p0 = some r) (p0R : RS w encSClock (Value.slice p0a p0n p0c) p0) :
    Calls Try.prog 106 #[(Value.slice p0a p0n p0c), .func (.func 107) #[] #[]] w fun e w' => e = .returned (.bool r) ∧ Ext w w' := by
  refine calls_of_W Try.func106 rfl (Nat.le_of_ble_eq_true rfl) ?_
  refine W_seq ?_
  refine W_region rfl ?_
  refine da_op rfl (d_as (v := .bool false) rfl ?_)
  refine da_nil ?_
  refine W_seq ?_
  refine W_region rfl ?_
  refine da_op rfl (d_mv (v := (Value.slice p0a p0n p0c)) rfl ?_)
  refine da_op rfl (d_mv (v := .func (.func 107) #[] #[]) rfl ?_)
  obtain ⟨m1, hm1, hr⟩ := bind_out hr
  refine da_op rfl (d_cl (vs := [(Value.slice p0a p0n p0c), .func (.func 107) #[] #[]]) en126 (ac rfl (ac rfl rfl)) rfl ?_)
  refine (c126_f107 p0 p0a p0n p0c m1 w hm1 p0R).mono ?_
  rintro _ w2 ⟨rfl, E2⟩
  refine ⟨_, rfl, ?_⟩
  have X3 : Ext w w2 := (Ext.refl w).trans E2
  refine da_op rfl (d_icmp cGeq rfl rfl ?_)
  refine da_op rfl (d_as (v := .bool (icmp .geq m1 0)) rfl ?_)
  refine da_nil ?_
  refine W_ret ?_
  obtain rfl := Option.some.inj hr
  refine ⟨_, res1 (rv_tmp rfl), ?_⟩
  exact ⟨rfl, X3⟩
set_option maxHeartbeats 4000000 in
theorem c74 (p0 : SClocks) (p0v0a : Option Addr) (p0v0n : Nat) (p0v0c : Nat) (p0v1a : Option Addr) (p0v1n : Nat) (p0v1c : Nat) (r : Bool) (w : World) (hr : M.impl_ValidClocks p0 = some r) (p0v0R : RS w encSClock (Value.slice p0v0a p0v0n p0v0c) p0.list) (p0v1R : RS w encF_f32 (Value.slice p0v1a p0v1n p0v1c) p0.links) :
    Calls Try.prog 74 #[.agg #[(Value.slice p0v0a p0v0n p0v0c), (Value.slice p0v1a p0v1n p0v1c)]] w fun e w' => e = .returned (.bool r) ∧ Ext w w' := by
  refine calls_of_W Try.func74 rfl (Nat.le_of_ble_eq_true rfl) ?_
  refine W_seq ?_
  refine W_region rfl ?_
  refine da_op rfl (d_box (cs := #[(Value.slice p0v0a p0v0n p0v0c), (Value.slice p0v1a p0v1n p0v1c)]) rfl fun w1 B1 E1 => ?_)
  have own2 : w.heap.size ≤ w.heap.size := Nat.le_trans (Ext.refl w).size (Nat.le_refl _)
  have X3 : Ext w w1 := (Ext.refl w).trans E1
  refine da_op rfl (d_as (v := .bool false) rfl ?_)
  refine da_nil ?_
  refine W_seq ?_
  refine W_region rfl ?_
  refine da_op rfl (d_fieldAddr rfl (fa54_0 _ _) ?_)
  refine da_op rfl (d_load (v := (Value.slice p0v0a p0v0n p0v0c)) rfl agg52 B1 rfl ?_)
  have B4 : RS w1 encSClock (Value.slice p0v0a p0v0n p0v0c) p0.list := p0v0R.ext X3
  refine da_op rfl (d_len (e := encSClock) un52 rfl B4 ?_)
  refine da_op rfl (d_as (v := .int .i64 ((p0.list).length : Int)) rfl ?_)
  refine da_nil ?_
  refine W_seq ?_
  refine W_region rfl ?_
  refine da_op rfl (d_fieldAddr rfl (fa54_0 _ _) ?_)
  refine da_op rfl (d_load (v := (Value.slice p0v0a p0v0n p0v0c)) rfl agg52 B1 rfl ?_)
  obtain ⟨m5, hm5, hr⟩ := bind_out hr
  refine da_op rfl (d_cl (vs := [(Value.slice p0v0a p0v0n p0v0c), .func (.func 107) #[] #[]]) en106 (ac rfl (ac rfl rfl)) rfl ?_)
  refine (c106_f107 p0.list p0v0a p0v0n p0v0c m5 w1 hm5 B4).mono ?_
  rintro _ w6 ⟨rfl, E6⟩
  refine ⟨_, rfl, ?_⟩
  have X7 : Ext w w6 := X3.trans E6
  refine da_op rfl (d_as (v := .bool m5) rfl ?_)
  refine da_nil ?_
  refine W_seq ?_
  have B9 : w6.heap[w.heap.size]? = some (.cells #[(Value.slice p0v0a p0v0n p0v0c), (Value.slice p0v1a p0v1n p0v1c)] 54 (0, 0)) := E6.heap B1
  obtain ⟨m8, hm8, hr⟩ := bind_out hr
  refine W_cut (fun σ' w' => σ' 2 = .bool m8 ∧ Ext w6 w') rfl ?_ ?_
  · skip
    have hr := hm8
    refine da_op rfl (d_mv (v := .int .i64 ((p0.list).length : Int)) rfl ?_)
    obtain ⟨m10, hm10, hr⟩ := letv_out hr
    refine da_op rfl (d_cl (vs := [.int .i64 ((p0.list).length : Int), .int .i64 1, .int .i64 12]) en54 (ac rfl (ac rfl (ac rfl rfl))) rfl ?_)
    refine (c54 ((p0.list).length : Int) 1 12 m10 w6 hm10 ).mono ?_
    rintro _ w11 ⟨rfl, E11⟩
    refine ⟨_, rfl, ?_⟩
    have X12 : Ext w w11 := X7.trans E11
    refine da_op rfl (d_mv (v := .bool m10) rfl ?_)
    rcases Bool.eq_false_or_eq_true m10 with hc13 | hc13
    · skip
      replace hr := bif_t hr hc13
      refine da_on rfl (Eq.trans (show sl _ _ _ = .bool m10 from rfl) (congrArg Value.bool hc13)) (d_mv (v := .bool m5) rfl ?_)
      refine da_on rfl (Eq.trans (show sl _ _ _ = .bool m10 from rfl) (congrArg Value.bool hc13)) (d_not rfl ?_)
      refine da_op rfl (d_pick (b := true) (Eq.trans (show ev _ _ = .bool m10 from rfl) (congrArg Value.bool hc13)) ?_)
      refine da_op rfl (d_mv (v := .bool (!m5)) rfl ?_)
      rcases Bool.eq_false_or_eq_true m5 with hc14 | hc14
      · skip
        replace hr := bif_t hr hc14
        refine da_off rfl (Eq.trans (show sl _ _ _ = .bool (!m5) from rfl) (congrArg Value.bool (congrArg not hc14))) (by decide) ?_
        refine da_off rfl (Eq.trans (show sl _ _ _ = .bool (!m5) from rfl) (congrArg Value.bool (congrArg not hc14))) (by decide) ?_
        refine da_off rfl (Eq.trans (show sl _ _ _ = .bool (!m5) from rfl) (congrArg Value.bool (congrArg not hc14))) (by decide) ?_
        refine da_off rfl (Eq.trans (show sl _ _ _ = .bool (!m5) from rfl) (congrArg Value.bool (congrArg not hc14))) (by decide) ?_
        refine da_off rfl (Eq.trans (show sl _ _ _ = .bool (!m5) from rfl) (congrArg Value.bool (congrArg not hc14))) (by decide) ?_
        refine da_off rfl (Eq.trans (show sl _ _ _ = .bool (!m5) from rfl) (congrArg Value.bool (congrArg not hc14))) (by decide) ?_
        refine da_off rfl (Eq.trans (show sl _ _ _ = .bool (!m5) from rfl) (congrArg Value.bool (congrArg not hc14))) (by decide) ?_
        refine da_op rfl (d_pick (b := false) (Eq.trans (show ev _ _ = .bool (!m5) from rfl) (congrArg Value.bool (congrArg not hc14))) ?_)
        refine da_op rfl (d_mv (v := .bool false) rfl ?_)
        refine da_off rfl rfl (by decide) ?_
        refine da_off rfl rfl (by decide) ?_
        refine da_off rfl rfl (by decide) ?_
        refine da_op rfl (d_pick (b := false) rfl ?_)
        refine da_op rfl (d_as (v := .bool false) rfl ?_)
        refine da_nil ?_
        obtain rfl := Option.some.inj hr
        exact ⟨rfl, (Ext.trans (Ext.refl w6) E11)⟩
      · skip
        replace hr := bif_f hr hc14
        refine da_on rfl (Eq.trans (show sl _ _ _ = .bool (!m5) from rfl) (congrArg Value.bool (congrArg not hc14))) (d_fieldAddr rfl (fa54_1 _ _) ?_)
        have B15 : w11.heap[w.heap.size]? = some (.cells #[(Value.slice p0v0a p0v0n p0v0c), (Value.slice p0v1a p0v1n p0v1c)] 54 (0, 0)) := E11.heap B9
        refine da_on rfl (Eq.trans (show sl _ _ _ = .bool (!m5) from rfl) (congrArg Value.bool (congrArg not hc14))) (d_load (v := (Value.slice p0v1a p0v1n p0v1c)) rfl agg48 B15 rfl ?_)
        have B16 : RS w11 encF_f32 (Value.slice p0v1a p0v1n p0v1c) p0.links := p0v1R.ext X12
        refine da_on rfl (Eq.trans (show sl _ _ _ = .bool (!m5) from rfl) (congrArg Value.bool (congrArg not hc14))) (d_len (e := encF_f32) un48 rfl B16 ?_)
        refine da_on rfl (Eq.trans (show sl _ _ _ = .bool (!m5) from rfl) (congrArg Value.bool (congrArg not hc14))) (d_mv (v := .int .i64 ((p0.list).length : Int)) rfl ?_)
        refine da_on rfl (Eq.trans (show sl _ _ _ = .bool (!m5) from rfl) (congrArg Value.bool (congrArg not hc14))) (d_mv (v := .int .i64 ((p0.list).length : Int)) rfl ?_)
        refine da_on rfl (Eq.trans (show sl _ _ _ = .bool (!m5) from rfl) (congrArg Value.bool (congrArg not hc14))) (d_iarith rfl rfl (.inr (.inr ⟨rfl, rfl⟩)) ?_)
        refine da_on rfl (Eq.trans (show sl _ _ _ = .bool (!m5) from rfl) (congrArg Value.bool (congrArg not hc14))) (d_icmp cEql rfl rfl ?_)
        refine da_op rfl (d_pick (b := true) (Eq.trans (show ev _ _ = .bool (!m5) from rfl) (congrArg Value.bool (congrArg not hc14))) ?_)
        refine da_op rfl (d_mv (v := .bool (icmp .eql ((p0.links).length : Int) (IntKind.i64.wrap (((p0.list).length : Int) * ((p0.list).length : Int))))) rfl ?_)
        rcases Bool.eq_false_or_eq_true (icmp .eql ((p0.links).length : Int) (IntKind.i64.wrap (((p0.list).length : Int) * ((p0.list).length : Int)))) with hc17 | hc17
        · skip
          replace hr := bif_t hr hc17
          refine da_on rfl (Eq.trans (show sl _ _ _ = .bool (icmp .eql ((p0.links).length : Int) (IntKind.i64.wrap (((p0.list).length : Int) * ((p0.list).length : Int)))) from rfl) (congrArg Value.bool hc17)) (d_fieldAddr rfl (fa54_1 _ _) ?_)
          refine da_on rfl (Eq.trans (show sl _ _ _ = .bool (icmp .eql ((p0.links).length : Int) (IntKind.i64.wrap (((p0.list).length : Int) * ((p0.list).length : Int)))) from rfl) (congrArg Value.bool hc17)) (d_load (v := (Value.slice p0v1a p0v1n p0v1c)) rfl agg48 B15 rfl ?_)
          obtain ⟨m18, hm18, hr⟩ := bind_out hr
          refine da_on rfl (Eq.trans (show sl _ _ _ = .bool (icmp .eql ((p0.links).length : Int) (IntKind.i64.wrap (((p0.list).length : Int) * ((p0.list).length : Int)))) from rfl) (congrArg Value.bool hc17)) (d_cl (vs := [(Value.slice p0v1a p0v1n p0v1c)]) en32 (ac rfl rfl) rfl ?_)
          refine (c32 p0.links p0v1a p0v1n p0v1c m18 w11 hm18 B16).mono ?_
          rintro _ w19 ⟨rfl, E19⟩
          refine ⟨_, rfl, ?_⟩
          have X20 : Ext w w19 := X12.trans E19
          refine da_op rfl (d_pick (b := true) (Eq.trans (show ev _ _ = .bool (icmp .eql ((p0.links).length : Int) (IntKind.i64.wrap (((p0.list).length : Int) * ((p0.list).length : Int)))) from rfl) (congrArg Value.bool hc17)) ?_)
          refine da_op rfl (d_as (v := .bool m18) rfl ?_)
          refine da_nil ?_
          obtain rfl := Option.some.inj hr
          exact ⟨rfl, (Ext.trans (Ext.trans (Ext.refl w6) E11) E19)⟩
        · skip
          replace hr := bif_f hr hc17
          refine da_off rfl (Eq.trans (show sl _ _ _ = .bool (icmp .eql ((p0.links).length : Int) (IntKind.i64.wrap (((p0.list).length : Int) * ((p0.list).length : Int)))) from rfl) (congrArg Value.bool hc17)) (by decide) ?_
          refine da_off rfl (Eq.trans (show sl _ _ _ = .bool (icmp .eql ((p0.links).length : Int) (IntKind.i64.wrap (((p0.list).length : Int) * ((p0.list).length : Int)))) from rfl) (congrArg Value.bool hc17)) (by decide) ?_
          refine da_off rfl (Eq.trans (show sl _ _ _ = .bool (icmp .eql ((p0.links).length : Int) (IntKind.i64.wrap (((p0.list).length : Int) * ((p0.list).length : Int)))) from rfl) (congrArg Value.bool hc17)) (by decide) ?_
          refine da_op rfl (d_pick (b := false) (Eq.trans (show ev _ _ = .bool (icmp .eql ((p0.links).length : Int) (IntKind.i64.wrap (((p0.list).length : Int) * ((p0.list).length : Int)))) from rfl) (congrArg Value.bool hc17)) ?_)
          refine da_op rfl (d_as (v := .bool false) rfl ?_)
          refine da_nil ?_
          obtain rfl := Option.some.inj hr
          exact ⟨rfl, (Ext.trans (Ext.refl w6) E11)⟩
    · skip
      replace hr := bif_f hr hc13
      refine da_off rfl (Eq.trans (show sl _ _ _ = .bool m10 from rfl) (congrArg Value.bool hc13)) (by decide) ?_
      refine da_off rfl (Eq.trans (show sl _ _ _ = .bool m10 from rfl) (congrArg Value.bool hc13)) (by decide) ?_
      refine da_op rfl (d_pick (b := false) (Eq.trans (show ev _ _ = .bool m10 from rfl) (congrArg Value.bool hc13)) ?_)
      refine da_op rfl (d_mv (v := .bool false) rfl ?_)
      refine da_off rfl rfl (by decide) ?_
      refine da_off rfl rfl (by decide) ?_
      refine da_off rfl rfl (by decide) ?_
      refine da_off rfl rfl (by decide) ?_
      refine da_off rfl rfl (by decide) ?_
      refine da_off rfl rfl (by decide) ?_
      refine da_off rfl rfl (by decide) ?_
      refine da_op rfl (d_pick (b := false) rfl ?_)
      refine da_op rfl (d_mv (v := .bool false) rfl ?_)
      refine da_off rfl rfl (by decide) ?_
      refine da_off rfl rfl (by decide) ?_
      refine da_off rfl rfl (by decide) ?_
      refine da_op rfl (d_pick (b := false) rfl ?_)
      refine da_op rfl (d_as (v := .bool false) rfl ?_)
      refine da_nil ?_
      obtain rfl := Option.some.inj hr
      exact ⟨rfl, (Ext.trans (Ext.refl w6) E11)⟩
  · skip
    rintro σ8 w8 o8 ⟨s2_8, E8⟩
    have X21 : Ext w w8 := X7.trans E8
    refine W_ret ?_
    obtain rfl := Option.some.inj hr
    refine ⟨_, res1 (rv_tmp s2_8), ?_⟩
    exact ⟨rfl, X21⟩
set_option maxHeartbeats 4000000 in
theorem c38 (p0 : Int) (p1 : Nat) (p2 : Nat) (p1r : Nat) (p2r : Nat) (r : SClocks × Bool) (w : World) (hr : M.impl_EvenClocks p0 p1 p2 = some r) (p1h : cn .f32 p1r = p1) (p2h : cn .f32 p2r = p2) :
    Calls Try.prog 38 #[.int .i64 p0, .float .f32 p1r, .float .f32 p2r] w fun e w' => ∃ q0v0a : Option Addr, ∃ q0v0n : Nat, ∃ q0v0c : Nat, ∃ q0v1a : Option Addr, ∃ q0v1n : Nat, ∃ q0v1c : Nat, e = .returned (.tuple #[.agg #[(Value.slice q0v0a q0v0n q0v0c), (Value.slice q0v1a q0v1n q0v1c)], .bool r.2]) ∧ OS w' 109 encSClock (Value.slice q0v0a q0v0n q0v0c) r.1.list ∧ (∀ k, (Value.slice q0v0a q0v0n q0v0c).ownBlock = some k → w.heap.size ≤ k) ∧ OS w' 22 encF_f32 (Value.slice q0v1a q0v1n q0v1c) r.1.links ∧ (∀ k, (Value.slice q0v1a q0v1n q0v1c).ownBlock = some k → w.heap.size ≤ k) ∧ (∀ k, (Value.slice q0v0a q0v0n q0v0c).ownBlock = some k → ¬ (Value.slice q0v1a q0v1n q0v1c).ownBlock = some k) ∧ Ext w w' := by
  refine calls_of_W Try.func38 rfl (Nat.le_of_ble_eq_true rfl) ?_
  refine W_seq ?_
  refine W_region rfl ?_
  refine da_op rfl (d_alloc (cs := #[.slice none 0 0, .slice none 0 0]) zero54 rfl fun w1 B1 E1 => ?_)
  have own2 : w.heap.size ≤ w.heap.size := Nat.le_trans (Ext.refl w).size (Nat.le_refl _)
  have X3 : Ext w w1 := (Ext.refl w).trans E1
  refine da_op rfl (d_as (v := .bool false) rfl ?_)
  refine da_nil ?_
  refine W_seq ?_
  refine W_seq ?_
  refine W_region rfl ?_
  refine da_op rfl (d_mv (v := .int .i64 p0) rfl ?_)
  obtain ⟨m4, hm4, hr⟩ := letv_out hr
  refine da_op rfl (d_cl (vs := [.int .i64 p0, .int .i64 1, .int .i64 12]) en54 (ac rfl (ac rfl (ac rfl rfl))) rfl ?_)
  refine (c54 p0 1 12 m4 w1 hm4 ).mono ?_
  rintro _ w5 ⟨rfl, E5⟩
  refine ⟨_, rfl, ?_⟩
  have X6 : Ext w w5 := X3.trans E5
  refine da_op rfl (d_not rfl ?_)
  refine da_nil ?_
  refine W_cond (b := (!m4)) rfl (fun hc7 => ?_) (fun hc7 => ?_)
  · skip
    replace hr := bif_t hr hc7
    refine W_seq ?_
    refine W_region rfl ?_
    refine da_op rfl (d_bd (vs := []) (cs := #[.slice none 0 0, .slice none 0 0]) rfl (by kernel_rfl) ?_)
    have B8 : w5.heap[w.heap.size]? = some (.cells #[.slice none 0 0, .slice none 0 0] 54 (0, 0)) := E5.heap B1
    refine da_op rfl (d_store (vs := #[.slice none 0 0, .slice none 0 0]) rfl rfl B8 size54 (Nat.le_of_ble_eq_true rfl) rfl fun w9 S9 => ?_)
    have X10 : Ext w w9 := Ext.step X6 S9.frmb (fun k _ hk => hk ▸ own2)
    have B11 : w9.heap[w.heap.size]? = some (.cells #[.slice none 0 0, .slice none 0 0] 54 (0, 0)) := S9.here
    refine da_op rfl (d_as (v := .bool false) rfl ?_)
    refine da_nil ?_
    refine W_ret ?_
    obtain rfl := Option.some.inj hr
    refine ⟨_, res2 (rv_cells (vs := #[.slice none 0 0, .slice none 0 0]) rfl agg54 size54 B11 rfl) (rv_tmp rfl), ?_⟩
    exact ⟨none, 0, 0, none, 0, 0, rfl, (OS.nil _ 109 encSClock), (fun k hk => by cases hk), (OS.nil _ 22 encF_f32), (fun k hk => by cases hk), (by intro k hk; cases hk), X10⟩
  · skip
    replace hr := bif_f hr hc7
    refine W_skip ?_
    refine W_seq ?_
    refine W_region rfl ?_
    refine da_op rfl (d_mv (v := .float .f32 p2r) rfl ?_)
    have B13 : w5.heap[w.heap.size]? = some (.cells #[.slice none 0 0, .slice none 0 0] 54 (0, 0)) := E5.heap B1
    refine da_op rfl (d_bslice (vs := [(0, .float .f32 p2r)]) (cs := #[.float .f32 p2r]) un48 (pc rfl rfl) (by kernel_rfl) fun w12 B12 E12 => ?_)
    have fr12 : ∀ k, (Value.slice (some ⟨w5.heap.size, 0, none⟩) 1 1).ownBlock = some k → w5.heap.size ≤ k := fun k hk => by cases hk; exact Nat.le_refl _
    have own12 : ∀ k, (Value.slice (some ⟨w5.heap.size, 0, none⟩) 1 1).ownBlock = some k → w.heap.size ≤ k := fun k hk => Nat.le_trans X6.size (fr12 k hk)
    have sp14 : ¬ (Value.slice (some ⟨w5.heap.size, 0, none⟩) 1 1).ownBlock = some w.heap.size := ne_fresh fr12 (lt_heap B13)
    have X15 : Ext w w12 := X6.trans E12
    have O12 : OS w12 22 encF_f32 (Value.slice (some ⟨w5.heap.size, 0, none⟩) 1 1) [p2] := OS.box (xs := [p2]) B12 (lc_f p2h rfl) (Nat.le_of_ble_eq_true rfl)
    refine da_op rfl (d_mv (v := .int .i64 p0) rfl ?_)
    refine da_op rfl (d_mv (v := .int .i64 p0) rfl ?_)
    refine da_op rfl (d_iarith rfl rfl (.inr (.inr ⟨rfl, rfl⟩)) ?_)
    obtain ⟨m16, hm16, hr⟩ := bind_out hr
    have B17 : w12.heap[w.heap.size]? = some (.cells #[.slice none 0 0, .slice none 0 0] 54 (0, 0)) := E12.heap B13
    refine da_op rfl (d_cl (vs := [(Value.slice (some ⟨w5.heap.size, 0, none⟩) 1 1), .int .i64 (IntKind.i64.wrap (p0 * p0))]) en73 (ac rfl (ac rfl rfl)) rfl ?_)
    refine (c73 ([p2]) (IntKind.i64.wrap (p0 * p0)) (some ⟨w5.heap.size, 0, none⟩) 1 1 m16 w12 hm16 O12.rs).mono ?_
    rintro _ w18 ⟨q18_0a, q18_0n, q18_0c, rfl, q18_0R, q18_0F, E18⟩
    refine ⟨_, rfl, ?_⟩
    have own19 : ∀ k, (Value.slice q18_0a q18_0n q18_0c).ownBlock = some k → w.heap.size ≤ k := fun k hk => Nat.le_trans X15.size (q18_0F k hk)
    have sp20 : ¬ (Value.slice q18_0a q18_0n q18_0c).ownBlock = some w.heap.size := ne_fresh q18_0F (lt_heap B17)
    have sp21 : ∀ k, (Value.slice (some ⟨w5.heap.size, 0, none⟩) 1 1).ownBlock = some k → ¬ (Value.slice q18_0a q18_0n q18_0c).ownBlock = some k := apart_fresh O12 q18_0F
    have X22 : Ext w w18 := X15.trans E18
    refine da_op rfl (d_bd (vs := [(1, (Value.slice q18_0a q18_0n q18_0c))]) (cs := #[.slice none 0 0, (Value.slice q18_0a q18_0n q18_0c)]) (pc rfl rfl) (by kernel_rfl) ?_)
    have B24 : w18.heap[w.heap.size]? = some (.cells #[.slice none 0 0, .slice none 0 0] 54 (0, 0)) := E18.heap B17
    have B25 : OS w18 22 encF_f32 (Value.slice (some ⟨w5.heap.size, 0, none⟩) 1 1) ([p2]) := O12.ext E18
    refine da_op rfl (d_alloc (cs := #[.slice none 0 0, .slice none 0 0]) zero54 rfl fun w23 B23 E23 => ?_)
    have own26 : w.heap.size ≤ w18.heap.size := Nat.le_trans X22.size (Nat.le_refl _)
    have sp27 : w.heap.size ≠ w18.heap.size := Nat.ne_of_lt (Nat.lt_of_lt_of_le (lt_heap B24) (Nat.le_refl _))
    have sp28 : ¬ (Value.slice (some ⟨w5.heap.size, 0, none⟩) 1 1).ownBlock = some w18.heap.size := OS.ne_new B25 (Nat.le_refl _)
    have sp29 : ¬ (Value.slice q18_0a q18_0n q18_0c).ownBlock = some w18.heap.size := OS.ne_new q18_0R (Nat.le_refl _)
    have X30 : Ext w w23 := X22.trans E23
    refine da_op rfl (d_store (vs := #[.slice none 0 0, (Value.slice q18_0a q18_0n q18_0c)]) rfl rfl B23 size54 (Nat.le_of_ble_eq_true rfl) rfl fun w31 S31 => ?_)
    have X32 : Ext w w31 := Ext.step X30 S31.frmb (fun k _ hk => hk ▸ own26)
    have B33 : w31.heap[w18.heap.size]? = some (.cells #[.slice none 0 0, (Value.slice q18_0a q18_0n q18_0c)] 54 (0, 0)) := S31.here
    refine da_nil ?_
    refine W_seq ?_
    refine W_seq ?_
    refine W_region rfl ?_
    refine da_op rfl (d_mv (v := .int .i64 p0) rfl ?_)
    refine da_op rfl (d_mv (v := .int .i64 0) rfl ?_)
    refine da_nil ?_
    refine W_block ?_
    have B35 : w31.heap[w.heap.size]? = some (.cells #[.slice none 0 0, .slice none 0 0] 54 (0, 0)) := S31.frmb.heap sp27 (E23.heap B24)
    have B36 : OS w31 22 encF_f32 (Value.slice q18_0a q18_0n q18_0c) m16 := (q18_0R.ext E23).frm S31.frmb (rb sp29)
    obtain ⟨m34, hm34, hr⟩ := bind_out hr
    refine W_loopM hm34 (fun (s34 : Int × SClocks) σ w' => ∃ i34_1v0a : Option Addr, ∃ i34_1v0n : Nat, ∃ i34_1v0c : Nat, ∃ i34_1v1a : Option Addr, ∃ i34_1v1n : Nat, ∃ i34_1v1c : Nat, σ 22 = .int .i64 s34.1 ∧ σ 0 = .int .i64 p0 ∧ σ 1 = .float .f32 p1r ∧ σ 6 = .pointer (some ⟨w.heap.size, 0, none⟩) ∧ σ 8 = .pointer (some ⟨w18.heap.size, 0, none⟩) ∧ σ 21 = .int .i64 p0 ∧ OS w' 109 encSClock (Value.slice i34_1v0a i34_1v0n i34_1v0c) s34.2.list ∧ (∀ k, (Value.slice i34_1v0a i34_1v0n i34_1v0c).ownBlock = some k → w.heap.size ≤ k) ∧ OS w' 22 encF_f32 (Value.slice i34_1v1a i34_1v1n i34_1v1c) s34.2.links ∧ (∀ k, (Value.slice i34_1v1a i34_1v1n i34_1v1c).ownBlock = some k → w.heap.size ≤ k) ∧ w'.heap[w18.heap.size]? = some (.cells #[(Value.slice i34_1v0a i34_1v0n i34_1v0c), (Value.slice i34_1v1a i34_1v1n i34_1v1c)] 54 (0, 0)) ∧ w'.heap[w.heap.size]? = some (.cells #[.slice none 0 0, .slice none 0 0] 54 (0, 0)) ∧ ¬ (Value.slice i34_1v0a i34_1v0n i34_1v0c).ownBlock = some w.heap.size ∧ ¬ (Value.slice i34_1v0a i34_1v0n i34_1v0c).ownBlock = some w18.heap.size ∧ ¬ (Value.slice i34_1v1a i34_1v1n i34_1v1c).ownBlock = some w.heap.size ∧ ¬ (Value.slice i34_1v1a i34_1v1n i34_1v1c).ownBlock = some w18.heap.size ∧ (∀ k, (Value.slice i34_1v0a i34_1v0n i34_1v0c).ownBlock = some k → ¬ (Value.slice i34_1v1a i34_1v1n i34_1v1c).ownBlock = some k) ∧ Ext w w') (fun (e34 : SClocks) ex σ w' => ex = .exit 0 ∧ ∃ q34_0_0v0a : Option Addr, ∃ q34_0_0v0n : Nat, ∃ q34_0_0v0c : Nat, ∃ q34_0_0v1a : Option Addr, ∃ q34_0_0v1n : Nat, ∃ q34_0_0v1c : Nat, σ 6 = .pointer (some ⟨w.heap.size, 0, none⟩) ∧ σ 8 = .pointer (some ⟨w18.heap.size, 0, none⟩) ∧ OS w' 109 encSClock (Value.slice q34_0_0v0a q34_0_0v0n q34_0_0v0c) e34.list ∧ (∀ k, (Value.slice q34_0_0v0a q34_0_0v0n q34_0_0v0c).ownBlock = some k → w.heap.size ≤ k) ∧ OS w' 22 encF_f32 (Value.slice q34_0_0v1a q34_0_0v1n q34_0_0v1c) e34.links ∧ (∀ k, (Value.slice q34_0_0v1a q34_0_0v1n q34_0_0v1c).ownBlock = some k → w.heap.size ≤ k) ∧ w'.heap[w18.heap.size]? = some (.cells #[(Value.slice q34_0_0v0a q34_0_0v0n q34_0_0v0c), (Value.slice q34_0_0v1a q34_0_0v1n q34_0_0v1c)] 54 (0, 0)) ∧ w'.heap[w.heap.size]? = some (.cells #[.slice none 0 0, .slice none 0 0] 54 (0, 0)) ∧ ¬ (Value.slice q34_0_0v0a q34_0_0v0n q34_0_0v0c).ownBlock = some w.heap.size ∧ ¬ (Value.slice q34_0_0v0a q34_0_0v0n q34_0_0v0c).ownBlock = some w18.heap.size ∧ ¬ (Value.slice q34_0_0v1a q34_0_0v1n q34_0_0v1c).ownBlock = some w.heap.size ∧ ¬ (Value.slice q34_0_0v1a q34_0_0v1n q34_0_0v1c).ownBlock = some w18.heap.size ∧ (∀ k, (Value.slice q34_0_0v0a q34_0_0v0n q34_0_0v0c).ownBlock = some k → ¬ (Value.slice q34_0_0v1a q34_0_0v1n q34_0_0v1c).ownBlock = some k) ∧ Ext w w') ⟨none, 0, 0, q18_0a, q18_0n, q18_0c, rfl, rfl, rfl, rfl, rfl, rfl, (OS.nil _ 109 encSClock), (fun k hk => by cases hk), B36, own19, B33, B35, (by intro e; cases e), (by intro e; cases e), sp20, sp29, (by intro k hk; cases hk), X32⟩ ?_ ?_
    · skip
      rintro s34 σl34 wl34 r34l ⟨i34_1v0a, i34_1v0n, i34_1v0c, i34_1v1a, i34_1v1n, i34_1v1c, i34_S22, i34_S0, i34_S1, i34_S6, i34_S8, i34_S21, i34_1v0R, i34_1v0O, i34_1v1R, i34_1v1O, i34_1B, i34_K0, i34_A0, i34_A1, i34_A2, i34_A3, i34_A4, i34_X⟩ hr
      refine W_seq ?_
      refine W_region rfl ?_
      refine da_op rfl (d_icmp cLss i34_S22 i34_S21 ?_)
      refine da_nil ?_
      refine W_seq ?_
      refine W_cond (b := (icmp .lss s34.1 p0)) rfl (fun hc37 => ?_) (fun hc37 => ?_)
      · skip
        replace hr := bif_t hr hc37
        refine W_skip ?_
        refine W_seq ?_
        refine W_block ?_
        refine W_seq ?_
        refine W_region rfl ?_
        refine da_op rfl (d_mv (v := .int .i64 s34.1) i34_S22 ?_)
        refine da_op rfl (d_as (v := .int .i64 s34.1) rfl ?_)
        refine da_nil ?_
        refine W_seq ?_
        refine W_region rfl ?_
        refine da_op rfl (d_fieldAddr i34_S8 (fa54_0 _ _) ?_)
        refine da_op rfl (d_load (v := (Value.slice i34_1v0a i34_1v0n i34_1v0c)) rfl agg52 i34_1B rfl ?_)
        refine da_op rfl (d_mv (v := .int .i64 s34.1) rfl ?_)
        refine da_op rfl (d_ofInt un2 un22 rfl ?_)
        refine da_op rfl (d_mv (v := .int .i64 p0) i34_S0 ?_)
        refine da_op rfl (d_ofInt un2 un22 rfl ?_)
        refine da_op rfl (d_fop (k := .f32) fQuo rfl rfl (cn_fint _ _) (cn_fint _ _) fun r38 w38 h38 _ E38 => ?_)
        have X39 : Ext w w38 := i34_X.trans E38
        refine da_op rfl (d_mv (v := .float .f32 p1r) i34_S1 ?_)
        refine da_op rfl (d_bd (vs := [(0, .float .f32 r38), (1, .float .f32 p1r)]) (cs := #[.float .f32 r38, .float .f32 p1r]) (pc rfl (pc rfl rfl)) (by kernel_rfl) ?_)
        have B41 : w38.heap[w.heap.size]? = some (.cells #[.slice none 0 0, .slice none 0 0] 54 (0, 0)) := E38.heap i34_K0
        have B42 : OS w38 109 encSClock (Value.slice i34_1v0a i34_1v0n i34_1v0c) s34.2.list := i34_1v0R.ext E38
        have B43 : OS w38 22 encF_f32 (Value.slice i34_1v1a i34_1v1n i34_1v1c) s34.2.links := i34_1v1R.ext E38
        have B44 : w38.heap[w18.heap.size]? = some (.cells #[(Value.slice i34_1v0a i34_1v0n i34_1v0c), (Value.slice i34_1v1a i34_1v1n i34_1v1c)] 54 (0, 0)) := E38.heap i34_1B
        refine da_op rfl (d_bslice (vs := [(0, .agg #[.float .f32 r38, .float .f32 p1r])]) (cs := #[.float .f32 r38, .float .f32 p1r]) un52 (pc rfl rfl) (by kernel_rfl) fun w40 B40 E40 => ?_)
        have fr40 : ∀ k, (Value.slice (some ⟨w38.heap.size, 0, none⟩) 1 1).ownBlock = some k → w38.heap.size ≤ k := fun k hk => by cases hk; exact Nat.le_refl _
        have own40 : ∀ k, (Value.slice (some ⟨w38.heap.size, 0, none⟩) 1 1).ownBlock = some k → w.heap.size ≤ k := fun k hk => Nat.le_trans X39.size (fr40 k hk)
        have sp45 : ¬ (Value.slice (some ⟨w38.heap.size, 0, none⟩) 1 1).ownBlock = some w.heap.size := ne_fresh fr40 (lt_heap B41)
        have sp46 : ∀ k, (Value.slice i34_1v0a i34_1v0n i34_1v0c).ownBlock = some k → ¬ (Value.slice (some ⟨w38.heap.size, 0, none⟩) 1 1).ownBlock = some k := apart_fresh B42 fr40
        have sp47 : ∀ k, (Value.slice i34_1v1a i34_1v1n i34_1v1c).ownBlock = some k → ¬ (Value.slice (some ⟨w38.heap.size, 0, none⟩) 1 1).ownBlock = some k := apart_fresh B43 fr40
        have sp48 : ¬ (Value.slice (some ⟨w38.heap.size, 0, none⟩) 1 1).ownBlock = some w18.heap.size := ne_fresh fr40 (lt_heap B44)
        have X49 : Ext w w40 := X39.trans E40
        have O40 : OS w40 109 encSClock (Value.slice (some ⟨w38.heap.size, 0, none⟩) 1 1) [(⟨(fop .quo .f32 (fint .f32 s34.1) (fint .f32 p0)), p1⟩ : SClock)] := OS.box (xs := [(⟨(fop .quo .f32 (fint .f32 s34.1) (fint .f32 p0)), p1⟩ : SClock)]) B40 (lc_f h38 (lc_f p1h rfl)) (Nat.le_of_ble_eq_true rfl)
        obtain ⟨m50, hm50, hr⟩ := bind_out hr
        have B51 : OS w40 109 encSClock (Value.slice i34_1v0a i34_1v0n i34_1v0c) s34.2.list := B42.ext E40
        have B52 : w40.heap[w.heap.size]? = some (.cells #[.slice none 0 0, .slice none 0 0] 54 (0, 0)) := E40.heap B41
        have B53 : OS w40 22 encF_f32 (Value.slice i34_1v1a i34_1v1n i34_1v1c) s34.2.links := B43.ext E40
        have B54 : w40.heap[w18.heap.size]? = some (.cells #[(Value.slice i34_1v0a i34_1v0n i34_1v0c), (Value.slice i34_1v1a i34_1v1n i34_1v1c)] 54 (0, 0)) := E40.heap B44
        refine da_op rfl (d_append (e := encSClock) (v := (Value.slice i34_1v0a i34_1v0n i34_1v0c)) (y := (Value.slice (some ⟨w38.heap.size, 0, none⟩) 1 1)) un52 info109 rfl (by kernel_rfl) (by kernel_rfl) (by decide) (by decide) rfl rfl B51 O40.rs hm50 fun v55 w55 O55 Fm55 at_55 nl55 => ?_)
        obtain ⟨v55pa, v55pn, v55pc, rfl⟩ := O55.vals
        have own55 : ∀ k, (Value.slice v55pa v55pn v55pc).ownBlock = some k → w.heap.size ≤ k := app_own (w := w40) at_55 i34_1v0O X49.size
        have sp56 : ¬ (Value.slice v55pa v55pn v55pc).ownBlock = some w.heap.size := app_nb at_55 i34_A0 (lt_heap B52)
        have sp57 : ∀ k, (Value.slice i34_1v1a i34_1v1n i34_1v1c).ownBlock = some k → ¬ (Value.slice v55pa v55pn v55pc).ownBlock = some k := app_nr at_55 (apart_symm i34_A4) B53
        have sp58 : ¬ (Value.slice v55pa v55pn v55pc).ownBlock = some w18.heap.size := app_nb at_55 i34_A1 (lt_heap B54)
        have sp59 : ∀ k, (Value.slice (some ⟨w38.heap.size, 0, none⟩) 1 1).ownBlock = some k → ¬ (Value.slice v55pa v55pn v55pc).ownBlock = some k := app_nr at_55 (apart_symm sp46) O40
        have X60 : Ext w w55 := Ext.step X49 Fm55 (fun k _ hk => i34_1v0O k hk)
        refine da_op rfl (d_fieldAddr i34_S8 (fa54_0 _ _) ?_)
        have B61 : w55.heap[w18.heap.size]? = some (.cells #[(Value.slice i34_1v0a i34_1v0n i34_1v0c), (Value.slice i34_1v1a i34_1v1n i34_1v1c)] 54 (0, 0)) := Fm55.heap i34_A1 B54
        refine da_op rfl (d_store (vs := #[(Value.slice v55pa v55pn v55pc)]) rfl rfl B61 size52 (Nat.le_of_ble_eq_true rfl) rfl fun w62 S62 => ?_)
        have X63 : Ext w w62 := Ext.step X60 S62.frmb (fun k _ hk => hk ▸ own26)
        have B64 : w62.heap[w18.heap.size]? = some (.cells #[(Value.slice v55pa v55pn v55pc), (Value.slice i34_1v1a i34_1v1n i34_1v1c)] 54 (0, 0)) := S62.here
        refine da_nil ?_
        refine W_region rfl ?_
        refine da_op rfl (d_fieldAddr i34_S8 (fa54_1 _ _) ?_)
        refine da_op rfl (d_load (v := (Value.slice i34_1v1a i34_1v1n i34_1v1c)) rfl agg48 B64 rfl ?_)
        refine da_op rfl (d_mv (v := .int .i64 s34.1) rfl ?_)
        refine da_op rfl (d_mv (v := .int .i64 p0) i34_S0 ?_)
        refine da_op rfl (d_iarith rfl rfl (.inr (.inr ⟨rfl, rfl⟩)) ?_)
        refine da_op rfl (d_mv (v := .int .i64 s34.1) rfl ?_)
        refine da_op rfl (d_iarith rfl rfl (.inl ⟨rfl, rfl⟩) ?_)
        obtain ⟨m65, hm65, hr⟩ := bind_out hr
        have B67 : OS w62 22 encF_f32 (Value.slice i34_1v1a i34_1v1n i34_1v1c) s34.2.links := (B53.frm Fm55 (apart_symm i34_A4)).frm S62.frmb (rb i34_A3)
        refine da_op rfl (d_indexO (e := encF_f32) (v := (Value.slice i34_1v1a i34_1v1n i34_1v1c)) un48 size22 rfl rfl B67 hm65 fun g66 fr66 cu66 vs66 hv66 hg66 hp66 hq66 => ?_)
        obtain ⟨e66_r0, rfl, e66_h0⟩ := dec_encF_f32 hq66
        have sp68 : g66 ≠ w.heap.size := fun e => i34_A2 (by rw [hv66, e]; rfl)
        have sp69 : g66 ≠ w18.heap.size := fun e => i34_A3 (by rw [hv66, e]; rfl)
        have sp70 : ¬ (Value.slice v55pa v55pn v55pc).ownBlock = some g66 := fun e => (apart_symm sp57) _ e (by rw [hv66]; rfl)
        refine da_op rfl (d_store_elem (e := encF_f32) (i := (IntKind.i64.wrap ((IntKind.i64.wrap (s34.1 * p0)) + s34.1))) (k := 0) (old := [.float .f32 e66_r0]) (vs := #[.float .f32 0]) (new := [.float .f32 0]) (x2 := 0) rfl rfl hv66 B67 hg66 hp66 hm65 size22 (by kernel_rfl) (Nat.le_of_ble_eq_true rfl) rfl rfl (lc_f cn_f32_0 rfl) rfl fun w71 S71 O72 => ?_)
        have X73 : Ext w w71 := Ext.step X63 S71.frmb (fun k _ hk => i34_1v1O k (by rw [hv66, hk]; rfl))
        refine da_nil ?_
        refine W_region rfl ?_
        refine da_op rfl (d_iarith i34_S22 rfl (.inl ⟨rfl, rfl⟩) ?_)
        refine da_op rfl (d_mv (v := .int .i64 (IntKind.i64.wrap (s34.1 + 1))) rfl ?_)
        refine da_nil ?_
        have B74 : w71.heap[w18.heap.size]? = some (.cells #[(Value.slice v55pa v55pn v55pc), (Value.slice i34_1v1a i34_1v1n i34_1v1c)] 54 (0, 0)) := S71.frmb.heap (Ne.symm sp69) B64
        have B75 : OS w71 109 encSClock (Value.slice v55pa v55pn v55pc) m50 := (O55.frm S62.frmb (rb sp58)).frm S71.frmb (rb sp70)
        have B76 : w71.heap[w.heap.size]? = some (.cells #[.slice none 0 0, .slice none 0 0] 54 (0, 0)) := S71.frmb.heap (Ne.symm sp68) (S62.frmb.heap sp27 (Fm55.heap i34_A0 B52))
        obtain rfl := Option.some.inj hr
        exact ⟨_, rfl, ⟨v55pa, v55pn, v55pc, i34_1v1a, i34_1v1n, i34_1v1c, rfl, i34_S0, i34_S1, i34_S6, i34_S8, i34_S21, B75, own55, O72, i34_1v1O, B74, B76, sp56, sp58, i34_A2, i34_A3, (apart_symm sp57), X73⟩⟩
      · skip
        replace hr := bif_f hr hc37
        refine W_exit ?_
        obtain rfl := Option.some.inj hr
        exact ⟨_, rfl, rfl, i34_1v0a, i34_1v0n, i34_1v0c, i34_1v1a, i34_1v1n, i34_1v1c, i34_S6, i34_S8, i34_1v0R, i34_1v0O, i34_1v1R, i34_1v1O, i34_1B, i34_K0, i34_A0, i34_A1, i34_A2, i34_A3, i34_A4, i34_X⟩
    · skip
      intro ex σx34 wx34 hq
      obtain ⟨rfl, q34_0_0v0a, q34_0_0v0n, q34_0_0v0c, q34_0_0v1a, q34_0_0v1n, q34_0_0v1c, q34_0_S6, q34_0_S8, q34_0_0v0R, q34_0_0v0O, q34_0_0v1R, q34_0_0v1O, q34_0_0B, q34_0_K0, q34_0_A0, q34_0_A1, q34_0_A2, q34_0_A3, q34_0_A4, q34_0_X⟩ := hq
      refine W_seq ?_
      refine W_seq ?_
      refine W_region rfl ?_
      refine da_op rfl (d_loads (vs := #[(Value.slice q34_0_0v0a q34_0_0v0n q34_0_0v0c), (Value.slice q34_0_0v1a q34_0_0v1n q34_0_0v1c)]) q34_0_S8 agg54 size54 q34_0_0B rfl ?_)
      obtain ⟨m77, hm77, hr⟩ := bind_out hr
      refine da_op rfl (d_cl (vs := [.agg #[(Value.slice q34_0_0v0a q34_0_0v0n q34_0_0v0c), (Value.slice q34_0_0v1a q34_0_0v1n q34_0_0v1c)]]) en74 (ac rfl rfl) rfl ?_)
      refine (c74 (⟨m34.list, m34.links⟩ : SClocks) q34_0_0v0a q34_0_0v0n q34_0_0v0c q34_0_0v1a q34_0_0v1n q34_0_0v1c m77 wx34 hm77 q34_0_0v0R.rs q34_0_0v1R.rs).mono ?_
      rintro _ w78 ⟨rfl, E78⟩
      refine ⟨_, rfl, ?_⟩
      have X79 : Ext w w78 := q34_0_X.trans E78
      refine da_op rfl (d_not rfl ?_)
      refine da_nil ?_
      refine W_cond (b := (!m77)) rfl (fun hc80 => ?_) (fun hc80 => ?_)
      · skip
        replace hr := bif_t hr hc80
        refine W_seq ?_
        refine W_region rfl ?_
        refine da_op rfl (d_bd (vs := []) (cs := #[.slice none 0 0, .slice none 0 0]) rfl (by kernel_rfl) ?_)
        have B81 : w78.heap[w.heap.size]? = some (.cells #[.slice none 0 0, .slice none 0 0] 54 (0, 0)) := E78.heap q34_0_K0
        refine da_op rfl (d_store (vs := #[.slice none 0 0, .slice none 0 0]) q34_0_S6 rfl B81 size54 (Nat.le_of_ble_eq_true rfl) rfl fun w82 S82 => ?_)
        have X83 : Ext w w82 := Ext.step X79 S82.frmb (fun k _ hk => hk ▸ own2)
        have B84 : w82.heap[w.heap.size]? = some (.cells #[.slice none 0 0, .slice none 0 0] 54 (0, 0)) := S82.here
        refine da_op rfl (d_as (v := .bool false) rfl ?_)
        refine da_nil ?_
        refine W_ret ?_
        obtain rfl := Option.some.inj hr
        refine ⟨_, res2 (rv_cells (vs := #[.slice none 0 0, .slice none 0 0]) q34_0_S6 agg54 size54 B84 rfl) (rv_tmp rfl), ?_⟩
        exact ⟨none, 0, 0, none, 0, 0, rfl, (OS.nil _ 109 encSClock), (fun k hk => by cases hk), (OS.nil _ 22 encF_f32), (fun k hk => by cases hk), (by intro k hk; cases hk), X83⟩
      · skip
        replace hr := bif_f hr hc80
        refine W_skip ?_
        refine W_seq ?_
        refine W_region rfl ?_
        have B85 : w78.heap[w18.heap.size]? = some (.cells #[(Value.slice q34_0_0v0a q34_0_0v0n q34_0_0v0c), (Value.slice q34_0_0v1a q34_0_0v1n q34_0_0v1c)] 54 (0, 0)) := E78.heap q34_0_0B
        refine da_op rfl (d_loads (vs := #[(Value.slice q34_0_0v0a q34_0_0v0n q34_0_0v0c), (Value.slice q34_0_0v1a q34_0_0v1n q34_0_0v1c)]) q34_0_S8 agg54 size54 B85 rfl ?_)
        have B86 : w78.heap[w.heap.size]? = some (.cells #[.slice none 0 0, .slice none 0 0] 54 (0, 0)) := E78.heap q34_0_K0
        refine da_op rfl (d_store (vs := #[(Value.slice q34_0_0v0a q34_0_0v0n q34_0_0v0c), (Value.slice q34_0_0v1a q34_0_0v1n q34_0_0v1c)]) q34_0_S6 rfl B86 size54 (Nat.le_of_ble_eq_true rfl) rfl fun w87 S87 => ?_)
        have X88 : Ext w w87 := Ext.step X79 S87.frmb (fun k _ hk => hk ▸ own2)
        have B89 : w87.heap[w.heap.size]? = some (.cells #[(Value.slice q34_0_0v0a q34_0_0v0n q34_0_0v0c), (Value.slice q34_0_0v1a q34_0_0v1n q34_0_0v1c)] 54 (0, 0)) := S87.here
        refine da_op rfl (d_as (v := .bool true) rfl ?_)
        refine da_nil ?_
        refine W_ret ?_
        have B90 : OS w87 109 encSClock (Value.slice q34_0_0v0a q34_0_0v0n q34_0_0v0c) m34.list := (q34_0_0v0R.ext E78).frm S87.frmb (rb q34_0_A0)
        have B91 : OS w87 22 encF_f32 (Value.slice q34_0_0v1a q34_0_0v1n q34_0_0v1c) m34.links := (q34_0_0v1R.ext E78).frm S87.frmb (rb q34_0_A2)
        obtain rfl := Option.some.inj hr
        refine ⟨_, res2 (rv_cells (vs := #[(Value.slice q34_0_0v0a q34_0_0v0n q34_0_0v0c), (Value.slice q34_0_0v1a q34_0_0v1n q34_0_0v1c)]) q34_0_S6 agg54 size54 B89 rfl) (rv_tmp rfl), ?_⟩
        exact ⟨q34_0_0v0a, q34_0_0v0n, q34_0_0v0c, q34_0_0v1a, q34_0_0v1n, q34_0_0v1c, rfl, B90, q34_0_0v0O, B91, q34_0_0v1O, q34_0_A4, X88⟩
set_option maxHeartbeats 4000000 in
theorem c17  (r : SDesk) (w : World) (hr : M.impl_NewDesk = some r)  :
    Calls Try.prog 17 #[] w fun e w' => ∃ q0r0 : Nat, ∃ q0r1 : Nat, ∃ q0r2 : Nat, ∃ q0r3 : Nat, ∃ q0r4 : Nat, ∃ q0r5 : Nat, ∃ q0r6 : Nat, ∃ q0r7 : Nat, ∃ q0v8a : Option Addr, ∃ q0v8n : Nat, ∃ q0v8c : Nat, ∃ q0v9a : Option Addr, ∃ q0v9n : Nat, ∃ q0v9c : Nat, ∃ q0v10a : Option Addr, ∃ q0v10n : Nat, ∃ q0v10c : Nat, ∃ q0v11a : Option Addr, ∃ q0v11n : Nat, ∃ q0v11c : Nat, ∃ q0r12 : Nat, ∃ q0r13 : Nat, ∃ q0r14 : Nat, ∃ q0r15 : Nat, ∃ q0r16 : Nat, ∃ q0r17 : Nat, ∃ q0r18 : Nat, ∃ q0r19 : Nat, ∃ q0r20 : Nat, ∃ q0r21 : Nat, ∃ q0v22a : Option Addr, ∃ q0v22n : Nat, ∃ q0v22c : Nat, ∃ q0v23a : Option Addr, ∃ q0v23n : Nat, ∃ q0v23c : Nat, e = .returned (.agg #[.float .f32 q0r0, .float .f32 q0r1, .float .f32 q0r2, .float .f32 q0r3, .float .f32 q0r4, .float .f32 q0r5, .float .f32 q0r6, .float .f32 q0r7, (Value.slice q0v8a q0v8n q0v8c), (Value.slice q0v9a q0v9n q0v9c), (Value.slice q0v10a q0v10n q0v10c), (Value.slice q0v11a q0v11n q0v11c), .float .f32 q0r12, .float .f32 q0r13, .float .f32 q0r14, .float .f32 q0r15, .float .f32 q0r16, .float .f32 q0r17, .float .f32 q0r18, .float .f32 q0r19, .float .f32 q0r20, .float .f32 q0r21, (Value.slice q0v22a q0v22n q0v22c), (Value.slice q0v23a q0v23n q0v23c)]) ∧ cn .f32 q0r0 = r.pendulum.long ∧ cn .f32 q0r1 = r.pendulum.pull ∧ cn .f32 q0r2 = r.pendulum.drag ∧ cn .f32 q0r3 = r.pendulum.drive ∧ cn .f32 q0r4 = r.pendulum.rate ∧ cn .f32 q0r5 = r.swing.turn ∧ cn .f32 q0r6 = r.swing.speed ∧ cn .f32 q0r7 = r.swing.time ∧ OS w' 29 encSVector (Value.slice q0v8a q0v8n q0v8c) r.chain.places ∧ (∀ k, (Value.slice q0v8a q0v8n q0v8c).ownBlock = some k → w.heap.size ≤ k) ∧ OS w' 29 encSVector (Value.slice q0v9a q0v9n q0v9c) r.chain.before ∧ (∀ k, (Value.slice q0v9a q0v9n q0v9c).ownBlock = some k → w.heap.size ≤ k) ∧ OS w' 22 encF_f32 (Value.slice q0v10a q0v10n q0v10c) r.chain.weights ∧ (∀ k, (Value.slice q0v10a q0v10n q0v10c).ownBlock = some k → w.heap.size ≤ k) ∧ OS w' 104 encSRod (Value.slice q0v11a q0v11n q0v11c) r.chain.rods ∧ (∀ k, (Value.slice q0v11a q0v11n q0v11c).ownBlock = some k → w.heap.size ≤ k) ∧ cn .f32 q0r12 = r.top.moments.x ∧ cn .f32 q0r13 = r.top.moments.y ∧ cn .f32 q0r14 = r.top.moments.z ∧ cn .f32 q0r15 = r.top.turn.w ∧ cn .f32 q0r16 = r.top.turn.x ∧ cn .f32 q0r17 = r.top.turn.y ∧ cn .f32 q0r18 = r.top.turn.z ∧ cn .f32 q0r19 = r.top.speed.x ∧ cn .f32 q0r20 = r.top.speed.y ∧ cn .f32 q0r21 = r.top.speed.z ∧ OS w' 109 encSClock (Value.slice q0v22a q0v22n q0v22c) r.clocks.list ∧ (∀ k, (Value.slice q0v22a q0v22n q0v22c).ownBlock = some k → w.heap.size ≤ k) ∧ OS w' 22 encF_f32 (Value.slice q0v23a q0v23n q0v23c) r.clocks.links ∧ (∀ k, (Value.slice q0v23a q0v23n q0v23c).ownBlock = some k → w.heap.size ≤ k) ∧ (∀ k, (Value.slice q0v8a q0v8n q0v8c).ownBlock = some k → ¬ (Value.slice q0v9a q0v9n q0v9c).ownBlock = some k) ∧ (∀ k, (Value.slice q0v8a q0v8n q0v8c).ownBlock = some k → ¬ (Value.slice q0v10a q0v10n q0v10c).ownBlock = some k) ∧ (∀ k, (Value.slice q0v9a q0v9n q0v9c).ownBlock = some k → ¬ (Value.slice q0v10a q0v10n q0v10c).ownBlock = some k) ∧ (∀ k, (Value.slice q0v8a q0v8n q0v8c).ownBlock = some k → ¬ (Value.slice q0v11a q0v11n q0v11c).ownBlock = some k) ∧ (∀ k, (Value.slice q0v9a q0v9n q0v9c).ownBlock = some k → ¬ (Value.slice q0v11a q0v11n q0v11c).ownBlock = some k) ∧ (∀ k, (Value.slice q0v10a q0v10n q0v10c).ownBlock = some k → ¬ (Value.slice q0v11a q0v11n q0v11c).ownBlock = some k) ∧ (∀ k, (Value.slice q0v8a q0v8n q0v8c).ownBlock = some k → ¬ (Value.slice q0v22a q0v22n q0v22c).ownBlock = some k) ∧ (∀ k, (Value.slice q0v9a q0v9n q0v9c).ownBlock = some k → ¬ (Value.slice q0v22a q0v22n q0v22c).ownBlock = some k) ∧ (∀ k, (Value.slice q0v10a q0v10n q0v10c).ownBlock = some k → ¬ (Value.slice q0v22a q0v22n q0v22c).ownBlock = some k) ∧ (∀ k, (Value.slice q0v11a q0v11n q0v11c).ownBlock = some k → ¬ (Value.slice q0v22a q0v22n q0v22c).ownBlock = some k) ∧ (∀ k, (Value.slice q0v8a q0v8n q0v8c).ownBlock = some k → ¬ (Value.slice q0v23a q0v23n q0v23c).ownBlock = some k) ∧ (∀ k, (Value.slice q0v9a q0v9n q0v9c).ownBlock = some k → ¬ (Value.slice q0v23a q0v23n q0v23c).ownBlock = some k) ∧ (∀ k, (Value.slice q0v10a q0v10n q0v10c).ownBlock = some k → ¬ (Value.slice q0v23a q0v23n q0v23c).ownBlock = some k) ∧ (∀ k, (Value.slice q0v11a q0v11n q0v11c).ownBlock = some k → ¬ (Value.slice q0v23a q0v23n q0v23c).ownBlock = some k) ∧ (∀ k, (Value.slice q0v22a q0v22n q0v22c).ownBlock = some k → ¬ (Value.slice q0v23a q0v23n q0v23c).ownBlock = some k) ∧ Ext w w' := by
  refine calls_of_W Try.func17 rfl (Nat.le_of_ble_eq_true rfl) ?_
  refine W_seq ?_
  refine W_region rfl ?_
  refine da_op rfl (d_alloc (cs := #[.float .f32 0, .float .f32 0, .float .f32 0, .float .f32 0, .float .f32 0, .float .f32 0, .float .f32 0, .float .f32 0, .slice none 0 0, .slice none 0 0, .slice none 0 0, .slice none 0 0, .float .f32 0, .float .f32 0, .float .f32 0, .float .f32 0, .float .f32 0, .float .f32 0, .float .f32 0, .float .f32 0, .float .f32 0, .float .f32 0, .slice none 0 0, .slice none 0 0]) zero56 rfl fun w1 B1 E1 => ?_)
  have own2 : w.heap.size ≤ w.heap.size := Nat.le_trans (Ext.refl w).size (Nat.le_refl _)
  have X3 : Ext w w1 := (Ext.refl w).trans E1
  refine da_nil ?_
  refine W_seq ?_
  refine W_region rfl ?_
  refine da_op rfl (d_bd (vs := [(0, .float .f32 1065353216), (1, .float .f32 1065353216)]) (cs := #[.float .f32 1065353216, .float .f32 1065353216, .float .f32 0, .float .f32 0, .float .f32 0]) (pc rfl (pc rfl rfl)) (by kernel_rfl) ?_)
  refine da_op rfl (d_bd (vs := [(0, .agg #[.float .f32 1065353216, .float .f32 1065353216, .float .f32 0, .float .f32 0, .float .f32 0])]) (cs := #[.float .f32 1065353216, .float .f32 1065353216, .float .f32 0, .float .f32 0, .float .f32 0, .float .f32 0, .float .f32 0, .float .f32 0, .slice none 0 0, .slice none 0 0, .slice none 0 0, .slice none 0 0, .float .f32 0, .float .f32 0, .float .f32 0, .float .f32 0, .float .f32 0, .float .f32 0, .float .f32 0, .float .f32 0, .float .f32 0, .float .f32 0, .slice none 0 0, .slice none 0 0]) (pc rfl rfl) (by kernel_rfl) ?_)
  refine da_op rfl (d_alloc (cs := #[.float .f32 0, .float .f32 0, .float .f32 0, .float .f32 0, .float .f32 0, .float .f32 0, .float .f32 0, .float .f32 0, .slice none 0 0, .slice none 0 0, .slice none 0 0, .slice none 0 0, .float .f32 0, .float .f32 0, .float .f32 0, .float .f32 0, .float .f32 0, .float .f32 0, .float .f32 0, .float .f32 0, .float .f32 0, .float .f32 0, .slice none 0 0, .slice none 0 0]) zero56 rfl fun w4 B4 E4 => ?_)
  have own5 : w.heap.size ≤ w1.heap.size := Nat.le_trans X3.size (Nat.le_refl _)
  have sp6 : w.heap.size ≠ w1.heap.size := Nat.ne_of_lt (Nat.lt_of_lt_of_le (lt_heap B1) (Nat.le_refl _))
  have X7 : Ext w w4 := X3.trans E4
  refine da_op rfl (d_store (vs := #[.float .f32 1065353216, .float .f32 1065353216, .float .f32 0, .float .f32 0, .float .f32 0, .float .f32 0, .float .f32 0, .float .f32 0, .slice none 0 0, .slice none 0 0, .slice none 0 0, .slice none 0 0, .float .f32 0, .float .f32 0, .float .f32 0, .float .f32 0, .float .f32 0, .float .f32 0, .float .f32 0, .float .f32 0, .float .f32 0, .float .f32 0, .slice none 0 0, .slice none 0 0]) rfl rfl B4 size56 (Nat.le_of_ble_eq_true rfl) rfl fun w8 S8 => ?_)
  have X9 : Ext w w8 := Ext.step X7 S8.frmb (fun k _ hk => hk ▸ own5)
  have B10 : w8.heap[w1.heap.size]? = some (.cells #[.float .f32 1065353216, .float .f32 1065353216, .float .f32 0, .float .f32 0, .float .f32 0, .float .f32 0, .float .f32 0, .float .f32 0, .slice none 0 0, .slice none 0 0, .slice none 0 0, .slice none 0 0, .float .f32 0, .float .f32 0, .float .f32 0, .float .f32 0, .float .f32 0, .float .f32 0, .float .f32 0, .float .f32 0, .float .f32 0, .float .f32 0, .slice none 0 0, .slice none 0 0] 56 (0, 0)) := S8.here
  refine da_nil ?_
  refine W_seq ?_
  refine W_region rfl ?_
  obtain ⟨m11, hm11, hr⟩ := bind_out hr
  have B12 : w8.heap[w.heap.size]? = some (.cells #[.float .f32 0, .float .f32 0, .float .f32 0, .float .f32 0, .float .f32 0, .float .f32 0, .float .f32 0, .float .f32 0, .slice none 0 0, .slice none 0 0, .slice none 0 0, .slice none 0 0, .float .f32 0, .float .f32 0, .float .f32 0, .float .f32 0, .float .f32 0, .float .f32 0, .float .f32 0, .float .f32 0, .float .f32 0, .float .f32 0, .slice none 0 0, .slice none 0 0] 56 (0, 0)) := S8.frmb.heap sp6 (E4.heap B1)
  refine da_op rfl (d_cl (vs := [.int .i64 3, .float .f32 1065353216, .float .f32 1065353216]) en37 (ac rfl (ac rfl (ac rfl rfl))) rfl ?_)
  refine (c37 3 1065353216 1065353216 1065353216 1065353216 m11 w8 hm11 cn_f32_1065353216 cn_f32_1065353216).mono ?_
  rintro _ w13 ⟨q13_0v0a, q13_0v0n, q13_0v0c, q13_0v1a, q13_0v1n, q13_0v1c, q13_0v2a, q13_0v2n, q13_0v2c, q13_0v3a, q13_0v3n, q13_0v3c, rfl, q13_0v0R, q13_0v0F, q13_0v1R, q13_0v1F, q13_0v2R, q13_0v2F, q13_0v3R, q13_0v3F, q13_A1_0, q13_A2_0, q13_A2_1, q13_A3_0, q13_A3_1, q13_A3_2, E13⟩
  refine ⟨_, rfl, ?_⟩
  have own14 : ∀ k, (Value.slice q13_0v0a q13_0v0n q13_0v0c).ownBlock = some k → w.heap.size ≤ k := fun k hk => Nat.le_trans X9.size (q13_0v0F k hk)
  have sp15 : ¬ (Value.slice q13_0v0a q13_0v0n q13_0v0c).ownBlock = some w.heap.size := ne_fresh q13_0v0F (lt_heap B12)
  have sp16 : ¬ (Value.slice q13_0v0a q13_0v0n q13_0v0c).ownBlock = some w1.heap.size := ne_fresh q13_0v0F (lt_heap B10)
  have own17 : ∀ k, (Value.slice q13_0v1a q13_0v1n q13_0v1c).ownBlock = some k → w.heap.size ≤ k := fun k hk => Nat.le_trans X9.size (q13_0v1F k hk)
  have sp18 : ¬ (Value.slice q13_0v1a q13_0v1n q13_0v1c).ownBlock = some w.heap.size := ne_fresh q13_0v1F (lt_heap B12)
  have sp19 : ¬ (Value.slice q13_0v1a q13_0v1n q13_0v1c).ownBlock = some w1.heap.size := ne_fresh q13_0v1F (lt_heap B10)
  have own20 : ∀ k, (Value.slice q13_0v2a q13_0v2n q13_0v2c).ownBlock = some k → w.heap.size ≤ k := fun k hk => Nat.le_trans X9.size (q13_0v2F k hk)
  have sp21 : ¬ (Value.slice q13_0v2a q13_0v2n q13_0v2c).ownBlock = some w.heap.size := ne_fresh q13_0v2F (lt_heap B12)
  have sp22 : ¬ (Value.slice q13_0v2a q13_0v2n q13_0v2c).ownBlock = some w1.heap.size := ne_fresh q13_0v2F (lt_heap B10)
  have own23 : ∀ k, (Value.slice q13_0v3a q13_0v3n q13_0v3c).ownBlock = some k → w.heap.size ≤ k := fun k hk => Nat.le_trans X9.size (q13_0v3F k hk)
  have sp24 : ¬ (Value.slice q13_0v3a q13_0v3n q13_0v3c).ownBlock = some w.heap.size := ne_fresh q13_0v3F (lt_heap B12)
  have sp25 : ¬ (Value.slice q13_0v3a q13_0v3n q13_0v3c).ownBlock = some w1.heap.size := ne_fresh q13_0v3F (lt_heap B10)
  have X26 : Ext w w13 := X9.trans E13
  refine da_op rfl (d_mv (v := .tuple #[.agg #[(Value.slice q13_0v0a q13_0v0n q13_0v0c), (Value.slice q13_0v1a q13_0v1n q13_0v1c), (Value.slice q13_0v2a q13_0v2n q13_0v2c), (Value.slice q13_0v3a q13_0v3n q13_0v3c)], .bool m11.2]) rfl ?_)
  refine da_op rfl (d_extract (v := .agg #[(Value.slice q13_0v0a q13_0v0n q13_0v0c), (Value.slice q13_0v1a q13_0v1n q13_0v1c), (Value.slice q13_0v2a q13_0v2n q13_0v2c), (Value.slice q13_0v3a q13_0v3n q13_0v3c)]) rfl rfl ?_)
  refine da_op rfl (d_extract (v := .bool m11.2) rfl rfl ?_)
  refine da_op rfl (d_fieldAddr rfl (fa56_2 _ _) ?_)
  have B27 : w13.heap[w1.heap.size]? = some (.cells #[.float .f32 1065353216, .float .f32 1065353216, .float .f32 0, .float .f32 0, .float .f32 0, .float .f32 0, .float .f32 0, .float .f32 0, .slice none 0 0, .slice none 0 0, .slice none 0 0, .slice none 0 0, .float .f32 0, .float .f32 0, .float .f32 0, .float .f32 0, .float .f32 0, .float .f32 0, .float .f32 0, .float .f32 0, .float .f32 0, .float .f32 0, .slice none 0 0, .slice none 0 0] 56 (0, 0)) := E13.heap B10
  refine da_op rfl (d_store (vs := #[(Value.slice q13_0v0a q13_0v0n q13_0v0c), (Value.slice q13_0v1a q13_0v1n q13_0v1c), (Value.slice q13_0v2a q13_0v2n q13_0v2c), (Value.slice q13_0v3a q13_0v3n q13_0v3c)]) rfl rfl B27 size51 (Nat.le_of_ble_eq_true rfl) rfl fun w28 S28 => ?_)
  have X29 : Ext w w28 := Ext.step X26 S28.frmb (fun k _ hk => hk ▸ own5)
  have B30 : w28.heap[w1.heap.size]? = some (.cells #[.float .f32 1065353216, .float .f32 1065353216, .float .f32 0, .float .f32 0, .float .f32 0, .float .f32 0, .float .f32 0, .float .f32 0, (Value.slice q13_0v0a q13_0v0n q13_0v0c), (Value.slice q13_0v1a q13_0v1n q13_0v1c), (Value.slice q13_0v2a q13_0v2n q13_0v2c), (Value.slice q13_0v3a q13_0v3n q13_0v3c), .float .f32 0, .float .f32 0, .float .f32 0, .float .f32 0, .float .f32 0, .float .f32 0, .float .f32 0, .float .f32 0, .float .f32 0, .float .f32 0, .slice none 0 0, .slice none 0 0] 56 (0, 0)) := S28.here
  refine da_nil ?_
  refine W_seq ?_
  refine W_region rfl ?_
  refine da_op rfl (d_bd (vs := [(0, .float .f32 1065353216), (1, .float .f32 1065353216), (2, .float .f32 1065353216)]) (cs := #[.float .f32 1065353216, .float .f32 1065353216, .float .f32 1065353216]) (pc rfl (pc rfl (pc rfl rfl))) (by kernel_rfl) ?_)
  refine da_op rfl (d_bd (vs := [(0, .float .f32 1065353216)]) (cs := #[.float .f32 1065353216, .float .f32 0, .float .f32 0, .float .f32 0]) (pc rfl rfl) (by kernel_rfl) ?_)
  refine da_op rfl (d_bd (vs := [(0, .agg #[.float .f32 1065353216, .float .f32 1065353216, .float .f32 1065353216]), (1, .agg #[.float .f32 1065353216, .float .f32 0, .float .f32 0, .float .f32 0])]) (cs := #[.float .f32 1065353216, .float .f32 1065353216, .float .f32 1065353216, .float .f32 1065353216, .float .f32 0, .float .f32 0, .float .f32 0, .float .f32 0, .float .f32 0, .float .f32 0]) (pc rfl (pc rfl rfl)) (by kernel_rfl) ?_)
  refine da_op rfl (d_fieldAddr rfl (fa56_3 _ _) ?_)
  refine da_op rfl (d_store (vs := #[.float .f32 1065353216, .float .f32 1065353216, .float .f32 1065353216, .float .f32 1065353216, .float .f32 0, .float .f32 0, .float .f32 0, .float .f32 0, .float .f32 0, .float .f32 0]) rfl rfl B30 size32 (Nat.le_of_ble_eq_true rfl) rfl fun w31 S31 => ?_)
  have X32 : Ext w w31 := Ext.step X29 S31.frmb (fun k _ hk => hk ▸ own5)
  have B33 : w31.heap[w1.heap.size]? = some (.cells #[.float .f32 1065353216, .float .f32 1065353216, .float .f32 0, .float .f32 0, .float .f32 0, .float .f32 0, .float .f32 0, .float .f32 0, (Value.slice q13_0v0a q13_0v0n q13_0v0c), (Value.slice q13_0v1a q13_0v1n q13_0v1c), (Value.slice q13_0v2a q13_0v2n q13_0v2c), (Value.slice q13_0v3a q13_0v3n q13_0v3c), .float .f32 1065353216, .float .f32 1065353216, .float .f32 1065353216, .float .f32 1065353216, .float .f32 0, .float .f32 0, .float .f32 0, .float .f32 0, .float .f32 0, .float .f32 0, .slice none 0 0, .slice none 0 0] 56 (0, 0)) := S31.here
  refine da_nil ?_
  refine W_seq ?_
  refine W_region rfl ?_
  obtain ⟨m34, hm34, hr⟩ := bind_out hr
  have B35 : w31.heap[w.heap.size]? = some (.cells #[.float .f32 0, .float .f32 0, .float .f32 0, .float .f32 0, .float .f32 0, .float .f32 0, .float .f32 0, .float .f32 0, .slice none 0 0, .slice none 0 0, .slice none 0 0, .slice none 0 0, .float .f32 0, .float .f32 0, .float .f32 0, .float .f32 0, .float .f32 0, .float .f32 0, .float .f32 0, .float .f32 0, .float .f32 0, .float .f32 0, .slice none 0 0, .slice none 0 0] 56 (0, 0)) := S31.frmb.heap sp6 (S28.frmb.heap sp6 (E13.heap B12))
  have B36 : OS w31 29 encSVector (Value.slice q13_0v0a q13_0v0n q13_0v0c) m11.1.places := (q13_0v0R.frm S28.frmb (rb sp16)).frm S31.frmb (rb sp16)
  have B37 : OS w31 29 encSVector (Value.slice q13_0v1a q13_0v1n q13_0v1c) m11.1.before := (q13_0v1R.frm S28.frmb (rb sp19)).frm S31.frmb (rb sp19)
  have B38 : OS w31 22 encF_f32 (Value.slice q13_0v2a q13_0v2n q13_0v2c) m11.1.weights := (q13_0v2R.frm S28.frmb (rb sp22)).frm S31.frmb (rb sp22)
  have B39 : OS w31 104 encSRod (Value.slice q13_0v3a q13_0v3n q13_0v3c) m11.1.rods := (q13_0v3R.frm S28.frmb (rb sp25)).frm S31.frmb (rb sp25)
  refine da_op rfl (d_cl (vs := [.int .i64 2, .float .f32 1065353216, .float .f32 0]) en38 (ac rfl (ac rfl (ac rfl rfl))) rfl ?_)
  refine (c38 2 1065353216 0 1065353216 0 m34 w31 hm34 cn_f32_1065353216 cn_f32_0).mono ?_
  rintro _ w40 ⟨q40_0v0a, q40_0v0n, q40_0v0c, q40_0v1a, q40_0v1n, q40_0v1c, rfl, q40_0v0R, q40_0v0F, q40_0v1R, q40_0v1F, q40_A1_0, E40⟩
  refine ⟨_, rfl, ?_⟩
  have own41 : ∀ k, (Value.slice q40_0v0a q40_0v0n q40_0v0c).ownBlock = some k → w.heap.size ≤ k := fun k hk => Nat.le_trans X32.size (q40_0v0F k hk)
  have sp42 : ¬ (Value.slice q40_0v0a q40_0v0n q40_0v0c).ownBlock = some w.heap.size := ne_fresh q40_0v0F (lt_heap B35)
  have sp43 : ¬ (Value.slice q40_0v0a q40_0v0n q40_0v0c).ownBlock = some w1.heap.size := ne_fresh q40_0v0F (lt_heap B33)
  have sp44 : ∀ k, (Value.slice q13_0v0a q13_0v0n q13_0v0c).ownBlock = some k → ¬ (Value.slice q40_0v0a q40_0v0n q40_0v0c).ownBlock = some k := apart_fresh B36 q40_0v0F
  have sp45 : ∀ k, (Value.slice q13_0v1a q13_0v1n q13_0v1c).ownBlock = some k → ¬ (Value.slice q40_0v0a q40_0v0n q40_0v0c).ownBlock = some k := apart_fresh B37 q40_0v0F
  have sp46 : ∀ k, (Value.slice q13_0v2a q13_0v2n q13_0v2c).ownBlock = some k → ¬ (Value.slice q40_0v0a q40_0v0n q40_0v0c).ownBlock = some k := apart_fresh B38 q40_0v0F
  have sp47 : ∀ k, (Value.slice q13_0v3a q13_0v3n q13_0v3c).ownBlock = some k → ¬ (Value.slice q40_0v0a q40_0v0n q40_0v0c).ownBlock = some k := apart_fresh B39 q40_0v0F
  have own48 : ∀ k, (Value.slice q40_0v1a q40_0v1n q40_0v1c).ownBlock = some k → w.heap.size ≤ k := fun k hk => Nat.le_trans X32.size (q40_0v1F k hk)
  have sp49 : ¬ (Value.slice q40_0v1a q40_0v1n q40_0v1c).ownBlock = some w.heap.size := ne_fresh q40_0v1F (lt_heap B35)
  have sp50 : ¬ (Value.slice q40_0v1a q40_0v1n q40_0v1c).ownBlock = some w1.heap.size := ne_fresh q40_0v1F (lt_heap B33)
  have sp51 : ∀ k, (Value.slice q13_0v0a q13_0v0n q13_0v0c).ownBlock = some k → ¬ (Value.slice q40_0v1a q40_0v1n q40_0v1c).ownBlock = some k := apart_fresh B36 q40_0v1F
  have sp52 : ∀ k, (Value.slice q13_0v1a q13_0v1n q13_0v1c).ownBlock = some k → ¬ (Value.slice q40_0v1a q40_0v1n q40_0v1c).ownBlock = some k := apart_fresh B37 q40_0v1F
  have sp53 : ∀ k, (Value.slice q13_0v2a q13_0v2n q13_0v2c).ownBlock = some k → ¬ (Value.slice q40_0v1a q40_0v1n q40_0v1c).ownBlock = some k := apart_fresh B38 q40_0v1F
  have sp54 : ∀ k, (Value.slice q13_0v3a q13_0v3n q13_0v3c).ownBlock = some k → ¬ (Value.slice q40_0v1a q40_0v1n q40_0v1c).ownBlock = some k := apart_fresh B39 q40_0v1F
  have X55 : Ext w w40 := X32.trans E40
  refine da_op rfl (d_mv (v := .tuple #[.agg #[(Value.slice q40_0v0a q40_0v0n q40_0v0c), (Value.slice q40_0v1a q40_0v1n q40_0v1c)], .bool m34.2]) rfl ?_)
  refine da_op rfl (d_extract (v := .agg #[(Value.slice q40_0v0a q40_0v0n q40_0v0c), (Value.slice q40_0v1a q40_0v1n q40_0v1c)]) rfl rfl ?_)
  refine da_op rfl (d_extract (v := .bool m34.2) rfl rfl ?_)
  refine da_op rfl (d_fieldAddr rfl (fa56_4 _ _) ?_)
  have B56 : w40.heap[w1.heap.size]? = some (.cells #[.float .f32 1065353216, .float .f32 1065353216, .float .f32 0, .float .f32 0, .float .f32 0, .float .f32 0, .float .f32 0, .float .f32 0, (Value.slice q13_0v0a q13_0v0n q13_0v0c), (Value.slice q13_0v1a q13_0v1n q13_0v1c), (Value.slice q13_0v2a q13_0v2n q13_0v2c), (Value.slice q13_0v3a q13_0v3n q13_0v3c), .float .f32 1065353216, .float .f32 1065353216, .float .f32 1065353216, .float .f32 1065353216, .float .f32 0, .float .f32 0, .float .f32 0, .float .f32 0, .float .f32 0, .float .f32 0, .slice none 0 0, .slice none 0 0] 56 (0, 0)) := E40.heap B33
  refine da_op rfl (d_store (vs := #[(Value.slice q40_0v0a q40_0v0n q40_0v0c), (Value.slice q40_0v1a q40_0v1n q40_0v1c)]) rfl rfl B56 size54 (Nat.le_of_ble_eq_true rfl) rfl fun w57 S57 => ?_)
  have X58 : Ext w w57 := Ext.step X55 S57.frmb (fun k _ hk => hk ▸ own5)
  have B59 : w57.heap[w1.heap.size]? = some (.cells #[.float .f32 1065353216, .float .f32 1065353216, .float .f32 0, .float .f32 0, .float .f32 0, .float .f32 0, .float .f32 0, .float .f32 0, (Value.slice q13_0v0a q13_0v0n q13_0v0c), (Value.slice q13_0v1a q13_0v1n q13_0v1c), (Value.slice q13_0v2a q13_0v2n q13_0v2c), (Value.slice q13_0v3a q13_0v3n q13_0v3c), .float .f32 1065353216, .float .f32 1065353216, .float .f32 1065353216, .float .f32 1065353216, .float .f32 0, .float .f32 0, .float .f32 0, .float .f32 0, .float .f32 0, .float .f32 0, (Value.slice q40_0v0a q40_0v0n q40_0v0c), (Value.slice q40_0v1a q40_0v1n q40_0v1c)] 56 (0, 0)) := S57.here
  refine da_nil ?_
  refine W_seq ?_
  refine W_region rfl ?_
  refine da_op rfl (d_loads (vs := #[.float .f32 1065353216, .float .f32 1065353216, .float .f32 0, .float .f32 0, .float .f32 0, .float .f32 0, .float .f32 0, .float .f32 0, (Value.slice q13_0v0a q13_0v0n q13_0v0c), (Value.slice q13_0v1a q13_0v1n q13_0v1c), (Value.slice q13_0v2a q13_0v2n q13_0v2c), (Value.slice q13_0v3a q13_0v3n q13_0v3c), .float .f32 1065353216, .float .f32 1065353216, .float .f32 1065353216, .float .f32 1065353216, .float .f32 0, .float .f32 0, .float .f32 0, .float .f32 0, .float .f32 0, .float .f32 0, (Value.slice q40_0v0a q40_0v0n q40_0v0c), (Value.slice q40_0v1a q40_0v1n q40_0v1c)]) rfl agg56 size56 B59 rfl ?_)
  have B60 : w57.heap[w.heap.size]? = some (.cells #[.float .f32 0, .float .f32 0, .float .f32 0, .float .f32 0, .float .f32 0, .float .f32 0, .float .f32 0, .float .f32 0, .slice none 0 0, .slice none 0 0, .slice none 0 0, .slice none 0 0, .float .f32 0, .float .f32 0, .float .f32 0, .float .f32 0, .float .f32 0, .float .f32 0, .float .f32 0, .float .f32 0, .float .f32 0, .float .f32 0, .slice none 0 0, .slice none 0 0] 56 (0, 0)) := S57.frmb.heap sp6 (E40.heap B35)
  refine da_op rfl (d_store (vs := #[.float .f32 1065353216, .float .f32 1065353216, .float .f32 0, .float .f32 0, .float .f32 0, .float .f32 0, .float .f32 0, .float .f32 0, (Value.slice q13_0v0a q13_0v0n q13_0v0c), (Value.slice q13_0v1a q13_0v1n q13_0v1c), (Value.slice q13_0v2a q13_0v2n q13_0v2c), (Value.slice q13_0v3a q13_0v3n q13_0v3c), .float .f32 1065353216, .float .f32 1065353216, .float .f32 1065353216, .float .f32 1065353216, .float .f32 0, .float .f32 0, .float .f32 0, .float .f32 0, .float .f32 0, .float .f32 0, (Value.slice q40_0v0a q40_0v0n q40_0v0c), (Value.slice q40_0v1a q40_0v1n q40_0v1c)]) rfl rfl B60 size56 (Nat.le_of_ble_eq_true rfl) rfl fun w61 S61 => ?_)
  have X62 : Ext w w61 := Ext.step X58 S61.frmb (fun k _ hk => hk ▸ own2)
  have B63 : w61.heap[w.heap.size]? = some (.cells #[.float .f32 1065353216, .float .f32 1065353216, .float .f32 0, .float .f32 0, .float .f32 0, .float .f32 0, .float .f32 0, .float .f32 0, (Value.slice q13_0v0a q13_0v0n q13_0v0c), (Value.slice q13_0v1a q13_0v1n q13_0v1c), (Value.slice q13_0v2a q13_0v2n q13_0v2c), (Value.slice q13_0v3a q13_0v3n q13_0v3c), .float .f32 1065353216, .float .f32 1065353216, .float .f32 1065353216, .float .f32 1065353216, .float .f32 0, .float .f32 0, .float .f32 0, .float .f32 0, .float .f32 0, .float .f32 0, (Value.slice q40_0v0a q40_0v0n q40_0v0c), (Value.slice q40_0v1a q40_0v1n q40_0v1c)] 56 (0, 0)) := S61.here
  refine da_nil ?_
  refine W_ret ?_
  have B64 : OS w61 29 encSVector (Value.slice q13_0v0a q13_0v0n q13_0v0c) m11.1.places := ((B36.ext E40).frm S57.frmb (rb sp16)).frm S61.frmb (rb sp15)
  have B65 : OS w61 29 encSVector (Value.slice q13_0v1a q13_0v1n q13_0v1c) m11.1.before := ((B37.ext E40).frm S57.frmb (rb sp19)).frm S61.frmb (rb sp18)
  have B66 : OS w61 22 encF_f32 (Value.slice q13_0v2a q13_0v2n q13_0v2c) m11.1.weights := ((B38.ext E40).frm S57.frmb (rb sp22)).frm S61.frmb (rb sp21)
  have B67 : OS w61 104 encSRod (Value.slice q13_0v3a q13_0v3n q13_0v3c) m11.1.rods := ((B39.ext E40).frm S57.frmb (rb sp25)).frm S61.frmb (rb sp24)
  have B68 : OS w61 109 encSClock (Value.slice q40_0v0a q40_0v0n q40_0v0c) m34.1.list := (q40_0v0R.frm S57.frmb (rb sp43)).frm S61.frmb (rb sp42)
  have B69 : OS w61 22 encF_f32 (Value.slice q40_0v1a q40_0v1n q40_0v1c) m34.1.links := (q40_0v1R.frm S57.frmb (rb sp50)).frm S61.frmb (rb sp49)
  obtain rfl := Option.some.inj hr
  refine ⟨_, res1 (rv_cells (vs := #[.float .f32 1065353216, .float .f32 1065353216, .float .f32 0, .float .f32 0, .float .f32 0, .float .f32 0, .float .f32 0, .float .f32 0, (Value.slice q13_0v0a q13_0v0n q13_0v0c), (Value.slice q13_0v1a q13_0v1n q13_0v1c), (Value.slice q13_0v2a q13_0v2n q13_0v2c), (Value.slice q13_0v3a q13_0v3n q13_0v3c), .float .f32 1065353216, .float .f32 1065353216, .float .f32 1065353216, .float .f32 1065353216, .float .f32 0, .float .f32 0, .float .f32 0, .float .f32 0, .float .f32 0, .float .f32 0, (Value.slice q40_0v0a q40_0v0n q40_0v0c), (Value.slice q40_0v1a q40_0v1n q40_0v1c)]) rfl agg56 size56 B63 rfl), ?_⟩
  exact ⟨1065353216, 1065353216, 0, 0, 0, 0, 0, 0, q13_0v0a, q13_0v0n, q13_0v0c, q13_0v1a, q13_0v1n, q13_0v1c, q13_0v2a, q13_0v2n, q13_0v2c, q13_0v3a, q13_0v3n, q13_0v3c, 1065353216, 1065353216, 1065353216, 1065353216, 0, 0, 0, 0, 0, 0, q40_0v0a, q40_0v0n, q40_0v0c, q40_0v1a, q40_0v1n, q40_0v1c, rfl, cn_f32_1065353216, cn_f32_1065353216, cn_f32_0, cn_f32_0, cn_f32_0, cn_f32_0, cn_f32_0, cn_f32_0, B64, own14, B65, own17, B66, own20, B67, own23, cn_f32_1065353216, cn_f32_1065353216, cn_f32_1065353216, cn_f32_1065353216, cn_f32_0, cn_f32_0, cn_f32_0, cn_f32_0, cn_f32_0, cn_f32_0, B68, own41, B69, own48, q13_A1_0, q13_A2_0, q13_A2_1, q13_A3_0, q13_A3_1, q13_A3_2, sp44, sp45, sp46, sp47, sp51, sp52, sp53, sp54, q40_A1_0, X62⟩
set_option maxHeartbeats 4000000 in
theorem c57 (p0 : Nat) (p1 : Nat) (p0r : Nat) (p1r : Nat) (r : Bool) (w : World) (hr : M.laws_sameFloat p0 p1 = r) (p0h : cn .f64 p0r = p0) (p1h : cn .f64 p1r = p1) :
    Calls Try.prog 57 #[.float .f64 p0r, .float .f64 p1r] w fun e w' => e = .returned (.bool r) ∧ Ext w w' := by
  refine calls_of_W Try.func57 rfl (Nat.le_of_ble_eq_true rfl) ?_
  refine W_seq ?_
  refine W_region rfl ?_
  refine da_op rfl (d_as (v := .bool false) rfl ?_)
  refine da_nil ?_
  refine W_seq ?_
  refine W_seq ?_
  obtain ⟨m1, hm1, hr⟩ := letv_out hr
  refine W_cut (fun σ' w' => σ' 12 = .bool m1 ∧ Ext w w') rfl ?_ ?_
  · skip
    have hr := hm1
    refine da_op rfl (d_mv (v := .float .f64 p0r) rfl ?_)
    refine da_op rfl (d_mv (v := .float .f64 p0r) rfl ?_)
    refine da_op rfl (d_fcmp (k := .f64) cNeq rfl rfl p0h p0h ?_)
    refine da_op rfl (d_mv (v := .bool (fcmp .neq .f64 p0 p0)) rfl ?_)
    rcases Bool.eq_false_or_eq_true (fcmp .neq .f64 p0 p0) with hc2 | hc2
    · skip
      replace hr := bif_t hr hc2
      refine da_off rfl (Eq.trans (show sl _ _ _ = .bool (fcmp .neq .f64 p0 p0) from rfl) (congrArg Value.bool hc2)) (by decide) ?_
      refine da_off rfl (Eq.trans (show sl _ _ _ = .bool (fcmp .neq .f64 p0 p0) from rfl) (congrArg Value.bool hc2)) (by decide) ?_
      refine da_off rfl (Eq.trans (show sl _ _ _ = .bool (fcmp .neq .f64 p0 p0) from rfl) (congrArg Value.bool hc2)) (by decide) ?_
      refine da_op rfl (d_pick (b := true) (Eq.trans (show ev _ _ = .bool (fcmp .neq .f64 p0 p0) from rfl) (congrArg Value.bool hc2)) ?_)
      refine da_nil ?_
      subst hr
      exact ⟨rfl, (Ext.refl w)⟩
    · skip
      replace hr := bif_f hr hc2
      refine da_on rfl (Eq.trans (show sl _ _ _ = .bool (fcmp .neq .f64 p0 p0) from rfl) (congrArg Value.bool hc2)) (d_mv (v := .float .f64 p1r) rfl ?_)
      refine da_on rfl (Eq.trans (show sl _ _ _ = .bool (fcmp .neq .f64 p0 p0) from rfl) (congrArg Value.bool hc2)) (d_mv (v := .float .f64 p1r) rfl ?_)
      refine da_on rfl (Eq.trans (show sl _ _ _ = .bool (fcmp .neq .f64 p0 p0) from rfl) (congrArg Value.bool hc2)) (d_fcmp (k := .f64) cNeq rfl rfl p1h p1h ?_)
      refine da_op rfl (d_pick (b := false) (Eq.trans (show ev _ _ = .bool (fcmp .neq .f64 p0 p0) from rfl) (congrArg Value.bool hc2)) ?_)
      refine da_nil ?_
      subst hr
      exact ⟨rfl, (Ext.refl w)⟩
  · skip
    rintro σ1 w1 o1 ⟨s12_1, E1⟩
    have s0_1 : σ1 0 = .float .f64 p0r := (o1 0 rfl).trans rfl
    have s1_1 : σ1 1 = .float .f64 p1r := (o1 1 rfl).trans rfl
    have X3 : Ext w w1 := (Ext.refl w).trans E1
    refine W_cond (b := m1) s12_1 (fun hc4 => ?_) (fun hc4 => ?_)
    · skip
      replace hr := bif_t hr hc4
      refine W_seq ?_
      obtain ⟨m5, hm5, hr⟩ := letv_out hr
      refine W_cut (fun σ' w' => σ' 4 = .bool m5 ∧ Ext w1 w') rfl ?_ ?_
      · skip
        have hr := hm5
        refine da_op rfl (d_mv (v := .float .f64 p0r) s0_1 ?_)
        refine da_op rfl (d_mv (v := .float .f64 p0r) s0_1 ?_)
        refine da_op rfl (d_fcmp (k := .f64) cNeq rfl rfl p0h p0h ?_)
        refine da_op rfl (d_mv (v := .bool (fcmp .neq .f64 p0 p0)) rfl ?_)
        rcases Bool.eq_false_or_eq_true (fcmp .neq .f64 p0 p0) with hc6 | hc6
        · skip
          replace hr := bif_t hr hc6
          refine da_on rfl (Eq.trans (show sl _ _ _ = .bool (fcmp .neq .f64 p0 p0) from rfl) (congrArg Value.bool hc6)) (d_mv (v := .float .f64 p1r) s1_1 ?_)
          refine da_on rfl (Eq.trans (show sl _ _ _ = .bool (fcmp .neq .f64 p0 p0) from rfl) (congrArg Value.bool hc6)) (d_mv (v := .float .f64 p1r) s1_1 ?_)
          refine da_on rfl (Eq.trans (show sl _ _ _ = .bool (fcmp .neq .f64 p0 p0) from rfl) (congrArg Value.bool hc6)) (d_fcmp (k := .f64) cNeq rfl rfl p1h p1h ?_)
          refine da_op rfl (d_pick (b := true) (Eq.trans (show ev _ _ = .bool (fcmp .neq .f64 p0 p0) from rfl) (congrArg Value.bool hc6)) ?_)
          refine da_op rfl (d_as (v := .bool (fcmp .neq .f64 p1 p1)) rfl ?_)
          refine da_nil ?_
          subst hr
          exact ⟨rfl, (Ext.refl w1)⟩
        · skip
          replace hr := bif_f hr hc6
          refine da_off rfl (Eq.trans (show sl _ _ _ = .bool (fcmp .neq .f64 p0 p0) from rfl) (congrArg Value.bool hc6)) (by decide) ?_
          refine da_off rfl (Eq.trans (show sl _ _ _ = .bool (fcmp .neq .f64 p0 p0) from rfl) (congrArg Value.bool hc6)) (by decide) ?_
          refine da_off rfl (Eq.trans (show sl _ _ _ = .bool (fcmp .neq .f64 p0 p0) from rfl) (congrArg Value.bool hc6)) (by decide) ?_
          refine da_op rfl (d_pick (b := false) (Eq.trans (show ev _ _ = .bool (fcmp .neq .f64 p0 p0) from rfl) (congrArg Value.bool hc6)) ?_)
          refine da_op rfl (d_as (v := .bool false) rfl ?_)
          refine da_nil ?_
          subst hr
          exact ⟨rfl, (Ext.refl w1)⟩
      · skip
        rintro σ5 w5 o5 ⟨s4_5, E5⟩
        have X7 : Ext w w5 := X3.trans E5
        refine W_ret ?_
        subst hr
        refine ⟨_, res1 (rv_tmp s4_5), ?_⟩
        exact ⟨rfl, X7⟩
    · skip
      replace hr := bif_f hr hc4
      refine W_skip ?_
      refine W_seq ?_
      refine W_seq ?_
      obtain ⟨m8, hm8, hr⟩ := letv_out hr
      refine W_cut (fun σ' w' => σ' 26 = .bool m8 ∧ Ext w1 w') rfl ?_ ?_
      · skip
        have hr := hm8
        refine da_op rfl (d_mv (v := .float .f64 p0r) s0_1 ?_)
        refine da_op rfl (d_fcmp (k := .f64) cEql rfl rfl p0h cn_f64_0 ?_)
        refine da_op rfl (d_mv (v := .bool (fcmp .eql .f64 p0 0)) rfl ?_)
        rcases Bool.eq_false_or_eq_true (fcmp .eql .f64 p0 0) with hc9 | hc9
        · skip
          replace hr := bif_t hr hc9
          refine da_on rfl (Eq.trans (show sl _ _ _ = .bool (fcmp .eql .f64 p0 0) from rfl) (congrArg Value.bool hc9)) (d_mv (v := .float .f64 p1r) s1_1 ?_)
          refine da_on rfl (Eq.trans (show sl _ _ _ = .bool (fcmp .eql .f64 p0 0) from rfl) (congrArg Value.bool hc9)) (d_fcmp (k := .f64) cEql rfl rfl p1h cn_f64_0 ?_)
          refine da_op rfl (d_pick (b := true) (Eq.trans (show ev _ _ = .bool (fcmp .eql .f64 p0 0) from rfl) (congrArg Value.bool hc9)) ?_)
          refine da_nil ?_
          subst hr
          exact ⟨rfl, (Ext.refl w1)⟩
        · skip
          replace hr := bif_f hr hc9
          refine da_off rfl (Eq.trans (show sl _ _ _ = .bool (fcmp .eql .f64 p0 0) from rfl) (congrArg Value.bool hc9)) (by decide) ?_
          refine da_off rfl (Eq.trans (show sl _ _ _ = .bool (fcmp .eql .f64 p0 0) from rfl) (congrArg Value.bool hc9)) (by decide) ?_
          refine da_op rfl (d_pick (b := false) (Eq.trans (show ev _ _ = .bool (fcmp .eql .f64 p0 0) from rfl) (congrArg Value.bool hc9)) ?_)
          refine da_nil ?_
          subst hr
          exact ⟨rfl, (Ext.refl w1)⟩
      · skip
        rintro σ8 w8 o8 ⟨s26_8, E8⟩
        have s0_8 : σ8 0 = .float .f64 p0r := (o8 0 rfl).trans s0_1
        have s1_8 : σ8 1 = .float .f64 p1r := (o8 1 rfl).trans s1_1
        have X10 : Ext w w8 := X3.trans E8
        refine W_cond (b := m8) s26_8 (fun hc11 => ?_) (fun hc11 => ?_)
        · skip
          replace hr := bif_t hr hc11
          refine W_seq ?_
          refine W_region rfl ?_
          refine da_op rfl (d_mv (v := .float .f64 p0r) s0_8 ?_)
          refine da_op rfl (d_fop (k := .f64) fQuo rfl rfl cn_f64_4607182418800017408 p0h fun r12 w12 h12 _ E12 => ?_)
          have X13 : Ext w w12 := X10.trans E12
          refine da_op rfl (d_fcmp (k := .f64) cGtr rfl rfl h12 cn_f64_0 ?_)
          refine da_op rfl (d_mv (v := .float .f64 p1r) s1_8 ?_)
          refine da_op rfl (d_fop (k := .f64) fQuo rfl rfl cn_f64_4607182418800017408 p1h fun r14 w14 h14 _ E14 => ?_)
          have X15 : Ext w w14 := X13.trans E14
          refine da_op rfl (d_fcmp (k := .f64) cGtr rfl rfl h14 cn_f64_0 ?_)
          refine da_op rfl (d_beq un4 rfl rfl ?_)
          refine da_op rfl (d_as (v := .bool ((fcmp .gtr .f64 (fop .quo .f64 4607182418800017408 p0) 0) == (fcmp .gtr .f64 (fop .quo .f64 4607182418800017408 p1) 0))) rfl ?_)
          refine da_nil ?_
          refine W_ret ?_
          subst hr
          refine ⟨_, res1 (rv_tmp rfl), ?_⟩
          exact ⟨rfl, X15⟩
        · skip
          replace hr := bif_f hr hc11
          refine W_skip ?_
          refine W_seq ?_
          refine W_region rfl ?_
          refine da_op rfl (d_mv (v := .float .f64 p0r) s0_8 ?_)
          refine da_op rfl (d_mv (v := .float .f64 p1r) s1_8 ?_)
          refine da_op rfl (d_fcmp (k := .f64) cEql rfl rfl p0h p1h ?_)
          refine da_op rfl (d_as (v := .bool (fcmp .eql .f64 p0 p1)) rfl ?_)
          refine da_nil ?_
          refine W_ret ?_
          subst hr
          refine ⟨_, res1 (rv_tmp rfl), ?_⟩
          exact ⟨rfl, X10⟩
set_option maxHeartbeats 4000000 in
theorem c39 (p0 : SPendulum) (p1 : SPendulum) (p0r0 : Nat) (p0r1 : Nat) (p0r2 : Nat) (p0r3 : Nat) (p0r4 : Nat) (p1r0 : Nat) (p1r1 : Nat) (p1r2 : Nat) (p1r3 : Nat) (p1r4 : Nat) (r : Bool) (w : World) (hr : M.laws_eqPendulum p0 p1 = r) (p0h0 : cn .f32 p0r0 = p0.long) (p0h1 : cn .f32 p0r1 = p0.pull) (p0h2 : cn .f32 p0r2 = p0.drag) (p0h3 : cn .f32 p0r3 = p0.drive) (p0h4 : cn .f32 p0r4 = p0.rate) (p1h0 : cn .f32 p1r0 = p1.long) (p1h1 : cn .f32 p1r1 = p1.pull) (p1h2 : cn .f32 p1r2 = p1.drag) (p1h3 : cn .f32 p1r3 = p1.drive) (p1h4 : cn .f32 p1r4 = p1.rate) :
    Calls Try.prog 39 #[.agg #[.float .f32 p0r0, .float .f32 p0r1, .float .f32 p0r2, .float .f32 p0r3, .float .f32 p0r4], .agg #[.float .f32 p1r0, .float .f32 p1r1, .float .f32 p1r2, .float .f32 p1r3, .float .f32 p1r4]] w fun e w' => e = .returned (.bool r) ∧ Ext w w' := by
  refine calls_of_W Try.func39 rfl (Nat.le_of_ble_eq_true rfl) ?_
  refine W_seq ?_
  refine W_region rfl ?_
  refine da_op rfl (d_box (cs := #[.float .f32 p0r0, .float .f32 p0r1, .float .f32 p0r2, .float .f32 p0r3, .float .f32 p0r4]) rfl fun w1 B1 E1 => ?_)
  have own2 : w.heap.size ≤ w.heap.size := Nat.le_trans (Ext.refl w).size (Nat.le_refl _)
  have X3 : Ext w w1 := (Ext.refl w).trans E1
  refine da_op rfl (d_box (cs := #[.float .f32 p1r0, .float .f32 p1r1, .float .f32 p1r2, .float .f32 p1r3, .float .f32 p1r4]) rfl fun w4 B4 E4 => ?_)
  have own5 : w.heap.size ≤ w1.heap.size := Nat.le_trans X3.size (Nat.le_refl _)
  have sp6 : w.heap.size ≠ w1.heap.size := Nat.ne_of_lt (Nat.lt_of_lt_of_le (lt_heap B1) (Nat.le_refl _))
  have X7 : Ext w w4 := X3.trans E4
  refine da_op rfl (d_as (v := .bool false) rfl ?_)
  refine da_nil ?_
  refine W_seq ?_
  refine W_seq ?_
  refine W_region rfl ?_
  refine da_op rfl (d_fieldAddr rfl (fa45_0 _ _) ?_)
  have B8 : w4.heap[w.heap.size]? = some (.cells #[.float .f32 p0r0, .float .f32 p0r1, .float .f32 p0r2, .float .f32 p0r3, .float .f32 p0r4] 45 (0, 0)) := E4.heap B1
  refine da_op rfl (d_load (v := .float .f32 p0r0) rfl agg22 B8 rfl ?_)
  refine da_op rfl (d_widen un22 un95 rfl p0h0 fun r9 w9 h9 _ E9 => ?_)
  have X10 : Ext w w9 := X7.trans E9
  refine da_op rfl (d_fieldAddr rfl (fa45_0 _ _) ?_)
  have B11 : w9.heap[w1.heap.size]? = some (.cells #[.float .f32 p1r0, .float .f32 p1r1, .float .f32 p1r2, .float .f32 p1r3, .float .f32 p1r4] 45 (0, 0)) := E9.heap B4
  refine da_op rfl (d_load (v := .float .f32 p1r0) rfl agg22 B11 rfl ?_)
  refine da_op rfl (d_widen un22 un95 rfl p1h0 fun r12 w12 h12 _ E12 => ?_)
  have X13 : Ext w w12 := X10.trans E12
  obtain ⟨m14, hm14, hr⟩ := letv_out hr
  have B15 : w12.heap[w.heap.size]? = some (.cells #[.float .f32 p0r0, .float .f32 p0r1, .float .f32 p0r2, .float .f32 p0r3, .float .f32 p0r4] 45 (0, 0)) := E12.heap (E9.heap B8)
  have B16 : w12.heap[w1.heap.size]? = some (.cells #[.float .f32 p1r0, .float .f32 p1r1, .float .f32 p1r2, .float .f32 p1r3, .float .f32 p1r4] 45 (0, 0)) := E12.heap B11
  refine da_op rfl (d_cl (vs := [.float .f64 r9, .float .f64 r12]) en57 (ac rfl (ac rfl rfl)) rfl ?_)
  refine (c57 (widen p0.long) (widen p1.long) r9 r12 m14 w12 hm14 h9 h12).mono ?_
  rintro _ w17 ⟨rfl, E17⟩
  refine ⟨_, rfl, ?_⟩
  have X18 : Ext w w17 := X13.trans E17
  refine da_op rfl (d_not rfl ?_)
  refine da_nil ?_
  refine W_cond (b := (!m14)) rfl (fun hc19 => ?_) (fun hc19 => ?_)
  · skip
    replace hr := bif_t hr hc19
    refine W_seq ?_
    refine W_region rfl ?_
    refine da_op rfl (d_as (v := .bool false) rfl ?_)
    refine da_nil ?_
    refine W_ret ?_
    subst hr
    refine ⟨_, res1 (rv_tmp rfl), ?_⟩
    exact ⟨rfl, X18⟩
  · skip
    replace hr := bif_f hr hc19
    refine W_skip ?_
    refine W_seq ?_
    refine W_seq ?_
    refine W_region rfl ?_
    refine da_op rfl (d_fieldAddr rfl (fa45_1 _ _) ?_)
    have B20 : w17.heap[w.heap.size]? = some (.cells #[.float .f32 p0r0, .float .f32 p0r1, .float .f32 p0r2, .float .f32 p0r3, .float .f32 p0r4] 45 (0, 0)) := E17.heap B15
    refine da_op rfl (d_load (v := .float .f32 p0r1) rfl agg22 B20 rfl ?_)
    refine da_op rfl (d_widen un22 un95 rfl p0h1 fun r21 w21 h21 _ E21 => ?_)
    have X22 : Ext w w21 := X18.trans E21
    refine da_op rfl (d_fieldAddr rfl (fa45_1 _ _) ?_)
    have B23 : w21.heap[w1.heap.size]? = some (.cells #[.float .f32 p1r0, .float .f32 p1r1, .float .f32 p1r2, .float .f32 p1r3, .float .f32 p1r4] 45 (0, 0)) := E21.heap (E17.heap B16)
    refine da_op rfl (d_load (v := .float .f32 p1r1) rfl agg22 B23 rfl ?_)
    refine da_op rfl (d_widen un22 un95 rfl p1h1 fun r24 w24 h24 _ E24 => ?_)
    have X25 : Ext w w24 := X22.trans E24
    obtain ⟨m26, hm26, hr⟩ := letv_out hr
    have B27 : w24.heap[w.heap.size]? = some (.cells #[.float .f32 p0r0, .float .f32 p0r1, .float .f32 p0r2, .float .f32 p0r3, .float .f32 p0r4] 45 (0, 0)) := E24.heap (E21.heap B20)
    have B28 : w24.heap[w1.heap.size]? = some (.cells #[.float .f32 p1r0, .float .f32 p1r1, .float .f32 p1r2, .float .f32 p1r3, .float .f32 p1r4] 45 (0, 0)) := E24.heap B23
    refine da_op rfl (d_cl (vs := [.float .f64 r21, .float .f64 r24]) en57 (ac rfl (ac rfl rfl)) rfl ?_)
    refine (c57 (widen p0.pull) (widen p1.pull) r21 r24 m26 w24 hm26 h21 h24).mono ?_
    rintro _ w29 ⟨rfl, E29⟩
    refine ⟨_, rfl, ?_⟩
    have X30 : Ext w w29 := X25.trans E29
    refine da_op rfl (d_not rfl ?_)
    refine da_nil ?_
    refine W_cond (b := (!m26)) rfl (fun hc31 => ?_) (fun hc31 => ?_)
    · skip
      replace hr := bif_t hr hc31
      refine W_seq ?_
      refine W_region rfl ?_
      refine da_op rfl (d_as (v := .bool false) rfl ?_)
      refine da_nil ?_
      refine W_ret ?_
      subst hr
      refine ⟨_, res1 (rv_tmp rfl), ?_⟩
      exact ⟨rfl, X30⟩
    · skip
      replace hr := bif_f hr hc31
      refine W_skip ?_
      refine W_seq ?_
      refine W_seq ?_
      refine W_region rfl ?_
      refine da_op rfl (d_fieldAddr rfl (fa45_2 _ _) ?_)
      have B32 : w29.heap[w.heap.size]? = some (.cells #[.float .f32 p0r0, .float .f32 p0r1, .float .f32 p0r2, .float .f32 p0r3, .float .f32 p0r4] 45 (0, 0)) := E29.heap B27
      refine da_op rfl (d_load (v := .float .f32 p0r2) rfl agg22 B32 rfl ?_)
      refine da_op rfl (d_widen un22 un95 rfl p0h2 fun r33 w33 h33 _ E33 => ?_)
      have X34 : Ext w w33 := X30.trans E33
      refine da_op rfl (d_fieldAddr rfl (fa45_2 _ _) ?_)
      have B35 : w33.heap[w1.heap.size]? = some (.cells #[.float .f32 p1r0, .float .f32 p1r1, .float .f32 p1r2, .float .f32 p1r3, .float .f32 p1r4] 45 (0, 0)) := E33.heap (E29.heap B28)
      refine da_op rfl (d_load (v := .float .f32 p1r2) rfl agg22 B35 rfl ?_)
      refine da_op rfl (d_widen un22 un95 rfl p1h2 fun r36 w36 h36 _ E36 => ?_)
      have X37 : Ext w w36 := X34.trans E36
      obtain ⟨m38, hm38, hr⟩ := letv_out hr
      have B39 : w36.heap[w.heap.size]? = some (.cells #[.float .f32 p0r0, .float .f32 p0r1, .float .f32 p0r2, .float .f32 p0r3, .float .f32 p0r4] 45 (0, 0)) := E36.heap (E33.heap B32)
      have B40 : w36.heap[w1.heap.size]? = some (.cells #[.float .f32 p1r0, .float .f32 p1r1, .float .f32 p1r2, .float .f32 p1r3, .float .f32 p1r4] 45 (0, 0)) := E36.heap B35
      refine da_op rfl (d_cl (vs := [.float .f64 r33, .float .f64 r36]) en57 (ac rfl (ac rfl rfl)) rfl ?_)
      refine (c57 (widen p0.drag) (widen p1.drag) r33 r36 m38 w36 hm38 h33 h36).mono ?_
      rintro _ w41 ⟨rfl, E41⟩
      refine ⟨_, rfl, ?_⟩
      have X42 : Ext w w41 := X37.trans E41
      refine da_op rfl (d_not rfl ?_)
      refine da_nil ?_
      refine W_cond (b := (!m38)) rfl (fun hc43 => ?_) (fun hc43 => ?_)
      · skip
        replace hr := bif_t hr hc43
        refine W_seq ?_
        refine W_region rfl ?_
        refine da_op rfl (d_as (v := .bool false) rfl ?_)
        refine da_nil ?_
        refine W_ret ?_
        subst hr
        refine ⟨_, res1 (rv_tmp rfl), ?_⟩
        exact ⟨rfl, X42⟩
      · skip
        replace hr := bif_f hr hc43
        refine W_skip ?_
        refine W_seq ?_
        refine W_seq ?_
        refine W_region rfl ?_
        refine da_op rfl (d_fieldAddr rfl (fa45_3 _ _) ?_)
        have B44 : w41.heap[w.heap.size]? = some (.cells #[.float .f32 p0r0, .float .f32 p0r1, .float .f32 p0r2, .float .f32 p0r3, .float .f32 p0r4] 45 (0, 0)) := E41.heap B39
        refine da_op rfl (d_load (v := .float .f32 p0r3) rfl agg22 B44 rfl ?_)
        refine da_op rfl (d_widen un22 un95 rfl p0h3 fun r45 w45 h45 _ E45 => ?_)
        have X46 : Ext w w45 := X42.trans E45
        refine da_op rfl (d_fieldAddr rfl (fa45_3 _ _) ?_)
        have B47 : w45.heap[w1.heap.size]? = some (.cells #[.float .f32 p1r0, .float .f32 p1r1, .float .f32 p1r2, .float .f32 p1r3, .float .f32 p1r4] 45 (0, 0)) := E45.heap (E41.heap B40)
        refine da_op rfl (d_load (v := .float .f32 p1r3) rfl agg22 B47 rfl ?_)
        refine da_op rfl (d_widen un22 un95 rfl p1h3 fun r48 w48 h48 _ E48 => ?_)
        have X49 : Ext w w48 := X46.trans E48
        obtain ⟨m50, hm50, hr⟩ := letv_out hr
        have B51 : w48.heap[w.heap.size]? = some (.cells #[.float .f32 p0r0, .float .f32 p0r1, .float .f32 p0r2, .float .f32 p0r3, .float .f32 p0r4] 45 (0, 0)) := E48.heap (E45.heap B44)
        have B52 : w48.heap[w1.heap.size]? = some (.cells #[.float .f32 p1r0, .float .f32 p1r1, .float .f32 p1r2, .float .f32 p1r3, .float .f32 p1r4] 45 (0, 0)) := E48.heap B47
        refine da_op rfl (d_cl (vs := [.float .f64 r45, .float .f64 r48]) en57 (ac rfl (ac rfl rfl)) rfl ?_)
        refine (c57 (widen p0.drive) (widen p1.drive) r45 r48 m50 w48 hm50 h45 h48).mono ?_
        rintro _ w53 ⟨rfl, E53⟩
        refine ⟨_, rfl, ?_⟩
        have X54 : Ext w w53 := X49.trans E53
        refine da_op rfl (d_not rfl ?_)
        refine da_nil ?_
        refine W_cond (b := (!m50)) rfl (fun hc55 => ?_) (fun hc55 => ?_)
        · skip
          replace hr := bif_t hr hc55
          refine W_seq ?_
          refine W_region rfl ?_
          refine da_op rfl (d_as (v := .bool false) rfl ?_)
          refine da_nil ?_
          refine W_ret ?_
          subst hr
          refine ⟨_, res1 (rv_tmp rfl), ?_⟩
          exact ⟨rfl, X54⟩
        · skip
          replace hr := bif_f hr hc55
          refine W_skip ?_
          refine W_seq ?_
          refine W_seq ?_
          refine W_region rfl ?_
          refine da_op rfl (d_fieldAddr rfl (fa45_4 _ _) ?_)
          have B56 : w53.heap[w.heap.size]? = some (.cells #[.float .f32 p0r0, .float .f32 p0r1, .float .f32 p0r2, .float .f32 p0r3, .float .f32 p0r4] 45 (0, 0)) := E53.heap B51
          refine da_op rfl (d_load (v := .float .f32 p0r4) rfl agg22 B56 rfl ?_)
          refine da_op rfl (d_widen un22 un95 rfl p0h4 fun r57 w57 h57 _ E57 => ?_)
          have X58 : Ext w w57 := X54.trans E57
          refine da_op rfl (d_fieldAddr rfl (fa45_4 _ _) ?_)
          have B59 : w57.heap[w1.heap.size]? = some (.cells #[.float .f32 p1r0, .float .f32 p1r1, .float .f32 p1r2, .float .f32 p1r3, .float .f32 p1r4] 45 (0, 0)) := E57.heap (E53.heap B52)
          refine da_op rfl (d_load (v := .float .f32 p1r4) rfl agg22 B59 rfl ?_)
          refine da_op rfl (d_widen un22 un95 rfl p1h4 fun r60 w60 h60 _ E60 => ?_)
          have X61 : Ext w w60 := X58.trans E60
          obtain ⟨m62, hm62, hr⟩ := letv_out hr
          have B63 : w60.heap[w.heap.size]? = some (.cells #[.float .f32 p0r0, .float .f32 p0r1, .float .f32 p0r2, .float .f32 p0r3, .float .f32 p0r4] 45 (0, 0)) := E60.heap (E57.heap B56)
          have B64 : w60.heap[w1.heap.size]? = some (.cells #[.float .f32 p1r0, .float .f32 p1r1, .float .f32 p1r2, .float .f32 p1r3, .float .f32 p1r4] 45 (0, 0)) := E60.heap B59
          refine da_op rfl (d_cl (vs := [.float .f64 r57, .float .f64 r60]) en57 (ac rfl (ac rfl rfl)) rfl ?_)
          refine (c57 (widen p0.rate) (widen p1.rate) r57 r60 m62 w60 hm62 h57 h60).mono ?_
          rintro _ w65 ⟨rfl, E65⟩
          refine ⟨_, rfl, ?_⟩
          have X66 : Ext w w65 := X61.trans E65
          refine da_op rfl (d_not rfl ?_)
          refine da_nil ?_
          refine W_cond (b := (!m62)) rfl (fun hc67 => ?_) (fun hc67 => ?_)
          · skip
            replace hr := bif_t hr hc67
            refine W_seq ?_
            refine W_region rfl ?_
            refine da_op rfl (d_as (v := .bool false) rfl ?_)
            refine da_nil ?_
            refine W_ret ?_
            subst hr
            refine ⟨_, res1 (rv_tmp rfl), ?_⟩
            exact ⟨rfl, X66⟩
          · skip
            replace hr := bif_f hr hc67
            refine W_skip ?_
            refine W_seq ?_
            refine W_region rfl ?_
            refine da_op rfl (d_as (v := .bool true) rfl ?_)
            refine da_nil ?_
            refine W_ret ?_
            subst hr
            refine ⟨_, res1 (rv_tmp rfl), ?_⟩
            exact ⟨rfl, X66⟩
set_option maxHeartbeats 4000000 in
theorem c40 (p0 : SSwing) (p1 : SSwing) (p0r0 : Nat) (p0r1 : Nat) (p0r2 : Nat) (p1r0 : Nat) (p1r1 : Nat) (p1r2 : Nat) (r : Bool) (w : World) (hr : M.laws_eqSwing p0 p1 = r) (p0h0 : cn .f32 p0r0 = p0.turn) (p0h1 : cn .f32 p0r1 = p0.speed) (p0h2 : cn .f32 p0r2 = p0.time) (p1h0 : cn .f32 p1r0 = p1.turn) (p1h1 : cn .f32 p1r1 = p1.speed) (p1h2 : cn .f32 p1r2 = p1.time) :
    Calls Try.prog 40 #[.agg #[.float .f32 p0r0, .float .f32 p0r1, .float .f32 p0r2], .agg #[.float .f32 p1r0, .float .f32 p1r1, .float .f32 p1r2]] w fun e w' => e = .returned (.bool r) ∧ Ext w w' := by
  refine calls_of_W Try.func40 rfl (Nat.le_of_ble_eq_true rfl) ?_
  refine W_seq ?_
  refine W_region rfl ?_
  refine da_op rfl (d_box (cs := #[.float .f32 p0r0, .float .f32 p0r1, .float .f32 p0r2]) rfl fun w1 B1 E1 => ?_)
  have own2 : w.heap.size ≤ w.heap.size := Nat.le_trans (Ext.refl w).size (Nat.le_refl _)
  have X3 : Ext w w1 := (Ext.refl w).trans E1
  refine da_op rfl (d_box (cs := #[.float .f32 p1r0, .float .f32 p1r1, .float .f32 p1r2]) rfl fun w4 B4 E4 => ?_)
  have own5 : w.heap.size ≤ w1.heap.size := Nat.le_trans X3.size (Nat.le_refl _)
  have sp6 : w.heap.size ≠ w1.heap.size := Nat.ne_of_lt (Nat.lt_of_lt_of_le (lt_heap B1) (Nat.le_refl _))
  have X7 : Ext w w4 := X3.trans E4
  refine da_op rfl (d_as (v := .bool false) rfl ?_)
  refine da_nil ?_
  refine W_seq ?_
  refine W_seq ?_
  refine W_region rfl ?_
  refine da_op rfl (d_fieldAddr rfl (fa47_0 _ _) ?_)
  have B8 : w4.heap[w.heap.size]? = some (.cells #[.float .f32 p0r0, .float .f32 p0r1, .float .f32 p0r2] 47 (0, 0)) := E4.heap B1
  refine da_op rfl (d_load (v := .float .f32 p0r0) rfl agg22 B8 rfl ?_)
  refine da_op rfl (d_widen un22 un95 rfl p0h0 fun r9 w9 h9 _ E9 => ?_)
  have X10 : Ext w w9 := X7.trans E9
  refine da_op rfl (d_fieldAddr rfl (fa47_0 _ _) ?_)
  have B11 : w9.heap[w1.heap.size]? = some (.cells #[.float .f32 p1r0, .float .f32 p1r1, .float .f32 p1r2] 47 (0, 0)) := E9.heap B4
  refine da_op rfl (d_load (v := .float .f32 p1r0) rfl agg22 B11 rfl ?_)
  refine da_op rfl (d_widen un22 un95 rfl p1h0 fun r12 w12 h12 _ E12 => ?_)
  have X13 : Ext w w12 := X10.trans E12
  obtain ⟨m14, hm14, hr⟩ := letv_out hr
  have B15 : w12.heap[w.heap.size]? = some (.cells #[.float .f32 p0r0, .float .f32 p0r1, .float .f32 p0r2] 47 (0, 0)) := E12.heap (E9.heap B8)
  have B16 : w12.heap[w1.heap.size]? = some (.cells #[.float .f32 p1r0, .float .f32 p1r1, .float .f32 p1r2] 47 (0, 0)) := E12.heap B11
  refine da_op rfl (d_cl (vs := [.float .f64 r9, .float .f64 r12]) en57 (ac rfl (ac rfl rfl)) rfl ?_)
  refine (c57 (widen p0.turn) (widen p1.turn) r9 r12 m14 w12 hm14 h9 h12).mono ?_
  rintro _ w17 ⟨rfl, E17⟩
  refine ⟨_, rfl, ?_⟩
  have X18 : Ext w w17 := X13.trans E17
  refine da_op rfl (d_not rfl ?_)
  refine da_nil ?_
  refine W_cond (b := (!m14)) rfl (fun hc19 => ?_) (fun hc19 => ?_)
  · skip
    replace hr := bif_t hr hc19
    refine W_seq ?_
    refine W_region rfl ?_
    refine da_op rfl (d_as (v := .bool false) rfl ?_)
    refine da_nil ?_
    refine W_ret ?_
    subst hr
    refine ⟨_, res1 (rv_tmp rfl), ?_⟩
    exact ⟨rfl, X18⟩
  · skip
    replace hr := bif_f hr hc19
    refine W_skip ?_
    refine W_seq ?_
    refine W_seq ?_
    refine W_region rfl ?_
    refine da_op rfl (d_fieldAddr rfl (fa47_1 _ _) ?_)
    have B20 : w17.heap[w.heap.size]? = some (.cells #[.float .f32 p0r0, .float .f32 p0r1, .float .f32 p0r2] 47 (0, 0)) := E17.heap B15
    refine da_op rfl (d_load (v := .float .f32 p0r1) rfl agg22 B20 rfl ?_)
    refine da_op rfl (d_widen un22 un95 rfl p0h1 fun r21 w21 h21 _ E21 => ?_)
    have X22 : Ext w w21 := X18.trans E21
    refine da_op rfl (d_fieldAddr rfl (fa47_1 _ _) ?_)
    have B23 : w21.heap[w1.heap.size]? = some (.cells #[.float .f32 p1r0, .float .f32 p1r1, .float .f32 p1r2] 47 (0, 0)) := E21.heap (E17.heap B16)
    refine da_op rfl (d_load (v := .float .f32 p1r1) rfl agg22 B23 rfl ?_)
    refine da_op rfl (d_widen un22 un95 rfl p1h1 fun r24 w24 h24 _ E24 => ?_)
    have X25 : Ext w w24 := X22.trans E24
    obtain ⟨m26, hm26, hr⟩ := letv_out hr
    have B27 : w24.heap[w.heap.size]? = some (.cells #[.float .f32 p0r0, .float .f32 p0r1, .float .f32 p0r2] 47 (0, 0)) := E24.heap (E21.heap B20)
    have B28 : w24.heap[w1.heap.size]? = some (.cells #[.float .f32 p1r0, .float .f32 p1r1, .float .f32 p1r2] 47 (0, 0)) := E24.heap B23
    refine da_op rfl (d_cl (vs := [.float .f64 r21, .float .f64 r24]) en57 (ac rfl (ac rfl rfl)) rfl ?_)
    refine (c57 (widen p0.speed) (widen p1.speed) r21 r24 m26 w24 hm26 h21 h24).mono ?_
    rintro _ w29 ⟨rfl, E29⟩
    refine ⟨_, rfl, ?_⟩
    have X30 : Ext w w29 := X25.trans E29
    refine da_op rfl (d_not rfl ?_)
    refine da_nil ?_
    refine W_cond (b := (!m26)) rfl (fun hc31 => ?_) (fun hc31 => ?_)
    · skip
      replace hr := bif_t hr hc31
      refine W_seq ?_
      refine W_region rfl ?_
      refine da_op rfl (d_as (v := .bool false) rfl ?_)
      refine da_nil ?_
      refine W_ret ?_
      subst hr
      refine ⟨_, res1 (rv_tmp rfl), ?_⟩
      exact ⟨rfl, X30⟩
    · skip
      replace hr := bif_f hr hc31
      refine W_skip ?_
      refine W_seq ?_
      refine W_seq ?_
      refine W_region rfl ?_
      refine da_op rfl (d_fieldAddr rfl (fa47_2 _ _) ?_)
      have B32 : w29.heap[w.heap.size]? = some (.cells #[.float .f32 p0r0, .float .f32 p0r1, .float .f32 p0r2] 47 (0, 0)) := E29.heap B27
      refine da_op rfl (d_load (v := .float .f32 p0r2) rfl agg22 B32 rfl ?_)
      refine da_op rfl (d_widen un22 un95 rfl p0h2 fun r33 w33 h33 _ E33 => ?_)
      have X34 : Ext w w33 := X30.trans E33
      refine da_op rfl (d_fieldAddr rfl (fa47_2 _ _) ?_)
      have B35 : w33.heap[w1.heap.size]? = some (.cells #[.float .f32 p1r0, .float .f32 p1r1, .float .f32 p1r2] 47 (0, 0)) := E33.heap (E29.heap B28)
      refine da_op rfl (d_load (v := .float .f32 p1r2) rfl agg22 B35 rfl ?_)
      refine da_op rfl (d_widen un22 un95 rfl p1h2 fun r36 w36 h36 _ E36 => ?_)
      have X37 : Ext w w36 := X34.trans E36
      obtain ⟨m38, hm38, hr⟩ := letv_out hr
      have B39 : w36.heap[w.heap.size]? = some (.cells #[.float .f32 p0r0, .float .f32 p0r1, .float .f32 p0r2] 47 (0, 0)) := E36.heap (E33.heap B32)
      have B40 : w36.heap[w1.heap.size]? = some (.cells #[.float .f32 p1r0, .float .f32 p1r1, .float .f32 p1r2] 47 (0, 0)) := E36.heap B35
      refine da_op rfl (d_cl (vs := [.float .f64 r33, .float .f64 r36]) en57 (ac rfl (ac rfl rfl)) rfl ?_)
      refine (c57 (widen p0.time) (widen p1.time) r33 r36 m38 w36 hm38 h33 h36).mono ?_
      rintro _ w41 ⟨rfl, E41⟩
      refine ⟨_, rfl, ?_⟩
      have X42 : Ext w w41 := X37.trans E41
      refine da_op rfl (d_not rfl ?_)
      refine da_nil ?_
      refine W_cond (b := (!m38)) rfl (fun hc43 => ?_) (fun hc43 => ?_)
      · skip
        replace hr := bif_t hr hc43
        refine W_seq ?_
        refine W_region rfl ?_
        refine da_op rfl (d_as (v := .bool false) rfl ?_)
        refine da_nil ?_
        refine W_ret ?_
        subst hr
        refine ⟨_, res1 (rv_tmp rfl), ?_⟩
        exact ⟨rfl, X42⟩
      · skip
        replace hr := bif_f hr hc43
        refine W_skip ?_
        refine W_seq ?_
        refine W_region rfl ?_
        refine da_op rfl (d_as (v := .bool true) rfl ?_)
        refine da_nil ?_
        refine W_ret ?_
        subst hr
        refine ⟨_, res1 (rv_tmp rfl), ?_⟩
        exact ⟨rfl, X42⟩
set_option maxHeartbeats 4000000 in
theorem c28 (p0 : SVector) (p1 : SVector) (p0r0 : Nat) (p0r1 : Nat) (p0r2 : Nat) (p1r0 : Nat) (p1r1 : Nat) (p1r2 : Nat) (r : Bool) (w : World) (hr : M.laws_eqVector p0 p1 = r) (p0h0 : cn .f32 p0r0 = p0.x) (p0h1 : cn .f32 p0r1 = p0.y) (p0h2 : cn .f32 p0r2 = p0.z) (p1h0 : cn .f32 p1r0 = p1.x) (p1h1 : cn .f32 p1r1 = p1.y) (p1h2 : cn .f32 p1r2 = p1.z) :
    Calls Try.prog 28 #[.agg #[.float .f32 p0r0, .float .f32 p0r1, .float .f32 p0r2], .agg #[.float .f32 p1r0, .float .f32 p1r1, .float .f32 p1r2]] w fun e w' => e = .returned (.bool r) ∧ Ext w w' := by
  refine calls_of_W Try.func28 rfl (Nat.le_of_ble_eq_true rfl) ?_
  refine W_seq ?_
  refine W_region rfl ?_
  refine da_op rfl (d_box (cs := #[.float .f32 p0r0, .float .f32 p0r1, .float .f32 p0r2]) rfl fun w1 B1 E1 => ?_)
  have own2 : w.heap.size ≤ w.heap.size := Nat.le_trans (Ext.refl w).size (Nat.le_refl _)
  have X3 : Ext w w1 := (Ext.refl w).trans E1
  refine da_op rfl (d_box (cs := #[.float .f32 p1r0, .float .f32 p1r1, .float .f32 p1r2]) rfl fun w4 B4 E4 => ?_)
  have own5 : w.heap.size ≤ w1.heap.size := Nat.le_trans X3.size (Nat.le_refl _)
  have sp6 : w.heap.size ≠ w1.heap.size := Nat.ne_of_lt (Nat.lt_of_lt_of_le (lt_heap B1) (Nat.le_refl _))
  have X7 : Ext w w4 := X3.trans E4
  refine da_op rfl (d_as (v := .bool false) rfl ?_)
  refine da_nil ?_
  refine W_seq ?_
  refine W_seq ?_
  refine W_region rfl ?_
  refine da_op rfl (d_fieldAddr rfl (fa29_0 _ _) ?_)
  have B8 : w4.heap[w.heap.size]? = some (.cells #[.float .f32 p0r0, .float .f32 p0r1, .float .f32 p0r2] 29 (0, 0)) := E4.heap B1
  refine da_op rfl (d_load (v := .float .f32 p0r0) rfl agg22 B8 rfl ?_)
  refine da_op rfl (d_widen un22 un95 rfl p0h0 fun r9 w9 h9 _ E9 => ?_)
  have X10 : Ext w w9 := X7.trans E9
  refine da_op rfl (d_fieldAddr rfl (fa29_0 _ _) ?_)
  have B11 : w9.heap[w1.heap.size]? = some (.cells #[.float .f32 p1r0, .float .f32 p1r1, .float .f32 p1r2] 29 (0, 0)) := E9.heap B4
  refine da_op rfl (d_load (v := .float .f32 p1r0) rfl agg22 B11 rfl ?_)
  refine da_op rfl (d_widen un22 un95 rfl p1h0 fun r12 w12 h12 _ E12 => ?_)
  have X13 : Ext w w12 := X10.trans E12
  obtain ⟨m14, hm14, hr⟩ := letv_out hr
  have B15 : w12.heap[w.heap.size]? = some (.cells #[.float .f32 p0r0, .float .f32 p0r1, .float .f32 p0r2] 29 (0, 0)) := E12.heap (E9.heap B8)
  have B16 : w12.heap[w1.heap.size]? = some (.cells #[.float .f32 p1r0, .float .f32 p1r1, .float .f32 p1r2] 29 (0, 0)) := E12.heap B11
  refine da_op rfl (d_cl (vs := [.float .f64 r9, .float .f64 r12]) en57 (ac rfl (ac rfl rfl)) rfl ?_)
  refine (c57 (widen p0.x) (widen p1.x) r9 r12 m14 w12 hm14 h9 h12).mono ?_
  rintro _ w17 ⟨rfl, E17⟩
  refine ⟨_, rfl, ?_⟩
  have X18 : Ext w w17 := X13.trans E17
  refine da_op rfl (d_not rfl ?_)
  refine da_nil ?_
  refine W_cond (b := (!m14)) rfl (fun hc19 => ?_) (fun hc19 => ?_)
  · skip
    replace hr := bif_t hr hc19
    refine W_seq ?_
    refine W_region rfl ?_
    refine da_op rfl (d_as (v := .bool false) rfl ?_)
    refine da_nil ?_
    refine W_ret ?_
    subst hr
    refine ⟨_, res1 (rv_tmp rfl), ?_⟩
    exact ⟨rfl, X18⟩
  · skip
    replace hr := bif_f hr hc19
    refine W_skip ?_
    refine W_seq ?_
    refine W_seq ?_
    refine W_region rfl ?_
    refine da_op rfl (d_fieldAddr rfl (fa29_1 _ _) ?_)
    have B20 : w17.heap[w.heap.size]? = some (.cells #[.float .f32 p0r0, .float .f32 p0r1, .float .f32 p0r2] 29 (0, 0)) := E17.heap B15
    refine da_op rfl (d_load (v := .float .f32 p0r1) rfl agg22 B20 rfl ?_)
    refine da_op rfl (d_widen un22 un95 rfl p0h1 fun r21 w21 h21 _ E21 => ?_)
    have X22 : Ext w w21 := X18.trans E21
    refine da_op rfl (d_fieldAddr rfl (fa29_1 _ _) ?_)
    have B23 : w21.heap[w1.heap.size]? = some (.cells #[.float .f32 p1r0, .float .f32 p1r1, .float .f32 p1r2] 29 (0, 0)) := E21.heap (E17.heap B16)
    refine da_op rfl (d_load (v := .float .f32 p1r1) rfl agg22 B23 rfl ?_)
    refine da_op rfl (d_widen un22 un95 rfl p1h1 fun r24 w24 h24 _ E24 => ?_)
    have X25 : Ext w w24 := X22.trans E24
    obtain ⟨m26, hm26, hr⟩ := letv_out hr
    have B27 : w24.heap[w.heap.size]? = some (.cells #[.float .f32 p0r0, .float .f32 p0r1, .float .f32 p0r2] 29 (0, 0)) := E24.heap (E21.heap B20)
    have B28 : w24.heap[w1.heap.size]? = some (.cells #[.float .f32 p1r0, .float .f32 p1r1, .float .f32 p1r2] 29 (0, 0)) := E24.heap B23
    refine da_op rfl (d_cl (vs := [.float .f64 r21, .float .f64 r24]) en57 (ac rfl (ac rfl rfl)) rfl ?_)
    refine (c57 (widen p0.y) (widen p1.y) r21 r24 m26 w24 hm26 h21 h24).mono ?_
    rintro _ w29 ⟨rfl, E29⟩
    refine ⟨_, rfl, ?_⟩
    have X30 : Ext w w29 := X25.trans E29
    refine da_op rfl (d_not rfl ?_)
    refine da_nil ?_
    refine W_cond (b := (!m26)) rfl (fun hc31 => ?_) (fun hc31 => ?_)
    · skip
      replace hr := bif_t hr hc31
      refine W_seq ?_
      refine W_region rfl ?_
      refine da_op rfl (d_as (v := .bool false) rfl ?_)
      refine da_nil ?_
      refine W_ret ?_
      subst hr
      refine ⟨_, res1 (rv_tmp rfl), ?_⟩
      exact ⟨rfl, X30⟩
    · skip
      replace hr := bif_f hr hc31
      refine W_skip ?_
      refine W_seq ?_
      refine W_seq ?_
      refine W_region rfl ?_
      refine da_op rfl (d_fieldAddr rfl (fa29_2 _ _) ?_)
      have B32 : w29.heap[w.heap.size]? = some (.cells #[.float .f32 p0r0, .float .f32 p0r1, .float .f32 p0r2] 29 (0, 0)) := E29.heap B27
      refine da_op rfl (d_load (v := .float .f32 p0r2) rfl agg22 B32 rfl ?_)
      refine da_op rfl (d_widen un22 un95 rfl p0h2 fun r33 w33 h33 _ E33 => ?_)
      have X34 : Ext w w33 := X30.trans E33
      refine da_op rfl (d_fieldAddr rfl (fa29_2 _ _) ?_)
      have B35 : w33.heap[w1.heap.size]? = some (.cells #[.float .f32 p1r0, .float .f32 p1r1, .float .f32 p1r2] 29 (0, 0)) := E33.heap (E29.heap B28)
      refine da_op rfl (d_load (v := .float .f32 p1r2) rfl agg22 B35 rfl ?_)
      refine da_op rfl (d_widen un22 un95 rfl p1h2 fun r36 w36 h36 _ E36 => ?_)
      have X37 : Ext w w36 := X34.trans E36
      obtain ⟨m38, hm38, hr⟩ := letv_out hr
      have B39 : w36.heap[w.heap.size]? = some (.cells #[.float .f32 p0r0, .float .f32 p0r1, .float .f32 p0r2] 29 (0, 0)) := E36.heap (E33.heap B32)
      have B40 : w36.heap[w1.heap.size]? = some (.cells #[.float .f32 p1r0, .float .f32 p1r1, .float .f32 p1r2] 29 (0, 0)) := E36.heap B35
      refine da_op rfl (d_cl (vs := [.float .f64 r33, .float .f64 r36]) en57 (ac rfl (ac rfl rfl)) rfl ?_)
      refine (c57 (widen p0.z) (widen p1.z) r33 r36 m38 w36 hm38 h33 h36).mono ?_
      rintro _ w41 ⟨rfl, E41⟩
      refine ⟨_, rfl, ?_⟩
      have X42 : Ext w w41 := X37.trans E41
      refine da_op rfl (d_not rfl ?_)
      refine da_nil ?_
      refine W_cond (b := (!m38)) rfl (fun hc43 => ?_) (fun hc43 => ?_)
      · skip
        replace hr := bif_t hr hc43
        refine W_seq ?_
        refine W_region rfl ?_
        refine da_op rfl (d_as (v := .bool false) rfl ?_)
        refine da_nil ?_
        refine W_ret ?_
        subst hr
        refine ⟨_, res1 (rv_tmp rfl), ?_⟩
        exact ⟨rfl, X42⟩
      · skip
        replace hr := bif_f hr hc43
        refine W_skip ?_
        refine W_seq ?_
        refine W_region rfl ?_
        refine da_op rfl (d_as (v := .bool true) rfl ?_)
        refine da_nil ?_
        refine W_ret ?_
        subst hr
        refine ⟨_, res1 (rv_tmp rfl), ?_⟩
        exact ⟨rfl, X42⟩
set_option maxHeartbeats 4000000 in
theorem c11 (p0 : List SVector) (p1 : List SVector) (p0a : Option Addr) (p0n : Nat) (p0c : Nat) (p1a : Option Addr) (p1n : Nat) (p1c : Nat) (r : Bool) (w : World) (hr : M.laws_eqVectorS p0 p1 = some r) (p0R : RS w encSVector (Value.slice p0a p0n p0c) p0) (p1R : RS w encSVector (Value.slice p1a p1n p1c) p1) :
    Calls Try.prog 11 #[(Value.slice p0a p0n p0c), (Value.slice p1a p1n p1c)] w fun e w' => e = .returned (.bool r) ∧ Ext w w' := by
  refine calls_of_W Try.func11 rfl (Nat.le_of_ble_eq_true rfl) ?_
  refine W_seq ?_
  refine W_region rfl ?_
  refine da_op rfl (d_as (v := .bool false) rfl ?_)
  refine da_nil ?_
  refine W_seq ?_
  refine W_seq ?_
  refine W_region rfl ?_
  refine da_op rfl (d_mv (v := (Value.slice p0a p0n p0c)) rfl ?_)
  refine da_op rfl (d_len (e := encSVector) un33 rfl p0R ?_)
  refine da_op rfl (d_mv (v := (Value.slice p1a p1n p1c)) rfl ?_)
  refine da_op rfl (d_len (e := encSVector) un33 rfl p1R ?_)
  refine da_op rfl (d_icmp cNeq rfl rfl ?_)
  refine da_nil ?_
  refine W_cond (b := (icmp .neq ((p0).length : Int) ((p1).length : Int))) rfl (fun hc1 => ?_) (fun hc1 => ?_)
  · skip
    replace hr := bif_t hr hc1
    refine W_seq ?_
    refine W_region rfl ?_
    refine da_op rfl (d_as (v := .bool false) rfl ?_)
    refine da_nil ?_
    refine W_ret ?_
    obtain rfl := Option.some.inj hr
    refine ⟨_, res1 (rv_tmp rfl), ?_⟩
    exact ⟨rfl, (Ext.refl w)⟩
  · skip
    replace hr := bif_f hr hc1
    refine W_skip ?_
    refine W_seq ?_
    refine W_seq ?_
    refine W_region rfl ?_
    refine da_op rfl (d_as (v := .int .i64 0) rfl ?_)
    refine da_nil ?_
    refine W_block ?_
    obtain ⟨m2, hm2, hr⟩ := bind_out hr
    refine W_loopM hm2 (fun (s2 : Int) σ w' => σ 5 = .int .i64 s2 ∧ σ 0 = (Value.slice p0a p0n p0c) ∧ σ 1 = (Value.slice p1a p1n p1c) ∧ Ext w w') (fun (e2 : (Unit ⊕ Bool)) ex σ w' => sel e2 (fun e2 => ex = .exit 0 ∧ Ext w w') (fun e2 => ex = .ret ∧ σ 4 = .bool e2 ∧ Ext w w')) ⟨rfl, rfl, rfl, (Ext.refl w)⟩ ?_ ?_
    · skip
      rintro s2 σl2 wl2 r2l ⟨i2_S5, i2_S0, i2_S1, i2_X⟩ hr
      refine W_seq ?_
      refine W_seq ?_
      refine W_region rfl ?_
      refine da_op rfl (d_mv (v := .int .i64 s2) i2_S5 ?_)
      refine da_op rfl (d_mv (v := (Value.slice p0a p0n p0c)) i2_S0 ?_)
      have B3 : RS wl2 encSVector (Value.slice p0a p0n p0c) p0 := p0R.ext i2_X
      refine da_op rfl (d_len (e := encSVector) un33 rfl B3 ?_)
      refine da_op rfl (d_icmp cLss rfl rfl ?_)
      refine da_nil ?_
      refine W_cond (b := (icmp .lss s2 ((p0).length : Int))) rfl (fun hc4 => ?_) (fun hc4 => ?_)
      · skip
        replace hr := bif_t hr hc4
        refine W_skip ?_
        refine W_seq ?_
        refine W_block ?_
        refine W_seq ?_
        have B6 : RS wl2 encSVector (Value.slice p1a p1n p1c) p1 := p1R.ext i2_X
        obtain ⟨m7, hm7, hr⟩ := bind_out hr
        obtain ⟨m8, hm8, hr⟩ := bind_out hr
        obtain ⟨m9, hm9, hr⟩ := letv_out hr
        refine W_any [] [{ V := fun _ v _ => v = (Value.slice p0a p0n p0c) }, { V := fun _ v _ => v = (.int .i64 s2) }, { V := fun _ v _ => ∃ d5_2g : Nat, ∃ d5_2o : Nat, v = (.pointer (some ⟨d5_2g, d5_2o, none⟩)) ∧ EL encSVector (Value.slice p0a p0n p0c) (p0).length s2 d5_2g d5_2o }, { V := fun _ v _ => ∃ d5_2r0 : Nat, ∃ d5_2r1 : Nat, ∃ d5_2r2 : Nat, v = (.agg #[.float .f32 d5_2r0, .float .f32 d5_2r1, .float .f32 d5_2r2]) ∧ cn .f32 d5_2r0 = m7.x ∧ cn .f32 d5_2r1 = m7.y ∧ cn .f32 d5_2r2 = m7.z }, { V := fun _ v _ => v = (Value.slice p1a p1n p1c) }, { V := fun _ v _ => v = (.int .i64 s2) }, { V := fun _ v _ => ∃ d5_6g : Nat, ∃ d5_6o : Nat, v = (.pointer (some ⟨d5_6g, d5_6o, none⟩)) ∧ EL encSVector (Value.slice p1a p1n p1c) (p1).length s2 d5_6g d5_6o }, { V := fun _ v _ => ∃ d5_6r0 : Nat, ∃ d5_6r1 : Nat, ∃ d5_6r2 : Nat, v = (.agg #[.float .f32 d5_6r0, .float .f32 d5_6r1, .float .f32 d5_6r2]) ∧ cn .f32 d5_6r0 = m8.x ∧ cn .f32 d5_6r1 = m8.y ∧ cn .f32 d5_6r2 = m8.z }, { V := fun _ v _ => v = (.bool m9) }, { V := fun _ v _ => v = (.bool (!m9)) }] mixed (by kernel_rfl) ⟨trivial, trivial, trivial, trivial, trivial, trivial, trivial, trivial, trivial, trivial, trivial⟩ ⟨?_, ?_, ?_, ?_, ?_, ?_, ?_, ?_, ?_, ?_, trivial⟩ ?_
        · skip
          refine ⟨fun _ _ _ _ _ _ h _ => h, fun _ _ h _ => h, fun σ' w' hA hE hD hP => ?_⟩
          have t0 : σ' 0 = (Value.slice p0a p0n p0c) := (hA 0 rfl).trans i2_S0
          have B0_10 : RS w' encSVector (Value.slice p0a p0n p0c) p0 := B3.frm hE (fun k _ hk => not_oth0)
          refine dg_op rfl (d_mv (v := (Value.slice p0a p0n p0c)) t0 ?_)
          exact ⟨rfl, own_none (Ext.refl w')⟩
        · skip
          refine ⟨fun _ _ _ _ _ _ h _ => h, fun _ _ h _ => h, fun σ' w' hA hE hD hP => ?_⟩
          have t5 : σ' 5 = .int .i64 s2 := (hA 5 rfl).trans i2_S5
          refine dg_op rfl (d_mv (v := .int .i64 s2) t5 ?_)
          exact ⟨rfl, own_none (Ext.refl w')⟩
        · skip
          refine ⟨fun _ _ _ _ _ _ h _ => h, fun _ _ h _ => h, fun σ' w' hA hE hD hP => ?_⟩
          have t17 : σ' 17 = (Value.slice p0a p0n p0c) := hD 0 rfl
          have t18 : σ' 18 = (.int .i64 s2) := hD 1 rfl
          have B0_11 : RS w' encSVector (Value.slice p0a p0n p0c) p0 := B3.frm hE (fun k _ hk => not_oth0)
          refine dg_op rfl (d_indexE (e := encSVector) (v := (Value.slice p0a p0n p0c)) un33 size29 t17 t18 B0_11 hm7 fun g12 o12 l12 => ?_)
          exact ⟨⟨g12, o12, rfl, l12⟩, own_none (Ext.refl _)⟩
        · skip
          refine ⟨fun _ _ _ _ _ _ h _ => h, fun _ _ h _ => h, fun σ' w' hA hE hD hP => ?_⟩
          obtain ⟨d5_2g, d5_2o, t19, d5_2gE⟩ : ∃ d5_2g : Nat, ∃ d5_2o : Nat, σ' 19 = (.pointer (some ⟨d5_2g, d5_2o, none⟩)) ∧ EL encSVector (Value.slice p0a p0n p0c) (p0).length s2 d5_2g d5_2o := hD 2 rfl
          have B0_13 : RS w' encSVector (Value.slice p0a p0n p0c) p0 := B3.frm hE (fun k _ hk => not_oth0)
          obtain ⟨d5_2c, d5_2T, d5_2f, d5_2vs, d5_2hg, d5_2P, d5_2hq⟩ := RS.el B0_13 d5_2gE hm7
          obtain ⟨d5_2r0, d5_2r1, d5_2r2, rfl, d5_2h0, d5_2h1, d5_2h2⟩ := dec_encSVector d5_2hq
          refine dg_op rfl (d_loads (vs := #[.float .f32 d5_2r0, .float .f32 d5_2r1, .float .f32 d5_2r2]) t19 agg29 size29 d5_2hg (sub_take (vs := #[.float .f32 d5_2r0, .float .f32 d5_2r1, .float .f32 d5_2r2]) (us := #[.float .f32 d5_2r0, .float .f32 d5_2r1, .float .f32 d5_2r2]) (i := 0) d5_2P rfl (Nat.le_of_ble_eq_true rfl)) ?_)
          exact ⟨⟨d5_2r0, d5_2r1, d5_2r2, rfl, d5_2h0, d5_2h1, d5_2h2⟩, own_none (Ext.refl w')⟩
        · skip
          refine ⟨fun _ _ _ _ _ _ h _ => h, fun _ _ h _ => h, fun σ' w' hA hE hD hP => ?_⟩
          have t1 : σ' 1 = (Value.slice p1a p1n p1c) := (hA 1 rfl).trans i2_S1
          have B0_14 : RS w' encSVector (Value.slice p1a p1n p1c) p1 := B6.frm hE (fun k _ hk => not_oth0)
          refine dg_op rfl (d_mv (v := (Value.slice p1a p1n p1c)) t1 ?_)
          exact ⟨rfl, own_none (Ext.refl w')⟩
        · skip
          refine ⟨fun _ _ _ _ _ _ h _ => h, fun _ _ h _ => h, fun σ' w' hA hE hD hP => ?_⟩
          have t5 : σ' 5 = .int .i64 s2 := (hA 5 rfl).trans i2_S5
          refine dg_op rfl (d_mv (v := .int .i64 s2) t5 ?_)
          exact ⟨rfl, own_none (Ext.refl w')⟩
        · skip
          refine ⟨fun _ _ _ _ _ _ h _ => h, fun _ _ h _ => h, fun σ' w' hA hE hD hP => ?_⟩
          have t21 : σ' 21 = (Value.slice p1a p1n p1c) := hD 4 rfl
          have t22 : σ' 22 = (.int .i64 s2) := hD 5 rfl
          have B0_15 : RS w' encSVector (Value.slice p1a p1n p1c) p1 := B6.frm hE (fun k _ hk => not_oth0)
          refine dg_op rfl (d_indexE (e := encSVector) (v := (Value.slice p1a p1n p1c)) un33 size29 t21 t22 B0_15 hm8 fun g16 o16 l16 => ?_)
          exact ⟨⟨g16, o16, rfl, l16⟩, own_none (Ext.refl _)⟩
        · skip
          refine ⟨fun _ _ _ _ _ _ h _ => h, fun _ _ h _ => h, fun σ' w' hA hE hD hP => ?_⟩
          obtain ⟨d5_6g, d5_6o, t23, d5_6gE⟩ : ∃ d5_6g : Nat, ∃ d5_6o : Nat, σ' 23 = (.pointer (some ⟨d5_6g, d5_6o, none⟩)) ∧ EL encSVector (Value.slice p1a p1n p1c) (p1).length s2 d5_6g d5_6o := hD 6 rfl
          have B0_17 : RS w' encSVector (Value.slice p1a p1n p1c) p1 := B6.frm hE (fun k _ hk => not_oth0)
          obtain ⟨d5_6c, d5_6T, d5_6f, d5_6vs, d5_6hg, d5_6P, d5_6hq⟩ := RS.el B0_17 d5_6gE hm8
          obtain ⟨d5_6r0, d5_6r1, d5_6r2, rfl, d5_6h0, d5_6h1, d5_6h2⟩ := dec_encSVector d5_6hq
          refine dg_op rfl (d_loads (vs := #[.float .f32 d5_6r0, .float .f32 d5_6r1, .float .f32 d5_6r2]) t23 agg29 size29 d5_6hg (sub_take (vs := #[.float .f32 d5_6r0, .float .f32 d5_6r1, .float .f32 d5_6r2]) (us := #[.float .f32 d5_6r0, .float .f32 d5_6r1, .float .f32 d5_6r2]) (i := 0) d5_6P rfl (Nat.le_of_ble_eq_true rfl)) ?_)
          exact ⟨⟨d5_6r0, d5_6r1, d5_6r2, rfl, d5_6h0, d5_6h1, d5_6h2⟩, own_none (Ext.refl w')⟩
        · skip
          refine ⟨fun _ _ _ _ _ _ h _ => h, fun _ _ h _ => h, fun σ' w' hA hE hD hP => ?_⟩
          obtain ⟨d5_2r0, d5_2r1, d5_2r2, t20, d5_2h0, d5_2h1, d5_2h2⟩ : ∃ d5_2r0 : Nat, ∃ d5_2r1 : Nat, ∃ d5_2r2 : Nat, σ' 20 = (.agg #[.float .f32 d5_2r0, .float .f32 d5_2r1, .float .f32 d5_2r2]) ∧ cn .f32 d5_2r0 = m7.x ∧ cn .f32 d5_2r1 = m7.y ∧ cn .f32 d5_2r2 = m7.z := hD 3 rfl
          obtain ⟨d5_6r0, d5_6r1, d5_6r2, t24, d5_6h0, d5_6h1, d5_6h2⟩ : ∃ d5_6r0 : Nat, ∃ d5_6r1 : Nat, ∃ d5_6r2 : Nat, σ' 24 = (.agg #[.float .f32 d5_6r0, .float .f32 d5_6r1, .float .f32 d5_6r2]) ∧ cn .f32 d5_6r0 = m8.x ∧ cn .f32 d5_6r1 = m8.y ∧ cn .f32 d5_6r2 = m8.z := hD 7 rfl
          refine dg_op rfl (d_cl (vs := [.agg #[.float .f32 d5_2r0, .float .f32 d5_2r1, .float .f32 d5_2r2], .agg #[.float .f32 d5_6r0, .float .f32 d5_6r1, .float .f32 d5_6r2]]) en28 (ac t20 (ac t24 rfl)) rfl ?_)
          refine (c28 m7 m8 d5_2r0 d5_2r1 d5_2r2 d5_6r0 d5_6r1 d5_6r2 m9 w' hm9 d5_2h0 d5_2h1 d5_2h2 d5_6h0 d5_6h1 d5_6h2).mono ?_
          rintro _ w18 ⟨rfl, E18⟩
          refine ⟨_, rfl, ?_⟩
          have X19 : Ext w' w18 := (Ext.refl w').trans E18
          exact ⟨rfl, own_none X19⟩
        · skip
          refine ⟨fun _ _ _ _ _ _ h _ => h, fun _ _ h _ => h, fun σ' w' hA hE hD hP => ?_⟩
          have t25 : σ' 25 = (.bool m9) := hD 8 rfl
          refine dg_op rfl (d_not t25 ?_)
          exact ⟨rfl, own_none (Ext.refl w')⟩
        · skip
          intro σ5 w5 A5 E5 V5
          have E5x : Ext wl2 w5 := ext_of_oth0 E5
          have s26_5 : σ5 26 = (.bool (!m9)) := V5 9 (Nat.le_of_ble_eq_true rfl)
          have s5_5 : σ5 5 = .int .i64 s2 := (A5 5 rfl).trans i2_S5
          have s0_5 : σ5 0 = (Value.slice p0a p0n p0c) := (A5 0 rfl).trans i2_S0
          have s1_5 : σ5 1 = (Value.slice p1a p1n p1c) := (A5 1 rfl).trans i2_S1
          have X20 : Ext w w5 := i2_X.trans E5x
          refine W_cond (b := (!m9)) s26_5 (fun hc21 => ?_) (fun hc21 => ?_)
          · skip
            replace hr := bif_t hr hc21
            refine W_seq ?_
            refine W_region rfl ?_
            refine da_op rfl (d_as (v := .bool false) rfl ?_)
            refine da_nil ?_
            refine W_ret ?_
            obtain rfl := Option.some.inj hr
            exact ⟨_, rfl, rfl, rfl, X20⟩
          · skip
            replace hr := bif_f hr hc21
            refine W_skip ?_
            refine W_region rfl ?_
            refine da_op rfl (d_mv (v := .int .i64 s2) s5_5 ?_)
            refine da_op rfl (d_iarith rfl rfl (.inl ⟨rfl, rfl⟩) ?_)
            refine da_op rfl (d_as (v := .int .i64 (IntKind.i64.wrap (s2 + 1))) rfl ?_)
            refine da_nil ?_
            obtain rfl := Option.some.inj hr
            exact ⟨_, rfl, ⟨rfl, s0_5, s1_5, X20⟩⟩
      · skip
        replace hr := bif_f hr hc4
        refine W_exit ?_
        obtain rfl := Option.some.inj hr
        exact ⟨_, rfl, rfl, i2_X⟩
    · skip
      intro ex σx2 wx2 hq
      rcases m2 with m2 | m2
      · skip
        obtain ⟨rfl, q2_0_X⟩ := hq
        refine W_seq ?_
        refine W_region rfl ?_
        refine da_op rfl (d_as (v := .bool true) rfl ?_)
        refine da_nil ?_
        refine W_ret ?_
        obtain rfl := Option.some.inj hr
        refine ⟨_, res1 (rv_tmp rfl), ?_⟩
        exact ⟨rfl, q2_0_X⟩
      · skip
        obtain ⟨rfl, q2_1_S4, q2_1_X⟩ := hq
        obtain rfl := Option.some.inj hr
        refine ⟨_, res1 (rv_tmp q2_1_S4), ?_⟩
        exact ⟨rfl, q2_1_X⟩
end Go.Proofs
