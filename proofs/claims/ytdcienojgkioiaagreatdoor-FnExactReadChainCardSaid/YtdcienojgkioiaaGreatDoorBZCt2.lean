import Derived.Test.YtdcienojgkioiaaGreatDoorBZCt1
namespace Go.Proofs
open Go Go.Fl Go.RowKit Go.Rg
set_option maxRecDepth 100000
set_option linter.unusedVariables false
attribute [local irreducible] Go.Calls doAll Does DoesG W Wr
set_option maxHeartbeats 4000000 in
theorem c29 (p0 : SChain) (p0v0a : Option Addr) (p0v0n : Nat) (p0v0c : Nat) (p0v1a : Option Addr) (p0v1n : Nat) (p0v1c : Nat) (p0v2a : Option Addr) (p0v2n : Nat) (p0v2c : Nat) (p0v3a : Option Addr) (p0v3n : Nat) (p0v3c : Nat) (r : SChain × Bool) (w : World) (hr : M.spec_l03Give p0 = some r) (p0v0R : RS w encSVector (Value.slice p0v0a p0v0n p0v0c) p0.places) (p0v1R : RS w encSVector (Value.slice p0v1a p0v1n p0v1c) p0.before) (p0v2R : RS w encF_f32 (Value.slice p0v2a p0v2n p0v2c) p0.weights) (p0v3R : RS w encSRod (Value.slice p0v3a p0v3n p0v3c) p0.rods) :
    Calls Tryz.prog 29 #[.agg #[(Value.slice p0v0a p0v0n p0v0c), (Value.slice p0v1a p0v1n p0v1c), (Value.slice p0v2a p0v2n p0v2c), (Value.slice p0v3a p0v3n p0v3c)]] w fun e w' => ∃ q0v0a : Option Addr, ∃ q0v0n : Nat, ∃ q0v0c : Nat, ∃ q0v1a : Option Addr, ∃ q0v1n : Nat, ∃ q0v1c : Nat, ∃ q0v2a : Option Addr, ∃ q0v2n : Nat, ∃ q0v2c : Nat, ∃ q0v3a : Option Addr, ∃ q0v3n : Nat, ∃ q0v3c : Nat, e = .returned (.tuple #[.agg #[(Value.slice q0v0a q0v0n q0v0c), (Value.slice q0v1a q0v1n q0v1c), (Value.slice q0v2a q0v2n q0v2c), (Value.slice q0v3a q0v3n q0v3c)], .bool r.2]) ∧ Hand (Value.slice p0v0a p0v0n p0v0c) p0.places (Value.slice q0v0a q0v0n q0v0c) r.1.places ∧ Hand (Value.slice p0v1a p0v1n p0v1c) p0.before (Value.slice q0v1a q0v1n q0v1c) r.1.before ∧ Hand (Value.slice p0v2a p0v2n p0v2c) p0.weights (Value.slice q0v2a q0v2n q0v2c) r.1.weights ∧ Hand (Value.slice p0v3a p0v3n p0v3c) p0.rods (Value.slice q0v3a q0v3n q0v3c) r.1.rods ∧ Ext w w' := by
  refine calls_of_W Tryz.func29 rfl (Nat.le_of_ble_eq_true rfl) ?_
  refine W_seq ?_
  refine W_region rfl ?_
  refine da_op rfl (d_box (cs := #[(Value.slice p0v0a p0v0n p0v0c), (Value.slice p0v1a p0v1n p0v1c), (Value.slice p0v2a p0v2n p0v2c), (Value.slice p0v3a p0v3n p0v3c)]) rfl fun w1 B1 E1 => ?_)
  have own2 : w.heap.size ≤ w.heap.size := Nat.le_trans (Ext.refl w).size (Nat.le_refl _)
  have X3 : Ext w w1 := (Ext.refl w).trans E1
  refine da_op rfl (d_alloc (cs := #[.slice none 0 0, .slice none 0 0, .slice none 0 0, .slice none 0 0]) zero26 rfl fun w4 B4 E4 => ?_)
  have own5 : w.heap.size ≤ w1.heap.size := Nat.le_trans X3.size (Nat.le_refl _)
  have sp6 : w.heap.size ≠ w1.heap.size := Nat.ne_of_lt (Nat.lt_of_lt_of_le (lt_heap B1) (Nat.le_refl _))
  have X7 : Ext w w4 := X3.trans E4
  refine da_op rfl (d_as (v := .bool false) rfl ?_)
  refine da_nil ?_
  refine W_seq ?_
  refine W_seq ?_
  refine W_region rfl ?_
  obtain ⟨m8, hm8, hr⟩ := bind_out hr
  have B9 : w4.heap[w.heap.size]? = some (.cells #[(Value.slice p0v0a p0v0n p0v0c), (Value.slice p0v1a p0v1n p0v1c), (Value.slice p0v2a p0v2n p0v2c), (Value.slice p0v3a p0v3n p0v3c)] 26 (0, 0)) := E4.heap B1
  have B10 : RS w4 encSVector (Value.slice p0v0a p0v0n p0v0c) p0.places := p0v0R.ext X7
  have B11 : RS w4 encSVector (Value.slice p0v1a p0v1n p0v1c) p0.before := p0v1R.ext X7
  have B12 : RS w4 encF_f32 (Value.slice p0v2a p0v2n p0v2c) p0.weights := p0v2R.ext X7
  have B13 : RS w4 encSRod (Value.slice p0v3a p0v3n p0v3c) p0.rods := p0v3R.ext X7
  refine da_op rfl (d_cl (vs := [.pointer (some ⟨w.heap.size, 0, none⟩)]) en45 (ac rfl rfl) rfl ?_)
  refine (c45 p0 w.heap.size 0 #[(Value.slice p0v0a p0v0n p0v0c), (Value.slice p0v1a p0v1n p0v1c), (Value.slice p0v2a p0v2n p0v2c), (Value.slice p0v3a p0v3n p0v3c)] 26 (0, 0) p0v0a p0v0n p0v0c p0v1a p0v1n p0v1c p0v2a p0v2n p0v2c p0v3a p0v3n p0v3c m8 w4 hm8 B10 B11 B12 B13 B9 rfl).mono ?_
  rintro _ w14 ⟨rfl, E14⟩
  refine ⟨_, rfl, ?_⟩
  have X15 : Ext w w14 := X7.trans E14
  refine da_op rfl (d_not rfl ?_)
  refine da_nil ?_
  refine W_cond (b := (!m8)) rfl (fun hc16 => ?_) (fun hc16 => ?_)
  · skip
    replace hr := bif_t hr hc16
    refine W_seq ?_
    refine W_region rfl ?_
    refine da_op rfl (d_bd (vs := []) (cs := #[.slice none 0 0, .slice none 0 0, .slice none 0 0, .slice none 0 0]) rfl (by kernel_rfl) ?_)
    have B17 : w14.heap[w1.heap.size]? = some (.cells #[.slice none 0 0, .slice none 0 0, .slice none 0 0, .slice none 0 0] 26 (0, 0)) := E14.heap B4
    refine da_op rfl (d_store (vs := #[.slice none 0 0, .slice none 0 0, .slice none 0 0, .slice none 0 0]) rfl rfl B17 size26 (Nat.le_of_ble_eq_true rfl) rfl fun w18 S18 => ?_)
    have X19 : Ext w w18 := Ext.step X15 S18.frmb (fun k _ hk => hk ▸ own5)
    have B20 : w18.heap[w1.heap.size]? = some (.cells #[.slice none 0 0, .slice none 0 0, .slice none 0 0, .slice none 0 0] 26 (0, 0)) := S18.here
    refine da_op rfl (d_as (v := .bool false) rfl ?_)
    refine da_nil ?_
    refine W_ret ?_
    obtain rfl := Option.some.inj hr
    refine ⟨_, res2 (rv_cells (vs := #[.slice none 0 0, .slice none 0 0, .slice none 0 0, .slice none 0 0]) rfl agg26 size26 B20 rfl) (rv_tmp rfl), ?_⟩
    exact ⟨none, 0, 0, none, 0, 0, none, 0, 0, none, 0, 0, rfl, (.inr ⟨rfl, rfl⟩), (.inr ⟨rfl, rfl⟩), (.inr ⟨rfl, rfl⟩), (.inr ⟨rfl, rfl⟩), X19⟩
  · skip
    replace hr := bif_f hr hc16
    refine W_skip ?_
    refine W_seq ?_
    refine W_region rfl ?_
    have B21 : w14.heap[w.heap.size]? = some (.cells #[(Value.slice p0v0a p0v0n p0v0c), (Value.slice p0v1a p0v1n p0v1c), (Value.slice p0v2a p0v2n p0v2c), (Value.slice p0v3a p0v3n p0v3c)] 26 (0, 0)) := E14.heap B9
    refine da_op rfl (d_loads (vs := #[(Value.slice p0v0a p0v0n p0v0c), (Value.slice p0v1a p0v1n p0v1c), (Value.slice p0v2a p0v2n p0v2c), (Value.slice p0v3a p0v3n p0v3c)]) rfl agg26 size26 B21 rfl ?_)
    have B22 : w14.heap[w1.heap.size]? = some (.cells #[.slice none 0 0, .slice none 0 0, .slice none 0 0, .slice none 0 0] 26 (0, 0)) := E14.heap B4
    refine da_op rfl (d_store (vs := #[(Value.slice p0v0a p0v0n p0v0c), (Value.slice p0v1a p0v1n p0v1c), (Value.slice p0v2a p0v2n p0v2c), (Value.slice p0v3a p0v3n p0v3c)]) rfl rfl B22 size26 (Nat.le_of_ble_eq_true rfl) rfl fun w23 S23 => ?_)
    have X24 : Ext w w23 := Ext.step X15 S23.frmb (fun k _ hk => hk ▸ own5)
    have B25 : w23.heap[w1.heap.size]? = some (.cells #[(Value.slice p0v0a p0v0n p0v0c), (Value.slice p0v1a p0v1n p0v1c), (Value.slice p0v2a p0v2n p0v2c), (Value.slice p0v3a p0v3n p0v3c)] 26 (0, 0)) := S23.here
    refine da_op rfl (d_as (v := .bool true) rfl ?_)
    refine da_nil ?_
    refine W_ret ?_
    obtain rfl := Option.some.inj hr
    refine ⟨_, res2 (rv_cells (vs := #[(Value.slice p0v0a p0v0n p0v0c), (Value.slice p0v1a p0v1n p0v1c), (Value.slice p0v2a p0v2n p0v2c), (Value.slice p0v3a p0v3n p0v3c)]) rfl agg26 size26 B25 rfl) (rv_tmp rfl), ?_⟩
    exact ⟨p0v0a, p0v0n, p0v0c, p0v1a, p0v1n, p0v1c, p0v2a, p0v2n, p0v2c, p0v3a, p0v3n, p0v3c, rfl, (.inl ⟨rfl, rfl⟩), (.inl ⟨rfl, rfl⟩), (.inl ⟨rfl, rfl⟩), (.inl ⟨rfl, rfl⟩), X24⟩
set_option maxHeartbeats 4000000 in
theorem c9 (p0 : List UInt8) (r : SChain × Bool) (w : World) (hr : M.spec_l08ReadChain p0 = some r)  :
    Calls Tryz.prog 9 #[.string (bs p0)] w fun e w' => ∃ q0v0a : Option Addr, ∃ q0v0n : Nat, ∃ q0v0c : Nat, ∃ q0v1a : Option Addr, ∃ q0v1n : Nat, ∃ q0v1c : Nat, ∃ q0v2a : Option Addr, ∃ q0v2n : Nat, ∃ q0v2c : Nat, ∃ q0v3a : Option Addr, ∃ q0v3n : Nat, ∃ q0v3c : Nat, e = .returned (.tuple #[.agg #[(Value.slice q0v0a q0v0n q0v0c), (Value.slice q0v1a q0v1n q0v1c), (Value.slice q0v2a q0v2n q0v2c), (Value.slice q0v3a q0v3n q0v3c)], .bool r.2]) ∧ OS w' 57 encSVector (Value.slice q0v0a q0v0n q0v0c) r.1.places ∧ (∀ k, (Value.slice q0v0a q0v0n q0v0c).ownBlock = some k → w.heap.size ≤ k) ∧ OS w' 57 encSVector (Value.slice q0v1a q0v1n q0v1c) r.1.before ∧ (∀ k, (Value.slice q0v1a q0v1n q0v1c).ownBlock = some k → w.heap.size ≤ k) ∧ OS w' 40 encF_f32 (Value.slice q0v2a q0v2n q0v2c) r.1.weights ∧ (∀ k, (Value.slice q0v2a q0v2n q0v2c).ownBlock = some k → w.heap.size ≤ k) ∧ OS w' 42 encSRod (Value.slice q0v3a q0v3n q0v3c) r.1.rods ∧ (∀ k, (Value.slice q0v3a q0v3n q0v3c).ownBlock = some k → w.heap.size ≤ k) ∧ (∀ k, (Value.slice q0v0a q0v0n q0v0c).ownBlock = some k → ¬ (Value.slice q0v1a q0v1n q0v1c).ownBlock = some k) ∧ (∀ k, (Value.slice q0v0a q0v0n q0v0c).ownBlock = some k → ¬ (Value.slice q0v2a q0v2n q0v2c).ownBlock = some k) ∧ (∀ k, (Value.slice q0v1a q0v1n q0v1c).ownBlock = some k → ¬ (Value.slice q0v2a q0v2n q0v2c).ownBlock = some k) ∧ (∀ k, (Value.slice q0v0a q0v0n q0v0c).ownBlock = some k → ¬ (Value.slice q0v3a q0v3n q0v3c).ownBlock = some k) ∧ (∀ k, (Value.slice q0v1a q0v1n q0v1c).ownBlock = some k → ¬ (Value.slice q0v3a q0v3n q0v3c).ownBlock = some k) ∧ (∀ k, (Value.slice q0v2a q0v2n q0v2c).ownBlock = some k → ¬ (Value.slice q0v3a q0v3n q0v3c).ownBlock = some k) ∧ Ext w w' := by
  refine calls_of_W Tryz.func9 rfl (Nat.le_of_ble_eq_true rfl) ?_
  refine W_seq ?_
  refine W_region rfl ?_
  refine da_op rfl (d_alloc (cs := #[.slice none 0 0, .slice none 0 0, .slice none 0 0, .slice none 0 0]) zero26 rfl fun w1 B1 E1 => ?_)
  have own2 : w.heap.size ≤ w.heap.size := Nat.le_trans (Ext.refl w).size (Nat.le_refl _)
  have X3 : Ext w w1 := (Ext.refl w).trans E1
  refine da_op rfl (d_as (v := .bool false) rfl ?_)
  refine da_nil ?_
  refine W_seq ?_
  refine W_region rfl ?_
  refine da_op rfl (d_mv (v := .string (bs p0)) rfl ?_)
  obtain ⟨m4, hm4, hr⟩ := bind_out hr
  refine da_op rfl (d_cl (vs := [.string (bs p0), .int .u8 59]) en25 (ac rfl (ac rfl rfl)) rfl ?_)
  refine (c25 p0 59 m4 w1 hm4 ).mono ?_
  rintro _ w5 ⟨q5_0a, q5_0n, q5_0c, rfl, q5_0R, q5_0F, E5⟩
  refine ⟨_, rfl, ?_⟩
  have own6 : ∀ k, (Value.slice q5_0a q5_0n q5_0c).ownBlock = some k → w.heap.size ≤ k := fun k hk => Nat.le_trans X3.size (q5_0F k hk)
  have sp7 : ¬ (Value.slice q5_0a q5_0n q5_0c).ownBlock = some w.heap.size := ne_fresh q5_0F (lt_heap B1)
  have X8 : Ext w w5 := X3.trans E5
  refine da_op rfl (d_as (v := (Value.slice q5_0a q5_0n q5_0c)) rfl ?_)
  refine da_nil ?_
  refine W_seq ?_
  refine W_seq ?_
  refine W_region rfl ?_
  refine da_op rfl (d_mv (v := (Value.slice q5_0a q5_0n q5_0c)) rfl ?_)
  refine da_op rfl (d_len (e := encS) un32 rfl q5_0R.rs ?_)
  refine da_op rfl (d_icmp cNeq rfl rfl ?_)
  refine da_nil ?_
  refine W_cond (b := (icmp .neq ((m4).length : Int) 4)) rfl (fun hc9 => ?_) (fun hc9 => ?_)
  · skip
    replace hr := bif_t hr hc9
    refine W_seq ?_
    refine W_region rfl ?_
    refine da_op rfl (d_bd (vs := []) (cs := #[.slice none 0 0, .slice none 0 0, .slice none 0 0, .slice none 0 0]) rfl (by kernel_rfl) ?_)
    have B10 : w5.heap[w.heap.size]? = some (.cells #[.slice none 0 0, .slice none 0 0, .slice none 0 0, .slice none 0 0] 26 (0, 0)) := E5.heap B1
    refine da_op rfl (d_store (vs := #[.slice none 0 0, .slice none 0 0, .slice none 0 0, .slice none 0 0]) rfl rfl B10 size26 (Nat.le_of_ble_eq_true rfl) rfl fun w11 S11 => ?_)
    have X12 : Ext w w11 := Ext.step X8 S11.frmb (fun k _ hk => hk ▸ own2)
    have B13 : w11.heap[w.heap.size]? = some (.cells #[.slice none 0 0, .slice none 0 0, .slice none 0 0, .slice none 0 0] 26 (0, 0)) := S11.here
    refine da_op rfl (d_as (v := .bool false) rfl ?_)
    refine da_nil ?_
    refine W_ret ?_
    obtain rfl := Option.some.inj hr
    refine ⟨_, res2 (rv_cells (vs := #[.slice none 0 0, .slice none 0 0, .slice none 0 0, .slice none 0 0]) rfl agg26 size26 B13 rfl) (rv_tmp rfl), ?_⟩
    exact ⟨none, 0, 0, none, 0, 0, none, 0, 0, none, 0, 0, rfl, (OS.nil _ 57 encSVector), (fun k hk => by cases hk), (OS.nil _ 57 encSVector), (fun k hk => by cases hk), (OS.nil _ 40 encF_f32), (fun k hk => by cases hk), (OS.nil _ 42 encSRod), (fun k hk => by cases hk), (by intro k hk; cases hk), (by intro k hk; cases hk), (by intro k hk; cases hk), (by intro k hk; cases hk), (by intro k hk; cases hk), (by intro k hk; cases hk), X12⟩
  · skip
    replace hr := bif_f hr hc9
    refine W_skip ?_
    refine W_seq ?_
    refine W_region rfl ?_
    refine da_op rfl (d_mv (v := (Value.slice q5_0a q5_0n q5_0c)) rfl ?_)
    obtain ⟨m14, hm14, hr⟩ := bind_out hr
    refine da_op rfl (d_indexO (e := encS) (v := (Value.slice q5_0a q5_0n q5_0c)) un32 size9 rfl rfl q5_0R hm14 fun g15 fr15 cu15 vs15 hv15 hg15 hp15 hq15 => ?_)
    obtain rfl := dec_encS hq15
    have sp16 : g15 ≠ w.heap.size := fun e => sp7 (by rw [hv15, e]; rfl)
    refine da_op rfl (d_load (v := .string (bs m14)) rfl agg9 hg15 (sub_get (vs := #[.string (bs m14)]) hp15 (i := 0) rfl) ?_)
    obtain ⟨m17, hm17, hr⟩ := bind_out hr
    have B18 : w5.heap[w.heap.size]? = some (.cells #[.slice none 0 0, .slice none 0 0, .slice none 0 0, .slice none 0 0] 26 (0, 0)) := E5.heap B1
    refine da_op rfl (d_cl (vs := [.string (bs m14)]) en26 (ac rfl rfl) rfl ?_)
    refine (c26 m14 m17 w5 hm17 ).mono ?_
    rintro _ w19 ⟨q19_0a, q19_0n, q19_0c, rfl, q19_0R, q19_0F, E19⟩
    refine ⟨_, rfl, ?_⟩
    have own20 : ∀ k, (Value.slice q19_0a q19_0n q19_0c).ownBlock = some k → w.heap.size ≤ k := fun k hk => Nat.le_trans X8.size (q19_0F k hk)
    have sp21 : ¬ (Value.slice q19_0a q19_0n q19_0c).ownBlock = some w.heap.size := ne_fresh q19_0F (lt_heap B18)
    have sp22 : ∀ k, (Value.slice q5_0a q5_0n q5_0c).ownBlock = some k → ¬ (Value.slice q19_0a q19_0n q19_0c).ownBlock = some k := apart_fresh q5_0R q19_0F
    have sp23 : ¬ (Value.slice q19_0a q19_0n q19_0c).ownBlock = some g15 := ne_fresh q19_0F (lt_heap hg15)
    have X24 : Ext w w19 := X8.trans E19
    refine da_op rfl (d_mv (v := .tuple #[(Value.slice q19_0a q19_0n q19_0c), .bool m17.2]) rfl ?_)
    refine da_op rfl (d_extract (v := (Value.slice q19_0a q19_0n q19_0c)) rfl rfl ?_)
    refine da_op rfl (d_extract (v := .bool m17.2) rfl rfl ?_)
    refine da_op rfl (d_as (v := (Value.slice q19_0a q19_0n q19_0c)) rfl ?_)
    refine da_op rfl (d_as (v := .bool m17.2) rfl ?_)
    refine da_nil ?_
    refine W_seq ?_
    refine W_region rfl ?_
    refine da_op rfl (d_mv (v := (Value.slice q5_0a q5_0n q5_0c)) rfl ?_)
    obtain ⟨m25, hm25, hr⟩ := bind_out hr
    have B27 : OS w19 9 encS (Value.slice q5_0a q5_0n q5_0c) m4 := q5_0R.ext E19
    refine da_op rfl (d_indexO (e := encS) (v := (Value.slice q5_0a q5_0n q5_0c)) un32 size9 rfl rfl B27 hm25 fun g26 fr26 cu26 vs26 hv26 hg26 hp26 hq26 => ?_)
    obtain rfl := dec_encS hq26
    have sp28 : g26 ≠ w.heap.size := fun e => sp7 (by rw [hv26, e]; rfl)
    have sp29 : ¬ (Value.slice q19_0a q19_0n q19_0c).ownBlock = some g26 := fun e => (apart_symm sp22) _ e (by rw [hv26]; rfl)
    refine da_op rfl (d_load (v := .string (bs m25)) rfl agg9 hg26 (sub_get (vs := #[.string (bs m25)]) hp26 (i := 0) rfl) ?_)
    obtain ⟨m30, hm30, hr⟩ := bind_out hr
    have B31 : w19.heap[w.heap.size]? = some (.cells #[.slice none 0 0, .slice none 0 0, .slice none 0 0, .slice none 0 0] 26 (0, 0)) := E19.heap B18
    refine da_op rfl (d_cl (vs := [.string (bs m25)]) en26 (ac rfl rfl) rfl ?_)
    refine (c26 m25 m30 w19 hm30 ).mono ?_
    rintro _ w32 ⟨q32_0a, q32_0n, q32_0c, rfl, q32_0R, q32_0F, E32⟩
    refine ⟨_, rfl, ?_⟩
    have own33 : ∀ k, (Value.slice q32_0a q32_0n q32_0c).ownBlock = some k → w.heap.size ≤ k := fun k hk => Nat.le_trans X24.size (q32_0F k hk)
    have sp34 : ¬ (Value.slice q32_0a q32_0n q32_0c).ownBlock = some w.heap.size := ne_fresh q32_0F (lt_heap B31)
    have sp35 : ∀ k, (Value.slice q5_0a q5_0n q5_0c).ownBlock = some k → ¬ (Value.slice q32_0a q32_0n q32_0c).ownBlock = some k := apart_fresh B27 q32_0F
    have sp36 : ∀ k, (Value.slice q19_0a q19_0n q19_0c).ownBlock = some k → ¬ (Value.slice q32_0a q32_0n q32_0c).ownBlock = some k := apart_fresh q19_0R q32_0F
    have sp37 : ¬ (Value.slice q32_0a q32_0n q32_0c).ownBlock = some g26 := ne_fresh q32_0F (lt_heap hg26)
    have X38 : Ext w w32 := X24.trans E32
    refine da_op rfl (d_mv (v := .tuple #[(Value.slice q32_0a q32_0n q32_0c), .bool m30.2]) rfl ?_)
    refine da_op rfl (d_extract (v := (Value.slice q32_0a q32_0n q32_0c)) rfl rfl ?_)
    refine da_op rfl (d_extract (v := .bool m30.2) rfl rfl ?_)
    refine da_op rfl (d_as (v := (Value.slice q32_0a q32_0n q32_0c)) rfl ?_)
    refine da_op rfl (d_as (v := .bool m30.2) rfl ?_)
    refine da_nil ?_
    refine W_seq ?_
    refine W_region rfl ?_
    refine da_op rfl (d_mv (v := (Value.slice q5_0a q5_0n q5_0c)) rfl ?_)
    obtain ⟨m39, hm39, hr⟩ := bind_out hr
    have B41 : OS w32 9 encS (Value.slice q5_0a q5_0n q5_0c) m4 := B27.ext E32
    refine da_op rfl (d_indexO (e := encS) (v := (Value.slice q5_0a q5_0n q5_0c)) un32 size9 rfl rfl B41 hm39 fun g40 fr40 cu40 vs40 hv40 hg40 hp40 hq40 => ?_)
    obtain rfl := dec_encS hq40
    have sp42 : g40 ≠ w.heap.size := fun e => sp7 (by rw [hv40, e]; rfl)
    have sp43 : ¬ (Value.slice q19_0a q19_0n q19_0c).ownBlock = some g40 := fun e => (apart_symm sp22) _ e (by rw [hv40]; rfl)
    have sp44 : ¬ (Value.slice q32_0a q32_0n q32_0c).ownBlock = some g40 := fun e => (apart_symm sp35) _ e (by rw [hv40]; rfl)
    refine da_op rfl (d_load (v := .string (bs m39)) rfl agg9 hg40 (sub_get (vs := #[.string (bs m39)]) hp40 (i := 0) rfl) ?_)
    obtain ⟨m45, hm45, hr⟩ := bind_out hr
    have B46 : w32.heap[w.heap.size]? = some (.cells #[.slice none 0 0, .slice none 0 0, .slice none 0 0, .slice none 0 0] 26 (0, 0)) := E32.heap B31
    have B47 : OS w32 57 encSVector (Value.slice q19_0a q19_0n q19_0c) m17.1 := q19_0R.ext E32
    refine da_op rfl (d_cl (vs := [.string (bs m39)]) en27 (ac rfl rfl) rfl ?_)
    refine (c27 m39 m45 w32 hm45 ).mono ?_
    rintro _ w48 ⟨q48_0a, q48_0n, q48_0c, rfl, q48_0R, q48_0F, E48⟩
    refine ⟨_, rfl, ?_⟩
    have own49 : ∀ k, (Value.slice q48_0a q48_0n q48_0c).ownBlock = some k → w.heap.size ≤ k := fun k hk => Nat.le_trans X38.size (q48_0F k hk)
    have sp50 : ¬ (Value.slice q48_0a q48_0n q48_0c).ownBlock = some w.heap.size := ne_fresh q48_0F (lt_heap B46)
    have sp51 : ∀ k, (Value.slice q5_0a q5_0n q5_0c).ownBlock = some k → ¬ (Value.slice q48_0a q48_0n q48_0c).ownBlock = some k := apart_fresh B41 q48_0F
    have sp52 : ∀ k, (Value.slice q19_0a q19_0n q19_0c).ownBlock = some k → ¬ (Value.slice q48_0a q48_0n q48_0c).ownBlock = some k := apart_fresh B47 q48_0F
    have sp53 : ∀ k, (Value.slice q32_0a q32_0n q32_0c).ownBlock = some k → ¬ (Value.slice q48_0a q48_0n q48_0c).ownBlock = some k := apart_fresh q32_0R q48_0F
    have sp54 : ¬ (Value.slice q48_0a q48_0n q48_0c).ownBlock = some g40 := ne_fresh q48_0F (lt_heap hg40)
    have X55 : Ext w w48 := X38.trans E48
    refine da_op rfl (d_mv (v := .tuple #[(Value.slice q48_0a q48_0n q48_0c), .bool m45.2]) rfl ?_)
    refine da_op rfl (d_extract (v := (Value.slice q48_0a q48_0n q48_0c)) rfl rfl ?_)
    refine da_op rfl (d_extract (v := .bool m45.2) rfl rfl ?_)
    refine da_op rfl (d_as (v := (Value.slice q48_0a q48_0n q48_0c)) rfl ?_)
    refine da_op rfl (d_as (v := .bool m45.2) rfl ?_)
    refine da_nil ?_
    refine W_seq ?_
    refine W_region rfl ?_
    refine da_op rfl (d_mv (v := (Value.slice q5_0a q5_0n q5_0c)) rfl ?_)
    obtain ⟨m56, hm56, hr⟩ := bind_out hr
    have B58 : OS w48 9 encS (Value.slice q5_0a q5_0n q5_0c) m4 := B41.ext E48
    refine da_op rfl (d_indexO (e := encS) (v := (Value.slice q5_0a q5_0n q5_0c)) un32 size9 rfl rfl B58 hm56 fun g57 fr57 cu57 vs57 hv57 hg57 hp57 hq57 => ?_)
    obtain rfl := dec_encS hq57
    have sp59 : g57 ≠ w.heap.size := fun e => sp7 (by rw [hv57, e]; rfl)
    have sp60 : ¬ (Value.slice q19_0a q19_0n q19_0c).ownBlock = some g57 := fun e => (apart_symm sp22) _ e (by rw [hv57]; rfl)
    have sp61 : ¬ (Value.slice q32_0a q32_0n q32_0c).ownBlock = some g57 := fun e => (apart_symm sp35) _ e (by rw [hv57]; rfl)
    have sp62 : ¬ (Value.slice q48_0a q48_0n q48_0c).ownBlock = some g57 := fun e => (apart_symm sp51) _ e (by rw [hv57]; rfl)
    refine da_op rfl (d_load (v := .string (bs m56)) rfl agg9 hg57 (sub_get (vs := #[.string (bs m56)]) hp57 (i := 0) rfl) ?_)
    obtain ⟨m63, hm63, hr⟩ := bind_out hr
    have B64 : w48.heap[w.heap.size]? = some (.cells #[.slice none 0 0, .slice none 0 0, .slice none 0 0, .slice none 0 0] 26 (0, 0)) := E48.heap B46
    have B65 : OS w48 57 encSVector (Value.slice q19_0a q19_0n q19_0c) m17.1 := B47.ext E48
    have B66 : OS w48 57 encSVector (Value.slice q32_0a q32_0n q32_0c) m30.1 := q32_0R.ext E48
    refine da_op rfl (d_cl (vs := [.string (bs m56)]) en28 (ac rfl rfl) rfl ?_)
    refine (c28 m56 m63 w48 hm63 ).mono ?_
    rintro _ w67 ⟨q67_0a, q67_0n, q67_0c, rfl, q67_0R, q67_0F, E67⟩
    refine ⟨_, rfl, ?_⟩
    have own68 : ∀ k, (Value.slice q67_0a q67_0n q67_0c).ownBlock = some k → w.heap.size ≤ k := fun k hk => Nat.le_trans X55.size (q67_0F k hk)
    have sp69 : ¬ (Value.slice q67_0a q67_0n q67_0c).ownBlock = some w.heap.size := ne_fresh q67_0F (lt_heap B64)
    have sp70 : ∀ k, (Value.slice q5_0a q5_0n q5_0c).ownBlock = some k → ¬ (Value.slice q67_0a q67_0n q67_0c).ownBlock = some k := apart_fresh B58 q67_0F
    have sp71 : ∀ k, (Value.slice q19_0a q19_0n q19_0c).ownBlock = some k → ¬ (Value.slice q67_0a q67_0n q67_0c).ownBlock = some k := apart_fresh B65 q67_0F
    have sp72 : ∀ k, (Value.slice q32_0a q32_0n q32_0c).ownBlock = some k → ¬ (Value.slice q67_0a q67_0n q67_0c).ownBlock = some k := apart_fresh B66 q67_0F
    have sp73 : ∀ k, (Value.slice q48_0a q48_0n q48_0c).ownBlock = some k → ¬ (Value.slice q67_0a q67_0n q67_0c).ownBlock = some k := apart_fresh q48_0R q67_0F
    have sp74 : ¬ (Value.slice q67_0a q67_0n q67_0c).ownBlock = some g57 := ne_fresh q67_0F (lt_heap hg57)
    have X75 : Ext w w67 := X55.trans E67
    refine da_op rfl (d_mv (v := .tuple #[(Value.slice q67_0a q67_0n q67_0c), .bool m63.2]) rfl ?_)
    refine da_op rfl (d_extract (v := (Value.slice q67_0a q67_0n q67_0c)) rfl rfl ?_)
    refine da_op rfl (d_extract (v := .bool m63.2) rfl rfl ?_)
    refine da_op rfl (d_as (v := (Value.slice q67_0a q67_0n q67_0c)) rfl ?_)
    refine da_op rfl (d_as (v := .bool m63.2) rfl ?_)
    refine da_nil ?_
    refine W_seq ?_
    refine W_seq ?_
    have B77 : w67.heap[w.heap.size]? = some (.cells #[.slice none 0 0, .slice none 0 0, .slice none 0 0, .slice none 0 0] 26 (0, 0)) := E67.heap B64
    have B78 : OS w67 57 encSVector (Value.slice q19_0a q19_0n q19_0c) m17.1 := B65.ext E67
    have B79 : OS w67 57 encSVector (Value.slice q32_0a q32_0n q32_0c) m30.1 := B66.ext E67
    have B80 : OS w67 40 encF_f32 (Value.slice q48_0a q48_0n q48_0c) m45.1 := q48_0R.ext E67
    obtain ⟨m76, hm76, hr⟩ := letv_out hr
    refine W_cut (fun σ' w' => σ' 60 = .bool m76 ∧ Ext w67 w') rfl ?_ ?_
    · skip
      have hr := hm76
      refine da_op rfl (d_mv (v := .bool m17.2) rfl ?_)
      refine da_op rfl (d_not rfl ?_)
      refine da_op rfl (d_mv (v := .bool (!m17.2)) rfl ?_)
      rcases Bool.eq_false_or_eq_true m17.2 with hc81 | hc81
      · skip
        replace hr := bif_t hr hc81
        refine da_on rfl (Eq.trans (show sl _ _ _ = .bool (!m17.2) from rfl) (congrArg Value.bool (congrArg not hc81))) (d_mv (v := .bool m30.2) rfl ?_)
        refine da_on rfl (Eq.trans (show sl _ _ _ = .bool (!m17.2) from rfl) (congrArg Value.bool (congrArg not hc81))) (d_not rfl ?_)
        refine da_op rfl (d_pick (b := false) (Eq.trans (show ev _ _ = .bool (!m17.2) from rfl) (congrArg Value.bool (congrArg not hc81))) ?_)
        refine da_op rfl (d_mv (v := .bool (!m30.2)) rfl ?_)
        rcases Bool.eq_false_or_eq_true m30.2 with hc82 | hc82
        · skip
          replace hr := bif_t hr hc82
          refine da_on rfl (Eq.trans (show sl _ _ _ = .bool (!m30.2) from rfl) (congrArg Value.bool (congrArg not hc82))) (d_mv (v := .bool m45.2) rfl ?_)
          refine da_on rfl (Eq.trans (show sl _ _ _ = .bool (!m30.2) from rfl) (congrArg Value.bool (congrArg not hc82))) (d_not rfl ?_)
          refine da_op rfl (d_pick (b := false) (Eq.trans (show ev _ _ = .bool (!m30.2) from rfl) (congrArg Value.bool (congrArg not hc82))) ?_)
          refine da_op rfl (d_mv (v := .bool (!m45.2)) rfl ?_)
          rcases Bool.eq_false_or_eq_true m45.2 with hc83 | hc83
          · skip
            replace hr := bif_t hr hc83
            refine da_on rfl (Eq.trans (show sl _ _ _ = .bool (!m45.2) from rfl) (congrArg Value.bool (congrArg not hc83))) (d_mv (v := .bool m63.2) rfl ?_)
            refine da_on rfl (Eq.trans (show sl _ _ _ = .bool (!m45.2) from rfl) (congrArg Value.bool (congrArg not hc83))) (d_not rfl ?_)
            refine da_op rfl (d_pick (b := false) (Eq.trans (show ev _ _ = .bool (!m45.2) from rfl) (congrArg Value.bool (congrArg not hc83))) ?_)
            refine da_nil ?_
            subst hr
            exact ⟨rfl, (Ext.refl w67)⟩
          · skip
            replace hr := bif_f hr hc83
            refine da_off rfl (Eq.trans (show sl _ _ _ = .bool (!m45.2) from rfl) (congrArg Value.bool (congrArg not hc83))) (by decide) ?_
            refine da_off rfl (Eq.trans (show sl _ _ _ = .bool (!m45.2) from rfl) (congrArg Value.bool (congrArg not hc83))) (by decide) ?_
            refine da_op rfl (d_pick (b := true) (Eq.trans (show ev _ _ = .bool (!m45.2) from rfl) (congrArg Value.bool (congrArg not hc83))) ?_)
            refine da_nil ?_
            subst hr
            exact ⟨rfl, (Ext.refl w67)⟩
        · skip
          replace hr := bif_f hr hc82
          refine da_off rfl (Eq.trans (show sl _ _ _ = .bool (!m30.2) from rfl) (congrArg Value.bool (congrArg not hc82))) (by decide) ?_
          refine da_off rfl (Eq.trans (show sl _ _ _ = .bool (!m30.2) from rfl) (congrArg Value.bool (congrArg not hc82))) (by decide) ?_
          refine da_op rfl (d_pick (b := true) (Eq.trans (show ev _ _ = .bool (!m30.2) from rfl) (congrArg Value.bool (congrArg not hc82))) ?_)
          refine da_op rfl (d_mv (v := .bool true) rfl ?_)
          refine da_off rfl rfl (by decide) ?_
          refine da_off rfl rfl (by decide) ?_
          refine da_op rfl (d_pick (b := true) rfl ?_)
          refine da_nil ?_
          subst hr
          exact ⟨rfl, (Ext.refl w67)⟩
      · skip
        replace hr := bif_f hr hc81
        refine da_off rfl (Eq.trans (show sl _ _ _ = .bool (!m17.2) from rfl) (congrArg Value.bool (congrArg not hc81))) (by decide) ?_
        refine da_off rfl (Eq.trans (show sl _ _ _ = .bool (!m17.2) from rfl) (congrArg Value.bool (congrArg not hc81))) (by decide) ?_
        refine da_op rfl (d_pick (b := true) (Eq.trans (show ev _ _ = .bool (!m17.2) from rfl) (congrArg Value.bool (congrArg not hc81))) ?_)
        refine da_op rfl (d_mv (v := .bool true) rfl ?_)
        refine da_off rfl rfl (by decide) ?_
        refine da_off rfl rfl (by decide) ?_
        refine da_op rfl (d_pick (b := true) rfl ?_)
        refine da_op rfl (d_mv (v := .bool true) rfl ?_)
        refine da_off rfl rfl (by decide) ?_
        refine da_off rfl rfl (by decide) ?_
        refine da_op rfl (d_pick (b := true) rfl ?_)
        refine da_nil ?_
        subst hr
        exact ⟨rfl, (Ext.refl w67)⟩
    · skip
      rintro σ76 w76 o76 ⟨s60_76, E76⟩
      have s2_76 : σ76 2 = .pointer (some ⟨w.heap.size, 0, none⟩) := (o76 2 rfl).trans rfl
      have s5_76 : σ76 5 = (Value.slice q19_0a q19_0n q19_0c) := (o76 5 rfl).trans rfl
      have s7_76 : σ76 7 = (Value.slice q32_0a q32_0n q32_0c) := (o76 7 rfl).trans rfl
      have s9_76 : σ76 9 = (Value.slice q48_0a q48_0n q48_0c) := (o76 9 rfl).trans rfl
      have s11_76 : σ76 11 = (Value.slice q67_0a q67_0n q67_0c) := (o76 11 rfl).trans rfl
      have X84 : Ext w w76 := X75.trans E76
      refine W_cond (b := m76) s60_76 (fun hc85 => ?_) (fun hc85 => ?_)
      · skip
        replace hr := bif_t hr hc85
        refine W_seq ?_
        refine W_region rfl ?_
        refine da_op rfl (d_bd (vs := []) (cs := #[.slice none 0 0, .slice none 0 0, .slice none 0 0, .slice none 0 0]) rfl (by kernel_rfl) ?_)
        have B86 : w76.heap[w.heap.size]? = some (.cells #[.slice none 0 0, .slice none 0 0, .slice none 0 0, .slice none 0 0] 26 (0, 0)) := E76.heap B77
        refine da_op rfl (d_store (vs := #[.slice none 0 0, .slice none 0 0, .slice none 0 0, .slice none 0 0]) s2_76 rfl B86 size26 (Nat.le_of_ble_eq_true rfl) rfl fun w87 S87 => ?_)
        have X88 : Ext w w87 := Ext.step X84 S87.frmb (fun k _ hk => hk ▸ own2)
        have B89 : w87.heap[w.heap.size]? = some (.cells #[.slice none 0 0, .slice none 0 0, .slice none 0 0, .slice none 0 0] 26 (0, 0)) := S87.here
        refine da_op rfl (d_as (v := .bool false) rfl ?_)
        refine da_nil ?_
        refine W_ret ?_
        obtain rfl := Option.some.inj hr
        refine ⟨_, res2 (rv_cells (vs := #[.slice none 0 0, .slice none 0 0, .slice none 0 0, .slice none 0 0]) s2_76 agg26 size26 B89 rfl) (rv_tmp rfl), ?_⟩
        exact ⟨none, 0, 0, none, 0, 0, none, 0, 0, none, 0, 0, rfl, (OS.nil _ 57 encSVector), (fun k hk => by cases hk), (OS.nil _ 57 encSVector), (fun k hk => by cases hk), (OS.nil _ 40 encF_f32), (fun k hk => by cases hk), (OS.nil _ 42 encSRod), (fun k hk => by cases hk), (by intro k hk; cases hk), (by intro k hk; cases hk), (by intro k hk; cases hk), (by intro k hk; cases hk), (by intro k hk; cases hk), (by intro k hk; cases hk), X88⟩
      · skip
        replace hr := bif_f hr hc85
        refine W_skip ?_
        refine W_seq ?_
        refine W_region rfl ?_
        refine da_op rfl (d_mv (v := (Value.slice q19_0a q19_0n q19_0c)) s5_76 ?_)
        refine da_op rfl (d_mv (v := (Value.slice q32_0a q32_0n q32_0c)) s7_76 ?_)
        refine da_op rfl (d_mv (v := (Value.slice q48_0a q48_0n q48_0c)) s9_76 ?_)
        refine da_op rfl (d_mv (v := (Value.slice q67_0a q67_0n q67_0c)) s11_76 ?_)
        refine da_op rfl (d_bd (vs := [(0, (Value.slice q19_0a q19_0n q19_0c)), (1, (Value.slice q32_0a q32_0n q32_0c)), (2, (Value.slice q48_0a q48_0n q48_0c)), (3, (Value.slice q67_0a q67_0n q67_0c))]) (cs := #[(Value.slice q19_0a q19_0n q19_0c), (Value.slice q32_0a q32_0n q32_0c), (Value.slice q48_0a q48_0n q48_0c), (Value.slice q67_0a q67_0n q67_0c)]) (pc rfl (pc rfl (pc rfl (pc rfl rfl)))) (by kernel_rfl) ?_)
        obtain ⟨m90, hm90, hr⟩ := bind_out hr
        have B91 : OS w76 57 encSVector (Value.slice q19_0a q19_0n q19_0c) m17.1 := B78.ext E76
        have B92 : OS w76 57 encSVector (Value.slice q32_0a q32_0n q32_0c) m30.1 := B79.ext E76
        have B93 : OS w76 40 encF_f32 (Value.slice q48_0a q48_0n q48_0c) m45.1 := B80.ext E76
        have B94 : OS w76 42 encSRod (Value.slice q67_0a q67_0n q67_0c) m63.1 := q67_0R.ext E76
        have B95 : w76.heap[w.heap.size]? = some (.cells #[.slice none 0 0, .slice none 0 0, .slice none 0 0, .slice none 0 0] 26 (0, 0)) := E76.heap B77
        refine da_op rfl (d_cl (vs := [.agg #[(Value.slice q19_0a q19_0n q19_0c), (Value.slice q32_0a q32_0n q32_0c), (Value.slice q48_0a q48_0n q48_0c), (Value.slice q67_0a q67_0n q67_0c)]]) en29 (ac rfl rfl) rfl ?_)
        refine (c29 (⟨m17.1, m30.1, m45.1, m63.1⟩ : SChain) q19_0a q19_0n q19_0c q32_0a q32_0n q32_0c q48_0a q48_0n q48_0c q67_0a q67_0n q67_0c m90 w76 hm90 B91.rs B92.rs B93.rs B94.rs).mono ?_
        rintro _ w96 ⟨q96_0v0a, q96_0v0n, q96_0v0c, q96_0v1a, q96_0v1n, q96_0v1c, q96_0v2a, q96_0v2n, q96_0v2c, q96_0v3a, q96_0v3n, q96_0v3c, rfl, q96_0v0H, q96_0v1H, q96_0v2H, q96_0v3H, E96⟩
        refine ⟨_, rfl, ?_⟩
        have X97 : Ext w w96 := X84.trans E96
        have B99 : OS w96 57 encSVector (Value.slice q19_0a q19_0n q19_0c) m17.1 := B91.ext E96
        have O98 : OS w96 57 encSVector (Value.slice q96_0v0a q96_0v0n q96_0v0c) m90.1.places := Hand.os q96_0v0H B99
        have B101 : OS w96 57 encSVector (Value.slice q32_0a q32_0n q32_0c) m30.1 := B92.ext E96
        have O100 : OS w96 57 encSVector (Value.slice q96_0v1a q96_0v1n q96_0v1c) m90.1.before := Hand.os q96_0v1H B101
        have B103 : OS w96 40 encF_f32 (Value.slice q48_0a q48_0n q48_0c) m45.1 := B93.ext E96
        have O102 : OS w96 40 encF_f32 (Value.slice q96_0v2a q96_0v2n q96_0v2c) m90.1.weights := Hand.os q96_0v2H B103
        have B105 : OS w96 42 encSRod (Value.slice q67_0a q67_0n q67_0c) m63.1 := B94.ext E96
        have O104 : OS w96 42 encSRod (Value.slice q96_0v3a q96_0v3n q96_0v3c) m90.1.rods := Hand.os q96_0v3H B105
        refine da_op rfl (d_extract (v := .agg #[(Value.slice q96_0v0a q96_0v0n q96_0v0c), (Value.slice q96_0v1a q96_0v1n q96_0v1c), (Value.slice q96_0v2a q96_0v2n q96_0v2c), (Value.slice q96_0v3a q96_0v3n q96_0v3c)]) rfl rfl ?_)
        refine da_op rfl (d_extract (v := .bool m90.2) rfl rfl ?_)
        have B106 : w96.heap[w.heap.size]? = some (.cells #[.slice none 0 0, .slice none 0 0, .slice none 0 0, .slice none 0 0] 26 (0, 0)) := E96.heap B95
        refine da_op rfl (d_store (vs := #[(Value.slice q96_0v0a q96_0v0n q96_0v0c), (Value.slice q96_0v1a q96_0v1n q96_0v1c), (Value.slice q96_0v2a q96_0v2n q96_0v2c), (Value.slice q96_0v3a q96_0v3n q96_0v3c)]) s2_76 rfl B106 size26 (Nat.le_of_ble_eq_true rfl) rfl fun w107 S107 => ?_)
        have X108 : Ext w w107 := Ext.step X97 S107.frmb (fun k _ hk => hk ▸ own2)
        have B109 : w107.heap[w.heap.size]? = some (.cells #[(Value.slice q96_0v0a q96_0v0n q96_0v0c), (Value.slice q96_0v1a q96_0v1n q96_0v1c), (Value.slice q96_0v2a q96_0v2n q96_0v2c), (Value.slice q96_0v3a q96_0v3n q96_0v3c)] 26 (0, 0)) := S107.here
        refine da_op rfl (d_as (v := .bool m90.2) rfl ?_)
        refine da_nil ?_
        refine W_ret ?_
        have B110 : OS w107 57 encSVector (Value.slice q96_0v0a q96_0v0n q96_0v0c) m90.1.places := O98.frm S107.frmb (rb (Hand.nb q96_0v0H sp21))
        have B111 : OS w107 57 encSVector (Value.slice q96_0v1a q96_0v1n q96_0v1c) m90.1.before := O100.frm S107.frmb (rb (Hand.nb q96_0v1H sp34))
        have B112 : OS w107 40 encF_f32 (Value.slice q96_0v2a q96_0v2n q96_0v2c) m90.1.weights := O102.frm S107.frmb (rb (Hand.nb q96_0v2H sp50))
        have B113 : OS w107 42 encSRod (Value.slice q96_0v3a q96_0v3n q96_0v3c) m90.1.rods := O104.frm S107.frmb (rb (Hand.nb q96_0v3H sp69))
        obtain rfl := Option.some.inj hr
        refine ⟨_, res2 (rv_cells (vs := #[(Value.slice q96_0v0a q96_0v0n q96_0v0c), (Value.slice q96_0v1a q96_0v1n q96_0v1c), (Value.slice q96_0v2a q96_0v2n q96_0v2c), (Value.slice q96_0v3a q96_0v3n q96_0v3c)]) s2_76 agg26 size26 B109 rfl) (rv_tmp rfl), ?_⟩
        exact ⟨q96_0v0a, q96_0v0n, q96_0v0c, q96_0v1a, q96_0v1n, q96_0v1c, q96_0v2a, q96_0v2n, q96_0v2c, q96_0v3a, q96_0v3n, q96_0v3c, rfl, B110, (Hand.own q96_0v0H own20), B111, (Hand.own q96_0v1H own33), B112, (Hand.own q96_0v2H own49), B113, (Hand.own q96_0v3H own68), (Hand.nr q96_0v0H (Hand.nr2 q96_0v1H sp36)), (Hand.nr q96_0v0H (Hand.nr2 q96_0v2H sp52)), (Hand.nr q96_0v1H (Hand.nr2 q96_0v2H sp53)), (Hand.nr q96_0v0H (Hand.nr2 q96_0v3H sp71)), (Hand.nr q96_0v1H (Hand.nr2 q96_0v3H sp72)), (Hand.nr q96_0v2H (Hand.nr2 q96_0v3H sp73)), X108⟩
set_option maxHeartbeats 4000000 in
theorem c4 (p0 : List UInt8) (r : SChain × Bool) (w : World) (hr : M.spec_ReadChain p0 = some r)  :
    Calls Tryz.prog 4 #[.string (bs p0)] w fun e w' => ∃ q0v0a : Option Addr, ∃ q0v0n : Nat, ∃ q0v0c : Nat, ∃ q0v1a : Option Addr, ∃ q0v1n : Nat, ∃ q0v1c : Nat, ∃ q0v2a : Option Addr, ∃ q0v2n : Nat, ∃ q0v2c : Nat, ∃ q0v3a : Option Addr, ∃ q0v3n : Nat, ∃ q0v3c : Nat, e = .returned (.tuple #[.agg #[(Value.slice q0v0a q0v0n q0v0c), (Value.slice q0v1a q0v1n q0v1c), (Value.slice q0v2a q0v2n q0v2c), (Value.slice q0v3a q0v3n q0v3c)], .bool r.2]) ∧ OS w' 57 encSVector (Value.slice q0v0a q0v0n q0v0c) r.1.places ∧ (∀ k, (Value.slice q0v0a q0v0n q0v0c).ownBlock = some k → w.heap.size ≤ k) ∧ OS w' 57 encSVector (Value.slice q0v1a q0v1n q0v1c) r.1.before ∧ (∀ k, (Value.slice q0v1a q0v1n q0v1c).ownBlock = some k → w.heap.size ≤ k) ∧ OS w' 40 encF_f32 (Value.slice q0v2a q0v2n q0v2c) r.1.weights ∧ (∀ k, (Value.slice q0v2a q0v2n q0v2c).ownBlock = some k → w.heap.size ≤ k) ∧ OS w' 42 encSRod (Value.slice q0v3a q0v3n q0v3c) r.1.rods ∧ (∀ k, (Value.slice q0v3a q0v3n q0v3c).ownBlock = some k → w.heap.size ≤ k) ∧ (∀ k, (Value.slice q0v0a q0v0n q0v0c).ownBlock = some k → ¬ (Value.slice q0v1a q0v1n q0v1c).ownBlock = some k) ∧ (∀ k, (Value.slice q0v0a q0v0n q0v0c).ownBlock = some k → ¬ (Value.slice q0v2a q0v2n q0v2c).ownBlock = some k) ∧ (∀ k, (Value.slice q0v1a q0v1n q0v1c).ownBlock = some k → ¬ (Value.slice q0v2a q0v2n q0v2c).ownBlock = some k) ∧ (∀ k, (Value.slice q0v0a q0v0n q0v0c).ownBlock = some k → ¬ (Value.slice q0v3a q0v3n q0v3c).ownBlock = some k) ∧ (∀ k, (Value.slice q0v1a q0v1n q0v1c).ownBlock = some k → ¬ (Value.slice q0v3a q0v3n q0v3c).ownBlock = some k) ∧ (∀ k, (Value.slice q0v2a q0v2n q0v2c).ownBlock = some k → ¬ (Value.slice q0v3a q0v3n q0v3c).ownBlock = some k) ∧ Ext w w' := by
  refine calls_of_W Tryz.func4 rfl (Nat.le_of_ble_eq_true rfl) ?_
  refine W_seq ?_
  refine W_region rfl ?_
  refine da_op rfl (d_alloc (cs := #[.slice none 0 0, .slice none 0 0, .slice none 0 0, .slice none 0 0]) zero26 rfl fun w1 B1 E1 => ?_)
  have own2 : w.heap.size ≤ w.heap.size := Nat.le_trans (Ext.refl w).size (Nat.le_refl _)
  have X3 : Ext w w1 := (Ext.refl w).trans E1
  refine da_op rfl (d_as (v := .bool false) rfl ?_)
  refine da_nil ?_
  refine W_seq ?_
  refine W_region rfl ?_
  refine da_op rfl (d_mv (v := .string (bs p0)) rfl ?_)
  obtain ⟨m4, hm4, hr⟩ := bind_out hr
  refine da_op rfl (d_cl (vs := [.string (bs p0)]) en9 (ac rfl rfl) rfl ?_)
  refine (c9 p0 m4 w1 hm4 ).mono ?_
  rintro _ w5 ⟨q5_0v0a, q5_0v0n, q5_0v0c, q5_0v1a, q5_0v1n, q5_0v1c, q5_0v2a, q5_0v2n, q5_0v2c, q5_0v3a, q5_0v3n, q5_0v3c, rfl, q5_0v0R, q5_0v0F, q5_0v1R, q5_0v1F, q5_0v2R, q5_0v2F, q5_0v3R, q5_0v3F, q5_A1_0, q5_A2_0, q5_A2_1, q5_A3_0, q5_A3_1, q5_A3_2, E5⟩
  refine ⟨_, rfl, ?_⟩
  have own6 : ∀ k, (Value.slice q5_0v0a q5_0v0n q5_0v0c).ownBlock = some k → w.heap.size ≤ k := fun k hk => Nat.le_trans X3.size (q5_0v0F k hk)
  have sp7 : ¬ (Value.slice q5_0v0a q5_0v0n q5_0v0c).ownBlock = some w.heap.size := ne_fresh q5_0v0F (lt_heap B1)
  have own8 : ∀ k, (Value.slice q5_0v1a q5_0v1n q5_0v1c).ownBlock = some k → w.heap.size ≤ k := fun k hk => Nat.le_trans X3.size (q5_0v1F k hk)
  have sp9 : ¬ (Value.slice q5_0v1a q5_0v1n q5_0v1c).ownBlock = some w.heap.size := ne_fresh q5_0v1F (lt_heap B1)
  have own10 : ∀ k, (Value.slice q5_0v2a q5_0v2n q5_0v2c).ownBlock = some k → w.heap.size ≤ k := fun k hk => Nat.le_trans X3.size (q5_0v2F k hk)
  have sp11 : ¬ (Value.slice q5_0v2a q5_0v2n q5_0v2c).ownBlock = some w.heap.size := ne_fresh q5_0v2F (lt_heap B1)
  have own12 : ∀ k, (Value.slice q5_0v3a q5_0v3n q5_0v3c).ownBlock = some k → w.heap.size ≤ k := fun k hk => Nat.le_trans X3.size (q5_0v3F k hk)
  have sp13 : ¬ (Value.slice q5_0v3a q5_0v3n q5_0v3c).ownBlock = some w.heap.size := ne_fresh q5_0v3F (lt_heap B1)
  have X14 : Ext w w5 := X3.trans E5
  refine da_op rfl (d_extract (v := .agg #[(Value.slice q5_0v0a q5_0v0n q5_0v0c), (Value.slice q5_0v1a q5_0v1n q5_0v1c), (Value.slice q5_0v2a q5_0v2n q5_0v2c), (Value.slice q5_0v3a q5_0v3n q5_0v3c)]) rfl rfl ?_)
  refine da_op rfl (d_extract (v := .bool m4.2) rfl rfl ?_)
  have B15 : w5.heap[w.heap.size]? = some (.cells #[.slice none 0 0, .slice none 0 0, .slice none 0 0, .slice none 0 0] 26 (0, 0)) := E5.heap B1
  refine da_op rfl (d_store (vs := #[(Value.slice q5_0v0a q5_0v0n q5_0v0c), (Value.slice q5_0v1a q5_0v1n q5_0v1c), (Value.slice q5_0v2a q5_0v2n q5_0v2c), (Value.slice q5_0v3a q5_0v3n q5_0v3c)]) rfl rfl B15 size26 (Nat.le_of_ble_eq_true rfl) rfl fun w16 S16 => ?_)
  have X17 : Ext w w16 := Ext.step X14 S16.frmb (fun k _ hk => hk ▸ own2)
  have B18 : w16.heap[w.heap.size]? = some (.cells #[(Value.slice q5_0v0a q5_0v0n q5_0v0c), (Value.slice q5_0v1a q5_0v1n q5_0v1c), (Value.slice q5_0v2a q5_0v2n q5_0v2c), (Value.slice q5_0v3a q5_0v3n q5_0v3c)] 26 (0, 0)) := S16.here
  refine da_op rfl (d_as (v := .bool m4.2) rfl ?_)
  refine da_nil ?_
  refine W_ret ?_
  have B19 : OS w16 57 encSVector (Value.slice q5_0v0a q5_0v0n q5_0v0c) m4.1.places := q5_0v0R.frm S16.frmb (rb sp7)
  have B20 : OS w16 57 encSVector (Value.slice q5_0v1a q5_0v1n q5_0v1c) m4.1.before := q5_0v1R.frm S16.frmb (rb sp9)
  have B21 : OS w16 40 encF_f32 (Value.slice q5_0v2a q5_0v2n q5_0v2c) m4.1.weights := q5_0v2R.frm S16.frmb (rb sp11)
  have B22 : OS w16 42 encSRod (Value.slice q5_0v3a q5_0v3n q5_0v3c) m4.1.rods := q5_0v3R.frm S16.frmb (rb sp13)
  obtain rfl := Option.some.inj hr
  refine ⟨_, res2 (rv_cells (vs := #[(Value.slice q5_0v0a q5_0v0n q5_0v0c), (Value.slice q5_0v1a q5_0v1n q5_0v1c), (Value.slice q5_0v2a q5_0v2n q5_0v2c), (Value.slice q5_0v3a q5_0v3n q5_0v3c)]) rfl agg26 size26 B18 rfl) (rv_tmp rfl), ?_⟩
  exact ⟨q5_0v0a, q5_0v0n, q5_0v0c, q5_0v1a, q5_0v1n, q5_0v1c, q5_0v2a, q5_0v2n, q5_0v2c, q5_0v3a, q5_0v3n, q5_0v3c, rfl, B19, own6, B20, own8, B21, own10, B22, own12, q5_A1_0, q5_A2_0, q5_A2_1, q5_A3_0, q5_A3_1, q5_A3_2, X17⟩
set_option maxHeartbeats 4000000 in
theorem c47_s3b (p0 : List UInt8) (r : Int) (w : World) (hr : M.strings_Count_s3b p0 = some r)  :
    Calls Tryz.prog 47 #[.string (bs p0), .string (bs ([59] : List UInt8))] w fun e w' => e = .returned (.int .i64 r) ∧ Ext w w' := by
  refine calls_of_W Tryz.func47 rfl (Nat.le_of_ble_eq_true rfl) ?_
  refine W_seq ?_
  refine W_region rfl ?_
  refine da_op rfl (d_as (v := .int .i64 0) rfl ?_)
  refine da_nil ?_
  refine W_seq ?_
  refine W_seq ?_
  refine W_region rfl ?_
  refine da_op rfl (d_mv (v := .string (bs ([59] : List UInt8))) rfl ?_)
  refine da_op rfl (d_slenL (n := 1) un9 rfl rfl ?_)
  refine da_op rfl (d_icmpL (b := false) cEql rfl rfl (by decide) ?_)
  refine da_nil ?_
  refine W_false rfl ?_
  refine W_skip ?_
  refine W_seq ?_
  refine W_seq ?_
  refine W_region rfl ?_
  refine da_op rfl (d_mv (v := .string (bs ([59] : List UInt8))) rfl ?_)
  refine da_op rfl (d_slenL (n := 1) un9 rfl rfl ?_)
  refine da_op rfl (d_icmpL (b := true) cEql rfl rfl (by decide) ?_)
  refine da_nil ?_
  refine W_true rfl ?_
  refine W_seq ?_
  refine W_region rfl ?_
  refine da_op rfl (d_mv (v := .string (bs p0)) rfl ?_)
  refine da_op rfl (d_mv (v := .string (bs ([59] : List UInt8))) rfl ?_)
  obtain ⟨m1, hm1, hr⟩ := bind_out hr
  refine da_op rfl (d_sidx un9 rfl rfl hm1 ?_)
  refine da_op rfl (d_scount ext69_0 ext69_1 ext69_2 (Option.isNone_iff_eq_none.1 ext69_3) ext69_4 rfl rfl rfl ?_)
  refine da_op rfl (d_as (v := .int .i64 (scount p0 m1)) rfl ?_)
  refine da_nil ?_
  refine W_ret ?_
  obtain rfl := Option.some.inj hr
  refine ⟨_, res1 (rv_tmp rfl), ?_⟩
  exact ⟨rfl, (Ext.refl w)⟩
set_option maxHeartbeats 4000000 in
theorem c71 (p0 : List UInt8) (p1 : Int) (r : Int) (w : World) (hr : M.internal_stringslite_IndexByte p0 p1 = r)  :
    Calls Tryz.prog 71 #[.string (bs p0), .int .u8 p1] w fun e w' => e = .returned (.int .i64 r) ∧ Ext w w' := by
  refine calls_of_W Tryz.func71 rfl (Nat.le_of_ble_eq_true rfl) ?_
  refine W_seq ?_
  refine W_region rfl ?_
  refine da_op rfl (d_as (v := .int .i64 0) rfl ?_)
  refine da_nil ?_
  refine W_seq ?_
  refine W_region rfl ?_
  refine da_op rfl (d_mv (v := .string (bs p0)) rfl ?_)
  refine da_op rfl (d_mv (v := .int .u8 p1) rfl ?_)
  refine da_op rfl (d_sfind ext87_0 ext87_1 ext87_2 (Option.isNone_iff_eq_none.1 ext87_3) ext87_4 rfl rfl rfl ?_)
  refine da_op rfl (d_as (v := .int .i64 (sfind p0 p1)) rfl ?_)
  refine da_nil ?_
  refine W_ret ?_
  subst hr
  refine ⟨_, res1 (rv_tmp rfl), ?_⟩
  exact ⟨rfl, (Ext.refl w)⟩
set_option maxHeartbeats 4000000 in
theorem c70_s3b (p0 : List UInt8) (r : Int) (w : World) (hr : M.internal_stringslite_Index_s3b p0 = some r)  :
    Calls Tryz.prog 70 #[.string (bs p0), .string (bs ([59] : List UInt8))] w fun e w' => e = .returned (.int .i64 r) ∧ Ext w w' := by
  refine calls_of_W Tryz.func70 rfl (Nat.le_of_ble_eq_true rfl) ?_
  refine W_seq ?_
  refine W_region rfl ?_
  refine da_op rfl (d_as (v := .int .i64 0) rfl ?_)
  refine da_nil ?_
  refine W_seq ?_
  refine W_region rfl ?_
  refine da_op rfl (d_mv (v := .string (bs ([59] : List UInt8))) rfl ?_)
  refine da_op rfl (d_slenL (n := 1) un9 rfl rfl ?_)
  refine da_op rfl (d_as (v := .int .i64 1) rfl ?_)
  refine da_nil ?_
  refine W_seq ?_
  refine W_block ?_
  refine W_seq ?_
  refine W_cut (fun σ' w' => σ' 16 = .bool (([59] : List UInt8) == p0) ∧ Ext w w') rfl ?_ ?_
  · skip
    clear hr
    refine da_op rfl (d_mv (v := .int .i64 1) rfl ?_)
    refine da_op rfl (d_icmpL (b := false) cEql rfl rfl (by decide) ?_)
    refine da_op rfl (d_mv (v := .bool false) rfl ?_)
    refine da_on rfl rfl (d_mv (v := .string (bs ([59] : List UInt8))) rfl ?_)
    refine da_on rfl rfl (d_mv (v := .string (bs p0)) rfl ?_)
    refine da_on rfl rfl (d_seq rfl rfl ?_)
    refine da_op rfl (d_pick (b := false) rfl ?_)
    refine da_op rfl (d_as (v := .bool (([59] : List UInt8) == p0)) rfl ?_)
    refine da_nil ?_
    exact ⟨rfl, (Ext.refl w)⟩
  · skip
    rintro σ1 w1 o1 ⟨s16_1, E1⟩
    have s0_1 : σ1 0 = .string (bs p0) := (o1 0 rfl).trans rfl
    have s1_1 : σ1 1 = .string (bs ([59] : List UInt8)) := (o1 1 rfl).trans rfl
    have s5_1 : σ1 5 = .int .i64 1 := (o1 5 rfl).trans rfl
    have X2 : Ext w w1 := (Ext.refl w).trans E1
    refine W_cond (b := (([59] : List UInt8) == p0)) s16_1 (fun hc3 => ?_) (fun hc3 => ?_)
    · skip
      replace hr := bif_t hr hc3
      refine W_seq ?_
      refine W_region rfl ?_
      refine da_op rfl (d_as (v := .int .i64 0) rfl ?_)
      refine da_nil ?_
      refine W_ret ?_
      obtain rfl := Option.some.inj hr
      refine ⟨_, res1 (rv_tmp rfl), ?_⟩
      exact ⟨rfl, X2⟩
    · skip
      replace hr := bif_f hr hc3
      refine W_seq ?_
      refine W_region rfl ?_
      refine da_op rfl (d_mv (v := .int .i64 1) s5_1 ?_)
      refine da_op rfl (d_icmpL (b := true) cEql rfl rfl (by decide) ?_)
      refine da_op rfl (d_as (v := .bool true) rfl ?_)
      refine da_nil ?_
      refine W_true rfl ?_
      refine W_seq ?_
      refine W_region rfl ?_
      refine da_op rfl (d_mv (v := .string (bs p0)) s0_1 ?_)
      refine da_op rfl (d_mv (v := .string (bs ([59] : List UInt8))) s1_1 ?_)
      obtain ⟨m4, hm4, hr⟩ := bind_out hr
      refine da_op rfl (d_sidx un9 rfl rfl hm4 ?_)
      obtain ⟨m5, hm5, hr⟩ := letv_out hr
      refine da_op rfl (d_cl (vs := [.string (bs p0), .int .u8 m4]) en71 (ac rfl (ac rfl rfl)) rfl ?_)
      refine (c71 p0 m4 m5 w1 hm5 ).mono ?_
      rintro _ w6 ⟨rfl, E6⟩
      refine ⟨_, rfl, ?_⟩
      have X7 : Ext w w6 := X2.trans E6
      refine da_op rfl (d_as (v := .int .i64 m5) rfl ?_)
      refine da_nil ?_
      refine W_ret ?_
      obtain rfl := Option.some.inj hr
      refine ⟨_, res1 (rv_tmp rfl), ?_⟩
      exact ⟨rfl, X7⟩
set_option maxHeartbeats 4000000 in
theorem c48_s3b (p0 : List UInt8) (r : Int) (w : World) (hr : M.strings_Index_s3b p0 = some r)  :
    Calls Tryz.prog 48 #[.string (bs p0), .string (bs ([59] : List UInt8))] w fun e w' => e = .returned (.int .i64 r) ∧ Ext w w' := by
  refine calls_of_W Tryz.func48 rfl (Nat.le_of_ble_eq_true rfl) ?_
  refine W_seq ?_
  refine W_region rfl ?_
  refine da_op rfl (d_as (v := .int .i64 0) rfl ?_)
  refine da_nil ?_
  refine W_seq ?_
  refine W_region rfl ?_
  refine da_op rfl (d_mv (v := .string (bs p0)) rfl ?_)
  refine da_op rfl (d_mv (v := .string (bs ([59] : List UInt8))) rfl ?_)
  obtain ⟨m1, hm1, hr⟩ := bind_out hr
  refine da_op rfl (d_cl (vs := [.string (bs p0), .string (bs ([59] : List UInt8))]) en70 (ac rfl (ac rfl rfl)) rfl ?_)
  refine (c70_s3b p0 m1 w hm1 ).mono ?_
  rintro _ w2 ⟨rfl, E2⟩
  refine ⟨_, rfl, ?_⟩
  have X3 : Ext w w2 := (Ext.refl w).trans E2
  refine da_op rfl (d_as (v := .int .i64 m1) rfl ?_)
  refine da_nil ?_
  refine W_ret ?_
  obtain rfl := Option.some.inj hr
  refine ⟨_, res1 (rv_tmp rfl), ?_⟩
  exact ⟨rfl, X3⟩
set_option maxHeartbeats 4000000 in
theorem c30_s3b_i64n0_i64m1 (p0 : List UInt8) (r : List (List UInt8)) (w : World) (hr : M.strings_genSplit_s3b_i64n0_i64m1 p0 = some r)  :
    Calls Tryz.prog 30 #[.string (bs p0), .string (bs ([59] : List UInt8)), .int .i64 0, .int .i64 (-1)] w fun e w' => ∃ q0a : Option Addr, ∃ q0n : Nat, ∃ q0c : Nat, e = .returned ((Value.slice q0a q0n q0c)) ∧ RS w' encS (Value.slice q0a q0n q0c) r ∧ (∀ k, (Value.slice q0a q0n q0c).ownBlock = some k → w.heap.size ≤ k) ∧ Ext w w' := by
  refine calls_of_W Tryz.func30 rfl (Nat.le_of_ble_eq_true rfl) ?_
  refine W_seq ?_
  refine W_region rfl ?_
  refine da_op rfl (d_as (v := .slice none 0 0) rfl ?_)
  refine da_nil ?_
  refine W_seq ?_
  refine W_seq ?_
  refine W_region rfl ?_
  refine da_op rfl (d_mv (v := .int .i64 (-1)) rfl ?_)
  refine da_op rfl (d_icmpL (b := false) cEql rfl rfl (by decide) ?_)
  refine da_nil ?_
  refine W_false rfl ?_
  refine W_skip ?_
  refine W_seq ?_
  refine W_seq ?_
  refine W_region rfl ?_
  refine da_op rfl (d_mv (v := .string (bs ([59] : List UInt8))) rfl ?_)
  refine da_op rfl (d_seqL (b := false) rfl rfl (by decide) ?_)
  refine da_nil ?_
  refine W_false rfl ?_
  refine W_skip ?_
  refine W_seq ?_
  refine W_seq ?_
  refine W_region rfl ?_
  refine da_op rfl (d_mv (v := .int .i64 (-1)) rfl ?_)
  refine da_op rfl (d_icmpL (b := true) cLss rfl rfl (by decide) ?_)
  refine da_nil ?_
  refine W_true rfl ?_
  refine W_region rfl ?_
  refine da_op rfl (d_mv (v := .string (bs p0)) rfl ?_)
  refine da_op rfl (d_mv (v := .string (bs ([59] : List UInt8))) rfl ?_)
  obtain ⟨m1, hm1, hr⟩ := bind_out hr
  refine da_op rfl (d_cl (vs := [.string (bs p0), .string (bs ([59] : List UInt8))]) en47 (ac rfl (ac rfl rfl)) rfl ?_)
  refine (c47_s3b p0 m1 w hm1 ).mono ?_
  rintro _ w2 ⟨rfl, E2⟩
  refine ⟨_, rfl, ?_⟩
  have X3 : Ext w w2 := (Ext.refl w).trans E2
  refine da_op rfl (d_iarith rfl rfl (.inl ⟨rfl, rfl⟩) ?_)
  refine da_op rfl (d_as (v := .int .i64 (IntKind.i64.wrap (m1 + 1))) rfl ?_)
  refine da_nil ?_
  refine W_seq ?_
  refine W_region rfl ?_
  refine da_op rfl (d_mv (v := .int .i64 (IntKind.i64.wrap (m1 + 1))) rfl ?_)
  refine da_op rfl (d_mv (v := .string (bs p0)) rfl ?_)
  refine da_op rfl (d_slen un9 rfl ?_)
  refine da_op rfl (d_iarith rfl rfl (.inl ⟨rfl, rfl⟩) ?_)
  refine da_op rfl (d_min rfl rfl ?_)
  refine da_op rfl (d_as (v := .int .i64 (imin (IntKind.i64.wrap (m1 + 1)) (IntKind.i64.wrap (((p0).length : Int) + 1)))) rfl ?_)
  refine da_nil ?_
  refine W_seq ?_
  refine W_region rfl ?_
  refine da_op rfl (d_mv (v := .int .i64 (imin (IntKind.i64.wrap (m1 + 1)) (IntKind.i64.wrap (((p0).length : Int) + 1)))) rfl ?_)
  obtain ⟨m4, hm4, hr⟩ := bind_out hr
  refine da_op rfl (d_make (e := encS) un32 info9 rfl (by kernel_rfl) (by kernel_rfl) (by decide) (by decide) rfl rfl hm4 fun v5 w5 O5 E5 fr5 => ?_)
  obtain ⟨v5pa, v5pn, v5pc, rfl⟩ := O5.vals
  have own5 : ∀ k, (Value.slice v5pa v5pn v5pc).ownBlock = some k → w.heap.size ≤ k := fun k hk => Nat.le_trans X3.size (fr5 k hk)
  have X6 : Ext w w5 := X3.trans E5
  refine da_op rfl (d_as (v := (Value.slice v5pa v5pn v5pc)) rfl ?_)
  refine da_nil ?_
  refine W_seq ?_
  refine W_region rfl ?_
  refine da_op rfl (d_mv (v := .int .i64 (imin (IntKind.i64.wrap (m1 + 1)) (IntKind.i64.wrap (((p0).length : Int) + 1)))) rfl ?_)
  refine da_op rfl (d_iarith rfl rfl (.inr (.inl ⟨rfl, rfl⟩)) ?_)
  refine da_op rfl (d_as (v := .int .i64 (IntKind.i64.wrap ((imin (IntKind.i64.wrap (m1 + 1)) (IntKind.i64.wrap (((p0).length : Int) + 1))) - 1))) rfl ?_)
  refine da_nil ?_
  refine W_seq ?_
  refine W_region rfl ?_
  refine da_op rfl (d_as (v := .int .i64 0) rfl ?_)
  refine da_nil ?_
  refine W_seq ?_
  refine W_block ?_
  obtain ⟨m7, hm7, hr⟩ := bind_out hr
  refine W_loopM hm7 (fun (s7 : List UInt8 × Int × List (List UInt8)) σ w' => σ 0 = .string (bs s7.1) ∧ σ 10 = .int .i64 s7.2.1 ∧ σ 1 = .string (bs ([59] : List UInt8)) ∧ σ 2 = .int .i64 0 ∧ σ 3 = .int .i64 (IntKind.i64.wrap ((imin (IntKind.i64.wrap (m1 + 1)) (IntKind.i64.wrap (((p0).length : Int) + 1))) - 1)) ∧ σ 9 = (Value.slice v5pa v5pn v5pc) ∧ OS w' 9 encS (Value.slice v5pa v5pn v5pc) s7.2.2 ∧ Ext w w') (fun (e7 : (List UInt8 × Int × List (List UInt8))) ex σ w' => ex = .exit 0 ∧ σ 0 = .string (bs e7.1) ∧ σ 10 = .int .i64 e7.2.1 ∧ σ 9 = (Value.slice v5pa v5pn v5pc) ∧ OS w' 9 encS (Value.slice v5pa v5pn v5pc) e7.2.2 ∧ Ext w w') ⟨rfl, rfl, rfl, rfl, rfl, rfl, O5, X6⟩ ?_ ?_
  · skip
    rintro s7 σl7 wl7 r7l ⟨i7_S0, i7_S10, i7_S1, i7_S2, i7_S3, i7_S9, i7_2R, i7_X⟩ hr
    refine W_seq ?_
    refine W_seq ?_
    refine W_region rfl ?_
    refine da_op rfl (d_mv (v := .int .i64 s7.2.1) i7_S10 ?_)
    refine da_op rfl (d_mv (v := .int .i64 (IntKind.i64.wrap ((imin (IntKind.i64.wrap (m1 + 1)) (IntKind.i64.wrap (((p0).length : Int) + 1))) - 1))) i7_S3 ?_)
    refine da_op rfl (d_icmp cLss rfl rfl ?_)
    refine da_nil ?_
    refine W_cond (b := (icmp .lss s7.2.1 (IntKind.i64.wrap ((imin (IntKind.i64.wrap (m1 + 1)) (IntKind.i64.wrap (((p0).length : Int) + 1))) - 1)))) rfl (fun hc8 => ?_) (fun hc8 => ?_)
    · skip
      replace hr := bif_t hr hc8
      refine W_skip ?_
      refine W_block ?_
      refine W_seq ?_
      refine W_region rfl ?_
      refine da_op rfl (d_mv (v := .string (bs s7.1)) i7_S0 ?_)
      refine da_op rfl (d_mv (v := .string (bs ([59] : List UInt8))) i7_S1 ?_)
      obtain ⟨m9, hm9, hr⟩ := bind_out hr
      refine da_op rfl (d_cl (vs := [.string (bs s7.1), .string (bs ([59] : List UInt8))]) en48 (ac rfl (ac rfl rfl)) rfl ?_)
      refine (c48_s3b s7.1 m9 wl7 hm9 ).mono ?_
      rintro _ w10 ⟨rfl, E10⟩
      refine ⟨_, rfl, ?_⟩
      have X11 : Ext w w10 := i7_X.trans E10
      refine da_op rfl (d_as (v := .int .i64 m9) rfl ?_)
      refine da_nil ?_
      refine W_seq ?_
      refine W_seq ?_
      refine W_region rfl ?_
      refine da_op rfl (d_mv (v := .int .i64 m9) rfl ?_)
      refine da_op rfl (d_icmp cLss rfl rfl ?_)
      refine da_nil ?_
      refine W_cond (b := (icmp .lss m9 0)) rfl (fun hc12 => ?_) (fun hc12 => ?_)
      · skip
        replace hr := bif_t hr hc12
        refine W_exit ?_
        have B13 : OS w10 9 encS (Value.slice v5pa v5pn v5pc) s7.2.2 := i7_2R.ext E10
        obtain rfl := Option.some.inj hr
        exact ⟨_, rfl, rfl, i7_S0, i7_S10, i7_S9, B13, X11⟩
      · skip
        replace hr := bif_f hr hc12
        refine W_skip ?_
        refine W_seq ?_
        refine W_region rfl ?_
        refine da_op rfl (d_mv (v := (Value.slice v5pa v5pn v5pc)) i7_S9 ?_)
        refine da_op rfl (d_mv (v := .int .i64 s7.2.1) i7_S10 ?_)
        refine da_op rfl (d_mv (v := .string (bs s7.1)) i7_S0 ?_)
        refine da_op rfl (d_mv (v := .int .i64 m9) rfl ?_)
        refine da_op rfl (d_mv (v := .int .i64 0) i7_S2 ?_)
        refine da_op rfl (d_iarith rfl rfl (.inl ⟨rfl, rfl⟩) ?_)
        obtain ⟨m14, hm14, hr⟩ := bind_out hr
        refine da_op rfl (d_ssub (a := 0) (b := (IntKind.i64.wrap (m9 + 0))) un9 rfl (.inl ⟨rfl, rfl⟩) (.inr ⟨_, _, rfl, rfl⟩) hm14 ?_)
        obtain ⟨m15, hm15, hr⟩ := bind_out hr
        have B17 : OS w10 9 encS (Value.slice v5pa v5pn v5pc) s7.2.2 := i7_2R.ext E10
        refine da_op rfl (d_indexO (e := encS) (v := (Value.slice v5pa v5pn v5pc)) un32 size9 rfl rfl B17 hm15 fun g16 fr16 cu16 vs16 hv16 hg16 hp16 hq16 => ?_)
        obtain rfl := dec_encS hq16
        refine da_op rfl (d_store_elem (e := encS) (i := s7.2.1) (k := 0) (old := [.string (bs m15)]) (vs := #[.string (bs m14)]) (new := [.string (bs m14)]) (x2 := m14) rfl rfl hv16 B17 hg16 hp16 hm15 size9 (by kernel_rfl) (Nat.le_of_ble_eq_true rfl) rfl rfl (lc_v rfl rfl) rfl fun w18 S18 O19 => ?_)
        have X20 : Ext w w18 := Ext.step X11 S18.frmb (fun k _ hk => own5 k (by rw [hv16, hk]; rfl))
        refine da_nil ?_
        refine W_seq ?_
        refine W_region rfl ?_
        refine da_op rfl (d_mv (v := .string (bs s7.1)) i7_S0 ?_)
        refine da_op rfl (d_mv (v := .int .i64 m9) rfl ?_)
        refine da_op rfl (d_mv (v := .string (bs ([59] : List UInt8))) i7_S1 ?_)
        refine da_op rfl (d_slenL (n := 1) un9 rfl rfl ?_)
        refine da_op rfl (d_iarith rfl rfl (.inl ⟨rfl, rfl⟩) ?_)
        obtain ⟨m21, hm21, hr⟩ := bind_out hr
        refine da_op rfl (d_ssub (a := (IntKind.i64.wrap (m9 + 1))) (b := ((s7.1).length : Int)) un9 rfl (.inr ⟨_, _, rfl, rfl⟩) (.inl ⟨rfl, rfl⟩) hm21 ?_)
        refine da_op rfl (d_as (v := .string (bs m21)) rfl ?_)
        refine da_nil ?_
        refine W_region rfl ?_
        refine da_op rfl (d_mv (v := .int .i64 s7.2.1) i7_S10 ?_)
        refine da_op rfl (d_iarith rfl rfl (.inl ⟨rfl, rfl⟩) ?_)
        refine da_op rfl (d_as (v := .int .i64 (IntKind.i64.wrap (s7.2.1 + 1))) rfl ?_)
        refine da_nil ?_
        obtain rfl := Option.some.inj hr
        exact ⟨_, rfl, ⟨rfl, rfl, i7_S1, i7_S2, i7_S3, i7_S9, O19, X20⟩⟩
    · skip
      replace hr := bif_f hr hc8
      refine W_exit ?_
      obtain rfl := Option.some.inj hr
      exact ⟨_, rfl, rfl, i7_S0, i7_S10, i7_S9, i7_2R, i7_X⟩
  · skip
    intro ex σx7 wx7 hq
    obtain ⟨rfl, q7_0_S0, q7_0_S10, q7_0_S9, q7_0_2R, q7_0_X⟩ := hq
    refine W_seq ?_
    refine W_region rfl ?_
    refine da_op rfl (d_mv (v := (Value.slice v5pa v5pn v5pc)) q7_0_S9 ?_)
    refine da_op rfl (d_mv (v := .int .i64 m7.2.1) q7_0_S10 ?_)
    refine da_op rfl (d_mv (v := .string (bs m7.1)) q7_0_S0 ?_)
    obtain ⟨m22, hm22, hr⟩ := bind_out hr
    refine da_op rfl (d_indexO (e := encS) (v := (Value.slice v5pa v5pn v5pc)) un32 size9 rfl rfl q7_0_2R hm22 fun g23 fr23 cu23 vs23 hv23 hg23 hp23 hq23 => ?_)
    obtain rfl := dec_encS hq23
    refine da_op rfl (d_store_elem (e := encS) (i := m7.2.1) (k := 0) (old := [.string (bs m22)]) (vs := #[.string (bs m7.1)]) (new := [.string (bs m7.1)]) (x2 := m7.1) rfl rfl hv23 q7_0_2R hg23 hp23 hm22 size9 (by kernel_rfl) (Nat.le_of_ble_eq_true rfl) rfl rfl (lc_v rfl rfl) rfl fun w24 S24 O25 => ?_)
    have X26 : Ext w w24 := Ext.step q7_0_X S24.frmb (fun k _ hk => own5 k (by rw [hv23, hk]; rfl))
    refine da_nil ?_
    refine W_seq ?_
    refine W_region rfl ?_
    refine da_op rfl (d_mv (v := (Value.slice v5pa v5pn v5pc)) q7_0_S9 ?_)
    refine da_op rfl (d_mv (v := .int .i64 m7.2.1) q7_0_S10 ?_)
    refine da_op rfl (d_iarith rfl rfl (.inl ⟨rfl, rfl⟩) ?_)
    obtain ⟨m27, hm27, hr⟩ := bind_out hr
    refine da_op rfl (d_lsub (e := encS) (v := (Value.slice v5pa v5pn v5pc)) (a := 0) (b := (IntKind.i64.wrap (m7.2.1 + 1))) un32 size9 rfl O25.rs (.inl ⟨rfl, rfl⟩) (.inr ⟨_, _, rfl, rfl⟩) hm27 fun v28 R28 L28 => ?_)
    obtain ⟨v28pa, v28pn, v28pc, rfl⟩ := R28.vals
    refine da_op rfl (d_as (v := (Value.slice v28pa v28pn v28pc)) rfl ?_)
    refine da_nil ?_
    refine W_ret ?_
    obtain rfl := Option.some.inj hr
    refine ⟨_, res1 (rv_tmp rfl), ?_⟩
    exact ⟨v28pa, v28pn, v28pc, rfl, R28, (fun k hk => own5 k (L28 k hk)), X26⟩
set_option maxHeartbeats 4000000 in
theorem c10_s3b (p0 : List UInt8) (r : List (List UInt8)) (w : World) (hr : M.strings_Split_s3b p0 = some r)  :
    Calls Tryz.prog 10 #[.string (bs p0), .string (bs ([59] : List UInt8))] w fun e w' => ∃ q0a : Option Addr, ∃ q0n : Nat, ∃ q0c : Nat, e = .returned ((Value.slice q0a q0n q0c)) ∧ RS w' encS (Value.slice q0a q0n q0c) r ∧ (∀ k, (Value.slice q0a q0n q0c).ownBlock = some k → w.heap.size ≤ k) ∧ Ext w w' := by
  refine calls_of_W Tryz.func10 rfl (Nat.le_of_ble_eq_true rfl) ?_
  refine W_seq ?_
  refine W_region rfl ?_
  refine da_op rfl (d_as (v := .slice none 0 0) rfl ?_)
  refine da_nil ?_
  refine W_seq ?_
  refine W_region rfl ?_
  refine da_op rfl (d_mv (v := .string (bs p0)) rfl ?_)
  refine da_op rfl (d_mv (v := .string (bs ([59] : List UInt8))) rfl ?_)
  obtain ⟨m1, hm1, hr⟩ := bind_out hr
  refine da_op rfl (d_cl (vs := [.string (bs p0), .string (bs ([59] : List UInt8)), .int .i64 0, .int .i64 (-1)]) en30 (ac rfl (ac rfl (ac rfl (ac rfl rfl)))) rfl ?_)
  refine (c30_s3b_i64n0_i64m1 p0 m1 w hm1 ).mono ?_
  rintro _ w2 ⟨q2_0a, q2_0n, q2_0c, rfl, q2_0R, q2_0F, E2⟩
  refine ⟨_, rfl, ?_⟩
  have own3 : ∀ k, (Value.slice q2_0a q2_0n q2_0c).ownBlock = some k → w.heap.size ≤ k := fun k hk => Nat.le_trans (Ext.refl w).size (q2_0F k hk)
  have X4 : Ext w w2 := (Ext.refl w).trans E2
  refine da_op rfl (d_as (v := (Value.slice q2_0a q2_0n q2_0c)) rfl ?_)
  refine da_nil ?_
  refine W_ret ?_
  obtain rfl := Option.some.inj hr
  refine ⟨_, res1 (rv_tmp rfl), ?_⟩
  exact ⟨q2_0a, q2_0n, q2_0c, rfl, q2_0R, own3, X4⟩
set_option maxHeartbeats 4000000 in
theorem c47_s2f (p0 : List UInt8) (r : Int) (w : World) (hr : M.strings_Count_s2f p0 = some r)  :
    Calls Tryz.prog 47 #[.string (bs p0), .string (bs ([47] : List UInt8))] w fun e w' => e = .returned (.int .i64 r) ∧ Ext w w' := by
  refine calls_of_W Tryz.func47 rfl (Nat.le_of_ble_eq_true rfl) ?_
  refine W_seq ?_
  refine W_region rfl ?_
  refine da_op rfl (d_as (v := .int .i64 0) rfl ?_)
  refine da_nil ?_
  refine W_seq ?_
  refine W_seq ?_
  refine W_region rfl ?_
  refine da_op rfl (d_mv (v := .string (bs ([47] : List UInt8))) rfl ?_)
  refine da_op rfl (d_slenL (n := 1) un9 rfl rfl ?_)
  refine da_op rfl (d_icmpL (b := false) cEql rfl rfl (by decide) ?_)
  refine da_nil ?_
  refine W_false rfl ?_
  refine W_skip ?_
  refine W_seq ?_
  refine W_seq ?_
  refine W_region rfl ?_
  refine da_op rfl (d_mv (v := .string (bs ([47] : List UInt8))) rfl ?_)
  refine da_op rfl (d_slenL (n := 1) un9 rfl rfl ?_)
  refine da_op rfl (d_icmpL (b := true) cEql rfl rfl (by decide) ?_)
  refine da_nil ?_
  refine W_true rfl ?_
  refine W_seq ?_
  refine W_region rfl ?_
  refine da_op rfl (d_mv (v := .string (bs p0)) rfl ?_)
  refine da_op rfl (d_mv (v := .string (bs ([47] : List UInt8))) rfl ?_)
  obtain ⟨m1, hm1, hr⟩ := bind_out hr
  refine da_op rfl (d_sidx un9 rfl rfl hm1 ?_)
  refine da_op rfl (d_scount ext69_0 ext69_1 ext69_2 (Option.isNone_iff_eq_none.1 ext69_3) ext69_4 rfl rfl rfl ?_)
  refine da_op rfl (d_as (v := .int .i64 (scount p0 m1)) rfl ?_)
  refine da_nil ?_
  refine W_ret ?_
  obtain rfl := Option.some.inj hr
  refine ⟨_, res1 (rv_tmp rfl), ?_⟩
  exact ⟨rfl, (Ext.refl w)⟩
set_option maxHeartbeats 4000000 in
theorem c70_s2f (p0 : List UInt8) (r : Int) (w : World) (hr : M.internal_stringslite_Index_s2f p0 = some r)  :
    Calls Tryz.prog 70 #[.string (bs p0), .string (bs ([47] : List UInt8))] w fun e w' => e = .returned (.int .i64 r) ∧ Ext w w' := by
  refine calls_of_W Tryz.func70 rfl (Nat.le_of_ble_eq_true rfl) ?_
  refine W_seq ?_
  refine W_region rfl ?_
  refine da_op rfl (d_as (v := .int .i64 0) rfl ?_)
  refine da_nil ?_
  refine W_seq ?_
  refine W_region rfl ?_
  refine da_op rfl (d_mv (v := .string (bs ([47] : List UInt8))) rfl ?_)
  refine da_op rfl (d_slenL (n := 1) un9 rfl rfl ?_)
  refine da_op rfl (d_as (v := .int .i64 1) rfl ?_)
  refine da_nil ?_
  refine W_seq ?_
  refine W_block ?_
  refine W_seq ?_
  refine W_cut (fun σ' w' => σ' 16 = .bool (([47] : List UInt8) == p0) ∧ Ext w w') rfl ?_ ?_
  · skip
    clear hr
    refine da_op rfl (d_mv (v := .int .i64 1) rfl ?_)
    refine da_op rfl (d_icmpL (b := false) cEql rfl rfl (by decide) ?_)
    refine da_op rfl (d_mv (v := .bool false) rfl ?_)
    refine da_on rfl rfl (d_mv (v := .string (bs ([47] : List UInt8))) rfl ?_)
    refine da_on rfl rfl (d_mv (v := .string (bs p0)) rfl ?_)
    refine da_on rfl rfl (d_seq rfl rfl ?_)
    refine da_op rfl (d_pick (b := false) rfl ?_)
    refine da_op rfl (d_as (v := .bool (([47] : List UInt8) == p0)) rfl ?_)
    refine da_nil ?_
    exact ⟨rfl, (Ext.refl w)⟩
  · skip
    rintro σ1 w1 o1 ⟨s16_1, E1⟩
    have s0_1 : σ1 0 = .string (bs p0) := (o1 0 rfl).trans rfl
    have s1_1 : σ1 1 = .string (bs ([47] : List UInt8)) := (o1 1 rfl).trans rfl
    have s5_1 : σ1 5 = .int .i64 1 := (o1 5 rfl).trans rfl
    have X2 : Ext w w1 := (Ext.refl w).trans E1
    refine W_cond (b := (([47] : List UInt8) == p0)) s16_1 (fun hc3 => ?_) (fun hc3 => ?_)
    · skip
      replace hr := bif_t hr hc3
      refine W_seq ?_
      refine W_region rfl ?_
      refine da_op rfl (d_as (v := .int .i64 0) rfl ?_)
      refine da_nil ?_
      refine W_ret ?_
      obtain rfl := Option.some.inj hr
      refine ⟨_, res1 (rv_tmp rfl), ?_⟩
      exact ⟨rfl, X2⟩
    · skip
      replace hr := bif_f hr hc3
      refine W_seq ?_
      refine W_region rfl ?_
      refine da_op rfl (d_mv (v := .int .i64 1) s5_1 ?_)
      refine da_op rfl (d_icmpL (b := true) cEql rfl rfl (by decide) ?_)
      refine da_op rfl (d_as (v := .bool true) rfl ?_)
      refine da_nil ?_
      refine W_true rfl ?_
      refine W_seq ?_
      refine W_region rfl ?_
      refine da_op rfl (d_mv (v := .string (bs p0)) s0_1 ?_)
      refine da_op rfl (d_mv (v := .string (bs ([47] : List UInt8))) s1_1 ?_)
      obtain ⟨m4, hm4, hr⟩ := bind_out hr
      refine da_op rfl (d_sidx un9 rfl rfl hm4 ?_)
      obtain ⟨m5, hm5, hr⟩ := letv_out hr
      refine da_op rfl (d_cl (vs := [.string (bs p0), .int .u8 m4]) en71 (ac rfl (ac rfl rfl)) rfl ?_)
      refine (c71 p0 m4 m5 w1 hm5 ).mono ?_
      rintro _ w6 ⟨rfl, E6⟩
      refine ⟨_, rfl, ?_⟩
      have X7 : Ext w w6 := X2.trans E6
      refine da_op rfl (d_as (v := .int .i64 m5) rfl ?_)
      refine da_nil ?_
      refine W_ret ?_
      obtain rfl := Option.some.inj hr
      refine ⟨_, res1 (rv_tmp rfl), ?_⟩
      exact ⟨rfl, X7⟩
set_option maxHeartbeats 4000000 in
theorem c48_s2f (p0 : List UInt8) (r : Int) (w : World) (hr : M.strings_Index_s2f p0 = some r)  :
    Calls Tryz.prog 48 #[.string (bs p0), .string (bs ([47] : List UInt8))] w fun e w' => e = .returned (.int .i64 r) ∧ Ext w w' := by
  refine calls_of_W Tryz.func48 rfl (Nat.le_of_ble_eq_true rfl) ?_
  refine W_seq ?_
  refine W_region rfl ?_
  refine da_op rfl (d_as (v := .int .i64 0) rfl ?_)
  refine da_nil ?_
  refine W_seq ?_
  refine W_region rfl ?_
  refine da_op rfl (d_mv (v := .string (bs p0)) rfl ?_)
  refine da_op rfl (d_mv (v := .string (bs ([47] : List UInt8))) rfl ?_)
  obtain ⟨m1, hm1, hr⟩ := bind_out hr
  refine da_op rfl (d_cl (vs := [.string (bs p0), .string (bs ([47] : List UInt8))]) en70 (ac rfl (ac rfl rfl)) rfl ?_)
  refine (c70_s2f p0 m1 w hm1 ).mono ?_
  rintro _ w2 ⟨rfl, E2⟩
  refine ⟨_, rfl, ?_⟩
  have X3 : Ext w w2 := (Ext.refl w).trans E2
  refine da_op rfl (d_as (v := .int .i64 m1) rfl ?_)
  refine da_nil ?_
  refine W_ret ?_
  obtain rfl := Option.some.inj hr
  refine ⟨_, res1 (rv_tmp rfl), ?_⟩
  exact ⟨rfl, X3⟩
set_option maxHeartbeats 4000000 in
theorem c30_s2f_i64n0_i64m1 (p0 : List UInt8) (r : List (List UInt8)) (w : World) (hr : M.strings_genSplit_s2f_i64n0_i64m1 p0 = some r)  :
    Calls Tryz.prog 30 #[.string (bs p0), .string (bs ([47] : List UInt8)), .int .i64 0, .int .i64 (-1)] w fun e w' => ∃ q0a : Option Addr, ∃ q0n : Nat, ∃ q0c : Nat, e = .returned ((Value.slice q0a q0n q0c)) ∧ RS w' encS (Value.slice q0a q0n q0c) r ∧ (∀ k, (Value.slice q0a q0n q0c).ownBlock = some k → w.heap.size ≤ k) ∧ Ext w w' := by
  refine calls_of_W Tryz.func30 rfl (Nat.le_of_ble_eq_true rfl) ?_
  refine W_seq ?_
  refine W_region rfl ?_
  refine da_op rfl (d_as (v := .slice none 0 0) rfl ?_)
  refine da_nil ?_
  refine W_seq ?_
  refine W_seq ?_
  refine W_region rfl ?_
  refine da_op rfl (d_mv (v := .int .i64 (-1)) rfl ?_)
  refine da_op rfl (d_icmpL (b := false) cEql rfl rfl (by decide) ?_)
  refine da_nil ?_
  refine W_false rfl ?_
  refine W_skip ?_
  refine W_seq ?_
  refine W_seq ?_
  refine W_region rfl ?_
  refine da_op rfl (d_mv (v := .string (bs ([47] : List UInt8))) rfl ?_)
  refine da_op rfl (d_seqL (b := false) rfl rfl (by decide) ?_)
  refine da_nil ?_
  refine W_false rfl ?_
  refine W_skip ?_
  refine W_seq ?_
  refine W_seq ?_
  refine W_region rfl ?_
  refine da_op rfl (d_mv (v := .int .i64 (-1)) rfl ?_)
  refine da_op rfl (d_icmpL (b := true) cLss rfl rfl (by decide) ?_)
  refine da_nil ?_
  refine W_true rfl ?_
  refine W_region rfl ?_
  refine da_op rfl (d_mv (v := .string (bs p0)) rfl ?_)
  refine da_op rfl (d_mv (v := .string (bs ([47] : List UInt8))) rfl ?_)
  obtain ⟨m1, hm1, hr⟩ := bind_out hr
  refine da_op rfl (d_cl (vs := [.string (bs p0), .string (bs ([47] : List UInt8))]) en47 (ac rfl (ac rfl rfl)) rfl ?_)
  refine (c47_s2f p0 m1 w hm1 ).mono ?_
  rintro _ w2 ⟨rfl, E2⟩
  refine ⟨_, rfl, ?_⟩
  have X3 : Ext w w2 := (Ext.refl w).trans E2
  refine da_op rfl (d_iarith rfl rfl (.inl ⟨rfl, rfl⟩) ?_)
  refine da_op rfl (d_as (v := .int .i64 (IntKind.i64.wrap (m1 + 1))) rfl ?_)
  refine da_nil ?_
  refine W_seq ?_
  refine W_region rfl ?_
  refine da_op rfl (d_mv (v := .int .i64 (IntKind.i64.wrap (m1 + 1))) rfl ?_)
  refine da_op rfl (d_mv (v := .string (bs p0)) rfl ?_)
  refine da_op rfl (d_slen un9 rfl ?_)
  refine da_op rfl (d_iarith rfl rfl (.inl ⟨rfl, rfl⟩) ?_)
  refine da_op rfl (d_min rfl rfl ?_)
  refine da_op rfl (d_as (v := .int .i64 (imin (IntKind.i64.wrap (m1 + 1)) (IntKind.i64.wrap (((p0).length : Int) + 1)))) rfl ?_)
  refine da_nil ?_
  refine W_seq ?_
  refine W_region rfl ?_
  refine da_op rfl (d_mv (v := .int .i64 (imin (IntKind.i64.wrap (m1 + 1)) (IntKind.i64.wrap (((p0).length : Int) + 1)))) rfl ?_)
  obtain ⟨m4, hm4, hr⟩ := bind_out hr
  refine da_op rfl (d_make (e := encS) un32 info9 rfl (by kernel_rfl) (by kernel_rfl) (by decide) (by decide) rfl rfl hm4 fun v5 w5 O5 E5 fr5 => ?_)
  obtain ⟨v5pa, v5pn, v5pc, rfl⟩ := O5.vals
  have own5 : ∀ k, (Value.slice v5pa v5pn v5pc).ownBlock = some k → w.heap.size ≤ k := fun k hk => Nat.le_trans X3.size (fr5 k hk)
  have X6 : Ext w w5 := X3.trans E5
  refine da_op rfl (d_as (v := (Value.slice v5pa v5pn v5pc)) rfl ?_)
  refine da_nil ?_
  refine W_seq ?_
  refine W_region rfl ?_
  refine da_op rfl (d_mv (v := .int .i64 (imin (IntKind.i64.wrap (m1 + 1)) (IntKind.i64.wrap (((p0).length : Int) + 1)))) rfl ?_)
  refine da_op rfl (d_iarith rfl rfl (.inr (.inl ⟨rfl, rfl⟩)) ?_)
  refine da_op rfl (d_as (v := .int .i64 (IntKind.i64.wrap ((imin (IntKind.i64.wrap (m1 + 1)) (IntKind.i64.wrap (((p0).length : Int) + 1))) - 1))) rfl ?_)
  refine da_nil ?_
  refine W_seq ?_
  refine W_region rfl ?_
  refine da_op rfl (d_as (v := .int .i64 0) rfl ?_)
  refine da_nil ?_
  refine W_seq ?_
  refine W_block ?_
  obtain ⟨m7, hm7, hr⟩ := bind_out hr
  refine W_loopM hm7 (fun (s7 : List UInt8 × Int × List (List UInt8)) σ w' => σ 0 = .string (bs s7.1) ∧ σ 10 = .int .i64 s7.2.1 ∧ σ 1 = .string (bs ([47] : List UInt8)) ∧ σ 2 = .int .i64 0 ∧ σ 3 = .int .i64 (IntKind.i64.wrap ((imin (IntKind.i64.wrap (m1 + 1)) (IntKind.i64.wrap (((p0).length : Int) + 1))) - 1)) ∧ σ 9 = (Value.slice v5pa v5pn v5pc) ∧ OS w' 9 encS (Value.slice v5pa v5pn v5pc) s7.2.2 ∧ Ext w w') (fun (e7 : (List UInt8 × Int × List (List UInt8))) ex σ w' => ex = .exit 0 ∧ σ 0 = .string (bs e7.1) ∧ σ 10 = .int .i64 e7.2.1 ∧ σ 9 = (Value.slice v5pa v5pn v5pc) ∧ OS w' 9 encS (Value.slice v5pa v5pn v5pc) e7.2.2 ∧ Ext w w') ⟨rfl, rfl, rfl, rfl, rfl, rfl, O5, X6⟩ ?_ ?_
  · skip
    rintro s7 σl7 wl7 r7l ⟨i7_S0, i7_S10, i7_S1, i7_S2, i7_S3, i7_S9, i7_2R, i7_X⟩ hr
    refine W_seq ?_
    refine W_seq ?_
    refine W_region rfl ?_
    refine da_op rfl (d_mv (v := .int .i64 s7.2.1) i7_S10 ?_)
    refine da_op rfl (d_mv (v := .int .i64 (IntKind.i64.wrap ((imin (IntKind.i64.wrap (m1 + 1)) (IntKind.i64.wrap (((p0).length : Int) + 1))) - 1))) i7_S3 ?_)
    refine da_op rfl (d_icmp cLss rfl rfl ?_)
    refine da_nil ?_
    refine W_cond (b := (icmp .lss s7.2.1 (IntKind.i64.wrap ((imin (IntKind.i64.wrap (m1 + 1)) (IntKind.i64.wrap (((p0).length : Int) + 1))) - 1)))) rfl (fun hc8 => ?_) (fun hc8 => ?_)
    · skip
      replace hr := bif_t hr hc8
      refine W_skip ?_
      refine W_block ?_
      refine W_seq ?_
      refine W_region rfl ?_
      refine da_op rfl (d_mv (v := .string (bs s7.1)) i7_S0 ?_)
      refine da_op rfl (d_mv (v := .string (bs ([47] : List UInt8))) i7_S1 ?_)
      obtain ⟨m9, hm9, hr⟩ := bind_out hr
      refine da_op rfl (d_cl (vs := [.string (bs s7.1), .string (bs ([47] : List UInt8))]) en48 (ac rfl (ac rfl rfl)) rfl ?_)
      refine (c48_s2f s7.1 m9 wl7 hm9 ).mono ?_
      rintro _ w10 ⟨rfl, E10⟩
      refine ⟨_, rfl, ?_⟩
      have X11 : Ext w w10 := i7_X.trans E10
      refine da_op rfl (d_as (v := .int .i64 m9) rfl ?_)
      refine da_nil ?_
      refine W_seq ?_
      refine W_seq ?_
      refine W_region rfl ?_
      refine da_op rfl (d_mv (v := .int .i64 m9) rfl ?_)
      refine da_op rfl (d_icmp cLss rfl rfl ?_)
      refine da_nil ?_
      refine W_cond (b := (icmp .lss m9 0)) rfl (fun hc12 => ?_) (fun hc12 => ?_)
      · skip
        replace hr := bif_t hr hc12
        refine W_exit ?_
        have B13 : OS w10 9 encS (Value.slice v5pa v5pn v5pc) s7.2.2 := i7_2R.ext E10
        obtain rfl := Option.some.inj hr
        exact ⟨_, rfl, rfl, i7_S0, i7_S10, i7_S9, B13, X11⟩
      · skip
        replace hr := bif_f hr hc12
        refine W_skip ?_
        refine W_seq ?_
        refine W_region rfl ?_
        refine da_op rfl (d_mv (v := (Value.slice v5pa v5pn v5pc)) i7_S9 ?_)
        refine da_op rfl (d_mv (v := .int .i64 s7.2.1) i7_S10 ?_)
        refine da_op rfl (d_mv (v := .string (bs s7.1)) i7_S0 ?_)
        refine da_op rfl (d_mv (v := .int .i64 m9) rfl ?_)
        refine da_op rfl (d_mv (v := .int .i64 0) i7_S2 ?_)
        refine da_op rfl (d_iarith rfl rfl (.inl ⟨rfl, rfl⟩) ?_)
        obtain ⟨m14, hm14, hr⟩ := bind_out hr
        refine da_op rfl (d_ssub (a := 0) (b := (IntKind.i64.wrap (m9 + 0))) un9 rfl (.inl ⟨rfl, rfl⟩) (.inr ⟨_, _, rfl, rfl⟩) hm14 ?_)
        obtain ⟨m15, hm15, hr⟩ := bind_out hr
        have B17 : OS w10 9 encS (Value.slice v5pa v5pn v5pc) s7.2.2 := i7_2R.ext E10
        refine da_op rfl (d_indexO (e := encS) (v := (Value.slice v5pa v5pn v5pc)) un32 size9 rfl rfl B17 hm15 fun g16 fr16 cu16 vs16 hv16 hg16 hp16 hq16 => ?_)
        obtain rfl := dec_encS hq16
        refine da_op rfl (d_store_elem (e := encS) (i := s7.2.1) (k := 0) (old := [.string (bs m15)]) (vs := #[.string (bs m14)]) (new := [.string (bs m14)]) (x2 := m14) rfl rfl hv16 B17 hg16 hp16 hm15 size9 (by kernel_rfl) (Nat.le_of_ble_eq_true rfl) rfl rfl (lc_v rfl rfl) rfl fun w18 S18 O19 => ?_)
        have X20 : Ext w w18 := Ext.step X11 S18.frmb (fun k _ hk => own5 k (by rw [hv16, hk]; rfl))
        refine da_nil ?_
        refine W_seq ?_
        refine W_region rfl ?_
        refine da_op rfl (d_mv (v := .string (bs s7.1)) i7_S0 ?_)
        refine da_op rfl (d_mv (v := .int .i64 m9) rfl ?_)
        refine da_op rfl (d_mv (v := .string (bs ([47] : List UInt8))) i7_S1 ?_)
        refine da_op rfl (d_slenL (n := 1) un9 rfl rfl ?_)
        refine da_op rfl (d_iarith rfl rfl (.inl ⟨rfl, rfl⟩) ?_)
        obtain ⟨m21, hm21, hr⟩ := bind_out hr
        refine da_op rfl (d_ssub (a := (IntKind.i64.wrap (m9 + 1))) (b := ((s7.1).length : Int)) un9 rfl (.inr ⟨_, _, rfl, rfl⟩) (.inl ⟨rfl, rfl⟩) hm21 ?_)
        refine da_op rfl (d_as (v := .string (bs m21)) rfl ?_)
        refine da_nil ?_
        refine W_region rfl ?_
        refine da_op rfl (d_mv (v := .int .i64 s7.2.1) i7_S10 ?_)
        refine da_op rfl (d_iarith rfl rfl (.inl ⟨rfl, rfl⟩) ?_)
        refine da_op rfl (d_as (v := .int .i64 (IntKind.i64.wrap (s7.2.1 + 1))) rfl ?_)
        refine da_nil ?_
        obtain rfl := Option.some.inj hr
        exact ⟨_, rfl, ⟨rfl, rfl, i7_S1, i7_S2, i7_S3, i7_S9, O19, X20⟩⟩
    · skip
      replace hr := bif_f hr hc8
      refine W_exit ?_
      obtain rfl := Option.some.inj hr
      exact ⟨_, rfl, rfl, i7_S0, i7_S10, i7_S9, i7_2R, i7_X⟩
  · skip
    intro ex σx7 wx7 hq
    obtain ⟨rfl, q7_0_S0, q7_0_S10, q7_0_S9, q7_0_2R, q7_0_X⟩ := hq
    refine W_seq ?_
    refine W_region rfl ?_
    refine da_op rfl (d_mv (v := (Value.slice v5pa v5pn v5pc)) q7_0_S9 ?_)
    refine da_op rfl (d_mv (v := .int .i64 m7.2.1) q7_0_S10 ?_)
    refine da_op rfl (d_mv (v := .string (bs m7.1)) q7_0_S0 ?_)
    obtain ⟨m22, hm22, hr⟩ := bind_out hr
    refine da_op rfl (d_indexO (e := encS) (v := (Value.slice v5pa v5pn v5pc)) un32 size9 rfl rfl q7_0_2R hm22 fun g23 fr23 cu23 vs23 hv23 hg23 hp23 hq23 => ?_)
    obtain rfl := dec_encS hq23
    refine da_op rfl (d_store_elem (e := encS) (i := m7.2.1) (k := 0) (old := [.string (bs m22)]) (vs := #[.string (bs m7.1)]) (new := [.string (bs m7.1)]) (x2 := m7.1) rfl rfl hv23 q7_0_2R hg23 hp23 hm22 size9 (by kernel_rfl) (Nat.le_of_ble_eq_true rfl) rfl rfl (lc_v rfl rfl) rfl fun w24 S24 O25 => ?_)
    have X26 : Ext w w24 := Ext.step q7_0_X S24.frmb (fun k _ hk => own5 k (by rw [hv23, hk]; rfl))
    refine da_nil ?_
    refine W_seq ?_
    refine W_region rfl ?_
    refine da_op rfl (d_mv (v := (Value.slice v5pa v5pn v5pc)) q7_0_S9 ?_)
    refine da_op rfl (d_mv (v := .int .i64 m7.2.1) q7_0_S10 ?_)
    refine da_op rfl (d_iarith rfl rfl (.inl ⟨rfl, rfl⟩) ?_)
    obtain ⟨m27, hm27, hr⟩ := bind_out hr
    refine da_op rfl (d_lsub (e := encS) (v := (Value.slice v5pa v5pn v5pc)) (a := 0) (b := (IntKind.i64.wrap (m7.2.1 + 1))) un32 size9 rfl O25.rs (.inl ⟨rfl, rfl⟩) (.inr ⟨_, _, rfl, rfl⟩) hm27 fun v28 R28 L28 => ?_)
    obtain ⟨v28pa, v28pn, v28pc, rfl⟩ := R28.vals
    refine da_op rfl (d_as (v := (Value.slice v28pa v28pn v28pc)) rfl ?_)
    refine da_nil ?_
    refine W_ret ?_
    obtain rfl := Option.some.inj hr
    refine ⟨_, res1 (rv_tmp rfl), ?_⟩
    exact ⟨v28pa, v28pn, v28pc, rfl, R28, (fun k hk => own5 k (L28 k hk)), X26⟩
set_option maxHeartbeats 4000000 in
theorem c10_s2f (p0 : List UInt8) (r : List (List UInt8)) (w : World) (hr : M.strings_Split_s2f p0 = some r)  :
    Calls Tryz.prog 10 #[.string (bs p0), .string (bs ([47] : List UInt8))] w fun e w' => ∃ q0a : Option Addr, ∃ q0n : Nat, ∃ q0c : Nat, e = .returned ((Value.slice q0a q0n q0c)) ∧ RS w' encS (Value.slice q0a q0n q0c) r ∧ (∀ k, (Value.slice q0a q0n q0c).ownBlock = some k → w.heap.size ≤ k) ∧ Ext w w' := by
  refine calls_of_W Tryz.func10 rfl (Nat.le_of_ble_eq_true rfl) ?_
  refine W_seq ?_
  refine W_region rfl ?_
  refine da_op rfl (d_as (v := .slice none 0 0) rfl ?_)
  refine da_nil ?_
  refine W_seq ?_
  refine W_region rfl ?_
  refine da_op rfl (d_mv (v := .string (bs p0)) rfl ?_)
  refine da_op rfl (d_mv (v := .string (bs ([47] : List UInt8))) rfl ?_)
  obtain ⟨m1, hm1, hr⟩ := bind_out hr
  refine da_op rfl (d_cl (vs := [.string (bs p0), .string (bs ([47] : List UInt8)), .int .i64 0, .int .i64 (-1)]) en30 (ac rfl (ac rfl (ac rfl (ac rfl rfl)))) rfl ?_)
  refine (c30_s2f_i64n0_i64m1 p0 m1 w hm1 ).mono ?_
  rintro _ w2 ⟨q2_0a, q2_0n, q2_0c, rfl, q2_0R, q2_0F, E2⟩
  refine ⟨_, rfl, ?_⟩
  have own3 : ∀ k, (Value.slice q2_0a q2_0n q2_0c).ownBlock = some k → w.heap.size ≤ k := fun k hk => Nat.le_trans (Ext.refl w).size (q2_0F k hk)
  have X4 : Ext w w2 := (Ext.refl w).trans E2
  refine da_op rfl (d_as (v := (Value.slice q2_0a q2_0n q2_0c)) rfl ?_)
  refine da_nil ?_
  refine W_ret ?_
  obtain rfl := Option.some.inj hr
  refine ⟨_, res1 (rv_tmp rfl), ?_⟩
  exact ⟨q2_0a, q2_0n, q2_0c, rfl, q2_0R, own3, X4⟩
set_option maxHeartbeats 4000000 in
theorem c13 (p0 : List UInt8) (p1 : Int) (r : List (List UInt8) × Bool) (w : World) (hr : M.impl_partedBy p0 p1 = some r)  :
    Calls Tryz.prog 13 #[.string (bs p0), .int .i64 p1] w fun e w' => ∃ q0a : Option Addr, ∃ q0n : Nat, ∃ q0c : Nat, e = .returned (.tuple #[(Value.slice q0a q0n q0c), .bool r.2]) ∧ RS w' encS (Value.slice q0a q0n q0c) r.1 ∧ (∀ k, (Value.slice q0a q0n q0c).ownBlock = some k → w.heap.size ≤ k) ∧ Ext w w' := by
  refine calls_of_W Tryz.func13 rfl (Nat.le_of_ble_eq_true rfl) ?_
  refine W_seq ?_
  refine W_region rfl ?_
  refine da_op rfl (d_as (v := .slice none 0 0) rfl ?_)
  refine da_op rfl (d_as (v := .bool false) rfl ?_)
  refine da_nil ?_
  refine W_seq ?_
  refine W_seq ?_
  refine W_region rfl ?_
  refine da_op rfl (d_mv (v := .string (bs p0)) rfl ?_)
  refine da_op rfl (d_seq rfl rfl ?_)
  refine da_nil ?_
  refine W_cond (b := (p0 == ([110, 111, 110, 101] : List UInt8))) rfl (fun hc1 => ?_) (fun hc1 => ?_)
  · skip
    replace hr := bif_t hr hc1
    refine W_seq ?_
    refine W_region rfl ?_
    refine da_op rfl (d_as (v := .slice none 0 0) rfl ?_)
    refine da_op rfl (d_as (v := .bool true) rfl ?_)
    refine da_nil ?_
    refine W_ret ?_
    obtain rfl := Option.some.inj hr
    refine ⟨_, res2 (rv_tmp rfl) (rv_tmp rfl), ?_⟩
    exact ⟨none, 0, 0, rfl, (RS.nil _ encS), (fun k hk => by cases hk), (Ext.refl w)⟩
  · skip
    replace hr := bif_f hr hc1
    refine W_skip ?_
    refine W_seq ?_
    refine W_region rfl ?_
    refine da_op rfl (d_mv (v := .string (bs p0)) rfl ?_)
    obtain ⟨m2, hm2, hr⟩ := bind_out hr
    refine da_op rfl (d_cl (vs := [.string (bs p0), .string (bs ([47] : List UInt8))]) en10 (ac rfl (ac rfl rfl)) rfl ?_)
    refine (c10_s2f p0 m2 w hm2 ).mono ?_
    rintro _ w3 ⟨q3_0a, q3_0n, q3_0c, rfl, q3_0R, q3_0F, E3⟩
    refine ⟨_, rfl, ?_⟩
    have own4 : ∀ k, (Value.slice q3_0a q3_0n q3_0c).ownBlock = some k → w.heap.size ≤ k := fun k hk => Nat.le_trans (Ext.refl w).size (q3_0F k hk)
    have X5 : Ext w w3 := (Ext.refl w).trans E3
    refine da_op rfl (d_as (v := (Value.slice q3_0a q3_0n q3_0c)) rfl ?_)
    refine da_nil ?_
    refine W_seq ?_
    refine W_region rfl ?_
    refine da_op rfl (d_mv (v := (Value.slice q3_0a q3_0n q3_0c)) rfl ?_)
    refine da_op rfl (d_mv (v := (Value.slice q3_0a q3_0n q3_0c)) rfl ?_)
    refine da_op rfl (d_len (e := encS) un32 rfl q3_0R ?_)
    refine da_op rfl (d_mv (v := .int .i64 p1) rfl ?_)
    refine da_op rfl (d_icmp cLeq rfl rfl ?_)
    refine da_op rfl (d_as (v := (Value.slice q3_0a q3_0n q3_0c)) rfl ?_)
    refine da_op rfl (d_as (v := .bool (icmp .leq ((m2).length : Int) p1)) rfl ?_)
    refine da_nil ?_
    refine W_ret ?_
    obtain rfl := Option.some.inj hr
    refine ⟨_, res2 (rv_tmp rfl) (rv_tmp rfl), ?_⟩
    exact ⟨q3_0a, q3_0n, q3_0c, rfl, q3_0R, own4, X5⟩
set_option maxHeartbeats 4000000 in
theorem c47_s2c (p0 : List UInt8) (r : Int) (w : World) (hr : M.strings_Count_s2c p0 = some r)  :
    Calls Tryz.prog 47 #[.string (bs p0), .string (bs ([44] : List UInt8))] w fun e w' => e = .returned (.int .i64 r) ∧ Ext w w' := by
  refine calls_of_W Tryz.func47 rfl (Nat.le_of_ble_eq_true rfl) ?_
  refine W_seq ?_
  refine W_region rfl ?_
  refine da_op rfl (d_as (v := .int .i64 0) rfl ?_)
  refine da_nil ?_
  refine W_seq ?_
  refine W_seq ?_
  refine W_region rfl ?_
  refine da_op rfl (d_mv (v := .string (bs ([44] : List UInt8))) rfl ?_)
  refine da_op rfl (d_slenL (n := 1) un9 rfl rfl ?_)
  refine da_op rfl (d_icmpL (b := false) cEql rfl rfl (by decide) ?_)
  refine da_nil ?_
  refine W_false rfl ?_
  refine W_skip ?_
  refine W_seq ?_
  refine W_seq ?_
  refine W_region rfl ?_
  refine da_op rfl (d_mv (v := .string (bs ([44] : List UInt8))) rfl ?_)
  refine da_op rfl (d_slenL (n := 1) un9 rfl rfl ?_)
  refine da_op rfl (d_icmpL (b := true) cEql rfl rfl (by decide) ?_)
  refine da_nil ?_
  refine W_true rfl ?_
  refine W_seq ?_
  refine W_region rfl ?_
  refine da_op rfl (d_mv (v := .string (bs p0)) rfl ?_)
  refine da_op rfl (d_mv (v := .string (bs ([44] : List UInt8))) rfl ?_)
  obtain ⟨m1, hm1, hr⟩ := bind_out hr
  refine da_op rfl (d_sidx un9 rfl rfl hm1 ?_)
  refine da_op rfl (d_scount ext69_0 ext69_1 ext69_2 (Option.isNone_iff_eq_none.1 ext69_3) ext69_4 rfl rfl rfl ?_)
  refine da_op rfl (d_as (v := .int .i64 (scount p0 m1)) rfl ?_)
  refine da_nil ?_
  refine W_ret ?_
  obtain rfl := Option.some.inj hr
  refine ⟨_, res1 (rv_tmp rfl), ?_⟩
  exact ⟨rfl, (Ext.refl w)⟩
set_option maxHeartbeats 4000000 in
theorem c70_s2c (p0 : List UInt8) (r : Int) (w : World) (hr : M.internal_stringslite_Index_s2c p0 = some r)  :
    Calls Tryz.prog 70 #[.string (bs p0), .string (bs ([44] : List UInt8))] w fun e w' => e = .returned (.int .i64 r) ∧ Ext w w' := by
  refine calls_of_W Tryz.func70 rfl (Nat.le_of_ble_eq_true rfl) ?_
  refine W_seq ?_
  refine W_region rfl ?_
  refine da_op rfl (d_as (v := .int .i64 0) rfl ?_)
  refine da_nil ?_
  refine W_seq ?_
  refine W_region rfl ?_
  refine da_op rfl (d_mv (v := .string (bs ([44] : List UInt8))) rfl ?_)
  refine da_op rfl (d_slenL (n := 1) un9 rfl rfl ?_)
  refine da_op rfl (d_as (v := .int .i64 1) rfl ?_)
  refine da_nil ?_
  refine W_seq ?_
  refine W_block ?_
  refine W_seq ?_
  refine W_cut (fun σ' w' => σ' 16 = .bool (([44] : List UInt8) == p0) ∧ Ext w w') rfl ?_ ?_
  · skip
    clear hr
    refine da_op rfl (d_mv (v := .int .i64 1) rfl ?_)
    refine da_op rfl (d_icmpL (b := false) cEql rfl rfl (by decide) ?_)
    refine da_op rfl (d_mv (v := .bool false) rfl ?_)
    refine da_on rfl rfl (d_mv (v := .string (bs ([44] : List UInt8))) rfl ?_)
    refine da_on rfl rfl (d_mv (v := .string (bs p0)) rfl ?_)
    refine da_on rfl rfl (d_seq rfl rfl ?_)
    refine da_op rfl (d_pick (b := false) rfl ?_)
    refine da_op rfl (d_as (v := .bool (([44] : List UInt8) == p0)) rfl ?_)
    refine da_nil ?_
    exact ⟨rfl, (Ext.refl w)⟩
  · skip
    rintro σ1 w1 o1 ⟨s16_1, E1⟩
    have s0_1 : σ1 0 = .string (bs p0) := (o1 0 rfl).trans rfl
    have s1_1 : σ1 1 = .string (bs ([44] : List UInt8)) := (o1 1 rfl).trans rfl
    have s5_1 : σ1 5 = .int .i64 1 := (o1 5 rfl).trans rfl
    have X2 : Ext w w1 := (Ext.refl w).trans E1
    refine W_cond (b := (([44] : List UInt8) == p0)) s16_1 (fun hc3 => ?_) (fun hc3 => ?_)
    · skip
      replace hr := bif_t hr hc3
      refine W_seq ?_
      refine W_region rfl ?_
      refine da_op rfl (d_as (v := .int .i64 0) rfl ?_)
      refine da_nil ?_
      refine W_ret ?_
      obtain rfl := Option.some.inj hr
      refine ⟨_, res1 (rv_tmp rfl), ?_⟩
      exact ⟨rfl, X2⟩
    · skip
      replace hr := bif_f hr hc3
      refine W_seq ?_
      refine W_region rfl ?_
      refine da_op rfl (d_mv (v := .int .i64 1) s5_1 ?_)
      refine da_op rfl (d_icmpL (b := true) cEql rfl rfl (by decide) ?_)
      refine da_op rfl (d_as (v := .bool true) rfl ?_)
      refine da_nil ?_
      refine W_true rfl ?_
      refine W_seq ?_
      refine W_region rfl ?_
      refine da_op rfl (d_mv (v := .string (bs p0)) s0_1 ?_)
      refine da_op rfl (d_mv (v := .string (bs ([44] : List UInt8))) s1_1 ?_)
      obtain ⟨m4, hm4, hr⟩ := bind_out hr
      refine da_op rfl (d_sidx un9 rfl rfl hm4 ?_)
      obtain ⟨m5, hm5, hr⟩ := letv_out hr
      refine da_op rfl (d_cl (vs := [.string (bs p0), .int .u8 m4]) en71 (ac rfl (ac rfl rfl)) rfl ?_)
      refine (c71 p0 m4 m5 w1 hm5 ).mono ?_
      rintro _ w6 ⟨rfl, E6⟩
      refine ⟨_, rfl, ?_⟩
      have X7 : Ext w w6 := X2.trans E6
      refine da_op rfl (d_as (v := .int .i64 m5) rfl ?_)
      refine da_nil ?_
      refine W_ret ?_
      obtain rfl := Option.some.inj hr
      refine ⟨_, res1 (rv_tmp rfl), ?_⟩
      exact ⟨rfl, X7⟩
set_option maxHeartbeats 4000000 in
theorem c48_s2c (p0 : List UInt8) (r : Int) (w : World) (hr : M.strings_Index_s2c p0 = some r)  :
    Calls Tryz.prog 48 #[.string (bs p0), .string (bs ([44] : List UInt8))] w fun e w' => e = .returned (.int .i64 r) ∧ Ext w w' := by
  refine calls_of_W Tryz.func48 rfl (Nat.le_of_ble_eq_true rfl) ?_
  refine W_seq ?_
  refine W_region rfl ?_
  refine da_op rfl (d_as (v := .int .i64 0) rfl ?_)
  refine da_nil ?_
  refine W_seq ?_
  refine W_region rfl ?_
  refine da_op rfl (d_mv (v := .string (bs p0)) rfl ?_)
  refine da_op rfl (d_mv (v := .string (bs ([44] : List UInt8))) rfl ?_)
  obtain ⟨m1, hm1, hr⟩ := bind_out hr
  refine da_op rfl (d_cl (vs := [.string (bs p0), .string (bs ([44] : List UInt8))]) en70 (ac rfl (ac rfl rfl)) rfl ?_)
  refine (c70_s2c p0 m1 w hm1 ).mono ?_
  rintro _ w2 ⟨rfl, E2⟩
  refine ⟨_, rfl, ?_⟩
  have X3 : Ext w w2 := (Ext.refl w).trans E2
  refine da_op rfl (d_as (v := .int .i64 m1) rfl ?_)
  refine da_nil ?_
  refine W_ret ?_
  obtain rfl := Option.some.inj hr
  refine ⟨_, res1 (rv_tmp rfl), ?_⟩
  exact ⟨rfl, X3⟩
set_option maxHeartbeats 4000000 in
theorem c30_s2c_i64n0_i64m1 (p0 : List UInt8) (r : List (List UInt8)) (w : World) (hr : M.strings_genSplit_s2c_i64n0_i64m1 p0 = some r)  :
    Calls Tryz.prog 30 #[.string (bs p0), .string (bs ([44] : List UInt8)), .int .i64 0, .int .i64 (-1)] w fun e w' => ∃ q0a : Option Addr, ∃ q0n : Nat, ∃ q0c : Nat, e = .returned ((Value.slice q0a q0n q0c)) ∧ RS w' encS (Value.slice q0a q0n q0c) r ∧ (∀ k, (Value.slice q0a q0n q0c).ownBlock = some k → w.heap.size ≤ k) ∧ Ext w w' := by
  refine calls_of_W Tryz.func30 rfl (Nat.le_of_ble_eq_true rfl) ?_
  refine W_seq ?_
  refine W_region rfl ?_
  refine da_op rfl (d_as (v := .slice none 0 0) rfl ?_)
  refine da_nil ?_
  refine W_seq ?_
  refine W_seq ?_
  refine W_region rfl ?_
  refine da_op rfl (d_mv (v := .int .i64 (-1)) rfl ?_)
  refine da_op rfl (d_icmpL (b := false) cEql rfl rfl (by decide) ?_)
  refine da_nil ?_
  refine W_false rfl ?_
  refine W_skip ?_
  refine W_seq ?_
  refine W_seq ?_
  refine W_region rfl ?_
  refine da_op rfl (d_mv (v := .string (bs ([44] : List UInt8))) rfl ?_)
  refine da_op rfl (d_seqL (b := false) rfl rfl (by decide) ?_)
  refine da_nil ?_
  refine W_false rfl ?_
  refine W_skip ?_
  refine W_seq ?_
  refine W_seq ?_
  refine W_region rfl ?_
  refine da_op rfl (d_mv (v := .int .i64 (-1)) rfl ?_)
  refine da_op rfl (d_icmpL (b := true) cLss rfl rfl (by decide) ?_)
  refine da_nil ?_
  refine W_true rfl ?_
  refine W_region rfl ?_
  refine da_op rfl (d_mv (v := .string (bs p0)) rfl ?_)
  refine da_op rfl (d_mv (v := .string (bs ([44] : List UInt8))) rfl ?_)
  obtain ⟨m1, hm1, hr⟩ := bind_out hr
  refine da_op rfl (d_cl (vs := [.string (bs p0), .string (bs ([44] : List UInt8))]) en47 (ac rfl (ac rfl rfl)) rfl ?_)
  refine (c47_s2c p0 m1 w hm1 ).mono ?_
  rintro _ w2 ⟨rfl, E2⟩
  refine ⟨_, rfl, ?_⟩
  have X3 : Ext w w2 := (Ext.refl w).trans E2
  refine da_op rfl (d_iarith rfl rfl (.inl ⟨rfl, rfl⟩) ?_)
  refine da_op rfl (d_as (v := .int .i64 (IntKind.i64.wrap (m1 + 1))) rfl ?_)
  refine da_nil ?_
  refine W_seq ?_
  refine W_region rfl ?_
  refine da_op rfl (d_mv (v := .int .i64 (IntKind.i64.wrap (m1 + 1))) rfl ?_)
  refine da_op rfl (d_mv (v := .string (bs p0)) rfl ?_)
  refine da_op rfl (d_slen un9 rfl ?_)
  refine da_op rfl (d_iarith rfl rfl (.inl ⟨rfl, rfl⟩) ?_)
  refine da_op rfl (d_min rfl rfl ?_)
  refine da_op rfl (d_as (v := .int .i64 (imin (IntKind.i64.wrap (m1 + 1)) (IntKind.i64.wrap (((p0).length : Int) + 1)))) rfl ?_)
  refine da_nil ?_
  refine W_seq ?_
  refine W_region rfl ?_
  refine da_op rfl (d_mv (v := .int .i64 (imin (IntKind.i64.wrap (m1 + 1)) (IntKind.i64.wrap (((p0).length : Int) + 1)))) rfl ?_)
  obtain ⟨m4, hm4, hr⟩ := bind_out hr
  refine da_op rfl (d_make (e := encS) un32 info9 rfl (by kernel_rfl) (by kernel_rfl) (by decide) (by decide) rfl rfl hm4 fun v5 w5 O5 E5 fr5 => ?_)
  obtain ⟨v5pa, v5pn, v5pc, rfl⟩ := O5.vals
  have own5 : ∀ k, (Value.slice v5pa v5pn v5pc).ownBlock = some k → w.heap.size ≤ k := fun k hk => Nat.le_trans X3.size (fr5 k hk)
  have X6 : Ext w w5 := X3.trans E5
  refine da_op rfl (d_as (v := (Value.slice v5pa v5pn v5pc)) rfl ?_)
  refine da_nil ?_
  refine W_seq ?_
  refine W_region rfl ?_
  refine da_op rfl (d_mv (v := .int .i64 (imin (IntKind.i64.wrap (m1 + 1)) (IntKind.i64.wrap (((p0).length : Int) + 1)))) rfl ?_)
  refine da_op rfl (d_iarith rfl rfl (.inr (.inl ⟨rfl, rfl⟩)) ?_)
  refine da_op rfl (d_as (v := .int .i64 (IntKind.i64.wrap ((imin (IntKind.i64.wrap (m1 + 1)) (IntKind.i64.wrap (((p0).length : Int) + 1))) - 1))) rfl ?_)
  refine da_nil ?_
  refine W_seq ?_
  refine W_region rfl ?_
  refine da_op rfl (d_as (v := .int .i64 0) rfl ?_)
  refine da_nil ?_
  refine W_seq ?_
  refine W_block ?_
  obtain ⟨m7, hm7, hr⟩ := bind_out hr
  refine W_loopM hm7 (fun (s7 : List UInt8 × Int × List (List UInt8)) σ w' => σ 0 = .string (bs s7.1) ∧ σ 10 = .int .i64 s7.2.1 ∧ σ 1 = .string (bs ([44] : List UInt8)) ∧ σ 2 = .int .i64 0 ∧ σ 3 = .int .i64 (IntKind.i64.wrap ((imin (IntKind.i64.wrap (m1 + 1)) (IntKind.i64.wrap (((p0).length : Int) + 1))) - 1)) ∧ σ 9 = (Value.slice v5pa v5pn v5pc) ∧ OS w' 9 encS (Value.slice v5pa v5pn v5pc) s7.2.2 ∧ Ext w w') (fun (e7 : (List UInt8 × Int × List (List UInt8))) ex σ w' => ex = .exit 0 ∧ σ 0 = .string (bs e7.1) ∧ σ 10 = .int .i64 e7.2.1 ∧ σ 9 = (Value.slice v5pa v5pn v5pc) ∧ OS w' 9 encS (Value.slice v5pa v5pn v5pc) e7.2.2 ∧ Ext w w') ⟨rfl, rfl, rfl, rfl, rfl, rfl, O5, X6⟩ ?_ ?_
  · skip
    rintro s7 σl7 wl7 r7l ⟨i7_S0, i7_S10, i7_S1, i7_S2, i7_S3, i7_S9, i7_2R, i7_X⟩ hr
    refine W_seq ?_
    refine W_seq ?_
    refine W_region rfl ?_
    refine da_op rfl (d_mv (v := .int .i64 s7.2.1) i7_S10 ?_)
    refine da_op rfl (d_mv (v := .int .i64 (IntKind.i64.wrap ((imin (IntKind.i64.wrap (m1 + 1)) (IntKind.i64.wrap (((p0).length : Int) + 1))) - 1))) i7_S3 ?_)
    refine da_op rfl (d_icmp cLss rfl rfl ?_)
    refine da_nil ?_
    refine W_cond (b := (icmp .lss s7.2.1 (IntKind.i64.wrap ((imin (IntKind.i64.wrap (m1 + 1)) (IntKind.i64.wrap (((p0).length : Int) + 1))) - 1)))) rfl (fun hc8 => ?_) (fun hc8 => ?_)
    · skip
      replace hr := bif_t hr hc8
      refine W_skip ?_
      refine W_block ?_
      refine W_seq ?_
      refine W_region rfl ?_
      refine da_op rfl (d_mv (v := .string (bs s7.1)) i7_S0 ?_)
      refine da_op rfl (d_mv (v := .string (bs ([44] : List UInt8))) i7_S1 ?_)
      obtain ⟨m9, hm9, hr⟩ := bind_out hr
      refine da_op rfl (d_cl (vs := [.string (bs s7.1), .string (bs ([44] : List UInt8))]) en48 (ac rfl (ac rfl rfl)) rfl ?_)
      refine (c48_s2c s7.1 m9 wl7 hm9 ).mono ?_
      rintro _ w10 ⟨rfl, E10⟩
      refine ⟨_, rfl, ?_⟩
      have X11 : Ext w w10 := i7_X.trans E10
      refine da_op rfl (d_as (v := .int .i64 m9) rfl ?_)
      refine da_nil ?_
      refine W_seq ?_
      refine W_seq ?_
      refine W_region rfl ?_
      refine da_op rfl (d_mv (v := .int .i64 m9) rfl ?_)
      refine da_op rfl (d_icmp cLss rfl rfl ?_)
      refine da_nil ?_
      refine W_cond (b := (icmp .lss m9 0)) rfl (fun hc12 => ?_) (fun hc12 => ?_)
      · skip
        replace hr := bif_t hr hc12
        refine W_exit ?_
        have B13 : OS w10 9 encS (Value.slice v5pa v5pn v5pc) s7.2.2 := i7_2R.ext E10
        obtain rfl := Option.some.inj hr
        exact ⟨_, rfl, rfl, i7_S0, i7_S10, i7_S9, B13, X11⟩
      · skip
        replace hr := bif_f hr hc12
        refine W_skip ?_
        refine W_seq ?_
        refine W_region rfl ?_
        refine da_op rfl (d_mv (v := (Value.slice v5pa v5pn v5pc)) i7_S9 ?_)
        refine da_op rfl (d_mv (v := .int .i64 s7.2.1) i7_S10 ?_)
        refine da_op rfl (d_mv (v := .string (bs s7.1)) i7_S0 ?_)
        refine da_op rfl (d_mv (v := .int .i64 m9) rfl ?_)
        refine da_op rfl (d_mv (v := .int .i64 0) i7_S2 ?_)
        refine da_op rfl (d_iarith rfl rfl (.inl ⟨rfl, rfl⟩) ?_)
        obtain ⟨m14, hm14, hr⟩ := bind_out hr
        refine da_op rfl (d_ssub (a := 0) (b := (IntKind.i64.wrap (m9 + 0))) un9 rfl (.inl ⟨rfl, rfl⟩) (.inr ⟨_, _, rfl, rfl⟩) hm14 ?_)
        obtain ⟨m15, hm15, hr⟩ := bind_out hr
        have B17 : OS w10 9 encS (Value.slice v5pa v5pn v5pc) s7.2.2 := i7_2R.ext E10
        refine da_op rfl (d_indexO (e := encS) (v := (Value.slice v5pa v5pn v5pc)) un32 size9 rfl rfl B17 hm15 fun g16 fr16 cu16 vs16 hv16 hg16 hp16 hq16 => ?_)
        obtain rfl := dec_encS hq16
        refine da_op rfl (d_store_elem (e := encS) (i := s7.2.1) (k := 0) (old := [.string (bs m15)]) (vs := #[.string (bs m14)]) (new := [.string (bs m14)]) (x2 := m14) rfl rfl hv16 B17 hg16 hp16 hm15 size9 (by kernel_rfl) (Nat.le_of_ble_eq_true rfl) rfl rfl (lc_v rfl rfl) rfl fun w18 S18 O19 => ?_)
        have X20 : Ext w w18 := Ext.step X11 S18.frmb (fun k _ hk => own5 k (by rw [hv16, hk]; rfl))
        refine da_nil ?_
        refine W_seq ?_
        refine W_region rfl ?_
        refine da_op rfl (d_mv (v := .string (bs s7.1)) i7_S0 ?_)
        refine da_op rfl (d_mv (v := .int .i64 m9) rfl ?_)
        refine da_op rfl (d_mv (v := .string (bs ([44] : List UInt8))) i7_S1 ?_)
        refine da_op rfl (d_slenL (n := 1) un9 rfl rfl ?_)
        refine da_op rfl (d_iarith rfl rfl (.inl ⟨rfl, rfl⟩) ?_)
        obtain ⟨m21, hm21, hr⟩ := bind_out hr
        refine da_op rfl (d_ssub (a := (IntKind.i64.wrap (m9 + 1))) (b := ((s7.1).length : Int)) un9 rfl (.inr ⟨_, _, rfl, rfl⟩) (.inl ⟨rfl, rfl⟩) hm21 ?_)
        refine da_op rfl (d_as (v := .string (bs m21)) rfl ?_)
        refine da_nil ?_
        refine W_region rfl ?_
        refine da_op rfl (d_mv (v := .int .i64 s7.2.1) i7_S10 ?_)
        refine da_op rfl (d_iarith rfl rfl (.inl ⟨rfl, rfl⟩) ?_)
        refine da_op rfl (d_as (v := .int .i64 (IntKind.i64.wrap (s7.2.1 + 1))) rfl ?_)
        refine da_nil ?_
        obtain rfl := Option.some.inj hr
        exact ⟨_, rfl, ⟨rfl, rfl, i7_S1, i7_S2, i7_S3, i7_S9, O19, X20⟩⟩
    · skip
      replace hr := bif_f hr hc8
      refine W_exit ?_
      obtain rfl := Option.some.inj hr
      exact ⟨_, rfl, rfl, i7_S0, i7_S10, i7_S9, i7_2R, i7_X⟩
  · skip
    intro ex σx7 wx7 hq
    obtain ⟨rfl, q7_0_S0, q7_0_S10, q7_0_S9, q7_0_2R, q7_0_X⟩ := hq
    refine W_seq ?_
    refine W_region rfl ?_
    refine da_op rfl (d_mv (v := (Value.slice v5pa v5pn v5pc)) q7_0_S9 ?_)
    refine da_op rfl (d_mv (v := .int .i64 m7.2.1) q7_0_S10 ?_)
    refine da_op rfl (d_mv (v := .string (bs m7.1)) q7_0_S0 ?_)
    obtain ⟨m22, hm22, hr⟩ := bind_out hr
    refine da_op rfl (d_indexO (e := encS) (v := (Value.slice v5pa v5pn v5pc)) un32 size9 rfl rfl q7_0_2R hm22 fun g23 fr23 cu23 vs23 hv23 hg23 hp23 hq23 => ?_)
    obtain rfl := dec_encS hq23
    refine da_op rfl (d_store_elem (e := encS) (i := m7.2.1) (k := 0) (old := [.string (bs m22)]) (vs := #[.string (bs m7.1)]) (new := [.string (bs m7.1)]) (x2 := m7.1) rfl rfl hv23 q7_0_2R hg23 hp23 hm22 size9 (by kernel_rfl) (Nat.le_of_ble_eq_true rfl) rfl rfl (lc_v rfl rfl) rfl fun w24 S24 O25 => ?_)
    have X26 : Ext w w24 := Ext.step q7_0_X S24.frmb (fun k _ hk => own5 k (by rw [hv23, hk]; rfl))
    refine da_nil ?_
    refine W_seq ?_
    refine W_region rfl ?_
    refine da_op rfl (d_mv (v := (Value.slice v5pa v5pn v5pc)) q7_0_S9 ?_)
    refine da_op rfl (d_mv (v := .int .i64 m7.2.1) q7_0_S10 ?_)
    refine da_op rfl (d_iarith rfl rfl (.inl ⟨rfl, rfl⟩) ?_)
    obtain ⟨m27, hm27, hr⟩ := bind_out hr
    refine da_op rfl (d_lsub (e := encS) (v := (Value.slice v5pa v5pn v5pc)) (a := 0) (b := (IntKind.i64.wrap (m7.2.1 + 1))) un32 size9 rfl O25.rs (.inl ⟨rfl, rfl⟩) (.inr ⟨_, _, rfl, rfl⟩) hm27 fun v28 R28 L28 => ?_)
    obtain ⟨v28pa, v28pn, v28pc, rfl⟩ := R28.vals
    refine da_op rfl (d_as (v := (Value.slice v28pa v28pn v28pc)) rfl ?_)
    refine da_nil ?_
    refine W_ret ?_
    obtain rfl := Option.some.inj hr
    refine ⟨_, res1 (rv_tmp rfl), ?_⟩
    exact ⟨v28pa, v28pn, v28pc, rfl, R28, (fun k hk => own5 k (L28 k hk)), X26⟩
set_option maxHeartbeats 4000000 in
theorem c10_s2c (p0 : List UInt8) (r : List (List UInt8)) (w : World) (hr : M.strings_Split_s2c p0 = some r)  :
    Calls Tryz.prog 10 #[.string (bs p0), .string (bs ([44] : List UInt8))] w fun e w' => ∃ q0a : Option Addr, ∃ q0n : Nat, ∃ q0c : Nat, e = .returned ((Value.slice q0a q0n q0c)) ∧ RS w' encS (Value.slice q0a q0n q0c) r ∧ (∀ k, (Value.slice q0a q0n q0c).ownBlock = some k → w.heap.size ≤ k) ∧ Ext w w' := by
  refine calls_of_W Tryz.func10 rfl (Nat.le_of_ble_eq_true rfl) ?_
  refine W_seq ?_
  refine W_region rfl ?_
  refine da_op rfl (d_as (v := .slice none 0 0) rfl ?_)
  refine da_nil ?_
  refine W_seq ?_
  refine W_region rfl ?_
  refine da_op rfl (d_mv (v := .string (bs p0)) rfl ?_)
  refine da_op rfl (d_mv (v := .string (bs ([44] : List UInt8))) rfl ?_)
  obtain ⟨m1, hm1, hr⟩ := bind_out hr
  refine da_op rfl (d_cl (vs := [.string (bs p0), .string (bs ([44] : List UInt8)), .int .i64 0, .int .i64 (-1)]) en30 (ac rfl (ac rfl (ac rfl (ac rfl rfl)))) rfl ?_)
  refine (c30_s2c_i64n0_i64m1 p0 m1 w hm1 ).mono ?_
  rintro _ w2 ⟨q2_0a, q2_0n, q2_0c, rfl, q2_0R, q2_0F, E2⟩
  refine ⟨_, rfl, ?_⟩
  have own3 : ∀ k, (Value.slice q2_0a q2_0n q2_0c).ownBlock = some k → w.heap.size ≤ k := fun k hk => Nat.le_trans (Ext.refl w).size (q2_0F k hk)
  have X4 : Ext w w2 := (Ext.refl w).trans E2
  refine da_op rfl (d_as (v := (Value.slice q2_0a q2_0n q2_0c)) rfl ?_)
  refine da_nil ?_
  refine W_ret ?_
  obtain rfl := Option.some.inj hr
  refine ⟨_, res1 (rv_tmp rfl), ?_⟩
  exact ⟨q2_0a, q2_0n, q2_0c, rfl, q2_0R, own3, X4⟩
set_option maxHeartbeats 4000000 in
theorem c32 (p0 : List UInt8) (r : List (List UInt8)) (w : World) (hr : M.impl_parted p0 = some r)  :
    Calls Tryz.prog 32 #[.string (bs p0)] w fun e w' => ∃ q0a : Option Addr, ∃ q0n : Nat, ∃ q0c : Nat, e = .returned ((Value.slice q0a q0n q0c)) ∧ RS w' encS (Value.slice q0a q0n q0c) r ∧ (∀ k, (Value.slice q0a q0n q0c).ownBlock = some k → w.heap.size ≤ k) ∧ Ext w w' := by
  refine calls_of_W Tryz.func32 rfl (Nat.le_of_ble_eq_true rfl) ?_
  refine W_seq ?_
  refine W_region rfl ?_
  refine da_op rfl (d_as (v := .slice none 0 0) rfl ?_)
  refine da_nil ?_
  refine W_seq ?_
  refine W_seq ?_
  refine W_region rfl ?_
  refine da_op rfl (d_mv (v := .string (bs p0)) rfl ?_)
  refine da_op rfl (d_seq rfl rfl ?_)
  refine da_nil ?_
  refine W_cond (b := (p0 == ([110, 111, 110, 101] : List UInt8))) rfl (fun hc1 => ?_) (fun hc1 => ?_)
  · skip
    replace hr := bif_t hr hc1
    refine W_seq ?_
    refine W_region rfl ?_
    refine da_op rfl (d_as (v := .slice none 0 0) rfl ?_)
    refine da_nil ?_
    refine W_ret ?_
    obtain rfl := Option.some.inj hr
    refine ⟨_, res1 (rv_tmp rfl), ?_⟩
    exact ⟨none, 0, 0, rfl, (RS.nil _ encS), (fun k hk => by cases hk), (Ext.refl w)⟩
  · skip
    replace hr := bif_f hr hc1
    refine W_skip ?_
    refine W_seq ?_
    refine W_region rfl ?_
    refine da_op rfl (d_mv (v := .string (bs p0)) rfl ?_)
    obtain ⟨m2, hm2, hr⟩ := bind_out hr
    refine da_op rfl (d_cl (vs := [.string (bs p0), .string (bs ([44] : List UInt8))]) en10 (ac rfl (ac rfl rfl)) rfl ?_)
    refine (c10_s2c p0 m2 w hm2 ).mono ?_
    rintro _ w3 ⟨q3_0a, q3_0n, q3_0c, rfl, q3_0R, q3_0F, E3⟩
    refine ⟨_, rfl, ?_⟩
    have own4 : ∀ k, (Value.slice q3_0a q3_0n q3_0c).ownBlock = some k → w.heap.size ≤ k := fun k hk => Nat.le_trans (Ext.refl w).size (q3_0F k hk)
    have X5 : Ext w w3 := (Ext.refl w).trans E3
    refine da_op rfl (d_as (v := (Value.slice q3_0a q3_0n q3_0c)) rfl ?_)
    refine da_nil ?_
    refine W_ret ?_
    obtain rfl := Option.some.inj hr
    refine ⟨_, res1 (rv_tmp rfl), ?_⟩
    exact ⟨q3_0a, q3_0n, q3_0c, rfl, q3_0R, own4, X5⟩
set_option maxHeartbeats 4000000 in
theorem c71_s30313233343536373839616263646566 (p1 : Int) (r : Int) (w : World) (hr : M.internal_stringslite_IndexByte_s30313233343536373839616263646566 p1 = r)  :
    Calls Tryz.prog 71 #[.string (bs ([48, 49, 50, 51, 52, 53, 54, 55, 56, 57, 97, 98, 99, 100, 101, 102] : List UInt8)), .int .u8 p1] w fun e w' => e = .returned (.int .i64 r) ∧ Ext w w' := by
  refine calls_of_W Tryz.func71 rfl (Nat.le_of_ble_eq_true rfl) ?_
  refine W_seq ?_
  refine W_region rfl ?_
  refine da_op rfl (d_as (v := .int .i64 0) rfl ?_)
  refine da_nil ?_
  refine W_seq ?_
  refine W_region rfl ?_
  refine da_op rfl (d_mv (v := .string (bs ([48, 49, 50, 51, 52, 53, 54, 55, 56, 57, 97, 98, 99, 100, 101, 102] : List UInt8))) rfl ?_)
  refine da_op rfl (d_mv (v := .int .u8 p1) rfl ?_)
  refine da_op rfl (d_sfind ext87_0 ext87_1 ext87_2 (Option.isNone_iff_eq_none.1 ext87_3) ext87_4 rfl rfl rfl ?_)
  refine da_op rfl (d_as (v := .int .i64 (sfind ([48, 49, 50, 51, 52, 53, 54, 55, 56, 57, 97, 98, 99, 100, 101, 102] : List UInt8) p1)) rfl ?_)
  refine da_nil ?_
  refine W_ret ?_
  subst hr
  refine ⟨_, res1 (rv_tmp rfl), ?_⟩
  exact ⟨rfl, (Ext.refl w)⟩
set_option maxHeartbeats 4000000 in
theorem c49_s30313233343536373839616263646566 (p1 : Int) (r : Int) (w : World) (hr : M.strings_IndexByte_s30313233343536373839616263646566 p1 = r)  :
    Calls Tryz.prog 49 #[.string (bs ([48, 49, 50, 51, 52, 53, 54, 55, 56, 57, 97, 98, 99, 100, 101, 102] : List UInt8)), .int .u8 p1] w fun e w' => e = .returned (.int .i64 r) ∧ Ext w w' := by
  refine calls_of_W Tryz.func49 rfl (Nat.le_of_ble_eq_true rfl) ?_
  refine W_seq ?_
  refine W_region rfl ?_
  refine da_op rfl (d_as (v := .int .i64 0) rfl ?_)
  refine da_nil ?_
  refine W_seq ?_
  refine W_region rfl ?_
  refine da_op rfl (d_mv (v := .string (bs ([48, 49, 50, 51, 52, 53, 54, 55, 56, 57, 97, 98, 99, 100, 101, 102] : List UInt8))) rfl ?_)
  refine da_op rfl (d_mv (v := .int .u8 p1) rfl ?_)
  obtain ⟨m1, hm1, hr⟩ := letv_out hr
  refine da_op rfl (d_cl (vs := [.string (bs ([48, 49, 50, 51, 52, 53, 54, 55, 56, 57, 97, 98, 99, 100, 101, 102] : List UInt8)), .int .u8 p1]) en71 (ac rfl (ac rfl rfl)) rfl ?_)
  refine (c71_s30313233343536373839616263646566 p1 m1 w hm1 ).mono ?_
  rintro _ w2 ⟨rfl, E2⟩
  refine ⟨_, rfl, ?_⟩
  have X3 : Ext w w2 := (Ext.refl w).trans E2
  refine da_op rfl (d_as (v := .int .i64 m1) rfl ?_)
  refine da_nil ?_
  refine W_ret ?_
  subst hr
  refine ⟨_, res1 (rv_tmp rfl), ?_⟩
  exact ⟨rfl, X3⟩
set_option maxHeartbeats 4000000 in
theorem c72 (p0 : Int) (p1 : Int) (p2 : Int) (r : Bool) (w : World) (hr : M.impl_in p0 p1 p2 = r)  :
    Calls Tryz.prog 72 #[.int .i64 p0, .int .i64 p1, .int .i64 p2] w fun e w' => e = .returned (.bool r) ∧ Ext w w' := by
  refine calls_of_W Tryz.func72 rfl (Nat.le_of_ble_eq_true rfl) ?_
  refine W_seq ?_
  refine W_region rfl ?_
  refine da_op rfl (d_as (v := .bool false) rfl ?_)
  refine da_nil ?_
  refine W_seq ?_
  obtain ⟨m1, hm1, hr⟩ := letv_out hr
  refine W_cut (fun σ' w' => σ' 6 = .bool m1 ∧ Ext w w') rfl ?_ ?_
  · skip
    have hr := hm1
    refine da_op rfl (d_mv (v := .int .i64 p0) rfl ?_)
    refine da_op rfl (d_mv (v := .int .i64 p1) rfl ?_)
    refine da_op rfl (d_icmp cGeq rfl rfl ?_)
    refine da_op rfl (d_mv (v := .bool (icmp .geq p0 p1)) rfl ?_)
    rcases Bool.eq_false_or_eq_true (icmp .geq p0 p1) with hc2 | hc2
    · skip
      replace hr := bif_t hr hc2
      refine da_on rfl (Eq.trans (show sl _ _ _ = .bool (icmp .geq p0 p1) from rfl) (congrArg Value.bool hc2)) (d_mv (v := .int .i64 p0) rfl ?_)
      refine da_on rfl (Eq.trans (show sl _ _ _ = .bool (icmp .geq p0 p1) from rfl) (congrArg Value.bool hc2)) (d_mv (v := .int .i64 p2) rfl ?_)
      refine da_on rfl (Eq.trans (show sl _ _ _ = .bool (icmp .geq p0 p1) from rfl) (congrArg Value.bool hc2)) (d_icmp cLeq rfl rfl ?_)
      refine da_op rfl (d_pick (b := true) (Eq.trans (show ev _ _ = .bool (icmp .geq p0 p1) from rfl) (congrArg Value.bool hc2)) ?_)
      refine da_op rfl (d_as (v := .bool (icmp .leq p0 p2)) rfl ?_)
      refine da_nil ?_
      subst hr
      exact ⟨rfl, (Ext.refl w)⟩
    · skip
      replace hr := bif_f hr hc2
      refine da_off rfl (Eq.trans (show sl _ _ _ = .bool (icmp .geq p0 p1) from rfl) (congrArg Value.bool hc2)) (by decide) ?_
      refine da_off rfl (Eq.trans (show sl _ _ _ = .bool (icmp .geq p0 p1) from rfl) (congrArg Value.bool hc2)) (by decide) ?_
      refine da_off rfl (Eq.trans (show sl _ _ _ = .bool (icmp .geq p0 p1) from rfl) (congrArg Value.bool hc2)) (by decide) ?_
      refine da_op rfl (d_pick (b := false) (Eq.trans (show ev _ _ = .bool (icmp .geq p0 p1) from rfl) (congrArg Value.bool hc2)) ?_)
      refine da_op rfl (d_as (v := .bool false) rfl ?_)
      refine da_nil ?_
      subst hr
      exact ⟨rfl, (Ext.refl w)⟩
  · skip
    rintro σ1 w1 o1 ⟨s6_1, E1⟩
    have X3 : Ext w w1 := (Ext.refl w).trans E1
    refine W_ret ?_
    subst hr
    refine ⟨_, res1 (rv_tmp s6_1), ?_⟩
    exact ⟨rfl, X3⟩
set_option maxHeartbeats 4000000 in
theorem c50 (p0 : Int) (r : Nat × Bool) (w : World) (hr : M.impl_FromBits p0 = r)  :
    Calls Tryz.prog 50 #[.int .i64 p0] w fun e w' => ∃ q0r : Nat, e = .returned (.tuple #[.float .f32 q0r, .bool r.2]) ∧ cn .f32 q0r = r.1 ∧ Ext w w' := by
  refine calls_of_W Tryz.func50 rfl (Nat.le_of_ble_eq_true rfl) ?_
  refine W_seq ?_
  refine W_region rfl ?_
  refine da_op rfl (d_as (v := .float .f32 0) rfl ?_)
  refine da_op rfl (d_as (v := .bool false) rfl ?_)
  refine da_nil ?_
  refine W_seq ?_
  refine W_seq ?_
  refine W_region rfl ?_
  refine da_op rfl (d_mv (v := .int .i64 p0) rfl ?_)
  obtain ⟨m1, hm1, hr⟩ := letv_out hr
  refine da_op rfl (d_cl (vs := [.int .i64 p0, .int .i64 0, .int .i64 4294967295]) en72 (ac rfl (ac rfl (ac rfl rfl))) rfl ?_)
  refine (c72 p0 0 4294967295 m1 w hm1 ).mono ?_
  rintro _ w2 ⟨rfl, E2⟩
  refine ⟨_, rfl, ?_⟩
  have X3 : Ext w w2 := (Ext.refl w).trans E2
  refine da_op rfl (d_not rfl ?_)
  refine da_nil ?_
  refine W_cond (b := (!m1)) rfl (fun hc4 => ?_) (fun hc4 => ?_)
  · skip
    replace hr := bif_t hr hc4
    refine W_seq ?_
    refine W_region rfl ?_
    refine da_op rfl (d_as (v := .float .f32 0) rfl ?_)
    refine da_op rfl (d_as (v := .bool false) rfl ?_)
    refine da_nil ?_
    refine W_ret ?_
    subst hr
    refine ⟨_, res2 (rv_tmp rfl) (rv_tmp rfl), ?_⟩
    exact ⟨0, rfl, cn_f32_0, X3⟩
  · skip
    replace hr := bif_f hr hc4
    refine W_skip ?_
    refine W_seq ?_
    refine W_region rfl ?_
    refine da_op rfl (d_mv (v := .int .i64 p0) rfl ?_)
    refine da_op rfl (d_iconv un2 un91 rfl ?_)
    refine da_op rfl (d_f32from ext61_0 ext61_1 ext61_2 (Option.isNone_iff_eq_none.1 ext61_3) ext61_4 rfl rfl ?_)
    refine da_op rfl (d_as (v := .float .f32 ((IntKind.u32.wrap p0)).toNat) rfl ?_)
    refine da_op rfl (d_as (v := .bool true) rfl ?_)
    refine da_nil ?_
    refine W_ret ?_
    subst hr
    refine ⟨_, res2 (rv_tmp rfl) (rv_tmp rfl), ?_⟩
    exact ⟨((IntKind.u32.wrap p0)).toNat, rfl, rfl, X3⟩
set_option maxHeartbeats 4000000 in
theorem c73 (p0 : Nat) (p0r : Nat) (r : Bool) (w : World) (hr : M.impl_isNaN p0 = r) (p0h : cn .f32 p0r = p0) :
    Calls Tryz.prog 73 #[.float .f32 p0r] w fun e w' => e = .returned (.bool r) ∧ Ext w w' := by
  refine calls_of_W Tryz.func73 rfl (Nat.le_of_ble_eq_true rfl) ?_
  refine W_seq ?_
  refine W_region rfl ?_
  refine da_op rfl (d_as (v := .bool false) rfl ?_)
  refine da_nil ?_
  refine W_seq ?_
  refine W_region rfl ?_
  refine da_op rfl (d_mv (v := .float .f32 p0r) rfl ?_)
  refine da_op rfl (d_mv (v := .float .f32 p0r) rfl ?_)
  refine da_op rfl (d_fcmp (k := .f32) cNeq rfl rfl p0h p0h ?_)
  refine da_op rfl (d_as (v := .bool (fcmp .neq .f32 p0 p0)) rfl ?_)
  refine da_nil ?_
  refine W_ret ?_
  subst hr
  refine ⟨_, res1 (rv_tmp rfl), ?_⟩
  exact ⟨rfl, (Ext.refl w)⟩
set_option maxHeartbeats 4000000 in
theorem c51 (p0 : Nat) (p0r : Nat) (r : Int) (w : World) (hr : M.impl_BitsOf p0 = r) (p0h : cn .f32 p0r = p0) :
    Calls Tryz.prog 51 #[.float .f32 p0r] w fun e w' => e = .returned (.int .i64 r) ∧ Ext w w' := by
  refine calls_of_W Tryz.func51 rfl (Nat.le_of_ble_eq_true rfl) ?_
  refine W_seq ?_
  refine W_region rfl ?_
  refine da_op rfl (d_as (v := .int .i64 0) rfl ?_)
  refine da_nil ?_
  refine W_seq ?_
  refine W_seq ?_
  refine W_region rfl ?_
  refine da_op rfl (d_mv (v := .float .f32 p0r) rfl ?_)
  obtain ⟨m1, hm1, hr⟩ := letv_out hr
  refine da_op rfl (d_cl (vs := [.float .f32 p0r]) en73 (ac rfl rfl) rfl ?_)
  refine (c73 p0 p0r m1 w hm1 p0h).mono ?_
  rintro _ w2 ⟨rfl, E2⟩
  refine ⟨_, rfl, ?_⟩
  have X3 : Ext w w2 := (Ext.refl w).trans E2
  refine da_nil ?_
  refine W_cond (b := m1) rfl (fun hc4 => ?_) (fun hc4 => ?_)
  · skip
    replace hr := bif_t hr hc4
    refine W_seq ?_
    refine W_region rfl ?_
    refine da_op rfl (d_as (v := .int .i64 2143289344) rfl ?_)
    refine da_nil ?_
    refine W_ret ?_
    subst hr
    refine ⟨_, res1 (rv_tmp rfl), ?_⟩
    exact ⟨rfl, X3⟩
  · skip
    replace hr := bif_f hr hc4
    refine W_skip ?_
    refine W_seq ?_
    refine W_region rfl ?_
    refine da_op rfl (d_mv (v := .float .f32 p0r) rfl ?_)
    refine da_op rfl (d_f32bits ext62_0 ext62_1 ext62_2 (Option.isNone_iff_eq_none.1 ext62_3) ext62_4 rfl rfl p0h (nn_ne (Eq.trans (show fcmp .neq .f32 p0 p0 = m1 from hm1) hc4)) ?_)
    refine da_op rfl (d_iconv un91 un2 rfl ?_)
    refine da_op rfl (d_as (v := .int .i64 (IntKind.i64.wrap (p0 : Int))) rfl ?_)
    refine da_nil ?_
    refine W_ret ?_
    subst hr
    refine ⟨_, res1 (rv_tmp rfl), ?_⟩
    exact ⟨rfl, X3⟩
set_option maxHeartbeats 4000000 in
theorem c33 (p0 : List UInt8) (r : Nat × Bool) (w : World) (hr : M.impl_readNumber p0 = some r)  :
    Calls Tryz.prog 33 #[.string (bs p0)] w fun e w' => ∃ q0r : Nat, e = .returned (.tuple #[.float .f32 q0r, .bool r.2]) ∧ cn .f32 q0r = r.1 ∧ Ext w w' := by
  refine calls_of_W Tryz.func33 rfl (Nat.le_of_ble_eq_true rfl) ?_
  refine W_seq ?_
  refine W_region rfl ?_
  refine da_op rfl (d_as (v := .float .f32 0) rfl ?_)
  refine da_op rfl (d_as (v := .bool false) rfl ?_)
  refine da_nil ?_
  refine W_seq ?_
  refine W_region rfl ?_
  refine da_op rfl (d_as (v := .int .i64 0) rfl ?_)
  refine da_nil ?_
  refine W_seq ?_
  refine W_seq ?_
  refine W_region rfl ?_
  refine da_op rfl (d_mv (v := .string (bs p0)) rfl ?_)
  refine da_op rfl (d_slen un9 rfl ?_)
  refine da_op rfl (d_mv (v := .int .i64 0) rfl ?_)
  refine da_nil ?_
  refine W_block ?_
  obtain ⟨m1, hm1, hr⟩ := bind_out hr
  refine W_loopM hm1 (fun (s1 : Int × Int) σ w' => σ 4 = .int .i64 s1.1 ∧ σ 11 = .int .i64 s1.2 ∧ σ 0 = .string (bs p0) ∧ σ 10 = .int .i64 ((p0).length : Int) ∧ Ext w w') (fun (e1 : (Int ⊕ (Nat × Bool))) ex σ w' => sel e1 (fun e1 => ex = .exit 0 ∧ σ 4 = .int .i64 e1 ∧ σ 0 = .string (bs p0) ∧ Ext w w') (fun e1 => ex = .ret ∧ ∃ q1_1_0r : Nat, σ 2 = .float .f32 q1_1_0r ∧ σ 3 = .bool e1.2 ∧ cn .f32 q1_1_0r = e1.1 ∧ Ext w w')) ⟨rfl, rfl, rfl, rfl, (Ext.refl w)⟩ ?_ ?_
  · skip
    rintro s1 σl1 wl1 r1l ⟨i1_S4, i1_S11, i1_S0, i1_S10, i1_X⟩ hr
    refine W_seq ?_
    refine W_region rfl ?_
    refine da_op rfl (d_icmp cLss i1_S11 i1_S10 ?_)
    refine da_nil ?_
    refine W_seq ?_
    refine W_cond (b := (icmp .lss s1.2 ((p0).length : Int))) rfl (fun hc2 => ?_) (fun hc2 => ?_)
    · skip
      replace hr := bif_t hr hc2
      refine W_skip ?_
      refine W_seq ?_
      refine W_block ?_
      refine W_seq ?_
      refine W_region rfl ?_
      refine da_op rfl (d_mv (v := .int .i64 s1.2) i1_S11 ?_)
      refine da_op rfl (d_as (v := .int .i64 s1.2) rfl ?_)
      refine da_nil ?_
      refine W_seq ?_
      refine W_region rfl ?_
      refine da_op rfl (d_mv (v := .string (bs p0)) i1_S0 ?_)
      refine da_op rfl (d_mv (v := .int .i64 s1.2) rfl ?_)
      obtain ⟨m3, hm3, hr⟩ := bind_out hr
      refine da_op rfl (d_sidx un9 rfl rfl hm3 ?_)
      obtain ⟨m4, hm4, hr⟩ := letv_out hr
      refine da_op rfl (d_cl (vs := [.string (bs ([48, 49, 50, 51, 52, 53, 54, 55, 56, 57, 97, 98, 99, 100, 101, 102] : List UInt8)), .int .u8 m3]) en49 (ac rfl (ac rfl rfl)) rfl ?_)
      refine (c49_s30313233343536373839616263646566 m3 m4 wl1 hm4 ).mono ?_
      rintro _ w5 ⟨rfl, E5⟩
      refine ⟨_, rfl, ?_⟩
      have X6 : Ext w w5 := i1_X.trans E5
      refine da_op rfl (d_as (v := .int .i64 m4) rfl ?_)
      refine da_nil ?_
      refine W_seq ?_
      refine W_seq ?_
      obtain ⟨m7, hm7, hr⟩ := letv_out hr
      refine W_cut (fun σ' w' => σ' 23 = .bool m7 ∧ Ext w5 w') rfl ?_ ?_
      · skip
        have hr := hm7
        refine da_op rfl (d_mv (v := .int .i64 m4) rfl ?_)
        refine da_op rfl (d_icmp cLss rfl rfl ?_)
        refine da_op rfl (d_mv (v := .bool (icmp .lss m4 0)) rfl ?_)
        rcases Bool.eq_false_or_eq_true (icmp .lss m4 0) with hc8 | hc8
        · skip
          replace hr := bif_t hr hc8
          refine da_off rfl (Eq.trans (show sl _ _ _ = .bool (icmp .lss m4 0) from rfl) (congrArg Value.bool hc8)) (by decide) ?_
          refine da_off rfl (Eq.trans (show sl _ _ _ = .bool (icmp .lss m4 0) from rfl) (congrArg Value.bool hc8)) (by decide) ?_
          refine da_op rfl (d_pick (b := true) (Eq.trans (show ev _ _ = .bool (icmp .lss m4 0) from rfl) (congrArg Value.bool hc8)) ?_)
          refine da_nil ?_
          subst hr
          exact ⟨rfl, (Ext.refl w5)⟩
        · skip
          replace hr := bif_f hr hc8
          refine da_on rfl (Eq.trans (show sl _ _ _ = .bool (icmp .lss m4 0) from rfl) (congrArg Value.bool hc8)) (d_mv (v := .int .i64 s1.2) rfl ?_)
          refine da_on rfl (Eq.trans (show sl _ _ _ = .bool (icmp .lss m4 0) from rfl) (congrArg Value.bool hc8)) (d_icmp cEql rfl rfl ?_)
          refine da_op rfl (d_pick (b := false) (Eq.trans (show ev _ _ = .bool (icmp .lss m4 0) from rfl) (congrArg Value.bool hc8)) ?_)
          refine da_nil ?_
          subst hr
          exact ⟨rfl, (Ext.refl w5)⟩
      · skip
        rintro σ7 w7 o7 ⟨s23_7, E7⟩
        have s4_7 : σ7 4 = .int .i64 s1.1 := (o7 4 rfl).trans i1_S4
        have s11_7 : σ7 11 = .int .i64 s1.2 := (o7 11 rfl).trans i1_S11
        have s0_7 : σ7 0 = .string (bs p0) := (o7 0 rfl).trans i1_S0
        have s10_7 : σ7 10 = .int .i64 ((p0).length : Int) := (o7 10 rfl).trans i1_S10
        have s6_7 : σ7 6 = .int .i64 m4 := (o7 6 rfl).trans rfl
        have X9 : Ext w w7 := X6.trans E7
        refine W_cond (b := m7) s23_7 (fun hc10 => ?_) (fun hc10 => ?_)
        · skip
          replace hr := bif_t hr hc10
          refine W_seq ?_
          refine W_region rfl ?_
          refine da_op rfl (d_as (v := .float .f32 0) rfl ?_)
          refine da_op rfl (d_as (v := .bool false) rfl ?_)
          refine da_nil ?_
          refine W_ret ?_
          obtain rfl := Option.some.inj hr
          exact ⟨_, rfl, rfl, 0, rfl, rfl, cn_f32_0, X9⟩
        · skip
          replace hr := bif_f hr hc10
          refine W_skip ?_
          refine W_region rfl ?_
          refine da_op rfl (d_mv (v := .int .i64 s1.1) s4_7 ?_)
          refine da_op rfl (d_iarith rfl rfl (.inr (.inr ⟨rfl, rfl⟩)) ?_)
          refine da_op rfl (d_mv (v := .int .i64 m4) s6_7 ?_)
          refine da_op rfl (d_iarith rfl rfl (.inl ⟨rfl, rfl⟩) ?_)
          refine da_op rfl (d_as (v := .int .i64 (IntKind.i64.wrap ((IntKind.i64.wrap (s1.1 * 16)) + m4))) rfl ?_)
          refine da_nil ?_
          refine W_region rfl ?_
          refine da_op rfl (d_iarith s11_7 rfl (.inl ⟨rfl, rfl⟩) ?_)
          refine da_op rfl (d_mv (v := .int .i64 (IntKind.i64.wrap (s1.2 + 1))) rfl ?_)
          refine da_nil ?_
          obtain rfl := Option.some.inj hr
          exact ⟨_, rfl, ⟨rfl, rfl, s0_7, s10_7, X9⟩⟩
    · skip
      replace hr := bif_f hr hc2
      refine W_exit ?_
      obtain rfl := Option.some.inj hr
      exact ⟨_, rfl, rfl, i1_S4, i1_S0, i1_X⟩
  · skip
    intro ex σx1 wx1 hq
    rcases m1 with m1 | m1
    · skip
      obtain ⟨rfl, q1_0_S4, q1_0_S0, q1_0_X⟩ := hq
      refine W_seq ?_
      refine W_region rfl ?_
      refine da_op rfl (d_mv (v := .int .i64 m1) q1_0_S4 ?_)
      obtain ⟨m11, hm11, hr⟩ := letv_out hr
      refine da_op rfl (d_cl (vs := [.int .i64 m1]) en50 (ac rfl rfl) rfl ?_)
      refine (c50 m1 m11 wx1 hm11 ).mono ?_
      rintro _ w12 ⟨q12_0r, rfl, q12_0h, E12⟩
      refine ⟨_, rfl, ?_⟩
      have X13 : Ext w w12 := q1_0_X.trans E12
      refine da_op rfl (d_mv (v := .tuple #[.float .f32 q12_0r, .bool m11.2]) rfl ?_)
      refine da_op rfl (d_extract (v := .float .f32 q12_0r) rfl rfl ?_)
      refine da_op rfl (d_extract (v := .bool m11.2) rfl rfl ?_)
      refine da_op rfl (d_as (v := .float .f32 q12_0r) rfl ?_)
      refine da_op rfl (d_as (v := .bool m11.2) rfl ?_)
      refine da_nil ?_
      refine W_seq ?_
      obtain ⟨m14, hm14, hr⟩ := letv_out hr
      refine W_cut (fun σ' w' => σ' 2 = .float .f32 q12_0r ∧ σ' 3 = .bool m14 ∧ Ext w12 w') rfl ?_ ?_
      · skip
        have hr := hm14
        refine da_op rfl (d_mv (v := .float .f32 q12_0r) rfl ?_)
        refine da_op rfl (d_mv (v := .string (bs p0)) q1_0_S0 ?_)
        refine da_op rfl (d_slen un9 rfl ?_)
        refine da_op rfl (d_icmp cEql rfl rfl ?_)
        refine da_op rfl (d_mv (v := .bool (icmp .eql ((p0).length : Int) 8)) rfl ?_)
        rcases Bool.eq_false_or_eq_true (icmp .eql ((p0).length : Int) 8) with hc15 | hc15
        · skip
          replace hr := bif_t hr hc15
          refine da_on rfl (Eq.trans (show sl _ _ _ = .bool (icmp .eql ((p0).length : Int) 8) from rfl) (congrArg Value.bool hc15)) (d_mv (v := .float .f32 q12_0r) rfl ?_)
          obtain ⟨m16, hm16, hr⟩ := letv_out hr
          refine da_on rfl (Eq.trans (show sl _ _ _ = .bool (icmp .eql ((p0).length : Int) 8) from rfl) (congrArg Value.bool hc15)) (d_cl (vs := [.float .f32 q12_0r]) en51 (ac rfl rfl) rfl ?_)
          refine (c51 m11.1 q12_0r m16 w12 hm16 q12_0h).mono ?_
          rintro _ w17 ⟨rfl, E17⟩
          refine ⟨_, rfl, ?_⟩
          have X18 : Ext w w17 := X13.trans E17
          refine da_on rfl (Eq.trans (show sl _ _ _ = .bool (icmp .eql ((p0).length : Int) 8) from rfl) (congrArg Value.bool hc15)) (d_mv (v := .int .i64 m1) q1_0_S4 ?_)
          refine da_on rfl (Eq.trans (show sl _ _ _ = .bool (icmp .eql ((p0).length : Int) 8) from rfl) (congrArg Value.bool hc15)) (d_icmp cEql rfl rfl ?_)
          refine da_op rfl (d_pick (b := true) (Eq.trans (show ev _ _ = .bool (icmp .eql ((p0).length : Int) 8) from rfl) (congrArg Value.bool hc15)) ?_)
          refine da_op rfl (d_as (v := .float .f32 q12_0r) rfl ?_)
          refine da_op rfl (d_as (v := .bool (icmp .eql m16 m1)) rfl ?_)
          refine da_nil ?_
          subst hr
          exact ⟨rfl, rfl, (Ext.trans (Ext.refl w12) E17)⟩
        · skip
          replace hr := bif_f hr hc15
          refine da_off rfl (Eq.trans (show sl _ _ _ = .bool (icmp .eql ((p0).length : Int) 8) from rfl) (congrArg Value.bool hc15)) (by decide) ?_
          refine da_off rfl (Eq.trans (show sl _ _ _ = .bool (icmp .eql ((p0).length : Int) 8) from rfl) (congrArg Value.bool hc15)) (by decide) ?_
          refine da_off rfl (Eq.trans (show sl _ _ _ = .bool (icmp .eql ((p0).length : Int) 8) from rfl) (congrArg Value.bool hc15)) (by decide) ?_
          refine da_off rfl (Eq.trans (show sl _ _ _ = .bool (icmp .eql ((p0).length : Int) 8) from rfl) (congrArg Value.bool hc15)) (by decide) ?_
          refine da_op rfl (d_pick (b := false) (Eq.trans (show ev _ _ = .bool (icmp .eql ((p0).length : Int) 8) from rfl) (congrArg Value.bool hc15)) ?_)
          refine da_op rfl (d_as (v := .float .f32 q12_0r) rfl ?_)
          refine da_op rfl (d_as (v := .bool false) rfl ?_)
          refine da_nil ?_
          subst hr
          exact ⟨rfl, rfl, (Ext.refl w12)⟩
      · skip
        rintro σ14 w14 o14 ⟨s2_14, s3_14, E14⟩
        have X19 : Ext w w14 := X13.trans E14
        refine W_ret ?_
        obtain rfl := Option.some.inj hr
        refine ⟨_, res2 (rv_tmp s2_14) (rv_tmp s3_14), ?_⟩
        exact ⟨q12_0r, rfl, q12_0h, X19⟩
    · skip
      obtain ⟨rfl, q1_1_0r, q1_1_S2, q1_1_S3, q1_1_0h, q1_1_X⟩ := hq
      obtain rfl := Option.some.inj hr
      refine ⟨_, res2 (rv_tmp q1_1_S2) (rv_tmp q1_1_S3), ?_⟩
      exact ⟨q1_1_0r, rfl, q1_1_0h, q1_1_X⟩
set_option maxHeartbeats 4000000 in
theorem c12 (p0 : List UInt8) (r : List Nat × Bool) (w : World) (hr : M.impl_ReadNumbers p0 = some r)  :
    Calls Tryz.prog 12 #[.string (bs p0)] w fun e w' => ∃ q0a : Option Addr, ∃ q0n : Nat, ∃ q0c : Nat, e = .returned (.tuple #[(Value.slice q0a q0n q0c), .bool r.2]) ∧ OS w' 40 encF_f32 (Value.slice q0a q0n q0c) r.1 ∧ (∀ k, (Value.slice q0a q0n q0c).ownBlock = some k → w.heap.size ≤ k) ∧ Ext w w' := by
  refine calls_of_W Tryz.func12 rfl (Nat.le_of_ble_eq_true rfl) ?_
  refine W_seq ?_
  refine W_region rfl ?_
  refine da_op rfl (d_as (v := .slice none 0 0) rfl ?_)
  refine da_op rfl (d_as (v := .bool false) rfl ?_)
  refine da_nil ?_
  refine W_seq ?_
  refine W_region rfl ?_
  refine da_op rfl (d_bslice0 un23 size40 fun w1 B1 E1 => ?_)
  have fr1 : ∀ k, (Value.slice (some ⟨w.heap.size, 0, none⟩) 0 0).ownBlock = some k → w.heap.size ≤ k := fun k hk => by cases hk; exact Nat.le_refl _
  have own1 : ∀ k, (Value.slice (some ⟨w.heap.size, 0, none⟩) 0 0).ownBlock = some k → w.heap.size ≤ k := fun k hk => Nat.le_trans (Ext.refl w).size (fr1 k hk)
  have X2 : Ext w w1 := (Ext.refl w).trans E1
  have O1 : OS w1 40 encF_f32 (Value.slice (some ⟨w.heap.size, 0, none⟩) 0 0) ([] : List Nat) := OS.box (xs := ([] : List Nat)) B1 rfl (Nat.le_of_ble_eq_true rfl)
  refine da_op rfl (d_as (v := (Value.slice (some ⟨w.heap.size, 0, none⟩) 0 0)) rfl ?_)
  refine da_nil ?_
  refine W_seq ?_
  refine W_seq ?_
  refine W_region rfl ?_
  refine da_op rfl (d_mv (v := .string (bs p0)) rfl ?_)
  obtain ⟨m3, hm3, hr⟩ := bind_out hr
  refine da_op rfl (d_cl (vs := [.string (bs p0)]) en32 (ac rfl rfl) rfl ?_)
  refine (c32 p0 m3 w1 hm3 ).mono ?_
  rintro _ w4 ⟨q4_0a, q4_0n, q4_0c, rfl, q4_0R, q4_0F, E4⟩
  refine ⟨_, rfl, ?_⟩
  have own5 : ∀ k, (Value.slice q4_0a q4_0n q4_0c).ownBlock = some k → w.heap.size ≤ k := fun k hk => Nat.le_trans X2.size (q4_0F k hk)
  have sp6 : ∀ k, (Value.slice (some ⟨w.heap.size, 0, none⟩) 0 0).ownBlock = some k → ¬ (Value.slice q4_0a q4_0n q4_0c).ownBlock = some k := apart_fresh O1 q4_0F
  have X7 : Ext w w4 := X2.trans E4
  refine da_op rfl (d_len (e := encS) un32 rfl q4_0R ?_)
  refine da_op rfl (d_mv (v := .int .i64 0) rfl ?_)
  refine da_nil ?_
  refine W_block ?_
  have B9 : OS w4 40 encF_f32 (Value.slice (some ⟨w.heap.size, 0, none⟩) 0 0) ([] : List Nat) := O1.ext E4
  obtain ⟨m8, hm8, hr⟩ := bind_out hr
  refine W_loopM hm8 (fun (s8 : List Nat × Int) σ w' => ∃ i8_0a : Option Addr, ∃ i8_0n : Nat, ∃ i8_0c : Nat, σ 4 = (Value.slice i8_0a i8_0n i8_0c) ∧ σ 13 = .int .i64 s8.2 ∧ σ 11 = (Value.slice q4_0a q4_0n q4_0c) ∧ σ 12 = .int .i64 ((m3).length : Int) ∧ OS w' 40 encF_f32 (Value.slice i8_0a i8_0n i8_0c) s8.1 ∧ (∀ k, (Value.slice i8_0a i8_0n i8_0c).ownBlock = some k → w.heap.size ≤ k) ∧ RS w' encS (Value.slice q4_0a q4_0n q4_0c) m3 ∧ (∀ k, (Value.slice q4_0a q4_0n q4_0c).ownBlock = some k → ¬ (Value.slice i8_0a i8_0n i8_0c).ownBlock = some k) ∧ Ext w w') (fun (e8 : ((List Nat) ⊕ (List Nat × Bool))) ex σ w' => sel e8 (fun e8 => ex = .exit 0 ∧ ∃ q8_0_0a : Option Addr, ∃ q8_0_0n : Nat, ∃ q8_0_0c : Nat, σ 4 = (Value.slice q8_0_0a q8_0_0n q8_0_0c) ∧ OS w' 40 encF_f32 (Value.slice q8_0_0a q8_0_0n q8_0_0c) e8 ∧ (∀ k, (Value.slice q8_0_0a q8_0_0n q8_0_0c).ownBlock = some k → w.heap.size ≤ k) ∧ Ext w w') (fun e8 => ex = .ret ∧ ∃ q8_1_0a : Option Addr, ∃ q8_1_0n : Nat, ∃ q8_1_0c : Nat, σ 2 = (Value.slice q8_1_0a q8_1_0n q8_1_0c) ∧ σ 3 = .bool e8.2 ∧ OS w' 40 encF_f32 (Value.slice q8_1_0a q8_1_0n q8_1_0c) e8.1 ∧ (∀ k, (Value.slice q8_1_0a q8_1_0n q8_1_0c).ownBlock = some k → w.heap.size ≤ k) ∧ Ext w w')) ⟨(some ⟨w.heap.size, 0, none⟩), 0, 0, rfl, rfl, rfl, rfl, B9, own1, q4_0R, (apart_symm sp6), X7⟩ ?_ ?_
  · skip
    rintro s8 σl8 wl8 r8l ⟨i8_0a, i8_0n, i8_0c, i8_S4, i8_S13, i8_S11, i8_S12, i8_0R, i8_0O, i8_K0, i8_A0, i8_X⟩ hr
    refine W_seq ?_
    refine W_region rfl ?_
    refine da_op rfl (d_icmp cLss i8_S13 i8_S12 ?_)
    refine da_nil ?_
    refine W_seq ?_
    refine W_cond (b := (icmp .lss s8.2 ((m3).length : Int))) rfl (fun hc10 => ?_) (fun hc10 => ?_)
    · skip
      replace hr := bif_t hr hc10
      refine W_skip ?_
      refine W_seq ?_
      refine W_block ?_
      refine W_seq ?_
      refine W_region rfl ?_
      obtain ⟨m11, hm11, hr⟩ := bind_out hr
      refine da_op rfl (d_index (e := encS) (v := (Value.slice q4_0a q4_0n q4_0c)) un32 size9 i8_S11 i8_S13 i8_K0 hm11 fun g12 o12 cu12 T12 fr12 vs12 hv12 hg12 hp12 hq12 => ?_)
      obtain rfl := dec_encS hq12
      refine da_op rfl (d_load (v := .string (bs m11)) rfl agg9 hg12 (sub_get (vs := #[.string (bs m11)]) hp12 (i := 0) rfl) ?_)
      refine da_op rfl (d_as (v := .string (bs m11)) rfl ?_)
      refine da_nil ?_
      refine W_seq ?_
      refine W_region rfl ?_
      refine da_op rfl (d_mv (v := .string (bs m11)) rfl ?_)
      obtain ⟨m13, hm13, hr⟩ := bind_out hr
      refine da_op rfl (d_cl (vs := [.string (bs m11)]) en33 (ac rfl rfl) rfl ?_)
      refine (c33 m11 m13 wl8 hm13 ).mono ?_
      rintro _ w14 ⟨q14_0r, rfl, q14_0h, E14⟩
      refine ⟨_, rfl, ?_⟩
      have X15 : Ext w w14 := i8_X.trans E14
      refine da_op rfl (d_mv (v := .tuple #[.float .f32 q14_0r, .bool m13.2]) rfl ?_)
      refine da_op rfl (d_extract (v := .float .f32 q14_0r) rfl rfl ?_)
      refine da_op rfl (d_extract (v := .bool m13.2) rfl rfl ?_)
      refine da_op rfl (d_as (v := .float .f32 q14_0r) rfl ?_)
      refine da_op rfl (d_as (v := .bool m13.2) rfl ?_)
      refine da_nil ?_
      refine W_seq ?_
      refine W_seq ?_
      have B17 : RS w14 encS (Value.slice q4_0a q4_0n q4_0c) m3 := i8_K0.ext E14
      have B18 : OS w14 40 encF_f32 (Value.slice i8_0a i8_0n i8_0c) s8.1 := i8_0R.ext E14
      obtain ⟨m16, hm16, hr⟩ := letv_out hr
      refine W_cut (fun σ' w' => σ' 28 = .bool m16 ∧ Ext w14 w') rfl ?_ ?_
      · skip
        have hr := hm16
        refine da_op rfl (d_mv (v := .bool m13.2) rfl ?_)
        refine da_op rfl (d_not rfl ?_)
        refine da_op rfl (d_mv (v := .bool (!m13.2)) rfl ?_)
        rcases Bool.eq_false_or_eq_true m13.2 with hc19 | hc19
        · skip
          replace hr := bif_t hr hc19
          refine da_on rfl (Eq.trans (show sl _ _ _ = .bool (!m13.2) from rfl) (congrArg Value.bool (congrArg not hc19))) (d_mv (v := (Value.slice i8_0a i8_0n i8_0c)) i8_S4 ?_)
          refine da_on rfl (Eq.trans (show sl _ _ _ = .bool (!m13.2) from rfl) (congrArg Value.bool (congrArg not hc19))) (d_len (e := encF_f32) un23 rfl B18.rs ?_)
          refine da_on rfl (Eq.trans (show sl _ _ _ = .bool (!m13.2) from rfl) (congrArg Value.bool (congrArg not hc19))) (d_icmp cEql rfl rfl ?_)
          refine da_op rfl (d_pick (b := false) (Eq.trans (show ev _ _ = .bool (!m13.2) from rfl) (congrArg Value.bool (congrArg not hc19))) ?_)
          refine da_nil ?_
          subst hr
          exact ⟨rfl, (Ext.refl w14)⟩
        · skip
          replace hr := bif_f hr hc19
          refine da_off rfl (Eq.trans (show sl _ _ _ = .bool (!m13.2) from rfl) (congrArg Value.bool (congrArg not hc19))) (by decide) ?_
          refine da_off rfl (Eq.trans (show sl _ _ _ = .bool (!m13.2) from rfl) (congrArg Value.bool (congrArg not hc19))) (by decide) ?_
          refine da_off rfl (Eq.trans (show sl _ _ _ = .bool (!m13.2) from rfl) (congrArg Value.bool (congrArg not hc19))) (by decide) ?_
          refine da_op rfl (d_pick (b := true) (Eq.trans (show ev _ _ = .bool (!m13.2) from rfl) (congrArg Value.bool (congrArg not hc19))) ?_)
          refine da_nil ?_
          subst hr
          exact ⟨rfl, (Ext.refl w14)⟩
      · skip
        rintro σ16 w16 o16 ⟨s28_16, E16⟩
        have s4_16 : σ16 4 = (Value.slice i8_0a i8_0n i8_0c) := (o16 4 rfl).trans i8_S4
        have s13_16 : σ16 13 = .int .i64 s8.2 := (o16 13 rfl).trans i8_S13
        have s11_16 : σ16 11 = (Value.slice q4_0a q4_0n q4_0c) := (o16 11 rfl).trans i8_S11
        have s12_16 : σ16 12 = .int .i64 ((m3).length : Int) := (o16 12 rfl).trans i8_S12
        have s7_16 : σ16 7 = .float .f32 q14_0r := (o16 7 rfl).trans rfl
        have X20 : Ext w w16 := X15.trans E16
        refine W_cond (b := m16) s28_16 (fun hc21 => ?_) (fun hc21 => ?_)
        · skip
          replace hr := bif_t hr hc21
          refine W_seq ?_
          refine W_region rfl ?_
          refine da_op rfl (d_as (v := .slice none 0 0) rfl ?_)
          refine da_op rfl (d_as (v := .bool false) rfl ?_)
          refine da_nil ?_
          refine W_ret ?_
          obtain rfl := Option.some.inj hr
          exact ⟨_, rfl, rfl, none, 0, 0, rfl, rfl, (OS.nil _ 40 encF_f32), (fun k hk => by cases hk), X20⟩
        · skip
          replace hr := bif_f hr hc21
          refine W_skip ?_
          refine W_region rfl ?_
          refine da_op rfl (d_mv (v := (Value.slice i8_0a i8_0n i8_0c)) s4_16 ?_)
          refine da_op rfl (d_mv (v := .float .f32 q14_0r) s7_16 ?_)
          have B23 : RS w16 encS (Value.slice q4_0a q4_0n q4_0c) m3 := B17.ext E16
          have B24 : OS w16 40 encF_f32 (Value.slice i8_0a i8_0n i8_0c) s8.1 := B18.ext E16
          refine da_op rfl (d_bslice (vs := [(0, .float .f32 q14_0r)]) (cs := #[.float .f32 q14_0r]) un23 (pc rfl rfl) (by kernel_rfl) fun w22 B22 E22 => ?_)
          have fr22 : ∀ k, (Value.slice (some ⟨w16.heap.size, 0, none⟩) 1 1).ownBlock = some k → w16.heap.size ≤ k := fun k hk => by cases hk; exact Nat.le_refl _
          have own22 : ∀ k, (Value.slice (some ⟨w16.heap.size, 0, none⟩) 1 1).ownBlock = some k → w.heap.size ≤ k := fun k hk => Nat.le_trans X20.size (fr22 k hk)
          have sp25 : ∀ k, (Value.slice q4_0a q4_0n q4_0c).ownBlock = some k → ¬ (Value.slice (some ⟨w16.heap.size, 0, none⟩) 1 1).ownBlock = some k := apart_freshR B23 fr22
          have sp26 : ∀ k, (Value.slice i8_0a i8_0n i8_0c).ownBlock = some k → ¬ (Value.slice (some ⟨w16.heap.size, 0, none⟩) 1 1).ownBlock = some k := apart_fresh B24 fr22
          have X27 : Ext w w22 := X20.trans E22
          have O22 : OS w22 40 encF_f32 (Value.slice (some ⟨w16.heap.size, 0, none⟩) 1 1) [m13.1] := OS.box (xs := [m13.1]) B22 (lc_f q14_0h rfl) (Nat.le_of_ble_eq_true rfl)
          obtain ⟨m28, hm28, hr⟩ := bind_out hr
          have B29 : OS w22 40 encF_f32 (Value.slice i8_0a i8_0n i8_0c) s8.1 := B24.ext E22
          have B30 : RS w22 encS (Value.slice q4_0a q4_0n q4_0c) m3 := B23.ext E22
          refine da_op rfl (d_append (e := encF_f32) (v := (Value.slice i8_0a i8_0n i8_0c)) (y := (Value.slice (some ⟨w16.heap.size, 0, none⟩) 1 1)) un23 info40 rfl (by kernel_rfl) (by kernel_rfl) (by decide) (by decide) rfl rfl B29 O22.rs hm28 fun v31 w31 O31 Fm31 at_31 nl31 => ?_)
          obtain ⟨v31pa, v31pn, v31pc, rfl⟩ := O31.vals
          have own31 : ∀ k, (Value.slice v31pa v31pn v31pc).ownBlock = some k → w.heap.size ≤ k := app_own (w := w22) at_31 i8_0O X27.size
          have sp32 : ∀ k, (Value.slice q4_0a q4_0n q4_0c).ownBlock = some k → ¬ (Value.slice v31pa v31pn v31pc).ownBlock = some k := app_nrR at_31 i8_A0 B30
          have sp33 : ∀ k, (Value.slice (some ⟨w16.heap.size, 0, none⟩) 1 1).ownBlock = some k → ¬ (Value.slice v31pa v31pn v31pc).ownBlock = some k := app_nr at_31 (apart_symm sp26) O22
          have X34 : Ext w w31 := Ext.step X27 Fm31 (fun k _ hk => i8_0O k hk)
          refine da_op rfl (d_as (v := (Value.slice v31pa v31pn v31pc)) rfl ?_)
          refine da_nil ?_
          refine W_region rfl ?_
          refine da_op rfl (d_iarith s13_16 rfl (.inl ⟨rfl, rfl⟩) ?_)
          refine da_op rfl (d_mv (v := .int .i64 (IntKind.i64.wrap (s8.2 + 1))) rfl ?_)
          refine da_nil ?_
          have B35 : RS w31 encS (Value.slice q4_0a q4_0n q4_0c) m3 := B30.frm Fm31 (fun k _ => i8_A0 k)
          obtain rfl := Option.some.inj hr
          exact ⟨_, rfl, ⟨v31pa, v31pn, v31pc, rfl, rfl, s11_16, s12_16, O31, own31, B35, sp32, X34⟩⟩
    · skip
      replace hr := bif_f hr hc10
      refine W_exit ?_
      obtain rfl := Option.some.inj hr
      exact ⟨_, rfl, rfl, i8_0a, i8_0n, i8_0c, i8_S4, i8_0R, i8_0O, i8_X⟩
  · skip
    intro ex σx8 wx8 hq
    rcases m8 with m8 | m8
    · skip
      obtain ⟨rfl, q8_0_0a, q8_0_0n, q8_0_0c, q8_0_S4, q8_0_0R, q8_0_0O, q8_0_X⟩ := hq
      refine W_seq ?_
      refine W_region rfl ?_
      refine da_op rfl (d_mv (v := (Value.slice q8_0_0a q8_0_0n q8_0_0c)) q8_0_S4 ?_)
      refine da_op rfl (d_as (v := (Value.slice q8_0_0a q8_0_0n q8_0_0c)) rfl ?_)
      refine da_op rfl (d_as (v := .bool true) rfl ?_)
      refine da_nil ?_
      refine W_ret ?_
      obtain rfl := Option.some.inj hr
      refine ⟨_, res2 (rv_tmp rfl) (rv_tmp rfl), ?_⟩
      exact ⟨q8_0_0a, q8_0_0n, q8_0_0c, rfl, q8_0_0R, q8_0_0O, q8_0_X⟩
    · skip
      obtain ⟨rfl, q8_1_0a, q8_1_0n, q8_1_0c, q8_1_S2, q8_1_S3, q8_1_0R, q8_1_0O, q8_1_X⟩ := hq
      obtain rfl := Option.some.inj hr
      refine ⟨_, res2 (rv_tmp q8_1_S2) (rv_tmp q8_1_S3), ?_⟩
      exact ⟨q8_1_0a, q8_1_0n, q8_1_0c, rfl, q8_1_0R, q8_1_0O, q8_1_X⟩
set_option maxHeartbeats 4000000 in
theorem c31 (p0 : List UInt8) (r : SVector × Bool) (w : World) (hr : M.impl_ReadVector p0 = some r)  :
    Calls Tryz.prog 31 #[.string (bs p0)] w fun e w' => ∃ q0r0 : Nat, ∃ q0r1 : Nat, ∃ q0r2 : Nat, e = .returned (.tuple #[.agg #[.float .f32 q0r0, .float .f32 q0r1, .float .f32 q0r2], .bool r.2]) ∧ cn .f32 q0r0 = r.1.x ∧ cn .f32 q0r1 = r.1.y ∧ cn .f32 q0r2 = r.1.z ∧ Ext w w' := by
  refine calls_of_W Tryz.func31 rfl (Nat.le_of_ble_eq_true rfl) ?_
  refine W_seq ?_
  refine W_region rfl ?_
  refine da_op rfl (d_alloc (cs := #[.float .f32 0, .float .f32 0, .float .f32 0]) zero57 rfl fun w1 B1 E1 => ?_)
  have own2 : w.heap.size ≤ w.heap.size := Nat.le_trans (Ext.refl w).size (Nat.le_refl _)
  have X3 : Ext w w1 := (Ext.refl w).trans E1
  refine da_op rfl (d_as (v := .bool false) rfl ?_)
  refine da_nil ?_
  refine W_seq ?_
  refine W_region rfl ?_
  refine da_op rfl (d_mv (v := .string (bs p0)) rfl ?_)
  obtain ⟨m4, hm4, hr⟩ := bind_out hr
  refine da_op rfl (d_cl (vs := [.string (bs p0)]) en12 (ac rfl rfl) rfl ?_)
  refine (c12 p0 m4 w1 hm4 ).mono ?_
  rintro _ w5 ⟨q5_0a, q5_0n, q5_0c, rfl, q5_0R, q5_0F, E5⟩
  refine ⟨_, rfl, ?_⟩
  have own6 : ∀ k, (Value.slice q5_0a q5_0n q5_0c).ownBlock = some k → w.heap.size ≤ k := fun k hk => Nat.le_trans X3.size (q5_0F k hk)
  have sp7 : ¬ (Value.slice q5_0a q5_0n q5_0c).ownBlock = some w.heap.size := ne_fresh q5_0F (lt_heap B1)
  have X8 : Ext w w5 := X3.trans E5
  refine da_op rfl (d_mv (v := .tuple #[(Value.slice q5_0a q5_0n q5_0c), .bool m4.2]) rfl ?_)
  refine da_op rfl (d_extract (v := (Value.slice q5_0a q5_0n q5_0c)) rfl rfl ?_)
  refine da_op rfl (d_extract (v := .bool m4.2) rfl rfl ?_)
  refine da_op rfl (d_as (v := (Value.slice q5_0a q5_0n q5_0c)) rfl ?_)
  refine da_op rfl (d_as (v := .bool m4.2) rfl ?_)
  refine da_nil ?_
  refine W_seq ?_
  refine W_seq ?_
  have B10 : w5.heap[w.heap.size]? = some (.cells #[.float .f32 0, .float .f32 0, .float .f32 0] 57 (0, 0)) := E5.heap B1
  obtain ⟨m9, hm9, hr⟩ := letv_out hr
  refine W_cut (fun σ' w' => σ' 17 = .bool m9 ∧ Ext w5 w') rfl ?_ ?_
  · skip
    have hr := hm9
    refine da_op rfl (d_mv (v := .bool m4.2) rfl ?_)
    refine da_op rfl (d_not rfl ?_)
    refine da_op rfl (d_mv (v := .bool (!m4.2)) rfl ?_)
    rcases Bool.eq_false_or_eq_true m4.2 with hc11 | hc11
    · skip
      replace hr := bif_t hr hc11
      refine da_on rfl (Eq.trans (show sl _ _ _ = .bool (!m4.2) from rfl) (congrArg Value.bool (congrArg not hc11))) (d_mv (v := (Value.slice q5_0a q5_0n q5_0c)) rfl ?_)
      refine da_on rfl (Eq.trans (show sl _ _ _ = .bool (!m4.2) from rfl) (congrArg Value.bool (congrArg not hc11))) (d_len (e := encF_f32) un23 rfl q5_0R.rs ?_)
      refine da_on rfl (Eq.trans (show sl _ _ _ = .bool (!m4.2) from rfl) (congrArg Value.bool (congrArg not hc11))) (d_icmp cNeq rfl rfl ?_)
      refine da_op rfl (d_pick (b := false) (Eq.trans (show ev _ _ = .bool (!m4.2) from rfl) (congrArg Value.bool (congrArg not hc11))) ?_)
      refine da_nil ?_
      subst hr
      exact ⟨rfl, (Ext.refl w5)⟩
    · skip
      replace hr := bif_f hr hc11
      refine da_off rfl (Eq.trans (show sl _ _ _ = .bool (!m4.2) from rfl) (congrArg Value.bool (congrArg not hc11))) (by decide) ?_
      refine da_off rfl (Eq.trans (show sl _ _ _ = .bool (!m4.2) from rfl) (congrArg Value.bool (congrArg not hc11))) (by decide) ?_
      refine da_off rfl (Eq.trans (show sl _ _ _ = .bool (!m4.2) from rfl) (congrArg Value.bool (congrArg not hc11))) (by decide) ?_
      refine da_op rfl (d_pick (b := true) (Eq.trans (show ev _ _ = .bool (!m4.2) from rfl) (congrArg Value.bool (congrArg not hc11))) ?_)
      refine da_nil ?_
      subst hr
      exact ⟨rfl, (Ext.refl w5)⟩
  · skip
    rintro σ9 w9 o9 ⟨s17_9, E9⟩
    have s2_9 : σ9 2 = .pointer (some ⟨w.heap.size, 0, none⟩) := (o9 2 rfl).trans rfl
    have s4_9 : σ9 4 = (Value.slice q5_0a q5_0n q5_0c) := (o9 4 rfl).trans rfl
    have X12 : Ext w w9 := X8.trans E9
    refine W_cond (b := m9) s17_9 (fun hc13 => ?_) (fun hc13 => ?_)
    · skip
      replace hr := bif_t hr hc13
      refine W_seq ?_
      refine W_region rfl ?_
      refine da_op rfl (d_bd (vs := []) (cs := #[.float .f32 0, .float .f32 0, .float .f32 0]) rfl (by kernel_rfl) ?_)
      have B14 : w9.heap[w.heap.size]? = some (.cells #[.float .f32 0, .float .f32 0, .float .f32 0] 57 (0, 0)) := E9.heap B10
      refine da_op rfl (d_store (vs := #[.float .f32 0, .float .f32 0, .float .f32 0]) s2_9 rfl B14 size57 (Nat.le_of_ble_eq_true rfl) rfl fun w15 S15 => ?_)
      have X16 : Ext w w15 := Ext.step X12 S15.frmb (fun k _ hk => hk ▸ own2)
      have B17 : w15.heap[w.heap.size]? = some (.cells #[.float .f32 0, .float .f32 0, .float .f32 0] 57 (0, 0)) := S15.here
      refine da_op rfl (d_as (v := .bool false) rfl ?_)
      refine da_nil ?_
      refine W_ret ?_
      obtain rfl := Option.some.inj hr
      refine ⟨_, res2 (rv_cells (vs := #[.float .f32 0, .float .f32 0, .float .f32 0]) s2_9 agg57 size57 B17 rfl) (rv_tmp rfl), ?_⟩
      exact ⟨0, 0, 0, rfl, cn_f32_0, cn_f32_0, cn_f32_0, X16⟩
    · skip
      replace hr := bif_f hr hc13
      refine W_skip ?_
      refine W_seq ?_
      have B19 : w9.heap[w.heap.size]? = some (.cells #[.float .f32 0, .float .f32 0, .float .f32 0] 57 (0, 0)) := E9.heap B10
      have B20 : OS w9 40 encF_f32 (Value.slice q5_0a q5_0n q5_0c) m4.1 := q5_0R.ext E9
      obtain ⟨m21, hm21, hr⟩ := bind_out hr
      obtain ⟨m22, hm22, hr⟩ := bind_out hr
      obtain ⟨m23, hm23, hr⟩ := bind_out hr
      refine W_anyT 10 [] [{ V := fun _ v _ => v = (Value.slice q5_0a q5_0n q5_0c) }, { V := fun _ v _ => ∃ d18_1g : Nat, ∃ d18_1o : Nat, v = (.pointer (some ⟨d18_1g, d18_1o, none⟩)) ∧ EL encF_f32 (Value.slice q5_0a q5_0n q5_0c) (m4.1).length 0 d18_1g d18_1o }, { V := fun _ v _ => ∃ d18_1r0 : Nat, v = (.float .f32 d18_1r0) ∧ cn .f32 d18_1r0 = m21 }, { V := fun _ v _ => v = (Value.slice q5_0a q5_0n q5_0c) }, { V := fun _ v _ => ∃ d18_4g : Nat, ∃ d18_4o : Nat, v = (.pointer (some ⟨d18_4g, d18_4o, none⟩)) ∧ EL encF_f32 (Value.slice q5_0a q5_0n q5_0c) (m4.1).length 1 d18_4g d18_4o }, { V := fun _ v _ => ∃ d18_4r0 : Nat, v = (.float .f32 d18_4r0) ∧ cn .f32 d18_4r0 = m22 }, { V := fun _ v _ => v = (Value.slice q5_0a q5_0n q5_0c) }, { V := fun _ v _ => ∃ d18_7g : Nat, ∃ d18_7o : Nat, v = (.pointer (some ⟨d18_7g, d18_7o, none⟩)) ∧ EL encF_f32 (Value.slice q5_0a q5_0n q5_0c) (m4.1).length 2 d18_7g d18_7o }, { V := fun _ v _ => ∃ d18_7r0 : Nat, v = (.float .f32 d18_7r0) ∧ cn .f32 d18_7r0 = m23 }, { V := fun _ v _ => ∃ d18_1r0 : Nat, ∃ d18_4r0 : Nat, ∃ d18_7r0 : Nat, v = (.agg #[.float .f32 d18_1r0, .float .f32 d18_4r0, .float .f32 d18_7r0]) ∧ cn .f32 d18_1r0 = m21 ∧ cn .f32 d18_4r0 = m22 ∧ cn .f32 d18_7r0 = m23 }] mixed (by kernel_rfl) ⟨trivial, trivial, trivial, trivial, trivial, trivial, trivial, trivial, trivial, trivial, trivial⟩ ⟨?_, ?_, ?_, ?_, ?_, ?_, ?_, ?_, ?_, ?_, trivial⟩ ?_
      · skip
        refine ⟨fun _ _ _ _ _ _ h _ => h, fun _ _ h _ => h, fun σ' w' hA hE hD hP => ?_⟩
        have t4 : σ' 4 = (Value.slice q5_0a q5_0n q5_0c) := (hA 4 rfl).trans s4_9
        have B0_24 : OS w' 40 encF_f32 (Value.slice q5_0a q5_0n q5_0c) m4.1 := B20.frm hE (fun k hk => not_oth0)
        refine dg_op rfl (d_mv (v := (Value.slice q5_0a q5_0n q5_0c)) t4 ?_)
        exact ⟨rfl, own_none (Ext.refl w')⟩
      · skip
        refine ⟨fun _ _ _ _ _ _ h _ => h, fun _ _ h _ => h, fun σ' w' hA hE hD hP => ?_⟩
        have t19 : σ' 19 = (Value.slice q5_0a q5_0n q5_0c) := hD 0 rfl
        have B0_25 : OS w' 40 encF_f32 (Value.slice q5_0a q5_0n q5_0c) m4.1 := B20.frm hE (fun k hk => not_oth0)
        refine dg_op rfl (d_indexE (e := encF_f32) (v := (Value.slice q5_0a q5_0n q5_0c)) un23 size40 t19 rfl B0_25.rs hm21 fun g26 o26 l26 => ?_)
        exact ⟨⟨g26, o26, rfl, l26⟩, own_none (Ext.refl _)⟩
      · skip
        refine ⟨fun _ _ _ _ _ _ h _ => h, fun _ _ h _ => h, fun σ' w' hA hE hD hP => ?_⟩
        obtain ⟨d18_1g, d18_1o, t20, d18_1gE⟩ : ∃ d18_1g : Nat, ∃ d18_1o : Nat, σ' 20 = (.pointer (some ⟨d18_1g, d18_1o, none⟩)) ∧ EL encF_f32 (Value.slice q5_0a q5_0n q5_0c) (m4.1).length 0 d18_1g d18_1o := hD 1 rfl
        have B0_27 : OS w' 40 encF_f32 (Value.slice q5_0a q5_0n q5_0c) m4.1 := B20.frm hE (fun k hk => not_oth0)
        obtain ⟨d18_1c, d18_1T, d18_1f, d18_1vs, d18_1hg, d18_1P, d18_1hq⟩ := RS.el B0_27.rs d18_1gE hm21
        obtain ⟨d18_1r0, rfl, d18_1h0⟩ := dec_encF_f32 d18_1hq
        refine dg_op rfl (d_load (v := .float .f32 d18_1r0) t20 agg40 d18_1hg (sub_get (vs := #[.float .f32 d18_1r0]) d18_1P (i := 0) rfl) ?_)
        exact ⟨⟨d18_1r0, rfl, d18_1h0⟩, own_none (Ext.refl w')⟩
      · skip
        refine ⟨fun _ _ _ _ _ _ h _ => h, fun _ _ h _ => h, fun σ' w' hA hE hD hP => ?_⟩
        have t4 : σ' 4 = (Value.slice q5_0a q5_0n q5_0c) := (hA 4 rfl).trans s4_9
        have B0_28 : OS w' 40 encF_f32 (Value.slice q5_0a q5_0n q5_0c) m4.1 := B20.frm hE (fun k hk => not_oth0)
        refine dg_op rfl (d_mv (v := (Value.slice q5_0a q5_0n q5_0c)) t4 ?_)
        exact ⟨rfl, own_none (Ext.refl w')⟩
      · skip
        refine ⟨fun _ _ _ _ _ _ h _ => h, fun _ _ h _ => h, fun σ' w' hA hE hD hP => ?_⟩
        have t22 : σ' 22 = (Value.slice q5_0a q5_0n q5_0c) := hD 3 rfl
        have B0_29 : OS w' 40 encF_f32 (Value.slice q5_0a q5_0n q5_0c) m4.1 := B20.frm hE (fun k hk => not_oth0)
        refine dg_op rfl (d_indexE (e := encF_f32) (v := (Value.slice q5_0a q5_0n q5_0c)) un23 size40 t22 rfl B0_29.rs hm22 fun g30 o30 l30 => ?_)
        exact ⟨⟨g30, o30, rfl, l30⟩, own_none (Ext.refl _)⟩
      · skip
        refine ⟨fun _ _ _ _ _ _ h _ => h, fun _ _ h _ => h, fun σ' w' hA hE hD hP => ?_⟩
        obtain ⟨d18_4g, d18_4o, t23, d18_4gE⟩ : ∃ d18_4g : Nat, ∃ d18_4o : Nat, σ' 23 = (.pointer (some ⟨d18_4g, d18_4o, none⟩)) ∧ EL encF_f32 (Value.slice q5_0a q5_0n q5_0c) (m4.1).length 1 d18_4g d18_4o := hD 4 rfl
        have B0_31 : OS w' 40 encF_f32 (Value.slice q5_0a q5_0n q5_0c) m4.1 := B20.frm hE (fun k hk => not_oth0)
        obtain ⟨d18_4c, d18_4T, d18_4f, d18_4vs, d18_4hg, d18_4P, d18_4hq⟩ := RS.el B0_31.rs d18_4gE hm22
        obtain ⟨d18_4r0, rfl, d18_4h0⟩ := dec_encF_f32 d18_4hq
        refine dg_op rfl (d_load (v := .float .f32 d18_4r0) t23 agg40 d18_4hg (sub_get (vs := #[.float .f32 d18_4r0]) d18_4P (i := 0) rfl) ?_)
        exact ⟨⟨d18_4r0, rfl, d18_4h0⟩, own_none (Ext.refl w')⟩
      · skip
        refine ⟨fun _ _ _ _ _ _ h _ => h, fun _ _ h _ => h, fun σ' w' hA hE hD hP => ?_⟩
        have t4 : σ' 4 = (Value.slice q5_0a q5_0n q5_0c) := (hA 4 rfl).trans s4_9
        have B0_32 : OS w' 40 encF_f32 (Value.slice q5_0a q5_0n q5_0c) m4.1 := B20.frm hE (fun k hk => not_oth0)
        refine dg_op rfl (d_mv (v := (Value.slice q5_0a q5_0n q5_0c)) t4 ?_)
        exact ⟨rfl, own_none (Ext.refl w')⟩
      · skip
        refine ⟨fun _ _ _ _ _ _ h _ => h, fun _ _ h _ => h, fun σ' w' hA hE hD hP => ?_⟩
        have t25 : σ' 25 = (Value.slice q5_0a q5_0n q5_0c) := hD 6 rfl
        have B0_33 : OS w' 40 encF_f32 (Value.slice q5_0a q5_0n q5_0c) m4.1 := B20.frm hE (fun k hk => not_oth0)
        refine dg_op rfl (d_indexE (e := encF_f32) (v := (Value.slice q5_0a q5_0n q5_0c)) un23 size40 t25 rfl B0_33.rs hm23 fun g34 o34 l34 => ?_)
        exact ⟨⟨g34, o34, rfl, l34⟩, own_none (Ext.refl _)⟩
      · skip
        refine ⟨fun _ _ _ _ _ _ h _ => h, fun _ _ h _ => h, fun σ' w' hA hE hD hP => ?_⟩
        obtain ⟨d18_7g, d18_7o, t26, d18_7gE⟩ : ∃ d18_7g : Nat, ∃ d18_7o : Nat, σ' 26 = (.pointer (some ⟨d18_7g, d18_7o, none⟩)) ∧ EL encF_f32 (Value.slice q5_0a q5_0n q5_0c) (m4.1).length 2 d18_7g d18_7o := hD 7 rfl
        have B0_35 : OS w' 40 encF_f32 (Value.slice q5_0a q5_0n q5_0c) m4.1 := B20.frm hE (fun k hk => not_oth0)
        obtain ⟨d18_7c, d18_7T, d18_7f, d18_7vs, d18_7hg, d18_7P, d18_7hq⟩ := RS.el B0_35.rs d18_7gE hm23
        obtain ⟨d18_7r0, rfl, d18_7h0⟩ := dec_encF_f32 d18_7hq
        refine dg_op rfl (d_load (v := .float .f32 d18_7r0) t26 agg40 d18_7hg (sub_get (vs := #[.float .f32 d18_7r0]) d18_7P (i := 0) rfl) ?_)
        exact ⟨⟨d18_7r0, rfl, d18_7h0⟩, own_none (Ext.refl w')⟩
      · skip
        refine ⟨fun _ _ _ _ _ _ h _ => h, fun _ _ h _ => h, fun σ' w' hA hE hD hP => ?_⟩
        obtain ⟨d18_1r0, t21, d18_1h0⟩ : ∃ d18_1r0 : Nat, σ' 21 = (.float .f32 d18_1r0) ∧ cn .f32 d18_1r0 = m21 := hD 2 rfl
        obtain ⟨d18_4r0, t24, d18_4h0⟩ : ∃ d18_4r0 : Nat, σ' 24 = (.float .f32 d18_4r0) ∧ cn .f32 d18_4r0 = m22 := hD 5 rfl
        obtain ⟨d18_7r0, t27, d18_7h0⟩ : ∃ d18_7r0 : Nat, σ' 27 = (.float .f32 d18_7r0) ∧ cn .f32 d18_7r0 = m23 := hD 8 rfl
        refine dg_op rfl (d_bd (vs := [(0, .float .f32 d18_1r0), (1, .float .f32 d18_4r0), (2, .float .f32 d18_7r0)]) (cs := #[.float .f32 d18_1r0, .float .f32 d18_4r0, .float .f32 d18_7r0]) (pc t21 (pc t24 (pc t27 rfl))) (by kernel_rfl) ?_)
        exact ⟨⟨d18_1r0, d18_4r0, d18_7r0, rfl, d18_1h0, d18_4h0, d18_7h0⟩, own_none (Ext.refl w')⟩
      · skip
        intro σ18 w18 A18 E18 V18
        have E18x : Ext w9 w18 := ext_of_oth0 E18
        obtain ⟨z18_28_1r0, z18_28_4r0, z18_28_7r0, s28_18, z18_28_1h0, z18_28_4h0, z18_28_7h0⟩ : ∃ z18_28_1r0 : Nat, ∃ z18_28_4r0 : Nat, ∃ z18_28_7r0 : Nat, σ18 28 = (.agg #[.float .f32 z18_28_1r0, .float .f32 z18_28_4r0, .float .f32 z18_28_7r0]) ∧ cn .f32 z18_28_1r0 = m21 ∧ cn .f32 z18_28_4r0 = m22 ∧ cn .f32 z18_28_7r0 = m23 := V18 9 (Nat.le_of_ble_eq_true rfl)
        have s2_18 : σ18 2 = .pointer (some ⟨w.heap.size, 0, none⟩) := (A18 2 rfl).trans s2_9
        have X36 : Ext w w18 := X12.trans E18x
        have B37 : w18.heap[w.heap.size]? = some (.cells #[.float .f32 0, .float .f32 0, .float .f32 0] 57 (0, 0)) := E18x.heap B19
        refine da_op rfl (d_store (vs := #[.float .f32 z18_28_1r0, .float .f32 z18_28_4r0, .float .f32 z18_28_7r0]) s2_18 (congrArg Value.cells s28_18) B37 size57 (Nat.le_of_ble_eq_true rfl) rfl fun w38 S38 => ?_)
        have X39 : Ext w w38 := Ext.step X36 S38.frmb (fun k _ hk => hk ▸ own2)
        have B40 : w38.heap[w.heap.size]? = some (.cells #[.float .f32 z18_28_1r0, .float .f32 z18_28_4r0, .float .f32 z18_28_7r0] 57 (0, 0)) := S38.here
        refine da_op rfl (d_as (v := .bool true) rfl ?_)
        refine da_nil ?_
        refine W_ret ?_
        obtain rfl := Option.some.inj hr
        refine ⟨_, res2 (rv_cells (vs := #[.float .f32 z18_28_1r0, .float .f32 z18_28_4r0, .float .f32 z18_28_7r0]) s2_18 agg57 size57 B40 rfl) (rv_tmp rfl), ?_⟩
        exact ⟨z18_28_1r0, z18_28_4r0, z18_28_7r0, rfl, z18_28_1h0, z18_28_4h0, z18_28_7h0, X39⟩
set_option maxHeartbeats 4000000 in
theorem c11 (p0 : List UInt8) (r : List SVector × Bool) (w : World) (hr : M.impl_readVectors p0 = some r)  :
    Calls Tryz.prog 11 #[.string (bs p0)] w fun e w' => ∃ q0a : Option Addr, ∃ q0n : Nat, ∃ q0c : Nat, e = .returned (.tuple #[(Value.slice q0a q0n q0c), .bool r.2]) ∧ OS w' 57 encSVector (Value.slice q0a q0n q0c) r.1 ∧ (∀ k, (Value.slice q0a q0n q0c).ownBlock = some k → w.heap.size ≤ k) ∧ Ext w w' := by
  refine calls_of_W Tryz.func11 rfl (Nat.le_of_ble_eq_true rfl) ?_
  refine W_seq ?_
  refine W_region rfl ?_
  refine da_op rfl (d_as (v := .slice none 0 0) rfl ?_)
  refine da_op rfl (d_as (v := .bool false) rfl ?_)
  refine da_nil ?_
  refine W_seq ?_
  refine W_region rfl ?_
  refine da_op rfl (d_mv (v := .string (bs p0)) rfl ?_)
  obtain ⟨m1, hm1, hr⟩ := bind_out hr
  refine da_op rfl (d_cl (vs := [.string (bs p0), .int .i64 24]) en13 (ac rfl (ac rfl rfl)) rfl ?_)
  refine (c13 p0 24 m1 w hm1 ).mono ?_
  rintro _ w2 ⟨q2_0a, q2_0n, q2_0c, rfl, q2_0R, q2_0F, E2⟩
  refine ⟨_, rfl, ?_⟩
  have own3 : ∀ k, (Value.slice q2_0a q2_0n q2_0c).ownBlock = some k → w.heap.size ≤ k := fun k hk => Nat.le_trans (Ext.refl w).size (q2_0F k hk)
  have X4 : Ext w w2 := (Ext.refl w).trans E2
  refine da_op rfl (d_mv (v := .tuple #[(Value.slice q2_0a q2_0n q2_0c), .bool m1.2]) rfl ?_)
  refine da_op rfl (d_extract (v := (Value.slice q2_0a q2_0n q2_0c)) rfl rfl ?_)
  refine da_op rfl (d_extract (v := .bool m1.2) rfl rfl ?_)
  refine da_op rfl (d_as (v := (Value.slice q2_0a q2_0n q2_0c)) rfl ?_)
  refine da_op rfl (d_as (v := .bool m1.2) rfl ?_)
  refine da_nil ?_
  refine W_seq ?_
  refine W_region rfl ?_
  refine da_op rfl (d_bslice0 un22 size57 fun w5 B5 E5 => ?_)
  have fr5 : ∀ k, (Value.slice (some ⟨w2.heap.size, 0, none⟩) 0 0).ownBlock = some k → w2.heap.size ≤ k := fun k hk => by cases hk; exact Nat.le_refl _
  have own5 : ∀ k, (Value.slice (some ⟨w2.heap.size, 0, none⟩) 0 0).ownBlock = some k → w.heap.size ≤ k := fun k hk => Nat.le_trans X4.size (fr5 k hk)
  have sp6 : ∀ k, (Value.slice q2_0a q2_0n q2_0c).ownBlock = some k → ¬ (Value.slice (some ⟨w2.heap.size, 0, none⟩) 0 0).ownBlock = some k := apart_freshR q2_0R fr5
  have X7 : Ext w w5 := X4.trans E5
  have O5 : OS w5 57 encSVector (Value.slice (some ⟨w2.heap.size, 0, none⟩) 0 0) ([] : List SVector) := OS.box (xs := ([] : List SVector)) B5 rfl (Nat.le_of_ble_eq_true rfl)
  refine da_op rfl (d_as (v := (Value.slice (some ⟨w2.heap.size, 0, none⟩) 0 0)) rfl ?_)
  refine da_nil ?_
  refine W_seq ?_
  refine W_seq ?_
  refine W_region rfl ?_
  refine da_op rfl (d_mv (v := (Value.slice q2_0a q2_0n q2_0c)) rfl ?_)
  have B8 : RS w5 encS (Value.slice q2_0a q2_0n q2_0c) m1.1 := q2_0R.ext E5
  refine da_op rfl (d_len (e := encS) un32 rfl B8 ?_)
  refine da_op rfl (d_mv (v := .int .i64 0) rfl ?_)
  refine da_nil ?_
  refine W_block ?_
  obtain ⟨m9, hm9, hr⟩ := bind_out hr
  refine W_loopM hm9 (fun (s9 : Bool × List SVector × Int) σ w' => ∃ i9_1a : Option Addr, ∃ i9_1n : Nat, ∃ i9_1c : Nat, σ 5 = .bool s9.1 ∧ σ 6 = (Value.slice i9_1a i9_1n i9_1c) ∧ σ 19 = .int .i64 s9.2.2 ∧ σ 17 = (Value.slice q2_0a q2_0n q2_0c) ∧ σ 18 = .int .i64 ((m1.1).length : Int) ∧ OS w' 57 encSVector (Value.slice i9_1a i9_1n i9_1c) s9.2.1 ∧ (∀ k, (Value.slice i9_1a i9_1n i9_1c).ownBlock = some k → w.heap.size ≤ k) ∧ RS w' encS (Value.slice q2_0a q2_0n q2_0c) m1.1 ∧ (∀ k, (Value.slice q2_0a q2_0n q2_0c).ownBlock = some k → ¬ (Value.slice i9_1a i9_1n i9_1c).ownBlock = some k) ∧ Ext w w') (fun (e9 : (Bool × List SVector)) ex σ w' => ex = .exit 0 ∧ ∃ q9_0_1a : Option Addr, ∃ q9_0_1n : Nat, ∃ q9_0_1c : Nat, σ 5 = .bool e9.1 ∧ σ 6 = (Value.slice q9_0_1a q9_0_1n q9_0_1c) ∧ OS w' 57 encSVector (Value.slice q9_0_1a q9_0_1n q9_0_1c) e9.2 ∧ (∀ k, (Value.slice q9_0_1a q9_0_1n q9_0_1c).ownBlock = some k → w.heap.size ≤ k) ∧ Ext w w') ⟨(some ⟨w2.heap.size, 0, none⟩), 0, 0, rfl, rfl, rfl, rfl, rfl, O5, own5, B8, sp6, X7⟩ ?_ ?_
  · skip
    rintro s9 σl9 wl9 r9l ⟨i9_1a, i9_1n, i9_1c, i9_S5, i9_S6, i9_S19, i9_S17, i9_S18, i9_1R, i9_1O, i9_K0, i9_A0, i9_X⟩ hr
    refine W_seq ?_
    refine W_region rfl ?_
    refine da_op rfl (d_icmp cLss i9_S19 i9_S18 ?_)
    refine da_nil ?_
    refine W_seq ?_
    refine W_cond (b := (icmp .lss s9.2.2 ((m1.1).length : Int))) rfl (fun hc10 => ?_) (fun hc10 => ?_)
    · skip
      replace hr := bif_t hr hc10
      refine W_skip ?_
      refine W_seq ?_
      refine W_block ?_
      refine W_seq ?_
      refine W_region rfl ?_
      obtain ⟨m11, hm11, hr⟩ := bind_out hr
      refine da_op rfl (d_index (e := encS) (v := (Value.slice q2_0a q2_0n q2_0c)) un32 size9 i9_S17 i9_S19 i9_K0 hm11 fun g12 o12 cu12 T12 fr12 vs12 hv12 hg12 hp12 hq12 => ?_)
      obtain rfl := dec_encS hq12
      refine da_op rfl (d_load (v := .string (bs m11)) rfl agg9 hg12 (sub_get (vs := #[.string (bs m11)]) hp12 (i := 0) rfl) ?_)
      refine da_op rfl (d_as (v := .string (bs m11)) rfl ?_)
      refine da_nil ?_
      refine W_seq ?_
      refine W_region rfl ?_
      refine da_op rfl (d_mv (v := .string (bs m11)) rfl ?_)
      obtain ⟨m13, hm13, hr⟩ := bind_out hr
      refine da_op rfl (d_cl (vs := [.string (bs m11)]) en31 (ac rfl rfl) rfl ?_)
      refine (c31 m11 m13 wl9 hm13 ).mono ?_
      rintro _ w14 ⟨q14_0r0, q14_0r1, q14_0r2, rfl, q14_0h0, q14_0h1, q14_0h2, E14⟩
      refine ⟨_, rfl, ?_⟩
      have X15 : Ext w w14 := i9_X.trans E14
      refine da_op rfl (d_mv (v := .tuple #[.agg #[.float .f32 q14_0r0, .float .f32 q14_0r1, .float .f32 q14_0r2], .bool m13.2]) rfl ?_)
      refine da_op rfl (d_extract (v := .agg #[.float .f32 q14_0r0, .float .f32 q14_0r1, .float .f32 q14_0r2]) rfl rfl ?_)
      refine da_op rfl (d_extract (v := .bool m13.2) rfl rfl ?_)
      have B17 : RS w14 encS (Value.slice q2_0a q2_0n q2_0c) m1.1 := i9_K0.ext E14
      have B18 : OS w14 57 encSVector (Value.slice i9_1a i9_1n i9_1c) s9.2.1 := i9_1R.ext E14
      refine da_op rfl (d_alloc (cs := #[.float .f32 0, .float .f32 0, .float .f32 0]) zero57 rfl fun w16 B16 E16 => ?_)
      have own19 : w.heap.size ≤ w14.heap.size := Nat.le_trans X15.size (Nat.le_refl _)
      have sp20 : ¬ (Value.slice q2_0a q2_0n q2_0c).ownBlock = some w14.heap.size := RS.ne_new B17 (Nat.le_refl _)
      have sp21 : ¬ (Value.slice i9_1a i9_1n i9_1c).ownBlock = some w14.heap.size := OS.ne_new B18 (Nat.le_refl _)
      have X22 : Ext w w16 := X15.trans E16
      refine da_op rfl (d_store (vs := #[.float .f32 q14_0r0, .float .f32 q14_0r1, .float .f32 q14_0r2]) rfl rfl B16 size57 (Nat.le_of_ble_eq_true rfl) rfl fun w23 S23 => ?_)
      have X24 : Ext w w23 := Ext.step X22 S23.frmb (fun k _ hk => hk ▸ own19)
      have B25 : w23.heap[w14.heap.size]? = some (.cells #[.float .f32 q14_0r0, .float .f32 q14_0r1, .float .f32 q14_0r2] 57 (0, 0)) := S23.here
      refine da_op rfl (d_as (v := .bool m13.2) rfl ?_)
      refine da_nil ?_
      refine W_seq ?_
      have B27 : RS w23 encS (Value.slice q2_0a q2_0n q2_0c) m1.1 := (B17.ext E16).frm S23.frmb (fun k _ => (rb sp20) k)
      have B28 : OS w23 57 encSVector (Value.slice i9_1a i9_1n i9_1c) s9.2.1 := (B18.ext E16).frm S23.frmb (rb sp21)
      obtain ⟨m26, hm26, hr⟩ := letv_out hr
      refine W_cut (fun σ' w' => σ' 5 = .bool m26 ∧ Ext w23 w') rfl ?_ ?_
      · skip
        have hr := hm26
        refine da_op rfl (d_mv (v := .bool s9.1) i9_S5 ?_)
        refine da_op rfl (d_mv (v := .bool s9.1) rfl ?_)
        rcases Bool.eq_false_or_eq_true s9.1 with hc29 | hc29
        · skip
          replace hr := bif_t hr hc29
          refine da_on rfl (Eq.trans (show sl _ _ _ = .bool s9.1 from rfl) (congrArg Value.bool hc29)) (d_mv (v := .bool m13.2) rfl ?_)
          refine da_op rfl (d_pick (b := true) (Eq.trans (show ev _ _ = .bool s9.1 from rfl) (congrArg Value.bool hc29)) ?_)
          refine da_op rfl (d_as (v := .bool m13.2) rfl ?_)
          refine da_nil ?_
          subst hr
          exact ⟨rfl, (Ext.refl w23)⟩
        · skip
          replace hr := bif_f hr hc29
          refine da_off rfl (Eq.trans (show sl _ _ _ = .bool s9.1 from rfl) (congrArg Value.bool hc29)) (by decide) ?_
          refine da_op rfl (d_pick (b := false) (Eq.trans (show ev _ _ = .bool s9.1 from rfl) (congrArg Value.bool hc29)) ?_)
          refine da_op rfl (d_as (v := .bool false) rfl ?_)
          refine da_nil ?_
          subst hr
          exact ⟨rfl, (Ext.refl w23)⟩
      · skip
        rintro σ26 w26 o26 ⟨s5_26, E26⟩
        have s6_26 : σ26 6 = (Value.slice i9_1a i9_1n i9_1c) := (o26 6 rfl).trans i9_S6
        have s19_26 : σ26 19 = .int .i64 s9.2.2 := (o26 19 rfl).trans i9_S19
        have s17_26 : σ26 17 = (Value.slice q2_0a q2_0n q2_0c) := (o26 17 rfl).trans i9_S17
        have s18_26 : σ26 18 = .int .i64 ((m1.1).length : Int) := (o26 18 rfl).trans i9_S18
        have s9_26 : σ26 9 = .pointer (some ⟨w14.heap.size, 0, none⟩) := (o26 9 rfl).trans rfl
        have X30 : Ext w w26 := X24.trans E26
        refine W_region rfl ?_
        refine da_op rfl (d_mv (v := (Value.slice i9_1a i9_1n i9_1c)) s6_26 ?_)
        have B31 : w26.heap[w14.heap.size]? = some (.cells #[.float .f32 q14_0r0, .float .f32 q14_0r1, .float .f32 q14_0r2] 57 (0, 0)) := E26.heap B25
        refine da_op rfl (d_loads (vs := #[.float .f32 q14_0r0, .float .f32 q14_0r1, .float .f32 q14_0r2]) s9_26 agg57 size57 B31 rfl ?_)
        have B33 : RS w26 encS (Value.slice q2_0a q2_0n q2_0c) m1.1 := B27.ext E26
        have B34 : OS w26 57 encSVector (Value.slice i9_1a i9_1n i9_1c) s9.2.1 := B28.ext E26
        refine da_op rfl (d_bslice (vs := [(0, .agg #[.float .f32 q14_0r0, .float .f32 q14_0r1, .float .f32 q14_0r2])]) (cs := #[.float .f32 q14_0r0, .float .f32 q14_0r1, .float .f32 q14_0r2]) un22 (pc rfl rfl) (by kernel_rfl) fun w32 B32 E32 => ?_)
        have fr32 : ∀ k, (Value.slice (some ⟨w26.heap.size, 0, none⟩) 1 1).ownBlock = some k → w26.heap.size ≤ k := fun k hk => by cases hk; exact Nat.le_refl _
        have own32 : ∀ k, (Value.slice (some ⟨w26.heap.size, 0, none⟩) 1 1).ownBlock = some k → w.heap.size ≤ k := fun k hk => Nat.le_trans X30.size (fr32 k hk)
        have sp35 : ∀ k, (Value.slice q2_0a q2_0n q2_0c).ownBlock = some k → ¬ (Value.slice (some ⟨w26.heap.size, 0, none⟩) 1 1).ownBlock = some k := apart_freshR B33 fr32
        have sp36 : ∀ k, (Value.slice i9_1a i9_1n i9_1c).ownBlock = some k → ¬ (Value.slice (some ⟨w26.heap.size, 0, none⟩) 1 1).ownBlock = some k := apart_fresh B34 fr32
        have sp37 : ¬ (Value.slice (some ⟨w26.heap.size, 0, none⟩) 1 1).ownBlock = some w14.heap.size := ne_fresh fr32 (lt_heap B31)
        have X38 : Ext w w32 := X30.trans E32
        have O32 : OS w32 57 encSVector (Value.slice (some ⟨w26.heap.size, 0, none⟩) 1 1) [m13.1] := OS.box (xs := [m13.1]) B32 (lc_f q14_0h0 (lc_f q14_0h1 (lc_f q14_0h2 rfl))) (Nat.le_of_ble_eq_true rfl)
        obtain ⟨m39, hm39, hr⟩ := bind_out hr
        have B40 : OS w32 57 encSVector (Value.slice i9_1a i9_1n i9_1c) s9.2.1 := B34.ext E32
        have B41 : RS w32 encS (Value.slice q2_0a q2_0n q2_0c) m1.1 := B33.ext E32
        have B42 : w32.heap[w14.heap.size]? = some (.cells #[.float .f32 q14_0r0, .float .f32 q14_0r1, .float .f32 q14_0r2] 57 (0, 0)) := E32.heap B31
        refine da_op rfl (d_append (e := encSVector) (v := (Value.slice i9_1a i9_1n i9_1c)) (y := (Value.slice (some ⟨w26.heap.size, 0, none⟩) 1 1)) un22 info57 rfl (by kernel_rfl) (by kernel_rfl) (by decide) (by decide) rfl rfl B40 O32.rs hm39 fun v43 w43 O43 Fm43 at_43 nl43 => ?_)
        obtain ⟨v43pa, v43pn, v43pc, rfl⟩ := O43.vals
        have own43 : ∀ k, (Value.slice v43pa v43pn v43pc).ownBlock = some k → w.heap.size ≤ k := app_own (w := w32) at_43 i9_1O X38.size
        have sp44 : ∀ k, (Value.slice q2_0a q2_0n q2_0c).ownBlock = some k → ¬ (Value.slice v43pa v43pn v43pc).ownBlock = some k := app_nrR at_43 i9_A0 B41
        have sp45 : ¬ (Value.slice v43pa v43pn v43pc).ownBlock = some w14.heap.size := app_nb at_43 sp21 (lt_heap B42)
        have sp46 : ∀ k, (Value.slice (some ⟨w26.heap.size, 0, none⟩) 1 1).ownBlock = some k → ¬ (Value.slice v43pa v43pn v43pc).ownBlock = some k := app_nr at_43 (apart_symm sp36) O32
        have X47 : Ext w w43 := Ext.step X38 Fm43 (fun k _ hk => i9_1O k hk)
        refine da_op rfl (d_as (v := (Value.slice v43pa v43pn v43pc)) rfl ?_)
        refine da_nil ?_
        refine W_region rfl ?_
        refine da_op rfl (d_iarith s19_26 rfl (.inl ⟨rfl, rfl⟩) ?_)
        refine da_op rfl (d_mv (v := .int .i64 (IntKind.i64.wrap (s9.2.2 + 1))) rfl ?_)
        refine da_nil ?_
        have B48 : RS w43 encS (Value.slice q2_0a q2_0n q2_0c) m1.1 := B41.frm Fm43 (fun k _ => i9_A0 k)
        obtain rfl := Option.some.inj hr
        exact ⟨_, rfl, ⟨v43pa, v43pn, v43pc, s5_26, rfl, rfl, s17_26, s18_26, O43, own43, B48, sp44, X47⟩⟩
    · skip
      replace hr := bif_f hr hc10
      refine W_exit ?_
      obtain rfl := Option.some.inj hr
      exact ⟨_, rfl, rfl, i9_1a, i9_1n, i9_1c, i9_S5, i9_S6, i9_1R, i9_1O, i9_X⟩
  · skip
    intro ex σx9 wx9 hq
    obtain ⟨rfl, q9_0_1a, q9_0_1n, q9_0_1c, q9_0_S5, q9_0_S6, q9_0_1R, q9_0_1O, q9_0_X⟩ := hq
    refine W_seq ?_
    refine W_region rfl ?_
    refine da_op rfl (d_mv (v := (Value.slice q9_0_1a q9_0_1n q9_0_1c)) q9_0_S6 ?_)
    refine da_op rfl (d_mv (v := .bool m9.1) q9_0_S5 ?_)
    refine da_op rfl (d_as (v := (Value.slice q9_0_1a q9_0_1n q9_0_1c)) rfl ?_)
    refine da_op rfl (d_as (v := .bool m9.1) rfl ?_)
    refine da_nil ?_
    refine W_ret ?_
    obtain rfl := Option.some.inj hr
    refine ⟨_, res2 (rv_tmp rfl) (rv_tmp rfl), ?_⟩
    exact ⟨q9_0_1a, q9_0_1n, q9_0_1c, rfl, q9_0_1R, q9_0_1O, q9_0_X⟩
set_option maxHeartbeats 4000000 in
theorem c70_s3a (p0 : List UInt8) (r : Int) (w : World) (hr : M.internal_stringslite_Index_s3a p0 = some r)  :
    Calls Tryz.prog 70 #[.string (bs p0), .string (bs ([58] : List UInt8))] w fun e w' => e = .returned (.int .i64 r) ∧ Ext w w' := by
  refine calls_of_W Tryz.func70 rfl (Nat.le_of_ble_eq_true rfl) ?_
  refine W_seq ?_
  refine W_region rfl ?_
  refine da_op rfl (d_as (v := .int .i64 0) rfl ?_)
  refine da_nil ?_
  refine W_seq ?_
  refine W_region rfl ?_
  refine da_op rfl (d_mv (v := .string (bs ([58] : List UInt8))) rfl ?_)
  refine da_op rfl (d_slenL (n := 1) un9 rfl rfl ?_)
  refine da_op rfl (d_as (v := .int .i64 1) rfl ?_)
  refine da_nil ?_
  refine W_seq ?_
  refine W_block ?_
  refine W_seq ?_
  refine W_cut (fun σ' w' => σ' 16 = .bool (([58] : List UInt8) == p0) ∧ Ext w w') rfl ?_ ?_
  · skip
    clear hr
    refine da_op rfl (d_mv (v := .int .i64 1) rfl ?_)
    refine da_op rfl (d_icmpL (b := false) cEql rfl rfl (by decide) ?_)
    refine da_op rfl (d_mv (v := .bool false) rfl ?_)
    refine da_on rfl rfl (d_mv (v := .string (bs ([58] : List UInt8))) rfl ?_)
    refine da_on rfl rfl (d_mv (v := .string (bs p0)) rfl ?_)
    refine da_on rfl rfl (d_seq rfl rfl ?_)
    refine da_op rfl (d_pick (b := false) rfl ?_)
    refine da_op rfl (d_as (v := .bool (([58] : List UInt8) == p0)) rfl ?_)
    refine da_nil ?_
    exact ⟨rfl, (Ext.refl w)⟩
  · skip
    rintro σ1 w1 o1 ⟨s16_1, E1⟩
    have s0_1 : σ1 0 = .string (bs p0) := (o1 0 rfl).trans rfl
    have s1_1 : σ1 1 = .string (bs ([58] : List UInt8)) := (o1 1 rfl).trans rfl
    have s5_1 : σ1 5 = .int .i64 1 := (o1 5 rfl).trans rfl
    have X2 : Ext w w1 := (Ext.refl w).trans E1
    refine W_cond (b := (([58] : List UInt8) == p0)) s16_1 (fun hc3 => ?_) (fun hc3 => ?_)
    · skip
      replace hr := bif_t hr hc3
      refine W_seq ?_
      refine W_region rfl ?_
      refine da_op rfl (d_as (v := .int .i64 0) rfl ?_)
      refine da_nil ?_
      refine W_ret ?_
      obtain rfl := Option.some.inj hr
      refine ⟨_, res1 (rv_tmp rfl), ?_⟩
      exact ⟨rfl, X2⟩
    · skip
      replace hr := bif_f hr hc3
      refine W_seq ?_
      refine W_region rfl ?_
      refine da_op rfl (d_mv (v := .int .i64 1) s5_1 ?_)
      refine da_op rfl (d_icmpL (b := true) cEql rfl rfl (by decide) ?_)
      refine da_op rfl (d_as (v := .bool true) rfl ?_)
      refine da_nil ?_
      refine W_true rfl ?_
      refine W_seq ?_
      refine W_region rfl ?_
      refine da_op rfl (d_mv (v := .string (bs p0)) s0_1 ?_)
      refine da_op rfl (d_mv (v := .string (bs ([58] : List UInt8))) s1_1 ?_)
      obtain ⟨m4, hm4, hr⟩ := bind_out hr
      refine da_op rfl (d_sidx un9 rfl rfl hm4 ?_)
      obtain ⟨m5, hm5, hr⟩ := letv_out hr
      refine da_op rfl (d_cl (vs := [.string (bs p0), .int .u8 m4]) en71 (ac rfl (ac rfl rfl)) rfl ?_)
      refine (c71 p0 m4 m5 w1 hm5 ).mono ?_
      rintro _ w6 ⟨rfl, E6⟩
      refine ⟨_, rfl, ?_⟩
      have X7 : Ext w w6 := X2.trans E6
      refine da_op rfl (d_as (v := .int .i64 m5) rfl ?_)
      refine da_nil ?_
      refine W_ret ?_
      obtain rfl := Option.some.inj hr
      refine ⟨_, res1 (rv_tmp rfl), ?_⟩
      exact ⟨rfl, X7⟩
set_option maxHeartbeats 4000000 in
theorem c52_s3a (p0 : List UInt8) (r : List UInt8 × List UInt8 × Bool) (w : World) (hr : M.internal_stringslite_Cut_s3a p0 = some r)  :
    Calls Tryz.prog 52 #[.string (bs p0), .string (bs ([58] : List UInt8))] w fun e w' => e = .returned (.tuple #[.string (bs r.1), .string (bs r.2.1), .bool r.2.2]) ∧ Ext w w' := by
  refine calls_of_W Tryz.func52 rfl (Nat.le_of_ble_eq_true rfl) ?_
  refine W_seq ?_
  refine W_region rfl ?_
  refine da_op rfl (d_as (v := .string (bs ([] : List UInt8))) rfl ?_)
  refine da_op rfl (d_as (v := .string (bs ([] : List UInt8))) rfl ?_)
  refine da_op rfl (d_as (v := .bool false) rfl ?_)
  refine da_nil ?_
  refine W_seq ?_
  refine W_seq ?_
  refine W_region rfl ?_
  refine da_op rfl (d_mv (v := .string (bs p0)) rfl ?_)
  refine da_op rfl (d_mv (v := .string (bs ([58] : List UInt8))) rfl ?_)
  obtain ⟨m1, hm1, hr⟩ := bind_out hr
  refine da_op rfl (d_cl (vs := [.string (bs p0), .string (bs ([58] : List UInt8))]) en70 (ac rfl (ac rfl rfl)) rfl ?_)
  refine (c70_s3a p0 m1 w hm1 ).mono ?_
  rintro _ w2 ⟨rfl, E2⟩
  refine ⟨_, rfl, ?_⟩
  have X3 : Ext w w2 := (Ext.refl w).trans E2
  refine da_op rfl (d_as (v := .int .i64 m1) rfl ?_)
  refine da_nil ?_
  refine W_seq ?_
  refine W_region rfl ?_
  refine da_op rfl (d_mv (v := .int .i64 m1) rfl ?_)
  refine da_op rfl (d_icmp cGeq rfl rfl ?_)
  refine da_nil ?_
  refine W_cond (b := (icmp .geq m1 0)) rfl (fun hc4 => ?_) (fun hc4 => ?_)
  · skip
    replace hr := bif_t hr hc4
    refine W_seq ?_
    obtain ⟨m6, hm6, hr⟩ := bind_out hr
    obtain ⟨m7, hm7, hr⟩ := bind_out hr
    refine W_any [] [{ V := fun _ v _ => v = (.string (bs p0)) }, { V := fun _ v _ => v = (.int .i64 m1) }, { V := fun _ v _ => v = (.string (bs m6)) }, { V := fun _ v _ => v = (.string (bs p0)) }, { V := fun _ v _ => v = (.int .i64 m1) }, { V := fun _ v _ => v = (.string (bs ([58] : List UInt8))) }, { V := fun _ v _ => v = (.int .i64 1) }, { V := fun _ v _ => v = (.int .i64 (IntKind.i64.wrap (m1 + 1))) }, { V := fun _ v _ => v = (.string (bs m7)) }, { V := fun _ v _ => v = (.string (bs m6)) }, { V := fun _ v _ => v = (.string (bs m7)) }, { V := fun _ v _ => v = (.bool true) }] mixed (by kernel_rfl) ⟨trivial, trivial, trivial, trivial, trivial, trivial, trivial, trivial, trivial, trivial, trivial, trivial, trivial⟩ ⟨?_, ?_, ?_, ?_, ?_, ?_, ?_, ?_, ?_, ?_, ?_, ?_, trivial⟩ ?_
    · skip
      refine ⟨fun _ _ _ _ _ _ h _ => h, fun _ _ h _ => h, fun σ' w' hA hE hD hP => ?_⟩
      have t0 : σ' 0 = .string (bs p0) := (hA 0 rfl).trans rfl
      refine dg_op rfl (d_mv (v := .string (bs p0)) t0 ?_)
      exact ⟨rfl, own_none (Ext.refl w')⟩
    · skip
      refine ⟨fun _ _ _ _ _ _ h _ => h, fun _ _ h _ => h, fun σ' w' hA hE hD hP => ?_⟩
      have t7 : σ' 7 = .int .i64 m1 := (hA 7 rfl).trans rfl
      refine dg_op rfl (d_mv (v := .int .i64 m1) t7 ?_)
      exact ⟨rfl, own_none (Ext.refl w')⟩
    · skip
      refine ⟨fun _ _ _ _ _ _ h _ => h, fun _ _ h _ => h, fun σ' w' hA hE hD hP => ?_⟩
      have t13 : σ' 13 = (.string (bs p0)) := hD 0 rfl
      have t14 : σ' 14 = (.int .i64 m1) := hD 1 rfl
      refine dg_op rfl (d_ssub (a := 0) (b := m1) un9 t13 (.inl ⟨rfl, rfl⟩) (.inr ⟨_, _, rfl, t14⟩) hm6 ?_)
      exact ⟨rfl, own_none (Ext.refl w')⟩
    · skip
      refine ⟨fun _ _ _ _ _ _ h _ => h, fun _ _ h _ => h, fun σ' w' hA hE hD hP => ?_⟩
      have t0 : σ' 0 = .string (bs p0) := (hA 0 rfl).trans rfl
      refine dg_op rfl (d_mv (v := .string (bs p0)) t0 ?_)
      exact ⟨rfl, own_none (Ext.refl w')⟩
    · skip
      refine ⟨fun _ _ _ _ _ _ h _ => h, fun _ _ h _ => h, fun σ' w' hA hE hD hP => ?_⟩
      have t7 : σ' 7 = .int .i64 m1 := (hA 7 rfl).trans rfl
      refine dg_op rfl (d_mv (v := .int .i64 m1) t7 ?_)
      exact ⟨rfl, own_none (Ext.refl w')⟩
    · skip
      refine ⟨fun _ _ _ _ _ _ h _ => h, fun _ _ h _ => h, fun σ' w' hA hE hD hP => ?_⟩
      have t1 : σ' 1 = .string (bs ([58] : List UInt8)) := (hA 1 rfl).trans rfl
      refine dg_op rfl (d_mv (v := .string (bs ([58] : List UInt8))) t1 ?_)
      exact ⟨rfl, own_none (Ext.refl w')⟩
    · skip
      refine ⟨fun _ _ _ _ _ _ h _ => h, fun _ _ h _ => h, fun σ' w' hA hE hD hP => ?_⟩
      have t18 : σ' 18 = (.string (bs ([58] : List UInt8))) := hD 5 rfl
      refine dg_op rfl (d_slenL (n := 1) un9 t18 rfl ?_)
      exact ⟨rfl, own_none (Ext.refl w')⟩
    · skip
      refine ⟨fun _ _ _ _ _ _ h _ => h, fun _ _ h _ => h, fun σ' w' hA hE hD hP => ?_⟩
      have t17 : σ' 17 = (.int .i64 m1) := hD 4 rfl
      have t19 : σ' 19 = (.int .i64 1) := hD 6 rfl
      refine dg_op rfl (d_iarith t17 t19 (.inl ⟨rfl, rfl⟩) ?_)
      exact ⟨rfl, own_none (Ext.refl w')⟩
    · skip
      refine ⟨fun _ _ _ _ _ _ h _ => h, fun _ _ h _ => h, fun σ' w' hA hE hD hP => ?_⟩
      have t16 : σ' 16 = (.string (bs p0)) := hD 3 rfl
      have t20 : σ' 20 = (.int .i64 (IntKind.i64.wrap (m1 + 1))) := hD 7 rfl
      refine dg_op rfl (d_ssub (a := (IntKind.i64.wrap (m1 + 1))) (b := ((p0).length : Int)) un9 t16 (.inr ⟨_, _, rfl, t20⟩) (.inl ⟨rfl, rfl⟩) hm7 ?_)
      exact ⟨rfl, own_none (Ext.refl w')⟩
    · skip
      refine ⟨fun _ _ _ _ _ _ h _ => h, fun _ _ h _ => h, fun σ' w' hA hE hD hP => ?_⟩
      have t15 : σ' 15 = (.string (bs m6)) := hD 2 rfl
      refine dg_op rfl (d_as (v := .string (bs m6)) t15 ?_)
      exact ⟨rfl, own_none (Ext.refl w')⟩
    · skip
      refine ⟨fun _ _ _ _ _ _ h _ => h, fun _ _ h _ => h, fun σ' w' hA hE hD hP => ?_⟩
      have t21 : σ' 21 = (.string (bs m7)) := hD 8 rfl
      refine dg_op rfl (d_as (v := .string (bs m7)) t21 ?_)
      exact ⟨rfl, own_none (Ext.refl w')⟩
    · skip
      refine ⟨fun _ _ _ _ _ _ h _ => h, fun _ _ h _ => h, fun σ' w' hA hE hD hP => ?_⟩
      refine dg_op rfl (d_as (v := .bool true) rfl ?_)
      exact ⟨rfl, own_none (Ext.refl w')⟩
    · skip
      intro σ5 w5 A5 E5 V5
      have E5x : Ext w2 w5 := ext_of_oth0 E5
      have s4_5 : σ5 4 = (.string (bs m6)) := V5 9 (Nat.le_of_ble_eq_true rfl)
      have s5_5 : σ5 5 = (.string (bs m7)) := V5 10 (Nat.le_of_ble_eq_true rfl)
      have s6_5 : σ5 6 = (.bool true) := V5 11 (Nat.le_of_ble_eq_true rfl)
      have X8 : Ext w w5 := X3.trans E5x
      refine W_ret ?_
      obtain rfl := Option.some.inj hr
      refine ⟨_, res3 (rv_tmp s4_5) (rv_tmp s5_5) (rv_tmp s6_5), ?_⟩
      exact ⟨rfl, X8⟩
  · skip
    replace hr := bif_f hr hc4
    refine W_skip ?_
    refine W_seq ?_
    refine W_region rfl ?_
    refine da_op rfl (d_mv (v := .string (bs p0)) rfl ?_)
    refine da_op rfl (d_as (v := .string (bs p0)) rfl ?_)
    refine da_op rfl (d_as (v := .string (bs ([] : List UInt8))) rfl ?_)
    refine da_op rfl (d_as (v := .bool false) rfl ?_)
    refine da_nil ?_
    refine W_ret ?_
    obtain rfl := Option.some.inj hr
    refine ⟨_, res3 (rv_tmp rfl) (rv_tmp rfl) (rv_tmp rfl), ?_⟩
    exact ⟨rfl, X3⟩
set_option maxHeartbeats 4000000 in
theorem c34_s3a (p0 : List UInt8) (r : List UInt8 × List UInt8 × Bool) (w : World) (hr : M.strings_Cut_s3a p0 = some r)  :
    Calls Tryz.prog 34 #[.string (bs p0), .string (bs ([58] : List UInt8))] w fun e w' => e = .returned (.tuple #[.string (bs r.1), .string (bs r.2.1), .bool r.2.2]) ∧ Ext w w' := by
  refine calls_of_W Tryz.func34 rfl (Nat.le_of_ble_eq_true rfl) ?_
  refine W_seq ?_
  refine W_region rfl ?_
  refine da_op rfl (d_as (v := .string (bs ([] : List UInt8))) rfl ?_)
  refine da_op rfl (d_as (v := .string (bs ([] : List UInt8))) rfl ?_)
  refine da_op rfl (d_as (v := .bool false) rfl ?_)
  refine da_nil ?_
  refine W_seq ?_
  refine W_region rfl ?_
  refine da_op rfl (d_mv (v := .string (bs p0)) rfl ?_)
  refine da_op rfl (d_mv (v := .string (bs ([58] : List UInt8))) rfl ?_)
  obtain ⟨m1, hm1, hr⟩ := bind_out hr
  refine da_op rfl (d_cl (vs := [.string (bs p0), .string (bs ([58] : List UInt8))]) en52 (ac rfl (ac rfl rfl)) rfl ?_)
  refine (c52_s3a p0 m1 w hm1 ).mono ?_
  rintro _ w2 ⟨rfl, E2⟩
  refine ⟨_, rfl, ?_⟩
  have X3 : Ext w w2 := (Ext.refl w).trans E2
  refine da_op rfl (d_extract (v := .string (bs m1.1)) rfl rfl ?_)
  refine da_op rfl (d_extract (v := .string (bs m1.2.1)) rfl rfl ?_)
  refine da_op rfl (d_extract (v := .bool m1.2.2) rfl rfl ?_)
  refine da_op rfl (d_as (v := .string (bs m1.1)) rfl ?_)
  refine da_op rfl (d_as (v := .string (bs m1.2.1)) rfl ?_)
  refine da_op rfl (d_as (v := .bool m1.2.2) rfl ?_)
  refine da_nil ?_
  refine W_ret ?_
  obtain rfl := Option.some.inj hr
  refine ⟨_, res3 (rv_tmp rfl) (rv_tmp rfl) (rv_tmp rfl), ?_⟩
  exact ⟨rfl, X3⟩
set_option maxHeartbeats 4000000 in
theorem c75 (p0 : Int) (r : List UInt8) (w : World) (hr : M.impl_Decimal p0 = some r) (t_T10 : T10 Tryz.prog w) :
    Calls Tryz.prog 75 #[.int .i64 p0] w fun e w' => e = .returned (.string (bs r)) ∧ Ext w w' := by
  refine calls_of_W Tryz.func75 rfl (Nat.le_of_ble_eq_true rfl) ?_
  refine W_seq ?_
  refine W_region rfl ?_
  refine da_op rfl (d_as (v := .string (bs ([] : List UInt8))) rfl ?_)
  refine da_nil ?_
  refine W_seq ?_
  refine W_region rfl ?_
  refine da_op rfl (d_mv (v := .int .i64 p0) rfl ?_)
  obtain ⟨m2, hm2, hr⟩ := bind_out hr
  refine da_op rfl (d_cl (vs := [.int .i64 p0, .int .i64 10]) en90 (ac rfl (ac rfl rfl)) rfl ?_)
  refine (sh90 hm2 (t_T10.ext (Ext.refl w))).mono ?_
  rintro _ w1 ⟨rfl, E1⟩
  refine ⟨_, rfl, ?_⟩
  have X3 : Ext w w1 := (Ext.refl w).trans E1
  refine da_op rfl (d_as (v := .string (bs m2)) rfl ?_)
  refine da_nil ?_
  refine W_ret ?_
  obtain rfl := Option.some.inj hr
  refine ⟨_, res1 (rv_tmp rfl), ?_⟩
  exact ⟨rfl, X3⟩
set_option maxHeartbeats 4000000 in
theorem c53 (p0 : List UInt8) (r : Int × Bool) (w : World) (hr : M.impl_ReadDecimal p0 = some r) (t_TSyn : TSyn Tryz.prog w) (t_TRan : TRan Tryz.prog w) (t_T10 : T10 Tryz.prog w) :
    Calls Tryz.prog 53 #[.string (bs p0)] w fun e w' => e = .returned (.tuple #[.int .i64 r.1, .bool r.2]) ∧ Ext w w' := by
  refine calls_of_W Tryz.func53 rfl (Nat.le_of_ble_eq_true rfl) ?_
  refine W_seq ?_
  refine W_region rfl ?_
  refine da_op rfl (d_as (v := .int .i64 0) rfl ?_)
  refine da_op rfl (d_as (v := .bool false) rfl ?_)
  refine da_nil ?_
  refine W_seq ?_
  refine W_region rfl ?_
  refine da_op rfl (d_mv (v := .string (bs p0)) rfl ?_)
  obtain ⟨m2, hm2, hr⟩ := bind_out hr
  refine da_op rfl (d_cl (vs := [.string (bs p0), .int .i64 10, .int .i64 64]) en74 (ac rfl (ac rfl (ac rfl rfl))) rfl ?_)
  refine (sh74 hm2 (t_TSyn.ext (Ext.refl w)) (t_TRan.ext (Ext.refl w))).mono ?_
  rintro _ w1 ⟨er1, rfl, he1, E1⟩
  refine ⟨_, rfl, ?_⟩
  have X3 : Ext w w1 := (Ext.refl w).trans E1
  refine da_op rfl (d_mv (v := .tuple #[.int .i64 m2.1, er1]) rfl ?_)
  refine da_op rfl (d_extract (v := .int .i64 m2.1) rfl rfl ?_)
  refine da_op rfl (d_extract (v := er1) rfl rfl ?_)
  refine da_op rfl (d_as (v := .int .i64 m2.1) rfl ?_)
  refine da_op rfl (d_as (v := er1) rfl ?_)
  refine da_nil ?_
  refine W_seq ?_
  refine W_seq ?_
  obtain ⟨m4, hm4, hr⟩ := bind_out hr
  refine W_cut (fun σ' w' => σ' 23 = .bool m4 ∧ Ext w1 w') rfl ?_ ?_
  · skip
    have hr := hm4
    refine da_op rfl (d_mv (v := er1) rfl ?_)
    refine da_op rfl (d_errne Tryz.underlying98 rfl rfl he1 ?_)
    refine da_op rfl (d_mv (v := .bool (!m2.2)) rfl ?_)
    rcases Bool.eq_false_or_eq_true m2.2 with hc5 | hc5
    · skip
      replace hr := bif_t hr hc5
      refine da_on rfl (Eq.trans (show sl _ _ _ = .bool (!m2.2) from rfl) (congrArg Value.bool (congrArg not hc5))) (d_mv (v := .int .i64 m2.1) rfl ?_)
      obtain ⟨m6, hm6, hr⟩ := letv_out hr
      refine da_on rfl (Eq.trans (show sl _ _ _ = .bool (!m2.2) from rfl) (congrArg Value.bool (congrArg not hc5))) (d_cl (vs := [.int .i64 m2.1, .int .i64 (-1000000000000000), .int .i64 1000000000000000]) en72 (ac rfl (ac rfl (ac rfl rfl))) rfl ?_)
      refine (c72 m2.1 (-1000000000000000) 1000000000000000 m6 w1 hm6 ).mono ?_
      rintro _ w7 ⟨rfl, E7⟩
      refine ⟨_, rfl, ?_⟩
      have X8 : Ext w w7 := X3.trans E7
      refine da_on rfl (Eq.trans (show sl _ _ _ = .bool (!m2.2) from rfl) (congrArg Value.bool (congrArg not hc5))) (d_not rfl ?_)
      refine da_op rfl (d_pick (b := false) (Eq.trans (show ev _ _ = .bool (!m2.2) from rfl) (congrArg Value.bool (congrArg not hc5))) ?_)
      refine da_op rfl (d_mv (v := .bool (!m6)) rfl ?_)
      rcases Bool.eq_false_or_eq_true m6 with hc9 | hc9
      · skip
        replace hr := bif_t hr hc9
        refine da_on rfl (Eq.trans (show sl _ _ _ = .bool (!m6) from rfl) (congrArg Value.bool (congrArg not hc9))) (d_mv (v := .int .i64 m2.1) rfl ?_)
        obtain ⟨m10, hm10, hr⟩ := bind_out hr
        refine da_on rfl (Eq.trans (show sl _ _ _ = .bool (!m6) from rfl) (congrArg Value.bool (congrArg not hc9))) (d_cl (vs := [.int .i64 m2.1]) en75 (ac rfl rfl) rfl ?_)
        refine (c75 m2.1 m10 w7 hm10 (t_T10.ext X8)).mono ?_
        rintro _ w11 ⟨rfl, E11⟩
        refine ⟨_, rfl, ?_⟩
        have X12 : Ext w w11 := X8.trans E11
        refine da_on rfl (Eq.trans (show sl _ _ _ = .bool (!m6) from rfl) (congrArg Value.bool (congrArg not hc9))) (d_mv (v := .string (bs p0)) rfl ?_)
        refine da_on rfl (Eq.trans (show sl _ _ _ = .bool (!m6) from rfl) (congrArg Value.bool (congrArg not hc9))) (d_sne rfl rfl ?_)
        refine da_op rfl (d_pick (b := false) (Eq.trans (show ev _ _ = .bool (!m6) from rfl) (congrArg Value.bool (congrArg not hc9))) ?_)
        refine da_nil ?_
        obtain rfl := Option.some.inj hr
        exact ⟨rfl, (Ext.trans (Ext.trans (Ext.refl w1) E7) E11)⟩
      · skip
        replace hr := bif_f hr hc9
        refine da_off rfl (Eq.trans (show sl _ _ _ = .bool (!m6) from rfl) (congrArg Value.bool (congrArg not hc9))) (by decide) ?_
        refine da_off rfl (Eq.trans (show sl _ _ _ = .bool (!m6) from rfl) (congrArg Value.bool (congrArg not hc9))) (by decide) ?_
        refine da_off rfl (Eq.trans (show sl _ _ _ = .bool (!m6) from rfl) (congrArg Value.bool (congrArg not hc9))) (by decide) ?_
        refine da_off rfl (Eq.trans (show sl _ _ _ = .bool (!m6) from rfl) (congrArg Value.bool (congrArg not hc9))) (by decide) ?_
        refine da_op rfl (d_pick (b := true) (Eq.trans (show ev _ _ = .bool (!m6) from rfl) (congrArg Value.bool (congrArg not hc9))) ?_)
        refine da_nil ?_
        obtain rfl := Option.some.inj hr
        exact ⟨rfl, (Ext.trans (Ext.refl w1) E7)⟩
    · skip
      replace hr := bif_f hr hc5
      refine da_off rfl (Eq.trans (show sl _ _ _ = .bool (!m2.2) from rfl) (congrArg Value.bool (congrArg not hc5))) (by decide) ?_
      refine da_off rfl (Eq.trans (show sl _ _ _ = .bool (!m2.2) from rfl) (congrArg Value.bool (congrArg not hc5))) (by decide) ?_
      refine da_off rfl (Eq.trans (show sl _ _ _ = .bool (!m2.2) from rfl) (congrArg Value.bool (congrArg not hc5))) (by decide) ?_
      refine da_op rfl (d_pick (b := true) (Eq.trans (show ev _ _ = .bool (!m2.2) from rfl) (congrArg Value.bool (congrArg not hc5))) ?_)
      refine da_op rfl (d_mv (v := .bool true) rfl ?_)
      refine da_off rfl rfl (by decide) ?_
      refine da_off rfl rfl (by decide) ?_
      refine da_off rfl rfl (by decide) ?_
      refine da_off rfl rfl (by decide) ?_
      refine da_op rfl (d_pick (b := true) rfl ?_)
      refine da_nil ?_
      obtain rfl := Option.some.inj hr
      exact ⟨rfl, (Ext.refl w1)⟩
  · skip
    rintro σ4 w4 o4 ⟨s23_4, E4⟩
    have s4_4 : σ4 4 = .int .i64 m2.1 := (o4 4 rfl).trans rfl
    have X13 : Ext w w4 := X3.trans E4
    refine W_cond (b := m4) s23_4 (fun hc14 => ?_) (fun hc14 => ?_)
    · skip
      replace hr := bif_t hr hc14
      refine W_seq ?_
      refine W_region rfl ?_
      refine da_op rfl (d_as (v := .int .i64 0) rfl ?_)
      refine da_op rfl (d_as (v := .bool false) rfl ?_)
      refine da_nil ?_
      refine W_ret ?_
      obtain rfl := Option.some.inj hr
      refine ⟨_, res2 (rv_tmp rfl) (rv_tmp rfl), ?_⟩
      exact ⟨rfl, X13⟩
    · skip
      replace hr := bif_f hr hc14
      refine W_skip ?_
      refine W_seq ?_
      refine W_region rfl ?_
      refine da_op rfl (d_mv (v := .int .i64 m2.1) s4_4 ?_)
      refine da_op rfl (d_as (v := .int .i64 m2.1) rfl ?_)
      refine da_op rfl (d_as (v := .bool true) rfl ?_)
      refine da_nil ?_
      refine W_ret ?_
      obtain rfl := Option.some.inj hr
      refine ⟨_, res2 (rv_tmp rfl) (rv_tmp rfl), ?_⟩
      exact ⟨rfl, X13⟩
set_option maxHeartbeats 4000000 in
theorem c35 (p0 : List UInt8) (r : List Int × Bool) (w : World) (hr : M.impl_ReadList p0 = some r) (t_TSyn : TSyn Tryz.prog w) (t_TRan : TRan Tryz.prog w) (t_T10 : T10 Tryz.prog w) :
    Calls Tryz.prog 35 #[.string (bs p0)] w fun e w' => ∃ q0a : Option Addr, ∃ q0n : Nat, ∃ q0c : Nat, e = .returned (.tuple #[(Value.slice q0a q0n q0c), .bool r.2]) ∧ OS w' 2 encI_i64 (Value.slice q0a q0n q0c) r.1 ∧ (∀ k, (Value.slice q0a q0n q0c).ownBlock = some k → w.heap.size ≤ k) ∧ Ext w w' := by
  refine calls_of_W Tryz.func35 rfl (Nat.le_of_ble_eq_true rfl) ?_
  refine W_seq ?_
  refine W_region rfl ?_
  refine da_op rfl (d_as (v := .slice none 0 0) rfl ?_)
  refine da_op rfl (d_as (v := .bool false) rfl ?_)
  refine da_nil ?_
  refine W_seq ?_
  refine W_region rfl ?_
  refine da_op rfl (d_bslice0 un65 size2 fun w1 B1 E1 => ?_)
  have fr1 : ∀ k, (Value.slice (some ⟨w.heap.size, 0, none⟩) 0 0).ownBlock = some k → w.heap.size ≤ k := fun k hk => by cases hk; exact Nat.le_refl _
  have own1 : ∀ k, (Value.slice (some ⟨w.heap.size, 0, none⟩) 0 0).ownBlock = some k → w.heap.size ≤ k := fun k hk => Nat.le_trans (Ext.refl w).size (fr1 k hk)
  have X2 : Ext w w1 := (Ext.refl w).trans E1
  have O1 : OS w1 2 encI_i64 (Value.slice (some ⟨w.heap.size, 0, none⟩) 0 0) ([] : List Int) := OS.box (xs := ([] : List Int)) B1 rfl (Nat.le_of_ble_eq_true rfl)
  refine da_op rfl (d_as (v := (Value.slice (some ⟨w.heap.size, 0, none⟩) 0 0)) rfl ?_)
  refine da_nil ?_
  refine W_seq ?_
  refine W_seq ?_
  refine W_region rfl ?_
  refine da_op rfl (d_mv (v := .string (bs p0)) rfl ?_)
  obtain ⟨m3, hm3, hr⟩ := bind_out hr
  refine da_op rfl (d_cl (vs := [.string (bs p0)]) en32 (ac rfl rfl) rfl ?_)
  refine (c32 p0 m3 w1 hm3 ).mono ?_
  rintro _ w4 ⟨q4_0a, q4_0n, q4_0c, rfl, q4_0R, q4_0F, E4⟩
  refine ⟨_, rfl, ?_⟩
  have own5 : ∀ k, (Value.slice q4_0a q4_0n q4_0c).ownBlock = some k → w.heap.size ≤ k := fun k hk => Nat.le_trans X2.size (q4_0F k hk)
  have sp6 : ∀ k, (Value.slice (some ⟨w.heap.size, 0, none⟩) 0 0).ownBlock = some k → ¬ (Value.slice q4_0a q4_0n q4_0c).ownBlock = some k := apart_fresh O1 q4_0F
  have X7 : Ext w w4 := X2.trans E4
  refine da_op rfl (d_len (e := encS) un32 rfl q4_0R ?_)
  refine da_op rfl (d_mv (v := .int .i64 0) rfl ?_)
  refine da_nil ?_
  refine W_block ?_
  have B9 : OS w4 2 encI_i64 (Value.slice (some ⟨w.heap.size, 0, none⟩) 0 0) ([] : List Int) := O1.ext E4
  obtain ⟨m8, hm8, hr⟩ := bind_out hr
  refine W_loopM hm8 (fun (s8 : List Int × Int) σ w' => ∃ i8_0a : Option Addr, ∃ i8_0n : Nat, ∃ i8_0c : Nat, σ 4 = (Value.slice i8_0a i8_0n i8_0c) ∧ σ 13 = .int .i64 s8.2 ∧ σ 11 = (Value.slice q4_0a q4_0n q4_0c) ∧ σ 12 = .int .i64 ((m3).length : Int) ∧ OS w' 2 encI_i64 (Value.slice i8_0a i8_0n i8_0c) s8.1 ∧ (∀ k, (Value.slice i8_0a i8_0n i8_0c).ownBlock = some k → w.heap.size ≤ k) ∧ RS w' encS (Value.slice q4_0a q4_0n q4_0c) m3 ∧ (∀ k, (Value.slice q4_0a q4_0n q4_0c).ownBlock = some k → ¬ (Value.slice i8_0a i8_0n i8_0c).ownBlock = some k) ∧ Ext w w') (fun (e8 : ((List Int) ⊕ (List Int × Bool))) ex σ w' => sel e8 (fun e8 => ex = .exit 0 ∧ ∃ q8_0_0a : Option Addr, ∃ q8_0_0n : Nat, ∃ q8_0_0c : Nat, σ 4 = (Value.slice q8_0_0a q8_0_0n q8_0_0c) ∧ OS w' 2 encI_i64 (Value.slice q8_0_0a q8_0_0n q8_0_0c) e8 ∧ (∀ k, (Value.slice q8_0_0a q8_0_0n q8_0_0c).ownBlock = some k → w.heap.size ≤ k) ∧ Ext w w') (fun e8 => ex = .ret ∧ ∃ q8_1_0a : Option Addr, ∃ q8_1_0n : Nat, ∃ q8_1_0c : Nat, σ 2 = (Value.slice q8_1_0a q8_1_0n q8_1_0c) ∧ σ 3 = .bool e8.2 ∧ OS w' 2 encI_i64 (Value.slice q8_1_0a q8_1_0n q8_1_0c) e8.1 ∧ (∀ k, (Value.slice q8_1_0a q8_1_0n q8_1_0c).ownBlock = some k → w.heap.size ≤ k) ∧ Ext w w')) ⟨(some ⟨w.heap.size, 0, none⟩), 0, 0, rfl, rfl, rfl, rfl, B9, own1, q4_0R, (apart_symm sp6), X7⟩ ?_ ?_
  · skip
    rintro s8 σl8 wl8 r8l ⟨i8_0a, i8_0n, i8_0c, i8_S4, i8_S13, i8_S11, i8_S12, i8_0R, i8_0O, i8_K0, i8_A0, i8_X⟩ hr
    refine W_seq ?_
    refine W_region rfl ?_
    refine da_op rfl (d_icmp cLss i8_S13 i8_S12 ?_)
    refine da_nil ?_
    refine W_seq ?_
    refine W_cond (b := (icmp .lss s8.2 ((m3).length : Int))) rfl (fun hc10 => ?_) (fun hc10 => ?_)
    · skip
      replace hr := bif_t hr hc10
      refine W_skip ?_
      refine W_seq ?_
      refine W_block ?_
      refine W_seq ?_
      refine W_region rfl ?_
      obtain ⟨m11, hm11, hr⟩ := bind_out hr
      refine da_op rfl (d_index (e := encS) (v := (Value.slice q4_0a q4_0n q4_0c)) un32 size9 i8_S11 i8_S13 i8_K0 hm11 fun g12 o12 cu12 T12 fr12 vs12 hv12 hg12 hp12 hq12 => ?_)
      obtain rfl := dec_encS hq12
      refine da_op rfl (d_load (v := .string (bs m11)) rfl agg9 hg12 (sub_get (vs := #[.string (bs m11)]) hp12 (i := 0) rfl) ?_)
      refine da_op rfl (d_as (v := .string (bs m11)) rfl ?_)
      refine da_nil ?_
      refine W_seq ?_
      refine W_region rfl ?_
      refine da_op rfl (d_mv (v := .string (bs m11)) rfl ?_)
      obtain ⟨m13, hm13, hr⟩ := bind_out hr
      refine da_op rfl (d_cl (vs := [.string (bs m11)]) en53 (ac rfl rfl) rfl ?_)
      refine (c53 m11 m13 wl8 hm13 (t_TSyn.ext i8_X) (t_TRan.ext i8_X) (t_T10.ext i8_X)).mono ?_
      rintro _ w14 ⟨rfl, E14⟩
      refine ⟨_, rfl, ?_⟩
      have X15 : Ext w w14 := i8_X.trans E14
      refine da_op rfl (d_mv (v := .tuple #[.int .i64 m13.1, .bool m13.2]) rfl ?_)
      refine da_op rfl (d_extract (v := .int .i64 m13.1) rfl rfl ?_)
      refine da_op rfl (d_extract (v := .bool m13.2) rfl rfl ?_)
      refine da_op rfl (d_as (v := .int .i64 m13.1) rfl ?_)
      refine da_op rfl (d_as (v := .bool m13.2) rfl ?_)
      refine da_nil ?_
      refine W_seq ?_
      refine W_seq ?_
      have B17 : RS w14 encS (Value.slice q4_0a q4_0n q4_0c) m3 := i8_K0.ext E14
      have B18 : OS w14 2 encI_i64 (Value.slice i8_0a i8_0n i8_0c) s8.1 := i8_0R.ext E14
      obtain ⟨m16, hm16, hr⟩ := letv_out hr
      refine W_cut (fun σ' w' => σ' 28 = .bool m16 ∧ Ext w14 w') rfl ?_ ?_
      · skip
        have hr := hm16
        refine da_op rfl (d_mv (v := .bool m13.2) rfl ?_)
        refine da_op rfl (d_not rfl ?_)
        refine da_op rfl (d_mv (v := .bool (!m13.2)) rfl ?_)
        rcases Bool.eq_false_or_eq_true m13.2 with hc19 | hc19
        · skip
          replace hr := bif_t hr hc19
          refine da_on rfl (Eq.trans (show sl _ _ _ = .bool (!m13.2) from rfl) (congrArg Value.bool (congrArg not hc19))) (d_mv (v := (Value.slice i8_0a i8_0n i8_0c)) i8_S4 ?_)
          refine da_on rfl (Eq.trans (show sl _ _ _ = .bool (!m13.2) from rfl) (congrArg Value.bool (congrArg not hc19))) (d_len (e := encI_i64) un65 rfl B18.rs ?_)
          refine da_on rfl (Eq.trans (show sl _ _ _ = .bool (!m13.2) from rfl) (congrArg Value.bool (congrArg not hc19))) (d_icmp cEql rfl rfl ?_)
          refine da_op rfl (d_pick (b := false) (Eq.trans (show ev _ _ = .bool (!m13.2) from rfl) (congrArg Value.bool (congrArg not hc19))) ?_)
          refine da_nil ?_
          subst hr
          exact ⟨rfl, (Ext.refl w14)⟩
        · skip
          replace hr := bif_f hr hc19
          refine da_off rfl (Eq.trans (show sl _ _ _ = .bool (!m13.2) from rfl) (congrArg Value.bool (congrArg not hc19))) (by decide) ?_
          refine da_off rfl (Eq.trans (show sl _ _ _ = .bool (!m13.2) from rfl) (congrArg Value.bool (congrArg not hc19))) (by decide) ?_
          refine da_off rfl (Eq.trans (show sl _ _ _ = .bool (!m13.2) from rfl) (congrArg Value.bool (congrArg not hc19))) (by decide) ?_
          refine da_op rfl (d_pick (b := true) (Eq.trans (show ev _ _ = .bool (!m13.2) from rfl) (congrArg Value.bool (congrArg not hc19))) ?_)
          refine da_nil ?_
          subst hr
          exact ⟨rfl, (Ext.refl w14)⟩
      · skip
        rintro σ16 w16 o16 ⟨s28_16, E16⟩
        have s4_16 : σ16 4 = (Value.slice i8_0a i8_0n i8_0c) := (o16 4 rfl).trans i8_S4
        have s13_16 : σ16 13 = .int .i64 s8.2 := (o16 13 rfl).trans i8_S13
        have s11_16 : σ16 11 = (Value.slice q4_0a q4_0n q4_0c) := (o16 11 rfl).trans i8_S11
        have s12_16 : σ16 12 = .int .i64 ((m3).length : Int) := (o16 12 rfl).trans i8_S12
        have s7_16 : σ16 7 = .int .i64 m13.1 := (o16 7 rfl).trans rfl
        have X20 : Ext w w16 := X15.trans E16
        refine W_cond (b := m16) s28_16 (fun hc21 => ?_) (fun hc21 => ?_)
        · skip
          replace hr := bif_t hr hc21
          refine W_seq ?_
          refine W_region rfl ?_
          refine da_op rfl (d_as (v := .slice none 0 0) rfl ?_)
          refine da_op rfl (d_as (v := .bool false) rfl ?_)
          refine da_nil ?_
          refine W_ret ?_
          obtain rfl := Option.some.inj hr
          exact ⟨_, rfl, rfl, none, 0, 0, rfl, rfl, (OS.nil _ 2 encI_i64), (fun k hk => by cases hk), X20⟩
        · skip
          replace hr := bif_f hr hc21
          refine W_skip ?_
          refine W_region rfl ?_
          refine da_op rfl (d_mv (v := (Value.slice i8_0a i8_0n i8_0c)) s4_16 ?_)
          refine da_op rfl (d_mv (v := .int .i64 m13.1) s7_16 ?_)
          have B23 : RS w16 encS (Value.slice q4_0a q4_0n q4_0c) m3 := B17.ext E16
          have B24 : OS w16 2 encI_i64 (Value.slice i8_0a i8_0n i8_0c) s8.1 := B18.ext E16
          refine da_op rfl (d_bslice (vs := [(0, .int .i64 m13.1)]) (cs := #[.int .i64 m13.1]) un65 (pc rfl rfl) (by kernel_rfl) fun w22 B22 E22 => ?_)
          have fr22 : ∀ k, (Value.slice (some ⟨w16.heap.size, 0, none⟩) 1 1).ownBlock = some k → w16.heap.size ≤ k := fun k hk => by cases hk; exact Nat.le_refl _
          have own22 : ∀ k, (Value.slice (some ⟨w16.heap.size, 0, none⟩) 1 1).ownBlock = some k → w.heap.size ≤ k := fun k hk => Nat.le_trans X20.size (fr22 k hk)
          have sp25 : ∀ k, (Value.slice q4_0a q4_0n q4_0c).ownBlock = some k → ¬ (Value.slice (some ⟨w16.heap.size, 0, none⟩) 1 1).ownBlock = some k := apart_freshR B23 fr22
          have sp26 : ∀ k, (Value.slice i8_0a i8_0n i8_0c).ownBlock = some k → ¬ (Value.slice (some ⟨w16.heap.size, 0, none⟩) 1 1).ownBlock = some k := apart_fresh B24 fr22
          have X27 : Ext w w22 := X20.trans E22
          have O22 : OS w22 2 encI_i64 (Value.slice (some ⟨w16.heap.size, 0, none⟩) 1 1) [m13.1] := OS.box (xs := [m13.1]) B22 (lc_v rfl rfl) (Nat.le_of_ble_eq_true rfl)
          obtain ⟨m28, hm28, hr⟩ := bind_out hr
          have B29 : OS w22 2 encI_i64 (Value.slice i8_0a i8_0n i8_0c) s8.1 := B24.ext E22
          have B30 : RS w22 encS (Value.slice q4_0a q4_0n q4_0c) m3 := B23.ext E22
          refine da_op rfl (d_append (e := encI_i64) (v := (Value.slice i8_0a i8_0n i8_0c)) (y := (Value.slice (some ⟨w16.heap.size, 0, none⟩) 1 1)) un65 info2 rfl (by kernel_rfl) (by kernel_rfl) (by decide) (by decide) rfl rfl B29 O22.rs hm28 fun v31 w31 O31 Fm31 at_31 nl31 => ?_)
          obtain ⟨v31pa, v31pn, v31pc, rfl⟩ := O31.vals
          have own31 : ∀ k, (Value.slice v31pa v31pn v31pc).ownBlock = some k → w.heap.size ≤ k := app_own (w := w22) at_31 i8_0O X27.size
          have sp32 : ∀ k, (Value.slice q4_0a q4_0n q4_0c).ownBlock = some k → ¬ (Value.slice v31pa v31pn v31pc).ownBlock = some k := app_nrR at_31 i8_A0 B30
          have sp33 : ∀ k, (Value.slice (some ⟨w16.heap.size, 0, none⟩) 1 1).ownBlock = some k → ¬ (Value.slice v31pa v31pn v31pc).ownBlock = some k := app_nr at_31 (apart_symm sp26) O22
          have X34 : Ext w w31 := Ext.step X27 Fm31 (fun k _ hk => i8_0O k hk)
          refine da_op rfl (d_as (v := (Value.slice v31pa v31pn v31pc)) rfl ?_)
          refine da_nil ?_
          refine W_region rfl ?_
          refine da_op rfl (d_iarith s13_16 rfl (.inl ⟨rfl, rfl⟩) ?_)
          refine da_op rfl (d_mv (v := .int .i64 (IntKind.i64.wrap (s8.2 + 1))) rfl ?_)
          refine da_nil ?_
          have B35 : RS w31 encS (Value.slice q4_0a q4_0n q4_0c) m3 := B30.frm Fm31 (fun k _ => i8_A0 k)
          obtain rfl := Option.some.inj hr
          exact ⟨_, rfl, ⟨v31pa, v31pn, v31pc, rfl, rfl, s11_16, s12_16, O31, own31, B35, sp32, X34⟩⟩
    · skip
      replace hr := bif_f hr hc10
      refine W_exit ?_
      obtain rfl := Option.some.inj hr
      exact ⟨_, rfl, rfl, i8_0a, i8_0n, i8_0c, i8_S4, i8_0R, i8_0O, i8_X⟩
  · skip
    intro ex σx8 wx8 hq
    rcases m8 with m8 | m8
    · skip
      obtain ⟨rfl, q8_0_0a, q8_0_0n, q8_0_0c, q8_0_S4, q8_0_0R, q8_0_0O, q8_0_X⟩ := hq
      refine W_seq ?_
      refine W_region rfl ?_
      refine da_op rfl (d_mv (v := (Value.slice q8_0_0a q8_0_0n q8_0_0c)) q8_0_S4 ?_)
      refine da_op rfl (d_as (v := (Value.slice q8_0_0a q8_0_0n q8_0_0c)) rfl ?_)
      refine da_op rfl (d_as (v := .bool true) rfl ?_)
      refine da_nil ?_
      refine W_ret ?_
      obtain rfl := Option.some.inj hr
      refine ⟨_, res2 (rv_tmp rfl) (rv_tmp rfl), ?_⟩
      exact ⟨q8_0_0a, q8_0_0n, q8_0_0c, rfl, q8_0_0R, q8_0_0O, q8_0_X⟩
    · skip
      obtain ⟨rfl, q8_1_0a, q8_1_0n, q8_1_0c, q8_1_S2, q8_1_S3, q8_1_0R, q8_1_0O, q8_1_X⟩ := hq
      obtain rfl := Option.some.inj hr
      refine ⟨_, res2 (rv_tmp q8_1_S2) (rv_tmp q8_1_S3), ?_⟩
      exact ⟨q8_1_0a, q8_1_0n, q8_1_0c, rfl, q8_1_0R, q8_1_0O, q8_1_X⟩
set_option maxHeartbeats 4000000 in
theorem c36 (p0 : List UInt8) (p1 : Int) (r : List Nat × Bool) (w : World) (hr : M.impl_exactly p0 p1 = some r)  :
    Calls Tryz.prog 36 #[.string (bs p0), .int .i64 p1] w fun e w' => ∃ q0a : Option Addr, ∃ q0n : Nat, ∃ q0c : Nat, e = .returned (.tuple #[(Value.slice q0a q0n q0c), .bool r.2]) ∧ OS w' 40 encF_f32 (Value.slice q0a q0n q0c) r.1 ∧ (∀ k, (Value.slice q0a q0n q0c).ownBlock = some k → w.heap.size ≤ k) ∧ Ext w w' := by
  refine calls_of_W Tryz.func36 rfl (Nat.le_of_ble_eq_true rfl) ?_
  refine W_seq ?_
  refine W_region rfl ?_
  refine da_op rfl (d_as (v := .slice none 0 0) rfl ?_)
  refine da_op rfl (d_as (v := .bool false) rfl ?_)
  refine da_nil ?_
  refine W_seq ?_
  refine W_region rfl ?_
  refine da_op rfl (d_mv (v := .string (bs p0)) rfl ?_)
  obtain ⟨m1, hm1, hr⟩ := bind_out hr
  refine da_op rfl (d_cl (vs := [.string (bs p0)]) en12 (ac rfl rfl) rfl ?_)
  refine (c12 p0 m1 w hm1 ).mono ?_
  rintro _ w2 ⟨q2_0a, q2_0n, q2_0c, rfl, q2_0R, q2_0F, E2⟩
  refine ⟨_, rfl, ?_⟩
  have own3 : ∀ k, (Value.slice q2_0a q2_0n q2_0c).ownBlock = some k → w.heap.size ≤ k := fun k hk => Nat.le_trans (Ext.refl w).size (q2_0F k hk)
  have X4 : Ext w w2 := (Ext.refl w).trans E2
  refine da_op rfl (d_mv (v := .tuple #[(Value.slice q2_0a q2_0n q2_0c), .bool m1.2]) rfl ?_)
  refine da_op rfl (d_extract (v := (Value.slice q2_0a q2_0n q2_0c)) rfl rfl ?_)
  refine da_op rfl (d_extract (v := .bool m1.2) rfl rfl ?_)
  refine da_op rfl (d_as (v := (Value.slice q2_0a q2_0n q2_0c)) rfl ?_)
  refine da_op rfl (d_as (v := .bool m1.2) rfl ?_)
  refine da_nil ?_
  refine W_seq ?_
  refine W_seq ?_
  obtain ⟨m5, hm5, hr⟩ := letv_out hr
  refine W_cut (fun σ' w' => σ' 20 = .bool m5 ∧ Ext w2 w') rfl ?_ ?_
  · skip
    have hr := hm5
    refine da_op rfl (d_mv (v := .bool m1.2) rfl ?_)
    refine da_op rfl (d_not rfl ?_)
    refine da_op rfl (d_mv (v := .bool (!m1.2)) rfl ?_)
    rcases Bool.eq_false_or_eq_true m1.2 with hc6 | hc6
    · skip
      replace hr := bif_t hr hc6
      refine da_on rfl (Eq.trans (show sl _ _ _ = .bool (!m1.2) from rfl) (congrArg Value.bool (congrArg not hc6))) (d_mv (v := (Value.slice q2_0a q2_0n q2_0c)) rfl ?_)
      refine da_on rfl (Eq.trans (show sl _ _ _ = .bool (!m1.2) from rfl) (congrArg Value.bool (congrArg not hc6))) (d_len (e := encF_f32) un23 rfl q2_0R.rs ?_)
      refine da_on rfl (Eq.trans (show sl _ _ _ = .bool (!m1.2) from rfl) (congrArg Value.bool (congrArg not hc6))) (d_mv (v := .int .i64 p1) rfl ?_)
      refine da_on rfl (Eq.trans (show sl _ _ _ = .bool (!m1.2) from rfl) (congrArg Value.bool (congrArg not hc6))) (d_icmp cNeq rfl rfl ?_)
      refine da_op rfl (d_pick (b := false) (Eq.trans (show ev _ _ = .bool (!m1.2) from rfl) (congrArg Value.bool (congrArg not hc6))) ?_)
      refine da_nil ?_
      subst hr
      exact ⟨rfl, (Ext.refl w2)⟩
    · skip
      replace hr := bif_f hr hc6
      refine da_off rfl (Eq.trans (show sl _ _ _ = .bool (!m1.2) from rfl) (congrArg Value.bool (congrArg not hc6))) (by decide) ?_
      refine da_off rfl (Eq.trans (show sl _ _ _ = .bool (!m1.2) from rfl) (congrArg Value.bool (congrArg not hc6))) (by decide) ?_
      refine da_off rfl (Eq.trans (show sl _ _ _ = .bool (!m1.2) from rfl) (congrArg Value.bool (congrArg not hc6))) (by decide) ?_
      refine da_off rfl (Eq.trans (show sl _ _ _ = .bool (!m1.2) from rfl) (congrArg Value.bool (congrArg not hc6))) (by decide) ?_
      refine da_op rfl (d_pick (b := true) (Eq.trans (show ev _ _ = .bool (!m1.2) from rfl) (congrArg Value.bool (congrArg not hc6))) ?_)
      refine da_nil ?_
      subst hr
      exact ⟨rfl, (Ext.refl w2)⟩
  · skip
    rintro σ5 w5 o5 ⟨s20_5, E5⟩
    have s1_5 : σ5 1 = .int .i64 p1 := (o5 1 rfl).trans rfl
    have s6_5 : σ5 6 = (Value.slice q2_0a q2_0n q2_0c) := (o5 6 rfl).trans rfl
    have X7 : Ext w w5 := X4.trans E5
    refine W_cond (b := m5) s20_5 (fun hc8 => ?_) (fun hc8 => ?_)
    · skip
      replace hr := bif_t hr hc8
      refine W_seq ?_
      refine W_region rfl ?_
      refine da_op rfl (d_mv (v := .int .i64 p1) s1_5 ?_)
      obtain ⟨m9, hm9, hr⟩ := bind_out hr
      have B10 : OS w5 40 encF_f32 (Value.slice q2_0a q2_0n q2_0c) m1.1 := q2_0R.ext E5
      refine da_op rfl (d_make (e := encF_f32) un23 info40 rfl (by kernel_rfl) (by kernel_rfl) (by decide) (by decide) rfl rfl hm9 fun v11 w11 O11 E11 fr11 => ?_)
      obtain ⟨v11pa, v11pn, v11pc, rfl⟩ := O11.vals
      have own11 : ∀ k, (Value.slice v11pa v11pn v11pc).ownBlock = some k → w.heap.size ≤ k := fun k hk => Nat.le_trans X7.size (fr11 k hk)
      have sp12 : ∀ k, (Value.slice q2_0a q2_0n q2_0c).ownBlock = some k → ¬ (Value.slice v11pa v11pn v11pc).ownBlock = some k := apart_fresh B10 fr11
      have X13 : Ext w w11 := X7.trans E11
      refine da_op rfl (d_as (v := (Value.slice v11pa v11pn v11pc)) rfl ?_)
      refine da_op rfl (d_as (v := .bool false) rfl ?_)
      refine da_nil ?_
      refine W_ret ?_
      obtain rfl := Option.some.inj hr
      refine ⟨_, res2 (rv_tmp rfl) (rv_tmp rfl), ?_⟩
      exact ⟨v11pa, v11pn, v11pc, rfl, O11, own11, X13⟩
    · skip
      replace hr := bif_f hr hc8
      refine W_skip ?_
      refine W_seq ?_
      refine W_region rfl ?_
      refine da_op rfl (d_mv (v := (Value.slice q2_0a q2_0n q2_0c)) s6_5 ?_)
      refine da_op rfl (d_as (v := (Value.slice q2_0a q2_0n q2_0c)) rfl ?_)
      refine da_op rfl (d_as (v := .bool true) rfl ?_)
      refine da_nil ?_
      refine W_ret ?_
      have B14 : OS w5 40 encF_f32 (Value.slice q2_0a q2_0n q2_0c) m1.1 := q2_0R.ext E5
      obtain rfl := Option.some.inj hr
      refine ⟨_, res2 (rv_tmp rfl) (rv_tmp rfl), ?_⟩
      exact ⟨q2_0a, q2_0n, q2_0c, rfl, B14, own3, X7⟩
set_option maxHeartbeats 4000000 in
theorem c14 (p0 : List UInt8) (r : SRod × Bool) (w : World) (hr : M.impl_readRod p0 = some r) (t_TSyn : TSyn Tryz.prog w) (t_TRan : TRan Tryz.prog w) (t_T10 : T10 Tryz.prog w) :
    Calls Tryz.prog 14 #[.string (bs p0)] w fun e w' => ∃ q0r2 : Nat, e = .returned (.tuple #[.agg #[.int .i64 r.1.a, .int .i64 r.1.b, .float .f32 q0r2], .bool r.2]) ∧ cn .f32 q0r2 = r.1.long ∧ Ext w w' := by
  refine calls_of_W Tryz.func14 rfl (Nat.le_of_ble_eq_true rfl) ?_
  refine W_seq ?_
  refine W_region rfl ?_
  refine da_op rfl (d_alloc (cs := #[.int .i64 0, .int .i64 0, .float .f32 0]) zero42 rfl fun w1 B1 E1 => ?_)
  have own2 : w.heap.size ≤ w.heap.size := Nat.le_trans (Ext.refl w).size (Nat.le_refl _)
  have X3 : Ext w w1 := (Ext.refl w).trans E1
  refine da_op rfl (d_as (v := .bool false) rfl ?_)
  refine da_nil ?_
  refine W_seq ?_
  refine W_region rfl ?_
  refine da_op rfl (d_mv (v := .string (bs p0)) rfl ?_)
  obtain ⟨m4, hm4, hr⟩ := bind_out hr
  refine da_op rfl (d_cl (vs := [.string (bs p0), .string (bs ([58] : List UInt8))]) en34 (ac rfl (ac rfl rfl)) rfl ?_)
  refine (c34_s3a p0 m4 w1 hm4 ).mono ?_
  rintro _ w5 ⟨rfl, E5⟩
  refine ⟨_, rfl, ?_⟩
  have X6 : Ext w w5 := X3.trans E5
  refine da_op rfl (d_mv (v := .tuple #[.string (bs m4.1), .string (bs m4.2.1), .bool m4.2.2]) rfl ?_)
  refine da_op rfl (d_extract (v := .string (bs m4.1)) rfl rfl ?_)
  refine da_op rfl (d_extract (v := .string (bs m4.2.1)) rfl rfl ?_)
  refine da_op rfl (d_extract (v := .bool m4.2.2) rfl rfl ?_)
  refine da_op rfl (d_as (v := .string (bs m4.1)) rfl ?_)
  refine da_op rfl (d_as (v := .string (bs m4.2.1)) rfl ?_)
  refine da_op rfl (d_as (v := .bool m4.2.2) rfl ?_)
  refine da_nil ?_
  refine W_seq ?_
  refine W_region rfl ?_
  refine da_op rfl (d_mv (v := .string (bs m4.1)) rfl ?_)
  obtain ⟨m7, hm7, hr⟩ := bind_out hr
  have B8 : w5.heap[w.heap.size]? = some (.cells #[.int .i64 0, .int .i64 0, .float .f32 0] 42 (0, 0)) := E5.heap B1
  refine da_op rfl (d_cl (vs := [.string (bs m4.1)]) en35 (ac rfl rfl) rfl ?_)
  refine (c35 m4.1 m7 w5 hm7 (t_TSyn.ext X6) (t_TRan.ext X6) (t_T10.ext X6)).mono ?_
  rintro _ w9 ⟨q9_0a, q9_0n, q9_0c, rfl, q9_0R, q9_0F, E9⟩
  refine ⟨_, rfl, ?_⟩
  have own10 : ∀ k, (Value.slice q9_0a q9_0n q9_0c).ownBlock = some k → w.heap.size ≤ k := fun k hk => Nat.le_trans X6.size (q9_0F k hk)
  have sp11 : ¬ (Value.slice q9_0a q9_0n q9_0c).ownBlock = some w.heap.size := ne_fresh q9_0F (lt_heap B8)
  have X12 : Ext w w9 := X6.trans E9
  refine da_op rfl (d_mv (v := .tuple #[(Value.slice q9_0a q9_0n q9_0c), .bool m7.2]) rfl ?_)
  refine da_op rfl (d_extract (v := (Value.slice q9_0a q9_0n q9_0c)) rfl rfl ?_)
  refine da_op rfl (d_extract (v := .bool m7.2) rfl rfl ?_)
  refine da_op rfl (d_as (v := (Value.slice q9_0a q9_0n q9_0c)) rfl ?_)
  refine da_op rfl (d_as (v := .bool m7.2) rfl ?_)
  refine da_nil ?_
  refine W_seq ?_
  refine W_region rfl ?_
  refine da_op rfl (d_mv (v := .string (bs m4.2.1)) rfl ?_)
  obtain ⟨m13, hm13, hr⟩ := bind_out hr
  have B14 : w9.heap[w.heap.size]? = some (.cells #[.int .i64 0, .int .i64 0, .float .f32 0] 42 (0, 0)) := E9.heap B8
  refine da_op rfl (d_cl (vs := [.string (bs m4.2.1), .int .i64 1]) en36 (ac rfl (ac rfl rfl)) rfl ?_)
  refine (c36 m4.2.1 1 m13 w9 hm13 ).mono ?_
  rintro _ w15 ⟨q15_0a, q15_0n, q15_0c, rfl, q15_0R, q15_0F, E15⟩
  refine ⟨_, rfl, ?_⟩
  have own16 : ∀ k, (Value.slice q15_0a q15_0n q15_0c).ownBlock = some k → w.heap.size ≤ k := fun k hk => Nat.le_trans X12.size (q15_0F k hk)
  have sp17 : ¬ (Value.slice q15_0a q15_0n q15_0c).ownBlock = some w.heap.size := ne_fresh q15_0F (lt_heap B14)
  have sp18 : ∀ k, (Value.slice q9_0a q9_0n q9_0c).ownBlock = some k → ¬ (Value.slice q15_0a q15_0n q15_0c).ownBlock = some k := apart_fresh q9_0R q15_0F
  have X19 : Ext w w15 := X12.trans E15
  refine da_op rfl (d_mv (v := .tuple #[(Value.slice q15_0a q15_0n q15_0c), .bool m13.2]) rfl ?_)
  refine da_op rfl (d_extract (v := (Value.slice q15_0a q15_0n q15_0c)) rfl rfl ?_)
  refine da_op rfl (d_extract (v := .bool m13.2) rfl rfl ?_)
  refine da_op rfl (d_as (v := (Value.slice q15_0a q15_0n q15_0c)) rfl ?_)
  refine da_op rfl (d_as (v := .bool m13.2) rfl ?_)
  refine da_nil ?_
  refine W_seq ?_
  refine W_seq ?_
  have B21 : w15.heap[w.heap.size]? = some (.cells #[.int .i64 0, .int .i64 0, .float .f32 0] 42 (0, 0)) := E15.heap B14
  have B22 : OS w15 2 encI_i64 (Value.slice q9_0a q9_0n q9_0c) m7.1 := q9_0R.ext E15
  obtain ⟨m20, hm20, hr⟩ := letv_out hr
  refine W_cut (fun σ' w' => σ' 41 = .bool m20 ∧ Ext w15 w') rfl ?_ ?_
  · skip
    have hr := hm20
    refine da_op rfl (d_mv (v := .bool m4.2.2) rfl ?_)
    refine da_op rfl (d_not rfl ?_)
    refine da_op rfl (d_mv (v := .bool (!m4.2.2)) rfl ?_)
    rcases Bool.eq_false_or_eq_true m4.2.2 with hc23 | hc23
    · skip
      replace hr := bif_t hr hc23
      refine da_on rfl (Eq.trans (show sl _ _ _ = .bool (!m4.2.2) from rfl) (congrArg Value.bool (congrArg not hc23))) (d_mv (v := .bool m7.2) rfl ?_)
      refine da_on rfl (Eq.trans (show sl _ _ _ = .bool (!m4.2.2) from rfl) (congrArg Value.bool (congrArg not hc23))) (d_not rfl ?_)
      refine da_op rfl (d_pick (b := false) (Eq.trans (show ev _ _ = .bool (!m4.2.2) from rfl) (congrArg Value.bool (congrArg not hc23))) ?_)
      refine da_op rfl (d_mv (v := .bool (!m7.2)) rfl ?_)
      rcases Bool.eq_false_or_eq_true m7.2 with hc24 | hc24
      · skip
        replace hr := bif_t hr hc24
        refine da_on rfl (Eq.trans (show sl _ _ _ = .bool (!m7.2) from rfl) (congrArg Value.bool (congrArg not hc24))) (d_mv (v := .bool m13.2) rfl ?_)
        refine da_on rfl (Eq.trans (show sl _ _ _ = .bool (!m7.2) from rfl) (congrArg Value.bool (congrArg not hc24))) (d_not rfl ?_)
        refine da_op rfl (d_pick (b := false) (Eq.trans (show ev _ _ = .bool (!m7.2) from rfl) (congrArg Value.bool (congrArg not hc24))) ?_)
        refine da_op rfl (d_mv (v := .bool (!m13.2)) rfl ?_)
        rcases Bool.eq_false_or_eq_true m13.2 with hc25 | hc25
        · skip
          replace hr := bif_t hr hc25
          refine da_on rfl (Eq.trans (show sl _ _ _ = .bool (!m13.2) from rfl) (congrArg Value.bool (congrArg not hc25))) (d_mv (v := (Value.slice q9_0a q9_0n q9_0c)) rfl ?_)
          refine da_on rfl (Eq.trans (show sl _ _ _ = .bool (!m13.2) from rfl) (congrArg Value.bool (congrArg not hc25))) (d_len (e := encI_i64) un65 rfl B22.rs ?_)
          refine da_on rfl (Eq.trans (show sl _ _ _ = .bool (!m13.2) from rfl) (congrArg Value.bool (congrArg not hc25))) (d_icmp cNeq rfl rfl ?_)
          refine da_op rfl (d_pick (b := false) (Eq.trans (show ev _ _ = .bool (!m13.2) from rfl) (congrArg Value.bool (congrArg not hc25))) ?_)
          refine da_nil ?_
          subst hr
          exact ⟨rfl, (Ext.refl w15)⟩
        · skip
          replace hr := bif_f hr hc25
          refine da_off rfl (Eq.trans (show sl _ _ _ = .bool (!m13.2) from rfl) (congrArg Value.bool (congrArg not hc25))) (by decide) ?_
          refine da_off rfl (Eq.trans (show sl _ _ _ = .bool (!m13.2) from rfl) (congrArg Value.bool (congrArg not hc25))) (by decide) ?_
          refine da_off rfl (Eq.trans (show sl _ _ _ = .bool (!m13.2) from rfl) (congrArg Value.bool (congrArg not hc25))) (by decide) ?_
          refine da_op rfl (d_pick (b := true) (Eq.trans (show ev _ _ = .bool (!m13.2) from rfl) (congrArg Value.bool (congrArg not hc25))) ?_)
          refine da_nil ?_
          subst hr
          exact ⟨rfl, (Ext.refl w15)⟩
      · skip
        replace hr := bif_f hr hc24
        refine da_off rfl (Eq.trans (show sl _ _ _ = .bool (!m7.2) from rfl) (congrArg Value.bool (congrArg not hc24))) (by decide) ?_
        refine da_off rfl (Eq.trans (show sl _ _ _ = .bool (!m7.2) from rfl) (congrArg Value.bool (congrArg not hc24))) (by decide) ?_
        refine da_op rfl (d_pick (b := true) (Eq.trans (show ev _ _ = .bool (!m7.2) from rfl) (congrArg Value.bool (congrArg not hc24))) ?_)
        refine da_op rfl (d_mv (v := .bool true) rfl ?_)
        refine da_off rfl rfl (by decide) ?_
        refine da_off rfl rfl (by decide) ?_
        refine da_off rfl rfl (by decide) ?_
        refine da_op rfl (d_pick (b := true) rfl ?_)
        refine da_nil ?_
        subst hr
        exact ⟨rfl, (Ext.refl w15)⟩
    · skip
      replace hr := bif_f hr hc23
      refine da_off rfl (Eq.trans (show sl _ _ _ = .bool (!m4.2.2) from rfl) (congrArg Value.bool (congrArg not hc23))) (by decide) ?_
      refine da_off rfl (Eq.trans (show sl _ _ _ = .bool (!m4.2.2) from rfl) (congrArg Value.bool (congrArg not hc23))) (by decide) ?_
      refine da_op rfl (d_pick (b := true) (Eq.trans (show ev _ _ = .bool (!m4.2.2) from rfl) (congrArg Value.bool (congrArg not hc23))) ?_)
      refine da_op rfl (d_mv (v := .bool true) rfl ?_)
      refine da_off rfl rfl (by decide) ?_
      refine da_off rfl rfl (by decide) ?_
      refine da_op rfl (d_pick (b := true) rfl ?_)
      refine da_op rfl (d_mv (v := .bool true) rfl ?_)
      refine da_off rfl rfl (by decide) ?_
      refine da_off rfl rfl (by decide) ?_
      refine da_off rfl rfl (by decide) ?_
      refine da_op rfl (d_pick (b := true) rfl ?_)
      refine da_nil ?_
      subst hr
      exact ⟨rfl, (Ext.refl w15)⟩
  · skip
    rintro σ20 w20 o20 ⟨s41_20, E20⟩
    have s2_20 : σ20 2 = .pointer (some ⟨w.heap.size, 0, none⟩) := (o20 2 rfl).trans rfl
    have s7_20 : σ20 7 = (Value.slice q9_0a q9_0n q9_0c) := (o20 7 rfl).trans rfl
    have s9_20 : σ20 9 = (Value.slice q15_0a q15_0n q15_0c) := (o20 9 rfl).trans rfl
    have X26 : Ext w w20 := X19.trans E20
    refine W_cond (b := m20) s41_20 (fun hc27 => ?_) (fun hc27 => ?_)
    · skip
      replace hr := bif_t hr hc27
      refine W_seq ?_
      refine W_region rfl ?_
      refine da_op rfl (d_bd (vs := []) (cs := #[.int .i64 0, .int .i64 0, .float .f32 0]) rfl (by kernel_rfl) ?_)
      have B28 : w20.heap[w.heap.size]? = some (.cells #[.int .i64 0, .int .i64 0, .float .f32 0] 42 (0, 0)) := E20.heap B21
      refine da_op rfl (d_store (vs := #[.int .i64 0, .int .i64 0, .float .f32 0]) s2_20 rfl B28 size42 (Nat.le_of_ble_eq_true rfl) rfl fun w29 S29 => ?_)
      have X30 : Ext w w29 := Ext.step X26 S29.frmb (fun k _ hk => hk ▸ own2)
      have B31 : w29.heap[w.heap.size]? = some (.cells #[.int .i64 0, .int .i64 0, .float .f32 0] 42 (0, 0)) := S29.here
      refine da_op rfl (d_as (v := .bool false) rfl ?_)
      refine da_nil ?_
      refine W_ret ?_
      obtain rfl := Option.some.inj hr
      refine ⟨_, res2 (rv_cells (vs := #[.int .i64 0, .int .i64 0, .float .f32 0]) s2_20 agg42 size42 B31 rfl) (rv_tmp rfl), ?_⟩
      exact ⟨0, rfl, cn_f32_0, X30⟩
    · skip
      replace hr := bif_f hr hc27
      refine W_skip ?_
      refine W_seq ?_
      have B33 : w20.heap[w.heap.size]? = some (.cells #[.int .i64 0, .int .i64 0, .float .f32 0] 42 (0, 0)) := E20.heap B21
      have B34 : OS w20 2 encI_i64 (Value.slice q9_0a q9_0n q9_0c) m7.1 := B22.ext E20
      have B35 : OS w20 40 encF_f32 (Value.slice q15_0a q15_0n q15_0c) m13.1 := q15_0R.ext E20
      obtain ⟨m36, hm36, hr⟩ := bind_out hr
      obtain ⟨m37, hm37, hr⟩ := bind_out hr
      obtain ⟨m38, hm38, hr⟩ := bind_out hr
      refine W_anyT 10 [] [{ V := fun _ v _ => v = (Value.slice q9_0a q9_0n q9_0c) }, { V := fun _ v _ => ∃ d32_1g : Nat, ∃ d32_1o : Nat, v = (.pointer (some ⟨d32_1g, d32_1o, none⟩)) ∧ EL encI_i64 (Value.slice q9_0a q9_0n q9_0c) (m7.1).length 0 d32_1g d32_1o }, { V := fun _ v _ => v = (.int .i64 m36) }, { V := fun _ v _ => v = (Value.slice q9_0a q9_0n q9_0c) }, { V := fun _ v _ => ∃ d32_4g : Nat, ∃ d32_4o : Nat, v = (.pointer (some ⟨d32_4g, d32_4o, none⟩)) ∧ EL encI_i64 (Value.slice q9_0a q9_0n q9_0c) (m7.1).length 1 d32_4g d32_4o }, { V := fun _ v _ => v = (.int .i64 m37) }, { V := fun _ v _ => v = (Value.slice q15_0a q15_0n q15_0c) }, { V := fun _ v _ => ∃ d32_7g : Nat, ∃ d32_7o : Nat, v = (.pointer (some ⟨d32_7g, d32_7o, none⟩)) ∧ EL encF_f32 (Value.slice q15_0a q15_0n q15_0c) (m13.1).length 0 d32_7g d32_7o }, { V := fun _ v _ => ∃ d32_7r0 : Nat, v = (.float .f32 d32_7r0) ∧ cn .f32 d32_7r0 = m38 }, { V := fun _ v _ => ∃ d32_7r0 : Nat, v = (.agg #[.int .i64 m36, .int .i64 m37, .float .f32 d32_7r0]) ∧ cn .f32 d32_7r0 = m38 }] mixed (by kernel_rfl) ⟨trivial, trivial, trivial, trivial, trivial, trivial, trivial, trivial, trivial, trivial, trivial⟩ ⟨?_, ?_, ?_, ?_, ?_, ?_, ?_, ?_, ?_, ?_, trivial⟩ ?_
      · skip
        refine ⟨fun _ _ _ _ _ _ h _ => h, fun _ _ h _ => h, fun σ' w' hA hE hD hP => ?_⟩
        have t7 : σ' 7 = (Value.slice q9_0a q9_0n q9_0c) := (hA 7 rfl).trans s7_20
        have B0_39 : OS w' 2 encI_i64 (Value.slice q9_0a q9_0n q9_0c) m7.1 := B34.frm hE (fun k hk => not_oth0)
        refine dg_op rfl (d_mv (v := (Value.slice q9_0a q9_0n q9_0c)) t7 ?_)
        exact ⟨rfl, own_none (Ext.refl w')⟩
      · skip
        refine ⟨fun _ _ _ _ _ _ h _ => h, fun _ _ h _ => h, fun σ' w' hA hE hD hP => ?_⟩
        have t43 : σ' 43 = (Value.slice q9_0a q9_0n q9_0c) := hD 0 rfl
        have B0_40 : OS w' 2 encI_i64 (Value.slice q9_0a q9_0n q9_0c) m7.1 := B34.frm hE (fun k hk => not_oth0)
        refine dg_op rfl (d_indexE (e := encI_i64) (v := (Value.slice q9_0a q9_0n q9_0c)) un65 size2 t43 rfl B0_40.rs hm36 fun g41 o41 l41 => ?_)
        exact ⟨⟨g41, o41, rfl, l41⟩, own_none (Ext.refl _)⟩
      · skip
        refine ⟨fun _ _ _ _ _ _ h _ => h, fun _ _ h _ => h, fun σ' w' hA hE hD hP => ?_⟩
        obtain ⟨d32_1g, d32_1o, t44, d32_1gE⟩ : ∃ d32_1g : Nat, ∃ d32_1o : Nat, σ' 44 = (.pointer (some ⟨d32_1g, d32_1o, none⟩)) ∧ EL encI_i64 (Value.slice q9_0a q9_0n q9_0c) (m7.1).length 0 d32_1g d32_1o := hD 1 rfl
        have B0_42 : OS w' 2 encI_i64 (Value.slice q9_0a q9_0n q9_0c) m7.1 := B34.frm hE (fun k hk => not_oth0)
        obtain ⟨d32_1c, d32_1T, d32_1f, d32_1vs, d32_1hg, d32_1P, d32_1hq⟩ := RS.el B0_42.rs d32_1gE hm36
        obtain rfl := dec_encI_i64 d32_1hq
        refine dg_op rfl (d_load (v := .int .i64 m36) t44 agg2 d32_1hg (sub_get (vs := #[.int .i64 m36]) d32_1P (i := 0) rfl) ?_)
        exact ⟨rfl, own_none (Ext.refl w')⟩
      · skip
        refine ⟨fun _ _ _ _ _ _ h _ => h, fun _ _ h _ => h, fun σ' w' hA hE hD hP => ?_⟩
        have t7 : σ' 7 = (Value.slice q9_0a q9_0n q9_0c) := (hA 7 rfl).trans s7_20
        have B0_43 : OS w' 2 encI_i64 (Value.slice q9_0a q9_0n q9_0c) m7.1 := B34.frm hE (fun k hk => not_oth0)
        refine dg_op rfl (d_mv (v := (Value.slice q9_0a q9_0n q9_0c)) t7 ?_)
        exact ⟨rfl, own_none (Ext.refl w')⟩
      · skip
        refine ⟨fun _ _ _ _ _ _ h _ => h, fun _ _ h _ => h, fun σ' w' hA hE hD hP => ?_⟩
        have t46 : σ' 46 = (Value.slice q9_0a q9_0n q9_0c) := hD 3 rfl
        have B0_44 : OS w' 2 encI_i64 (Value.slice q9_0a q9_0n q9_0c) m7.1 := B34.frm hE (fun k hk => not_oth0)
        refine dg_op rfl (d_indexE (e := encI_i64) (v := (Value.slice q9_0a q9_0n q9_0c)) un65 size2 t46 rfl B0_44.rs hm37 fun g45 o45 l45 => ?_)
        exact ⟨⟨g45, o45, rfl, l45⟩, own_none (Ext.refl _)⟩
      · skip
        refine ⟨fun _ _ _ _ _ _ h _ => h, fun _ _ h _ => h, fun σ' w' hA hE hD hP => ?_⟩
        obtain ⟨d32_4g, d32_4o, t47, d32_4gE⟩ : ∃ d32_4g : Nat, ∃ d32_4o : Nat, σ' 47 = (.pointer (some ⟨d32_4g, d32_4o, none⟩)) ∧ EL encI_i64 (Value.slice q9_0a q9_0n q9_0c) (m7.1).length 1 d32_4g d32_4o := hD 4 rfl
        have B0_46 : OS w' 2 encI_i64 (Value.slice q9_0a q9_0n q9_0c) m7.1 := B34.frm hE (fun k hk => not_oth0)
        obtain ⟨d32_4c, d32_4T, d32_4f, d32_4vs, d32_4hg, d32_4P, d32_4hq⟩ := RS.el B0_46.rs d32_4gE hm37
        obtain rfl := dec_encI_i64 d32_4hq
        refine dg_op rfl (d_load (v := .int .i64 m37) t47 agg2 d32_4hg (sub_get (vs := #[.int .i64 m37]) d32_4P (i := 0) rfl) ?_)
        exact ⟨rfl, own_none (Ext.refl w')⟩
      · skip
        refine ⟨fun _ _ _ _ _ _ h _ => h, fun _ _ h _ => h, fun σ' w' hA hE hD hP => ?_⟩
        have t9 : σ' 9 = (Value.slice q15_0a q15_0n q15_0c) := (hA 9 rfl).trans s9_20
        have B0_47 : OS w' 40 encF_f32 (Value.slice q15_0a q15_0n q15_0c) m13.1 := B35.frm hE (fun k hk => not_oth0)
        refine dg_op rfl (d_mv (v := (Value.slice q15_0a q15_0n q15_0c)) t9 ?_)
        exact ⟨rfl, own_none (Ext.refl w')⟩
      · skip
        refine ⟨fun _ _ _ _ _ _ h _ => h, fun _ _ h _ => h, fun σ' w' hA hE hD hP => ?_⟩
        have t49 : σ' 49 = (Value.slice q15_0a q15_0n q15_0c) := hD 6 rfl
        have B0_48 : OS w' 40 encF_f32 (Value.slice q15_0a q15_0n q15_0c) m13.1 := B35.frm hE (fun k hk => not_oth0)
        refine dg_op rfl (d_indexE (e := encF_f32) (v := (Value.slice q15_0a q15_0n q15_0c)) un23 size40 t49 rfl B0_48.rs hm38 fun g49 o49 l49 => ?_)
        exact ⟨⟨g49, o49, rfl, l49⟩, own_none (Ext.refl _)⟩
      · skip
        refine ⟨fun _ _ _ _ _ _ h _ => h, fun _ _ h _ => h, fun σ' w' hA hE hD hP => ?_⟩
        obtain ⟨d32_7g, d32_7o, t50, d32_7gE⟩ : ∃ d32_7g : Nat, ∃ d32_7o : Nat, σ' 50 = (.pointer (some ⟨d32_7g, d32_7o, none⟩)) ∧ EL encF_f32 (Value.slice q15_0a q15_0n q15_0c) (m13.1).length 0 d32_7g d32_7o := hD 7 rfl
        have B0_50 : OS w' 40 encF_f32 (Value.slice q15_0a q15_0n q15_0c) m13.1 := B35.frm hE (fun k hk => not_oth0)
        obtain ⟨d32_7c, d32_7T, d32_7f, d32_7vs, d32_7hg, d32_7P, d32_7hq⟩ := RS.el B0_50.rs d32_7gE hm38
        obtain ⟨d32_7r0, rfl, d32_7h0⟩ := dec_encF_f32 d32_7hq
        refine dg_op rfl (d_load (v := .float .f32 d32_7r0) t50 agg40 d32_7hg (sub_get (vs := #[.float .f32 d32_7r0]) d32_7P (i := 0) rfl) ?_)
        exact ⟨⟨d32_7r0, rfl, d32_7h0⟩, own_none (Ext.refl w')⟩
      · skip
        refine ⟨fun _ _ _ _ _ _ h _ => h, fun _ _ h _ => h, fun σ' w' hA hE hD hP => ?_⟩
        have t45 : σ' 45 = (.int .i64 m36) := hD 2 rfl
        have t48 : σ' 48 = (.int .i64 m37) := hD 5 rfl
        obtain ⟨d32_7r0, t51, d32_7h0⟩ : ∃ d32_7r0 : Nat, σ' 51 = (.float .f32 d32_7r0) ∧ cn .f32 d32_7r0 = m38 := hD 8 rfl
        refine dg_op rfl (d_bd (vs := [(0, .int .i64 m36), (1, .int .i64 m37), (2, .float .f32 d32_7r0)]) (cs := #[.int .i64 m36, .int .i64 m37, .float .f32 d32_7r0]) (pc t45 (pc t48 (pc t51 rfl))) (by kernel_rfl) ?_)
        exact ⟨⟨d32_7r0, rfl, d32_7h0⟩, own_none (Ext.refl w')⟩
      · skip
        intro σ32 w32 A32 E32 V32
        have E32x : Ext w20 w32 := ext_of_oth0 E32
        obtain ⟨z32_52_7r0, s52_32, z32_52_7h0⟩ : ∃ z32_52_7r0 : Nat, σ32 52 = (.agg #[.int .i64 m36, .int .i64 m37, .float .f32 z32_52_7r0]) ∧ cn .f32 z32_52_7r0 = m38 := V32 9 (Nat.le_of_ble_eq_true rfl)
        have s2_32 : σ32 2 = .pointer (some ⟨w.heap.size, 0, none⟩) := (A32 2 rfl).trans s2_20
        have X51 : Ext w w32 := X26.trans E32x
        have B52 : w32.heap[w.heap.size]? = some (.cells #[.int .i64 0, .int .i64 0, .float .f32 0] 42 (0, 0)) := E32x.heap B33
        refine da_op rfl (d_store (vs := #[.int .i64 m36, .int .i64 m37, .float .f32 z32_52_7r0]) s2_32 (congrArg Value.cells s52_32) B52 size42 (Nat.le_of_ble_eq_true rfl) rfl fun w53 S53 => ?_)
        have X54 : Ext w w53 := Ext.step X51 S53.frmb (fun k _ hk => hk ▸ own2)
        have B55 : w53.heap[w.heap.size]? = some (.cells #[.int .i64 m36, .int .i64 m37, .float .f32 z32_52_7r0] 42 (0, 0)) := S53.here
        refine da_op rfl (d_as (v := .bool true) rfl ?_)
        refine da_nil ?_
        refine W_ret ?_
        obtain rfl := Option.some.inj hr
        refine ⟨_, res2 (rv_cells (vs := #[.int .i64 m36, .int .i64 m37, .float .f32 z32_52_7r0]) s2_32 agg42 size42 B55 rfl) (rv_tmp rfl), ?_⟩
        exact ⟨z32_52_7r0, rfl, z32_52_7h0, X54⟩
set_option maxHeartbeats 4000000 in
theorem c92 (p0 : Nat) (p0r : Nat) (r : Bool) (w : World) (hr : M.impl_IsFinite p0 = r) (p0h : cn .f32 p0r = p0) :
    Calls Tryz.prog 92 #[.float .f32 p0r] w fun e w' => e = .returned (.bool r) ∧ Ext w w' := by
  refine calls_of_W Tryz.func92 rfl (Nat.le_of_ble_eq_true rfl) ?_
  refine W_seq ?_
  refine W_region rfl ?_
  refine da_op rfl (d_as (v := .bool false) rfl ?_)
  refine da_nil ?_
  refine W_seq ?_
  refine W_region rfl ?_
  refine da_op rfl (d_mv (v := .float .f32 p0r) rfl ?_)
  refine da_op rfl (d_mv (v := .float .f32 p0r) rfl ?_)
  refine da_op rfl (d_fop (k := .f32) fSub rfl rfl p0h p0h fun r1 w1 h1 _ E1 => ?_)
  have X2 : Ext w w1 := (Ext.refl w).trans E1
  refine da_op rfl (d_fcmp (k := .f32) cEql rfl rfl h1 cn_f32_0 ?_)
  refine da_op rfl (d_as (v := .bool (fcmp .eql .f32 (fop .sub .f32 p0 p0) 0)) rfl ?_)
  refine da_nil ?_
  refine W_ret ?_
  subst hr
  refine ⟨_, res1 (rv_tmp rfl), ?_⟩
  exact ⟨rfl, X2⟩
set_option maxHeartbeats 4000000 in
theorem c100 (p0 : Nat) (p0r : Nat) (r : Bool) (w : World) (hr : M.impl_finite_1 p0 = r) (p0h : cn .f32 p0r = p0) :
    Calls Tryz.prog 100 #[.float .f32 p0r] w fun e w' => e = .returned (.bool r) ∧ Ext w w' := by
  refine calls_of_W Tryz.func100 rfl (Nat.le_of_ble_eq_true rfl) ?_
  refine W_seq ?_
  refine W_region rfl ?_
  refine da_op rfl (d_as (v := .bool false) rfl ?_)
  refine da_nil ?_
  refine W_seq ?_
  refine W_region rfl ?_
  refine da_op rfl (d_mv (v := .float .f32 p0r) rfl ?_)
  obtain ⟨m1, hm1, hr⟩ := letv_out hr
  refine da_op rfl (d_cl (vs := [.float .f32 p0r]) en92 (ac rfl rfl) rfl ?_)
  refine (c92 p0 p0r m1 w hm1 p0h).mono ?_
  rintro _ w2 ⟨rfl, E2⟩
  refine ⟨_, rfl, ?_⟩
  have X3 : Ext w w2 := (Ext.refl w).trans E2
  refine da_op rfl (d_not rfl ?_)
  refine da_op rfl (d_as (v := .bool (!m1)) rfl ?_)
  refine da_nil ?_
  refine W_ret ?_
  subst hr
  refine ⟨_, res1 (rv_tmp rfl), ?_⟩
  exact ⟨rfl, X3⟩
end Go.Proofs
