import Derived.Test.YtdcienojgkioiaaNNCt1
namespace Go.Proofs
open Go Go.Fl Go.RowKit Go.Rg
set_option maxRecDepth 100000
set_option linter.unusedVariables false
attribute [local irreducible] Go.Calls doAll Does DoesG W Wr
set_option maxHeartbeats 4000000 in
theorem c36 (p0 : Int) (p1 : Nat) (p2 : Nat) (p1r : Nat) (p2r : Nat) (r : SClocks × Bool) (w : World) (hr : M.spec_EvenClocks p0 p1 p2 = some r) (p1h : cn .f32 p1r = p1) (p2h : cn .f32 p2r = p2) :
    Calls Try.prog 36 #[.int .i64 p0, .float .f32 p1r, .float .f32 p2r] w fun e w' => ∃ q0v0a : Option Addr, ∃ q0v0n : Nat, ∃ q0v0c : Nat, ∃ q0v1a : Option Addr, ∃ q0v1n : Nat, ∃ q0v1c : Nat, e = .returned (.tuple #[.agg #[(Value.slice q0v0a q0v0n q0v0c), (Value.slice q0v1a q0v1n q0v1c)], .bool r.2]) ∧ OS w' 109 encSClock (Value.slice q0v0a q0v0n q0v0c) r.1.list ∧ (∀ k, (Value.slice q0v0a q0v0n q0v0c).ownBlock = some k → w.heap.size ≤ k) ∧ OS w' 22 encF_f32 (Value.slice q0v1a q0v1n q0v1c) r.1.links ∧ (∀ k, (Value.slice q0v1a q0v1n q0v1c).ownBlock = some k → w.heap.size ≤ k) ∧ (∀ k, (Value.slice q0v0a q0v0n q0v0c).ownBlock = some k → ¬ (Value.slice q0v1a q0v1n q0v1c).ownBlock = some k) ∧ Ext w w' := by
  refine calls_of_W Try.func36 rfl (Nat.le_of_ble_eq_true rfl) ?_
  refine W_seq ?_
  refine W_region rfl ?_
  refine da_op rfl (d_alloc (cs := #[.slice none 0 0, .slice none 0 0]) zero54 rfl fun w1 B1 E1 => ?_)
  have own2 : w.heap.size ≤ w.heap.size := Nat.le_trans (Ext.refl w).size (Nat.le_refl _)
  have X3 : Ext w w1 := (Ext.refl w).trans E1
  refine da_op rfl (d_as (v := .bool false) rfl ?_)
  refine da_nil ?_
  refine W_seq ?_
  refine W_seq ?_
  refine W_region rfl ?_
  refine da_op rfl (d_mv (v := .int .i64 p0) rfl ?_)
  obtain ⟨m4, hm4, hr⟩ := letv_out hr
  refine da_op rfl (d_cl (vs := [.int .i64 p0, .int .i64 1, .int .i64 12]) en48 (ac rfl (ac rfl (ac rfl rfl))) rfl ?_)
  refine (c48 p0 1 12 m4 w1 hm4 ).mono ?_
  rintro _ w5 ⟨rfl, E5⟩
  refine ⟨_, rfl, ?_⟩
  have X6 : Ext w w5 := X3.trans E5
  refine da_op rfl (d_not rfl ?_)
  refine da_nil ?_
  refine W_cond (b := (!m4)) rfl (fun hc7 => ?_) (fun hc7 => ?_)
  · skip
    replace hr := bif_t hr hc7
    refine W_seq ?_
    refine W_region rfl ?_
    refine da_op rfl (d_bd (vs := []) (cs := #[.slice none 0 0, .slice none 0 0]) rfl (by kernel_rfl) ?_)
    have B8 : w5.heap[w.heap.size]? = some (.cells #[.slice none 0 0, .slice none 0 0] 54 (0, 0)) := E5.heap B1
    refine da_op rfl (d_store (vs := #[.slice none 0 0, .slice none 0 0]) rfl rfl B8 size54 (Nat.le_of_ble_eq_true rfl) rfl fun w9 S9 => ?_)
    have X10 : Ext w w9 := Ext.step X6 S9.frmb (fun k _ hk => hk ▸ own2)
    have B11 : w9.heap[w.heap.size]? = some (.cells #[.slice none 0 0, .slice none 0 0] 54 (0, 0)) := S9.here
    refine da_op rfl (d_as (v := .bool false) rfl ?_)
    refine da_nil ?_
    refine W_ret ?_
    obtain rfl := Option.some.inj hr
    refine ⟨_, res2 (rv_cells (vs := #[.slice none 0 0, .slice none 0 0]) rfl agg54 size54 B11 rfl) (rv_tmp rfl), ?_⟩
    exact ⟨none, 0, 0, none, 0, 0, rfl, (OS.nil _ 109 encSClock), (fun k hk => by cases hk), (OS.nil _ 22 encF_f32), (fun k hk => by cases hk), (by intro k hk; cases hk), X10⟩
  · skip
    replace hr := bif_f hr hc7
    refine W_skip ?_
    refine W_seq ?_
    refine W_region rfl ?_
    refine da_op rfl (d_bd (vs := []) (cs := #[.slice none 0 0, .slice none 0 0]) rfl (by kernel_rfl) ?_)
    have B13 : w5.heap[w.heap.size]? = some (.cells #[.slice none 0 0, .slice none 0 0] 54 (0, 0)) := E5.heap B1
    refine da_op rfl (d_alloc (cs := #[.slice none 0 0, .slice none 0 0]) zero54 rfl fun w12 B12 E12 => ?_)
    have own14 : w.heap.size ≤ w5.heap.size := Nat.le_trans X6.size (Nat.le_refl _)
    have sp15 : w.heap.size ≠ w5.heap.size := Nat.ne_of_lt (Nat.lt_of_lt_of_le (lt_heap B13) (Nat.le_refl _))
    have X16 : Ext w w12 := X6.trans E12
    refine da_op rfl (d_store (vs := #[.slice none 0 0, .slice none 0 0]) rfl rfl B12 size54 (Nat.le_of_ble_eq_true rfl) rfl fun w17 S17 => ?_)
    have X18 : Ext w w17 := Ext.step X16 S17.frmb (fun k _ hk => hk ▸ own14)
    have B19 : w17.heap[w5.heap.size]? = some (.cells #[.slice none 0 0, .slice none 0 0] 54 (0, 0)) := S17.here
    refine da_nil ?_
    refine W_seq ?_
    refine W_seq ?_
    refine W_region rfl ?_
    refine da_op rfl (d_as (v := .int .i64 0) rfl ?_)
    refine da_nil ?_
    refine W_block ?_
    have B21 : w17.heap[w.heap.size]? = some (.cells #[.slice none 0 0, .slice none 0 0] 54 (0, 0)) := S17.frmb.heap sp15 (E12.heap B13)
    obtain ⟨m20, hm20, hr⟩ := bind_out hr
    refine W_loopM hm20 (fun (s20 : Int × SClocks) σ w' => ∃ i20_1v0a : Option Addr, ∃ i20_1v0n : Nat, ∃ i20_1v0c : Nat, ∃ i20_1v1a : Option Addr, ∃ i20_1v1n : Nat, ∃ i20_1v1c : Nat, σ 9 = .int .i64 s20.1 ∧ σ 0 = .int .i64 p0 ∧ σ 1 = .float .f32 p1r ∧ σ 2 = .float .f32 p2r ∧ σ 6 = .pointer (some ⟨w.heap.size, 0, none⟩) ∧ σ 8 = .pointer (some ⟨w5.heap.size, 0, none⟩) ∧ OS w' 109 encSClock (Value.slice i20_1v0a i20_1v0n i20_1v0c) s20.2.list ∧ (∀ k, (Value.slice i20_1v0a i20_1v0n i20_1v0c).ownBlock = some k → w.heap.size ≤ k) ∧ OS w' 22 encF_f32 (Value.slice i20_1v1a i20_1v1n i20_1v1c) s20.2.links ∧ (∀ k, (Value.slice i20_1v1a i20_1v1n i20_1v1c).ownBlock = some k → w.heap.size ≤ k) ∧ w'.heap[w5.heap.size]? = some (.cells #[(Value.slice i20_1v0a i20_1v0n i20_1v0c), (Value.slice i20_1v1a i20_1v1n i20_1v1c)] 54 (0, 0)) ∧ w'.heap[w.heap.size]? = some (.cells #[.slice none 0 0, .slice none 0 0] 54 (0, 0)) ∧ ¬ (Value.slice i20_1v0a i20_1v0n i20_1v0c).ownBlock = some w.heap.size ∧ ¬ (Value.slice i20_1v0a i20_1v0n i20_1v0c).ownBlock = some w5.heap.size ∧ ¬ (Value.slice i20_1v1a i20_1v1n i20_1v1c).ownBlock = some w.heap.size ∧ ¬ (Value.slice i20_1v1a i20_1v1n i20_1v1c).ownBlock = some w5.heap.size ∧ (∀ k, (Value.slice i20_1v0a i20_1v0n i20_1v0c).ownBlock = some k → ¬ (Value.slice i20_1v1a i20_1v1n i20_1v1c).ownBlock = some k) ∧ Ext w w') (fun (e20 : SClocks) ex σ w' => ex = .exit 0 ∧ ∃ q20_0_0v0a : Option Addr, ∃ q20_0_0v0n : Nat, ∃ q20_0_0v0c : Nat, ∃ q20_0_0v1a : Option Addr, ∃ q20_0_0v1n : Nat, ∃ q20_0_0v1c : Nat, σ 6 = .pointer (some ⟨w.heap.size, 0, none⟩) ∧ σ 8 = .pointer (some ⟨w5.heap.size, 0, none⟩) ∧ OS w' 109 encSClock (Value.slice q20_0_0v0a q20_0_0v0n q20_0_0v0c) e20.list ∧ (∀ k, (Value.slice q20_0_0v0a q20_0_0v0n q20_0_0v0c).ownBlock = some k → w.heap.size ≤ k) ∧ OS w' 22 encF_f32 (Value.slice q20_0_0v1a q20_0_0v1n q20_0_0v1c) e20.links ∧ (∀ k, (Value.slice q20_0_0v1a q20_0_0v1n q20_0_0v1c).ownBlock = some k → w.heap.size ≤ k) ∧ w'.heap[w5.heap.size]? = some (.cells #[(Value.slice q20_0_0v0a q20_0_0v0n q20_0_0v0c), (Value.slice q20_0_0v1a q20_0_0v1n q20_0_0v1c)] 54 (0, 0)) ∧ w'.heap[w.heap.size]? = some (.cells #[.slice none 0 0, .slice none 0 0] 54 (0, 0)) ∧ ¬ (Value.slice q20_0_0v0a q20_0_0v0n q20_0_0v0c).ownBlock = some w.heap.size ∧ ¬ (Value.slice q20_0_0v0a q20_0_0v0n q20_0_0v0c).ownBlock = some w5.heap.size ∧ ¬ (Value.slice q20_0_0v1a q20_0_0v1n q20_0_0v1c).ownBlock = some w.heap.size ∧ ¬ (Value.slice q20_0_0v1a q20_0_0v1n q20_0_0v1c).ownBlock = some w5.heap.size ∧ (∀ k, (Value.slice q20_0_0v0a q20_0_0v0n q20_0_0v0c).ownBlock = some k → ¬ (Value.slice q20_0_0v1a q20_0_0v1n q20_0_0v1c).ownBlock = some k) ∧ Ext w w') ⟨none, 0, 0, none, 0, 0, rfl, rfl, rfl, rfl, rfl, rfl, (OS.nil _ 109 encSClock), (fun k hk => by cases hk), (OS.nil _ 22 encF_f32), (fun k hk => by cases hk), B19, B21, (by intro e; cases e), (by intro e; cases e), (by intro e; cases e), (by intro e; cases e), (by intro k hk; cases hk), X18⟩ ?_ ?_
    · skip
      rintro s20 σl20 wl20 r20l ⟨i20_1v0a, i20_1v0n, i20_1v0c, i20_1v1a, i20_1v1n, i20_1v1c, i20_S9, i20_S0, i20_S1, i20_S2, i20_S6, i20_S8, i20_1v0R, i20_1v0O, i20_1v1R, i20_1v1O, i20_1B, i20_K0, i20_A0, i20_A1, i20_A2, i20_A3, i20_A4, i20_X⟩ hr
      refine W_seq ?_
      refine W_seq ?_
      refine W_region rfl ?_
      refine da_op rfl (d_mv (v := .int .i64 s20.1) i20_S9 ?_)
      refine da_op rfl (d_mv (v := .int .i64 p0) i20_S0 ?_)
      refine da_op rfl (d_icmp cLss rfl rfl ?_)
      refine da_nil ?_
      refine W_cond (b := (icmp .lss s20.1 p0)) rfl (fun hc22 => ?_) (fun hc22 => ?_)
      · skip
        replace hr := bif_t hr hc22
        refine W_skip ?_
        refine W_seq ?_
        refine W_block ?_
        refine W_seq ?_
        refine W_region rfl ?_
        refine da_op rfl (d_fieldAddr i20_S8 (fa54_0 _ _) ?_)
        refine da_op rfl (d_load (v := (Value.slice i20_1v0a i20_1v0n i20_1v0c)) rfl agg52 i20_1B rfl ?_)
        refine da_op rfl (d_mv (v := .int .i64 s20.1) i20_S9 ?_)
        refine da_op rfl (d_ofInt un2 un22 rfl ?_)
        refine da_op rfl (d_mv (v := .int .i64 p0) i20_S0 ?_)
        refine da_op rfl (d_ofInt un2 un22 rfl ?_)
        refine da_op rfl (d_fop (k := .f32) fQuo rfl rfl (cn_fint _ _) (cn_fint _ _) fun r23 w23 h23 _ E23 => ?_)
        have X24 : Ext w w23 := i20_X.trans E23
        refine da_op rfl (d_mv (v := .float .f32 p1r) i20_S1 ?_)
        refine da_op rfl (d_bd (vs := [(0, .float .f32 r23), (1, .float .f32 p1r)]) (cs := #[.float .f32 r23, .float .f32 p1r]) (pc rfl (pc rfl rfl)) (by kernel_rfl) ?_)
        have B26 : w23.heap[w.heap.size]? = some (.cells #[.slice none 0 0, .slice none 0 0] 54 (0, 0)) := E23.heap i20_K0
        have B27 : OS w23 109 encSClock (Value.slice i20_1v0a i20_1v0n i20_1v0c) s20.2.list := i20_1v0R.ext E23
        have B28 : OS w23 22 encF_f32 (Value.slice i20_1v1a i20_1v1n i20_1v1c) s20.2.links := i20_1v1R.ext E23
        have B29 : w23.heap[w5.heap.size]? = some (.cells #[(Value.slice i20_1v0a i20_1v0n i20_1v0c), (Value.slice i20_1v1a i20_1v1n i20_1v1c)] 54 (0, 0)) := E23.heap i20_1B
        refine da_op rfl (d_bslice (vs := [(0, .agg #[.float .f32 r23, .float .f32 p1r])]) (cs := #[.float .f32 r23, .float .f32 p1r]) un52 (pc rfl rfl) (by kernel_rfl) fun w25 B25 E25 => ?_)
        have fr25 : ∀ k, (Value.slice (some ⟨w23.heap.size, 0, none⟩) 1 1).ownBlock = some k → w23.heap.size ≤ k := fun k hk => by cases hk; exact Nat.le_refl _
        have own25 : ∀ k, (Value.slice (some ⟨w23.heap.size, 0, none⟩) 1 1).ownBlock = some k → w.heap.size ≤ k := fun k hk => Nat.le_trans X24.size (fr25 k hk)
        have sp30 : ¬ (Value.slice (some ⟨w23.heap.size, 0, none⟩) 1 1).ownBlock = some w.heap.size := ne_fresh fr25 (lt_heap B26)
        have sp31 : ∀ k, (Value.slice i20_1v0a i20_1v0n i20_1v0c).ownBlock = some k → ¬ (Value.slice (some ⟨w23.heap.size, 0, none⟩) 1 1).ownBlock = some k := apart_fresh B27 fr25
        have sp32 : ∀ k, (Value.slice i20_1v1a i20_1v1n i20_1v1c).ownBlock = some k → ¬ (Value.slice (some ⟨w23.heap.size, 0, none⟩) 1 1).ownBlock = some k := apart_fresh B28 fr25
        have sp33 : ¬ (Value.slice (some ⟨w23.heap.size, 0, none⟩) 1 1).ownBlock = some w5.heap.size := ne_fresh fr25 (lt_heap B29)
        have X34 : Ext w w25 := X24.trans E25
        have O25 : OS w25 109 encSClock (Value.slice (some ⟨w23.heap.size, 0, none⟩) 1 1) [(⟨(fop .quo .f32 (fint .f32 s20.1) (fint .f32 p0)), p1⟩ : SClock)] := OS.box (xs := [(⟨(fop .quo .f32 (fint .f32 s20.1) (fint .f32 p0)), p1⟩ : SClock)]) B25 (lc_f h23 (lc_f p1h rfl)) (Nat.le_of_ble_eq_true rfl)
        obtain ⟨m35, hm35, hr⟩ := bind_out hr
        have B36 : OS w25 109 encSClock (Value.slice i20_1v0a i20_1v0n i20_1v0c) s20.2.list := B27.ext E25
        have B37 : w25.heap[w.heap.size]? = some (.cells #[.slice none 0 0, .slice none 0 0] 54 (0, 0)) := E25.heap B26
        have B38 : OS w25 22 encF_f32 (Value.slice i20_1v1a i20_1v1n i20_1v1c) s20.2.links := B28.ext E25
        have B39 : w25.heap[w5.heap.size]? = some (.cells #[(Value.slice i20_1v0a i20_1v0n i20_1v0c), (Value.slice i20_1v1a i20_1v1n i20_1v1c)] 54 (0, 0)) := E25.heap B29
        refine da_op rfl (d_append (e := encSClock) (v := (Value.slice i20_1v0a i20_1v0n i20_1v0c)) (y := (Value.slice (some ⟨w23.heap.size, 0, none⟩) 1 1)) un52 info109 rfl (by kernel_rfl) (by kernel_rfl) (by decide) (by decide) rfl rfl B36 O25.rs hm35 fun v40 w40 O40 Fm40 at_40 nl40 => ?_)
        obtain ⟨v40pa, v40pn, v40pc, rfl⟩ := O40.vals
        have own40 : ∀ k, (Value.slice v40pa v40pn v40pc).ownBlock = some k → w.heap.size ≤ k := app_own (w := w25) at_40 i20_1v0O X34.size
        have sp41 : ¬ (Value.slice v40pa v40pn v40pc).ownBlock = some w.heap.size := app_nb at_40 i20_A0 (lt_heap B37)
        have sp42 : ∀ k, (Value.slice i20_1v1a i20_1v1n i20_1v1c).ownBlock = some k → ¬ (Value.slice v40pa v40pn v40pc).ownBlock = some k := app_nr at_40 (apart_symm i20_A4) B38
        have sp43 : ¬ (Value.slice v40pa v40pn v40pc).ownBlock = some w5.heap.size := app_nb at_40 i20_A1 (lt_heap B39)
        have sp44 : ∀ k, (Value.slice (some ⟨w23.heap.size, 0, none⟩) 1 1).ownBlock = some k → ¬ (Value.slice v40pa v40pn v40pc).ownBlock = some k := app_nr at_40 (apart_symm sp31) O25
        have X45 : Ext w w40 := Ext.step X34 Fm40 (fun k _ hk => i20_1v0O k hk)
        refine da_op rfl (d_fieldAddr i20_S8 (fa54_0 _ _) ?_)
        have B46 : w40.heap[w5.heap.size]? = some (.cells #[(Value.slice i20_1v0a i20_1v0n i20_1v0c), (Value.slice i20_1v1a i20_1v1n i20_1v1c)] 54 (0, 0)) := Fm40.heap i20_A1 B39
        refine da_op rfl (d_store (vs := #[(Value.slice v40pa v40pn v40pc)]) rfl rfl B46 size52 (Nat.le_of_ble_eq_true rfl) rfl fun w47 S47 => ?_)
        have X48 : Ext w w47 := Ext.step X45 S47.frmb (fun k _ hk => hk ▸ own14)
        have B49 : w47.heap[w5.heap.size]? = some (.cells #[(Value.slice v40pa v40pn v40pc), (Value.slice i20_1v1a i20_1v1n i20_1v1c)] 54 (0, 0)) := S47.here
        refine da_nil ?_
        refine W_seq ?_
        refine W_region rfl ?_
        refine da_op rfl (d_as (v := .int .i64 0) rfl ?_)
        refine da_nil ?_
        refine W_block ?_
        have B51 : w47.heap[w.heap.size]? = some (.cells #[.slice none 0 0, .slice none 0 0] 54 (0, 0)) := S47.frmb.heap sp15 (Fm40.heap i20_A0 B37)
        have B52 : OS w47 22 encF_f32 (Value.slice i20_1v1a i20_1v1n i20_1v1c) s20.2.links := (B38.frm Fm40 (apart_symm i20_A4)).frm S47.frmb (rb i20_A3)
        have B53 : OS w47 109 encSClock (Value.slice v40pa v40pn v40pc) m35 := O40.frm S47.frmb (rb sp43)
        obtain ⟨m50, hm50, hr⟩ := bind_out hr
        refine W_loopM hm50 (fun (s50 : Int × SClocks) σ w' => ∃ i50_1v1a : Option Addr, ∃ i50_1v1n : Nat, ∃ i50_1v1c : Nat, σ 10 = .int .i64 s50.1 ∧ σ 0 = .int .i64 p0 ∧ σ 1 = .float .f32 p1r ∧ σ 2 = .float .f32 p2r ∧ σ 6 = .pointer (some ⟨w.heap.size, 0, none⟩) ∧ σ 8 = .pointer (some ⟨w5.heap.size, 0, none⟩) ∧ σ 9 = .int .i64 s20.1 ∧ OS w' 22 encF_f32 (Value.slice i50_1v1a i50_1v1n i50_1v1c) s50.2.links ∧ (∀ k, (Value.slice i50_1v1a i50_1v1n i50_1v1c).ownBlock = some k → w.heap.size ≤ k) ∧ w'.heap[w5.heap.size]? = some (.cells #[(Value.slice v40pa v40pn v40pc), (Value.slice i50_1v1a i50_1v1n i50_1v1c)] 54 (0, 0)) ∧ w'.heap[w.heap.size]? = some (.cells #[.slice none 0 0, .slice none 0 0] 54 (0, 0)) ∧ OS w' 109 encSClock (Value.slice v40pa v40pn v40pc) m35 ∧ ¬ (Value.slice i50_1v1a i50_1v1n i50_1v1c).ownBlock = some w.heap.size ∧ (∀ k, (Value.slice v40pa v40pn v40pc).ownBlock = some k → ¬ (Value.slice i50_1v1a i50_1v1n i50_1v1c).ownBlock = some k) ∧ ¬ (Value.slice i50_1v1a i50_1v1n i50_1v1c).ownBlock = some w5.heap.size ∧ Ext w w') (fun (e50 : SClocks) ex σ w' => ex = .exit 2 ∧ ∃ q50_0_0v1a : Option Addr, ∃ q50_0_0v1n : Nat, ∃ q50_0_0v1c : Nat, σ 0 = .int .i64 p0 ∧ σ 1 = .float .f32 p1r ∧ σ 2 = .float .f32 p2r ∧ σ 6 = .pointer (some ⟨w.heap.size, 0, none⟩) ∧ σ 8 = .pointer (some ⟨w5.heap.size, 0, none⟩) ∧ σ 9 = .int .i64 s20.1 ∧ OS w' 22 encF_f32 (Value.slice q50_0_0v1a q50_0_0v1n q50_0_0v1c) e50.links ∧ (∀ k, (Value.slice q50_0_0v1a q50_0_0v1n q50_0_0v1c).ownBlock = some k → w.heap.size ≤ k) ∧ w'.heap[w5.heap.size]? = some (.cells #[(Value.slice v40pa v40pn v40pc), (Value.slice q50_0_0v1a q50_0_0v1n q50_0_0v1c)] 54 (0, 0)) ∧ w'.heap[w.heap.size]? = some (.cells #[.slice none 0 0, .slice none 0 0] 54 (0, 0)) ∧ OS w' 109 encSClock (Value.slice v40pa v40pn v40pc) m35 ∧ ¬ (Value.slice q50_0_0v1a q50_0_0v1n q50_0_0v1c).ownBlock = some w.heap.size ∧ (∀ k, (Value.slice v40pa v40pn v40pc).ownBlock = some k → ¬ (Value.slice q50_0_0v1a q50_0_0v1n q50_0_0v1c).ownBlock = some k) ∧ ¬ (Value.slice q50_0_0v1a q50_0_0v1n q50_0_0v1c).ownBlock = some w5.heap.size ∧ Ext w w') ⟨i20_1v1a, i20_1v1n, i20_1v1c, rfl, i20_S0, i20_S1, i20_S2, i20_S6, i20_S8, i20_S9, B52, i20_1v1O, B49, B51, B53, i20_A2, (apart_symm sp42), i20_A3, X48⟩ ?_ ?_
        · skip
          rintro s50 σl50 wl50 r50l ⟨i50_1v1a, i50_1v1n, i50_1v1c, i50_S10, i50_S0, i50_S1, i50_S2, i50_S6, i50_S8, i50_S9, i50_1v1R, i50_1v1O, i50_1B, i50_K0, i50_K1, i50_A0, i50_A1, i50_A2, i50_X⟩ hr
          refine W_seq ?_
          refine W_seq ?_
          refine W_region rfl ?_
          refine da_op rfl (d_mv (v := .int .i64 s50.1) i50_S10 ?_)
          refine da_op rfl (d_mv (v := .int .i64 p0) i50_S0 ?_)
          refine da_op rfl (d_icmp cLss rfl rfl ?_)
          refine da_nil ?_
          refine W_cond (b := (icmp .lss s50.1 p0)) rfl (fun hc54 => ?_) (fun hc54 => ?_)
          · skip
            replace hr := bif_t hr hc54
            refine W_skip ?_
            refine W_seq ?_
            refine W_block ?_
            refine W_seq ?_
            refine W_region rfl ?_
            refine da_op rfl (d_mv (v := .float .f32 p2r) i50_S2 ?_)
            refine da_op rfl (d_as (v := .float .f32 p2r) rfl ?_)
            refine da_nil ?_
            refine W_seq ?_
            refine W_seq ?_
            refine W_region rfl ?_
            refine da_op rfl (d_mv (v := .int .i64 s50.1) i50_S10 ?_)
            refine da_op rfl (d_mv (v := .int .i64 s20.1) i50_S9 ?_)
            refine da_op rfl (d_icmp cEql rfl rfl ?_)
            refine da_nil ?_
            refine W_cond (b := (icmp .eql s50.1 s20.1)) rfl (fun hc55 => ?_) (fun hc55 => ?_)
            · skip
              replace hr := bif_t hr hc55
              refine W_region rfl ?_
              refine da_op rfl (d_as (v := .float .f32 0) rfl ?_)
              refine da_nil ?_
              refine W_region rfl ?_
              refine da_op rfl (d_fieldAddr i50_S8 (fa54_1 _ _) ?_)
              refine da_op rfl (d_load (v := (Value.slice i50_1v1a i50_1v1n i50_1v1c)) rfl agg48 i50_1B rfl ?_)
              refine da_op rfl (d_mv (v := .float .f32 0) rfl ?_)
              refine da_op rfl (d_bslice (vs := [(0, .float .f32 0)]) (cs := #[.float .f32 0]) un48 (pc rfl rfl) (by kernel_rfl) fun w56 B56 E56 => ?_)
              have fr56 : ∀ k, (Value.slice (some ⟨wl50.heap.size, 0, none⟩) 1 1).ownBlock = some k → wl50.heap.size ≤ k := fun k hk => by cases hk; exact Nat.le_refl _
              have own56 : ∀ k, (Value.slice (some ⟨wl50.heap.size, 0, none⟩) 1 1).ownBlock = some k → w.heap.size ≤ k := fun k hk => Nat.le_trans i50_X.size (fr56 k hk)
              have sp57 : ¬ (Value.slice (some ⟨wl50.heap.size, 0, none⟩) 1 1).ownBlock = some w.heap.size := ne_fresh fr56 (lt_heap i50_K0)
              have sp58 : ∀ k, (Value.slice v40pa v40pn v40pc).ownBlock = some k → ¬ (Value.slice (some ⟨wl50.heap.size, 0, none⟩) 1 1).ownBlock = some k := apart_fresh i50_K1 fr56
              have sp59 : ∀ k, (Value.slice i50_1v1a i50_1v1n i50_1v1c).ownBlock = some k → ¬ (Value.slice (some ⟨wl50.heap.size, 0, none⟩) 1 1).ownBlock = some k := apart_fresh i50_1v1R fr56
              have sp60 : ¬ (Value.slice (some ⟨wl50.heap.size, 0, none⟩) 1 1).ownBlock = some w5.heap.size := ne_fresh fr56 (lt_heap i50_1B)
              have X61 : Ext w w56 := i50_X.trans E56
              have O56 : OS w56 22 encF_f32 (Value.slice (some ⟨wl50.heap.size, 0, none⟩) 1 1) [0] := OS.box (xs := [0]) B56 (lc_f cn_f32_0 rfl) (Nat.le_of_ble_eq_true rfl)
              obtain ⟨m62, hm62, hr⟩ := bind_out hr
              have B63 : OS w56 22 encF_f32 (Value.slice i50_1v1a i50_1v1n i50_1v1c) s50.2.links := i50_1v1R.ext E56
              have B64 : w56.heap[w.heap.size]? = some (.cells #[.slice none 0 0, .slice none 0 0] 54 (0, 0)) := E56.heap i50_K0
              have B65 : OS w56 109 encSClock (Value.slice v40pa v40pn v40pc) m35 := i50_K1.ext E56
              have B66 : w56.heap[w5.heap.size]? = some (.cells #[(Value.slice v40pa v40pn v40pc), (Value.slice i50_1v1a i50_1v1n i50_1v1c)] 54 (0, 0)) := E56.heap i50_1B
              refine da_op rfl (d_append (e := encF_f32) (v := (Value.slice i50_1v1a i50_1v1n i50_1v1c)) (y := (Value.slice (some ⟨wl50.heap.size, 0, none⟩) 1 1)) un48 info22 rfl (by kernel_rfl) (by kernel_rfl) (by decide) (by decide) rfl rfl B63 O56.rs hm62 fun v67 w67 O67 Fm67 at_67 nl67 => ?_)
              obtain ⟨v67pa, v67pn, v67pc, rfl⟩ := O67.vals
              have own67 : ∀ k, (Value.slice v67pa v67pn v67pc).ownBlock = some k → w.heap.size ≤ k := app_own (w := w56) at_67 i50_1v1O X61.size
              have sp68 : ¬ (Value.slice v67pa v67pn v67pc).ownBlock = some w.heap.size := app_nb at_67 i50_A0 (lt_heap B64)
              have sp69 : ∀ k, (Value.slice v40pa v40pn v40pc).ownBlock = some k → ¬ (Value.slice v67pa v67pn v67pc).ownBlock = some k := app_nr at_67 i50_A1 B65
              have sp70 : ¬ (Value.slice v67pa v67pn v67pc).ownBlock = some w5.heap.size := app_nb at_67 i50_A2 (lt_heap B66)
              have sp71 : ∀ k, (Value.slice (some ⟨wl50.heap.size, 0, none⟩) 1 1).ownBlock = some k → ¬ (Value.slice v67pa v67pn v67pc).ownBlock = some k := app_nr at_67 (apart_symm sp59) O56
              have X72 : Ext w w67 := Ext.step X61 Fm67 (fun k _ hk => i50_1v1O k hk)
              refine da_op rfl (d_fieldAddr i50_S8 (fa54_1 _ _) ?_)
              have B73 : w67.heap[w5.heap.size]? = some (.cells #[(Value.slice v40pa v40pn v40pc), (Value.slice i50_1v1a i50_1v1n i50_1v1c)] 54 (0, 0)) := Fm67.heap i50_A2 B66
              refine da_op rfl (d_store (vs := #[(Value.slice v67pa v67pn v67pc)]) rfl rfl B73 size48 (Nat.le_of_ble_eq_true rfl) rfl fun w74 S74 => ?_)
              have X75 : Ext w w74 := Ext.step X72 S74.frmb (fun k _ hk => hk ▸ own14)
              have B76 : w74.heap[w5.heap.size]? = some (.cells #[(Value.slice v40pa v40pn v40pc), (Value.slice v67pa v67pn v67pc)] 54 (0, 0)) := S74.here
              refine da_nil ?_
              refine W_region rfl ?_
              refine da_op rfl (d_mv (v := .int .i64 s50.1) i50_S10 ?_)
              refine da_op rfl (d_iarith rfl rfl (.inl ⟨rfl, rfl⟩) ?_)
              refine da_op rfl (d_as (v := .int .i64 (IntKind.i64.wrap (s50.1 + 1))) rfl ?_)
              refine da_nil ?_
              have B77 : OS w74 22 encF_f32 (Value.slice v67pa v67pn v67pc) m62 := O67.frm S74.frmb (rb sp70)
              have B78 : w74.heap[w.heap.size]? = some (.cells #[.slice none 0 0, .slice none 0 0] 54 (0, 0)) := S74.frmb.heap sp15 (Fm67.heap i50_A0 B64)
              have B79 : OS w74 109 encSClock (Value.slice v40pa v40pn v40pc) m35 := (B65.frm Fm67 i50_A1).frm S74.frmb (rb sp43)
              obtain rfl := Option.some.inj hr
              exact ⟨_, rfl, ⟨v67pa, v67pn, v67pc, rfl, i50_S0, i50_S1, i50_S2, i50_S6, i50_S8, i50_S9, B77, own67, B76, B78, B79, sp68, sp69, sp70, X75⟩⟩
            · skip
              replace hr := bif_f hr hc55
              refine W_skip ?_
              refine W_region rfl ?_
              refine da_op rfl (d_fieldAddr i50_S8 (fa54_1 _ _) ?_)
              refine da_op rfl (d_load (v := (Value.slice i50_1v1a i50_1v1n i50_1v1c)) rfl agg48 i50_1B rfl ?_)
              refine da_op rfl (d_mv (v := .float .f32 p2r) rfl ?_)
              refine da_op rfl (d_bslice (vs := [(0, .float .f32 p2r)]) (cs := #[.float .f32 p2r]) un48 (pc rfl rfl) (by kernel_rfl) fun w80 B80 E80 => ?_)
              have fr80 : ∀ k, (Value.slice (some ⟨wl50.heap.size, 0, none⟩) 1 1).ownBlock = some k → wl50.heap.size ≤ k := fun k hk => by cases hk; exact Nat.le_refl _
              have own80 : ∀ k, (Value.slice (some ⟨wl50.heap.size, 0, none⟩) 1 1).ownBlock = some k → w.heap.size ≤ k := fun k hk => Nat.le_trans i50_X.size (fr80 k hk)
              have sp81 : ¬ (Value.slice (some ⟨wl50.heap.size, 0, none⟩) 1 1).ownBlock = some w.heap.size := ne_fresh fr80 (lt_heap i50_K0)
              have sp82 : ∀ k, (Value.slice v40pa v40pn v40pc).ownBlock = some k → ¬ (Value.slice (some ⟨wl50.heap.size, 0, none⟩) 1 1).ownBlock = some k := apart_fresh i50_K1 fr80
              have sp83 : ∀ k, (Value.slice i50_1v1a i50_1v1n i50_1v1c).ownBlock = some k → ¬ (Value.slice (some ⟨wl50.heap.size, 0, none⟩) 1 1).ownBlock = some k := apart_fresh i50_1v1R fr80
              have sp84 : ¬ (Value.slice (some ⟨wl50.heap.size, 0, none⟩) 1 1).ownBlock = some w5.heap.size := ne_fresh fr80 (lt_heap i50_1B)
              have X85 : Ext w w80 := i50_X.trans E80
              have O80 : OS w80 22 encF_f32 (Value.slice (some ⟨wl50.heap.size, 0, none⟩) 1 1) [p2] := OS.box (xs := [p2]) B80 (lc_f p2h rfl) (Nat.le_of_ble_eq_true rfl)
              obtain ⟨m86, hm86, hr⟩ := bind_out hr
              have B87 : OS w80 22 encF_f32 (Value.slice i50_1v1a i50_1v1n i50_1v1c) s50.2.links := i50_1v1R.ext E80
              have B88 : w80.heap[w.heap.size]? = some (.cells #[.slice none 0 0, .slice none 0 0] 54 (0, 0)) := E80.heap i50_K0
              have B89 : OS w80 109 encSClock (Value.slice v40pa v40pn v40pc) m35 := i50_K1.ext E80
              have B90 : w80.heap[w5.heap.size]? = some (.cells #[(Value.slice v40pa v40pn v40pc), (Value.slice i50_1v1a i50_1v1n i50_1v1c)] 54 (0, 0)) := E80.heap i50_1B
              refine da_op rfl (d_append (e := encF_f32) (v := (Value.slice i50_1v1a i50_1v1n i50_1v1c)) (y := (Value.slice (some ⟨wl50.heap.size, 0, none⟩) 1 1)) un48 info22 rfl (by kernel_rfl) (by kernel_rfl) (by decide) (by decide) rfl rfl B87 O80.rs hm86 fun v91 w91 O91 Fm91 at_91 nl91 => ?_)
              obtain ⟨v91pa, v91pn, v91pc, rfl⟩ := O91.vals
              have own91 : ∀ k, (Value.slice v91pa v91pn v91pc).ownBlock = some k → w.heap.size ≤ k := app_own (w := w80) at_91 i50_1v1O X85.size
              have sp92 : ¬ (Value.slice v91pa v91pn v91pc).ownBlock = some w.heap.size := app_nb at_91 i50_A0 (lt_heap B88)
              have sp93 : ∀ k, (Value.slice v40pa v40pn v40pc).ownBlock = some k → ¬ (Value.slice v91pa v91pn v91pc).ownBlock = some k := app_nr at_91 i50_A1 B89
              have sp94 : ¬ (Value.slice v91pa v91pn v91pc).ownBlock = some w5.heap.size := app_nb at_91 i50_A2 (lt_heap B90)
              have sp95 : ∀ k, (Value.slice (some ⟨wl50.heap.size, 0, none⟩) 1 1).ownBlock = some k → ¬ (Value.slice v91pa v91pn v91pc).ownBlock = some k := app_nr at_91 (apart_symm sp83) O80
              have X96 : Ext w w91 := Ext.step X85 Fm91 (fun k _ hk => i50_1v1O k hk)
              refine da_op rfl (d_fieldAddr i50_S8 (fa54_1 _ _) ?_)
              have B97 : w91.heap[w5.heap.size]? = some (.cells #[(Value.slice v40pa v40pn v40pc), (Value.slice i50_1v1a i50_1v1n i50_1v1c)] 54 (0, 0)) := Fm91.heap i50_A2 B90
              refine da_op rfl (d_store (vs := #[(Value.slice v91pa v91pn v91pc)]) rfl rfl B97 size48 (Nat.le_of_ble_eq_true rfl) rfl fun w98 S98 => ?_)
              have X99 : Ext w w98 := Ext.step X96 S98.frmb (fun k _ hk => hk ▸ own14)
              have B100 : w98.heap[w5.heap.size]? = some (.cells #[(Value.slice v40pa v40pn v40pc), (Value.slice v91pa v91pn v91pc)] 54 (0, 0)) := S98.here
              refine da_nil ?_
              refine W_region rfl ?_
              refine da_op rfl (d_mv (v := .int .i64 s50.1) i50_S10 ?_)
              refine da_op rfl (d_iarith rfl rfl (.inl ⟨rfl, rfl⟩) ?_)
              refine da_op rfl (d_as (v := .int .i64 (IntKind.i64.wrap (s50.1 + 1))) rfl ?_)
              refine da_nil ?_
              have B101 : OS w98 22 encF_f32 (Value.slice v91pa v91pn v91pc) m86 := O91.frm S98.frmb (rb sp94)
              have B102 : w98.heap[w.heap.size]? = some (.cells #[.slice none 0 0, .slice none 0 0] 54 (0, 0)) := S98.frmb.heap sp15 (Fm91.heap i50_A0 B88)
              have B103 : OS w98 109 encSClock (Value.slice v40pa v40pn v40pc) m35 := (B89.frm Fm91 i50_A1).frm S98.frmb (rb sp43)
              obtain rfl := Option.some.inj hr
              exact ⟨_, rfl, ⟨v91pa, v91pn, v91pc, rfl, i50_S0, i50_S1, i50_S2, i50_S6, i50_S8, i50_S9, B101, own91, B100, B102, B103, sp92, sp93, sp94, X99⟩⟩
          · skip
            replace hr := bif_f hr hc54
            refine W_exit ?_
            obtain rfl := Option.some.inj hr
            exact ⟨_, rfl, rfl, i50_1v1a, i50_1v1n, i50_1v1c, i50_S0, i50_S1, i50_S2, i50_S6, i50_S8, i50_S9, i50_1v1R, i50_1v1O, i50_1B, i50_K0, i50_K1, i50_A0, i50_A1, i50_A2, i50_X⟩
        · skip
          intro ex σx50 wx50 hq
          obtain ⟨rfl, q50_0_0v1a, q50_0_0v1n, q50_0_0v1c, q50_0_S0, q50_0_S1, q50_0_S2, q50_0_S6, q50_0_S8, q50_0_S9, q50_0_0v1R, q50_0_0v1O, q50_0_0B, q50_0_K0, q50_0_K1, q50_0_A0, q50_0_A1, q50_0_A2, q50_0_X⟩ := hq
          refine W_region rfl ?_
          refine da_op rfl (d_mv (v := .int .i64 s20.1) q50_0_S9 ?_)
          refine da_op rfl (d_iarith rfl rfl (.inl ⟨rfl, rfl⟩) ?_)
          refine da_op rfl (d_as (v := .int .i64 (IntKind.i64.wrap (s20.1 + 1))) rfl ?_)
          refine da_nil ?_
          obtain rfl := Option.some.inj hr
          exact ⟨_, rfl, ⟨v40pa, v40pn, v40pc, q50_0_0v1a, q50_0_0v1n, q50_0_0v1c, rfl, q50_0_S0, q50_0_S1, q50_0_S2, q50_0_S6, q50_0_S8, q50_0_K1, own40, q50_0_0v1R, q50_0_0v1O, q50_0_0B, q50_0_K0, sp41, sp43, q50_0_A0, q50_0_A2, q50_0_A1, q50_0_X⟩⟩
      · skip
        replace hr := bif_f hr hc22
        refine W_exit ?_
        obtain rfl := Option.some.inj hr
        exact ⟨_, rfl, rfl, i20_1v0a, i20_1v0n, i20_1v0c, i20_1v1a, i20_1v1n, i20_1v1c, i20_S6, i20_S8, i20_1v0R, i20_1v0O, i20_1v1R, i20_1v1O, i20_1B, i20_K0, i20_A0, i20_A1, i20_A2, i20_A3, i20_A4, i20_X⟩
    · skip
      intro ex σx20 wx20 hq
      obtain ⟨rfl, q20_0_0v0a, q20_0_0v0n, q20_0_0v0c, q20_0_0v1a, q20_0_0v1n, q20_0_0v1c, q20_0_S6, q20_0_S8, q20_0_0v0R, q20_0_0v0O, q20_0_0v1R, q20_0_0v1O, q20_0_0B, q20_0_K0, q20_0_A0, q20_0_A1, q20_0_A2, q20_0_A3, q20_0_A4, q20_0_X⟩ := hq
      refine W_seq ?_
      refine W_region rfl ?_
      refine da_op rfl (d_loads (vs := #[(Value.slice q20_0_0v0a q20_0_0v0n q20_0_0v0c), (Value.slice q20_0_0v1a q20_0_0v1n q20_0_0v1c)]) q20_0_S8 agg54 size54 q20_0_0B rfl ?_)
      obtain ⟨m104, hm104, hr⟩ := bind_out hr
      refine da_op rfl (d_cl (vs := [.agg #[(Value.slice q20_0_0v0a q20_0_0v0n q20_0_0v0c), (Value.slice q20_0_0v1a q20_0_0v1n q20_0_0v1c)]]) en69 (ac rfl rfl) rfl ?_)
      refine (c69 (⟨m20.list, m20.links⟩ : SClocks) q20_0_0v0a q20_0_0v0n q20_0_0v0c q20_0_0v1a q20_0_0v1n q20_0_0v1c m104 wx20 hm104 q20_0_0v0R.rs q20_0_0v1R.rs).mono ?_
      rintro _ w105 ⟨q105_0v0a, q105_0v0n, q105_0v0c, q105_0v1a, q105_0v1n, q105_0v1c, rfl, q105_0v0H, q105_0v1H, E105⟩
      refine ⟨_, rfl, ?_⟩
      have X106 : Ext w w105 := q20_0_X.trans E105
      have B108 : OS w105 109 encSClock (Value.slice q20_0_0v0a q20_0_0v0n q20_0_0v0c) m20.list := q20_0_0v0R.ext E105
      have O107 : OS w105 109 encSClock (Value.slice q105_0v0a q105_0v0n q105_0v0c) m104.1.list := Hand.os q105_0v0H B108
      have B110 : OS w105 22 encF_f32 (Value.slice q20_0_0v1a q20_0_0v1n q20_0_0v1c) m20.links := q20_0_0v1R.ext E105
      have O109 : OS w105 22 encF_f32 (Value.slice q105_0v1a q105_0v1n q105_0v1c) m104.1.links := Hand.os q105_0v1H B110
      refine da_op rfl (d_extract (v := .agg #[(Value.slice q105_0v0a q105_0v0n q105_0v0c), (Value.slice q105_0v1a q105_0v1n q105_0v1c)]) rfl rfl ?_)
      refine da_op rfl (d_extract (v := .bool m104.2) rfl rfl ?_)
      have B111 : w105.heap[w.heap.size]? = some (.cells #[.slice none 0 0, .slice none 0 0] 54 (0, 0)) := E105.heap q20_0_K0
      refine da_op rfl (d_store (vs := #[(Value.slice q105_0v0a q105_0v0n q105_0v0c), (Value.slice q105_0v1a q105_0v1n q105_0v1c)]) q20_0_S6 rfl B111 size54 (Nat.le_of_ble_eq_true rfl) rfl fun w112 S112 => ?_)
      have X113 : Ext w w112 := Ext.step X106 S112.frmb (fun k _ hk => hk ▸ own2)
      have B114 : w112.heap[w.heap.size]? = some (.cells #[(Value.slice q105_0v0a q105_0v0n q105_0v0c), (Value.slice q105_0v1a q105_0v1n q105_0v1c)] 54 (0, 0)) := S112.here
      refine da_op rfl (d_as (v := .bool m104.2) rfl ?_)
      refine da_nil ?_
      refine W_ret ?_
      have B115 : OS w112 109 encSClock (Value.slice q105_0v0a q105_0v0n q105_0v0c) m104.1.list := O107.frm S112.frmb (rb (Hand.nb q105_0v0H q20_0_A0))
      have B116 : OS w112 22 encF_f32 (Value.slice q105_0v1a q105_0v1n q105_0v1c) m104.1.links := O109.frm S112.frmb (rb (Hand.nb q105_0v1H q20_0_A2))
      obtain rfl := Option.some.inj hr
      refine ⟨_, res2 (rv_cells (vs := #[(Value.slice q105_0v0a q105_0v0n q105_0v0c), (Value.slice q105_0v1a q105_0v1n q105_0v1c)]) q20_0_S6 agg54 size54 B114 rfl) (rv_tmp rfl), ?_⟩
      exact ⟨q105_0v0a, q105_0v0n, q105_0v0c, q105_0v1a, q105_0v1n, q105_0v1c, rfl, B115, (Hand.own q105_0v0H q20_0_0v0O), B116, (Hand.own q105_0v1H q20_0_0v1O), (Hand.nr q105_0v0H (Hand.nr2 q105_0v1H q20_0_A4)), X113⟩
set_option maxHeartbeats 4000000 in
theorem c16  (r : SDesk) (w : World) (hr : M.spec_NewDesk = some r)  :
    Calls Try.prog 16 #[] w fun e w' => ∃ q0r0 : Nat, ∃ q0r1 : Nat, ∃ q0r2 : Nat, ∃ q0r3 : Nat, ∃ q0r4 : Nat, ∃ q0r5 : Nat, ∃ q0r6 : Nat, ∃ q0r7 : Nat, ∃ q0v8a : Option Addr, ∃ q0v8n : Nat, ∃ q0v8c : Nat, ∃ q0v9a : Option Addr, ∃ q0v9n : Nat, ∃ q0v9c : Nat, ∃ q0v10a : Option Addr, ∃ q0v10n : Nat, ∃ q0v10c : Nat, ∃ q0v11a : Option Addr, ∃ q0v11n : Nat, ∃ q0v11c : Nat, ∃ q0r12 : Nat, ∃ q0r13 : Nat, ∃ q0r14 : Nat, ∃ q0r15 : Nat, ∃ q0r16 : Nat, ∃ q0r17 : Nat, ∃ q0r18 : Nat, ∃ q0r19 : Nat, ∃ q0r20 : Nat, ∃ q0r21 : Nat, ∃ q0v22a : Option Addr, ∃ q0v22n : Nat, ∃ q0v22c : Nat, ∃ q0v23a : Option Addr, ∃ q0v23n : Nat, ∃ q0v23c : Nat, e = .returned (.agg #[.float .f32 q0r0, .float .f32 q0r1, .float .f32 q0r2, .float .f32 q0r3, .float .f32 q0r4, .float .f32 q0r5, .float .f32 q0r6, .float .f32 q0r7, (Value.slice q0v8a q0v8n q0v8c), (Value.slice q0v9a q0v9n q0v9c), (Value.slice q0v10a q0v10n q0v10c), (Value.slice q0v11a q0v11n q0v11c), .float .f32 q0r12, .float .f32 q0r13, .float .f32 q0r14, .float .f32 q0r15, .float .f32 q0r16, .float .f32 q0r17, .float .f32 q0r18, .float .f32 q0r19, .float .f32 q0r20, .float .f32 q0r21, (Value.slice q0v22a q0v22n q0v22c), (Value.slice q0v23a q0v23n q0v23c)]) ∧ cn .f32 q0r0 = r.pendulum.long ∧ cn .f32 q0r1 = r.pendulum.pull ∧ cn .f32 q0r2 = r.pendulum.drag ∧ cn .f32 q0r3 = r.pendulum.drive ∧ cn .f32 q0r4 = r.pendulum.rate ∧ cn .f32 q0r5 = r.swing.turn ∧ cn .f32 q0r6 = r.swing.speed ∧ cn .f32 q0r7 = r.swing.time ∧ OS w' 29 encSVector (Value.slice q0v8a q0v8n q0v8c) r.chain.places ∧ (∀ k, (Value.slice q0v8a q0v8n q0v8c).ownBlock = some k → w.heap.size ≤ k) ∧ OS w' 29 encSVector (Value.slice q0v9a q0v9n q0v9c) r.chain.before ∧ (∀ k, (Value.slice q0v9a q0v9n q0v9c).ownBlock = some k → w.heap.size ≤ k) ∧ OS w' 22 encF_f32 (Value.slice q0v10a q0v10n q0v10c) r.chain.weights ∧ (∀ k, (Value.slice q0v10a q0v10n q0v10c).ownBlock = some k → w.heap.size ≤ k) ∧ OS w' 104 encSRod (Value.slice q0v11a q0v11n q0v11c) r.chain.rods ∧ (∀ k, (Value.slice q0v11a q0v11n q0v11c).ownBlock = some k → w.heap.size ≤ k) ∧ cn .f32 q0r12 = r.top.moments.x ∧ cn .f32 q0r13 = r.top.moments.y ∧ cn .f32 q0r14 = r.top.moments.z ∧ cn .f32 q0r15 = r.top.turn.w ∧ cn .f32 q0r16 = r.top.turn.x ∧ cn .f32 q0r17 = r.top.turn.y ∧ cn .f32 q0r18 = r.top.turn.z ∧ cn .f32 q0r19 = r.top.speed.x ∧ cn .f32 q0r20 = r.top.speed.y ∧ cn .f32 q0r21 = r.top.speed.z ∧ OS w' 109 encSClock (Value.slice q0v22a q0v22n q0v22c) r.clocks.list ∧ (∀ k, (Value.slice q0v22a q0v22n q0v22c).ownBlock = some k → w.heap.size ≤ k) ∧ OS w' 22 encF_f32 (Value.slice q0v23a q0v23n q0v23c) r.clocks.links ∧ (∀ k, (Value.slice q0v23a q0v23n q0v23c).ownBlock = some k → w.heap.size ≤ k) ∧ (∀ k, (Value.slice q0v8a q0v8n q0v8c).ownBlock = some k → ¬ (Value.slice q0v9a q0v9n q0v9c).ownBlock = some k) ∧ (∀ k, (Value.slice q0v8a q0v8n q0v8c).ownBlock = some k → ¬ (Value.slice q0v10a q0v10n q0v10c).ownBlock = some k) ∧ (∀ k, (Value.slice q0v9a q0v9n q0v9c).ownBlock = some k → ¬ (Value.slice q0v10a q0v10n q0v10c).ownBlock = some k) ∧ (∀ k, (Value.slice q0v8a q0v8n q0v8c).ownBlock = some k → ¬ (Value.slice q0v11a q0v11n q0v11c).ownBlock = some k) ∧ (∀ k, (Value.slice q0v9a q0v9n q0v9c).ownBlock = some k → ¬ (Value.slice q0v11a q0v11n q0v11c).ownBlock = some k) ∧ (∀ k, (Value.slice q0v10a q0v10n q0v10c).ownBlock = some k → ¬ (Value.slice q0v11a q0v11n q0v11c).ownBlock = some k) ∧ (∀ k, (Value.slice q0v8a q0v8n q0v8c).ownBlock = some k → ¬ (Value.slice q0v22a q0v22n q0v22c).ownBlock = some k) ∧ (∀ k, (Value.slice q0v9a q0v9n q0v9c).ownBlock = some k → ¬ (Value.slice q0v22a q0v22n q0v22c).ownBlock = some k) ∧ (∀ k, (Value.slice q0v10a q0v10n q0v10c).ownBlock = some k → ¬ (Value.slice q0v22a q0v22n q0v22c).ownBlock = some k) ∧ (∀ k, (Value.slice q0v11a q0v11n q0v11c).ownBlock = some k → ¬ (Value.slice q0v22a q0v22n q0v22c).ownBlock = some k) ∧ (∀ k, (Value.slice q0v8a q0v8n q0v8c).ownBlock = some k → ¬ (Value.slice q0v23a q0v23n q0v23c).ownBlock = some k) ∧ (∀ k, (Value.slice q0v9a q0v9n q0v9c).ownBlock = some k → ¬ (Value.slice q0v23a q0v23n q0v23c).ownBlock = some k) ∧ (∀ k, (Value.slice q0v10a q0v10n q0v10c).ownBlock = some k → ¬ (Value.slice q0v23a q0v23n q0v23c).ownBlock = some k) ∧ (∀ k, (Value.slice q0v11a q0v11n q0v11c).ownBlock = some k → ¬ (Value.slice q0v23a q0v23n q0v23c).ownBlock = some k) ∧ (∀ k, (Value.slice q0v22a q0v22n q0v22c).ownBlock = some k → ¬ (Value.slice q0v23a q0v23n q0v23c).ownBlock = some k) ∧ Ext w w' := by
  refine calls_of_W Try.func16 rfl (Nat.le_of_ble_eq_true rfl) ?_
  refine W_seq ?_
  refine W_region rfl ?_
  refine da_op rfl (d_alloc (cs := #[.float .f32 0, .float .f32 0, .float .f32 0, .float .f32 0, .float .f32 0, .float .f32 0, .float .f32 0, .float .f32 0, .slice none 0 0, .slice none 0 0, .slice none 0 0, .slice none 0 0, .float .f32 0, .float .f32 0, .float .f32 0, .float .f32 0, .float .f32 0, .float .f32 0, .float .f32 0, .float .f32 0, .float .f32 0, .float .f32 0, .slice none 0 0, .slice none 0 0]) zero56 rfl fun w1 B1 E1 => ?_)
  have own2 : w.heap.size ≤ w.heap.size := Nat.le_trans (Ext.refl w).size (Nat.le_refl _)
  have X3 : Ext w w1 := (Ext.refl w).trans E1
  refine da_nil ?_
  refine W_seq ?_
  refine W_region rfl ?_
  refine da_op rfl (d_bd (vs := [(0, .float .f32 1065353216), (1, .float .f32 1065353216)]) (cs := #[.float .f32 1065353216, .float .f32 1065353216, .float .f32 0, .float .f32 0, .float .f32 0]) (pc rfl (pc rfl rfl)) (by kernel_rfl) ?_)
  refine da_op rfl (d_bd (vs := [(0, .agg #[.float .f32 1065353216, .float .f32 1065353216, .float .f32 0, .float .f32 0, .float .f32 0])]) (cs := #[.float .f32 1065353216, .float .f32 1065353216, .float .f32 0, .float .f32 0, .float .f32 0, .float .f32 0, .float .f32 0, .float .f32 0, .slice none 0 0, .slice none 0 0, .slice none 0 0, .slice none 0 0, .float .f32 0, .float .f32 0, .float .f32 0, .float .f32 0, .float .f32 0, .float .f32 0, .float .f32 0, .float .f32 0, .float .f32 0, .float .f32 0, .slice none 0 0, .slice none 0 0]) (pc rfl rfl) (by kernel_rfl) ?_)
  refine da_op rfl (d_alloc (cs := #[.float .f32 0, .float .f32 0, .float .f32 0, .float .f32 0, .float .f32 0, .float .f32 0, .float .f32 0, .float .f32 0, .slice none 0 0, .slice none 0 0, .slice none 0 0, .slice none 0 0, .float .f32 0, .float .f32 0, .float .f32 0, .float .f32 0, .float .f32 0, .float .f32 0, .float .f32 0, .float .f32 0, .float .f32 0, .float .f32 0, .slice none 0 0, .slice none 0 0]) zero56 rfl fun w4 B4 E4 => ?_)
  have own5 : w.heap.size ≤ w1.heap.size := Nat.le_trans X3.size (Nat.le_refl _)
  have sp6 : w.heap.size ≠ w1.heap.size := Nat.ne_of_lt (Nat.lt_of_lt_of_le (lt_heap B1) (Nat.le_refl _))
  have X7 : Ext w w4 := X3.trans E4
  refine da_op rfl (d_store (vs := #[.float .f32 1065353216, .float .f32 1065353216, .float .f32 0, .float .f32 0, .float .f32 0, .float .f32 0, .float .f32 0, .float .f32 0, .slice none 0 0, .slice none 0 0, .slice none 0 0, .slice none 0 0, .float .f32 0, .float .f32 0, .float .f32 0, .float .f32 0, .float .f32 0, .float .f32 0, .float .f32 0, .float .f32 0, .float .f32 0, .float .f32 0, .slice none 0 0, .slice none 0 0]) rfl rfl B4 size56 (Nat.le_of_ble_eq_true rfl) rfl fun w8 S8 => ?_)
  have X9 : Ext w w8 := Ext.step X7 S8.frmb (fun k _ hk => hk ▸ own5)
  have B10 : w8.heap[w1.heap.size]? = some (.cells #[.float .f32 1065353216, .float .f32 1065353216, .float .f32 0, .float .f32 0, .float .f32 0, .float .f32 0, .float .f32 0, .float .f32 0, .slice none 0 0, .slice none 0 0, .slice none 0 0, .slice none 0 0, .float .f32 0, .float .f32 0, .float .f32 0, .float .f32 0, .float .f32 0, .float .f32 0, .float .f32 0, .float .f32 0, .float .f32 0, .float .f32 0, .slice none 0 0, .slice none 0 0] 56 (0, 0)) := S8.here
  refine da_nil ?_
  refine W_seq ?_
  refine W_region rfl ?_
  obtain ⟨m11, hm11, hr⟩ := bind_out hr
  have B12 : w8.heap[w.heap.size]? = some (.cells #[.float .f32 0, .float .f32 0, .float .f32 0, .float .f32 0, .float .f32 0, .float .f32 0, .float .f32 0, .float .f32 0, .slice none 0 0, .slice none 0 0, .slice none 0 0, .slice none 0 0, .float .f32 0, .float .f32 0, .float .f32 0, .float .f32 0, .float .f32 0, .float .f32 0, .float .f32 0, .float .f32 0, .float .f32 0, .float .f32 0, .slice none 0 0, .slice none 0 0] 56 (0, 0)) := S8.frmb.heap sp6 (E4.heap B1)
  refine da_op rfl (d_cl (vs := [.int .i64 3, .float .f32 1065353216, .float .f32 1065353216]) en35 (ac rfl (ac rfl (ac rfl rfl))) rfl ?_)
  refine (c35 3 1065353216 1065353216 1065353216 1065353216 m11 w8 hm11 cn_f32_1065353216 cn_f32_1065353216).mono ?_
  rintro _ w13 ⟨q13_0v0a, q13_0v0n, q13_0v0c, q13_0v1a, q13_0v1n, q13_0v1c, q13_0v2a, q13_0v2n, q13_0v2c, q13_0v3a, q13_0v3n, q13_0v3c, rfl, q13_0v0R, q13_0v0F, q13_0v1R, q13_0v1F, q13_0v2R, q13_0v2F, q13_0v3R, q13_0v3F, q13_A1_0, q13_A2_0, q13_A2_1, q13_A3_0, q13_A3_1, q13_A3_2, E13⟩
  refine ⟨_, rfl, ?_⟩
  have own14 : ∀ k, (Value.slice q13_0v0a q13_0v0n q13_0v0c).ownBlock = some k → w.heap.size ≤ k := fun k hk => Nat.le_trans X9.size (q13_0v0F k hk)
  have sp15 : ¬ (Value.slice q13_0v0a q13_0v0n q13_0v0c).ownBlock = some w.heap.size := ne_fresh q13_0v0F (lt_heap B12)
  have sp16 : ¬ (Value.slice q13_0v0a q13_0v0n q13_0v0c).ownBlock = some w1.heap.size := ne_fresh q13_0v0F (lt_heap B10)
  have own17 : ∀ k, (Value.slice q13_0v1a q13_0v1n q13_0v1c).ownBlock = some k → w.heap.size ≤ k := fun k hk => Nat.le_trans X9.size (q13_0v1F k hk)
  have sp18 : ¬ (Value.slice q13_0v1a q13_0v1n q13_0v1c).ownBlock = some w.heap.size := ne_fresh q13_0v1F (lt_heap B12)
  have sp19 : ¬ (Value.slice q13_0v1a q13_0v1n q13_0v1c).ownBlock = some w1.heap.size := ne_fresh q13_0v1F (lt_heap B10)
  have own20 : ∀ k, (Value.slice q13_0v2a q13_0v2n q13_0v2c).ownBlock = some k → w.heap.size ≤ k := fun k hk => Nat.le_trans X9.size (q13_0v2F k hk)
  have sp21 : ¬ (Value.slice q13_0v2a q13_0v2n q13_0v2c).ownBlock = some w.heap.size := ne_fresh q13_0v2F (lt_heap B12)
  have sp22 : ¬ (Value.slice q13_0v2a q13_0v2n q13_0v2c).ownBlock = some w1.heap.size := ne_fresh q13_0v2F (lt_heap B10)
  have own23 : ∀ k, (Value.slice q13_0v3a q13_0v3n q13_0v3c).ownBlock = some k → w.heap.size ≤ k := fun k hk => Nat.le_trans X9.size (q13_0v3F k hk)
  have sp24 : ¬ (Value.slice q13_0v3a q13_0v3n q13_0v3c).ownBlock = some w.heap.size := ne_fresh q13_0v3F (lt_heap B12)
  have sp25 : ¬ (Value.slice q13_0v3a q13_0v3n q13_0v3c).ownBlock = some w1.heap.size := ne_fresh q13_0v3F (lt_heap B10)
  have X26 : Ext w w13 := X9.trans E13
  refine da_op rfl (d_mv (v := .tuple #[.agg #[(Value.slice q13_0v0a q13_0v0n q13_0v0c), (Value.slice q13_0v1a q13_0v1n q13_0v1c), (Value.slice q13_0v2a q13_0v2n q13_0v2c), (Value.slice q13_0v3a q13_0v3n q13_0v3c)], .bool m11.2]) rfl ?_)
  refine da_op rfl (d_extract (v := .agg #[(Value.slice q13_0v0a q13_0v0n q13_0v0c), (Value.slice q13_0v1a q13_0v1n q13_0v1c), (Value.slice q13_0v2a q13_0v2n q13_0v2c), (Value.slice q13_0v3a q13_0v3n q13_0v3c)]) rfl rfl ?_)
  refine da_op rfl (d_extract (v := .bool m11.2) rfl rfl ?_)
  have B28 : w13.heap[w.heap.size]? = some (.cells #[.float .f32 0, .float .f32 0, .float .f32 0, .float .f32 0, .float .f32 0, .float .f32 0, .float .f32 0, .float .f32 0, .slice none 0 0, .slice none 0 0, .slice none 0 0, .slice none 0 0, .float .f32 0, .float .f32 0, .float .f32 0, .float .f32 0, .float .f32 0, .float .f32 0, .float .f32 0, .float .f32 0, .float .f32 0, .float .f32 0, .slice none 0 0, .slice none 0 0] 56 (0, 0)) := E13.heap B12
  have B29 : w13.heap[w1.heap.size]? = some (.cells #[.float .f32 1065353216, .float .f32 1065353216, .float .f32 0, .float .f32 0, .float .f32 0, .float .f32 0, .float .f32 0, .float .f32 0, .slice none 0 0, .slice none 0 0, .slice none 0 0, .slice none 0 0, .float .f32 0, .float .f32 0, .float .f32 0, .float .f32 0, .float .f32 0, .float .f32 0, .float .f32 0, .float .f32 0, .float .f32 0, .float .f32 0, .slice none 0 0, .slice none 0 0] 56 (0, 0)) := E13.heap B10
  refine da_op rfl (d_alloc (cs := #[.slice none 0 0, .slice none 0 0, .slice none 0 0, .slice none 0 0]) zero51 rfl fun w27 B27 E27 => ?_)
  have own30 : w.heap.size ≤ w13.heap.size := Nat.le_trans X26.size (Nat.le_refl _)
  have sp31 : w.heap.size ≠ w13.heap.size := Nat.ne_of_lt (Nat.lt_of_lt_of_le (lt_heap B28) (Nat.le_refl _))
  have sp32 : w1.heap.size ≠ w13.heap.size := Nat.ne_of_lt (Nat.lt_of_lt_of_le (lt_heap B29) (Nat.le_refl _))
  have sp33 : ¬ (Value.slice q13_0v0a q13_0v0n q13_0v0c).ownBlock = some w13.heap.size := OS.ne_new q13_0v0R (Nat.le_refl _)
  have sp34 : ¬ (Value.slice q13_0v1a q13_0v1n q13_0v1c).ownBlock = some w13.heap.size := OS.ne_new q13_0v1R (Nat.le_refl _)
  have sp35 : ¬ (Value.slice q13_0v2a q13_0v2n q13_0v2c).ownBlock = some w13.heap.size := OS.ne_new q13_0v2R (Nat.le_refl _)
  have sp36 : ¬ (Value.slice q13_0v3a q13_0v3n q13_0v3c).ownBlock = some w13.heap.size := OS.ne_new q13_0v3R (Nat.le_refl _)
  have X37 : Ext w w27 := X26.trans E27
  refine da_op rfl (d_store (vs := #[(Value.slice q13_0v0a q13_0v0n q13_0v0c), (Value.slice q13_0v1a q13_0v1n q13_0v1c), (Value.slice q13_0v2a q13_0v2n q13_0v2c), (Value.slice q13_0v3a q13_0v3n q13_0v3c)]) rfl rfl B27 size51 (Nat.le_of_ble_eq_true rfl) rfl fun w38 S38 => ?_)
  have X39 : Ext w w38 := Ext.step X37 S38.frmb (fun k _ hk => hk ▸ own30)
  have B40 : w38.heap[w13.heap.size]? = some (.cells #[(Value.slice q13_0v0a q13_0v0n q13_0v0c), (Value.slice q13_0v1a q13_0v1n q13_0v1c), (Value.slice q13_0v2a q13_0v2n q13_0v2c), (Value.slice q13_0v3a q13_0v3n q13_0v3c)] 51 (0, 0)) := S38.here
  refine da_op rfl (d_as (v := .bool m11.2) rfl ?_)
  refine da_nil ?_
  refine W_seq ?_
  refine W_region rfl ?_
  obtain ⟨m41, hm41, hr⟩ := bind_out hr
  have B42 : w38.heap[w.heap.size]? = some (.cells #[.float .f32 0, .float .f32 0, .float .f32 0, .float .f32 0, .float .f32 0, .float .f32 0, .float .f32 0, .float .f32 0, .slice none 0 0, .slice none 0 0, .slice none 0 0, .slice none 0 0, .float .f32 0, .float .f32 0, .float .f32 0, .float .f32 0, .float .f32 0, .float .f32 0, .float .f32 0, .float .f32 0, .float .f32 0, .float .f32 0, .slice none 0 0, .slice none 0 0] 56 (0, 0)) := S38.frmb.heap sp31 (E27.heap B28)
  have B43 : w38.heap[w1.heap.size]? = some (.cells #[.float .f32 1065353216, .float .f32 1065353216, .float .f32 0, .float .f32 0, .float .f32 0, .float .f32 0, .float .f32 0, .float .f32 0, .slice none 0 0, .slice none 0 0, .slice none 0 0, .slice none 0 0, .float .f32 0, .float .f32 0, .float .f32 0, .float .f32 0, .float .f32 0, .float .f32 0, .float .f32 0, .float .f32 0, .float .f32 0, .float .f32 0, .slice none 0 0, .slice none 0 0] 56 (0, 0)) := S38.frmb.heap sp32 (E27.heap B29)
  have B44 : OS w38 29 encSVector (Value.slice q13_0v0a q13_0v0n q13_0v0c) m11.1.places := (q13_0v0R.ext E27).frm S38.frmb (rb sp33)
  have B45 : OS w38 29 encSVector (Value.slice q13_0v1a q13_0v1n q13_0v1c) m11.1.before := (q13_0v1R.ext E27).frm S38.frmb (rb sp34)
  have B46 : OS w38 22 encF_f32 (Value.slice q13_0v2a q13_0v2n q13_0v2c) m11.1.weights := (q13_0v2R.ext E27).frm S38.frmb (rb sp35)
  have B47 : OS w38 104 encSRod (Value.slice q13_0v3a q13_0v3n q13_0v3c) m11.1.rods := (q13_0v3R.ext E27).frm S38.frmb (rb sp36)
  refine da_op rfl (d_cl (vs := [.int .i64 2, .float .f32 1065353216, .float .f32 0]) en36 (ac rfl (ac rfl (ac rfl rfl))) rfl ?_)
  refine (c36 2 1065353216 0 1065353216 0 m41 w38 hm41 cn_f32_1065353216 cn_f32_0).mono ?_
  rintro _ w48 ⟨q48_0v0a, q48_0v0n, q48_0v0c, q48_0v1a, q48_0v1n, q48_0v1c, rfl, q48_0v0R, q48_0v0F, q48_0v1R, q48_0v1F, q48_A1_0, E48⟩
  refine ⟨_, rfl, ?_⟩
  have own49 : ∀ k, (Value.slice q48_0v0a q48_0v0n q48_0v0c).ownBlock = some k → w.heap.size ≤ k := fun k hk => Nat.le_trans X39.size (q48_0v0F k hk)
  have sp50 : ¬ (Value.slice q48_0v0a q48_0v0n q48_0v0c).ownBlock = some w.heap.size := ne_fresh q48_0v0F (lt_heap B42)
  have sp51 : ¬ (Value.slice q48_0v0a q48_0v0n q48_0v0c).ownBlock = some w1.heap.size := ne_fresh q48_0v0F (lt_heap B43)
  have sp52 : ∀ k, (Value.slice q13_0v0a q13_0v0n q13_0v0c).ownBlock = some k → ¬ (Value.slice q48_0v0a q48_0v0n q48_0v0c).ownBlock = some k := apart_fresh B44 q48_0v0F
  have sp53 : ∀ k, (Value.slice q13_0v1a q13_0v1n q13_0v1c).ownBlock = some k → ¬ (Value.slice q48_0v0a q48_0v0n q48_0v0c).ownBlock = some k := apart_fresh B45 q48_0v0F
  have sp54 : ∀ k, (Value.slice q13_0v2a q13_0v2n q13_0v2c).ownBlock = some k → ¬ (Value.slice q48_0v0a q48_0v0n q48_0v0c).ownBlock = some k := apart_fresh B46 q48_0v0F
  have sp55 : ∀ k, (Value.slice q13_0v3a q13_0v3n q13_0v3c).ownBlock = some k → ¬ (Value.slice q48_0v0a q48_0v0n q48_0v0c).ownBlock = some k := apart_fresh B47 q48_0v0F
  have sp56 : ¬ (Value.slice q48_0v0a q48_0v0n q48_0v0c).ownBlock = some w13.heap.size := ne_fresh q48_0v0F (lt_heap B40)
  have own57 : ∀ k, (Value.slice q48_0v1a q48_0v1n q48_0v1c).ownBlock = some k → w.heap.size ≤ k := fun k hk => Nat.le_trans X39.size (q48_0v1F k hk)
  have sp58 : ¬ (Value.slice q48_0v1a q48_0v1n q48_0v1c).ownBlock = some w.heap.size := ne_fresh q48_0v1F (lt_heap B42)
  have sp59 : ¬ (Value.slice q48_0v1a q48_0v1n q48_0v1c).ownBlock = some w1.heap.size := ne_fresh q48_0v1F (lt_heap B43)
  have sp60 : ∀ k, (Value.slice q13_0v0a q13_0v0n q13_0v0c).ownBlock = some k → ¬ (Value.slice q48_0v1a q48_0v1n q48_0v1c).ownBlock = some k := apart_fresh B44 q48_0v1F
  have sp61 : ∀ k, (Value.slice q13_0v1a q13_0v1n q13_0v1c).ownBlock = some k → ¬ (Value.slice q48_0v1a q48_0v1n q48_0v1c).ownBlock = some k := apart_fresh B45 q48_0v1F
  have sp62 : ∀ k, (Value.slice q13_0v2a q13_0v2n q13_0v2c).ownBlock = some k → ¬ (Value.slice q48_0v1a q48_0v1n q48_0v1c).ownBlock = some k := apart_fresh B46 q48_0v1F
  have sp63 : ∀ k, (Value.slice q13_0v3a q13_0v3n q13_0v3c).ownBlock = some k → ¬ (Value.slice q48_0v1a q48_0v1n q48_0v1c).ownBlock = some k := apart_fresh B47 q48_0v1F
  have sp64 : ¬ (Value.slice q48_0v1a q48_0v1n q48_0v1c).ownBlock = some w13.heap.size := ne_fresh q48_0v1F (lt_heap B40)
  have X65 : Ext w w48 := X39.trans E48
  refine da_op rfl (d_mv (v := .tuple #[.agg #[(Value.slice q48_0v0a q48_0v0n q48_0v0c), (Value.slice q48_0v1a q48_0v1n q48_0v1c)], .bool m41.2]) rfl ?_)
  refine da_op rfl (d_extract (v := .agg #[(Value.slice q48_0v0a q48_0v0n q48_0v0c), (Value.slice q48_0v1a q48_0v1n q48_0v1c)]) rfl rfl ?_)
  refine da_op rfl (d_extract (v := .bool m41.2) rfl rfl ?_)
  have B67 : w48.heap[w.heap.size]? = some (.cells #[.float .f32 0, .float .f32 0, .float .f32 0, .float .f32 0, .float .f32 0, .float .f32 0, .float .f32 0, .float .f32 0, .slice none 0 0, .slice none 0 0, .slice none 0 0, .slice none 0 0, .float .f32 0, .float .f32 0, .float .f32 0, .float .f32 0, .float .f32 0, .float .f32 0, .float .f32 0, .float .f32 0, .float .f32 0, .float .f32 0, .slice none 0 0, .slice none 0 0] 56 (0, 0)) := E48.heap B42
  have B68 : w48.heap[w1.heap.size]? = some (.cells #[.float .f32 1065353216, .float .f32 1065353216, .float .f32 0, .float .f32 0, .float .f32 0, .float .f32 0, .float .f32 0, .float .f32 0, .slice none 0 0, .slice none 0 0, .slice none 0 0, .slice none 0 0, .float .f32 0, .float .f32 0, .float .f32 0, .float .f32 0, .float .f32 0, .float .f32 0, .float .f32 0, .float .f32 0, .float .f32 0, .float .f32 0, .slice none 0 0, .slice none 0 0] 56 (0, 0)) := E48.heap B43
  have B69 : OS w48 29 encSVector (Value.slice q13_0v0a q13_0v0n q13_0v0c) m11.1.places := B44.ext E48
  have B70 : OS w48 29 encSVector (Value.slice q13_0v1a q13_0v1n q13_0v1c) m11.1.before := B45.ext E48
  have B71 : OS w48 22 encF_f32 (Value.slice q13_0v2a q13_0v2n q13_0v2c) m11.1.weights := B46.ext E48
  have B72 : OS w48 104 encSRod (Value.slice q13_0v3a q13_0v3n q13_0v3c) m11.1.rods := B47.ext E48
  have B73 : w48.heap[w13.heap.size]? = some (.cells #[(Value.slice q13_0v0a q13_0v0n q13_0v0c), (Value.slice q13_0v1a q13_0v1n q13_0v1c), (Value.slice q13_0v2a q13_0v2n q13_0v2c), (Value.slice q13_0v3a q13_0v3n q13_0v3c)] 51 (0, 0)) := E48.heap B40
  refine da_op rfl (d_alloc (cs := #[.slice none 0 0, .slice none 0 0]) zero54 rfl fun w66 B66 E66 => ?_)
  have own74 : w.heap.size ≤ w48.heap.size := Nat.le_trans X65.size (Nat.le_refl _)
  have sp75 : w.heap.size ≠ w48.heap.size := Nat.ne_of_lt (Nat.lt_of_lt_of_le (lt_heap B67) (Nat.le_refl _))
  have sp76 : w1.heap.size ≠ w48.heap.size := Nat.ne_of_lt (Nat.lt_of_lt_of_le (lt_heap B68) (Nat.le_refl _))
  have sp77 : ¬ (Value.slice q13_0v0a q13_0v0n q13_0v0c).ownBlock = some w48.heap.size := OS.ne_new B69 (Nat.le_refl _)
  have sp78 : ¬ (Value.slice q13_0v1a q13_0v1n q13_0v1c).ownBlock = some w48.heap.size := OS.ne_new B70 (Nat.le_refl _)
  have sp79 : ¬ (Value.slice q13_0v2a q13_0v2n q13_0v2c).ownBlock = some w48.heap.size := OS.ne_new B71 (Nat.le_refl _)
  have sp80 : ¬ (Value.slice q13_0v3a q13_0v3n q13_0v3c).ownBlock = some w48.heap.size := OS.ne_new B72 (Nat.le_refl _)
  have sp81 : w13.heap.size ≠ w48.heap.size := Nat.ne_of_lt (Nat.lt_of_lt_of_le (lt_heap B73) (Nat.le_refl _))
  have sp82 : ¬ (Value.slice q48_0v0a q48_0v0n q48_0v0c).ownBlock = some w48.heap.size := OS.ne_new q48_0v0R (Nat.le_refl _)
  have sp83 : ¬ (Value.slice q48_0v1a q48_0v1n q48_0v1c).ownBlock = some w48.heap.size := OS.ne_new q48_0v1R (Nat.le_refl _)
  have X84 : Ext w w66 := X65.trans E66
  refine da_op rfl (d_store (vs := #[(Value.slice q48_0v0a q48_0v0n q48_0v0c), (Value.slice q48_0v1a q48_0v1n q48_0v1c)]) rfl rfl B66 size54 (Nat.le_of_ble_eq_true rfl) rfl fun w85 S85 => ?_)
  have X86 : Ext w w85 := Ext.step X84 S85.frmb (fun k _ hk => hk ▸ own74)
  have B87 : w85.heap[w48.heap.size]? = some (.cells #[(Value.slice q48_0v0a q48_0v0n q48_0v0c), (Value.slice q48_0v1a q48_0v1n q48_0v1c)] 54 (0, 0)) := S85.here
  refine da_op rfl (d_as (v := .bool m41.2) rfl ?_)
  refine da_nil ?_
  refine W_seq ?_
  refine W_region rfl ?_
  have B88 : w85.heap[w13.heap.size]? = some (.cells #[(Value.slice q13_0v0a q13_0v0n q13_0v0c), (Value.slice q13_0v1a q13_0v1n q13_0v1c), (Value.slice q13_0v2a q13_0v2n q13_0v2c), (Value.slice q13_0v3a q13_0v3n q13_0v3c)] 51 (0, 0)) := S85.frmb.heap sp81 (E66.heap B73)
  refine da_op rfl (d_loads (vs := #[(Value.slice q13_0v0a q13_0v0n q13_0v0c), (Value.slice q13_0v1a q13_0v1n q13_0v1c), (Value.slice q13_0v2a q13_0v2n q13_0v2c), (Value.slice q13_0v3a q13_0v3n q13_0v3c)]) rfl agg51 size51 B88 rfl ?_)
  refine da_op rfl (d_fieldAddr rfl (fa56_2 _ _) ?_)
  have B89 : w85.heap[w1.heap.size]? = some (.cells #[.float .f32 1065353216, .float .f32 1065353216, .float .f32 0, .float .f32 0, .float .f32 0, .float .f32 0, .float .f32 0, .float .f32 0, .slice none 0 0, .slice none 0 0, .slice none 0 0, .slice none 0 0, .float .f32 0, .float .f32 0, .float .f32 0, .float .f32 0, .float .f32 0, .float .f32 0, .float .f32 0, .float .f32 0, .float .f32 0, .float .f32 0, .slice none 0 0, .slice none 0 0] 56 (0, 0)) := S85.frmb.heap sp76 (E66.heap B68)
  refine da_op rfl (d_store (vs := #[(Value.slice q13_0v0a q13_0v0n q13_0v0c), (Value.slice q13_0v1a q13_0v1n q13_0v1c), (Value.slice q13_0v2a q13_0v2n q13_0v2c), (Value.slice q13_0v3a q13_0v3n q13_0v3c)]) rfl rfl B89 size51 (Nat.le_of_ble_eq_true rfl) rfl fun w90 S90 => ?_)
  have X91 : Ext w w90 := Ext.step X86 S90.frmb (fun k _ hk => hk ▸ own5)
  have B92 : w90.heap[w1.heap.size]? = some (.cells #[.float .f32 1065353216, .float .f32 1065353216, .float .f32 0, .float .f32 0, .float .f32 0, .float .f32 0, .float .f32 0, .float .f32 0, (Value.slice q13_0v0a q13_0v0n q13_0v0c), (Value.slice q13_0v1a q13_0v1n q13_0v1c), (Value.slice q13_0v2a q13_0v2n q13_0v2c), (Value.slice q13_0v3a q13_0v3n q13_0v3c), .float .f32 0, .float .f32 0, .float .f32 0, .float .f32 0, .float .f32 0, .float .f32 0, .float .f32 0, .float .f32 0, .float .f32 0, .float .f32 0, .slice none 0 0, .slice none 0 0] 56 (0, 0)) := S90.here
  refine da_nil ?_
  refine W_seq ?_
  refine W_region rfl ?_
  refine da_op rfl (d_bd (vs := [(0, .float .f32 1065353216), (1, .float .f32 1065353216), (2, .float .f32 1065353216)]) (cs := #[.float .f32 1065353216, .float .f32 1065353216, .float .f32 1065353216]) (pc rfl (pc rfl (pc rfl rfl))) (by kernel_rfl) ?_)
  refine da_op rfl (d_bd (vs := [(0, .float .f32 1065353216)]) (cs := #[.float .f32 1065353216, .float .f32 0, .float .f32 0, .float .f32 0]) (pc rfl rfl) (by kernel_rfl) ?_)
  refine da_op rfl (d_bd (vs := [(0, .agg #[.float .f32 1065353216, .float .f32 1065353216, .float .f32 1065353216]), (1, .agg #[.float .f32 1065353216, .float .f32 0, .float .f32 0, .float .f32 0])]) (cs := #[.float .f32 1065353216, .float .f32 1065353216, .float .f32 1065353216, .float .f32 1065353216, .float .f32 0, .float .f32 0, .float .f32 0, .float .f32 0, .float .f32 0, .float .f32 0]) (pc rfl (pc rfl rfl)) (by kernel_rfl) ?_)
  refine da_op rfl (d_fieldAddr rfl (fa56_3 _ _) ?_)
  refine da_op rfl (d_store (vs := #[.float .f32 1065353216, .float .f32 1065353216, .float .f32 1065353216, .float .f32 1065353216, .float .f32 0, .float .f32 0, .float .f32 0, .float .f32 0, .float .f32 0, .float .f32 0]) rfl rfl B92 size32 (Nat.le_of_ble_eq_true rfl) rfl fun w93 S93 => ?_)
  have X94 : Ext w w93 := Ext.step X91 S93.frmb (fun k _ hk => hk ▸ own5)
  have B95 : w93.heap[w1.heap.size]? = some (.cells #[.float .f32 1065353216, .float .f32 1065353216, .float .f32 0, .float .f32 0, .float .f32 0, .float .f32 0, .float .f32 0, .float .f32 0, (Value.slice q13_0v0a q13_0v0n q13_0v0c), (Value.slice q13_0v1a q13_0v1n q13_0v1c), (Value.slice q13_0v2a q13_0v2n q13_0v2c), (Value.slice q13_0v3a q13_0v3n q13_0v3c), .float .f32 1065353216, .float .f32 1065353216, .float .f32 1065353216, .float .f32 1065353216, .float .f32 0, .float .f32 0, .float .f32 0, .float .f32 0, .float .f32 0, .float .f32 0, .slice none 0 0, .slice none 0 0] 56 (0, 0)) := S93.here
  refine da_nil ?_
  refine W_seq ?_
  refine W_region rfl ?_
  have B96 : w93.heap[w48.heap.size]? = some (.cells #[(Value.slice q48_0v0a q48_0v0n q48_0v0c), (Value.slice q48_0v1a q48_0v1n q48_0v1c)] 54 (0, 0)) := S93.frmb.heap (Ne.symm sp76) (S90.frmb.heap (Ne.symm sp76) B87)
  refine da_op rfl (d_loads (vs := #[(Value.slice q48_0v0a q48_0v0n q48_0v0c), (Value.slice q48_0v1a q48_0v1n q48_0v1c)]) rfl agg54 size54 B96 rfl ?_)
  refine da_op rfl (d_fieldAddr rfl (fa56_4 _ _) ?_)
  refine da_op rfl (d_store (vs := #[(Value.slice q48_0v0a q48_0v0n q48_0v0c), (Value.slice q48_0v1a q48_0v1n q48_0v1c)]) rfl rfl B95 size54 (Nat.le_of_ble_eq_true rfl) rfl fun w97 S97 => ?_)
  have X98 : Ext w w97 := Ext.step X94 S97.frmb (fun k _ hk => hk ▸ own5)
  have B99 : w97.heap[w1.heap.size]? = some (.cells #[.float .f32 1065353216, .float .f32 1065353216, .float .f32 0, .float .f32 0, .float .f32 0, .float .f32 0, .float .f32 0, .float .f32 0, (Value.slice q13_0v0a q13_0v0n q13_0v0c), (Value.slice q13_0v1a q13_0v1n q13_0v1c), (Value.slice q13_0v2a q13_0v2n q13_0v2c), (Value.slice q13_0v3a q13_0v3n q13_0v3c), .float .f32 1065353216, .float .f32 1065353216, .float .f32 1065353216, .float .f32 1065353216, .float .f32 0, .float .f32 0, .float .f32 0, .float .f32 0, .float .f32 0, .float .f32 0, (Value.slice q48_0v0a q48_0v0n q48_0v0c), (Value.slice q48_0v1a q48_0v1n q48_0v1c)] 56 (0, 0)) := S97.here
  refine da_nil ?_
  refine W_seq ?_
  refine W_region rfl ?_
  refine da_op rfl (d_loads (vs := #[.float .f32 1065353216, .float .f32 1065353216, .float .f32 0, .float .f32 0, .float .f32 0, .float .f32 0, .float .f32 0, .float .f32 0, (Value.slice q13_0v0a q13_0v0n q13_0v0c), (Value.slice q13_0v1a q13_0v1n q13_0v1c), (Value.slice q13_0v2a q13_0v2n q13_0v2c), (Value.slice q13_0v3a q13_0v3n q13_0v3c), .float .f32 1065353216, .float .f32 1065353216, .float .f32 1065353216, .float .f32 1065353216, .float .f32 0, .float .f32 0, .float .f32 0, .float .f32 0, .float .f32 0, .float .f32 0, (Value.slice q48_0v0a q48_0v0n q48_0v0c), (Value.slice q48_0v1a q48_0v1n q48_0v1c)]) rfl agg56 size56 B99 rfl ?_)
  have B100 : w97.heap[w.heap.size]? = some (.cells #[.float .f32 0, .float .f32 0, .float .f32 0, .float .f32 0, .float .f32 0, .float .f32 0, .float .f32 0, .float .f32 0, .slice none 0 0, .slice none 0 0, .slice none 0 0, .slice none 0 0, .float .f32 0, .float .f32 0, .float .f32 0, .float .f32 0, .float .f32 0, .float .f32 0, .float .f32 0, .float .f32 0, .float .f32 0, .float .f32 0, .slice none 0 0, .slice none 0 0] 56 (0, 0)) := S97.frmb.heap sp6 (S93.frmb.heap sp6 (S90.frmb.heap sp6 (S85.frmb.heap sp75 (E66.heap B67))))
  refine da_op rfl (d_store (vs := #[.float .f32 1065353216, .float .f32 1065353216, .float .f32 0, .float .f32 0, .float .f32 0, .float .f32 0, .float .f32 0, .float .f32 0, (Value.slice q13_0v0a q13_0v0n q13_0v0c), (Value.slice q13_0v1a q13_0v1n q13_0v1c), (Value.slice q13_0v2a q13_0v2n q13_0v2c), (Value.slice q13_0v3a q13_0v3n q13_0v3c), .float .f32 1065353216, .float .f32 1065353216, .float .f32 1065353216, .float .f32 1065353216, .float .f32 0, .float .f32 0, .float .f32 0, .float .f32 0, .float .f32 0, .float .f32 0, (Value.slice q48_0v0a q48_0v0n q48_0v0c), (Value.slice q48_0v1a q48_0v1n q48_0v1c)]) rfl rfl B100 size56 (Nat.le_of_ble_eq_true rfl) rfl fun w101 S101 => ?_)
  have X102 : Ext w w101 := Ext.step X98 S101.frmb (fun k _ hk => hk ▸ own2)
  have B103 : w101.heap[w.heap.size]? = some (.cells #[.float .f32 1065353216, .float .f32 1065353216, .float .f32 0, .float .f32 0, .float .f32 0, .float .f32 0, .float .f32 0, .float .f32 0, (Value.slice q13_0v0a q13_0v0n q13_0v0c), (Value.slice q13_0v1a q13_0v1n q13_0v1c), (Value.slice q13_0v2a q13_0v2n q13_0v2c), (Value.slice q13_0v3a q13_0v3n q13_0v3c), .float .f32 1065353216, .float .f32 1065353216, .float .f32 1065353216, .float .f32 1065353216, .float .f32 0, .float .f32 0, .float .f32 0, .float .f32 0, .float .f32 0, .float .f32 0, (Value.slice q48_0v0a q48_0v0n q48_0v0c), (Value.slice q48_0v1a q48_0v1n q48_0v1c)] 56 (0, 0)) := S101.here
  refine da_nil ?_
  refine W_ret ?_
  have B104 : OS w101 29 encSVector (Value.slice q13_0v0a q13_0v0n q13_0v0c) m11.1.places := (((((B69.ext E66).frm S85.frmb (rb sp77)).frm S90.frmb (rb sp16)).frm S93.frmb (rb sp16)).frm S97.frmb (rb sp16)).frm S101.frmb (rb sp15)
  have B105 : OS w101 29 encSVector (Value.slice q13_0v1a q13_0v1n q13_0v1c) m11.1.before := (((((B70.ext E66).frm S85.frmb (rb sp78)).frm S90.frmb (rb sp19)).frm S93.frmb (rb sp19)).frm S97.frmb (rb sp19)).frm S101.frmb (rb sp18)
  have B106 : OS w101 22 encF_f32 (Value.slice q13_0v2a q13_0v2n q13_0v2c) m11.1.weights := (((((B71.ext E66).frm S85.frmb (rb sp79)).frm S90.frmb (rb sp22)).frm S93.frmb (rb sp22)).frm S97.frmb (rb sp22)).frm S101.frmb (rb sp21)
  have B107 : OS w101 104 encSRod (Value.slice q13_0v3a q13_0v3n q13_0v3c) m11.1.rods := (((((B72.ext E66).frm S85.frmb (rb sp80)).frm S90.frmb (rb sp25)).frm S93.frmb (rb sp25)).frm S97.frmb (rb sp25)).frm S101.frmb (rb sp24)
  have B108 : OS w101 109 encSClock (Value.slice q48_0v0a q48_0v0n q48_0v0c) m41.1.list := (((((q48_0v0R.ext E66).frm S85.frmb (rb sp82)).frm S90.frmb (rb sp51)).frm S93.frmb (rb sp51)).frm S97.frmb (rb sp51)).frm S101.frmb (rb sp50)
  have B109 : OS w101 22 encF_f32 (Value.slice q48_0v1a q48_0v1n q48_0v1c) m41.1.links := (((((q48_0v1R.ext E66).frm S85.frmb (rb sp83)).frm S90.frmb (rb sp59)).frm S93.frmb (rb sp59)).frm S97.frmb (rb sp59)).frm S101.frmb (rb sp58)
  obtain rfl := Option.some.inj hr
  refine ⟨_, res1 (rv_cells (vs := #[.float .f32 1065353216, .float .f32 1065353216, .float .f32 0, .float .f32 0, .float .f32 0, .float .f32 0, .float .f32 0, .float .f32 0, (Value.slice q13_0v0a q13_0v0n q13_0v0c), (Value.slice q13_0v1a q13_0v1n q13_0v1c), (Value.slice q13_0v2a q13_0v2n q13_0v2c), (Value.slice q13_0v3a q13_0v3n q13_0v3c), .float .f32 1065353216, .float .f32 1065353216, .float .f32 1065353216, .float .f32 1065353216, .float .f32 0, .float .f32 0, .float .f32 0, .float .f32 0, .float .f32 0, .float .f32 0, (Value.slice q48_0v0a q48_0v0n q48_0v0c), (Value.slice q48_0v1a q48_0v1n q48_0v1c)]) rfl agg56 size56 B103 rfl), ?_⟩
  exact ⟨1065353216, 1065353216, 0, 0, 0, 0, 0, 0, q13_0v0a, q13_0v0n, q13_0v0c, q13_0v1a, q13_0v1n, q13_0v1c, q13_0v2a, q13_0v2n, q13_0v2c, q13_0v3a, q13_0v3n, q13_0v3c, 1065353216, 1065353216, 1065353216, 1065353216, 0, 0, 0, 0, 0, 0, q48_0v0a, q48_0v0n, q48_0v0c, q48_0v1a, q48_0v1n, q48_0v1c, rfl, cn_f32_1065353216, cn_f32_1065353216, cn_f32_0, cn_f32_0, cn_f32_0, cn_f32_0, cn_f32_0, cn_f32_0, B104, own14, B105, own17, B106, own20, B107, own23, cn_f32_1065353216, cn_f32_1065353216, cn_f32_1065353216, cn_f32_1065353216, cn_f32_0, cn_f32_0, cn_f32_0, cn_f32_0, cn_f32_0, cn_f32_0, B108, own49, B109, own57, q13_A1_0, q13_A2_0, q13_A2_1, q13_A3_0, q13_A3_1, q13_A3_2, sp52, sp53, sp54, sp55, sp60, sp61, sp62, sp63, q48_A1_0, X102⟩
set_option maxHeartbeats 4000000 in
theorem c54 (p0 : Int) (p1 : Int) (p2 : Int) (r : Bool) (w : World) (hr : M.impl_in p0 p1 p2 = r)  :
    Calls Try.prog 54 #[.int .i64 p0, .int .i64 p1, .int .i64 p2] w fun e w' => e = .returned (.bool r) ∧ Ext w w' := by
  refine calls_of_W Try.func54 rfl (Nat.le_of_ble_eq_true rfl) ?_
  refine W_seq ?_
  refine W_region rfl ?_
  refine da_op rfl (d_as (v := .bool false) rfl ?_)
  refine da_nil ?_
  refine W_seq ?_
  obtain ⟨m1, hm1, hr⟩ := letv_out hr
  refine W_cut (fun σ' w' => σ' 6 = .bool m1 ∧ Ext w w') rfl ?_ ?_
  · skip
    have hr := hm1
    refine da_op rfl (d_mv (v := .int .i64 p0) rfl ?_)
    refine da_op rfl (d_mv (v := .int .i64 p1) rfl ?_)
    refine da_op rfl (d_icmp cGeq rfl rfl ?_)
    refine da_op rfl (d_mv (v := .bool (icmp .geq p0 p1)) rfl ?_)
    rcases Bool.eq_false_or_eq_true (icmp .geq p0 p1) with hc2 | hc2
    · skip
      replace hr := bif_t hr hc2
      refine da_on rfl (Eq.trans (show sl _ _ _ = .bool (icmp .geq p0 p1) from rfl) (congrArg Value.bool hc2)) (d_mv (v := .int .i64 p0) rfl ?_)
      refine da_on rfl (Eq.trans (show sl _ _ _ = .bool (icmp .geq p0 p1) from rfl) (congrArg Value.bool hc2)) (d_mv (v := .int .i64 p2) rfl ?_)
      refine da_on rfl (Eq.trans (show sl _ _ _ = .bool (icmp .geq p0 p1) from rfl) (congrArg Value.bool hc2)) (d_icmp cLeq rfl rfl ?_)
      refine da_op rfl (d_pick (b := true) (Eq.trans (show ev _ _ = .bool (icmp .geq p0 p1) from rfl) (congrArg Value.bool hc2)) ?_)
      refine da_op rfl (d_as (v := .bool (icmp .leq p0 p2)) rfl ?_)
      refine da_nil ?_
      subst hr
      exact ⟨rfl, (Ext.refl w)⟩
    · skip
      replace hr := bif_f hr hc2
      refine da_off rfl (Eq.trans (show sl _ _ _ = .bool (icmp .geq p0 p1) from rfl) (congrArg Value.bool hc2)) (by decide) ?_
      refine da_off rfl (Eq.trans (show sl _ _ _ = .bool (icmp .geq p0 p1) from rfl) (congrArg Value.bool hc2)) (by decide) ?_
      refine da_off rfl (Eq.trans (show sl _ _ _ = .bool (icmp .geq p0 p1) from rfl) (congrArg Value.bool hc2)) (by decide) ?_
      refine da_op rfl (d_pick (b := false) (Eq.trans (show ev _ _ = .bool (icmp .geq p0 p1) from rfl) (congrArg Value.bool hc2)) ?_)
      refine da_op rfl (d_as (v := .bool false) rfl ?_)
      refine da_nil ?_
      subst hr
      exact ⟨rfl, (Ext.refl w)⟩
  · skip
    rintro σ1 w1 o1 ⟨s6_1, E1⟩
    have X3 : Ext w w1 := (Ext.refl w).trans E1
    refine W_ret ?_
    subst hr
    refine ⟨_, res1 (rv_tmp s6_1), ?_⟩
    exact ⟨rfl, X3⟩
set_option maxHeartbeats 4000000 in
theorem c53 (p0 : Nat) (p0r : Nat) (r : Bool) (w : World) (hr : M.impl_IsFinite p0 = r) (p0h : cn .f32 p0r = p0) :
    Calls Try.prog 53 #[.float .f32 p0r] w fun e w' => e = .returned (.bool r) ∧ Ext w w' := by
  refine calls_of_W Try.func53 rfl (Nat.le_of_ble_eq_true rfl) ?_
  refine W_seq ?_
  refine W_region rfl ?_
  refine da_op rfl (d_as (v := .bool false) rfl ?_)
  refine da_nil ?_
  refine W_seq ?_
  refine W_region rfl ?_
  refine da_op rfl (d_mv (v := .float .f32 p0r) rfl ?_)
  refine da_op rfl (d_mv (v := .float .f32 p0r) rfl ?_)
  refine da_op rfl (d_fop (k := .f32) fSub rfl rfl p0h p0h fun r1 w1 h1 _ E1 => ?_)
  have X2 : Ext w w1 := (Ext.refl w).trans E1
  refine da_op rfl (d_fcmp (k := .f32) cEql rfl rfl h1 cn_f32_0 ?_)
  refine da_op rfl (d_as (v := .bool (fcmp .eql .f32 (fop .sub .f32 p0 p0) 0)) rfl ?_)
  refine da_nil ?_
  refine W_ret ?_
  subst hr
  refine ⟨_, res1 (rv_tmp rfl), ?_⟩
  exact ⟨rfl, X2⟩
set_option maxHeartbeats 4000000 in
theorem c70 (p0 : Nat) (p0r : Nat) (r : Bool) (w : World) (hr : M.impl_lengthOk p0 = r) (p0h : cn .f32 p0r = p0) :
    Calls Try.prog 70 #[.float .f32 p0r] w fun e w' => e = .returned (.bool r) ∧ Ext w w' := by
  refine calls_of_W Try.func70 rfl (Nat.le_of_ble_eq_true rfl) ?_
  refine W_seq ?_
  refine W_region rfl ?_
  refine da_op rfl (d_as (v := .bool false) rfl ?_)
  refine da_nil ?_
  refine W_seq ?_
  obtain ⟨m1, hm1, hr⟩ := letv_out hr
  refine W_cut (fun σ' w' => σ' 2 = .bool m1 ∧ Ext w w') rfl ?_ ?_
  · skip
    have hr := hm1
    refine da_op rfl (d_mv (v := .float .f32 p0r) rfl ?_)
    obtain ⟨m2, hm2, hr⟩ := letv_out hr
    refine da_op rfl (d_cl (vs := [.float .f32 p0r]) en53 (ac rfl rfl) rfl ?_)
    refine (c53 p0 p0r m2 w hm2 p0h).mono ?_
    rintro _ w3 ⟨rfl, E3⟩
    refine ⟨_, rfl, ?_⟩
    have X4 : Ext w w3 := (Ext.refl w).trans E3
    refine da_op rfl (d_mv (v := .bool m2) rfl ?_)
    rcases Bool.eq_false_or_eq_true m2 with hc5 | hc5
    · skip
      replace hr := bif_t hr hc5
      refine da_on rfl (Eq.trans (show sl _ _ _ = .bool m2 from rfl) (congrArg Value.bool hc5)) (d_mv (v := .float .f32 p0r) rfl ?_)
      refine da_on rfl (Eq.trans (show sl _ _ _ = .bool m2 from rfl) (congrArg Value.bool hc5)) (d_fcmp (k := .f32) cGtr rfl rfl p0h cn_f32_0 ?_)
      refine da_op rfl (d_pick (b := true) (Eq.trans (show ev _ _ = .bool m2 from rfl) (congrArg Value.bool hc5)) ?_)
      refine da_op rfl (d_as (v := .bool (fcmp .gtr .f32 p0 0)) rfl ?_)
      refine da_nil ?_
      subst hr
      exact ⟨rfl, (Ext.trans (Ext.refl w) E3)⟩
    · skip
      replace hr := bif_f hr hc5
      refine da_off rfl (Eq.trans (show sl _ _ _ = .bool m2 from rfl) (congrArg Value.bool hc5)) (by decide) ?_
      refine da_off rfl (Eq.trans (show sl _ _ _ = .bool m2 from rfl) (congrArg Value.bool hc5)) (by decide) ?_
      refine da_op rfl (d_pick (b := false) (Eq.trans (show ev _ _ = .bool m2 from rfl) (congrArg Value.bool hc5)) ?_)
      refine da_op rfl (d_as (v := .bool false) rfl ?_)
      refine da_nil ?_
      subst hr
      exact ⟨rfl, (Ext.trans (Ext.refl w) E3)⟩
  · skip
    rintro σ1 w1 o1 ⟨s2_1, E1⟩
    have X6 : Ext w w1 := (Ext.refl w).trans E1
    refine W_ret ?_
    subst hr
    refine ⟨_, res1 (rv_tmp s2_1), ?_⟩
    exact ⟨rfl, X6⟩
set_option maxHeartbeats 4000000 in
theorem c61 (p0 : Nat) (p0r : Nat) (r : Bool) (w : World) (hr : M.impl_finite_1 p0 = r) (p0h : cn .f32 p0r = p0) :
    Calls Try.prog 61 #[.float .f32 p0r] w fun e w' => e = .returned (.bool r) ∧ Ext w w' := by
  refine calls_of_W Try.func61 rfl (Nat.le_of_ble_eq_true rfl) ?_
  refine W_seq ?_
  refine W_region rfl ?_
  refine da_op rfl (d_as (v := .bool false) rfl ?_)
  refine da_nil ?_
  refine W_seq ?_
  refine W_region rfl ?_
  refine da_op rfl (d_mv (v := .float .f32 p0r) rfl ?_)
  obtain ⟨m1, hm1, hr⟩ := letv_out hr
  refine da_op rfl (d_cl (vs := [.float .f32 p0r]) en53 (ac rfl rfl) rfl ?_)
  refine (c53 p0 p0r m1 w hm1 p0h).mono ?_
  rintro _ w2 ⟨rfl, E2⟩
  refine ⟨_, rfl, ?_⟩
  have X3 : Ext w w2 := (Ext.refl w).trans E2
  refine da_op rfl (d_not rfl ?_)
  refine da_op rfl (d_as (v := .bool (!m1)) rfl ?_)
  refine da_nil ?_
  refine W_ret ?_
  subst hr
  refine ⟨_, res1 (rv_tmp rfl), ?_⟩
  exact ⟨rfl, X3⟩
set_option maxHeartbeats 4000000 in
theorem c99_f61 (p0 : List Nat) (p0a : Option Addr) (p0n : Nat) (p0c : Nat) (r : Int) (w : World) (hr : M.slices_IndexFunc___float32_float32__f61 p0 = some r) (p0R : RS w encF_f32 (Value.slice p0a p0n p0c) p0) :
    Calls Try.prog 99 #[(Value.slice p0a p0n p0c), .func (.func 61) #[] #[]] w fun e w' => e = .returned (.int .i64 r) ∧ Ext w w' := by
  refine calls_of_W Try.func99 rfl (Nat.le_of_ble_eq_true rfl) ?_
  refine W_seq ?_
  refine W_region rfl ?_
  refine da_op rfl (d_as (v := .int .i64 0) rfl ?_)
  refine da_nil ?_
  refine W_seq ?_
  refine W_seq ?_
  refine W_region rfl ?_
  refine da_op rfl (d_mv (v := (Value.slice p0a p0n p0c)) rfl ?_)
  refine da_op rfl (d_len (e := encF_f32) un48 rfl p0R ?_)
  refine da_op rfl (d_mv (v := .int .i64 0) rfl ?_)
  refine da_nil ?_
  refine W_block ?_
  obtain ⟨m1, hm1, hr⟩ := bind_out hr
  refine W_loopM hm1 (fun (s1 : Int) σ w' => σ 8 = .int .i64 s1 ∧ σ 0 = (Value.slice p0a p0n p0c) ∧ σ 1 = .func (.func 61) #[] #[] ∧ σ 7 = .int .i64 ((p0).length : Int) ∧ Ext w w') (fun (e1 : (Unit ⊕ Int)) ex σ w' => sel e1 (fun e1 => ex = .exit 0 ∧ Ext w w') (fun e1 => ex = .ret ∧ σ 4 = .int .i64 e1 ∧ Ext w w')) ⟨rfl, rfl, rfl, rfl, (Ext.refl w)⟩ ?_ ?_
  · skip
    rintro s1 σl1 wl1 r1l ⟨i1_S8, i1_S0, i1_S1, i1_S7, i1_X⟩ hr
    refine W_seq ?_
    refine W_region rfl ?_
    refine da_op rfl (d_icmp cLss i1_S8 i1_S7 ?_)
    refine da_nil ?_
    refine W_seq ?_
    refine W_cond (b := (icmp .lss s1 ((p0).length : Int))) rfl (fun hc2 => ?_) (fun hc2 => ?_)
    · skip
      replace hr := bif_t hr hc2
      refine W_skip ?_
      refine W_seq ?_
      refine W_block ?_
      refine W_seq ?_
      refine W_region rfl ?_
      refine da_op rfl (d_mv (v := .int .i64 s1) i1_S8 ?_)
      refine da_op rfl (d_as (v := .int .i64 s1) rfl ?_)
      refine da_nil ?_
      refine W_seq ?_
      refine W_region rfl ?_
      refine da_op rfl (d_mv (v := .func (.func 61) #[] #[]) i1_S1 ?_)
      refine da_op rfl (d_mv (v := (Value.slice p0a p0n p0c)) i1_S0 ?_)
      refine da_op rfl (d_mv (v := .int .i64 s1) rfl ?_)
      obtain ⟨m3, hm3, hr⟩ := bind_out hr
      have B5 : RS wl1 encF_f32 (Value.slice p0a p0n p0c) p0 := p0R.ext i1_X
      refine da_op rfl (d_index (e := encF_f32) (v := (Value.slice p0a p0n p0c)) un48 size22 rfl rfl B5 hm3 fun g4 o4 cu4 T4 fr4 vs4 hv4 hg4 hp4 hq4 => ?_)
      obtain ⟨e4_r0, rfl, e4_h0⟩ := dec_encF_f32 hq4
      refine da_op rfl (d_load (v := .float .f32 e4_r0) rfl agg22 hg4 (sub_get (vs := #[.float .f32 e4_r0]) hp4 (i := 0) rfl) ?_)
      obtain ⟨m6, hm6, hr⟩ := letv_out hr
      refine da_op rfl (d_clv (vs := [.float .f32 e4_r0]) (cap := []) en61 rfl (ac rfl rfl) ?_)
      refine (c61 m3 e4_r0 m6 wl1 hm6 e4_h0).mono ?_
      rintro _ w7 ⟨rfl, E7⟩
      refine ⟨_, rfl, ?_⟩
      have X8 : Ext w w7 := i1_X.trans E7
      refine da_nil ?_
      refine W_cond (b := m6) rfl (fun hc9 => ?_) (fun hc9 => ?_)
      · skip
        replace hr := bif_t hr hc9
        refine W_seq ?_
        refine W_region rfl ?_
        refine da_op rfl (d_mv (v := .int .i64 s1) rfl ?_)
        refine da_op rfl (d_as (v := .int .i64 s1) rfl ?_)
        refine da_nil ?_
        refine W_ret ?_
        obtain rfl := Option.some.inj hr
        exact ⟨_, rfl, rfl, rfl, X8⟩
      · skip
        replace hr := bif_f hr hc9
        refine W_skip ?_
        refine W_region rfl ?_
        refine da_op rfl (d_iarith i1_S8 rfl (.inl ⟨rfl, rfl⟩) ?_)
        refine da_op rfl (d_mv (v := .int .i64 (IntKind.i64.wrap (s1 + 1))) rfl ?_)
        refine da_nil ?_
        obtain rfl := Option.some.inj hr
        exact ⟨_, rfl, ⟨rfl, i1_S0, i1_S1, i1_S7, X8⟩⟩
    · skip
      replace hr := bif_f hr hc2
      refine W_exit ?_
      obtain rfl := Option.some.inj hr
      exact ⟨_, rfl, rfl, i1_X⟩
  · skip
    intro ex σx1 wx1 hq
    rcases m1 with m1 | m1
    · skip
      obtain ⟨rfl, q1_0_X⟩ := hq
      refine W_seq ?_
      refine W_region rfl ?_
      refine da_op rfl (d_as (v := .int .i64 (-1)) rfl ?_)
      refine da_nil ?_
      refine W_ret ?_
      obtain rfl := Option.some.inj hr
      refine ⟨_, res1 (rv_tmp rfl), ?_⟩
      exact ⟨rfl, q1_0_X⟩
    · skip
      obtain ⟨rfl, q1_1_S4, q1_1_X⟩ := hq
      obtain rfl := Option.some.inj hr
      refine ⟨_, res1 (rv_tmp q1_1_S4), ?_⟩
      exact ⟨rfl, q1_1_X⟩
set_option maxHeartbeats 4000000 in
theorem c60_f61 (p0 : List Nat) (p0a : Option Addr) (p0n : Nat) (p0c : Nat) (r : Bool) (w : World) (hr : M.slices_ContainsFunc___float32_float32__f61 p0 = some r) (p0R : RS w encF_f32 (Value.slice p0a p0n p0c) p0) :
    Calls Try.prog 60 #[(Value.slice p0a p0n p0c), .func (.func 61) #[] #[]] w fun e w' => e = .returned (.bool r) ∧ Ext w w' := by
  refine calls_of_W Try.func60 rfl (Nat.le_of_ble_eq_true rfl) ?_
  refine W_seq ?_
  refine W_region rfl ?_
  refine da_op rfl (d_as (v := .bool false) rfl ?_)
  refine da_nil ?_
  refine W_seq ?_
  refine W_region rfl ?_
  refine da_op rfl (d_mv (v := (Value.slice p0a p0n p0c)) rfl ?_)
  refine da_op rfl (d_mv (v := .func (.func 61) #[] #[]) rfl ?_)
  obtain ⟨m1, hm1, hr⟩ := bind_out hr
  refine da_op rfl (d_cl (vs := [(Value.slice p0a p0n p0c), .func (.func 61) #[] #[]]) en99 (ac rfl (ac rfl rfl)) rfl ?_)
  refine (c99_f61 p0 p0a p0n p0c m1 w hm1 p0R).mono ?_
  rintro _ w2 ⟨rfl, E2⟩
  refine ⟨_, rfl, ?_⟩
  have X3 : Ext w w2 := (Ext.refl w).trans E2
  refine da_op rfl (d_icmp cGeq rfl rfl ?_)
  refine da_op rfl (d_as (v := .bool (icmp .geq m1 0)) rfl ?_)
  refine da_nil ?_
  refine W_ret ?_
  obtain rfl := Option.some.inj hr
  refine ⟨_, res1 (rv_tmp rfl), ?_⟩
  exact ⟨rfl, X3⟩
set_option maxHeartbeats 4000000 in
theorem c32 (p0 : List Nat) (p0a : Option Addr) (p0n : Nat) (p0c : Nat) (r : Bool) (w : World) (hr : M.impl_finite p0 = some r) (p0R : RS w encF_f32 (Value.slice p0a p0n p0c) p0) :
    Calls Try.prog 32 #[(Value.slice p0a p0n p0c)] w fun e w' => e = .returned (.bool r) ∧ Ext w w' := by
  refine calls_of_W Try.func32 rfl (Nat.le_of_ble_eq_true rfl) ?_
  refine W_seq ?_
  refine W_region rfl ?_
  refine da_op rfl (d_as (v := .bool false) rfl ?_)
  refine da_nil ?_
  refine W_seq ?_
  refine W_region rfl ?_
  refine da_op rfl (d_mv (v := (Value.slice p0a p0n p0c)) rfl ?_)
  obtain ⟨m1, hm1, hr⟩ := bind_out hr
  refine da_op rfl (d_cl (vs := [(Value.slice p0a p0n p0c), .func (.func 61) #[] #[]]) en60 (ac rfl (ac rfl rfl)) rfl ?_)
  refine (c60_f61 p0 p0a p0n p0c m1 w hm1 p0R).mono ?_
  rintro _ w2 ⟨rfl, E2⟩
  refine ⟨_, rfl, ?_⟩
  have X3 : Ext w w2 := (Ext.refl w).trans E2
  refine da_op rfl (d_not rfl ?_)
  refine da_op rfl (d_as (v := .bool (!m1)) rfl ?_)
  refine da_nil ?_
  refine W_ret ?_
  obtain rfl := Option.some.inj hr
  refine ⟨_, res1 (rv_tmp rfl), ?_⟩
  exact ⟨rfl, X3⟩
set_option maxHeartbeats 4000000 in
theorem c25 (p0 : SVector) (p0r0 : Nat) (p0r1 : Nat) (p0r2 : Nat) (r : Bool) (w : World) (hr : M.impl_finiteVector p0 = some r) (p0h0 : cn .f32 p0r0 = p0.x) (p0h1 : cn .f32 p0r1 = p0.y) (p0h2 : cn .f32 p0r2 = p0.z) :
    Calls Try.prog 25 #[.agg #[.float .f32 p0r0, .float .f32 p0r1, .float .f32 p0r2]] w fun e w' => e = .returned (.bool r) ∧ Ext w w' := by
  refine calls_of_W Try.func25 rfl (Nat.le_of_ble_eq_true rfl) ?_
  refine W_seq ?_
  refine W_region rfl ?_
  refine da_op rfl (d_box (cs := #[.float .f32 p0r0, .float .f32 p0r1, .float .f32 p0r2]) rfl fun w1 B1 E1 => ?_)
  have own2 : w.heap.size ≤ w.heap.size := Nat.le_trans (Ext.refl w).size (Nat.le_refl _)
  have X3 : Ext w w1 := (Ext.refl w).trans E1
  refine da_op rfl (d_as (v := .bool false) rfl ?_)
  refine da_nil ?_
  refine W_seq ?_
  refine W_region rfl ?_
  refine da_op rfl (d_fieldAddr rfl (fa29_0 _ _) ?_)
  refine da_op rfl (d_load (v := .float .f32 p0r0) rfl agg22 B1 rfl ?_)
  refine da_op rfl (d_fieldAddr rfl (fa29_1 _ _) ?_)
  refine da_op rfl (d_load (v := .float .f32 p0r1) rfl agg22 B1 rfl ?_)
  refine da_op rfl (d_fieldAddr rfl (fa29_2 _ _) ?_)
  refine da_op rfl (d_load (v := .float .f32 p0r2) rfl agg22 B1 rfl ?_)
  refine da_op rfl (d_bslice (vs := [(0, .float .f32 p0r0), (1, .float .f32 p0r1), (2, .float .f32 p0r2)]) (cs := #[.float .f32 p0r0, .float .f32 p0r1, .float .f32 p0r2]) un48 (pc rfl (pc rfl (pc rfl rfl))) (by kernel_rfl) fun w4 B4 E4 => ?_)
  have fr4 : ∀ k, (Value.slice (some ⟨w1.heap.size, 0, none⟩) 3 3).ownBlock = some k → w1.heap.size ≤ k := fun k hk => by cases hk; exact Nat.le_refl _
  have own4 : ∀ k, (Value.slice (some ⟨w1.heap.size, 0, none⟩) 3 3).ownBlock = some k → w.heap.size ≤ k := fun k hk => Nat.le_trans X3.size (fr4 k hk)
  have sp5 : ¬ (Value.slice (some ⟨w1.heap.size, 0, none⟩) 3 3).ownBlock = some w.heap.size := ne_fresh fr4 (lt_heap B1)
  have X6 : Ext w w4 := X3.trans E4
  have O4 : OS w4 22 encF_f32 (Value.slice (some ⟨w1.heap.size, 0, none⟩) 3 3) [p0.x, p0.y, p0.z] := OS.box (xs := [p0.x, p0.y, p0.z]) B4 (lc_f p0h0 (lc_f p0h1 (lc_f p0h2 rfl))) (Nat.le_of_ble_eq_true rfl)
  obtain ⟨m7, hm7, hr⟩ := bind_out hr
  have B8 : w4.heap[w.heap.size]? = some (.cells #[.float .f32 p0r0, .float .f32 p0r1, .float .f32 p0r2] 29 (0, 0)) := E4.heap B1
  refine da_op rfl (d_cl (vs := [(Value.slice (some ⟨w1.heap.size, 0, none⟩) 3 3)]) en32 (ac rfl rfl) rfl ?_)
  refine (c32 ([p0.x, p0.y, p0.z]) (some ⟨w1.heap.size, 0, none⟩) 3 3 m7 w4 hm7 O4.rs).mono ?_
  rintro _ w9 ⟨rfl, E9⟩
  refine ⟨_, rfl, ?_⟩
  have X10 : Ext w w9 := X6.trans E9
  refine da_op rfl (d_as (v := .bool m7) rfl ?_)
  refine da_nil ?_
  refine W_ret ?_
  obtain rfl := Option.some.inj hr
  refine ⟨_, res1 (rv_tmp rfl), ?_⟩
  exact ⟨rfl, X10⟩
set_option maxHeartbeats 4000000 in
theorem c119 (p0 : SVector) (p0r0 : Nat) (p0r1 : Nat) (p0r2 : Nat) (r : Bool) (w : World) (hr : M.impl_badVector p0 = some r) (p0h0 : cn .f32 p0r0 = p0.x) (p0h1 : cn .f32 p0r1 = p0.y) (p0h2 : cn .f32 p0r2 = p0.z) :
    Calls Try.prog 119 #[.agg #[.float .f32 p0r0, .float .f32 p0r1, .float .f32 p0r2]] w fun e w' => e = .returned (.bool r) ∧ Ext w w' := by
  refine calls_of_W Try.func119 rfl (Nat.le_of_ble_eq_true rfl) ?_
  refine W_seq ?_
  refine W_region rfl ?_
  refine da_op rfl (d_box (cs := #[.float .f32 p0r0, .float .f32 p0r1, .float .f32 p0r2]) rfl fun w1 B1 E1 => ?_)
  have own2 : w.heap.size ≤ w.heap.size := Nat.le_trans (Ext.refl w).size (Nat.le_refl _)
  have X3 : Ext w w1 := (Ext.refl w).trans E1
  refine da_op rfl (d_as (v := .bool false) rfl ?_)
  refine da_nil ?_
  refine W_seq ?_
  refine W_region rfl ?_
  refine da_op rfl (d_loads (vs := #[.float .f32 p0r0, .float .f32 p0r1, .float .f32 p0r2]) rfl agg29 size29 B1 rfl ?_)
  obtain ⟨m4, hm4, hr⟩ := bind_out hr
  refine da_op rfl (d_cl (vs := [.agg #[.float .f32 p0r0, .float .f32 p0r1, .float .f32 p0r2]]) en25 (ac rfl rfl) rfl ?_)
  refine (c25 p0 p0r0 p0r1 p0r2 m4 w1 hm4 p0h0 p0h1 p0h2).mono ?_
  rintro _ w5 ⟨rfl, E5⟩
  refine ⟨_, rfl, ?_⟩
  have X6 : Ext w w5 := X3.trans E5
  refine da_op rfl (d_not rfl ?_)
  refine da_op rfl (d_as (v := .bool (!m4)) rfl ?_)
  refine da_nil ?_
  refine W_ret ?_
  obtain rfl := Option.some.inj hr
  refine ⟨_, res1 (rv_tmp rfl), ?_⟩
  exact ⟨rfl, X6⟩
set_option maxHeartbeats 4000000 in
theorem c130_f119 (p0 : List SVector) (p0a : Option Addr) (p0n : Nat) (p0c : Nat) (r : Int) (w : World) (hr : M.slices_IndexFunc___impl_Vector_impl_Vector__f119 p0 = some r) (p0R : RS w encSVector (Value.slice p0a p0n p0c) p0) :
    Calls Try.prog 130 #[(Value.slice p0a p0n p0c), .func (.func 119) #[] #[]] w fun e w' => e = .returned (.int .i64 r) ∧ Ext w w' := by
  refine calls_of_W Try.func130 rfl (Nat.le_of_ble_eq_true rfl) ?_
  refine W_seq ?_
  refine W_region rfl ?_
  refine da_op rfl (d_as (v := .int .i64 0) rfl ?_)
  refine da_nil ?_
  refine W_seq ?_
  refine W_seq ?_
  refine W_region rfl ?_
  refine da_op rfl (d_mv (v := (Value.slice p0a p0n p0c)) rfl ?_)
  refine da_op rfl (d_len (e := encSVector) un33 rfl p0R ?_)
  refine da_op rfl (d_mv (v := .int .i64 0) rfl ?_)
  refine da_nil ?_
  refine W_block ?_
  obtain ⟨m1, hm1, hr⟩ := bind_out hr
  refine W_loopM hm1 (fun (s1 : Int) σ w' => σ 8 = .int .i64 s1 ∧ σ 0 = (Value.slice p0a p0n p0c) ∧ σ 1 = .func (.func 119) #[] #[] ∧ σ 7 = .int .i64 ((p0).length : Int) ∧ Ext w w') (fun (e1 : (Unit ⊕ Int)) ex σ w' => sel e1 (fun e1 => ex = .exit 0 ∧ Ext w w') (fun e1 => ex = .ret ∧ σ 4 = .int .i64 e1 ∧ Ext w w')) ⟨rfl, rfl, rfl, rfl, (Ext.refl w)⟩ ?_ ?_
  · skip
    rintro s1 σl1 wl1 r1l ⟨i1_S8, i1_S0, i1_S1, i1_S7, i1_X⟩ hr
    refine W_seq ?_
    refine W_region rfl ?_
    refine da_op rfl (d_icmp cLss i1_S8 i1_S7 ?_)
    refine da_nil ?_
    refine W_seq ?_
    refine W_cond (b := (icmp .lss s1 ((p0).length : Int))) rfl (fun hc2 => ?_) (fun hc2 => ?_)
    · skip
      replace hr := bif_t hr hc2
      refine W_skip ?_
      refine W_seq ?_
      refine W_block ?_
      refine W_seq ?_
      refine W_region rfl ?_
      refine da_op rfl (d_mv (v := .int .i64 s1) i1_S8 ?_)
      refine da_op rfl (d_as (v := .int .i64 s1) rfl ?_)
      refine da_nil ?_
      refine W_seq ?_
      refine W_region rfl ?_
      refine da_op rfl (d_mv (v := .func (.func 119) #[] #[]) i1_S1 ?_)
      refine da_op rfl (d_mv (v := (Value.slice p0a p0n p0c)) i1_S0 ?_)
      refine da_op rfl (d_mv (v := .int .i64 s1) rfl ?_)
      obtain ⟨m3, hm3, hr⟩ := bind_out hr
      have B5 : RS wl1 encSVector (Value.slice p0a p0n p0c) p0 := p0R.ext i1_X
      refine da_op rfl (d_index (e := encSVector) (v := (Value.slice p0a p0n p0c)) un33 size29 rfl rfl B5 hm3 fun g4 o4 cu4 T4 fr4 vs4 hv4 hg4 hp4 hq4 => ?_)
      obtain ⟨e4_r0, e4_r1, e4_r2, rfl, e4_h0, e4_h1, e4_h2⟩ := dec_encSVector hq4
      refine da_op rfl (d_loads (vs := #[.float .f32 e4_r0, .float .f32 e4_r1, .float .f32 e4_r2]) rfl agg29 size29 hg4 (sub_take (vs := #[.float .f32 e4_r0, .float .f32 e4_r1, .float .f32 e4_r2]) (us := #[.float .f32 e4_r0, .float .f32 e4_r1, .float .f32 e4_r2]) (i := 0) hp4 rfl (Nat.le_of_ble_eq_true rfl)) ?_)
      obtain ⟨m6, hm6, hr⟩ := bind_out hr
      refine da_op rfl (d_clv (vs := [.agg #[.float .f32 e4_r0, .float .f32 e4_r1, .float .f32 e4_r2]]) (cap := []) en119 rfl (ac rfl rfl) ?_)
      refine (c119 m3 e4_r0 e4_r1 e4_r2 m6 wl1 hm6 e4_h0 e4_h1 e4_h2).mono ?_
      rintro _ w7 ⟨rfl, E7⟩
      refine ⟨_, rfl, ?_⟩
      have X8 : Ext w w7 := i1_X.trans E7
      refine da_nil ?_
      refine W_cond (b := m6) rfl (fun hc9 => ?_) (fun hc9 => ?_)
      · skip
        replace hr := bif_t hr hc9
        refine W_seq ?_
        refine W_region rfl ?_
        refine da_op rfl (d_mv (v := .int .i64 s1) rfl ?_)
        refine da_op rfl (d_as (v := .int .i64 s1) rfl ?_)
        refine da_nil ?_
        refine W_ret ?_
        obtain rfl := Option.some.inj hr
        exact ⟨_, rfl, rfl, rfl, X8⟩
      · skip
        replace hr := bif_f hr hc9
        refine W_skip ?_
        refine W_region rfl ?_
        refine da_op rfl (d_iarith i1_S8 rfl (.inl ⟨rfl, rfl⟩) ?_)
        refine da_op rfl (d_mv (v := .int .i64 (IntKind.i64.wrap (s1 + 1))) rfl ?_)
        refine da_nil ?_
        obtain rfl := Option.some.inj hr
        exact ⟨_, rfl, ⟨rfl, i1_S0, i1_S1, i1_S7, X8⟩⟩
    · skip
      replace hr := bif_f hr hc2
      refine W_exit ?_
      obtain rfl := Option.some.inj hr
      exact ⟨_, rfl, rfl, i1_X⟩
  · skip
    intro ex σx1 wx1 hq
    rcases m1 with m1 | m1
    · skip
      obtain ⟨rfl, q1_0_X⟩ := hq
      refine W_seq ?_
      refine W_region rfl ?_
      refine da_op rfl (d_as (v := .int .i64 (-1)) rfl ?_)
      refine da_nil ?_
      refine W_ret ?_
      obtain rfl := Option.some.inj hr
      refine ⟨_, res1 (rv_tmp rfl), ?_⟩
      exact ⟨rfl, q1_0_X⟩
    · skip
      obtain ⟨rfl, q1_1_S4, q1_1_X⟩ := hq
      obtain rfl := Option.some.inj hr
      refine ⟨_, res1 (rv_tmp q1_1_S4), ?_⟩
      exact ⟨rfl, q1_1_X⟩
set_option maxHeartbeats 4000000 in
theorem c118_f119 (p0 : List SVector) (p0a : Option Addr) (p0n : Nat) (p0c : Nat) (r : Bool) (w : World) (hr : M.slices_ContainsFunc___impl_Vector_impl_Vector__f119 p0 = some r) (p0R : RS w encSVector (Value.slice p0a p0n p0c) p0) :
    Calls Try.prog 118 #[(Value.slice p0a p0n p0c), .func (.func 119) #[] #[]] w fun e w' => e = .returned (.bool r) ∧ Ext w w' := by
  refine calls_of_W Try.func118 rfl (Nat.le_of_ble_eq_true rfl) ?_
  refine W_seq ?_
  refine W_region rfl ?_
  refine da_op rfl (d_as (v := .bool false) rfl ?_)
  refine da_nil ?_
  refine W_seq ?_
  refine W_region rfl ?_
  refine da_op rfl (d_mv (v := (Value.slice p0a p0n p0c)) rfl ?_)
  refine da_op rfl (d_mv (v := .func (.func 119) #[] #[]) rfl ?_)
  obtain ⟨m1, hm1, hr⟩ := bind_out hr
  refine da_op rfl (d_cl (vs := [(Value.slice p0a p0n p0c), .func (.func 119) #[] #[]]) en130 (ac rfl (ac rfl rfl)) rfl ?_)
  refine (c130_f119 p0 p0a p0n p0c m1 w hm1 p0R).mono ?_
  rintro _ w2 ⟨rfl, E2⟩
  refine ⟨_, rfl, ?_⟩
  have X3 : Ext w w2 := (Ext.refl w).trans E2
  refine da_op rfl (d_icmp cGeq rfl rfl ?_)
  refine da_op rfl (d_as (v := .bool (icmp .geq m1 0)) rfl ?_)
  refine da_nil ?_
  refine W_ret ?_
  obtain rfl := Option.some.inj hr
  refine ⟨_, res1 (rv_tmp rfl), ?_⟩
  exact ⟨rfl, X3⟩
set_option maxHeartbeats 4000000 in
theorem c131 (p0 : Nat) (p0r : Nat) (r : Bool) (w : World) (hr : M.impl_levelOk p0 = r) (p0h : cn .f32 p0r = p0) :
    Calls Try.prog 131 #[.float .f32 p0r] w fun e w' => e = .returned (.bool r) ∧ Ext w w' := by
  refine calls_of_W Try.func131 rfl (Nat.le_of_ble_eq_true rfl) ?_
  refine W_seq ?_
  refine W_region rfl ?_
  refine da_op rfl (d_as (v := .bool false) rfl ?_)
  refine da_nil ?_
  refine W_seq ?_
  obtain ⟨m1, hm1, hr⟩ := letv_out hr
  refine W_cut (fun σ' w' => σ' 2 = .bool m1 ∧ Ext w w') rfl ?_ ?_
  · skip
    have hr := hm1
    refine da_op rfl (d_mv (v := .float .f32 p0r) rfl ?_)
    obtain ⟨m2, hm2, hr⟩ := letv_out hr
    refine da_op rfl (d_cl (vs := [.float .f32 p0r]) en53 (ac rfl rfl) rfl ?_)
    refine (c53 p0 p0r m2 w hm2 p0h).mono ?_
    rintro _ w3 ⟨rfl, E3⟩
    refine ⟨_, rfl, ?_⟩
    have X4 : Ext w w3 := (Ext.refl w).trans E3
    refine da_op rfl (d_mv (v := .bool m2) rfl ?_)
    rcases Bool.eq_false_or_eq_true m2 with hc5 | hc5
    · skip
      replace hr := bif_t hr hc5
      refine da_on rfl (Eq.trans (show sl _ _ _ = .bool m2 from rfl) (congrArg Value.bool hc5)) (d_mv (v := .float .f32 p0r) rfl ?_)
      refine da_on rfl (Eq.trans (show sl _ _ _ = .bool m2 from rfl) (congrArg Value.bool hc5)) (d_fcmp (k := .f32) cGeq rfl rfl p0h cn_f32_0 ?_)
      refine da_op rfl (d_pick (b := true) (Eq.trans (show ev _ _ = .bool m2 from rfl) (congrArg Value.bool hc5)) ?_)
      refine da_op rfl (d_as (v := .bool (fcmp .geq .f32 p0 0)) rfl ?_)
      refine da_nil ?_
      subst hr
      exact ⟨rfl, (Ext.trans (Ext.refl w) E3)⟩
    · skip
      replace hr := bif_f hr hc5
      refine da_off rfl (Eq.trans (show sl _ _ _ = .bool m2 from rfl) (congrArg Value.bool hc5)) (by decide) ?_
      refine da_off rfl (Eq.trans (show sl _ _ _ = .bool m2 from rfl) (congrArg Value.bool hc5)) (by decide) ?_
      refine da_op rfl (d_pick (b := false) (Eq.trans (show ev _ _ = .bool m2 from rfl) (congrArg Value.bool hc5)) ?_)
      refine da_op rfl (d_as (v := .bool false) rfl ?_)
      refine da_nil ?_
      subst hr
      exact ⟨rfl, (Ext.trans (Ext.refl w) E3)⟩
  · skip
    rintro σ1 w1 o1 ⟨s2_1, E1⟩
    have X6 : Ext w w1 := (Ext.refl w).trans E1
    refine W_ret ?_
    subst hr
    refine ⟨_, res1 (rv_tmp s2_1), ?_⟩
    exact ⟨rfl, X6⟩
set_option maxHeartbeats 4000000 in
theorem c120 (p0 : Nat) (p0r : Nat) (r : Bool) (w : World) (hr : M.impl_badLevel p0 = r) (p0h : cn .f32 p0r = p0) :
    Calls Try.prog 120 #[.float .f32 p0r] w fun e w' => e = .returned (.bool r) ∧ Ext w w' := by
  refine calls_of_W Try.func120 rfl (Nat.le_of_ble_eq_true rfl) ?_
  refine W_seq ?_
  refine W_region rfl ?_
  refine da_op rfl (d_as (v := .bool false) rfl ?_)
  refine da_nil ?_
  refine W_seq ?_
  refine W_region rfl ?_
  refine da_op rfl (d_mv (v := .float .f32 p0r) rfl ?_)
  obtain ⟨m1, hm1, hr⟩ := letv_out hr
  refine da_op rfl (d_cl (vs := [.float .f32 p0r]) en131 (ac rfl rfl) rfl ?_)
  refine (c131 p0 p0r m1 w hm1 p0h).mono ?_
  rintro _ w2 ⟨rfl, E2⟩
  refine ⟨_, rfl, ?_⟩
  have X3 : Ext w w2 := (Ext.refl w).trans E2
  refine da_op rfl (d_not rfl ?_)
  refine da_op rfl (d_as (v := .bool (!m1)) rfl ?_)
  refine da_nil ?_
  refine W_ret ?_
  subst hr
  refine ⟨_, res1 (rv_tmp rfl), ?_⟩
  exact ⟨rfl, X3⟩
set_option maxHeartbeats 4000000 in
theorem c99_f120 (p0 : List Nat) (p0a : Option Addr) (p0n : Nat) (p0c : Nat) (r : Int) (w : World) (hr : M.slices_IndexFunc___float32_float32__f120 p0 = some r) (p0R : RS w encF_f32 (Value.slice p0a p0n p0c) p0) :
    Calls Try.prog 99 #[(Value.slice p0a p0n p0c), .func (.func 120) #[] #[]] w fun e w' => e = .returned (.int .i64 r) ∧ Ext w w' := by
  refine calls_of_W Try.func99 rfl (Nat.le_of_ble_eq_true rfl) ?_
  refine W_seq ?_
  refine W_region rfl ?_
  refine da_op rfl (d_as (v := .int .i64 0) rfl ?_)
  refine da_nil ?_
  refine W_seq ?_
  refine W_seq ?_
  refine W_region rfl ?_
  refine da_op rfl (d_mv (v := (Value.slice p0a p0n p0c)) rfl ?_)
  refine da_op rfl (d_len (e := encF_f32) un48 rfl p0R ?_)
  refine da_op rfl (d_mv (v := .int .i64 0) rfl ?_)
  refine da_nil ?_
  refine W_block ?_
  obtain ⟨m1, hm1, hr⟩ := bind_out hr
  refine W_loopM hm1 (fun (s1 : Int) σ w' => σ 8 = .int .i64 s1 ∧ σ 0 = (Value.slice p0a p0n p0c) ∧ σ 1 = .func (.func 120) #[] #[] ∧ σ 7 = .int .i64 ((p0).length : Int) ∧ Ext w w') (fun (e1 : (Unit ⊕ Int)) ex σ w' => sel e1 (fun e1 => ex = .exit 0 ∧ Ext w w') (fun e1 => ex = .ret ∧ σ 4 = .int .i64 e1 ∧ Ext w w')) ⟨rfl, rfl, rfl, rfl, (Ext.refl w)⟩ ?_ ?_
  · skip
    rintro s1 σl1 wl1 r1l ⟨i1_S8, i1_S0, i1_S1, i1_S7, i1_X⟩ hr
    refine W_seq ?_
    refine W_region rfl ?_
    refine da_op rfl (d_icmp cLss i1_S8 i1_S7 ?_)
    refine da_nil ?_
    refine W_seq ?_
    refine W_cond (b := (icmp .lss s1 ((p0).length : Int))) rfl (fun hc2 => ?_) (fun hc2 => ?_)
    · skip
      replace hr := bif_t hr hc2
      refine W_skip ?_
      refine W_seq ?_
      refine W_block ?_
      refine W_seq ?_
      refine W_region rfl ?_
      refine da_op rfl (d_mv (v := .int .i64 s1) i1_S8 ?_)
      refine da_op rfl (d_as (v := .int .i64 s1) rfl ?_)
      refine da_nil ?_
      refine W_seq ?_
      refine W_region rfl ?_
      refine da_op rfl (d_mv (v := .func (.func 120) #[] #[]) i1_S1 ?_)
      refine da_op rfl (d_mv (v := (Value.slice p0a p0n p0c)) i1_S0 ?_)
      refine da_op rfl (d_mv (v := .int .i64 s1) rfl ?_)
      obtain ⟨m3, hm3, hr⟩ := bind_out hr
      have B5 : RS wl1 encF_f32 (Value.slice p0a p0n p0c) p0 := p0R.ext i1_X
      refine da_op rfl (d_index (e := encF_f32) (v := (Value.slice p0a p0n p0c)) un48 size22 rfl rfl B5 hm3 fun g4 o4 cu4 T4 fr4 vs4 hv4 hg4 hp4 hq4 => ?_)
      obtain ⟨e4_r0, rfl, e4_h0⟩ := dec_encF_f32 hq4
      refine da_op rfl (d_load (v := .float .f32 e4_r0) rfl agg22 hg4 (sub_get (vs := #[.float .f32 e4_r0]) hp4 (i := 0) rfl) ?_)
      obtain ⟨m6, hm6, hr⟩ := letv_out hr
      refine da_op rfl (d_clv (vs := [.float .f32 e4_r0]) (cap := []) en120 rfl (ac rfl rfl) ?_)
      refine (c120 m3 e4_r0 m6 wl1 hm6 e4_h0).mono ?_
      rintro _ w7 ⟨rfl, E7⟩
      refine ⟨_, rfl, ?_⟩
      have X8 : Ext w w7 := i1_X.trans E7
      refine da_nil ?_
      refine W_cond (b := m6) rfl (fun hc9 => ?_) (fun hc9 => ?_)
      · skip
        replace hr := bif_t hr hc9
        refine W_seq ?_
        refine W_region rfl ?_
        refine da_op rfl (d_mv (v := .int .i64 s1) rfl ?_)
        refine da_op rfl (d_as (v := .int .i64 s1) rfl ?_)
        refine da_nil ?_
        refine W_ret ?_
        obtain rfl := Option.some.inj hr
        exact ⟨_, rfl, rfl, rfl, X8⟩
      · skip
        replace hr := bif_f hr hc9
        refine W_skip ?_
        refine W_region rfl ?_
        refine da_op rfl (d_iarith i1_S8 rfl (.inl ⟨rfl, rfl⟩) ?_)
        refine da_op rfl (d_mv (v := .int .i64 (IntKind.i64.wrap (s1 + 1))) rfl ?_)
        refine da_nil ?_
        obtain rfl := Option.some.inj hr
        exact ⟨_, rfl, ⟨rfl, i1_S0, i1_S1, i1_S7, X8⟩⟩
    · skip
      replace hr := bif_f hr hc2
      refine W_exit ?_
      obtain rfl := Option.some.inj hr
      exact ⟨_, rfl, rfl, i1_X⟩
  · skip
    intro ex σx1 wx1 hq
    rcases m1 with m1 | m1
    · skip
      obtain ⟨rfl, q1_0_X⟩ := hq
      refine W_seq ?_
      refine W_region rfl ?_
      refine da_op rfl (d_as (v := .int .i64 (-1)) rfl ?_)
      refine da_nil ?_
      refine W_ret ?_
      obtain rfl := Option.some.inj hr
      refine ⟨_, res1 (rv_tmp rfl), ?_⟩
      exact ⟨rfl, q1_0_X⟩
    · skip
      obtain ⟨rfl, q1_1_S4, q1_1_X⟩ := hq
      obtain rfl := Option.some.inj hr
      refine ⟨_, res1 (rv_tmp q1_1_S4), ?_⟩
      exact ⟨rfl, q1_1_X⟩
set_option maxHeartbeats 4000000 in
theorem c60_f120 (p0 : List Nat) (p0a : Option Addr) (p0n : Nat) (p0c : Nat) (r : Bool) (w : World) (hr : M.slices_ContainsFunc___float32_float32__f120 p0 = some r) (p0R : RS w encF_f32 (Value.slice p0a p0n p0c) p0) :
    Calls Try.prog 60 #[(Value.slice p0a p0n p0c), .func (.func 120) #[] #[]] w fun e w' => e = .returned (.bool r) ∧ Ext w w' := by
  refine calls_of_W Try.func60 rfl (Nat.le_of_ble_eq_true rfl) ?_
  refine W_seq ?_
  refine W_region rfl ?_
  refine da_op rfl (d_as (v := .bool false) rfl ?_)
  refine da_nil ?_
  refine W_seq ?_
  refine W_region rfl ?_
  refine da_op rfl (d_mv (v := (Value.slice p0a p0n p0c)) rfl ?_)
  refine da_op rfl (d_mv (v := .func (.func 120) #[] #[]) rfl ?_)
  obtain ⟨m1, hm1, hr⟩ := bind_out hr
  refine da_op rfl (d_cl (vs := [(Value.slice p0a p0n p0c), .func (.func 120) #[] #[]]) en99 (ac rfl (ac rfl rfl)) rfl ?_)
  refine (c99_f120 p0 p0a p0n p0c m1 w hm1 p0R).mono ?_
  rintro _ w2 ⟨rfl, E2⟩
  refine ⟨_, rfl, ?_⟩
  have X3 : Ext w w2 := (Ext.refl w).trans E2
  refine da_op rfl (d_icmp cGeq rfl rfl ?_)
  refine da_op rfl (d_as (v := .bool (icmp .geq m1 0)) rfl ?_)
  refine da_nil ?_
  refine W_ret ?_
  obtain rfl := Option.some.inj hr
  refine ⟨_, res1 (rv_tmp rfl), ?_⟩
  exact ⟨rfl, X3⟩
set_option maxHeartbeats 4000000 in
theorem c123 (p0 : SChain) (p1 : SRod) (p0b p0o : Nat) (p0c : Array Value) (p0T : TypeId) (p0f : Nat × Nat) (p0v0a : Option Addr) (p0v0n : Nat) (p0v0c : Nat) (p0v1a : Option Addr) (p0v1n : Nat) (p0v1c : Nat) (p0v2a : Option Addr) (p0v2n : Nat) (p0v2c : Nat) (p0v3a : Option Addr) (p0v3n : Nat) (p0v3c : Nat) (p1r2 : Nat) (r : Bool) (w : World) (hr : M.impl_Chain_rodOk p0 p1 = r) (p0v0R : RS w encSVector (Value.slice p0v0a p0v0n p0v0c) p0.places) (p0v1R : RS w encSVector (Value.slice p0v1a p0v1n p0v1c) p0.before) (p0v2R : RS w encF_f32 (Value.slice p0v2a p0v2n p0v2c) p0.weights) (p0v3R : RS w encSRod (Value.slice p0v3a p0v3n p0v3c) p0.rods) (p0B : w.heap[p0b]? = some (.cells p0c p0T p0f)) (p0P : (p0c.toList.drop p0o).take 4 = [(Value.slice p0v0a p0v0n p0v0c), (Value.slice p0v1a p0v1n p0v1c), (Value.slice p0v2a p0v2n p0v2c), (Value.slice p0v3a p0v3n p0v3c)]) (p1h2 : cn .f32 p1r2 = p1.long) :
    Calls Try.prog 123 #[.pointer (some ⟨p0b, p0o, none⟩), .agg #[.int .i64 p1.a, .int .i64 p1.b, .float .f32 p1r2]] w fun e w' => e = .returned (.bool r) ∧ Ext w w' := by
  refine calls_of_W Try.func123 rfl (Nat.le_of_ble_eq_true rfl) ?_
  refine W_seq ?_
  refine W_region rfl ?_
  refine da_op rfl (d_box (cs := #[.int .i64 p1.a, .int .i64 p1.b, .float .f32 p1r2]) rfl fun w1 B1 E1 => ?_)
  have own2 : w.heap.size ≤ w.heap.size := Nat.le_trans (Ext.refl w).size (Nat.le_refl _)
  have X3 : Ext w w1 := (Ext.refl w).trans E1
  refine da_op rfl (d_as (v := .bool false) rfl ?_)
  refine da_nil ?_
  refine W_seq ?_
  refine W_region rfl ?_
  refine da_op rfl (d_mv (v := .pointer (some ⟨p0b, p0o, none⟩)) rfl ?_)
  refine da_op rfl (d_nil rfl ?_)
  refine da_op rfl (d_fieldAddr rfl (fa51_0 _ _) ?_)
  have B4 : w1.heap[p0b]? = some (.cells p0c p0T p0f) := X3.heap p0B
  refine da_op rfl (d_load (v := (Value.slice p0v0a p0v0n p0v0c)) rfl agg33 B4 (sub_get (vs := #[(Value.slice p0v0a p0v0n p0v0c), (Value.slice p0v1a p0v1n p0v1c), (Value.slice p0v2a p0v2n p0v2c), (Value.slice p0v3a p0v3n p0v3c)]) p0P (i := 0) rfl) ?_)
  have B5 : RS w1 encSVector (Value.slice p0v0a p0v0n p0v0c) p0.places := p0v0R.ext X3
  refine da_op rfl (d_len (e := encSVector) un33 rfl B5 ?_)
  refine da_op rfl (d_iarith rfl rfl (.inr (.inl ⟨rfl, rfl⟩)) ?_)
  refine da_op rfl (d_as (v := .int .i64 (IntKind.i64.wrap (((p0.places).length : Int) - 1))) rfl ?_)
  refine da_nil ?_
  refine W_seq ?_
  obtain ⟨m6, hm6, hr⟩ := letv_out hr
  refine W_cut (fun σ' w' => σ' 4 = .bool m6 ∧ Ext w1 w') rfl ?_ ?_
  · skip
    have hr := hm6
    refine da_op rfl (d_fieldAddr rfl (fa104_0 _ _) ?_)
    refine da_op rfl (d_load (v := .int .i64 p1.a) rfl agg2 B1 rfl ?_)
    refine da_op rfl (d_mv (v := .int .i64 (IntKind.i64.wrap (((p0.places).length : Int) - 1))) rfl ?_)
    obtain ⟨m7, hm7, hr⟩ := letv_out hr
    refine da_op rfl (d_cl (vs := [.int .i64 p1.a, .int .i64 0, .int .i64 (IntKind.i64.wrap (((p0.places).length : Int) - 1))]) en54 (ac rfl (ac rfl (ac rfl rfl))) rfl ?_)
    refine (c54 p1.a 0 (IntKind.i64.wrap (((p0.places).length : Int) - 1)) m7 w1 hm7 ).mono ?_
    rintro _ w8 ⟨rfl, E8⟩
    refine ⟨_, rfl, ?_⟩
    have X9 : Ext w w8 := X3.trans E8
    refine da_op rfl (d_mv (v := .bool m7) rfl ?_)
    rcases Bool.eq_false_or_eq_true m7 with hc10 | hc10
    · skip
      replace hr := bif_t hr hc10
      refine da_on rfl (Eq.trans (show sl _ _ _ = .bool m7 from rfl) (congrArg Value.bool hc10)) (d_fieldAddr rfl (fa104_1 _ _) ?_)
      have B11 : w8.heap[w.heap.size]? = some (.cells #[.int .i64 p1.a, .int .i64 p1.b, .float .f32 p1r2] 104 (0, 0)) := E8.heap B1
      refine da_on rfl (Eq.trans (show sl _ _ _ = .bool m7 from rfl) (congrArg Value.bool hc10)) (d_load (v := .int .i64 p1.b) rfl agg2 B11 rfl ?_)
      refine da_on rfl (Eq.trans (show sl _ _ _ = .bool m7 from rfl) (congrArg Value.bool hc10)) (d_mv (v := .int .i64 (IntKind.i64.wrap (((p0.places).length : Int) - 1))) rfl ?_)
      obtain ⟨m12, hm12, hr⟩ := letv_out hr
      refine da_on rfl (Eq.trans (show sl _ _ _ = .bool m7 from rfl) (congrArg Value.bool hc10)) (d_cl (vs := [.int .i64 p1.b, .int .i64 0, .int .i64 (IntKind.i64.wrap (((p0.places).length : Int) - 1))]) en54 (ac rfl (ac rfl (ac rfl rfl))) rfl ?_)
      refine (c54 p1.b 0 (IntKind.i64.wrap (((p0.places).length : Int) - 1)) m12 w8 hm12 ).mono ?_
      rintro _ w13 ⟨rfl, E13⟩
      refine ⟨_, rfl, ?_⟩
      have X14 : Ext w w13 := X9.trans E13
      refine da_op rfl (d_pick (b := true) (Eq.trans (show ev _ _ = .bool m7 from rfl) (congrArg Value.bool hc10)) ?_)
      refine da_op rfl (d_mv (v := .bool m12) rfl ?_)
      rcases Bool.eq_false_or_eq_true m12 with hc15 | hc15
      · skip
        replace hr := bif_t hr hc15
        refine da_on rfl (Eq.trans (show sl _ _ _ = .bool m12 from rfl) (congrArg Value.bool hc15)) (d_fieldAddr rfl (fa104_0 _ _) ?_)
        have B16 : w13.heap[w.heap.size]? = some (.cells #[.int .i64 p1.a, .int .i64 p1.b, .float .f32 p1r2] 104 (0, 0)) := E13.heap B11
        refine da_on rfl (Eq.trans (show sl _ _ _ = .bool m12 from rfl) (congrArg Value.bool hc15)) (d_load (v := .int .i64 p1.a) rfl agg2 B16 rfl ?_)
        refine da_on rfl (Eq.trans (show sl _ _ _ = .bool m12 from rfl) (congrArg Value.bool hc15)) (d_fieldAddr rfl (fa104_1 _ _) ?_)
        refine da_on rfl (Eq.trans (show sl _ _ _ = .bool m12 from rfl) (congrArg Value.bool hc15)) (d_load (v := .int .i64 p1.b) rfl agg2 B16 rfl ?_)
        refine da_on rfl (Eq.trans (show sl _ _ _ = .bool m12 from rfl) (congrArg Value.bool hc15)) (d_icmp cNeq rfl rfl ?_)
        refine da_op rfl (d_pick (b := true) (Eq.trans (show ev _ _ = .bool m12 from rfl) (congrArg Value.bool hc15)) ?_)
        refine da_op rfl (d_mv (v := .bool (icmp .neq p1.a p1.b)) rfl ?_)
        rcases Bool.eq_false_or_eq_true (icmp .neq p1.a p1.b) with hc17 | hc17
        · skip
          replace hr := bif_t hr hc17
          refine da_on rfl (Eq.trans (show sl _ _ _ = .bool (icmp .neq p1.a p1.b) from rfl) (congrArg Value.bool hc17)) (d_fieldAddr rfl (fa104_2 _ _) ?_)
          refine da_on rfl (Eq.trans (show sl _ _ _ = .bool (icmp .neq p1.a p1.b) from rfl) (congrArg Value.bool hc17)) (d_load (v := .float .f32 p1r2) rfl agg22 B16 rfl ?_)
          obtain ⟨m18, hm18, hr⟩ := letv_out hr
          refine da_on rfl (Eq.trans (show sl _ _ _ = .bool (icmp .neq p1.a p1.b) from rfl) (congrArg Value.bool hc17)) (d_cl (vs := [.float .f32 p1r2]) en131 (ac rfl rfl) rfl ?_)
          refine (c131 p1.long p1r2 m18 w13 hm18 p1h2).mono ?_
          rintro _ w19 ⟨rfl, E19⟩
          refine ⟨_, rfl, ?_⟩
          have X20 : Ext w w19 := X14.trans E19
          refine da_op rfl (d_pick (b := true) (Eq.trans (show ev _ _ = .bool (icmp .neq p1.a p1.b) from rfl) (congrArg Value.bool hc17)) ?_)
          refine da_op rfl (d_as (v := .bool m18) rfl ?_)
          refine da_nil ?_
          subst hr
          exact ⟨rfl, (Ext.trans (Ext.trans (Ext.trans (Ext.refl w1) E8) E13) E19)⟩
        · skip
          replace hr := bif_f hr hc17
          refine da_off rfl (Eq.trans (show sl _ _ _ = .bool (icmp .neq p1.a p1.b) from rfl) (congrArg Value.bool hc17)) (by decide) ?_
          refine da_off rfl (Eq.trans (show sl _ _ _ = .bool (icmp .neq p1.a p1.b) from rfl) (congrArg Value.bool hc17)) (by decide) ?_
          refine da_off rfl (Eq.trans (show sl _ _ _ = .bool (icmp .neq p1.a p1.b) from rfl) (congrArg Value.bool hc17)) (by decide) ?_
          refine da_op rfl (d_pick (b := false) (Eq.trans (show ev _ _ = .bool (icmp .neq p1.a p1.b) from rfl) (congrArg Value.bool hc17)) ?_)
          refine da_op rfl (d_as (v := .bool false) rfl ?_)
          refine da_nil ?_
          subst hr
          exact ⟨rfl, (Ext.trans (Ext.trans (Ext.refl w1) E8) E13)⟩
      · skip
        replace hr := bif_f hr hc15
        refine da_off rfl (Eq.trans (show sl _ _ _ = .bool m12 from rfl) (congrArg Value.bool hc15)) (by decide) ?_
        refine da_off rfl (Eq.trans (show sl _ _ _ = .bool m12 from rfl) (congrArg Value.bool hc15)) (by decide) ?_
        refine da_off rfl (Eq.trans (show sl _ _ _ = .bool m12 from rfl) (congrArg Value.bool hc15)) (by decide) ?_
        refine da_off rfl (Eq.trans (show sl _ _ _ = .bool m12 from rfl) (congrArg Value.bool hc15)) (by decide) ?_
        refine da_off rfl (Eq.trans (show sl _ _ _ = .bool m12 from rfl) (congrArg Value.bool hc15)) (by decide) ?_
        refine da_op rfl (d_pick (b := false) (Eq.trans (show ev _ _ = .bool m12 from rfl) (congrArg Value.bool hc15)) ?_)
        refine da_op rfl (d_mv (v := .bool false) rfl ?_)
        refine da_off rfl rfl (by decide) ?_
        refine da_off rfl rfl (by decide) ?_
        refine da_off rfl rfl (by decide) ?_
        refine da_op rfl (d_pick (b := false) rfl ?_)
        refine da_op rfl (d_as (v := .bool false) rfl ?_)
        refine da_nil ?_
        subst hr
        exact ⟨rfl, (Ext.trans (Ext.trans (Ext.refl w1) E8) E13)⟩
    · skip
      replace hr := bif_f hr hc10
      refine da_off rfl (Eq.trans (show sl _ _ _ = .bool m7 from rfl) (congrArg Value.bool hc10)) (by decide) ?_
      refine da_off rfl (Eq.trans (show sl _ _ _ = .bool m7 from rfl) (congrArg Value.bool hc10)) (by decide) ?_
      refine da_off rfl (Eq.trans (show sl _ _ _ = .bool m7 from rfl) (congrArg Value.bool hc10)) (by decide) ?_
      refine da_off rfl (Eq.trans (show sl _ _ _ = .bool m7 from rfl) (congrArg Value.bool hc10)) (by decide) ?_
      refine da_op rfl (d_pick (b := false) (Eq.trans (show ev _ _ = .bool m7 from rfl) (congrArg Value.bool hc10)) ?_)
      refine da_op rfl (d_mv (v := .bool false) rfl ?_)
      refine da_off rfl rfl (by decide) ?_
      refine da_off rfl rfl (by decide) ?_
      refine da_off rfl rfl (by decide) ?_
      refine da_off rfl rfl (by decide) ?_
      refine da_off rfl rfl (by decide) ?_
      refine da_op rfl (d_pick (b := false) rfl ?_)
      refine da_op rfl (d_mv (v := .bool false) rfl ?_)
      refine da_off rfl rfl (by decide) ?_
      refine da_off rfl rfl (by decide) ?_
      refine da_off rfl rfl (by decide) ?_
      refine da_op rfl (d_pick (b := false) rfl ?_)
      refine da_op rfl (d_as (v := .bool false) rfl ?_)
      refine da_nil ?_
      subst hr
      exact ⟨rfl, (Ext.trans (Ext.refl w1) E8)⟩
  · skip
    rintro σ6 w6 o6 ⟨s4_6, E6⟩
    have X21 : Ext w w6 := X3.trans E6
    refine W_ret ?_
    subst hr
    refine ⟨_, res1 (rv_tmp s4_6), ?_⟩
    exact ⟨rfl, X21⟩
set_option maxHeartbeats 4000000 in
theorem c122 (p0 : SRod) (p1 : SChain) (p0r2 : Nat) (p1b p1o : Nat) (p1c : Array Value) (p1T : TypeId) (p1f : Nat × Nat) (p1v0a : Option Addr) (p1v0n : Nat) (p1v0c : Nat) (p1v1a : Option Addr) (p1v1n : Nat) (p1v1c : Nat) (p1v2a : Option Addr) (p1v2n : Nat) (p1v2c : Nat) (p1v3a : Option Addr) (p1v3n : Nat) (p1v3c : Nat) (r : Bool) (w : World) (hr : M.impl_ValidChain_1 p0 p1 = r) (p0h2 : cn .f32 p0r2 = p0.long) (p1v0R : RS w encSVector (Value.slice p1v0a p1v0n p1v0c) p1.places) (p1v1R : RS w encSVector (Value.slice p1v1a p1v1n p1v1c) p1.before) (p1v2R : RS w encF_f32 (Value.slice p1v2a p1v2n p1v2c) p1.weights) (p1v3R : RS w encSRod (Value.slice p1v3a p1v3n p1v3c) p1.rods) (p1B : w.heap[p1b]? = some (.cells p1c p1T p1f)) (p1P : (p1c.toList.drop p1o).take 4 = [(Value.slice p1v0a p1v0n p1v0c), (Value.slice p1v1a p1v1n p1v1c), (Value.slice p1v2a p1v2n p1v2c), (Value.slice p1v3a p1v3n p1v3c)]) :
    Calls Try.prog 122 #[.agg #[.int .i64 p0.a, .int .i64 p0.b, .float .f32 p0r2], .pointer (some ⟨p1b, p1o, none⟩)] w fun e w' => e = .returned (.bool r) ∧ Ext w w' := by
  refine calls_of_W Try.func122 rfl (Nat.le_of_ble_eq_true rfl) ?_
  refine W_seq ?_
  refine W_region rfl ?_
  refine da_op rfl (d_box (cs := #[.int .i64 p0.a, .int .i64 p0.b, .float .f32 p0r2]) rfl fun w1 B1 E1 => ?_)
  have own2 : w.heap.size ≤ w.heap.size := Nat.le_trans (Ext.refl w).size (Nat.le_refl _)
  have X3 : Ext w w1 := (Ext.refl w).trans E1
  refine da_op rfl (d_as (v := .bool false) rfl ?_)
  refine da_nil ?_
  refine W_seq ?_
  refine W_region rfl ?_
  refine da_op rfl (d_loads (vs := #[.int .i64 p0.a, .int .i64 p0.b, .float .f32 p0r2]) rfl agg104 size104 B1 rfl ?_)
  obtain ⟨m4, hm4, hr⟩ := letv_out hr
  have B5 : w1.heap[p1b]? = some (.cells p1c p1T p1f) := X3.heap p1B
  have B6 : RS w1 encSVector (Value.slice p1v0a p1v0n p1v0c) p1.places := p1v0R.ext X3
  have B7 : RS w1 encSVector (Value.slice p1v1a p1v1n p1v1c) p1.before := p1v1R.ext X3
  have B8 : RS w1 encF_f32 (Value.slice p1v2a p1v2n p1v2c) p1.weights := p1v2R.ext X3
  have B9 : RS w1 encSRod (Value.slice p1v3a p1v3n p1v3c) p1.rods := p1v3R.ext X3
  refine da_op rfl (d_cl (vs := [.pointer (some ⟨p1b, p1o, none⟩), .agg #[.int .i64 p0.a, .int .i64 p0.b, .float .f32 p0r2]]) en123 (ac rfl (ac rfl rfl)) rfl ?_)
  refine (c123 (⟨p1.places, p1.before, p1.weights, p1.rods⟩ : SChain) (⟨p0.a, p0.b, p0.long⟩ : SRod) p1b p1o p1c p1T p1f p1v0a p1v0n p1v0c p1v1a p1v1n p1v1c p1v2a p1v2n p1v2c p1v3a p1v3n p1v3c p0r2 m4 w1 hm4 B6 B7 B8 B9 B5 (sub_take (vs := #[(Value.slice p1v0a p1v0n p1v0c), (Value.slice p1v1a p1v1n p1v1c), (Value.slice p1v2a p1v2n p1v2c), (Value.slice p1v3a p1v3n p1v3c)]) (us := #[(Value.slice p1v0a p1v0n p1v0c), (Value.slice p1v1a p1v1n p1v1c), (Value.slice p1v2a p1v2n p1v2c), (Value.slice p1v3a p1v3n p1v3c)]) (i := 0) p1P rfl (Nat.le_of_ble_eq_true rfl)) p0h2).mono ?_
  rintro _ w10 ⟨rfl, E10⟩
  refine ⟨_, rfl, ?_⟩
  have X11 : Ext w w10 := X3.trans E10
  refine da_op rfl (d_not rfl ?_)
  refine da_op rfl (d_as (v := .bool (!m4)) rfl ?_)
  refine da_nil ?_
  refine W_ret ?_
  subst hr
  refine ⟨_, res1 (rv_tmp rfl), ?_⟩
  exact ⟨rfl, X11⟩
set_option maxHeartbeats 4000000 in
theorem c132_f122 (p0 : List SRod) (p1c0 : SChain) (p0a : Option Addr) (p0n : Nat) (p0c : Nat) (p1c0b p1c0o : Nat) (p1c0c : Array Value) (p1c0T : TypeId) (p1c0f : Nat × Nat) (p1c0v0a : Option Addr) (p1c0v0n : Nat) (p1c0v0c : Nat) (p1c0v1a : Option Addr) (p1c0v1n : Nat) (p1c0v1c : Nat) (p1c0v2a : Option Addr) (p1c0v2n : Nat) (p1c0v2c : Nat) (p1c0v3a : Option Addr) (p1c0v3n : Nat) (p1c0v3c : Nat) (r : Int) (w : World) (hr : M.slices_IndexFunc___impl_Rod_impl_Rod__f122 p0 p1c0 = some r) (p0R : RS w encSRod (Value.slice p0a p0n p0c) p0) (p1c0v0R : RS w encSVector (Value.slice p1c0v0a p1c0v0n p1c0v0c) p1c0.places) (p1c0v1R : RS w encSVector (Value.slice p1c0v1a p1c0v1n p1c0v1c) p1c0.before) (p1c0v2R : RS w encF_f32 (Value.slice p1c0v2a p1c0v2n p1c0v2c) p1c0.weights) (p1c0v3R : RS w encSRod (Value.slice p1c0v3a p1c0v3n p1c0v3c) p1c0.rods) (p1c0B : w.heap[p1c0b]? = some (.cells p1c0c p1c0T p1c0f)) (p1c0P : (p1c0c.toList.drop p1c0o).take 4 = [(Value.slice p1c0v0a p1c0v0n p1c0v0c), (Value.slice p1c0v1a p1c0v1n p1c0v1c), (Value.slice p1c0v2a p1c0v2n p1c0v2c), (Value.slice p1c0v3a p1c0v3n p1c0v3c)]) :
    Calls Try.prog 132 #[(Value.slice p0a p0n p0c), .func (.func 122) #[] #[.pointer (some ⟨p1c0b, p1c0o, none⟩)]] w fun e w' => e = .returned (.int .i64 r) ∧ Ext w w' := by
  refine calls_of_W Try.func132 rfl (Nat.le_of_ble_eq_true rfl) ?_
  refine W_seq ?_
  refine W_region rfl ?_
  refine da_op rfl (d_as (v := .int .i64 0) rfl ?_)
  refine da_nil ?_
  refine W_seq ?_
  refine W_seq ?_
  refine W_region rfl ?_
  refine da_op rfl (d_mv (v := (Value.slice p0a p0n p0c)) rfl ?_)
  refine da_op rfl (d_len (e := encSRod) un49 rfl p0R ?_)
  refine da_op rfl (d_mv (v := .int .i64 0) rfl ?_)
  refine da_nil ?_
  refine W_block ?_
  obtain ⟨m1, hm1, hr⟩ := bind_out hr
  refine W_loopM hm1 (fun (s1 : Int) σ w' => σ 8 = .int .i64 s1 ∧ σ 0 = (Value.slice p0a p0n p0c) ∧ σ 1 = .func (.func 122) #[] #[.pointer (some ⟨p1c0b, p1c0o, none⟩)] ∧ σ 7 = .int .i64 ((p0).length : Int) ∧ Ext w w') (fun (e1 : (Unit ⊕ Int)) ex σ w' => sel e1 (fun e1 => ex = .exit 0 ∧ Ext w w') (fun e1 => ex = .ret ∧ σ 4 = .int .i64 e1 ∧ Ext w w')) ⟨rfl, rfl, rfl, rfl, (Ext.refl w)⟩ ?_ ?_
  · skip
    rintro s1 σl1 wl1 r1l ⟨i1_S8, i1_S0, i1_S1, i1_S7, i1_X⟩ hr
    refine W_seq ?_
    refine W_region rfl ?_
    refine da_op rfl (d_icmp cLss i1_S8 i1_S7 ?_)
    refine da_nil ?_
    refine W_seq ?_
    refine W_cond (b := (icmp .lss s1 ((p0).length : Int))) rfl (fun hc2 => ?_) (fun hc2 => ?_)
    · skip
      replace hr := bif_t hr hc2
      refine W_skip ?_
      refine W_seq ?_
      refine W_block ?_
      refine W_seq ?_
      refine W_region rfl ?_
      refine da_op rfl (d_mv (v := .int .i64 s1) i1_S8 ?_)
      refine da_op rfl (d_as (v := .int .i64 s1) rfl ?_)
      refine da_nil ?_
      refine W_seq ?_
      refine W_region rfl ?_
      refine da_op rfl (d_mv (v := .func (.func 122) #[] #[.pointer (some ⟨p1c0b, p1c0o, none⟩)]) i1_S1 ?_)
      refine da_op rfl (d_mv (v := (Value.slice p0a p0n p0c)) i1_S0 ?_)
      refine da_op rfl (d_mv (v := .int .i64 s1) rfl ?_)
      obtain ⟨m3, hm3, hr⟩ := bind_out hr
      have B5 : RS wl1 encSRod (Value.slice p0a p0n p0c) p0 := p0R.ext i1_X
      refine da_op rfl (d_index (e := encSRod) (v := (Value.slice p0a p0n p0c)) un49 size104 rfl rfl B5 hm3 fun g4 o4 cu4 T4 fr4 vs4 hv4 hg4 hp4 hq4 => ?_)
      obtain ⟨e4_r2, rfl, e4_h2⟩ := dec_encSRod hq4
      refine da_op rfl (d_loads (vs := #[.int .i64 m3.a, .int .i64 m3.b, .float .f32 e4_r2]) rfl agg104 size104 hg4 (sub_take (vs := #[.int .i64 m3.a, .int .i64 m3.b, .float .f32 e4_r2]) (us := #[.int .i64 m3.a, .int .i64 m3.b, .float .f32 e4_r2]) (i := 0) hp4 rfl (Nat.le_of_ble_eq_true rfl)) ?_)
      obtain ⟨m6, hm6, hr⟩ := letv_out hr
      have B7 : wl1.heap[p1c0b]? = some (.cells p1c0c p1c0T p1c0f) := i1_X.heap p1c0B
      have B8 : RS wl1 encSVector (Value.slice p1c0v0a p1c0v0n p1c0v0c) p1c0.places := p1c0v0R.ext i1_X
      have B9 : RS wl1 encSVector (Value.slice p1c0v1a p1c0v1n p1c0v1c) p1c0.before := p1c0v1R.ext i1_X
      have B10 : RS wl1 encF_f32 (Value.slice p1c0v2a p1c0v2n p1c0v2c) p1c0.weights := p1c0v2R.ext i1_X
      have B11 : RS wl1 encSRod (Value.slice p1c0v3a p1c0v3n p1c0v3c) p1c0.rods := p1c0v3R.ext i1_X
      refine da_op rfl (d_clv (vs := [.agg #[.int .i64 m3.a, .int .i64 m3.b, .float .f32 e4_r2]]) (cap := [.pointer (some ⟨p1c0b, p1c0o, none⟩)]) en122 rfl (ac rfl rfl) ?_)
      refine (c122 m3 p1c0 e4_r2 p1c0b p1c0o p1c0c p1c0T p1c0f p1c0v0a p1c0v0n p1c0v0c p1c0v1a p1c0v1n p1c0v1c p1c0v2a p1c0v2n p1c0v2c p1c0v3a p1c0v3n p1c0v3c m6 wl1 hm6 e4_h2 B8 B9 B10 B11 B7 (sub_take (vs := #[(Value.slice p1c0v0a p1c0v0n p1c0v0c), (Value.slice p1c0v1a p1c0v1n p1c0v1c), (Value.slice p1c0v2a p1c0v2n p1c0v2c), (Value.slice p1c0v3a p1c0v3n p1c0v3c)]) (us := #[(Value.slice p1c0v0a p1c0v0n p1c0v0c), (Value.slice p1c0v1a p1c0v1n p1c0v1c), (Value.slice p1c0v2a p1c0v2n p1c0v2c), (Value.slice p1c0v3a p1c0v3n p1c0v3c)]) (i := 0) p1c0P rfl (Nat.le_of_ble_eq_true rfl))).mono ?_
      rintro _ w12 ⟨rfl, E12⟩
      refine ⟨_, rfl, ?_⟩
      have X13 : Ext w w12 := i1_X.trans E12
      refine da_nil ?_
      refine W_cond (b := m6) rfl (fun hc14 => ?_) (fun hc14 => ?_)
      · skip
        replace hr := bif_t hr hc14
        refine W_seq ?_
        refine W_region rfl ?_
        refine da_op rfl (d_mv (v := .int .i64 s1) rfl ?_)
        refine da_op rfl (d_as (v := .int .i64 s1) rfl ?_)
        refine da_nil ?_
        refine W_ret ?_
        obtain rfl := Option.some.inj hr
        exact ⟨_, rfl, rfl, rfl, X13⟩
      · skip
        replace hr := bif_f hr hc14
        refine W_skip ?_
        refine W_region rfl ?_
        refine da_op rfl (d_iarith i1_S8 rfl (.inl ⟨rfl, rfl⟩) ?_)
        refine da_op rfl (d_mv (v := .int .i64 (IntKind.i64.wrap (s1 + 1))) rfl ?_)
        refine da_nil ?_
        obtain rfl := Option.some.inj hr
        exact ⟨_, rfl, ⟨rfl, i1_S0, i1_S1, i1_S7, X13⟩⟩
    · skip
      replace hr := bif_f hr hc2
      refine W_exit ?_
      obtain rfl := Option.some.inj hr
      exact ⟨_, rfl, rfl, i1_X⟩
  · skip
    intro ex σx1 wx1 hq
    rcases m1 with m1 | m1
    · skip
      obtain ⟨rfl, q1_0_X⟩ := hq
      refine W_seq ?_
      refine W_region rfl ?_
      refine da_op rfl (d_as (v := .int .i64 (-1)) rfl ?_)
      refine da_nil ?_
      refine W_ret ?_
      obtain rfl := Option.some.inj hr
      refine ⟨_, res1 (rv_tmp rfl), ?_⟩
      exact ⟨rfl, q1_0_X⟩
    · skip
      obtain ⟨rfl, q1_1_S4, q1_1_X⟩ := hq
      obtain rfl := Option.some.inj hr
      refine ⟨_, res1 (rv_tmp q1_1_S4), ?_⟩
      exact ⟨rfl, q1_1_X⟩
set_option maxHeartbeats 4000000 in
theorem c121_f122 (p0 : List SRod) (p1c0 : SChain) (p0a : Option Addr) (p0n : Nat) (p0c : Nat) (p1c0b p1c0o : Nat) (p1c0c : Array Value) (p1c0T : TypeId) (p1c0f : Nat × Nat) (p1c0v0a : Option Addr) (p1c0v0n : Nat) (p1c0v0c : Nat) (p1c0v1a : Option Addr) (p1c0v1n : Nat) (p1c0v1c : Nat) (p1c0v2a : Option Addr) (p1c0v2n : Nat) (p1c0v2c : Nat) (p1c0v3a : Option Addr) (p1c0v3n : Nat) (p1c0v3c : Nat) (r : Bool) (w : World) (hr : M.slices_ContainsFunc___impl_Rod_impl_Rod__f122 p0 p1c0 = some r) (p0R : RS w encSRod (Value.slice p0a p0n p0c) p0) (p1c0v0R : RS w encSVector (Value.slice p1c0v0a p1c0v0n p1c0v0c) p1c0.places) (p1c0v1R : RS w encSVector (Value.slice p1c0v1a p1c0v1n p1c0v1c) p1c0.before) (p1c0v2R : RS w encF_f32 (Value.slice p1c0v2a p1c0v2n p1c0v2c) p1c0.weights) (p1c0v3R : RS w encSRod (Value.slice p1c0v3a p1c0v3n p1c0v3c) p1c0.rods) (p1c0B : w.heap[p1c0b]? = some (.cells p1c0c p1c0T p1c0f)) (p1c0P : (p1c0c.toList.drop p1c0o).take 4 = [(Value.slice p1c0v0a p1c0v0n p1c0v0c), (Value.slice p1c0v1a p1c0v1n p1c0v1c), (Value.slice p1c0v2a p1c0v2n p1c0v2c), (Value.slice p1c0v3a p1c0v3n p1c0v3c)]) :
    Calls Try.prog 121 #[(Value.slice p0a p0n p0c), .func (.func 122) #[] #[.pointer (some ⟨p1c0b, p1c0o, none⟩)]] w fun e w' => e = .returned (.bool r) ∧ Ext w w' := by
  refine calls_of_W Try.func121 rfl (Nat.le_of_ble_eq_true rfl) ?_
  refine W_seq ?_
  refine W_region rfl ?_
  refine da_op rfl (d_as (v := .bool false) rfl ?_)
  refine da_nil ?_
  refine W_seq ?_
  refine W_region rfl ?_
  refine da_op rfl (d_mv (v := (Value.slice p0a p0n p0c)) rfl ?_)
  refine da_op rfl (d_mv (v := .func (.func 122) #[] #[.pointer (some ⟨p1c0b, p1c0o, none⟩)]) rfl ?_)
  obtain ⟨m1, hm1, hr⟩ := bind_out hr
  refine da_op rfl (d_cl (vs := [(Value.slice p0a p0n p0c), .func (.func 122) #[] #[.pointer (some ⟨p1c0b, p1c0o, none⟩)]]) en132 (ac rfl (ac rfl rfl)) rfl ?_)
  refine (c132_f122 p0 p1c0 p0a p0n p0c p1c0b p1c0o p1c0c p1c0T p1c0f p1c0v0a p1c0v0n p1c0v0c p1c0v1a p1c0v1n p1c0v1c p1c0v2a p1c0v2n p1c0v2c p1c0v3a p1c0v3n p1c0v3c m1 w hm1 p0R p1c0v0R p1c0v1R p1c0v2R p1c0v3R p1c0B (sub_take (vs := #[(Value.slice p1c0v0a p1c0v0n p1c0v0c), (Value.slice p1c0v1a p1c0v1n p1c0v1c), (Value.slice p1c0v2a p1c0v2n p1c0v2c), (Value.slice p1c0v3a p1c0v3n p1c0v3c)]) (us := #[(Value.slice p1c0v0a p1c0v0n p1c0v0c), (Value.slice p1c0v1a p1c0v1n p1c0v1c), (Value.slice p1c0v2a p1c0v2n p1c0v2c), (Value.slice p1c0v3a p1c0v3n p1c0v3c)]) (i := 0) p1c0P rfl (Nat.le_of_ble_eq_true rfl))).mono ?_
  rintro _ w2 ⟨rfl, E2⟩
  refine ⟨_, rfl, ?_⟩
  have X3 : Ext w w2 := (Ext.refl w).trans E2
  refine da_op rfl (d_icmp cGeq rfl rfl ?_)
  refine da_op rfl (d_as (v := .bool (icmp .geq m1 0)) rfl ?_)
  refine da_nil ?_
  refine W_ret ?_
  obtain rfl := Option.some.inj hr
  refine ⟨_, res1 (rv_tmp rfl), ?_⟩
  exact ⟨rfl, X3⟩
set_option maxHeartbeats 4000000 in
theorem c104 (p0 : SChain) (p0v0a : Option Addr) (p0v0n : Nat) (p0v0c : Nat) (p0v1a : Option Addr) (p0v1n : Nat) (p0v1c : Nat) (p0v2a : Option Addr) (p0v2n : Nat) (p0v2c : Nat) (p0v3a : Option Addr) (p0v3n : Nat) (p0v3c : Nat) (r : Bool) (w : World) (hr : M.impl_ValidChain p0 = some r) (p0v0R : RS w encSVector (Value.slice p0v0a p0v0n p0v0c) p0.places) (p0v1R : RS w encSVector (Value.slice p0v1a p0v1n p0v1c) p0.before) (p0v2R : RS w encF_f32 (Value.slice p0v2a p0v2n p0v2c) p0.weights) (p0v3R : RS w encSRod (Value.slice p0v3a p0v3n p0v3c) p0.rods) :
    Calls Try.prog 104 #[.agg #[(Value.slice p0v0a p0v0n p0v0c), (Value.slice p0v1a p0v1n p0v1c), (Value.slice p0v2a p0v2n p0v2c), (Value.slice p0v3a p0v3n p0v3c)]] w fun e w' => e = .returned (.bool r) ∧ Ext w w' := by
  refine calls_of_W Try.func104 rfl (Nat.le_of_ble_eq_true rfl) ?_
  refine W_seq ?_
  refine W_region rfl ?_
  refine da_op rfl (d_box (cs := #[(Value.slice p0v0a p0v0n p0v0c), (Value.slice p0v1a p0v1n p0v1c), (Value.slice p0v2a p0v2n p0v2c), (Value.slice p0v3a p0v3n p0v3c)]) rfl fun w1 B1 E1 => ?_)
  have own2 : w.heap.size ≤ w.heap.size := Nat.le_trans (Ext.refl w).size (Nat.le_refl _)
  have X3 : Ext w w1 := (Ext.refl w).trans E1
  refine da_op rfl (d_as (v := .bool false) rfl ?_)
  refine da_nil ?_
  refine W_seq ?_
  refine W_region rfl ?_
  refine da_op rfl (d_fieldAddr rfl (fa51_0 _ _) ?_)
  refine da_op rfl (d_load (v := (Value.slice p0v0a p0v0n p0v0c)) rfl agg33 B1 rfl ?_)
  have B4 : RS w1 encSVector (Value.slice p0v0a p0v0n p0v0c) p0.places := p0v0R.ext X3
  refine da_op rfl (d_len (e := encSVector) un33 rfl B4 ?_)
  refine da_op rfl (d_as (v := .int .i64 ((p0.places).length : Int)) rfl ?_)
  refine da_nil ?_
  refine W_seq ?_
  refine W_seq ?_
  obtain ⟨m5, hm5, hr⟩ := letv_out hr
  refine W_cut (fun σ' w' => σ' 28 = .bool m5 ∧ Ext w1 w') rfl ?_ ?_
  · skip
    have hr := hm5
    refine da_op rfl (d_mv (v := .int .i64 ((p0.places).length : Int)) rfl ?_)
    refine da_op rfl (d_icmp cGtr rfl rfl ?_)
    refine da_op rfl (d_mv (v := .bool (icmp .gtr ((p0.places).length : Int) 24)) rfl ?_)
    rcases Bool.eq_false_or_eq_true (icmp .gtr ((p0.places).length : Int) 24) with hc6 | hc6
    · skip
      replace hr := bif_t hr hc6
      refine da_off rfl (Eq.trans (show sl _ _ _ = .bool (icmp .gtr ((p0.places).length : Int) 24) from rfl) (congrArg Value.bool hc6)) (by decide) ?_
      refine da_off rfl (Eq.trans (show sl _ _ _ = .bool (icmp .gtr ((p0.places).length : Int) 24) from rfl) (congrArg Value.bool hc6)) (by decide) ?_
      refine da_off rfl (Eq.trans (show sl _ _ _ = .bool (icmp .gtr ((p0.places).length : Int) 24) from rfl) (congrArg Value.bool hc6)) (by decide) ?_
      refine da_off rfl (Eq.trans (show sl _ _ _ = .bool (icmp .gtr ((p0.places).length : Int) 24) from rfl) (congrArg Value.bool hc6)) (by decide) ?_
      refine da_off rfl (Eq.trans (show sl _ _ _ = .bool (icmp .gtr ((p0.places).length : Int) 24) from rfl) (congrArg Value.bool hc6)) (by decide) ?_
      refine da_op rfl (d_pick (b := true) (Eq.trans (show ev _ _ = .bool (icmp .gtr ((p0.places).length : Int) 24) from rfl) (congrArg Value.bool hc6)) ?_)
      refine da_op rfl (d_mv (v := .bool true) rfl ?_)
      refine da_off rfl rfl (by decide) ?_
      refine da_off rfl rfl (by decide) ?_
      refine da_off rfl rfl (by decide) ?_
      refine da_off rfl rfl (by decide) ?_
      refine da_off rfl rfl (by decide) ?_
      refine da_op rfl (d_pick (b := true) rfl ?_)
      refine da_op rfl (d_mv (v := .bool true) rfl ?_)
      refine da_off rfl rfl (by decide) ?_
      refine da_off rfl rfl (by decide) ?_
      refine da_off rfl rfl (by decide) ?_
      refine da_off rfl rfl (by decide) ?_
      refine da_op rfl (d_pick (b := true) rfl ?_)
      refine da_nil ?_
      subst hr
      exact ⟨rfl, (Ext.refl w1)⟩
    · skip
      replace hr := bif_f hr hc6
      refine da_on rfl (Eq.trans (show sl _ _ _ = .bool (icmp .gtr ((p0.places).length : Int) 24) from rfl) (congrArg Value.bool hc6)) (d_fieldAddr rfl (fa51_1 _ _) ?_)
      refine da_on rfl (Eq.trans (show sl _ _ _ = .bool (icmp .gtr ((p0.places).length : Int) 24) from rfl) (congrArg Value.bool hc6)) (d_load (v := (Value.slice p0v1a p0v1n p0v1c)) rfl agg33 B1 rfl ?_)
      have B7 : RS w1 encSVector (Value.slice p0v1a p0v1n p0v1c) p0.before := p0v1R.ext X3
      refine da_on rfl (Eq.trans (show sl _ _ _ = .bool (icmp .gtr ((p0.places).length : Int) 24) from rfl) (congrArg Value.bool hc6)) (d_len (e := encSVector) un33 rfl B7 ?_)
      refine da_on rfl (Eq.trans (show sl _ _ _ = .bool (icmp .gtr ((p0.places).length : Int) 24) from rfl) (congrArg Value.bool hc6)) (d_mv (v := .int .i64 ((p0.places).length : Int)) rfl ?_)
      refine da_on rfl (Eq.trans (show sl _ _ _ = .bool (icmp .gtr ((p0.places).length : Int) 24) from rfl) (congrArg Value.bool hc6)) (d_icmp cNeq rfl rfl ?_)
      refine da_op rfl (d_pick (b := false) (Eq.trans (show ev _ _ = .bool (icmp .gtr ((p0.places).length : Int) 24) from rfl) (congrArg Value.bool hc6)) ?_)
      refine da_op rfl (d_mv (v := .bool (icmp .neq ((p0.before).length : Int) ((p0.places).length : Int))) rfl ?_)
      rcases Bool.eq_false_or_eq_true (icmp .neq ((p0.before).length : Int) ((p0.places).length : Int)) with hc8 | hc8
      · skip
        replace hr := bif_t hr hc8
        refine da_off rfl (Eq.trans (show sl _ _ _ = .bool (icmp .neq ((p0.before).length : Int) ((p0.places).length : Int)) from rfl) (congrArg Value.bool hc8)) (by decide) ?_
        refine da_off rfl (Eq.trans (show sl _ _ _ = .bool (icmp .neq ((p0.before).length : Int) ((p0.places).length : Int)) from rfl) (congrArg Value.bool hc8)) (by decide) ?_
        refine da_off rfl (Eq.trans (show sl _ _ _ = .bool (icmp .neq ((p0.before).length : Int) ((p0.places).length : Int)) from rfl) (congrArg Value.bool hc8)) (by decide) ?_
        refine da_off rfl (Eq.trans (show sl _ _ _ = .bool (icmp .neq ((p0.before).length : Int) ((p0.places).length : Int)) from rfl) (congrArg Value.bool hc8)) (by decide) ?_
        refine da_off rfl (Eq.trans (show sl _ _ _ = .bool (icmp .neq ((p0.before).length : Int) ((p0.places).length : Int)) from rfl) (congrArg Value.bool hc8)) (by decide) ?_
        refine da_op rfl (d_pick (b := true) (Eq.trans (show ev _ _ = .bool (icmp .neq ((p0.before).length : Int) ((p0.places).length : Int)) from rfl) (congrArg Value.bool hc8)) ?_)
        refine da_op rfl (d_mv (v := .bool true) rfl ?_)
        refine da_off rfl rfl (by decide) ?_
        refine da_off rfl rfl (by decide) ?_
        refine da_off rfl rfl (by decide) ?_
        refine da_off rfl rfl (by decide) ?_
        refine da_op rfl (d_pick (b := true) rfl ?_)
        refine da_nil ?_
        subst hr
        exact ⟨rfl, (Ext.refl w1)⟩
      · skip
        replace hr := bif_f hr hc8
        refine da_on rfl (Eq.trans (show sl _ _ _ = .bool (icmp .neq ((p0.before).length : Int) ((p0.places).length : Int)) from rfl) (congrArg Value.bool hc8)) (d_fieldAddr rfl (fa51_2 _ _) ?_)
        refine da_on rfl (Eq.trans (show sl _ _ _ = .bool (icmp .neq ((p0.before).length : Int) ((p0.places).length : Int)) from rfl) (congrArg Value.bool hc8)) (d_load (v := (Value.slice p0v2a p0v2n p0v2c)) rfl agg48 B1 rfl ?_)
        have B9 : RS w1 encF_f32 (Value.slice p0v2a p0v2n p0v2c) p0.weights := p0v2R.ext X3
        refine da_on rfl (Eq.trans (show sl _ _ _ = .bool (icmp .neq ((p0.before).length : Int) ((p0.places).length : Int)) from rfl) (congrArg Value.bool hc8)) (d_len (e := encF_f32) un48 rfl B9 ?_)
        refine da_on rfl (Eq.trans (show sl _ _ _ = .bool (icmp .neq ((p0.before).length : Int) ((p0.places).length : Int)) from rfl) (congrArg Value.bool hc8)) (d_mv (v := .int .i64 ((p0.places).length : Int)) rfl ?_)
        refine da_on rfl (Eq.trans (show sl _ _ _ = .bool (icmp .neq ((p0.before).length : Int) ((p0.places).length : Int)) from rfl) (congrArg Value.bool hc8)) (d_icmp cNeq rfl rfl ?_)
        refine da_op rfl (d_pick (b := false) (Eq.trans (show ev _ _ = .bool (icmp .neq ((p0.before).length : Int) ((p0.places).length : Int)) from rfl) (congrArg Value.bool hc8)) ?_)
        refine da_op rfl (d_mv (v := .bool (icmp .neq ((p0.weights).length : Int) ((p0.places).length : Int))) rfl ?_)
        rcases Bool.eq_false_or_eq_true (icmp .neq ((p0.weights).length : Int) ((p0.places).length : Int)) with hc10 | hc10
        · skip
          replace hr := bif_t hr hc10
          refine da_off rfl (Eq.trans (show sl _ _ _ = .bool (icmp .neq ((p0.weights).length : Int) ((p0.places).length : Int)) from rfl) (congrArg Value.bool hc10)) (by decide) ?_
          refine da_off rfl (Eq.trans (show sl _ _ _ = .bool (icmp .neq ((p0.weights).length : Int) ((p0.places).length : Int)) from rfl) (congrArg Value.bool hc10)) (by decide) ?_
          refine da_off rfl (Eq.trans (show sl _ _ _ = .bool (icmp .neq ((p0.weights).length : Int) ((p0.places).length : Int)) from rfl) (congrArg Value.bool hc10)) (by decide) ?_
          refine da_off rfl (Eq.trans (show sl _ _ _ = .bool (icmp .neq ((p0.weights).length : Int) ((p0.places).length : Int)) from rfl) (congrArg Value.bool hc10)) (by decide) ?_
          refine da_op rfl (d_pick (b := true) (Eq.trans (show ev _ _ = .bool (icmp .neq ((p0.weights).length : Int) ((p0.places).length : Int)) from rfl) (congrArg Value.bool hc10)) ?_)
          refine da_nil ?_
          subst hr
          exact ⟨rfl, (Ext.refl w1)⟩
        · skip
          replace hr := bif_f hr hc10
          refine da_on rfl (Eq.trans (show sl _ _ _ = .bool (icmp .neq ((p0.weights).length : Int) ((p0.places).length : Int)) from rfl) (congrArg Value.bool hc10)) (d_fieldAddr rfl (fa51_3 _ _) ?_)
          refine da_on rfl (Eq.trans (show sl _ _ _ = .bool (icmp .neq ((p0.weights).length : Int) ((p0.places).length : Int)) from rfl) (congrArg Value.bool hc10)) (d_load (v := (Value.slice p0v3a p0v3n p0v3c)) rfl agg49 B1 rfl ?_)
          have B11 : RS w1 encSRod (Value.slice p0v3a p0v3n p0v3c) p0.rods := p0v3R.ext X3
          refine da_on rfl (Eq.trans (show sl _ _ _ = .bool (icmp .neq ((p0.weights).length : Int) ((p0.places).length : Int)) from rfl) (congrArg Value.bool hc10)) (d_len (e := encSRod) un49 rfl B11 ?_)
          refine da_on rfl (Eq.trans (show sl _ _ _ = .bool (icmp .neq ((p0.weights).length : Int) ((p0.places).length : Int)) from rfl) (congrArg Value.bool hc10)) (d_icmp cGtr rfl rfl ?_)
          refine da_op rfl (d_pick (b := false) (Eq.trans (show ev _ _ = .bool (icmp .neq ((p0.weights).length : Int) ((p0.places).length : Int)) from rfl) (congrArg Value.bool hc10)) ?_)
          refine da_nil ?_
          subst hr
          exact ⟨rfl, (Ext.refl w1)⟩
  · skip
    rintro σ5 w5 o5 ⟨s28_5, E5⟩
    have s1_5 : σ5 1 = .pointer (some ⟨w.heap.size, 0, none⟩) := (o5 1 rfl).trans rfl
    have X12 : Ext w w5 := X3.trans E5
    refine W_cond (b := m5) s28_5 (fun hc13 => ?_) (fun hc13 => ?_)
    · skip
      replace hr := bif_t hr hc13
      refine W_seq ?_
      refine W_region rfl ?_
      refine da_op rfl (d_as (v := .bool false) rfl ?_)
      refine da_nil ?_
      refine W_ret ?_
      obtain rfl := Option.some.inj hr
      refine ⟨_, res1 (rv_tmp rfl), ?_⟩
      exact ⟨rfl, X12⟩
    · skip
      replace hr := bif_f hr hc13
      refine W_skip ?_
      refine W_seq ?_
      refine W_seq ?_
      have B15 : w5.heap[w.heap.size]? = some (.cells #[(Value.slice p0v0a p0v0n p0v0c), (Value.slice p0v1a p0v1n p0v1c), (Value.slice p0v2a p0v2n p0v2c), (Value.slice p0v3a p0v3n p0v3c)] 51 (0, 0)) := E5.heap B1
      obtain ⟨m14, hm14, hr⟩ := bind_out hr
      refine W_cut (fun σ' w' => σ' 41 = .bool m14 ∧ Ext w5 w') rfl ?_ ?_
      · skip
        have hr := hm14
        refine da_op rfl (d_fieldAddr s1_5 (fa51_0 _ _) ?_)
        refine da_op rfl (d_load (v := (Value.slice p0v0a p0v0n p0v0c)) rfl agg33 B15 rfl ?_)
        obtain ⟨m16, hm16, hr⟩ := bind_out hr
        have B17 : RS w5 encSVector (Value.slice p0v0a p0v0n p0v0c) p0.places := p0v0R.ext X12
        refine da_op rfl (d_cl (vs := [(Value.slice p0v0a p0v0n p0v0c), .func (.func 119) #[] #[]]) en118 (ac rfl (ac rfl rfl)) rfl ?_)
        refine (c118_f119 p0.places p0v0a p0v0n p0v0c m16 w5 hm16 B17).mono ?_
        rintro _ w18 ⟨rfl, E18⟩
        refine ⟨_, rfl, ?_⟩
        have X19 : Ext w w18 := X12.trans E18
        refine da_op rfl (d_mv (v := .bool m16) rfl ?_)
        rcases Bool.eq_false_or_eq_true m16 with hc20 | hc20
        · skip
          replace hr := bif_t hr hc20
          refine da_off rfl (Eq.trans (show sl _ _ _ = .bool m16 from rfl) (congrArg Value.bool hc20)) (by decide) ?_
          refine da_off rfl (Eq.trans (show sl _ _ _ = .bool m16 from rfl) (congrArg Value.bool hc20)) (by decide) ?_
          refine da_off rfl (Eq.trans (show sl _ _ _ = .bool m16 from rfl) (congrArg Value.bool hc20)) (by decide) ?_
          refine da_op rfl (d_pick (b := true) (Eq.trans (show ev _ _ = .bool m16 from rfl) (congrArg Value.bool hc20)) ?_)
          refine da_op rfl (d_mv (v := .bool true) rfl ?_)
          refine da_off rfl rfl (by decide) ?_
          refine da_off rfl rfl (by decide) ?_
          refine da_off rfl rfl (by decide) ?_
          refine da_op rfl (d_pick (b := true) rfl ?_)
          refine da_nil ?_
          obtain rfl := Option.some.inj hr
          exact ⟨rfl, (Ext.trans (Ext.refl w5) E18)⟩
        · skip
          replace hr := bif_f hr hc20
          refine da_on rfl (Eq.trans (show sl _ _ _ = .bool m16 from rfl) (congrArg Value.bool hc20)) (d_fieldAddr s1_5 (fa51_1 _ _) ?_)
          have B21 : w18.heap[w.heap.size]? = some (.cells #[(Value.slice p0v0a p0v0n p0v0c), (Value.slice p0v1a p0v1n p0v1c), (Value.slice p0v2a p0v2n p0v2c), (Value.slice p0v3a p0v3n p0v3c)] 51 (0, 0)) := E18.heap B15
          refine da_on rfl (Eq.trans (show sl _ _ _ = .bool m16 from rfl) (congrArg Value.bool hc20)) (d_load (v := (Value.slice p0v1a p0v1n p0v1c)) rfl agg33 B21 rfl ?_)
          obtain ⟨m22, hm22, hr⟩ := bind_out hr
          have B23 : RS w18 encSVector (Value.slice p0v1a p0v1n p0v1c) p0.before := p0v1R.ext X19
          refine da_on rfl (Eq.trans (show sl _ _ _ = .bool m16 from rfl) (congrArg Value.bool hc20)) (d_cl (vs := [(Value.slice p0v1a p0v1n p0v1c), .func (.func 119) #[] #[]]) en118 (ac rfl (ac rfl rfl)) rfl ?_)
          refine (c118_f119 p0.before p0v1a p0v1n p0v1c m22 w18 hm22 B23).mono ?_
          rintro _ w24 ⟨rfl, E24⟩
          refine ⟨_, rfl, ?_⟩
          have X25 : Ext w w24 := X19.trans E24
          refine da_op rfl (d_pick (b := false) (Eq.trans (show ev _ _ = .bool m16 from rfl) (congrArg Value.bool hc20)) ?_)
          refine da_op rfl (d_mv (v := .bool m22) rfl ?_)
          rcases Bool.eq_false_or_eq_true m22 with hc26 | hc26
          · skip
            replace hr := bif_t hr hc26
            refine da_off rfl (Eq.trans (show sl _ _ _ = .bool m22 from rfl) (congrArg Value.bool hc26)) (by decide) ?_
            refine da_off rfl (Eq.trans (show sl _ _ _ = .bool m22 from rfl) (congrArg Value.bool hc26)) (by decide) ?_
            refine da_off rfl (Eq.trans (show sl _ _ _ = .bool m22 from rfl) (congrArg Value.bool hc26)) (by decide) ?_
            refine da_op rfl (d_pick (b := true) (Eq.trans (show ev _ _ = .bool m22 from rfl) (congrArg Value.bool hc26)) ?_)
            refine da_nil ?_
            obtain rfl := Option.some.inj hr
            exact ⟨rfl, (Ext.trans (Ext.trans (Ext.refl w5) E18) E24)⟩
          · skip
            replace hr := bif_f hr hc26
            refine da_on rfl (Eq.trans (show sl _ _ _ = .bool m22 from rfl) (congrArg Value.bool hc26)) (d_fieldAddr s1_5 (fa51_2 _ _) ?_)
            have B27 : w24.heap[w.heap.size]? = some (.cells #[(Value.slice p0v0a p0v0n p0v0c), (Value.slice p0v1a p0v1n p0v1c), (Value.slice p0v2a p0v2n p0v2c), (Value.slice p0v3a p0v3n p0v3c)] 51 (0, 0)) := E24.heap B21
            refine da_on rfl (Eq.trans (show sl _ _ _ = .bool m22 from rfl) (congrArg Value.bool hc26)) (d_load (v := (Value.slice p0v2a p0v2n p0v2c)) rfl agg48 B27 rfl ?_)
            obtain ⟨m28, hm28, hr⟩ := bind_out hr
            have B29 : RS w24 encF_f32 (Value.slice p0v2a p0v2n p0v2c) p0.weights := p0v2R.ext X25
            refine da_on rfl (Eq.trans (show sl _ _ _ = .bool m22 from rfl) (congrArg Value.bool hc26)) (d_cl (vs := [(Value.slice p0v2a p0v2n p0v2c), .func (.func 120) #[] #[]]) en60 (ac rfl (ac rfl rfl)) rfl ?_)
            refine (c60_f120 p0.weights p0v2a p0v2n p0v2c m28 w24 hm28 B29).mono ?_
            rintro _ w30 ⟨rfl, E30⟩
            refine ⟨_, rfl, ?_⟩
            have X31 : Ext w w30 := X25.trans E30
            refine da_op rfl (d_pick (b := false) (Eq.trans (show ev _ _ = .bool m22 from rfl) (congrArg Value.bool hc26)) ?_)
            refine da_nil ?_
            obtain rfl := Option.some.inj hr
            exact ⟨rfl, (Ext.trans (Ext.trans (Ext.trans (Ext.refl w5) E18) E24) E30)⟩
      · skip
        rintro σ14 w14 o14 ⟨s41_14, E14⟩
        have s1_14 : σ14 1 = .pointer (some ⟨w.heap.size, 0, none⟩) := (o14 1 rfl).trans s1_5
        have X32 : Ext w w14 := X12.trans E14
        refine W_cond (b := m14) s41_14 (fun hc33 => ?_) (fun hc33 => ?_)
        · skip
          replace hr := bif_t hr hc33
          refine W_seq ?_
          refine W_region rfl ?_
          refine da_op rfl (d_as (v := .bool false) rfl ?_)
          refine da_nil ?_
          refine W_ret ?_
          obtain rfl := Option.some.inj hr
          refine ⟨_, res1 (rv_tmp rfl), ?_⟩
          exact ⟨rfl, X32⟩
        · skip
          replace hr := bif_f hr hc33
          refine W_skip ?_
          refine W_seq ?_
          refine W_region rfl ?_
          refine da_op rfl (d_fieldAddr s1_14 (fa51_3 _ _) ?_)
          have B34 : w14.heap[w.heap.size]? = some (.cells #[(Value.slice p0v0a p0v0n p0v0c), (Value.slice p0v1a p0v1n p0v1c), (Value.slice p0v2a p0v2n p0v2c), (Value.slice p0v3a p0v3n p0v3c)] 51 (0, 0)) := E14.heap B15
          refine da_op rfl (d_load (v := (Value.slice p0v3a p0v3n p0v3c)) rfl agg49 B34 rfl ?_)
          refine da_op rfl (d_fn (vs := [.pointer (some ⟨w.heap.size, 0, none⟩)]) (ac s1_14 rfl) ?_)
          obtain ⟨m35, hm35, hr⟩ := bind_out hr
          have B36 : RS w14 encSRod (Value.slice p0v3a p0v3n p0v3c) p0.rods := p0v3R.ext X32
          have B37 : RS w14 encSVector (Value.slice p0v0a p0v0n p0v0c) p0.places := p0v0R.ext X32
          have B38 : RS w14 encSVector (Value.slice p0v1a p0v1n p0v1c) p0.before := p0v1R.ext X32
          have B39 : RS w14 encF_f32 (Value.slice p0v2a p0v2n p0v2c) p0.weights := p0v2R.ext X32
          refine da_op rfl (d_cl (vs := [(Value.slice p0v3a p0v3n p0v3c), .func (.func 122) #[] #[.pointer (some ⟨w.heap.size, 0, none⟩)]]) en121 (ac rfl (ac rfl rfl)) rfl ?_)
          refine (c121_f122 p0.rods (⟨p0.places, p0.before, p0.weights, p0.rods⟩ : SChain) p0v3a p0v3n p0v3c w.heap.size 0 #[(Value.slice p0v0a p0v0n p0v0c), (Value.slice p0v1a p0v1n p0v1c), (Value.slice p0v2a p0v2n p0v2c), (Value.slice p0v3a p0v3n p0v3c)] 51 (0, 0) p0v0a p0v0n p0v0c p0v1a p0v1n p0v1c p0v2a p0v2n p0v2c p0v3a p0v3n p0v3c m35 w14 hm35 B36 B37 B38 B39 B36 B34 rfl).mono ?_
          rintro _ w40 ⟨rfl, E40⟩
          refine ⟨_, rfl, ?_⟩
          have X41 : Ext w w40 := X32.trans E40
          refine da_op rfl (d_not rfl ?_)
          refine da_op rfl (d_as (v := .bool (!m35)) rfl ?_)
          refine da_nil ?_
          refine W_ret ?_
          obtain rfl := Option.some.inj hr
          refine ⟨_, res1 (rv_tmp rfl), ?_⟩
          exact ⟨rfl, X41⟩
set_option maxHeartbeats 4000000 in
theorem c72 (p0 : SChain) (p0v0a : Option Addr) (p0v0n : Nat) (p0v0c : Nat) (p0v1a : Option Addr) (p0v1n : Nat) (p0v1c : Nat) (p0v2a : Option Addr) (p0v2n : Nat) (p0v2c : Nat) (p0v3a : Option Addr) (p0v3n : Nat) (p0v3c : Nat) (r : SChain × Bool) (w : World) (hr : M.impl_toldChain p0 = some r) (p0v0R : RS w encSVector (Value.slice p0v0a p0v0n p0v0c) p0.places) (p0v1R : RS w encSVector (Value.slice p0v1a p0v1n p0v1c) p0.before) (p0v2R : RS w encF_f32 (Value.slice p0v2a p0v2n p0v2c) p0.weights) (p0v3R : RS w encSRod (Value.slice p0v3a p0v3n p0v3c) p0.rods) :
    Calls Try.prog 72 #[.agg #[(Value.slice p0v0a p0v0n p0v0c), (Value.slice p0v1a p0v1n p0v1c), (Value.slice p0v2a p0v2n p0v2c), (Value.slice p0v3a p0v3n p0v3c)]] w fun e w' => ∃ q0v0a : Option Addr, ∃ q0v0n : Nat, ∃ q0v0c : Nat, ∃ q0v1a : Option Addr, ∃ q0v1n : Nat, ∃ q0v1c : Nat, ∃ q0v2a : Option Addr, ∃ q0v2n : Nat, ∃ q0v2c : Nat, ∃ q0v3a : Option Addr, ∃ q0v3n : Nat, ∃ q0v3c : Nat, e = .returned (.tuple #[.agg #[(Value.slice q0v0a q0v0n q0v0c), (Value.slice q0v1a q0v1n q0v1c), (Value.slice q0v2a q0v2n q0v2c), (Value.slice q0v3a q0v3n q0v3c)], .bool r.2]) ∧ Hand (Value.slice p0v0a p0v0n p0v0c) p0.places (Value.slice q0v0a q0v0n q0v0c) r.1.places ∧ Hand (Value.slice p0v1a p0v1n p0v1c) p0.before (Value.slice q0v1a q0v1n q0v1c) r.1.before ∧ Hand (Value.slice p0v2a p0v2n p0v2c) p0.weights (Value.slice q0v2a q0v2n q0v2c) r.1.weights ∧ Hand (Value.slice p0v3a p0v3n p0v3c) p0.rods (Value.slice q0v3a q0v3n q0v3c) r.1.rods ∧ Ext w w' := by
  refine calls_of_W Try.func72 rfl (Nat.le_of_ble_eq_true rfl) ?_
  refine W_seq ?_
  refine W_region rfl ?_
  refine da_op rfl (d_box (cs := #[(Value.slice p0v0a p0v0n p0v0c), (Value.slice p0v1a p0v1n p0v1c), (Value.slice p0v2a p0v2n p0v2c), (Value.slice p0v3a p0v3n p0v3c)]) rfl fun w1 B1 E1 => ?_)
  have own2 : w.heap.size ≤ w.heap.size := Nat.le_trans (Ext.refl w).size (Nat.le_refl _)
  have X3 : Ext w w1 := (Ext.refl w).trans E1
  refine da_op rfl (d_alloc (cs := #[.slice none 0 0, .slice none 0 0, .slice none 0 0, .slice none 0 0]) zero51 rfl fun w4 B4 E4 => ?_)
  have own5 : w.heap.size ≤ w1.heap.size := Nat.le_trans X3.size (Nat.le_refl _)
  have sp6 : w.heap.size ≠ w1.heap.size := Nat.ne_of_lt (Nat.lt_of_lt_of_le (lt_heap B1) (Nat.le_refl _))
  have X7 : Ext w w4 := X3.trans E4
  refine da_op rfl (d_as (v := .bool false) rfl ?_)
  refine da_nil ?_
  refine W_seq ?_
  refine W_seq ?_
  refine W_region rfl ?_
  have B8 : w4.heap[w.heap.size]? = some (.cells #[(Value.slice p0v0a p0v0n p0v0c), (Value.slice p0v1a p0v1n p0v1c), (Value.slice p0v2a p0v2n p0v2c), (Value.slice p0v3a p0v3n p0v3c)] 51 (0, 0)) := E4.heap B1
  refine da_op rfl (d_loads (vs := #[(Value.slice p0v0a p0v0n p0v0c), (Value.slice p0v1a p0v1n p0v1c), (Value.slice p0v2a p0v2n p0v2c), (Value.slice p0v3a p0v3n p0v3c)]) rfl agg51 size51 B8 rfl ?_)
  obtain ⟨m9, hm9, hr⟩ := bind_out hr
  have B10 : RS w4 encSVector (Value.slice p0v0a p0v0n p0v0c) p0.places := p0v0R.ext X7
  have B11 : RS w4 encSVector (Value.slice p0v1a p0v1n p0v1c) p0.before := p0v1R.ext X7
  have B12 : RS w4 encF_f32 (Value.slice p0v2a p0v2n p0v2c) p0.weights := p0v2R.ext X7
  have B13 : RS w4 encSRod (Value.slice p0v3a p0v3n p0v3c) p0.rods := p0v3R.ext X7
  refine da_op rfl (d_cl (vs := [.agg #[(Value.slice p0v0a p0v0n p0v0c), (Value.slice p0v1a p0v1n p0v1c), (Value.slice p0v2a p0v2n p0v2c), (Value.slice p0v3a p0v3n p0v3c)]]) en104 (ac rfl rfl) rfl ?_)
  refine (c104 p0 p0v0a p0v0n p0v0c p0v1a p0v1n p0v1c p0v2a p0v2n p0v2c p0v3a p0v3n p0v3c m9 w4 hm9 B10 B11 B12 B13).mono ?_
  rintro _ w14 ⟨rfl, E14⟩
  refine ⟨_, rfl, ?_⟩
  have X15 : Ext w w14 := X7.trans E14
  refine da_op rfl (d_not rfl ?_)
  refine da_nil ?_
  refine W_cond (b := (!m9)) rfl (fun hc16 => ?_) (fun hc16 => ?_)
  · skip
    replace hr := bif_t hr hc16
    refine W_seq ?_
    refine W_region rfl ?_
    refine da_op rfl (d_bd (vs := []) (cs := #[.slice none 0 0, .slice none 0 0, .slice none 0 0, .slice none 0 0]) rfl (by kernel_rfl) ?_)
    have B17 : w14.heap[w1.heap.size]? = some (.cells #[.slice none 0 0, .slice none 0 0, .slice none 0 0, .slice none 0 0] 51 (0, 0)) := E14.heap B4
    refine da_op rfl (d_store (vs := #[.slice none 0 0, .slice none 0 0, .slice none 0 0, .slice none 0 0]) rfl rfl B17 size51 (Nat.le_of_ble_eq_true rfl) rfl fun w18 S18 => ?_)
    have X19 : Ext w w18 := Ext.step X15 S18.frmb (fun k _ hk => hk ▸ own5)
    have B20 : w18.heap[w1.heap.size]? = some (.cells #[.slice none 0 0, .slice none 0 0, .slice none 0 0, .slice none 0 0] 51 (0, 0)) := S18.here
    refine da_op rfl (d_as (v := .bool false) rfl ?_)
    refine da_nil ?_
    refine W_ret ?_
    obtain rfl := Option.some.inj hr
    refine ⟨_, res2 (rv_cells (vs := #[.slice none 0 0, .slice none 0 0, .slice none 0 0, .slice none 0 0]) rfl agg51 size51 B20 rfl) (rv_tmp rfl), ?_⟩
    exact ⟨none, 0, 0, none, 0, 0, none, 0, 0, none, 0, 0, rfl, (.inr ⟨rfl, rfl⟩), (.inr ⟨rfl, rfl⟩), (.inr ⟨rfl, rfl⟩), (.inr ⟨rfl, rfl⟩), X19⟩
  · skip
    replace hr := bif_f hr hc16
    refine W_skip ?_
    refine W_seq ?_
    refine W_region rfl ?_
    have B21 : w14.heap[w.heap.size]? = some (.cells #[(Value.slice p0v0a p0v0n p0v0c), (Value.slice p0v1a p0v1n p0v1c), (Value.slice p0v2a p0v2n p0v2c), (Value.slice p0v3a p0v3n p0v3c)] 51 (0, 0)) := E14.heap B8
    refine da_op rfl (d_loads (vs := #[(Value.slice p0v0a p0v0n p0v0c), (Value.slice p0v1a p0v1n p0v1c), (Value.slice p0v2a p0v2n p0v2c), (Value.slice p0v3a p0v3n p0v3c)]) rfl agg51 size51 B21 rfl ?_)
    have B22 : w14.heap[w1.heap.size]? = some (.cells #[.slice none 0 0, .slice none 0 0, .slice none 0 0, .slice none 0 0] 51 (0, 0)) := E14.heap B4
    refine da_op rfl (d_store (vs := #[(Value.slice p0v0a p0v0n p0v0c), (Value.slice p0v1a p0v1n p0v1c), (Value.slice p0v2a p0v2n p0v2c), (Value.slice p0v3a p0v3n p0v3c)]) rfl rfl B22 size51 (Nat.le_of_ble_eq_true rfl) rfl fun w23 S23 => ?_)
    have X24 : Ext w w23 := Ext.step X15 S23.frmb (fun k _ hk => hk ▸ own5)
    have B25 : w23.heap[w1.heap.size]? = some (.cells #[(Value.slice p0v0a p0v0n p0v0c), (Value.slice p0v1a p0v1n p0v1c), (Value.slice p0v2a p0v2n p0v2c), (Value.slice p0v3a p0v3n p0v3c)] 51 (0, 0)) := S23.here
    refine da_op rfl (d_as (v := .bool true) rfl ?_)
    refine da_nil ?_
    refine W_ret ?_
    obtain rfl := Option.some.inj hr
    refine ⟨_, res2 (rv_cells (vs := #[(Value.slice p0v0a p0v0n p0v0c), (Value.slice p0v1a p0v1n p0v1c), (Value.slice p0v2a p0v2n p0v2c), (Value.slice p0v3a p0v3n p0v3c)]) rfl agg51 size51 B25 rfl) (rv_tmp rfl), ?_⟩
    exact ⟨p0v0a, p0v0n, p0v0c, p0v1a, p0v1n, p0v1c, p0v2a, p0v2n, p0v2c, p0v3a, p0v3n, p0v3c, rfl, (.inl ⟨rfl, rfl⟩), (.inl ⟨rfl, rfl⟩), (.inl ⟨rfl, rfl⟩), (.inl ⟨rfl, rfl⟩), X24⟩
end Go.Proofs
