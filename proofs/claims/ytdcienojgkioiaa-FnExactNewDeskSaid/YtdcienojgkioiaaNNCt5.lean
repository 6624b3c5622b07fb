import Derived.Test.YtdcienojgkioiaaNNCt4
namespace Go.Proofs
open Go Go.Fl Go.RowKit Go.Rg
set_option maxRecDepth 100000
set_option linter.unusedVariables false
attribute [local irreducible] Go.Calls doAll Does DoesG W Wr
set_option maxHeartbeats 4000000 in
theorem c5  (r : Bool) (w : World) (hr : M.laws_FnExactNewDesk = some r)  :
    Calls Try.prog 5 #[] w fun e w' => e = .returned (.bool r) ∧ Ext w w' := by
  refine calls_of_W Try.func5 rfl (Nat.le_of_ble_eq_true rfl) ?_
  refine W_seq ?_
  refine W_region rfl ?_
  refine da_op rfl (d_as (v := .bool false) rfl ?_)
  refine da_nil ?_
  refine W_seq ?_
  refine W_region rfl ?_
  obtain ⟨m1, hm1, hr⟩ := bind_out hr
  refine da_op rfl (d_cl (vs := []) en16 rfl rfl ?_)
  refine (c16  m1 w hm1 ).mono ?_
  rintro _ w2 ⟨q2_0r0, q2_0r1, q2_0r2, q2_0r3, q2_0r4, q2_0r5, q2_0r6, q2_0r7, q2_0v8a, q2_0v8n, q2_0v8c, q2_0v9a, q2_0v9n, q2_0v9c, q2_0v10a, q2_0v10n, q2_0v10c, q2_0v11a, q2_0v11n, q2_0v11c, q2_0r12, q2_0r13, q2_0r14, q2_0r15, q2_0r16, q2_0r17, q2_0r18, q2_0r19, q2_0r20, q2_0r21, q2_0v22a, q2_0v22n, q2_0v22c, q2_0v23a, q2_0v23n, q2_0v23c, rfl, q2_0h0, q2_0h1, q2_0h2, q2_0h3, q2_0h4, q2_0h5, q2_0h6, q2_0h7, q2_0v8R, q2_0v8F, q2_0v9R, q2_0v9F, q2_0v10R, q2_0v10F, q2_0v11R, q2_0v11F, q2_0h12, q2_0h13, q2_0h14, q2_0h15, q2_0h16, q2_0h17, q2_0h18, q2_0h19, q2_0h20, q2_0h21, q2_0v22R, q2_0v22F, q2_0v23R, q2_0v23F, q2_A1_0, q2_A2_0, q2_A2_1, q2_A3_0, q2_A3_1, q2_A3_2, q2_A4_0, q2_A4_1, q2_A4_2, q2_A4_3, q2_A5_0, q2_A5_1, q2_A5_2, q2_A5_3, q2_A5_4, E2⟩
  refine ⟨_, rfl, ?_⟩
  have own3 : ∀ k, (Value.slice q2_0v8a q2_0v8n q2_0v8c).ownBlock = some k → w.heap.size ≤ k := fun k hk => Nat.le_trans (Ext.refl w).size (q2_0v8F k hk)
  have own4 : ∀ k, (Value.slice q2_0v9a q2_0v9n q2_0v9c).ownBlock = some k → w.heap.size ≤ k := fun k hk => Nat.le_trans (Ext.refl w).size (q2_0v9F k hk)
  have own5 : ∀ k, (Value.slice q2_0v10a q2_0v10n q2_0v10c).ownBlock = some k → w.heap.size ≤ k := fun k hk => Nat.le_trans (Ext.refl w).size (q2_0v10F k hk)
  have own6 : ∀ k, (Value.slice q2_0v11a q2_0v11n q2_0v11c).ownBlock = some k → w.heap.size ≤ k := fun k hk => Nat.le_trans (Ext.refl w).size (q2_0v11F k hk)
  have own7 : ∀ k, (Value.slice q2_0v22a q2_0v22n q2_0v22c).ownBlock = some k → w.heap.size ≤ k := fun k hk => Nat.le_trans (Ext.refl w).size (q2_0v22F k hk)
  have own8 : ∀ k, (Value.slice q2_0v23a q2_0v23n q2_0v23c).ownBlock = some k → w.heap.size ≤ k := fun k hk => Nat.le_trans (Ext.refl w).size (q2_0v23F k hk)
  have X9 : Ext w w2 := (Ext.refl w).trans E2
  refine da_op rfl (d_alloc (cs := #[.float .f32 0, .float .f32 0, .float .f32 0, .float .f32 0, .float .f32 0, .float .f32 0, .float .f32 0, .float .f32 0, .slice none 0 0, .slice none 0 0, .slice none 0 0, .slice none 0 0, .float .f32 0, .float .f32 0, .float .f32 0, .float .f32 0, .float .f32 0, .float .f32 0, .float .f32 0, .float .f32 0, .float .f32 0, .float .f32 0, .slice none 0 0, .slice none 0 0]) zero56 rfl fun w10 B10 E10 => ?_)
  have own11 : w.heap.size ≤ w2.heap.size := Nat.le_trans X9.size (Nat.le_refl _)
  have sp12 : ¬ (Value.slice q2_0v8a q2_0v8n q2_0v8c).ownBlock = some w2.heap.size := OS.ne_new q2_0v8R (Nat.le_refl _)
  have sp13 : ¬ (Value.slice q2_0v9a q2_0v9n q2_0v9c).ownBlock = some w2.heap.size := OS.ne_new q2_0v9R (Nat.le_refl _)
  have sp14 : ¬ (Value.slice q2_0v10a q2_0v10n q2_0v10c).ownBlock = some w2.heap.size := OS.ne_new q2_0v10R (Nat.le_refl _)
  have sp15 : ¬ (Value.slice q2_0v11a q2_0v11n q2_0v11c).ownBlock = some w2.heap.size := OS.ne_new q2_0v11R (Nat.le_refl _)
  have sp16 : ¬ (Value.slice q2_0v22a q2_0v22n q2_0v22c).ownBlock = some w2.heap.size := OS.ne_new q2_0v22R (Nat.le_refl _)
  have sp17 : ¬ (Value.slice q2_0v23a q2_0v23n q2_0v23c).ownBlock = some w2.heap.size := OS.ne_new q2_0v23R (Nat.le_refl _)
  have X18 : Ext w w10 := X9.trans E10
  refine da_op rfl (d_store (vs := #[.float .f32 q2_0r0, .float .f32 q2_0r1, .float .f32 q2_0r2, .float .f32 q2_0r3, .float .f32 q2_0r4, .float .f32 q2_0r5, .float .f32 q2_0r6, .float .f32 q2_0r7, (Value.slice q2_0v8a q2_0v8n q2_0v8c), (Value.slice q2_0v9a q2_0v9n q2_0v9c), (Value.slice q2_0v10a q2_0v10n q2_0v10c), (Value.slice q2_0v11a q2_0v11n q2_0v11c), .float .f32 q2_0r12, .float .f32 q2_0r13, .float .f32 q2_0r14, .float .f32 q2_0r15, .float .f32 q2_0r16, .float .f32 q2_0r17, .float .f32 q2_0r18, .float .f32 q2_0r19, .float .f32 q2_0r20, .float .f32 q2_0r21, (Value.slice q2_0v22a q2_0v22n q2_0v22c), (Value.slice q2_0v23a q2_0v23n q2_0v23c)]) rfl rfl B10 size56 (Nat.le_of_ble_eq_true rfl) rfl fun w19 S19 => ?_)
  have X20 : Ext w w19 := Ext.step X18 S19.frmb (fun k _ hk => hk ▸ own11)
  have B21 : w19.heap[w2.heap.size]? = some (.cells #[.float .f32 q2_0r0, .float .f32 q2_0r1, .float .f32 q2_0r2, .float .f32 q2_0r3, .float .f32 q2_0r4, .float .f32 q2_0r5, .float .f32 q2_0r6, .float .f32 q2_0r7, (Value.slice q2_0v8a q2_0v8n q2_0v8c), (Value.slice q2_0v9a q2_0v9n q2_0v9c), (Value.slice q2_0v10a q2_0v10n q2_0v10c), (Value.slice q2_0v11a q2_0v11n q2_0v11c), .float .f32 q2_0r12, .float .f32 q2_0r13, .float .f32 q2_0r14, .float .f32 q2_0r15, .float .f32 q2_0r16, .float .f32 q2_0r17, .float .f32 q2_0r18, .float .f32 q2_0r19, .float .f32 q2_0r20, .float .f32 q2_0r21, (Value.slice q2_0v22a q2_0v22n q2_0v22c), (Value.slice q2_0v23a q2_0v23n q2_0v23c)] 56 (0, 0)) := S19.here
  refine da_nil ?_
  refine W_seq ?_
  refine W_region rfl ?_
  obtain ⟨m22, hm22, hr⟩ := bind_out hr
  have B23 : OS w19 29 encSVector (Value.slice q2_0v8a q2_0v8n q2_0v8c) m1.chain.places := (q2_0v8R.ext E10).frm S19.frmb (rb sp12)
  have B24 : OS w19 29 encSVector (Value.slice q2_0v9a q2_0v9n q2_0v9c) m1.chain.before := (q2_0v9R.ext E10).frm S19.frmb (rb sp13)
  have B25 : OS w19 22 encF_f32 (Value.slice q2_0v10a q2_0v10n q2_0v10c) m1.chain.weights := (q2_0v10R.ext E10).frm S19.frmb (rb sp14)
  have B26 : OS w19 104 encSRod (Value.slice q2_0v11a q2_0v11n q2_0v11c) m1.chain.rods := (q2_0v11R.ext E10).frm S19.frmb (rb sp15)
  have B27 : OS w19 109 encSClock (Value.slice q2_0v22a q2_0v22n q2_0v22c) m1.clocks.list := (q2_0v22R.ext E10).frm S19.frmb (rb sp16)
  have B28 : OS w19 22 encF_f32 (Value.slice q2_0v23a q2_0v23n q2_0v23c) m1.clocks.links := (q2_0v23R.ext E10).frm S19.frmb (rb sp17)
  refine da_op rfl (d_cl (vs := []) en17 rfl rfl ?_)
  refine (c17  m22 w19 hm22 ).mono ?_
  rintro _ w29 ⟨q29_0r0, q29_0r1, q29_0r2, q29_0r3, q29_0r4, q29_0r5, q29_0r6, q29_0r7, q29_0v8a, q29_0v8n, q29_0v8c, q29_0v9a, q29_0v9n, q29_0v9c, q29_0v10a, q29_0v10n, q29_0v10c, q29_0v11a, q29_0v11n, q29_0v11c, q29_0r12, q29_0r13, q29_0r14, q29_0r15, q29_0r16, q29_0r17, q29_0r18, q29_0r19, q29_0r20, q29_0r21, q29_0v22a, q29_0v22n, q29_0v22c, q29_0v23a, q29_0v23n, q29_0v23c, rfl, q29_0h0, q29_0h1, q29_0h2, q29_0h3, q29_0h4, q29_0h5, q29_0h6, q29_0h7, q29_0v8R, q29_0v8F, q29_0v9R, q29_0v9F, q29_0v10R, q29_0v10F, q29_0v11R, q29_0v11F, q29_0h12, q29_0h13, q29_0h14, q29_0h15, q29_0h16, q29_0h17, q29_0h18, q29_0h19, q29_0h20, q29_0h21, q29_0v22R, q29_0v22F, q29_0v23R, q29_0v23F, q29_A1_0, q29_A2_0, q29_A2_1, q29_A3_0, q29_A3_1, q29_A3_2, q29_A4_0, q29_A4_1, q29_A4_2, q29_A4_3, q29_A5_0, q29_A5_1, q29_A5_2, q29_A5_3, q29_A5_4, E29⟩
  refine ⟨_, rfl, ?_⟩
  have own30 : ∀ k, (Value.slice q29_0v8a q29_0v8n q29_0v8c).ownBlock = some k → w.heap.size ≤ k := fun k hk => Nat.le_trans X20.size (q29_0v8F k hk)
  have sp31 : ∀ k, (Value.slice q2_0v8a q2_0v8n q2_0v8c).ownBlock = some k → ¬ (Value.slice q29_0v8a q29_0v8n q29_0v8c).ownBlock = some k := apart_fresh B23 q29_0v8F
  have sp32 : ∀ k, (Value.slice q2_0v9a q2_0v9n q2_0v9c).ownBlock = some k → ¬ (Value.slice q29_0v8a q29_0v8n q29_0v8c).ownBlock = some k := apart_fresh B24 q29_0v8F
  have sp33 : ∀ k, (Value.slice q2_0v10a q2_0v10n q2_0v10c).ownBlock = some k → ¬ (Value.slice q29_0v8a q29_0v8n q29_0v8c).ownBlock = some k := apart_fresh B25 q29_0v8F
  have sp34 : ∀ k, (Value.slice q2_0v11a q2_0v11n q2_0v11c).ownBlock = some k → ¬ (Value.slice q29_0v8a q29_0v8n q29_0v8c).ownBlock = some k := apart_fresh B26 q29_0v8F
  have sp35 : ∀ k, (Value.slice q2_0v22a q2_0v22n q2_0v22c).ownBlock = some k → ¬ (Value.slice q29_0v8a q29_0v8n q29_0v8c).ownBlock = some k := apart_fresh B27 q29_0v8F
  have sp36 : ∀ k, (Value.slice q2_0v23a q2_0v23n q2_0v23c).ownBlock = some k → ¬ (Value.slice q29_0v8a q29_0v8n q29_0v8c).ownBlock = some k := apart_fresh B28 q29_0v8F
  have sp37 : ¬ (Value.slice q29_0v8a q29_0v8n q29_0v8c).ownBlock = some w2.heap.size := ne_fresh q29_0v8F (lt_heap B21)
  have own38 : ∀ k, (Value.slice q29_0v9a q29_0v9n q29_0v9c).ownBlock = some k → w.heap.size ≤ k := fun k hk => Nat.le_trans X20.size (q29_0v9F k hk)
  have sp39 : ∀ k, (Value.slice q2_0v8a q2_0v8n q2_0v8c).ownBlock = some k → ¬ (Value.slice q29_0v9a q29_0v9n q29_0v9c).ownBlock = some k := apart_fresh B23 q29_0v9F
  have sp40 : ∀ k, (Value.slice q2_0v9a q2_0v9n q2_0v9c).ownBlock = some k → ¬ (Value.slice q29_0v9a q29_0v9n q29_0v9c).ownBlock = some k := apart_fresh B24 q29_0v9F
  have sp41 : ∀ k, (Value.slice q2_0v10a q2_0v10n q2_0v10c).ownBlock = some k → ¬ (Value.slice q29_0v9a q29_0v9n q29_0v9c).ownBlock = some k := apart_fresh B25 q29_0v9F
  have sp42 : ∀ k, (Value.slice q2_0v11a q2_0v11n q2_0v11c).ownBlock = some k → ¬ (Value.slice q29_0v9a q29_0v9n q29_0v9c).ownBlock = some k := apart_fresh B26 q29_0v9F
  have sp43 : ∀ k, (Value.slice q2_0v22a q2_0v22n q2_0v22c).ownBlock = some k → ¬ (Value.slice q29_0v9a q29_0v9n q29_0v9c).ownBlock = some k := apart_fresh B27 q29_0v9F
  have sp44 : ∀ k, (Value.slice q2_0v23a q2_0v23n q2_0v23c).ownBlock = some k → ¬ (Value.slice q29_0v9a q29_0v9n q29_0v9c).ownBlock = some k := apart_fresh B28 q29_0v9F
  have sp45 : ¬ (Value.slice q29_0v9a q29_0v9n q29_0v9c).ownBlock = some w2.heap.size := ne_fresh q29_0v9F (lt_heap B21)
  have own46 : ∀ k, (Value.slice q29_0v10a q29_0v10n q29_0v10c).ownBlock = some k → w.heap.size ≤ k := fun k hk => Nat.le_trans X20.size (q29_0v10F k hk)
  have sp47 : ∀ k, (Value.slice q2_0v8a q2_0v8n q2_0v8c).ownBlock = some k → ¬ (Value.slice q29_0v10a q29_0v10n q29_0v10c).ownBlock = some k := apart_fresh B23 q29_0v10F
  have sp48 : ∀ k, (Value.slice q2_0v9a q2_0v9n q2_0v9c).ownBlock = some k → ¬ (Value.slice q29_0v10a q29_0v10n q29_0v10c).ownBlock = some k := apart_fresh B24 q29_0v10F
  have sp49 : ∀ k, (Value.slice q2_0v10a q2_0v10n q2_0v10c).ownBlock = some k → ¬ (Value.slice q29_0v10a q29_0v10n q29_0v10c).ownBlock = some k := apart_fresh B25 q29_0v10F
  have sp50 : ∀ k, (Value.slice q2_0v11a q2_0v11n q2_0v11c).ownBlock = some k → ¬ (Value.slice q29_0v10a q29_0v10n q29_0v10c).ownBlock = some k := apart_fresh B26 q29_0v10F
  have sp51 : ∀ k, (Value.slice q2_0v22a q2_0v22n q2_0v22c).ownBlock = some k → ¬ (Value.slice q29_0v10a q29_0v10n q29_0v10c).ownBlock = some k := apart_fresh B27 q29_0v10F
  have sp52 : ∀ k, (Value.slice q2_0v23a q2_0v23n q2_0v23c).ownBlock = some k → ¬ (Value.slice q29_0v10a q29_0v10n q29_0v10c).ownBlock = some k := apart_fresh B28 q29_0v10F
  have sp53 : ¬ (Value.slice q29_0v10a q29_0v10n q29_0v10c).ownBlock = some w2.heap.size := ne_fresh q29_0v10F (lt_heap B21)
  have own54 : ∀ k, (Value.slice q29_0v11a q29_0v11n q29_0v11c).ownBlock = some k → w.heap.size ≤ k := fun k hk => Nat.le_trans X20.size (q29_0v11F k hk)
  have sp55 : ∀ k, (Value.slice q2_0v8a q2_0v8n q2_0v8c).ownBlock = some k → ¬ (Value.slice q29_0v11a q29_0v11n q29_0v11c).ownBlock = some k := apart_fresh B23 q29_0v11F
  have sp56 : ∀ k, (Value.slice q2_0v9a q2_0v9n q2_0v9c).ownBlock = some k → ¬ (Value.slice q29_0v11a q29_0v11n q29_0v11c).ownBlock = some k := apart_fresh B24 q29_0v11F
  have sp57 : ∀ k, (Value.slice q2_0v10a q2_0v10n q2_0v10c).ownBlock = some k → ¬ (Value.slice q29_0v11a q29_0v11n q29_0v11c).ownBlock = some k := apart_fresh B25 q29_0v11F
  have sp58 : ∀ k, (Value.slice q2_0v11a q2_0v11n q2_0v11c).ownBlock = some k → ¬ (Value.slice q29_0v11a q29_0v11n q29_0v11c).ownBlock = some k := apart_fresh B26 q29_0v11F
  have sp59 : ∀ k, (Value.slice q2_0v22a q2_0v22n q2_0v22c).ownBlock = some k → ¬ (Value.slice q29_0v11a q29_0v11n q29_0v11c).ownBlock = some k := apart_fresh B27 q29_0v11F
  have sp60 : ∀ k, (Value.slice q2_0v23a q2_0v23n q2_0v23c).ownBlock = some k → ¬ (Value.slice q29_0v11a q29_0v11n q29_0v11c).ownBlock = some k := apart_fresh B28 q29_0v11F
  have sp61 : ¬ (Value.slice q29_0v11a q29_0v11n q29_0v11c).ownBlock = some w2.heap.size := ne_fresh q29_0v11F (lt_heap B21)
  have own62 : ∀ k, (Value.slice q29_0v22a q29_0v22n q29_0v22c).ownBlock = some k → w.heap.size ≤ k := fun k hk => Nat.le_trans X20.size (q29_0v22F k hk)
  have sp63 : ∀ k, (Value.slice q2_0v8a q2_0v8n q2_0v8c).ownBlock = some k → ¬ (Value.slice q29_0v22a q29_0v22n q29_0v22c).ownBlock = some k := apart_fresh B23 q29_0v22F
  have sp64 : ∀ k, (Value.slice q2_0v9a q2_0v9n q2_0v9c).ownBlock = some k → ¬ (Value.slice q29_0v22a q29_0v22n q29_0v22c).ownBlock = some k := apart_fresh B24 q29_0v22F
  have sp65 : ∀ k, (Value.slice q2_0v10a q2_0v10n q2_0v10c).ownBlock = some k → ¬ (Value.slice q29_0v22a q29_0v22n q29_0v22c).ownBlock = some k := apart_fresh B25 q29_0v22F
  have sp66 : ∀ k, (Value.slice q2_0v11a q2_0v11n q2_0v11c).ownBlock = some k → ¬ (Value.slice q29_0v22a q29_0v22n q29_0v22c).ownBlock = some k := apart_fresh B26 q29_0v22F
  have sp67 : ∀ k, (Value.slice q2_0v22a q2_0v22n q2_0v22c).ownBlock = some k → ¬ (Value.slice q29_0v22a q29_0v22n q29_0v22c).ownBlock = some k := apart_fresh B27 q29_0v22F
  have sp68 : ∀ k, (Value.slice q2_0v23a q2_0v23n q2_0v23c).ownBlock = some k → ¬ (Value.slice q29_0v22a q29_0v22n q29_0v22c).ownBlock = some k := apart_fresh B28 q29_0v22F
  have sp69 : ¬ (Value.slice q29_0v22a q29_0v22n q29_0v22c).ownBlock = some w2.heap.size := ne_fresh q29_0v22F (lt_heap B21)
  have own70 : ∀ k, (Value.slice q29_0v23a q29_0v23n q29_0v23c).ownBlock = some k → w.heap.size ≤ k := fun k hk => Nat.le_trans X20.size (q29_0v23F k hk)
  have sp71 : ∀ k, (Value.slice q2_0v8a q2_0v8n q2_0v8c).ownBlock = some k → ¬ (Value.slice q29_0v23a q29_0v23n q29_0v23c).ownBlock = some k := apart_fresh B23 q29_0v23F
  have sp72 : ∀ k, (Value.slice q2_0v9a q2_0v9n q2_0v9c).ownBlock = some k → ¬ (Value.slice q29_0v23a q29_0v23n q29_0v23c).ownBlock = some k := apart_fresh B24 q29_0v23F
  have sp73 : ∀ k, (Value.slice q2_0v10a q2_0v10n q2_0v10c).ownBlock = some k → ¬ (Value.slice q29_0v23a q29_0v23n q29_0v23c).ownBlock = some k := apart_fresh B25 q29_0v23F
  have sp74 : ∀ k, (Value.slice q2_0v11a q2_0v11n q2_0v11c).ownBlock = some k → ¬ (Value.slice q29_0v23a q29_0v23n q29_0v23c).ownBlock = some k := apart_fresh B26 q29_0v23F
  have sp75 : ∀ k, (Value.slice q2_0v22a q2_0v22n q2_0v22c).ownBlock = some k → ¬ (Value.slice q29_0v23a q29_0v23n q29_0v23c).ownBlock = some k := apart_fresh B27 q29_0v23F
  have sp76 : ∀ k, (Value.slice q2_0v23a q2_0v23n q2_0v23c).ownBlock = some k → ¬ (Value.slice q29_0v23a q29_0v23n q29_0v23c).ownBlock = some k := apart_fresh B28 q29_0v23F
  have sp77 : ¬ (Value.slice q29_0v23a q29_0v23n q29_0v23c).ownBlock = some w2.heap.size := ne_fresh q29_0v23F (lt_heap B21)
  have X78 : Ext w w29 := X20.trans E29
  have B80 : OS w29 29 encSVector (Value.slice q2_0v8a q2_0v8n q2_0v8c) m1.chain.places := B23.ext E29
  have B81 : OS w29 29 encSVector (Value.slice q2_0v9a q2_0v9n q2_0v9c) m1.chain.before := B24.ext E29
  have B82 : OS w29 22 encF_f32 (Value.slice q2_0v10a q2_0v10n q2_0v10c) m1.chain.weights := B25.ext E29
  have B83 : OS w29 104 encSRod (Value.slice q2_0v11a q2_0v11n q2_0v11c) m1.chain.rods := B26.ext E29
  have B84 : OS w29 109 encSClock (Value.slice q2_0v22a q2_0v22n q2_0v22c) m1.clocks.list := B27.ext E29
  have B85 : OS w29 22 encF_f32 (Value.slice q2_0v23a q2_0v23n q2_0v23c) m1.clocks.links := B28.ext E29
  have B86 : w29.heap[w2.heap.size]? = some (.cells #[.float .f32 q2_0r0, .float .f32 q2_0r1, .float .f32 q2_0r2, .float .f32 q2_0r3, .float .f32 q2_0r4, .float .f32 q2_0r5, .float .f32 q2_0r6, .float .f32 q2_0r7, (Value.slice q2_0v8a q2_0v8n q2_0v8c), (Value.slice q2_0v9a q2_0v9n q2_0v9c), (Value.slice q2_0v10a q2_0v10n q2_0v10c), (Value.slice q2_0v11a q2_0v11n q2_0v11c), .float .f32 q2_0r12, .float .f32 q2_0r13, .float .f32 q2_0r14, .float .f32 q2_0r15, .float .f32 q2_0r16, .float .f32 q2_0r17, .float .f32 q2_0r18, .float .f32 q2_0r19, .float .f32 q2_0r20, .float .f32 q2_0r21, (Value.slice q2_0v22a q2_0v22n q2_0v22c), (Value.slice q2_0v23a q2_0v23n q2_0v23c)] 56 (0, 0)) := E29.heap B21
  refine da_op rfl (d_alloc (cs := #[.float .f32 0, .float .f32 0, .float .f32 0, .float .f32 0, .float .f32 0, .float .f32 0, .float .f32 0, .float .f32 0, .slice none 0 0, .slice none 0 0, .slice none 0 0, .slice none 0 0, .float .f32 0, .float .f32 0, .float .f32 0, .float .f32 0, .float .f32 0, .float .f32 0, .float .f32 0, .float .f32 0, .float .f32 0, .float .f32 0, .slice none 0 0, .slice none 0 0]) zero56 rfl fun w79 B79 E79 => ?_)
  have own87 : w.heap.size ≤ w29.heap.size := Nat.le_trans X78.size (Nat.le_refl _)
  have sp88 : ¬ (Value.slice q2_0v8a q2_0v8n q2_0v8c).ownBlock = some w29.heap.size := OS.ne_new B80 (Nat.le_refl _)
  have sp89 : ¬ (Value.slice q2_0v9a q2_0v9n q2_0v9c).ownBlock = some w29.heap.size := OS.ne_new B81 (Nat.le_refl _)
  have sp90 : ¬ (Value.slice q2_0v10a q2_0v10n q2_0v10c).ownBlock = some w29.heap.size := OS.ne_new B82 (Nat.le_refl _)
  have sp91 : ¬ (Value.slice q2_0v11a q2_0v11n q2_0v11c).ownBlock = some w29.heap.size := OS.ne_new B83 (Nat.le_refl _)
  have sp92 : ¬ (Value.slice q2_0v22a q2_0v22n q2_0v22c).ownBlock = some w29.heap.size := OS.ne_new B84 (Nat.le_refl _)
  have sp93 : ¬ (Value.slice q2_0v23a q2_0v23n q2_0v23c).ownBlock = some w29.heap.size := OS.ne_new B85 (Nat.le_refl _)
  have sp94 : w2.heap.size ≠ w29.heap.size := Nat.ne_of_lt (Nat.lt_of_lt_of_le (lt_heap B86) (Nat.le_refl _))
  have sp95 : ¬ (Value.slice q29_0v8a q29_0v8n q29_0v8c).ownBlock = some w29.heap.size := OS.ne_new q29_0v8R (Nat.le_refl _)
  have sp96 : ¬ (Value.slice q29_0v9a q29_0v9n q29_0v9c).ownBlock = some w29.heap.size := OS.ne_new q29_0v9R (Nat.le_refl _)
  have sp97 : ¬ (Value.slice q29_0v10a q29_0v10n q29_0v10c).ownBlock = some w29.heap.size := OS.ne_new q29_0v10R (Nat.le_refl _)
  have sp98 : ¬ (Value.slice q29_0v11a q29_0v11n q29_0v11c).ownBlock = some w29.heap.size := OS.ne_new q29_0v11R (Nat.le_refl _)
  have sp99 : ¬ (Value.slice q29_0v22a q29_0v22n q29_0v22c).ownBlock = some w29.heap.size := OS.ne_new q29_0v22R (Nat.le_refl _)
  have sp100 : ¬ (Value.slice q29_0v23a q29_0v23n q29_0v23c).ownBlock = some w29.heap.size := OS.ne_new q29_0v23R (Nat.le_refl _)
  have X101 : Ext w w79 := X78.trans E79
  refine da_op rfl (d_store (vs := #[.float .f32 q29_0r0, .float .f32 q29_0r1, .float .f32 q29_0r2, .float .f32 q29_0r3, .float .f32 q29_0r4, .float .f32 q29_0r5, .float .f32 q29_0r6, .float .f32 q29_0r7, (Value.slice q29_0v8a q29_0v8n q29_0v8c), (Value.slice q29_0v9a q29_0v9n q29_0v9c), (Value.slice q29_0v10a q29_0v10n q29_0v10c), (Value.slice q29_0v11a q29_0v11n q29_0v11c), .float .f32 q29_0r12, .float .f32 q29_0r13, .float .f32 q29_0r14, .float .f32 q29_0r15, .float .f32 q29_0r16, .float .f32 q29_0r17, .float .f32 q29_0r18, .float .f32 q29_0r19, .float .f32 q29_0r20, .float .f32 q29_0r21, (Value.slice q29_0v22a q29_0v22n q29_0v22c), (Value.slice q29_0v23a q29_0v23n q29_0v23c)]) rfl rfl B79 size56 (Nat.le_of_ble_eq_true rfl) rfl fun w102 S102 => ?_)
  have X103 : Ext w w102 := Ext.step X101 S102.frmb (fun k _ hk => hk ▸ own87)
  have B104 : w102.heap[w29.heap.size]? = some (.cells #[.float .f32 q29_0r0, .float .f32 q29_0r1, .float .f32 q29_0r2, .float .f32 q29_0r3, .float .f32 q29_0r4, .float .f32 q29_0r5, .float .f32 q29_0r6, .float .f32 q29_0r7, (Value.slice q29_0v8a q29_0v8n q29_0v8c), (Value.slice q29_0v9a q29_0v9n q29_0v9c), (Value.slice q29_0v10a q29_0v10n q29_0v10c), (Value.slice q29_0v11a q29_0v11n q29_0v11c), .float .f32 q29_0r12, .float .f32 q29_0r13, .float .f32 q29_0r14, .float .f32 q29_0r15, .float .f32 q29_0r16, .float .f32 q29_0r17, .float .f32 q29_0r18, .float .f32 q29_0r19, .float .f32 q29_0r20, .float .f32 q29_0r21, (Value.slice q29_0v22a q29_0v22n q29_0v22c), (Value.slice q29_0v23a q29_0v23n q29_0v23c)] 56 (0, 0)) := S102.here
  refine da_nil ?_
  refine W_seq ?_
  refine W_seq ?_
  refine W_region rfl ?_
  refine da_op rfl (d_loads (vs := #[.float .f32 q29_0r0, .float .f32 q29_0r1, .float .f32 q29_0r2, .float .f32 q29_0r3, .float .f32 q29_0r4, .float .f32 q29_0r5, .float .f32 q29_0r6, .float .f32 q29_0r7, (Value.slice q29_0v8a q29_0v8n q29_0v8c), (Value.slice q29_0v9a q29_0v9n q29_0v9c), (Value.slice q29_0v10a q29_0v10n q29_0v10c), (Value.slice q29_0v11a q29_0v11n q29_0v11c), .float .f32 q29_0r12, .float .f32 q29_0r13, .float .f32 q29_0r14, .float .f32 q29_0r15, .float .f32 q29_0r16, .float .f32 q29_0r17, .float .f32 q29_0r18, .float .f32 q29_0r19, .float .f32 q29_0r20, .float .f32 q29_0r21, (Value.slice q29_0v22a q29_0v22n q29_0v22c), (Value.slice q29_0v23a q29_0v23n q29_0v23c)]) rfl agg56 size56 B104 rfl ?_)
  have B105 : w102.heap[w2.heap.size]? = some (.cells #[.float .f32 q2_0r0, .float .f32 q2_0r1, .float .f32 q2_0r2, .float .f32 q2_0r3, .float .f32 q2_0r4, .float .f32 q2_0r5, .float .f32 q2_0r6, .float .f32 q2_0r7, (Value.slice q2_0v8a q2_0v8n q2_0v8c), (Value.slice q2_0v9a q2_0v9n q2_0v9c), (Value.slice q2_0v10a q2_0v10n q2_0v10c), (Value.slice q2_0v11a q2_0v11n q2_0v11c), .float .f32 q2_0r12, .float .f32 q2_0r13, .float .f32 q2_0r14, .float .f32 q2_0r15, .float .f32 q2_0r16, .float .f32 q2_0r17, .float .f32 q2_0r18, .float .f32 q2_0r19, .float .f32 q2_0r20, .float .f32 q2_0r21, (Value.slice q2_0v22a q2_0v22n q2_0v22c), (Value.slice q2_0v23a q2_0v23n q2_0v23c)] 56 (0, 0)) := S102.frmb.heap sp94 (E79.heap B86)
  refine da_op rfl (d_loads (vs := #[.float .f32 q2_0r0, .float .f32 q2_0r1, .float .f32 q2_0r2, .float .f32 q2_0r3, .float .f32 q2_0r4, .float .f32 q2_0r5, .float .f32 q2_0r6, .float .f32 q2_0r7, (Value.slice q2_0v8a q2_0v8n q2_0v8c), (Value.slice q2_0v9a q2_0v9n q2_0v9c), (Value.slice q2_0v10a q2_0v10n q2_0v10c), (Value.slice q2_0v11a q2_0v11n q2_0v11c), .float .f32 q2_0r12, .float .f32 q2_0r13, .float .f32 q2_0r14, .float .f32 q2_0r15, .float .f32 q2_0r16, .float .f32 q2_0r17, .float .f32 q2_0r18, .float .f32 q2_0r19, .float .f32 q2_0r20, .float .f32 q2_0r21, (Value.slice q2_0v22a q2_0v22n q2_0v22c), (Value.slice q2_0v23a q2_0v23n q2_0v23c)]) rfl agg56 size56 B105 rfl ?_)
  obtain ⟨m106, hm106, hr⟩ := bind_out hr
  have B107 : OS w102 29 encSVector (Value.slice q29_0v8a q29_0v8n q29_0v8c) m22.chain.places := (q29_0v8R.ext E79).frm S102.frmb (rb sp95)
  have B108 : OS w102 29 encSVector (Value.slice q29_0v9a q29_0v9n q29_0v9c) m22.chain.before := (q29_0v9R.ext E79).frm S102.frmb (rb sp96)
  have B109 : OS w102 22 encF_f32 (Value.slice q29_0v10a q29_0v10n q29_0v10c) m22.chain.weights := (q29_0v10R.ext E79).frm S102.frmb (rb sp97)
  have B110 : OS w102 104 encSRod (Value.slice q29_0v11a q29_0v11n q29_0v11c) m22.chain.rods := (q29_0v11R.ext E79).frm S102.frmb (rb sp98)
  have B111 : OS w102 109 encSClock (Value.slice q29_0v22a q29_0v22n q29_0v22c) m22.clocks.list := (q29_0v22R.ext E79).frm S102.frmb (rb sp99)
  have B112 : OS w102 22 encF_f32 (Value.slice q29_0v23a q29_0v23n q29_0v23c) m22.clocks.links := (q29_0v23R.ext E79).frm S102.frmb (rb sp100)
  have B113 : OS w102 29 encSVector (Value.slice q2_0v8a q2_0v8n q2_0v8c) m1.chain.places := (B80.ext E79).frm S102.frmb (rb sp88)
  have B114 : OS w102 29 encSVector (Value.slice q2_0v9a q2_0v9n q2_0v9c) m1.chain.before := (B81.ext E79).frm S102.frmb (rb sp89)
  have B115 : OS w102 22 encF_f32 (Value.slice q2_0v10a q2_0v10n q2_0v10c) m1.chain.weights := (B82.ext E79).frm S102.frmb (rb sp90)
  have B116 : OS w102 104 encSRod (Value.slice q2_0v11a q2_0v11n q2_0v11c) m1.chain.rods := (B83.ext E79).frm S102.frmb (rb sp91)
  have B117 : OS w102 109 encSClock (Value.slice q2_0v22a q2_0v22n q2_0v22c) m1.clocks.list := (B84.ext E79).frm S102.frmb (rb sp92)
  have B118 : OS w102 22 encF_f32 (Value.slice q2_0v23a q2_0v23n q2_0v23c) m1.clocks.links := (B85.ext E79).frm S102.frmb (rb sp93)
  refine da_op rfl (d_cl (vs := [.agg #[.float .f32 q29_0r0, .float .f32 q29_0r1, .float .f32 q29_0r2, .float .f32 q29_0r3, .float .f32 q29_0r4, .float .f32 q29_0r5, .float .f32 q29_0r6, .float .f32 q29_0r7, (Value.slice q29_0v8a q29_0v8n q29_0v8c), (Value.slice q29_0v9a q29_0v9n q29_0v9c), (Value.slice q29_0v10a q29_0v10n q29_0v10c), (Value.slice q29_0v11a q29_0v11n q29_0v11c), .float .f32 q29_0r12, .float .f32 q29_0r13, .float .f32 q29_0r14, .float .f32 q29_0r15, .float .f32 q29_0r16, .float .f32 q29_0r17, .float .f32 q29_0r18, .float .f32 q29_0r19, .float .f32 q29_0r20, .float .f32 q29_0r21, (Value.slice q29_0v22a q29_0v22n q29_0v22c), (Value.slice q29_0v23a q29_0v23n q29_0v23c)], .agg #[.float .f32 q2_0r0, .float .f32 q2_0r1, .float .f32 q2_0r2, .float .f32 q2_0r3, .float .f32 q2_0r4, .float .f32 q2_0r5, .float .f32 q2_0r6, .float .f32 q2_0r7, (Value.slice q2_0v8a q2_0v8n q2_0v8c), (Value.slice q2_0v9a q2_0v9n q2_0v9c), (Value.slice q2_0v10a q2_0v10n q2_0v10c), (Value.slice q2_0v11a q2_0v11n q2_0v11c), .float .f32 q2_0r12, .float .f32 q2_0r13, .float .f32 q2_0r14, .float .f32 q2_0r15, .float .f32 q2_0r16, .float .f32 q2_0r17, .float .f32 q2_0r18, .float .f32 q2_0r19, .float .f32 q2_0r20, .float .f32 q2_0r21, (Value.slice q2_0v22a q2_0v22n q2_0v22c), (Value.slice q2_0v23a q2_0v23n q2_0v23c)]]) en18 (ac rfl (ac rfl rfl)) rfl ?_)
  refine (c18 (⟨(⟨m22.pendulum.long, m22.pendulum.pull, m22.pendulum.drag, m22.pendulum.drive, m22.pendulum.rate⟩ : SPendulum), (⟨m22.swing.turn, m22.swing.speed, m22.swing.time⟩ : SSwing), (⟨m22.chain.places, m22.chain.before, m22.chain.weights, m22.chain.rods⟩ : SChain), (⟨(⟨m22.top.moments.x, m22.top.moments.y, m22.top.moments.z⟩ : SVector), (⟨m22.top.turn.w, m22.top.turn.x, m22.top.turn.y, m22.top.turn.z⟩ : SSpin), (⟨m22.top.speed.x, m22.top.speed.y, m22.top.speed.z⟩ : SVector)⟩ : STop), (⟨m22.clocks.list, m22.clocks.links⟩ : SClocks)⟩ : SDesk) (⟨(⟨m1.pendulum.long, m1.pendulum.pull, m1.pendulum.drag, m1.pendulum.drive, m1.pendulum.rate⟩ : SPendulum), (⟨m1.swing.turn, m1.swing.speed, m1.swing.time⟩ : SSwing), (⟨m1.chain.places, m1.chain.before, m1.chain.weights, m1.chain.rods⟩ : SChain), (⟨(⟨m1.top.moments.x, m1.top.moments.y, m1.top.moments.z⟩ : SVector), (⟨m1.top.turn.w, m1.top.turn.x, m1.top.turn.y, m1.top.turn.z⟩ : SSpin), (⟨m1.top.speed.x, m1.top.speed.y, m1.top.speed.z⟩ : SVector)⟩ : STop), (⟨m1.clocks.list, m1.clocks.links⟩ : SClocks)⟩ : SDesk) q29_0r0 q29_0r1 q29_0r2 q29_0r3 q29_0r4 q29_0r5 q29_0r6 q29_0r7 q29_0v8a q29_0v8n q29_0v8c q29_0v9a q29_0v9n q29_0v9c q29_0v10a q29_0v10n q29_0v10c q29_0v11a q29_0v11n q29_0v11c q29_0r12 q29_0r13 q29_0r14 q29_0r15 q29_0r16 q29_0r17 q29_0r18 q29_0r19 q29_0r20 q29_0r21 q29_0v22a q29_0v22n q29_0v22c q29_0v23a q29_0v23n q29_0v23c q2_0r0 q2_0r1 q2_0r2 q2_0r3 q2_0r4 q2_0r5 q2_0r6 q2_0r7 q2_0v8a q2_0v8n q2_0v8c q2_0v9a q2_0v9n q2_0v9c q2_0v10a q2_0v10n q2_0v10c q2_0v11a q2_0v11n q2_0v11c q2_0r12 q2_0r13 q2_0r14 q2_0r15 q2_0r16 q2_0r17 q2_0r18 q2_0r19 q2_0r20 q2_0r21 q2_0v22a q2_0v22n q2_0v22c q2_0v23a q2_0v23n q2_0v23c m106 w102 hm106 q29_0h0 q29_0h1 q29_0h2 q29_0h3 q29_0h4 q29_0h5 q29_0h6 q29_0h7 B107.rs B108.rs B109.rs B110.rs q29_0h12 q29_0h13 q29_0h14 q29_0h15 q29_0h16 q29_0h17 q29_0h18 q29_0h19 q29_0h20 q29_0h21 B111.rs B112.rs q2_0h0 q2_0h1 q2_0h2 q2_0h3 q2_0h4 q2_0h5 q2_0h6 q2_0h7 B113.rs B114.rs B115.rs B116.rs q2_0h12 q2_0h13 q2_0h14 q2_0h15 q2_0h16 q2_0h17 q2_0h18 q2_0h19 q2_0h20 q2_0h21 B117.rs B118.rs).mono ?_
  rintro _ w119 ⟨rfl, E119⟩
  refine ⟨_, rfl, ?_⟩
  have X120 : Ext w w119 := X103.trans E119
  refine da_op rfl (d_not rfl ?_)
  refine da_nil ?_
  refine W_cond (b := (!m106)) rfl (fun hc121 => ?_) (fun hc121 => ?_)
  · skip
    replace hr := bif_t hr hc121
    refine W_seq ?_
    refine W_region rfl ?_
    refine da_op rfl (d_as (v := .bool false) rfl ?_)
    refine da_nil ?_
    refine W_ret ?_
    obtain rfl := Option.some.inj hr
    refine ⟨_, res1 (rv_tmp rfl), ?_⟩
    exact ⟨rfl, X120⟩
  · skip
    replace hr := bif_f hr hc121
    refine W_skip ?_
    refine W_seq ?_
    refine W_region rfl ?_
    refine da_op rfl (d_as (v := .int .i64 1) rfl ?_)
    refine da_nil ?_
    refine W_seq ?_
    refine W_region rfl ?_
    have B122 : w119.heap[w29.heap.size]? = some (.cells #[.float .f32 q29_0r0, .float .f32 q29_0r1, .float .f32 q29_0r2, .float .f32 q29_0r3, .float .f32 q29_0r4, .float .f32 q29_0r5, .float .f32 q29_0r6, .float .f32 q29_0r7, (Value.slice q29_0v8a q29_0v8n q29_0v8c), (Value.slice q29_0v9a q29_0v9n q29_0v9c), (Value.slice q29_0v10a q29_0v10n q29_0v10c), (Value.slice q29_0v11a q29_0v11n q29_0v11c), .float .f32 q29_0r12, .float .f32 q29_0r13, .float .f32 q29_0r14, .float .f32 q29_0r15, .float .f32 q29_0r16, .float .f32 q29_0r17, .float .f32 q29_0r18, .float .f32 q29_0r19, .float .f32 q29_0r20, .float .f32 q29_0r21, (Value.slice q29_0v22a q29_0v22n q29_0v22c), (Value.slice q29_0v23a q29_0v23n q29_0v23c)] 56 (0, 0)) := E119.heap B104
    refine da_op rfl (d_loads (vs := #[.float .f32 q29_0r0, .float .f32 q29_0r1, .float .f32 q29_0r2, .float .f32 q29_0r3, .float .f32 q29_0r4, .float .f32 q29_0r5, .float .f32 q29_0r6, .float .f32 q29_0r7, (Value.slice q29_0v8a q29_0v8n q29_0v8c), (Value.slice q29_0v9a q29_0v9n q29_0v9c), (Value.slice q29_0v10a q29_0v10n q29_0v10c), (Value.slice q29_0v11a q29_0v11n q29_0v11c), .float .f32 q29_0r12, .float .f32 q29_0r13, .float .f32 q29_0r14, .float .f32 q29_0r15, .float .f32 q29_0r16, .float .f32 q29_0r17, .float .f32 q29_0r18, .float .f32 q29_0r19, .float .f32 q29_0r20, .float .f32 q29_0r21, (Value.slice q29_0v22a q29_0v22n q29_0v22c), (Value.slice q29_0v23a q29_0v23n q29_0v23c)]) rfl agg56 size56 B122 rfl ?_)
    refine da_op rfl (d_mv (v := .int .i64 1) rfl ?_)
    obtain ⟨m123, hm123, hr⟩ := bind_out hr
    have B124 : OS w119 29 encSVector (Value.slice q29_0v8a q29_0v8n q29_0v8c) m22.chain.places := B107.ext E119
    have B125 : OS w119 29 encSVector (Value.slice q29_0v9a q29_0v9n q29_0v9c) m22.chain.before := B108.ext E119
    have B126 : OS w119 22 encF_f32 (Value.slice q29_0v10a q29_0v10n q29_0v10c) m22.chain.weights := B109.ext E119
    have B127 : OS w119 104 encSRod (Value.slice q29_0v11a q29_0v11n q29_0v11c) m22.chain.rods := B110.ext E119
    have B128 : OS w119 109 encSClock (Value.slice q29_0v22a q29_0v22n q29_0v22c) m22.clocks.list := B111.ext E119
    have B129 : OS w119 22 encF_f32 (Value.slice q29_0v23a q29_0v23n q29_0v23c) m22.clocks.links := B112.ext E119
    have B130 : OS w119 29 encSVector (Value.slice q2_0v8a q2_0v8n q2_0v8c) m1.chain.places := B113.ext E119
    have B131 : OS w119 29 encSVector (Value.slice q2_0v9a q2_0v9n q2_0v9c) m1.chain.before := B114.ext E119
    have B132 : OS w119 22 encF_f32 (Value.slice q2_0v10a q2_0v10n q2_0v10c) m1.chain.weights := B115.ext E119
    have B133 : OS w119 104 encSRod (Value.slice q2_0v11a q2_0v11n q2_0v11c) m1.chain.rods := B116.ext E119
    have B134 : OS w119 109 encSClock (Value.slice q2_0v22a q2_0v22n q2_0v22c) m1.clocks.list := B117.ext E119
    have B135 : OS w119 22 encF_f32 (Value.slice q2_0v23a q2_0v23n q2_0v23c) m1.clocks.links := B118.ext E119
    have B136 : w119.heap[w2.heap.size]? = some (.cells #[.float .f32 q2_0r0, .float .f32 q2_0r1, .float .f32 q2_0r2, .float .f32 q2_0r3, .float .f32 q2_0r4, .float .f32 q2_0r5, .float .f32 q2_0r6, .float .f32 q2_0r7, (Value.slice q2_0v8a q2_0v8n q2_0v8c), (Value.slice q2_0v9a q2_0v9n q2_0v9c), (Value.slice q2_0v10a q2_0v10n q2_0v10c), (Value.slice q2_0v11a q2_0v11n q2_0v11c), .float .f32 q2_0r12, .float .f32 q2_0r13, .float .f32 q2_0r14, .float .f32 q2_0r15, .float .f32 q2_0r16, .float .f32 q2_0r17, .float .f32 q2_0r18, .float .f32 q2_0r19, .float .f32 q2_0r20, .float .f32 q2_0r21, (Value.slice q2_0v22a q2_0v22n q2_0v22c), (Value.slice q2_0v23a q2_0v23n q2_0v23c)] 56 (0, 0)) := E119.heap B105
    refine da_op rfl (d_cl (vs := [.agg #[.float .f32 q29_0r0, .float .f32 q29_0r1, .float .f32 q29_0r2, .float .f32 q29_0r3, .float .f32 q29_0r4, .float .f32 q29_0r5, .float .f32 q29_0r6, .float .f32 q29_0r7, (Value.slice q29_0v8a q29_0v8n q29_0v8c), (Value.slice q29_0v9a q29_0v9n q29_0v9c), (Value.slice q29_0v10a q29_0v10n q29_0v10c), (Value.slice q29_0v11a q29_0v11n q29_0v11c), .float .f32 q29_0r12, .float .f32 q29_0r13, .float .f32 q29_0r14, .float .f32 q29_0r15, .float .f32 q29_0r16, .float .f32 q29_0r17, .float .f32 q29_0r18, .float .f32 q29_0r19, .float .f32 q29_0r20, .float .f32 q29_0r21, (Value.slice q29_0v22a q29_0v22n q29_0v22c), (Value.slice q29_0v23a q29_0v23n q29_0v23c)], .int .i64 1]) en19 (ac rfl (ac rfl rfl)) rfl ?_)
    refine (c19 (⟨(⟨m22.pendulum.long, m22.pendulum.pull, m22.pendulum.drag, m22.pendulum.drive, m22.pendulum.rate⟩ : SPendulum), (⟨m22.swing.turn, m22.swing.speed, m22.swing.time⟩ : SSwing), (⟨m22.chain.places, m22.chain.before, m22.chain.weights, m22.chain.rods⟩ : SChain), (⟨(⟨m22.top.moments.x, m22.top.moments.y, m22.top.moments.z⟩ : SVector), (⟨m22.top.turn.w, m22.top.turn.x, m22.top.turn.y, m22.top.turn.z⟩ : SSpin), (⟨m22.top.speed.x, m22.top.speed.y, m22.top.speed.z⟩ : SVector)⟩ : STop), (⟨m22.clocks.list, m22.clocks.links⟩ : SClocks)⟩ : SDesk) 1 q29_0r0 q29_0r1 q29_0r2 q29_0r3 q29_0r4 q29_0r5 q29_0r6 q29_0r7 q29_0v8a q29_0v8n q29_0v8c q29_0v9a q29_0v9n q29_0v9c q29_0v10a q29_0v10n q29_0v10c q29_0v11a q29_0v11n q29_0v11c q29_0r12 q29_0r13 q29_0r14 q29_0r15 q29_0r16 q29_0r17 q29_0r18 q29_0r19 q29_0r20 q29_0r21 q29_0v22a q29_0v22n q29_0v22c q29_0v23a q29_0v23n q29_0v23c m123 w119 hm123 q29_0h0 q29_0h1 q29_0h2 q29_0h3 q29_0h4 q29_0h5 q29_0h6 q29_0h7 B124 B125 B126 B127 q29_0h12 q29_0h13 q29_0h14 q29_0h15 q29_0h16 q29_0h17 q29_0h18 q29_0h19 q29_0h20 q29_0h21 B128 B129 q29_A1_0 q29_A2_0 q29_A2_1 q29_A3_0 q29_A3_1 q29_A3_2 q29_A4_0 q29_A4_1 q29_A4_2 q29_A4_3 q29_A5_0 q29_A5_1 q29_A5_2 q29_A5_3 q29_A5_4).mono ?_
    rintro _ w137 ⟨rfl, q137_m0R, q137_m1R, q137_m2R, q137_m3R, q137_m4R, q137_m5R, E137⟩
    refine ⟨_, rfl, ?_⟩
    have X138 : Ext w w137 := Ext.step X120 E137 (fun k t hk => hk.elim ((fun k _ hk => own30 k hk) k t) (fun hk => hk.elim ((fun k _ hk => own38 k hk) k t) (fun hk => hk.elim ((fun k _ hk => own46 k hk) k t) (fun hk => hk.elim ((fun k _ hk => own54 k hk) k t) (fun hk => hk.elim ((fun k _ hk => own62 k hk) k t) ((fun k _ hk => own70 k hk) k t))))))
    refine da_op rfl (d_as (v := .int .i64 m123.1) rfl ?_)
    refine da_nil ?_
    refine W_seq ?_
    refine W_region rfl ?_
    refine da_op rfl (d_as (v := .int .i64 1) rfl ?_)
    refine da_nil ?_
    refine W_seq ?_
    refine W_region rfl ?_
    have B139 : w137.heap[w29.heap.size]? = some (.cells #[.float .f32 q29_0r0, .float .f32 q29_0r1, .float .f32 q29_0r2, .float .f32 q29_0r3, .float .f32 q29_0r4, .float .f32 q29_0r5, .float .f32 q29_0r6, .float .f32 q29_0r7, (Value.slice q29_0v8a q29_0v8n q29_0v8c), (Value.slice q29_0v9a q29_0v9n q29_0v9c), (Value.slice q29_0v10a q29_0v10n q29_0v10c), (Value.slice q29_0v11a q29_0v11n q29_0v11c), .float .f32 q29_0r12, .float .f32 q29_0r13, .float .f32 q29_0r14, .float .f32 q29_0r15, .float .f32 q29_0r16, .float .f32 q29_0r17, .float .f32 q29_0r18, .float .f32 q29_0r19, .float .f32 q29_0r20, .float .f32 q29_0r21, (Value.slice q29_0v22a q29_0v22n q29_0v22c), (Value.slice q29_0v23a q29_0v23n q29_0v23c)] 56 (0, 0)) := E137.heap (not_or2 sp95 (not_or2 sp96 (not_or2 sp97 (not_or2 sp98 (not_or2 sp99 sp100))))) B122
    refine da_op rfl (d_loads (vs := #[.float .f32 q29_0r0, .float .f32 q29_0r1, .float .f32 q29_0r2, .float .f32 q29_0r3, .float .f32 q29_0r4, .float .f32 q29_0r5, .float .f32 q29_0r6, .float .f32 q29_0r7, (Value.slice q29_0v8a q29_0v8n q29_0v8c), (Value.slice q29_0v9a q29_0v9n q29_0v9c), (Value.slice q29_0v10a q29_0v10n q29_0v10c), (Value.slice q29_0v11a q29_0v11n q29_0v11c), .float .f32 q29_0r12, .float .f32 q29_0r13, .float .f32 q29_0r14, .float .f32 q29_0r15, .float .f32 q29_0r16, .float .f32 q29_0r17, .float .f32 q29_0r18, .float .f32 q29_0r19, .float .f32 q29_0r20, .float .f32 q29_0r21, (Value.slice q29_0v22a q29_0v22n q29_0v22c), (Value.slice q29_0v23a q29_0v23n q29_0v23c)]) rfl agg56 size56 B139 rfl ?_)
    refine da_op rfl (d_mv (v := .int .i64 1) rfl ?_)
    obtain ⟨m140, hm140, hr⟩ := bind_out hr
    have B141 : OS w137 29 encSVector (Value.slice q2_0v8a q2_0v8n q2_0v8c) m1.chain.places := B130.frm E137 (fun k hk => (not_or2 (sp31 k hk) (not_or2 (sp39 k hk) (not_or2 (sp47 k hk) (not_or2 (sp55 k hk) (not_or2 (sp63 k hk) (sp71 k hk)))))))
    have B142 : OS w137 29 encSVector (Value.slice q2_0v9a q2_0v9n q2_0v9c) m1.chain.before := B131.frm E137 (fun k hk => (not_or2 (sp32 k hk) (not_or2 (sp40 k hk) (not_or2 (sp48 k hk) (not_or2 (sp56 k hk) (not_or2 (sp64 k hk) (sp72 k hk)))))))
    have B143 : OS w137 22 encF_f32 (Value.slice q2_0v10a q2_0v10n q2_0v10c) m1.chain.weights := B132.frm E137 (fun k hk => (not_or2 (sp33 k hk) (not_or2 (sp41 k hk) (not_or2 (sp49 k hk) (not_or2 (sp57 k hk) (not_or2 (sp65 k hk) (sp73 k hk)))))))
    have B144 : OS w137 104 encSRod (Value.slice q2_0v11a q2_0v11n q2_0v11c) m1.chain.rods := B133.frm E137 (fun k hk => (not_or2 (sp34 k hk) (not_or2 (sp42 k hk) (not_or2 (sp50 k hk) (not_or2 (sp58 k hk) (not_or2 (sp66 k hk) (sp74 k hk)))))))
    have B145 : OS w137 109 encSClock (Value.slice q2_0v22a q2_0v22n q2_0v22c) m1.clocks.list := B134.frm E137 (fun k hk => (not_or2 (sp35 k hk) (not_or2 (sp43 k hk) (not_or2 (sp51 k hk) (not_or2 (sp59 k hk) (not_or2 (sp67 k hk) (sp75 k hk)))))))
    have B146 : OS w137 22 encF_f32 (Value.slice q2_0v23a q2_0v23n q2_0v23c) m1.clocks.links := B135.frm E137 (fun k hk => (not_or2 (sp36 k hk) (not_or2 (sp44 k hk) (not_or2 (sp52 k hk) (not_or2 (sp60 k hk) (not_or2 (sp68 k hk) (sp76 k hk)))))))
    have B147 : w137.heap[w2.heap.size]? = some (.cells #[.float .f32 q2_0r0, .float .f32 q2_0r1, .float .f32 q2_0r2, .float .f32 q2_0r3, .float .f32 q2_0r4, .float .f32 q2_0r5, .float .f32 q2_0r6, .float .f32 q2_0r7, (Value.slice q2_0v8a q2_0v8n q2_0v8c), (Value.slice q2_0v9a q2_0v9n q2_0v9c), (Value.slice q2_0v10a q2_0v10n q2_0v10c), (Value.slice q2_0v11a q2_0v11n q2_0v11c), .float .f32 q2_0r12, .float .f32 q2_0r13, .float .f32 q2_0r14, .float .f32 q2_0r15, .float .f32 q2_0r16, .float .f32 q2_0r17, .float .f32 q2_0r18, .float .f32 q2_0r19, .float .f32 q2_0r20, .float .f32 q2_0r21, (Value.slice q2_0v22a q2_0v22n q2_0v22c), (Value.slice q2_0v23a q2_0v23n q2_0v23c)] 56 (0, 0)) := E137.heap (not_or2 sp37 (not_or2 sp45 (not_or2 sp53 (not_or2 sp61 (not_or2 sp69 sp77))))) B136
    refine da_op rfl (d_cl (vs := [.agg #[.float .f32 q29_0r0, .float .f32 q29_0r1, .float .f32 q29_0r2, .float .f32 q29_0r3, .float .f32 q29_0r4, .float .f32 q29_0r5, .float .f32 q29_0r6, .float .f32 q29_0r7, (Value.slice q29_0v8a q29_0v8n q29_0v8c), (Value.slice q29_0v9a q29_0v9n q29_0v9c), (Value.slice q29_0v10a q29_0v10n q29_0v10c), (Value.slice q29_0v11a q29_0v11n q29_0v11c), .float .f32 q29_0r12, .float .f32 q29_0r13, .float .f32 q29_0r14, .float .f32 q29_0r15, .float .f32 q29_0r16, .float .f32 q29_0r17, .float .f32 q29_0r18, .float .f32 q29_0r19, .float .f32 q29_0r20, .float .f32 q29_0r21, (Value.slice q29_0v22a q29_0v22n q29_0v22c), (Value.slice q29_0v23a q29_0v23n q29_0v23c)], .int .i64 1]) en20 (ac rfl (ac rfl rfl)) rfl ?_)
    refine (c20 (⟨(⟨m22.pendulum.long, m22.pendulum.pull, m22.pendulum.drag, m22.pendulum.drive, m22.pendulum.rate⟩ : SPendulum), (⟨m22.swing.turn, m22.swing.speed, m22.swing.time⟩ : SSwing), (⟨m123.2.1, m123.2.2.1, m123.2.2.2.1, m123.2.2.2.2.1⟩ : SChain), (⟨(⟨m22.top.moments.x, m22.top.moments.y, m22.top.moments.z⟩ : SVector), (⟨m22.top.turn.w, m22.top.turn.x, m22.top.turn.y, m22.top.turn.z⟩ : SSpin), (⟨m22.top.speed.x, m22.top.speed.y, m22.top.speed.z⟩ : SVector)⟩ : STop), (⟨m123.2.2.2.2.2.1, m123.2.2.2.2.2.2⟩ : SClocks)⟩ : SDesk) 1 q29_0r0 q29_0r1 q29_0r2 q29_0r3 q29_0r4 q29_0r5 q29_0r6 q29_0r7 q29_0v8a q29_0v8n q29_0v8c q29_0v9a q29_0v9n q29_0v9c q29_0v10a q29_0v10n q29_0v10c q29_0v11a q29_0v11n q29_0v11c q29_0r12 q29_0r13 q29_0r14 q29_0r15 q29_0r16 q29_0r17 q29_0r18 q29_0r19 q29_0r20 q29_0r21 q29_0v22a q29_0v22n q29_0v22c q29_0v23a q29_0v23n q29_0v23c m140 w137 hm140 q29_0h0 q29_0h1 q29_0h2 q29_0h3 q29_0h4 q29_0h5 q29_0h6 q29_0h7 q137_m0R.rs q137_m1R.rs q137_m2R.rs q137_m3R.rs q29_0h12 q29_0h13 q29_0h14 q29_0h15 q29_0h16 q29_0h17 q29_0h18 q29_0h19 q29_0h20 q29_0h21 q137_m4R.rs q137_m5R.rs).mono ?_
    rintro _ w148 ⟨rfl, E148⟩
    refine ⟨_, rfl, ?_⟩
    have X149 : Ext w w148 := X138.trans E148
    refine da_op rfl (d_as (v := .int .i64 m140) rfl ?_)
    refine da_nil ?_
    refine W_seq ?_
    refine W_seq ?_
    refine W_region rfl ?_
    refine da_op rfl (d_mv (v := .int .i64 m140) rfl ?_)
    refine da_op rfl (d_icmp cLss rfl rfl ?_)
    refine da_nil ?_
    refine W_cond (b := (icmp .lss m140 0)) rfl (fun hc150 => ?_) (fun hc150 => ?_)
    · skip
      replace hr := bif_t hr hc150
      refine W_seq ?_
      refine W_region rfl ?_
      refine da_op rfl (d_as (v := .bool false) rfl ?_)
      refine da_nil ?_
      refine W_ret ?_
      obtain rfl := Option.some.inj hr
      refine ⟨_, res1 (rv_tmp rfl), ?_⟩
      exact ⟨rfl, X149⟩
    · skip
      replace hr := bif_f hr hc150
      refine W_skip ?_
      refine W_seq ?_
      refine W_seq ?_
      refine W_region rfl ?_
      refine da_op rfl (d_mv (v := .int .i64 m140) rfl ?_)
      refine da_op rfl (d_mv (v := .int .i64 m123.1) rfl ?_)
      refine da_op rfl (d_icmp cNeq rfl rfl ?_)
      refine da_nil ?_
      refine W_cond (b := (icmp .neq m140 m123.1)) rfl (fun hc151 => ?_) (fun hc151 => ?_)
      · skip
        replace hr := bif_t hr hc151
        refine W_seq ?_
        refine W_region rfl ?_
        refine da_op rfl (d_as (v := .bool false) rfl ?_)
        refine da_nil ?_
        refine W_ret ?_
        obtain rfl := Option.some.inj hr
        refine ⟨_, res1 (rv_tmp rfl), ?_⟩
        exact ⟨rfl, X149⟩
      · skip
        replace hr := bif_f hr hc151
        refine W_skip ?_
        refine W_seq ?_
        refine W_region rfl ?_
        obtain ⟨m152, hm152, hr⟩ := bind_out hr
        have B153 : OS w148 29 encSVector (Value.slice q2_0v8a q2_0v8n q2_0v8c) m1.chain.places := B141.ext E148
        have B154 : OS w148 29 encSVector (Value.slice q2_0v9a q2_0v9n q2_0v9c) m1.chain.before := B142.ext E148
        have B155 : OS w148 22 encF_f32 (Value.slice q2_0v10a q2_0v10n q2_0v10c) m1.chain.weights := B143.ext E148
        have B156 : OS w148 104 encSRod (Value.slice q2_0v11a q2_0v11n q2_0v11c) m1.chain.rods := B144.ext E148
        have B157 : OS w148 109 encSClock (Value.slice q2_0v22a q2_0v22n q2_0v22c) m1.clocks.list := B145.ext E148
        have B158 : OS w148 22 encF_f32 (Value.slice q2_0v23a q2_0v23n q2_0v23c) m1.clocks.links := B146.ext E148
        have B159 : w148.heap[w2.heap.size]? = some (.cells #[.float .f32 q2_0r0, .float .f32 q2_0r1, .float .f32 q2_0r2, .float .f32 q2_0r3, .float .f32 q2_0r4, .float .f32 q2_0r5, .float .f32 q2_0r6, .float .f32 q2_0r7, (Value.slice q2_0v8a q2_0v8n q2_0v8c), (Value.slice q2_0v9a q2_0v9n q2_0v9c), (Value.slice q2_0v10a q2_0v10n q2_0v10c), (Value.slice q2_0v11a q2_0v11n q2_0v11c), .float .f32 q2_0r12, .float .f32 q2_0r13, .float .f32 q2_0r14, .float .f32 q2_0r15, .float .f32 q2_0r16, .float .f32 q2_0r17, .float .f32 q2_0r18, .float .f32 q2_0r19, .float .f32 q2_0r20, .float .f32 q2_0r21, (Value.slice q2_0v22a q2_0v22n q2_0v22c), (Value.slice q2_0v23a q2_0v23n q2_0v23c)] 56 (0, 0)) := E148.heap B147
        have B160 : OS w148 29 encSVector (Value.slice q29_0v8a q29_0v8n q29_0v8c) m123.2.1 := q137_m0R.ext E148
        have B161 : OS w148 29 encSVector (Value.slice q29_0v9a q29_0v9n q29_0v9c) m123.2.2.1 := q137_m1R.ext E148
        have B162 : OS w148 22 encF_f32 (Value.slice q29_0v10a q29_0v10n q29_0v10c) m123.2.2.2.1 := q137_m2R.ext E148
        have B163 : OS w148 104 encSRod (Value.slice q29_0v11a q29_0v11n q29_0v11c) m123.2.2.2.2.1 := q137_m3R.ext E148
        have B164 : OS w148 109 encSClock (Value.slice q29_0v22a q29_0v22n q29_0v22c) m123.2.2.2.2.2.1 := q137_m4R.ext E148
        have B165 : OS w148 22 encF_f32 (Value.slice q29_0v23a q29_0v23n q29_0v23c) m123.2.2.2.2.2.2 := q137_m5R.ext E148
        have B166 : w148.heap[w29.heap.size]? = some (.cells #[.float .f32 q29_0r0, .float .f32 q29_0r1, .float .f32 q29_0r2, .float .f32 q29_0r3, .float .f32 q29_0r4, .float .f32 q29_0r5, .float .f32 q29_0r6, .float .f32 q29_0r7, (Value.slice q29_0v8a q29_0v8n q29_0v8c), (Value.slice q29_0v9a q29_0v9n q29_0v9c), (Value.slice q29_0v10a q29_0v10n q29_0v10c), (Value.slice q29_0v11a q29_0v11n q29_0v11c), .float .f32 q29_0r12, .float .f32 q29_0r13, .float .f32 q29_0r14, .float .f32 q29_0r15, .float .f32 q29_0r16, .float .f32 q29_0r17, .float .f32 q29_0r18, .float .f32 q29_0r19, .float .f32 q29_0r20, .float .f32 q29_0r21, (Value.slice q29_0v22a q29_0v22n q29_0v22c), (Value.slice q29_0v23a q29_0v23n q29_0v23c)] 56 (0, 0)) := E148.heap B139
        refine da_op rfl (d_cl (vs := []) en17 rfl rfl ?_)
        refine (c17  m152 w148 hm152 ).mono ?_
        rintro _ w167 ⟨q167_0r0, q167_0r1, q167_0r2, q167_0r3, q167_0r4, q167_0r5, q167_0r6, q167_0r7, q167_0v8a, q167_0v8n, q167_0v8c, q167_0v9a, q167_0v9n, q167_0v9c, q167_0v10a, q167_0v10n, q167_0v10c, q167_0v11a, q167_0v11n, q167_0v11c, q167_0r12, q167_0r13, q167_0r14, q167_0r15, q167_0r16, q167_0r17, q167_0r18, q167_0r19, q167_0r20, q167_0r21, q167_0v22a, q167_0v22n, q167_0v22c, q167_0v23a, q167_0v23n, q167_0v23c, rfl, q167_0h0, q167_0h1, q167_0h2, q167_0h3, q167_0h4, q167_0h5, q167_0h6, q167_0h7, q167_0v8R, q167_0v8F, q167_0v9R, q167_0v9F, q167_0v10R, q167_0v10F, q167_0v11R, q167_0v11F, q167_0h12, q167_0h13, q167_0h14, q167_0h15, q167_0h16, q167_0h17, q167_0h18, q167_0h19, q167_0h20, q167_0h21, q167_0v22R, q167_0v22F, q167_0v23R, q167_0v23F, q167_A1_0, q167_A2_0, q167_A2_1, q167_A3_0, q167_A3_1, q167_A3_2, q167_A4_0, q167_A4_1, q167_A4_2, q167_A4_3, q167_A5_0, q167_A5_1, q167_A5_2, q167_A5_3, q167_A5_4, E167⟩
        refine ⟨_, rfl, ?_⟩
        have own168 : ∀ k, (Value.slice q167_0v8a q167_0v8n q167_0v8c).ownBlock = some k → w.heap.size ≤ k := fun k hk => Nat.le_trans X149.size (q167_0v8F k hk)
        have sp169 : ∀ k, (Value.slice q2_0v8a q2_0v8n q2_0v8c).ownBlock = some k → ¬ (Value.slice q167_0v8a q167_0v8n q167_0v8c).ownBlock = some k := apart_fresh B153 q167_0v8F
        have sp170 : ∀ k, (Value.slice q2_0v9a q2_0v9n q2_0v9c).ownBlock = some k → ¬ (Value.slice q167_0v8a q167_0v8n q167_0v8c).ownBlock = some k := apart_fresh B154 q167_0v8F
        have sp171 : ∀ k, (Value.slice q2_0v10a q2_0v10n q2_0v10c).ownBlock = some k → ¬ (Value.slice q167_0v8a q167_0v8n q167_0v8c).ownBlock = some k := apart_fresh B155 q167_0v8F
        have sp172 : ∀ k, (Value.slice q2_0v11a q2_0v11n q2_0v11c).ownBlock = some k → ¬ (Value.slice q167_0v8a q167_0v8n q167_0v8c).ownBlock = some k := apart_fresh B156 q167_0v8F
        have sp173 : ∀ k, (Value.slice q2_0v22a q2_0v22n q2_0v22c).ownBlock = some k → ¬ (Value.slice q167_0v8a q167_0v8n q167_0v8c).ownBlock = some k := apart_fresh B157 q167_0v8F
        have sp174 : ∀ k, (Value.slice q2_0v23a q2_0v23n q2_0v23c).ownBlock = some k → ¬ (Value.slice q167_0v8a q167_0v8n q167_0v8c).ownBlock = some k := apart_fresh B158 q167_0v8F
        have sp175 : ¬ (Value.slice q167_0v8a q167_0v8n q167_0v8c).ownBlock = some w2.heap.size := ne_fresh q167_0v8F (lt_heap B159)
        have sp176 : ∀ k, (Value.slice q29_0v8a q29_0v8n q29_0v8c).ownBlock = some k → ¬ (Value.slice q167_0v8a q167_0v8n q167_0v8c).ownBlock = some k := apart_fresh B160 q167_0v8F
        have sp177 : ∀ k, (Value.slice q29_0v9a q29_0v9n q29_0v9c).ownBlock = some k → ¬ (Value.slice q167_0v8a q167_0v8n q167_0v8c).ownBlock = some k := apart_fresh B161 q167_0v8F
        have sp178 : ∀ k, (Value.slice q29_0v10a q29_0v10n q29_0v10c).ownBlock = some k → ¬ (Value.slice q167_0v8a q167_0v8n q167_0v8c).ownBlock = some k := apart_fresh B162 q167_0v8F
        have sp179 : ∀ k, (Value.slice q29_0v11a q29_0v11n q29_0v11c).ownBlock = some k → ¬ (Value.slice q167_0v8a q167_0v8n q167_0v8c).ownBlock = some k := apart_fresh B163 q167_0v8F
        have sp180 : ∀ k, (Value.slice q29_0v22a q29_0v22n q29_0v22c).ownBlock = some k → ¬ (Value.slice q167_0v8a q167_0v8n q167_0v8c).ownBlock = some k := apart_fresh B164 q167_0v8F
        have sp181 : ∀ k, (Value.slice q29_0v23a q29_0v23n q29_0v23c).ownBlock = some k → ¬ (Value.slice q167_0v8a q167_0v8n q167_0v8c).ownBlock = some k := apart_fresh B165 q167_0v8F
        have sp182 : ¬ (Value.slice q167_0v8a q167_0v8n q167_0v8c).ownBlock = some w29.heap.size := ne_fresh q167_0v8F (lt_heap B166)
        have own183 : ∀ k, (Value.slice q167_0v9a q167_0v9n q167_0v9c).ownBlock = some k → w.heap.size ≤ k := fun k hk => Nat.le_trans X149.size (q167_0v9F k hk)
        have sp184 : ∀ k, (Value.slice q2_0v8a q2_0v8n q2_0v8c).ownBlock = some k → ¬ (Value.slice q167_0v9a q167_0v9n q167_0v9c).ownBlock = some k := apart_fresh B153 q167_0v9F
        have sp185 : ∀ k, (Value.slice q2_0v9a q2_0v9n q2_0v9c).ownBlock = some k → ¬ (Value.slice q167_0v9a q167_0v9n q167_0v9c).ownBlock = some k := apart_fresh B154 q167_0v9F
        have sp186 : ∀ k, (Value.slice q2_0v10a q2_0v10n q2_0v10c).ownBlock = some k → ¬ (Value.slice q167_0v9a q167_0v9n q167_0v9c).ownBlock = some k := apart_fresh B155 q167_0v9F
        have sp187 : ∀ k, (Value.slice q2_0v11a q2_0v11n q2_0v11c).ownBlock = some k → ¬ (Value.slice q167_0v9a q167_0v9n q167_0v9c).ownBlock = some k := apart_fresh B156 q167_0v9F
        have sp188 : ∀ k, (Value.slice q2_0v22a q2_0v22n q2_0v22c).ownBlock = some k → ¬ (Value.slice q167_0v9a q167_0v9n q167_0v9c).ownBlock = some k := apart_fresh B157 q167_0v9F
        have sp189 : ∀ k, (Value.slice q2_0v23a q2_0v23n q2_0v23c).ownBlock = some k → ¬ (Value.slice q167_0v9a q167_0v9n q167_0v9c).ownBlock = some k := apart_fresh B158 q167_0v9F
        have sp190 : ¬ (Value.slice q167_0v9a q167_0v9n q167_0v9c).ownBlock = some w2.heap.size := ne_fresh q167_0v9F (lt_heap B159)
        have sp191 : ∀ k, (Value.slice q29_0v8a q29_0v8n q29_0v8c).ownBlock = some k → ¬ (Value.slice q167_0v9a q167_0v9n q167_0v9c).ownBlock = some k := apart_fresh B160 q167_0v9F
        have sp192 : ∀ k, (Value.slice q29_0v9a q29_0v9n q29_0v9c).ownBlock = some k → ¬ (Value.slice q167_0v9a q167_0v9n q167_0v9c).ownBlock = some k := apart_fresh B161 q167_0v9F
        have sp193 : ∀ k, (Value.slice q29_0v10a q29_0v10n q29_0v10c).ownBlock = some k → ¬ (Value.slice q167_0v9a q167_0v9n q167_0v9c).ownBlock = some k := apart_fresh B162 q167_0v9F
        have sp194 : ∀ k, (Value.slice q29_0v11a q29_0v11n q29_0v11c).ownBlock = some k → ¬ (Value.slice q167_0v9a q167_0v9n q167_0v9c).ownBlock = some k := apart_fresh B163 q167_0v9F
        have sp195 : ∀ k, (Value.slice q29_0v22a q29_0v22n q29_0v22c).ownBlock = some k → ¬ (Value.slice q167_0v9a q167_0v9n q167_0v9c).ownBlock = some k := apart_fresh B164 q167_0v9F
        have sp196 : ∀ k, (Value.slice q29_0v23a q29_0v23n q29_0v23c).ownBlock = some k → ¬ (Value.slice q167_0v9a q167_0v9n q167_0v9c).ownBlock = some k := apart_fresh B165 q167_0v9F
        have sp197 : ¬ (Value.slice q167_0v9a q167_0v9n q167_0v9c).ownBlock = some w29.heap.size := ne_fresh q167_0v9F (lt_heap B166)
        have own198 : ∀ k, (Value.slice q167_0v10a q167_0v10n q167_0v10c).ownBlock = some k → w.heap.size ≤ k := fun k hk => Nat.le_trans X149.size (q167_0v10F k hk)
        have sp199 : ∀ k, (Value.slice q2_0v8a q2_0v8n q2_0v8c).ownBlock = some k → ¬ (Value.slice q167_0v10a q167_0v10n q167_0v10c).ownBlock = some k := apart_fresh B153 q167_0v10F
        have sp200 : ∀ k, (Value.slice q2_0v9a q2_0v9n q2_0v9c).ownBlock = some k → ¬ (Value.slice q167_0v10a q167_0v10n q167_0v10c).ownBlock = some k := apart_fresh B154 q167_0v10F
        have sp201 : ∀ k, (Value.slice q2_0v10a q2_0v10n q2_0v10c).ownBlock = some k → ¬ (Value.slice q167_0v10a q167_0v10n q167_0v10c).ownBlock = some k := apart_fresh B155 q167_0v10F
        have sp202 : ∀ k, (Value.slice q2_0v11a q2_0v11n q2_0v11c).ownBlock = some k → ¬ (Value.slice q167_0v10a q167_0v10n q167_0v10c).ownBlock = some k := apart_fresh B156 q167_0v10F
        have sp203 : ∀ k, (Value.slice q2_0v22a q2_0v22n q2_0v22c).ownBlock = some k → ¬ (Value.slice q167_0v10a q167_0v10n q167_0v10c).ownBlock = some k := apart_fresh B157 q167_0v10F
        have sp204 : ∀ k, (Value.slice q2_0v23a q2_0v23n q2_0v23c).ownBlock = some k → ¬ (Value.slice q167_0v10a q167_0v10n q167_0v10c).ownBlock = some k := apart_fresh B158 q167_0v10F
        have sp205 : ¬ (Value.slice q167_0v10a q167_0v10n q167_0v10c).ownBlock = some w2.heap.size := ne_fresh q167_0v10F (lt_heap B159)
        have sp206 : ∀ k, (Value.slice q29_0v8a q29_0v8n q29_0v8c).ownBlock = some k → ¬ (Value.slice q167_0v10a q167_0v10n q167_0v10c).ownBlock = some k := apart_fresh B160 q167_0v10F
        have sp207 : ∀ k, (Value.slice q29_0v9a q29_0v9n q29_0v9c).ownBlock = some k → ¬ (Value.slice q167_0v10a q167_0v10n q167_0v10c).ownBlock = some k := apart_fresh B161 q167_0v10F
        have sp208 : ∀ k, (Value.slice q29_0v10a q29_0v10n q29_0v10c).ownBlock = some k → ¬ (Value.slice q167_0v10a q167_0v10n q167_0v10c).ownBlock = some k := apart_fresh B162 q167_0v10F
        have sp209 : ∀ k, (Value.slice q29_0v11a q29_0v11n q29_0v11c).ownBlock = some k → ¬ (Value.slice q167_0v10a q167_0v10n q167_0v10c).ownBlock = some k := apart_fresh B163 q167_0v10F
        have sp210 : ∀ k, (Value.slice q29_0v22a q29_0v22n q29_0v22c).ownBlock = some k → ¬ (Value.slice q167_0v10a q167_0v10n q167_0v10c).ownBlock = some k := apart_fresh B164 q167_0v10F
        have sp211 : ∀ k, (Value.slice q29_0v23a q29_0v23n q29_0v23c).ownBlock = some k → ¬ (Value.slice q167_0v10a q167_0v10n q167_0v10c).ownBlock = some k := apart_fresh B165 q167_0v10F
        have sp212 : ¬ (Value.slice q167_0v10a q167_0v10n q167_0v10c).ownBlock = some w29.heap.size := ne_fresh q167_0v10F (lt_heap B166)
        have own213 : ∀ k, (Value.slice q167_0v11a q167_0v11n q167_0v11c).ownBlock = some k → w.heap.size ≤ k := fun k hk => Nat.le_trans X149.size (q167_0v11F k hk)
        have sp214 : ∀ k, (Value.slice q2_0v8a q2_0v8n q2_0v8c).ownBlock = some k → ¬ (Value.slice q167_0v11a q167_0v11n q167_0v11c).ownBlock = some k := apart_fresh B153 q167_0v11F
        have sp215 : ∀ k, (Value.slice q2_0v9a q2_0v9n q2_0v9c).ownBlock = some k → ¬ (Value.slice q167_0v11a q167_0v11n q167_0v11c).ownBlock = some k := apart_fresh B154 q167_0v11F
        have sp216 : ∀ k, (Value.slice q2_0v10a q2_0v10n q2_0v10c).ownBlock = some k → ¬ (Value.slice q167_0v11a q167_0v11n q167_0v11c).ownBlock = some k := apart_fresh B155 q167_0v11F
        have sp217 : ∀ k, (Value.slice q2_0v11a q2_0v11n q2_0v11c).ownBlock = some k → ¬ (Value.slice q167_0v11a q167_0v11n q167_0v11c).ownBlock = some k := apart_fresh B156 q167_0v11F
        have sp218 : ∀ k, (Value.slice q2_0v22a q2_0v22n q2_0v22c).ownBlock = some k → ¬ (Value.slice q167_0v11a q167_0v11n q167_0v11c).ownBlock = some k := apart_fresh B157 q167_0v11F
        have sp219 : ∀ k, (Value.slice q2_0v23a q2_0v23n q2_0v23c).ownBlock = some k → ¬ (Value.slice q167_0v11a q167_0v11n q167_0v11c).ownBlock = some k := apart_fresh B158 q167_0v11F
        have sp220 : ¬ (Value.slice q167_0v11a q167_0v11n q167_0v11c).ownBlock = some w2.heap.size := ne_fresh q167_0v11F (lt_heap B159)
        have sp221 : ∀ k, (Value.slice q29_0v8a q29_0v8n q29_0v8c).ownBlock = some k → ¬ (Value.slice q167_0v11a q167_0v11n q167_0v11c).ownBlock = some k := apart_fresh B160 q167_0v11F
        have sp222 : ∀ k, (Value.slice q29_0v9a q29_0v9n q29_0v9c).ownBlock = some k → ¬ (Value.slice q167_0v11a q167_0v11n q167_0v11c).ownBlock = some k := apart_fresh B161 q167_0v11F
        have sp223 : ∀ k, (Value.slice q29_0v10a q29_0v10n q29_0v10c).ownBlock = some k → ¬ (Value.slice q167_0v11a q167_0v11n q167_0v11c).ownBlock = some k := apart_fresh B162 q167_0v11F
        have sp224 : ∀ k, (Value.slice q29_0v11a q29_0v11n q29_0v11c).ownBlock = some k → ¬ (Value.slice q167_0v11a q167_0v11n q167_0v11c).ownBlock = some k := apart_fresh B163 q167_0v11F
        have sp225 : ∀ k, (Value.slice q29_0v22a q29_0v22n q29_0v22c).ownBlock = some k → ¬ (Value.slice q167_0v11a q167_0v11n q167_0v11c).ownBlock = some k := apart_fresh B164 q167_0v11F
        have sp226 : ∀ k, (Value.slice q29_0v23a q29_0v23n q29_0v23c).ownBlock = some k → ¬ (Value.slice q167_0v11a q167_0v11n q167_0v11c).ownBlock = some k := apart_fresh B165 q167_0v11F
        have sp227 : ¬ (Value.slice q167_0v11a q167_0v11n q167_0v11c).ownBlock = some w29.heap.size := ne_fresh q167_0v11F (lt_heap B166)
        have own228 : ∀ k, (Value.slice q167_0v22a q167_0v22n q167_0v22c).ownBlock = some k → w.heap.size ≤ k := fun k hk => Nat.le_trans X149.size (q167_0v22F k hk)
        have sp229 : ∀ k, (Value.slice q2_0v8a q2_0v8n q2_0v8c).ownBlock = some k → ¬ (Value.slice q167_0v22a q167_0v22n q167_0v22c).ownBlock = some k := apart_fresh B153 q167_0v22F
        have sp230 : ∀ k, (Value.slice q2_0v9a q2_0v9n q2_0v9c).ownBlock = some k → ¬ (Value.slice q167_0v22a q167_0v22n q167_0v22c).ownBlock = some k := apart_fresh B154 q167_0v22F
        have sp231 : ∀ k, (Value.slice q2_0v10a q2_0v10n q2_0v10c).ownBlock = some k → ¬ (Value.slice q167_0v22a q167_0v22n q167_0v22c).ownBlock = some k := apart_fresh B155 q167_0v22F
        have sp232 : ∀ k, (Value.slice q2_0v11a q2_0v11n q2_0v11c).ownBlock = some k → ¬ (Value.slice q167_0v22a q167_0v22n q167_0v22c).ownBlock = some k := apart_fresh B156 q167_0v22F
        have sp233 : ∀ k, (Value.slice q2_0v22a q2_0v22n q2_0v22c).ownBlock = some k → ¬ (Value.slice q167_0v22a q167_0v22n q167_0v22c).ownBlock = some k := apart_fresh B157 q167_0v22F
        have sp234 : ∀ k, (Value.slice q2_0v23a q2_0v23n q2_0v23c).ownBlock = some k → ¬ (Value.slice q167_0v22a q167_0v22n q167_0v22c).ownBlock = some k := apart_fresh B158 q167_0v22F
        have sp235 : ¬ (Value.slice q167_0v22a q167_0v22n q167_0v22c).ownBlock = some w2.heap.size := ne_fresh q167_0v22F (lt_heap B159)
        have sp236 : ∀ k, (Value.slice q29_0v8a q29_0v8n q29_0v8c).ownBlock = some k → ¬ (Value.slice q167_0v22a q167_0v22n q167_0v22c).ownBlock = some k := apart_fresh B160 q167_0v22F
        have sp237 : ∀ k, (Value.slice q29_0v9a q29_0v9n q29_0v9c).ownBlock = some k → ¬ (Value.slice q167_0v22a q167_0v22n q167_0v22c).ownBlock = some k := apart_fresh B161 q167_0v22F
        have sp238 : ∀ k, (Value.slice q29_0v10a q29_0v10n q29_0v10c).ownBlock = some k → ¬ (Value.slice q167_0v22a q167_0v22n q167_0v22c).ownBlock = some k := apart_fresh B162 q167_0v22F
        have sp239 : ∀ k, (Value.slice q29_0v11a q29_0v11n q29_0v11c).ownBlock = some k → ¬ (Value.slice q167_0v22a q167_0v22n q167_0v22c).ownBlock = some k := apart_fresh B163 q167_0v22F
        have sp240 : ∀ k, (Value.slice q29_0v22a q29_0v22n q29_0v22c).ownBlock = some k → ¬ (Value.slice q167_0v22a q167_0v22n q167_0v22c).ownBlock = some k := apart_fresh B164 q167_0v22F
        have sp241 : ∀ k, (Value.slice q29_0v23a q29_0v23n q29_0v23c).ownBlock = some k → ¬ (Value.slice q167_0v22a q167_0v22n q167_0v22c).ownBlock = some k := apart_fresh B165 q167_0v22F
        have sp242 : ¬ (Value.slice q167_0v22a q167_0v22n q167_0v22c).ownBlock = some w29.heap.size := ne_fresh q167_0v22F (lt_heap B166)
        have own243 : ∀ k, (Value.slice q167_0v23a q167_0v23n q167_0v23c).ownBlock = some k → w.heap.size ≤ k := fun k hk => Nat.le_trans X149.size (q167_0v23F k hk)
        have sp244 : ∀ k, (Value.slice q2_0v8a q2_0v8n q2_0v8c).ownBlock = some k → ¬ (Value.slice q167_0v23a q167_0v23n q167_0v23c).ownBlock = some k := apart_fresh B153 q167_0v23F
        have sp245 : ∀ k, (Value.slice q2_0v9a q2_0v9n q2_0v9c).ownBlock = some k → ¬ (Value.slice q167_0v23a q167_0v23n q167_0v23c).ownBlock = some k := apart_fresh B154 q167_0v23F
        have sp246 : ∀ k, (Value.slice q2_0v10a q2_0v10n q2_0v10c).ownBlock = some k → ¬ (Value.slice q167_0v23a q167_0v23n q167_0v23c).ownBlock = some k := apart_fresh B155 q167_0v23F
        have sp247 : ∀ k, (Value.slice q2_0v11a q2_0v11n q2_0v11c).ownBlock = some k → ¬ (Value.slice q167_0v23a q167_0v23n q167_0v23c).ownBlock = some k := apart_fresh B156 q167_0v23F
        have sp248 : ∀ k, (Value.slice q2_0v22a q2_0v22n q2_0v22c).ownBlock = some k → ¬ (Value.slice q167_0v23a q167_0v23n q167_0v23c).ownBlock = some k := apart_fresh B157 q167_0v23F
        have sp249 : ∀ k, (Value.slice q2_0v23a q2_0v23n q2_0v23c).ownBlock = some k → ¬ (Value.slice q167_0v23a q167_0v23n q167_0v23c).ownBlock = some k := apart_fresh B158 q167_0v23F
        have sp250 : ¬ (Value.slice q167_0v23a q167_0v23n q167_0v23c).ownBlock = some w2.heap.size := ne_fresh q167_0v23F (lt_heap B159)
        have sp251 : ∀ k, (Value.slice q29_0v8a q29_0v8n q29_0v8c).ownBlock = some k → ¬ (Value.slice q167_0v23a q167_0v23n q167_0v23c).ownBlock = some k := apart_fresh B160 q167_0v23F
        have sp252 : ∀ k, (Value.slice q29_0v9a q29_0v9n q29_0v9c).ownBlock = some k → ¬ (Value.slice q167_0v23a q167_0v23n q167_0v23c).ownBlock = some k := apart_fresh B161 q167_0v23F
        have sp253 : ∀ k, (Value.slice q29_0v10a q29_0v10n q29_0v10c).ownBlock = some k → ¬ (Value.slice q167_0v23a q167_0v23n q167_0v23c).ownBlock = some k := apart_fresh B162 q167_0v23F
        have sp254 : ∀ k, (Value.slice q29_0v11a q29_0v11n q29_0v11c).ownBlock = some k → ¬ (Value.slice q167_0v23a q167_0v23n q167_0v23c).ownBlock = some k := apart_fresh B163 q167_0v23F
        have sp255 : ∀ k, (Value.slice q29_0v22a q29_0v22n q29_0v22c).ownBlock = some k → ¬ (Value.slice q167_0v23a q167_0v23n q167_0v23c).ownBlock = some k := apart_fresh B164 q167_0v23F
        have sp256 : ∀ k, (Value.slice q29_0v23a q29_0v23n q29_0v23c).ownBlock = some k → ¬ (Value.slice q167_0v23a q167_0v23n q167_0v23c).ownBlock = some k := apart_fresh B165 q167_0v23F
        have sp257 : ¬ (Value.slice q167_0v23a q167_0v23n q167_0v23c).ownBlock = some w29.heap.size := ne_fresh q167_0v23F (lt_heap B166)
        have X258 : Ext w w167 := X149.trans E167
        have B260 : OS w167 29 encSVector (Value.slice q2_0v8a q2_0v8n q2_0v8c) m1.chain.places := B153.ext E167
        have B261 : OS w167 29 encSVector (Value.slice q2_0v9a q2_0v9n q2_0v9c) m1.chain.before := B154.ext E167
        have B262 : OS w167 22 encF_f32 (Value.slice q2_0v10a q2_0v10n q2_0v10c) m1.chain.weights := B155.ext E167
        have B263 : OS w167 104 encSRod (Value.slice q2_0v11a q2_0v11n q2_0v11c) m1.chain.rods := B156.ext E167
        have B264 : OS w167 109 encSClock (Value.slice q2_0v22a q2_0v22n q2_0v22c) m1.clocks.list := B157.ext E167
        have B265 : OS w167 22 encF_f32 (Value.slice q2_0v23a q2_0v23n q2_0v23c) m1.clocks.links := B158.ext E167
        have B266 : w167.heap[w2.heap.size]? = some (.cells #[.float .f32 q2_0r0, .float .f32 q2_0r1, .float .f32 q2_0r2, .float .f32 q2_0r3, .float .f32 q2_0r4, .float .f32 q2_0r5, .float .f32 q2_0r6, .float .f32 q2_0r7, (Value.slice q2_0v8a q2_0v8n q2_0v8c), (Value.slice q2_0v9a q2_0v9n q2_0v9c), (Value.slice q2_0v10a q2_0v10n q2_0v10c), (Value.slice q2_0v11a q2_0v11n q2_0v11c), .float .f32 q2_0r12, .float .f32 q2_0r13, .float .f32 q2_0r14, .float .f32 q2_0r15, .float .f32 q2_0r16, .float .f32 q2_0r17, .float .f32 q2_0r18, .float .f32 q2_0r19, .float .f32 q2_0r20, .float .f32 q2_0r21, (Value.slice q2_0v22a q2_0v22n q2_0v22c), (Value.slice q2_0v23a q2_0v23n q2_0v23c)] 56 (0, 0)) := E167.heap B159
        have B267 : OS w167 29 encSVector (Value.slice q29_0v8a q29_0v8n q29_0v8c) m123.2.1 := B160.ext E167
        have B268 : OS w167 29 encSVector (Value.slice q29_0v9a q29_0v9n q29_0v9c) m123.2.2.1 := B161.ext E167
        have B269 : OS w167 22 encF_f32 (Value.slice q29_0v10a q29_0v10n q29_0v10c) m123.2.2.2.1 := B162.ext E167
        have B270 : OS w167 104 encSRod (Value.slice q29_0v11a q29_0v11n q29_0v11c) m123.2.2.2.2.1 := B163.ext E167
        have B271 : OS w167 109 encSClock (Value.slice q29_0v22a q29_0v22n q29_0v22c) m123.2.2.2.2.2.1 := B164.ext E167
        have B272 : OS w167 22 encF_f32 (Value.slice q29_0v23a q29_0v23n q29_0v23c) m123.2.2.2.2.2.2 := B165.ext E167
        have B273 : w167.heap[w29.heap.size]? = some (.cells #[.float .f32 q29_0r0, .float .f32 q29_0r1, .float .f32 q29_0r2, .float .f32 q29_0r3, .float .f32 q29_0r4, .float .f32 q29_0r5, .float .f32 q29_0r6, .float .f32 q29_0r7, (Value.slice q29_0v8a q29_0v8n q29_0v8c), (Value.slice q29_0v9a q29_0v9n q29_0v9c), (Value.slice q29_0v10a q29_0v10n q29_0v10c), (Value.slice q29_0v11a q29_0v11n q29_0v11c), .float .f32 q29_0r12, .float .f32 q29_0r13, .float .f32 q29_0r14, .float .f32 q29_0r15, .float .f32 q29_0r16, .float .f32 q29_0r17, .float .f32 q29_0r18, .float .f32 q29_0r19, .float .f32 q29_0r20, .float .f32 q29_0r21, (Value.slice q29_0v22a q29_0v22n q29_0v22c), (Value.slice q29_0v23a q29_0v23n q29_0v23c)] 56 (0, 0)) := E167.heap B166
        refine da_op rfl (d_alloc (cs := #[.float .f32 0, .float .f32 0, .float .f32 0, .float .f32 0, .float .f32 0, .float .f32 0, .float .f32 0, .float .f32 0, .slice none 0 0, .slice none 0 0, .slice none 0 0, .slice none 0 0, .float .f32 0, .float .f32 0, .float .f32 0, .float .f32 0, .float .f32 0, .float .f32 0, .float .f32 0, .float .f32 0, .float .f32 0, .float .f32 0, .slice none 0 0, .slice none 0 0]) zero56 rfl fun w259 B259 E259 => ?_)
        have own274 : w.heap.size ≤ w167.heap.size := Nat.le_trans X258.size (Nat.le_refl _)
        have sp275 : ¬ (Value.slice q2_0v8a q2_0v8n q2_0v8c).ownBlock = some w167.heap.size := OS.ne_new B260 (Nat.le_refl _)
        have sp276 : ¬ (Value.slice q2_0v9a q2_0v9n q2_0v9c).ownBlock = some w167.heap.size := OS.ne_new B261 (Nat.le_refl _)
        have sp277 : ¬ (Value.slice q2_0v10a q2_0v10n q2_0v10c).ownBlock = some w167.heap.size := OS.ne_new B262 (Nat.le_refl _)
        have sp278 : ¬ (Value.slice q2_0v11a q2_0v11n q2_0v11c).ownBlock = some w167.heap.size := OS.ne_new B263 (Nat.le_refl _)
        have sp279 : ¬ (Value.slice q2_0v22a q2_0v22n q2_0v22c).ownBlock = some w167.heap.size := OS.ne_new B264 (Nat.le_refl _)
        have sp280 : ¬ (Value.slice q2_0v23a q2_0v23n q2_0v23c).ownBlock = some w167.heap.size := OS.ne_new B265 (Nat.le_refl _)
        have sp281 : w2.heap.size ≠ w167.heap.size := Nat.ne_of_lt (Nat.lt_of_lt_of_le (lt_heap B266) (Nat.le_refl _))
        have sp282 : ¬ (Value.slice q29_0v8a q29_0v8n q29_0v8c).ownBlock = some w167.heap.size := OS.ne_new B267 (Nat.le_refl _)
        have sp283 : ¬ (Value.slice q29_0v9a q29_0v9n q29_0v9c).ownBlock = some w167.heap.size := OS.ne_new B268 (Nat.le_refl _)
        have sp284 : ¬ (Value.slice q29_0v10a q29_0v10n q29_0v10c).ownBlock = some w167.heap.size := OS.ne_new B269 (Nat.le_refl _)
        have sp285 : ¬ (Value.slice q29_0v11a q29_0v11n q29_0v11c).ownBlock = some w167.heap.size := OS.ne_new B270 (Nat.le_refl _)
        have sp286 : ¬ (Value.slice q29_0v22a q29_0v22n q29_0v22c).ownBlock = some w167.heap.size := OS.ne_new B271 (Nat.le_refl _)
        have sp287 : ¬ (Value.slice q29_0v23a q29_0v23n q29_0v23c).ownBlock = some w167.heap.size := OS.ne_new B272 (Nat.le_refl _)
        have sp288 : w29.heap.size ≠ w167.heap.size := Nat.ne_of_lt (Nat.lt_of_lt_of_le (lt_heap B273) (Nat.le_refl _))
        have sp289 : ¬ (Value.slice q167_0v8a q167_0v8n q167_0v8c).ownBlock = some w167.heap.size := OS.ne_new q167_0v8R (Nat.le_refl _)
        have sp290 : ¬ (Value.slice q167_0v9a q167_0v9n q167_0v9c).ownBlock = some w167.heap.size := OS.ne_new q167_0v9R (Nat.le_refl _)
        have sp291 : ¬ (Value.slice q167_0v10a q167_0v10n q167_0v10c).ownBlock = some w167.heap.size := OS.ne_new q167_0v10R (Nat.le_refl _)
        have sp292 : ¬ (Value.slice q167_0v11a q167_0v11n q167_0v11c).ownBlock = some w167.heap.size := OS.ne_new q167_0v11R (Nat.le_refl _)
        have sp293 : ¬ (Value.slice q167_0v22a q167_0v22n q167_0v22c).ownBlock = some w167.heap.size := OS.ne_new q167_0v22R (Nat.le_refl _)
        have sp294 : ¬ (Value.slice q167_0v23a q167_0v23n q167_0v23c).ownBlock = some w167.heap.size := OS.ne_new q167_0v23R (Nat.le_refl _)
        have X295 : Ext w w259 := X258.trans E259
        refine da_op rfl (d_store (vs := #[.float .f32 q167_0r0, .float .f32 q167_0r1, .float .f32 q167_0r2, .float .f32 q167_0r3, .float .f32 q167_0r4, .float .f32 q167_0r5, .float .f32 q167_0r6, .float .f32 q167_0r7, (Value.slice q167_0v8a q167_0v8n q167_0v8c), (Value.slice q167_0v9a q167_0v9n q167_0v9c), (Value.slice q167_0v10a q167_0v10n q167_0v10c), (Value.slice q167_0v11a q167_0v11n q167_0v11c), .float .f32 q167_0r12, .float .f32 q167_0r13, .float .f32 q167_0r14, .float .f32 q167_0r15, .float .f32 q167_0r16, .float .f32 q167_0r17, .float .f32 q167_0r18, .float .f32 q167_0r19, .float .f32 q167_0r20, .float .f32 q167_0r21, (Value.slice q167_0v22a q167_0v22n q167_0v22c), (Value.slice q167_0v23a q167_0v23n q167_0v23c)]) rfl rfl B259 size56 (Nat.le_of_ble_eq_true rfl) rfl fun w296 S296 => ?_)
        have X297 : Ext w w296 := Ext.step X295 S296.frmb (fun k _ hk => hk ▸ own274)
        have B298 : w296.heap[w167.heap.size]? = some (.cells #[.float .f32 q167_0r0, .float .f32 q167_0r1, .float .f32 q167_0r2, .float .f32 q167_0r3, .float .f32 q167_0r4, .float .f32 q167_0r5, .float .f32 q167_0r6, .float .f32 q167_0r7, (Value.slice q167_0v8a q167_0v8n q167_0v8c), (Value.slice q167_0v9a q167_0v9n q167_0v9c), (Value.slice q167_0v10a q167_0v10n q167_0v10c), (Value.slice q167_0v11a q167_0v11n q167_0v11c), .float .f32 q167_0r12, .float .f32 q167_0r13, .float .f32 q167_0r14, .float .f32 q167_0r15, .float .f32 q167_0r16, .float .f32 q167_0r17, .float .f32 q167_0r18, .float .f32 q167_0r19, .float .f32 q167_0r20, .float .f32 q167_0r21, (Value.slice q167_0v22a q167_0v22n q167_0v22c), (Value.slice q167_0v23a q167_0v23n q167_0v23c)] 56 (0, 0)) := S296.here
        refine da_nil ?_
        refine W_seq ?_
        refine W_seq ?_
        refine W_region rfl ?_
        refine da_op rfl (d_loads (vs := #[.float .f32 q167_0r0, .float .f32 q167_0r1, .float .f32 q167_0r2, .float .f32 q167_0r3, .float .f32 q167_0r4, .float .f32 q167_0r5, .float .f32 q167_0r6, .float .f32 q167_0r7, (Value.slice q167_0v8a q167_0v8n q167_0v8c), (Value.slice q167_0v9a q167_0v9n q167_0v9c), (Value.slice q167_0v10a q167_0v10n q167_0v10c), (Value.slice q167_0v11a q167_0v11n q167_0v11c), .float .f32 q167_0r12, .float .f32 q167_0r13, .float .f32 q167_0r14, .float .f32 q167_0r15, .float .f32 q167_0r16, .float .f32 q167_0r17, .float .f32 q167_0r18, .float .f32 q167_0r19, .float .f32 q167_0r20, .float .f32 q167_0r21, (Value.slice q167_0v22a q167_0v22n q167_0v22c), (Value.slice q167_0v23a q167_0v23n q167_0v23c)]) rfl agg56 size56 B298 rfl ?_)
        have B299 : w296.heap[w2.heap.size]? = some (.cells #[.float .f32 q2_0r0, .float .f32 q2_0r1, .float .f32 q2_0r2, .float .f32 q2_0r3, .float .f32 q2_0r4, .float .f32 q2_0r5, .float .f32 q2_0r6, .float .f32 q2_0r7, (Value.slice q2_0v8a q2_0v8n q2_0v8c), (Value.slice q2_0v9a q2_0v9n q2_0v9c), (Value.slice q2_0v10a q2_0v10n q2_0v10c), (Value.slice q2_0v11a q2_0v11n q2_0v11c), .float .f32 q2_0r12, .float .f32 q2_0r13, .float .f32 q2_0r14, .float .f32 q2_0r15, .float .f32 q2_0r16, .float .f32 q2_0r17, .float .f32 q2_0r18, .float .f32 q2_0r19, .float .f32 q2_0r20, .float .f32 q2_0r21, (Value.slice q2_0v22a q2_0v22n q2_0v22c), (Value.slice q2_0v23a q2_0v23n q2_0v23c)] 56 (0, 0)) := S296.frmb.heap sp281 (E259.heap B266)
        refine da_op rfl (d_loads (vs := #[.float .f32 q2_0r0, .float .f32 q2_0r1, .float .f32 q2_0r2, .float .f32 q2_0r3, .float .f32 q2_0r4, .float .f32 q2_0r5, .float .f32 q2_0r6, .float .f32 q2_0r7, (Value.slice q2_0v8a q2_0v8n q2_0v8c), (Value.slice q2_0v9a q2_0v9n q2_0v9c), (Value.slice q2_0v10a q2_0v10n q2_0v10c), (Value.slice q2_0v11a q2_0v11n q2_0v11c), .float .f32 q2_0r12, .float .f32 q2_0r13, .float .f32 q2_0r14, .float .f32 q2_0r15, .float .f32 q2_0r16, .float .f32 q2_0r17, .float .f32 q2_0r18, .float .f32 q2_0r19, .float .f32 q2_0r20, .float .f32 q2_0r21, (Value.slice q2_0v22a q2_0v22n q2_0v22c), (Value.slice q2_0v23a q2_0v23n q2_0v23c)]) rfl agg56 size56 B299 rfl ?_)
        obtain ⟨m300, hm300, hr⟩ := bind_out hr
        have B301 : OS w296 29 encSVector (Value.slice q167_0v8a q167_0v8n q167_0v8c) m152.chain.places := (q167_0v8R.ext E259).frm S296.frmb (rb sp289)
        have B302 : OS w296 29 encSVector (Value.slice q167_0v9a q167_0v9n q167_0v9c) m152.chain.before := (q167_0v9R.ext E259).frm S296.frmb (rb sp290)
        have B303 : OS w296 22 encF_f32 (Value.slice q167_0v10a q167_0v10n q167_0v10c) m152.chain.weights := (q167_0v10R.ext E259).frm S296.frmb (rb sp291)
        have B304 : OS w296 104 encSRod (Value.slice q167_0v11a q167_0v11n q167_0v11c) m152.chain.rods := (q167_0v11R.ext E259).frm S296.frmb (rb sp292)
        have B305 : OS w296 109 encSClock (Value.slice q167_0v22a q167_0v22n q167_0v22c) m152.clocks.list := (q167_0v22R.ext E259).frm S296.frmb (rb sp293)
        have B306 : OS w296 22 encF_f32 (Value.slice q167_0v23a q167_0v23n q167_0v23c) m152.clocks.links := (q167_0v23R.ext E259).frm S296.frmb (rb sp294)
        have B307 : OS w296 29 encSVector (Value.slice q2_0v8a q2_0v8n q2_0v8c) m1.chain.places := (B260.ext E259).frm S296.frmb (rb sp275)
        have B308 : OS w296 29 encSVector (Value.slice q2_0v9a q2_0v9n q2_0v9c) m1.chain.before := (B261.ext E259).frm S296.frmb (rb sp276)
        have B309 : OS w296 22 encF_f32 (Value.slice q2_0v10a q2_0v10n q2_0v10c) m1.chain.weights := (B262.ext E259).frm S296.frmb (rb sp277)
        have B310 : OS w296 104 encSRod (Value.slice q2_0v11a q2_0v11n q2_0v11c) m1.chain.rods := (B263.ext E259).frm S296.frmb (rb sp278)
        have B311 : OS w296 109 encSClock (Value.slice q2_0v22a q2_0v22n q2_0v22c) m1.clocks.list := (B264.ext E259).frm S296.frmb (rb sp279)
        have B312 : OS w296 22 encF_f32 (Value.slice q2_0v23a q2_0v23n q2_0v23c) m1.clocks.links := (B265.ext E259).frm S296.frmb (rb sp280)
        have B313 : OS w296 29 encSVector (Value.slice q29_0v8a q29_0v8n q29_0v8c) m123.2.1 := (B267.ext E259).frm S296.frmb (rb sp282)
        have B314 : OS w296 29 encSVector (Value.slice q29_0v9a q29_0v9n q29_0v9c) m123.2.2.1 := (B268.ext E259).frm S296.frmb (rb sp283)
        have B315 : OS w296 22 encF_f32 (Value.slice q29_0v10a q29_0v10n q29_0v10c) m123.2.2.2.1 := (B269.ext E259).frm S296.frmb (rb sp284)
        have B316 : OS w296 104 encSRod (Value.slice q29_0v11a q29_0v11n q29_0v11c) m123.2.2.2.2.1 := (B270.ext E259).frm S296.frmb (rb sp285)
        have B317 : OS w296 109 encSClock (Value.slice q29_0v22a q29_0v22n q29_0v22c) m123.2.2.2.2.2.1 := (B271.ext E259).frm S296.frmb (rb sp286)
        have B318 : OS w296 22 encF_f32 (Value.slice q29_0v23a q29_0v23n q29_0v23c) m123.2.2.2.2.2.2 := (B272.ext E259).frm S296.frmb (rb sp287)
        have B319 : w296.heap[w29.heap.size]? = some (.cells #[.float .f32 q29_0r0, .float .f32 q29_0r1, .float .f32 q29_0r2, .float .f32 q29_0r3, .float .f32 q29_0r4, .float .f32 q29_0r5, .float .f32 q29_0r6, .float .f32 q29_0r7, (Value.slice q29_0v8a q29_0v8n q29_0v8c), (Value.slice q29_0v9a q29_0v9n q29_0v9c), (Value.slice q29_0v10a q29_0v10n q29_0v10c), (Value.slice q29_0v11a q29_0v11n q29_0v11c), .float .f32 q29_0r12, .float .f32 q29_0r13, .float .f32 q29_0r14, .float .f32 q29_0r15, .float .f32 q29_0r16, .float .f32 q29_0r17, .float .f32 q29_0r18, .float .f32 q29_0r19, .float .f32 q29_0r20, .float .f32 q29_0r21, (Value.slice q29_0v22a q29_0v22n q29_0v22c), (Value.slice q29_0v23a q29_0v23n q29_0v23c)] 56 (0, 0)) := S296.frmb.heap sp288 (E259.heap B273)
        refine da_op rfl (d_cl (vs := [.agg #[.float .f32 q167_0r0, .float .f32 q167_0r1, .float .f32 q167_0r2, .float .f32 q167_0r3, .float .f32 q167_0r4, .float .f32 q167_0r5, .float .f32 q167_0r6, .float .f32 q167_0r7, (Value.slice q167_0v8a q167_0v8n q167_0v8c), (Value.slice q167_0v9a q167_0v9n q167_0v9c), (Value.slice q167_0v10a q167_0v10n q167_0v10c), (Value.slice q167_0v11a q167_0v11n q167_0v11c), .float .f32 q167_0r12, .float .f32 q167_0r13, .float .f32 q167_0r14, .float .f32 q167_0r15, .float .f32 q167_0r16, .float .f32 q167_0r17, .float .f32 q167_0r18, .float .f32 q167_0r19, .float .f32 q167_0r20, .float .f32 q167_0r21, (Value.slice q167_0v22a q167_0v22n q167_0v22c), (Value.slice q167_0v23a q167_0v23n q167_0v23c)], .agg #[.float .f32 q2_0r0, .float .f32 q2_0r1, .float .f32 q2_0r2, .float .f32 q2_0r3, .float .f32 q2_0r4, .float .f32 q2_0r5, .float .f32 q2_0r6, .float .f32 q2_0r7, (Value.slice q2_0v8a q2_0v8n q2_0v8c), (Value.slice q2_0v9a q2_0v9n q2_0v9c), (Value.slice q2_0v10a q2_0v10n q2_0v10c), (Value.slice q2_0v11a q2_0v11n q2_0v11c), .float .f32 q2_0r12, .float .f32 q2_0r13, .float .f32 q2_0r14, .float .f32 q2_0r15, .float .f32 q2_0r16, .float .f32 q2_0r17, .float .f32 q2_0r18, .float .f32 q2_0r19, .float .f32 q2_0r20, .float .f32 q2_0r21, (Value.slice q2_0v22a q2_0v22n q2_0v22c), (Value.slice q2_0v23a q2_0v23n q2_0v23c)]]) en18 (ac rfl (ac rfl rfl)) rfl ?_)
        refine (c18 m152 (⟨(⟨m1.pendulum.long, m1.pendulum.pull, m1.pendulum.drag, m1.pendulum.drive, m1.pendulum.rate⟩ : SPendulum), (⟨m1.swing.turn, m1.swing.speed, m1.swing.time⟩ : SSwing), (⟨m1.chain.places, m1.chain.before, m1.chain.weights, m1.chain.rods⟩ : SChain), (⟨(⟨m1.top.moments.x, m1.top.moments.y, m1.top.moments.z⟩ : SVector), (⟨m1.top.turn.w, m1.top.turn.x, m1.top.turn.y, m1.top.turn.z⟩ : SSpin), (⟨m1.top.speed.x, m1.top.speed.y, m1.top.speed.z⟩ : SVector)⟩ : STop), (⟨m1.clocks.list, m1.clocks.links⟩ : SClocks)⟩ : SDesk) q167_0r0 q167_0r1 q167_0r2 q167_0r3 q167_0r4 q167_0r5 q167_0r6 q167_0r7 q167_0v8a q167_0v8n q167_0v8c q167_0v9a q167_0v9n q167_0v9c q167_0v10a q167_0v10n q167_0v10c q167_0v11a q167_0v11n q167_0v11c q167_0r12 q167_0r13 q167_0r14 q167_0r15 q167_0r16 q167_0r17 q167_0r18 q167_0r19 q167_0r20 q167_0r21 q167_0v22a q167_0v22n q167_0v22c q167_0v23a q167_0v23n q167_0v23c q2_0r0 q2_0r1 q2_0r2 q2_0r3 q2_0r4 q2_0r5 q2_0r6 q2_0r7 q2_0v8a q2_0v8n q2_0v8c q2_0v9a q2_0v9n q2_0v9c q2_0v10a q2_0v10n q2_0v10c q2_0v11a q2_0v11n q2_0v11c q2_0r12 q2_0r13 q2_0r14 q2_0r15 q2_0r16 q2_0r17 q2_0r18 q2_0r19 q2_0r20 q2_0r21 q2_0v22a q2_0v22n q2_0v22c q2_0v23a q2_0v23n q2_0v23c m300 w296 hm300 q167_0h0 q167_0h1 q167_0h2 q167_0h3 q167_0h4 q167_0h5 q167_0h6 q167_0h7 B301.rs B302.rs B303.rs B304.rs q167_0h12 q167_0h13 q167_0h14 q167_0h15 q167_0h16 q167_0h17 q167_0h18 q167_0h19 q167_0h20 q167_0h21 B305.rs B306.rs q2_0h0 q2_0h1 q2_0h2 q2_0h3 q2_0h4 q2_0h5 q2_0h6 q2_0h7 B307.rs B308.rs B309.rs B310.rs q2_0h12 q2_0h13 q2_0h14 q2_0h15 q2_0h16 q2_0h17 q2_0h18 q2_0h19 q2_0h20 q2_0h21 B311.rs B312.rs).mono ?_
        rintro _ w320 ⟨rfl, E320⟩
        refine ⟨_, rfl, ?_⟩
        have X321 : Ext w w320 := X297.trans E320
        refine da_op rfl (d_not rfl ?_)
        refine da_nil ?_
        refine W_cond (b := (!m300)) rfl (fun hc322 => ?_) (fun hc322 => ?_)
        · skip
          replace hr := bif_t hr hc322
          refine W_seq ?_
          refine W_region rfl ?_
          refine da_op rfl (d_as (v := .bool false) rfl ?_)
          refine da_nil ?_
          refine W_ret ?_
          obtain rfl := Option.some.inj hr
          refine ⟨_, res1 (rv_tmp rfl), ?_⟩
          exact ⟨rfl, X321⟩
        · skip
          replace hr := bif_f hr hc322
          refine W_skip ?_
          refine W_seq ?_
          refine W_region rfl ?_
          refine da_op rfl (d_as (v := .int .i64 1) rfl ?_)
          refine da_nil ?_
          refine W_seq ?_
          refine W_region rfl ?_
          have B323 : w320.heap[w29.heap.size]? = some (.cells #[.float .f32 q29_0r0, .float .f32 q29_0r1, .float .f32 q29_0r2, .float .f32 q29_0r3, .float .f32 q29_0r4, .float .f32 q29_0r5, .float .f32 q29_0r6, .float .f32 q29_0r7, (Value.slice q29_0v8a q29_0v8n q29_0v8c), (Value.slice q29_0v9a q29_0v9n q29_0v9c), (Value.slice q29_0v10a q29_0v10n q29_0v10c), (Value.slice q29_0v11a q29_0v11n q29_0v11c), .float .f32 q29_0r12, .float .f32 q29_0r13, .float .f32 q29_0r14, .float .f32 q29_0r15, .float .f32 q29_0r16, .float .f32 q29_0r17, .float .f32 q29_0r18, .float .f32 q29_0r19, .float .f32 q29_0r20, .float .f32 q29_0r21, (Value.slice q29_0v22a q29_0v22n q29_0v22c), (Value.slice q29_0v23a q29_0v23n q29_0v23c)] 56 (0, 0)) := E320.heap B319
          refine da_op rfl (d_loads (vs := #[.float .f32 q29_0r0, .float .f32 q29_0r1, .float .f32 q29_0r2, .float .f32 q29_0r3, .float .f32 q29_0r4, .float .f32 q29_0r5, .float .f32 q29_0r6, .float .f32 q29_0r7, (Value.slice q29_0v8a q29_0v8n q29_0v8c), (Value.slice q29_0v9a q29_0v9n q29_0v9c), (Value.slice q29_0v10a q29_0v10n q29_0v10c), (Value.slice q29_0v11a q29_0v11n q29_0v11c), .float .f32 q29_0r12, .float .f32 q29_0r13, .float .f32 q29_0r14, .float .f32 q29_0r15, .float .f32 q29_0r16, .float .f32 q29_0r17, .float .f32 q29_0r18, .float .f32 q29_0r19, .float .f32 q29_0r20, .float .f32 q29_0r21, (Value.slice q29_0v22a q29_0v22n q29_0v22c), (Value.slice q29_0v23a q29_0v23n q29_0v23c)]) rfl agg56 size56 B323 rfl ?_)
          refine da_op rfl (d_mv (v := .int .i64 1) rfl ?_)
          obtain ⟨m324, hm324, hr⟩ := bind_out hr
          have B325 : OS w320 29 encSVector (Value.slice q29_0v8a q29_0v8n q29_0v8c) m123.2.1 := B313.ext E320
          have B326 : OS w320 29 encSVector (Value.slice q29_0v9a q29_0v9n q29_0v9c) m123.2.2.1 := B314.ext E320
          have B327 : OS w320 22 encF_f32 (Value.slice q29_0v10a q29_0v10n q29_0v10c) m123.2.2.2.1 := B315.ext E320
          have B328 : OS w320 104 encSRod (Value.slice q29_0v11a q29_0v11n q29_0v11c) m123.2.2.2.2.1 := B316.ext E320
          have B329 : OS w320 109 encSClock (Value.slice q29_0v22a q29_0v22n q29_0v22c) m123.2.2.2.2.2.1 := B317.ext E320
          have B330 : OS w320 22 encF_f32 (Value.slice q29_0v23a q29_0v23n q29_0v23c) m123.2.2.2.2.2.2 := B318.ext E320
          refine da_op rfl (d_cl (vs := [.agg #[.float .f32 q29_0r0, .float .f32 q29_0r1, .float .f32 q29_0r2, .float .f32 q29_0r3, .float .f32 q29_0r4, .float .f32 q29_0r5, .float .f32 q29_0r6, .float .f32 q29_0r7, (Value.slice q29_0v8a q29_0v8n q29_0v8c), (Value.slice q29_0v9a q29_0v9n q29_0v9c), (Value.slice q29_0v10a q29_0v10n q29_0v10c), (Value.slice q29_0v11a q29_0v11n q29_0v11c), .float .f32 q29_0r12, .float .f32 q29_0r13, .float .f32 q29_0r14, .float .f32 q29_0r15, .float .f32 q29_0r16, .float .f32 q29_0r17, .float .f32 q29_0r18, .float .f32 q29_0r19, .float .f32 q29_0r20, .float .f32 q29_0r21, (Value.slice q29_0v22a q29_0v22n q29_0v22c), (Value.slice q29_0v23a q29_0v23n q29_0v23c)], .int .i64 1]) en20 (ac rfl (ac rfl rfl)) rfl ?_)
          refine (c20 (⟨(⟨m22.pendulum.long, m22.pendulum.pull, m22.pendulum.drag, m22.pendulum.drive, m22.pendulum.rate⟩ : SPendulum), (⟨m22.swing.turn, m22.swing.speed, m22.swing.time⟩ : SSwing), (⟨m123.2.1, m123.2.2.1, m123.2.2.2.1, m123.2.2.2.2.1⟩ : SChain), (⟨(⟨m22.top.moments.x, m22.top.moments.y, m22.top.moments.z⟩ : SVector), (⟨m22.top.turn.w, m22.top.turn.x, m22.top.turn.y, m22.top.turn.z⟩ : SSpin), (⟨m22.top.speed.x, m22.top.speed.y, m22.top.speed.z⟩ : SVector)⟩ : STop), (⟨m123.2.2.2.2.2.1, m123.2.2.2.2.2.2⟩ : SClocks)⟩ : SDesk) 1 q29_0r0 q29_0r1 q29_0r2 q29_0r3 q29_0r4 q29_0r5 q29_0r6 q29_0r7 q29_0v8a q29_0v8n q29_0v8c q29_0v9a q29_0v9n q29_0v9c q29_0v10a q29_0v10n q29_0v10c q29_0v11a q29_0v11n q29_0v11c q29_0r12 q29_0r13 q29_0r14 q29_0r15 q29_0r16 q29_0r17 q29_0r18 q29_0r19 q29_0r20 q29_0r21 q29_0v22a q29_0v22n q29_0v22c q29_0v23a q29_0v23n q29_0v23c m324 w320 hm324 q29_0h0 q29_0h1 q29_0h2 q29_0h3 q29_0h4 q29_0h5 q29_0h6 q29_0h7 B325.rs B326.rs B327.rs B328.rs q29_0h12 q29_0h13 q29_0h14 q29_0h15 q29_0h16 q29_0h17 q29_0h18 q29_0h19 q29_0h20 q29_0h21 B329.rs B330.rs).mono ?_
          rintro _ w331 ⟨rfl, E331⟩
          refine ⟨_, rfl, ?_⟩
          have X332 : Ext w w331 := X321.trans E331
          refine da_op rfl (d_as (v := .int .i64 m324) rfl ?_)
          refine da_nil ?_
          refine W_seq ?_
          refine W_seq ?_
          refine W_region rfl ?_
          refine da_op rfl (d_mv (v := .int .i64 m324) rfl ?_)
          refine da_op rfl (d_icmp cLss rfl rfl ?_)
          refine da_nil ?_
          refine W_cond (b := (icmp .lss m324 0)) rfl (fun hc333 => ?_) (fun hc333 => ?_)
          · skip
            replace hr := bif_t hr hc333
            refine W_seq ?_
            refine W_region rfl ?_
            refine da_op rfl (d_as (v := .bool false) rfl ?_)
            refine da_nil ?_
            refine W_ret ?_
            obtain rfl := Option.some.inj hr
            refine ⟨_, res1 (rv_tmp rfl), ?_⟩
            exact ⟨rfl, X332⟩
          · skip
            replace hr := bif_f hr hc333
            refine W_skip ?_
            refine W_seq ?_
            refine W_seq ?_
            refine W_region rfl ?_
            refine da_op rfl (d_mv (v := .int .i64 m324) rfl ?_)
            refine da_op rfl (d_mv (v := .int .i64 m123.1) rfl ?_)
            refine da_op rfl (d_icmp cNeq rfl rfl ?_)
            refine da_nil ?_
            refine W_cond (b := (icmp .neq m324 m123.1)) rfl (fun hc334 => ?_) (fun hc334 => ?_)
            · skip
              replace hr := bif_t hr hc334
              refine W_seq ?_
              refine W_region rfl ?_
              refine da_op rfl (d_as (v := .bool false) rfl ?_)
              refine da_nil ?_
              refine W_ret ?_
              obtain rfl := Option.some.inj hr
              refine ⟨_, res1 (rv_tmp rfl), ?_⟩
              exact ⟨rfl, X332⟩
            · skip
              replace hr := bif_f hr hc334
              refine W_skip ?_
              refine W_seq ?_
              refine W_region rfl ?_
              refine da_op rfl (d_as (v := .bool true) rfl ?_)
              refine da_nil ?_
              refine W_ret ?_
              obtain rfl := Option.some.inj hr
              refine ⟨_, res1 (rv_tmp rfl), ?_⟩
              exact ⟨rfl, X332⟩
end Go.Proofs
