import Derived.Test.YtdcienojgkioiaaDoorBCCt1
namespace Go.Proofs
open Go Go.Fl Go.RowKit Go.Rg
set_option maxRecDepth 100000
set_option linter.unusedVariables false
attribute [local irreducible] Go.Calls doAll Does DoesG W Wr
set_option maxHeartbeats 4000000 in
theorem c84 (p0 : SChain) (p0b p0o : Nat) (p0c : Array Value) (p0T : TypeId) (p0f : Nat × Nat) (p0v0a : Option Addr) (p0v0n : Nat) (p0v0c : Nat) (p0v1a : Option Addr) (p0v1n : Nat) (p0v1c : Nat) (p0v2a : Option Addr) (p0v2n : Nat) (p0v2c : Nat) (p0v3a : Option Addr) (p0v3n : Nat) (p0v3c : Nat) (r : List UInt8) (w : World) (hr : M.spec_l08Chain p0 = some r) (p0v0R : RS w encSVector (Value.slice p0v0a p0v0n p0v0c) p0.places) (p0v1R : RS w encSVector (Value.slice p0v1a p0v1n p0v1c) p0.before) (p0v2R : RS w encF_f32 (Value.slice p0v2a p0v2n p0v2c) p0.weights) (p0v3R : RS w encSRod (Value.slice p0v3a p0v3n p0v3c) p0.rods) (p0B : w.heap[p0b]? = some (.cells p0c p0T p0f)) (p0P : (p0c.toList.drop p0o).take 4 = [(Value.slice p0v0a p0v0n p0v0c), (Value.slice p0v1a p0v1n p0v1c), (Value.slice p0v2a p0v2n p0v2c), (Value.slice p0v3a p0v3n p0v3c)]) :
    Calls Tryd.prog 84 #[.pointer (some ⟨p0b, p0o, none⟩)] w fun e w' => e = .returned (.string (bs r)) ∧ Ext w w' := by
  refine calls_of_W Tryd.func84 rfl (Nat.le_of_ble_eq_true rfl) ?_
  refine W_seq ?_
  refine W_region rfl ?_
  refine da_op rfl (d_as (v := .string (bs ([] : List UInt8))) rfl ?_)
  refine da_nil ?_
  refine W_seq ?_
  obtain ⟨m2, hm2, hr⟩ := bind_out hr
  obtain ⟨m3, hm3, hr⟩ := bind_out hr
  obtain ⟨m4, hm4, hr⟩ := bind_out hr
  obtain ⟨m5, hm5, hr⟩ := bind_out hr
  obtain ⟨m6, hm6, hr⟩ := bind_out hr
  obtain ⟨m7, hm7, hr⟩ := bind_out hr
  obtain ⟨m8, hm8, hr⟩ := bind_out hr
  obtain ⟨m9, hm9, hr⟩ := bind_out hr
  obtain ⟨m10, hm10, hr⟩ := bind_out hr
  obtain ⟨m11, hm11, hr⟩ := bind_out hr
  refine W_any [] [{ V := fun _ v _ => v = (.pointer (some ⟨p0b, p0o, none⟩)) }, { V := fun _ v _ => v = (.pointer (some ⟨p0b, p0o, none⟩)) }, { V := fun _ v _ => v = (.pointer (some ⟨p0b, p0o, none⟩)) }, { V := fun _ v _ => v = (Value.slice p0v0a p0v0n p0v0c) }, { V := fun _ v _ => v = (.string (bs m2)) }, { V := fun _ v _ => v = (.string (bs m3)) }, { V := fun _ v _ => v = (.pointer (some ⟨p0b, p0o, none⟩)) }, { V := fun _ v _ => v = (.pointer (some ⟨p0b, p0o, none⟩)) }, { V := fun _ v _ => v = (.pointer (some ⟨p0b, p0o + 1, none⟩)) }, { V := fun _ v _ => v = (Value.slice p0v1a p0v1n p0v1c) }, { V := fun _ v _ => v = (.string (bs m4)) }, { V := fun _ v _ => v = (.string (bs m5)) }, { V := fun _ v _ => v = (.string (bs m6)) }, { V := fun _ v _ => v = (.pointer (some ⟨p0b, p0o, none⟩)) }, { V := fun _ v _ => v = (.pointer (some ⟨p0b, p0o, none⟩)) }, { V := fun _ v _ => v = (.pointer (some ⟨p0b, p0o + 2, none⟩)) }, { V := fun _ v _ => v = (Value.slice p0v2a p0v2n p0v2c) }, { V := fun _ v _ => v = (.string (bs m7)) }, { V := fun _ v _ => v = (.string (bs m8)) }, { V := fun _ v _ => v = (.string (bs m9)) }, { V := fun _ v _ => v = (.pointer (some ⟨p0b, p0o, none⟩)) }, { V := fun _ v _ => v = (.pointer (some ⟨p0b, p0o, none⟩)) }, { V := fun _ v _ => v = (.pointer (some ⟨p0b, p0o + 3, none⟩)) }, { V := fun _ v _ => v = (Value.slice p0v3a p0v3n p0v3c) }, { V := fun _ v _ => v = (.string (bs m10)) }, { V := fun _ v _ => v = (.string (bs m11)) }, { V := fun _ v _ => v = (.string (bs m11)) }] mixed (by kernel_rfl) ⟨trivial, trivial, trivial, trivial, trivial, trivial, trivial, trivial, trivial, trivial, trivial, trivial, trivial, trivial, trivial, trivial, trivial, trivial, trivial, trivial, trivial, trivial, trivial, trivial, trivial, trivial, trivial, trivial⟩ ⟨?_, ?_, ?_, ?_, ?_, ?_, ?_, ?_, ?_, ?_, ?_, ?_, ?_, ?_, ?_, ?_, ?_, ?_, ?_, ?_, ?_, ?_, ?_, ?_, ?_, ?_, ?_, trivial⟩ ?_
  · skip
    refine ⟨fun _ _ _ _ _ _ h _ => h, fun _ _ h _ => h, fun σ' w' hA hE hD hP => ?_⟩
    have t0 : σ' 0 = .pointer (some ⟨p0b, p0o, none⟩) := (hA 0 rfl).trans rfl
    have B0_12 : w'.heap[p0b]? = some (.cells p0c p0T p0f) := hE.heap not_oth0 p0B
    refine dg_op rfl (d_mv (v := .pointer (some ⟨p0b, p0o, none⟩)) t0 ?_)
    exact ⟨rfl, own_none (Ext.refl w')⟩
  · skip
    refine ⟨fun _ _ _ _ _ _ h _ => h, fun _ _ h _ => h, fun σ' w' hA hE hD hP => ?_⟩
    have t3 : σ' 3 = (.pointer (some ⟨p0b, p0o, none⟩)) := hD 0 rfl
    have B0_13 : w'.heap[p0b]? = some (.cells p0c p0T p0f) := hE.heap not_oth0 p0B
    refine dg_op rfl (d_nil t3 ?_)
    exact ⟨rfl, own_none (Ext.refl w')⟩
  · skip
    refine ⟨fun _ _ _ _ _ _ h _ => h, fun _ _ h _ => h, fun σ' w' hA hE hD hP => ?_⟩
    have t4 : σ' 4 = (.pointer (some ⟨p0b, p0o, none⟩)) := hD 1 rfl
    have B0_14 : w'.heap[p0b]? = some (.cells p0c p0T p0f) := hE.heap not_oth0 p0B
    refine dg_op rfl (d_fieldAddr t4 (fa69_0 _ _) ?_)
    exact ⟨rfl, own_none (Ext.refl w')⟩
  · skip
    refine ⟨fun _ _ _ _ _ _ h _ => h, fun _ _ h _ => h, fun σ' w' hA hE hD hP => ?_⟩
    have t5 : σ' 5 = (.pointer (some ⟨p0b, p0o, none⟩)) := hD 2 rfl
    have B0_15 : w'.heap[p0b]? = some (.cells p0c p0T p0f) := hE.heap not_oth0 p0B
    refine dg_op rfl (d_load (v := (Value.slice p0v0a p0v0n p0v0c)) t5 agg66 B0_15 (sub_get (vs := #[(Value.slice p0v0a p0v0n p0v0c), (Value.slice p0v1a p0v1n p0v1c), (Value.slice p0v2a p0v2n p0v2c), (Value.slice p0v3a p0v3n p0v3c)]) p0P (i := 0) rfl) ?_)
    exact ⟨rfl, own_none (Ext.refl w')⟩
  · skip
    refine ⟨fun _ _ _ _ _ _ h _ => h, fun _ _ h _ => h, fun σ' w' hA hE hD hP => ?_⟩
    have t6 : σ' 6 = (Value.slice p0v0a p0v0n p0v0c) := hD 3 rfl
    have B0_16 : RS w' encSVector (Value.slice p0v0a p0v0n p0v0c) p0.places := p0v0R.frm hE (fun k _ hk => not_oth0)
    refine dg_op rfl (d_cl (vs := [(Value.slice p0v0a p0v0n p0v0c)]) en135 (ac t6 rfl) rfl ?_)
    refine (c135 p0.places p0v0a p0v0n p0v0c m2 w' hm2 B0_16).mono ?_
    rintro _ w17 ⟨rfl, E17⟩
    refine ⟨_, rfl, ?_⟩
    have X18 : Ext w' w17 := (Ext.refl w').trans E17
    exact ⟨rfl, own_none X18⟩
  · skip
    refine ⟨fun _ _ _ _ _ _ h _ => h, fun _ _ h _ => h, fun σ' w' hA hE hD hP => ?_⟩
    have t7 : σ' 7 = (.string (bs m2)) := hD 4 rfl
    refine dg_op rfl (d_scat t7 rfl hm3 ?_)
    exact ⟨rfl, own_none (Ext.refl w')⟩
  · skip
    refine ⟨fun _ _ _ _ _ _ h _ => h, fun _ _ h _ => h, fun σ' w' hA hE hD hP => ?_⟩
    have t0 : σ' 0 = .pointer (some ⟨p0b, p0o, none⟩) := (hA 0 rfl).trans rfl
    have B0_19 : w'.heap[p0b]? = some (.cells p0c p0T p0f) := hE.heap not_oth0 p0B
    refine dg_op rfl (d_mv (v := .pointer (some ⟨p0b, p0o, none⟩)) t0 ?_)
    exact ⟨rfl, own_none (Ext.refl w')⟩
  · skip
    refine ⟨fun _ _ _ _ _ _ h _ => h, fun _ _ h _ => h, fun σ' w' hA hE hD hP => ?_⟩
    have t9 : σ' 9 = (.pointer (some ⟨p0b, p0o, none⟩)) := hD 6 rfl
    have B0_20 : w'.heap[p0b]? = some (.cells p0c p0T p0f) := hE.heap not_oth0 p0B
    refine dg_op rfl (d_nil t9 ?_)
    exact ⟨rfl, own_none (Ext.refl w')⟩
  · skip
    refine ⟨fun _ _ _ _ _ _ h _ => h, fun _ _ h _ => h, fun σ' w' hA hE hD hP => ?_⟩
    have t10 : σ' 10 = (.pointer (some ⟨p0b, p0o, none⟩)) := hD 7 rfl
    have B0_21 : w'.heap[p0b]? = some (.cells p0c p0T p0f) := hE.heap not_oth0 p0B
    refine dg_op rfl (d_fieldAddr t10 (fa69_1 _ _) ?_)
    exact ⟨rfl, own_none (Ext.refl w')⟩
  · skip
    refine ⟨fun _ _ _ _ _ _ h _ => h, fun _ _ h _ => h, fun σ' w' hA hE hD hP => ?_⟩
    have t11 : σ' 11 = (.pointer (some ⟨p0b, p0o + 1, none⟩)) := hD 8 rfl
    have B0_22 : w'.heap[p0b]? = some (.cells p0c p0T p0f) := hE.heap not_oth0 p0B
    refine dg_op rfl (d_load (v := (Value.slice p0v1a p0v1n p0v1c)) t11 agg66 B0_22 (sub_get (vs := #[(Value.slice p0v0a p0v0n p0v0c), (Value.slice p0v1a p0v1n p0v1c), (Value.slice p0v2a p0v2n p0v2c), (Value.slice p0v3a p0v3n p0v3c)]) p0P (i := 1) rfl) ?_)
    exact ⟨rfl, own_none (Ext.refl w')⟩
  · skip
    refine ⟨fun _ _ _ _ _ _ h _ => h, fun _ _ h _ => h, fun σ' w' hA hE hD hP => ?_⟩
    have t12 : σ' 12 = (Value.slice p0v1a p0v1n p0v1c) := hD 9 rfl
    have B0_23 : RS w' encSVector (Value.slice p0v1a p0v1n p0v1c) p0.before := p0v1R.frm hE (fun k _ hk => not_oth0)
    refine dg_op rfl (d_cl (vs := [(Value.slice p0v1a p0v1n p0v1c)]) en135 (ac t12 rfl) rfl ?_)
    refine (c135 p0.before p0v1a p0v1n p0v1c m4 w' hm4 B0_23).mono ?_
    rintro _ w24 ⟨rfl, E24⟩
    refine ⟨_, rfl, ?_⟩
    have X25 : Ext w' w24 := (Ext.refl w').trans E24
    exact ⟨rfl, own_none X25⟩
  · skip
    refine ⟨fun _ _ _ _ _ _ h _ => h, fun _ _ h _ => h, fun σ' w' hA hE hD hP => ?_⟩
    have t8 : σ' 8 = (.string (bs m3)) := hD 5 rfl
    have t13 : σ' 13 = (.string (bs m4)) := hD 10 rfl
    refine dg_op rfl (d_scat t8 t13 hm5 ?_)
    exact ⟨rfl, own_none (Ext.refl w')⟩
  · skip
    refine ⟨fun _ _ _ _ _ _ h _ => h, fun _ _ h _ => h, fun σ' w' hA hE hD hP => ?_⟩
    have t14 : σ' 14 = (.string (bs m5)) := hD 11 rfl
    refine dg_op rfl (d_scat t14 rfl hm6 ?_)
    exact ⟨rfl, own_none (Ext.refl w')⟩
  · skip
    refine ⟨fun _ _ _ _ _ _ h _ => h, fun _ _ h _ => h, fun σ' w' hA hE hD hP => ?_⟩
    have t0 : σ' 0 = .pointer (some ⟨p0b, p0o, none⟩) := (hA 0 rfl).trans rfl
    have B0_26 : w'.heap[p0b]? = some (.cells p0c p0T p0f) := hE.heap not_oth0 p0B
    refine dg_op rfl (d_mv (v := .pointer (some ⟨p0b, p0o, none⟩)) t0 ?_)
    exact ⟨rfl, own_none (Ext.refl w')⟩
  · skip
    refine ⟨fun _ _ _ _ _ _ h _ => h, fun _ _ h _ => h, fun σ' w' hA hE hD hP => ?_⟩
    have t16 : σ' 16 = (.pointer (some ⟨p0b, p0o, none⟩)) := hD 13 rfl
    have B0_27 : w'.heap[p0b]? = some (.cells p0c p0T p0f) := hE.heap not_oth0 p0B
    refine dg_op rfl (d_nil t16 ?_)
    exact ⟨rfl, own_none (Ext.refl w')⟩
  · skip
    refine ⟨fun _ _ _ _ _ _ h _ => h, fun _ _ h _ => h, fun σ' w' hA hE hD hP => ?_⟩
    have t17 : σ' 17 = (.pointer (some ⟨p0b, p0o, none⟩)) := hD 14 rfl
    have B0_28 : w'.heap[p0b]? = some (.cells p0c p0T p0f) := hE.heap not_oth0 p0B
    refine dg_op rfl (d_fieldAddr t17 (fa69_2 _ _) ?_)
    exact ⟨rfl, own_none (Ext.refl w')⟩
  · skip
    refine ⟨fun _ _ _ _ _ _ h _ => h, fun _ _ h _ => h, fun σ' w' hA hE hD hP => ?_⟩
    have t18 : σ' 18 = (.pointer (some ⟨p0b, p0o + 2, none⟩)) := hD 15 rfl
    have B0_29 : w'.heap[p0b]? = some (.cells p0c p0T p0f) := hE.heap not_oth0 p0B
    refine dg_op rfl (d_load (v := (Value.slice p0v2a p0v2n p0v2c)) t18 agg53 B0_29 (sub_get (vs := #[(Value.slice p0v0a p0v0n p0v0c), (Value.slice p0v1a p0v1n p0v1c), (Value.slice p0v2a p0v2n p0v2c), (Value.slice p0v3a p0v3n p0v3c)]) p0P (i := 2) rfl) ?_)
    exact ⟨rfl, own_none (Ext.refl w')⟩
  · skip
    refine ⟨fun _ _ _ _ _ _ h _ => h, fun _ _ h _ => h, fun σ' w' hA hE hD hP => ?_⟩
    have t19 : σ' 19 = (Value.slice p0v2a p0v2n p0v2c) := hD 16 rfl
    have B0_30 : RS w' encF_f32 (Value.slice p0v2a p0v2n p0v2c) p0.weights := p0v2R.frm hE (fun k _ hk => not_oth0)
    refine dg_op rfl (d_cl (vs := [(Value.slice p0v2a p0v2n p0v2c)]) en136 (ac t19 rfl) rfl ?_)
    refine (c136 p0.weights p0v2a p0v2n p0v2c m7 w' hm7 B0_30).mono ?_
    rintro _ w31 ⟨rfl, E31⟩
    refine ⟨_, rfl, ?_⟩
    have X32 : Ext w' w31 := (Ext.refl w').trans E31
    exact ⟨rfl, own_none X32⟩
  · skip
    refine ⟨fun _ _ _ _ _ _ h _ => h, fun _ _ h _ => h, fun σ' w' hA hE hD hP => ?_⟩
    have t15 : σ' 15 = (.string (bs m6)) := hD 12 rfl
    have t20 : σ' 20 = (.string (bs m7)) := hD 17 rfl
    refine dg_op rfl (d_scat t15 t20 hm8 ?_)
    exact ⟨rfl, own_none (Ext.refl w')⟩
  · skip
    refine ⟨fun _ _ _ _ _ _ h _ => h, fun _ _ h _ => h, fun σ' w' hA hE hD hP => ?_⟩
    have t21 : σ' 21 = (.string (bs m8)) := hD 18 rfl
    refine dg_op rfl (d_scat t21 rfl hm9 ?_)
    exact ⟨rfl, own_none (Ext.refl w')⟩
  · skip
    refine ⟨fun _ _ _ _ _ _ h _ => h, fun _ _ h _ => h, fun σ' w' hA hE hD hP => ?_⟩
    have t0 : σ' 0 = .pointer (some ⟨p0b, p0o, none⟩) := (hA 0 rfl).trans rfl
    have B0_33 : w'.heap[p0b]? = some (.cells p0c p0T p0f) := hE.heap not_oth0 p0B
    refine dg_op rfl (d_mv (v := .pointer (some ⟨p0b, p0o, none⟩)) t0 ?_)
    exact ⟨rfl, own_none (Ext.refl w')⟩
  · skip
    refine ⟨fun _ _ _ _ _ _ h _ => h, fun _ _ h _ => h, fun σ' w' hA hE hD hP => ?_⟩
    have t23 : σ' 23 = (.pointer (some ⟨p0b, p0o, none⟩)) := hD 20 rfl
    have B0_34 : w'.heap[p0b]? = some (.cells p0c p0T p0f) := hE.heap not_oth0 p0B
    refine dg_op rfl (d_nil t23 ?_)
    exact ⟨rfl, own_none (Ext.refl w')⟩
  · skip
    refine ⟨fun _ _ _ _ _ _ h _ => h, fun _ _ h _ => h, fun σ' w' hA hE hD hP => ?_⟩
    have t24 : σ' 24 = (.pointer (some ⟨p0b, p0o, none⟩)) := hD 21 rfl
    have B0_35 : w'.heap[p0b]? = some (.cells p0c p0T p0f) := hE.heap not_oth0 p0B
    refine dg_op rfl (d_fieldAddr t24 (fa69_3 _ _) ?_)
    exact ⟨rfl, own_none (Ext.refl w')⟩
  · skip
    refine ⟨fun _ _ _ _ _ _ h _ => h, fun _ _ h _ => h, fun σ' w' hA hE hD hP => ?_⟩
    have t25 : σ' 25 = (.pointer (some ⟨p0b, p0o + 3, none⟩)) := hD 22 rfl
    have B0_36 : w'.heap[p0b]? = some (.cells p0c p0T p0f) := hE.heap not_oth0 p0B
    refine dg_op rfl (d_load (v := (Value.slice p0v3a p0v3n p0v3c)) t25 agg67 B0_36 (sub_get (vs := #[(Value.slice p0v0a p0v0n p0v0c), (Value.slice p0v1a p0v1n p0v1c), (Value.slice p0v2a p0v2n p0v2c), (Value.slice p0v3a p0v3n p0v3c)]) p0P (i := 3) rfl) ?_)
    exact ⟨rfl, own_none (Ext.refl w')⟩
  · skip
    refine ⟨fun _ _ _ _ _ _ h _ => h, fun _ _ h _ => h, fun σ' w' hA hE hD hP => ?_⟩
    have t26 : σ' 26 = (Value.slice p0v3a p0v3n p0v3c) := hD 23 rfl
    have B0_37 : RS w' encSRod (Value.slice p0v3a p0v3n p0v3c) p0.rods := p0v3R.frm hE (fun k _ hk => not_oth0)
    refine dg_op rfl (d_cl (vs := [(Value.slice p0v3a p0v3n p0v3c)]) en137 (ac t26 rfl) rfl ?_)
    refine (c137 p0.rods p0v3a p0v3n p0v3c m10 w' hm10 B0_37).mono ?_
    rintro _ w38 ⟨rfl, E38⟩
    refine ⟨_, rfl, ?_⟩
    have X39 : Ext w' w38 := (Ext.refl w').trans E38
    exact ⟨rfl, own_none X39⟩
  · skip
    refine ⟨fun _ _ _ _ _ _ h _ => h, fun _ _ h _ => h, fun σ' w' hA hE hD hP => ?_⟩
    have t22 : σ' 22 = (.string (bs m9)) := hD 19 rfl
    have t27 : σ' 27 = (.string (bs m10)) := hD 24 rfl
    refine dg_op rfl (d_scat t22 t27 hm11 ?_)
    exact ⟨rfl, own_none (Ext.refl w')⟩
  · skip
    refine ⟨fun _ _ _ _ _ _ h _ => h, fun _ _ h _ => h, fun σ' w' hA hE hD hP => ?_⟩
    have t28 : σ' 28 = (.string (bs m11)) := hD 25 rfl
    refine dg_op rfl (d_as (v := .string (bs m11)) t28 ?_)
    exact ⟨rfl, own_none (Ext.refl w')⟩
  · skip
    intro σ1 w1 A1 E1 V1
    have E1x : Ext w w1 := ext_of_oth0 E1
    have s2_1 : σ1 2 = (.string (bs m11)) := V1 26 (Nat.le_of_ble_eq_true rfl)
    have X40 : Ext w w1 := (Ext.refl w).trans E1x
    refine W_ret ?_
    obtain rfl := Option.some.inj hr
    refine ⟨_, res1 (rv_tmp s2_1), ?_⟩
    exact ⟨rfl, X40⟩
set_option maxHeartbeats 4000000 in
theorem c35 (p0 : SChain) (p0v0a : Option Addr) (p0v0n : Nat) (p0v0c : Nat) (p0v1a : Option Addr) (p0v1n : Nat) (p0v1c : Nat) (p0v2a : Option Addr) (p0v2n : Nat) (p0v2c : Nat) (p0v3a : Option Addr) (p0v3n : Nat) (p0v3c : Nat) (r : List UInt8 × Bool) (w : World) (hr : M.spec_ChainText p0 = some r) (p0v0R : RS w encSVector (Value.slice p0v0a p0v0n p0v0c) p0.places) (p0v1R : RS w encSVector (Value.slice p0v1a p0v1n p0v1c) p0.before) (p0v2R : RS w encF_f32 (Value.slice p0v2a p0v2n p0v2c) p0.weights) (p0v3R : RS w encSRod (Value.slice p0v3a p0v3n p0v3c) p0.rods) :
    Calls Tryd.prog 35 #[.agg #[(Value.slice p0v0a p0v0n p0v0c), (Value.slice p0v1a p0v1n p0v1c), (Value.slice p0v2a p0v2n p0v2c), (Value.slice p0v3a p0v3n p0v3c)]] w fun e w' => e = .returned (.tuple #[.string (bs r.1), .bool r.2]) ∧ Ext w w' := by
  refine calls_of_W Tryd.func35 rfl (Nat.le_of_ble_eq_true rfl) ?_
  refine W_seq ?_
  refine W_region rfl ?_
  refine da_op rfl (d_box (cs := #[(Value.slice p0v0a p0v0n p0v0c), (Value.slice p0v1a p0v1n p0v1c), (Value.slice p0v2a p0v2n p0v2c), (Value.slice p0v3a p0v3n p0v3c)]) rfl fun w1 B1 E1 => ?_)
  have own2 : w.heap.size ≤ w.heap.size := Nat.le_trans (Ext.refl w).size (Nat.le_refl _)
  have X3 : Ext w w1 := (Ext.refl w).trans E1
  refine da_op rfl (d_as (v := .string (bs ([] : List UInt8))) rfl ?_)
  refine da_op rfl (d_as (v := .bool false) rfl ?_)
  refine da_nil ?_
  refine W_seq ?_
  refine W_seq ?_
  refine W_region rfl ?_
  obtain ⟨m4, hm4, hr⟩ := bind_out hr
  have B5 : RS w1 encSVector (Value.slice p0v0a p0v0n p0v0c) p0.places := p0v0R.ext X3
  have B6 : RS w1 encSVector (Value.slice p0v1a p0v1n p0v1c) p0.before := p0v1R.ext X3
  have B7 : RS w1 encF_f32 (Value.slice p0v2a p0v2n p0v2c) p0.weights := p0v2R.ext X3
  have B8 : RS w1 encSRod (Value.slice p0v3a p0v3n p0v3c) p0.rods := p0v3R.ext X3
  refine da_op rfl (d_cl (vs := [.pointer (some ⟨w.heap.size, 0, none⟩)]) en83 (ac rfl rfl) rfl ?_)
  refine (c83 p0 w.heap.size 0 #[(Value.slice p0v0a p0v0n p0v0c), (Value.slice p0v1a p0v1n p0v1c), (Value.slice p0v2a p0v2n p0v2c), (Value.slice p0v3a p0v3n p0v3c)] 69 (0, 0) p0v0a p0v0n p0v0c p0v1a p0v1n p0v1c p0v2a p0v2n p0v2c p0v3a p0v3n p0v3c m4 w1 hm4 B5 B6 B7 B8 B1 rfl).mono ?_
  rintro _ w9 ⟨rfl, E9⟩
  refine ⟨_, rfl, ?_⟩
  have X10 : Ext w w9 := X3.trans E9
  refine da_op rfl (d_not rfl ?_)
  refine da_nil ?_
  refine W_cond (b := (!m4)) rfl (fun hc11 => ?_) (fun hc11 => ?_)
  · skip
    replace hr := bif_t hr hc11
    refine W_seq ?_
    refine W_region rfl ?_
    refine da_op rfl (d_as (v := .string (bs ([] : List UInt8))) rfl ?_)
    refine da_op rfl (d_as (v := .bool false) rfl ?_)
    refine da_nil ?_
    refine W_ret ?_
    obtain rfl := Option.some.inj hr
    refine ⟨_, res2 (rv_tmp rfl) (rv_tmp rfl), ?_⟩
    exact ⟨rfl, X10⟩
  · skip
    replace hr := bif_f hr hc11
    refine W_skip ?_
    refine W_seq ?_
    refine W_region rfl ?_
    obtain ⟨m12, hm12, hr⟩ := bind_out hr
    have B13 : w9.heap[w.heap.size]? = some (.cells #[(Value.slice p0v0a p0v0n p0v0c), (Value.slice p0v1a p0v1n p0v1c), (Value.slice p0v2a p0v2n p0v2c), (Value.slice p0v3a p0v3n p0v3c)] 69 (0, 0)) := E9.heap B1
    have B14 : RS w9 encSVector (Value.slice p0v0a p0v0n p0v0c) p0.places := p0v0R.ext X10
    have B15 : RS w9 encSVector (Value.slice p0v1a p0v1n p0v1c) p0.before := p0v1R.ext X10
    have B16 : RS w9 encF_f32 (Value.slice p0v2a p0v2n p0v2c) p0.weights := p0v2R.ext X10
    have B17 : RS w9 encSRod (Value.slice p0v3a p0v3n p0v3c) p0.rods := p0v3R.ext X10
    refine da_op rfl (d_cl (vs := [.pointer (some ⟨w.heap.size, 0, none⟩)]) en84 (ac rfl rfl) rfl ?_)
    refine (c84 (⟨p0.places, p0.before, p0.weights, p0.rods⟩ : SChain) w.heap.size 0 #[(Value.slice p0v0a p0v0n p0v0c), (Value.slice p0v1a p0v1n p0v1c), (Value.slice p0v2a p0v2n p0v2c), (Value.slice p0v3a p0v3n p0v3c)] 69 (0, 0) p0v0a p0v0n p0v0c p0v1a p0v1n p0v1c p0v2a p0v2n p0v2c p0v3a p0v3n p0v3c m12 w9 hm12 B14 B15 B16 B17 B13 rfl).mono ?_
    rintro _ w18 ⟨rfl, E18⟩
    refine ⟨_, rfl, ?_⟩
    have X19 : Ext w w18 := X10.trans E18
    refine da_op rfl (d_as (v := .string (bs m12)) rfl ?_)
    refine da_op rfl (d_as (v := .bool true) rfl ?_)
    refine da_nil ?_
    refine W_ret ?_
    obtain rfl := Option.some.inj hr
    refine ⟨_, res2 (rv_tmp rfl) (rv_tmp rfl), ?_⟩
    exact ⟨rfl, X19⟩
set_option maxHeartbeats 4000000 in
theorem c130 (p0 : Nat) (p0r : Nat) (r : Bool) (w : World) (hr : M.impl_IsFinite p0 = r) (p0h : cn .f32 p0r = p0) :
    Calls Tryd.prog 130 #[.float .f32 p0r] w fun e w' => e = .returned (.bool r) ∧ Ext w w' := by
  refine calls_of_W Tryd.func130 rfl (Nat.le_of_ble_eq_true rfl) ?_
  refine W_seq ?_
  refine W_region rfl ?_
  refine da_op rfl (d_as (v := .bool false) rfl ?_)
  refine da_nil ?_
  refine W_seq ?_
  refine W_region rfl ?_
  refine da_op rfl (d_mv (v := .float .f32 p0r) rfl ?_)
  refine da_op rfl (d_mv (v := .float .f32 p0r) rfl ?_)
  refine da_op rfl (d_fop (k := .f32) fSub rfl rfl p0h p0h fun r1 w1 h1 _ E1 => ?_)
  have X2 : Ext w w1 := (Ext.refl w).trans E1
  refine da_op rfl (d_fcmp (k := .f32) cEql rfl rfl h1 cn_f32_0 ?_)
  refine da_op rfl (d_as (v := .bool (fcmp .eql .f32 (fop .sub .f32 p0 p0) 0)) rfl ?_)
  refine da_nil ?_
  refine W_ret ?_
  subst hr
  refine ⟨_, res1 (rv_tmp rfl), ?_⟩
  exact ⟨rfl, X2⟩
set_option maxHeartbeats 4000000 in
theorem c161 (p0 : Nat) (p0r : Nat) (r : Bool) (w : World) (hr : M.impl_finite_1 p0 = r) (p0h : cn .f32 p0r = p0) :
    Calls Tryd.prog 161 #[.float .f32 p0r] w fun e w' => e = .returned (.bool r) ∧ Ext w w' := by
  refine calls_of_W Tryd.func161 rfl (Nat.le_of_ble_eq_true rfl) ?_
  refine W_seq ?_
  refine W_region rfl ?_
  refine da_op rfl (d_as (v := .bool false) rfl ?_)
  refine da_nil ?_
  refine W_seq ?_
  refine W_region rfl ?_
  refine da_op rfl (d_mv (v := .float .f32 p0r) rfl ?_)
  obtain ⟨m1, hm1, hr⟩ := letv_out hr
  refine da_op rfl (d_cl (vs := [.float .f32 p0r]) en130 (ac rfl rfl) rfl ?_)
  refine (c130 p0 p0r m1 w hm1 p0h).mono ?_
  rintro _ w2 ⟨rfl, E2⟩
  refine ⟨_, rfl, ?_⟩
  have X3 : Ext w w2 := (Ext.refl w).trans E2
  refine da_op rfl (d_not rfl ?_)
  refine da_op rfl (d_as (v := .bool (!m1)) rfl ?_)
  refine da_nil ?_
  refine W_ret ?_
  subst hr
  refine ⟨_, res1 (rv_tmp rfl), ?_⟩
  exact ⟨rfl, X3⟩
set_option maxHeartbeats 4000000 in
theorem c179_f161 (p0 : List Nat) (p0a : Option Addr) (p0n : Nat) (p0c : Nat) (r : Int) (w : World) (hr : M.slices_IndexFunc___float32_float32__f161 p0 = some r) (p0R : RS w encF_f32 (Value.slice p0a p0n p0c) p0) :
    Calls Tryd.prog 179 #[(Value.slice p0a p0n p0c), .func (.func 161) #[] #[]] w fun e w' => e = .returned (.int .i64 r) ∧ Ext w w' := by
  refine calls_of_W Tryd.func179 rfl (Nat.le_of_ble_eq_true rfl) ?_
  refine W_seq ?_
  refine W_region rfl ?_
  refine da_op rfl (d_as (v := .int .i64 0) rfl ?_)
  refine da_nil ?_
  refine W_seq ?_
  refine W_seq ?_
  refine W_region rfl ?_
  refine da_op rfl (d_mv (v := (Value.slice p0a p0n p0c)) rfl ?_)
  refine da_op rfl (d_len (e := encF_f32) un53 rfl p0R ?_)
  refine da_op rfl (d_mv (v := .int .i64 0) rfl ?_)
  refine da_nil ?_
  refine W_block ?_
  obtain ⟨m1, hm1, hr⟩ := bind_out hr
  refine W_loopM hm1 (fun (s1 : Int) σ w' => σ 8 = .int .i64 s1 ∧ σ 0 = (Value.slice p0a p0n p0c) ∧ σ 1 = .func (.func 161) #[] #[] ∧ σ 7 = .int .i64 ((p0).length : Int) ∧ Ext w w') (fun (e1 : (Unit ⊕ Int)) ex σ w' => sel e1 (fun e1 => ex = .exit 0 ∧ Ext w w') (fun e1 => ex = .ret ∧ σ 4 = .int .i64 e1 ∧ Ext w w')) ⟨rfl, rfl, rfl, rfl, (Ext.refl w)⟩ ?_ ?_
  · skip
    rintro s1 σl1 wl1 r1l ⟨i1_S8, i1_S0, i1_S1, i1_S7, i1_X⟩ hr
    refine W_seq ?_
    refine W_region rfl ?_
    refine da_op rfl (d_icmp cLss i1_S8 i1_S7 ?_)
    refine da_nil ?_
    refine W_seq ?_
    refine W_cond (b := (icmp .lss s1 ((p0).length : Int))) rfl (fun hc2 => ?_) (fun hc2 => ?_)
    · skip
      replace hr := bif_t hr hc2
      refine W_skip ?_
      refine W_seq ?_
      refine W_block ?_
      refine W_seq ?_
      refine W_region rfl ?_
      refine da_op rfl (d_mv (v := .int .i64 s1) i1_S8 ?_)
      refine da_op rfl (d_as (v := .int .i64 s1) rfl ?_)
      refine da_nil ?_
      refine W_seq ?_
      refine W_region rfl ?_
      refine da_op rfl (d_mv (v := .func (.func 161) #[] #[]) i1_S1 ?_)
      refine da_op rfl (d_mv (v := (Value.slice p0a p0n p0c)) i1_S0 ?_)
      refine da_op rfl (d_mv (v := .int .i64 s1) rfl ?_)
      obtain ⟨m3, hm3, hr⟩ := bind_out hr
      have B5 : RS wl1 encF_f32 (Value.slice p0a p0n p0c) p0 := p0R.ext i1_X
      refine da_op rfl (d_index (e := encF_f32) (v := (Value.slice p0a p0n p0c)) un53 size22 rfl rfl B5 hm3 fun g4 o4 cu4 T4 fr4 vs4 hv4 hg4 hp4 hq4 => ?_)
      obtain ⟨e4_r0, rfl, e4_h0⟩ := dec_encF_f32 hq4
      refine da_op rfl (d_load (v := .float .f32 e4_r0) rfl agg22 hg4 (sub_get (vs := #[.float .f32 e4_r0]) hp4 (i := 0) rfl) ?_)
      obtain ⟨m6, hm6, hr⟩ := letv_out hr
      refine da_op rfl (d_clv (vs := [.float .f32 e4_r0]) (cap := []) en161 rfl (ac rfl rfl) ?_)
      refine (c161 m3 e4_r0 m6 wl1 hm6 e4_h0).mono ?_
      rintro _ w7 ⟨rfl, E7⟩
      refine ⟨_, rfl, ?_⟩
      have X8 : Ext w w7 := i1_X.trans E7
      refine da_nil ?_
      refine W_cond (b := m6) rfl (fun hc9 => ?_) (fun hc9 => ?_)
      · skip
        replace hr := bif_t hr hc9
        refine W_seq ?_
        refine W_region rfl ?_
        refine da_op rfl (d_mv (v := .int .i64 s1) rfl ?_)
        refine da_op rfl (d_as (v := .int .i64 s1) rfl ?_)
        refine da_nil ?_
        refine W_ret ?_
        obtain rfl := Option.some.inj hr
        exact ⟨_, rfl, rfl, rfl, X8⟩
      · skip
        replace hr := bif_f hr hc9
        refine W_skip ?_
        refine W_region rfl ?_
        refine da_op rfl (d_iarith i1_S8 rfl (.inl ⟨rfl, rfl⟩) ?_)
        refine da_op rfl (d_mv (v := .int .i64 (IntKind.i64.wrap (s1 + 1))) rfl ?_)
        refine da_nil ?_
        obtain rfl := Option.some.inj hr
        exact ⟨_, rfl, ⟨rfl, i1_S0, i1_S1, i1_S7, X8⟩⟩
    · skip
      replace hr := bif_f hr hc2
      refine W_exit ?_
      obtain rfl := Option.some.inj hr
      exact ⟨_, rfl, rfl, i1_X⟩
  · skip
    intro ex σx1 wx1 hq
    rcases m1 with m1 | m1
    · skip
      obtain ⟨rfl, q1_0_X⟩ := hq
      refine W_seq ?_
      refine W_region rfl ?_
      refine da_op rfl (d_as (v := .int .i64 (-1)) rfl ?_)
      refine da_nil ?_
      refine W_ret ?_
      obtain rfl := Option.some.inj hr
      refine ⟨_, res1 (rv_tmp rfl), ?_⟩
      exact ⟨rfl, q1_0_X⟩
    · skip
      obtain ⟨rfl, q1_1_S4, q1_1_X⟩ := hq
      obtain rfl := Option.some.inj hr
      refine ⟨_, res1 (rv_tmp q1_1_S4), ?_⟩
      exact ⟨rfl, q1_1_X⟩
set_option maxHeartbeats 4000000 in
theorem c142_f161 (p0 : List Nat) (p0a : Option Addr) (p0n : Nat) (p0c : Nat) (r : Bool) (w : World) (hr : M.slices_ContainsFunc___float32_float32__f161 p0 = some r) (p0R : RS w encF_f32 (Value.slice p0a p0n p0c) p0) :
    Calls Tryd.prog 142 #[(Value.slice p0a p0n p0c), .func (.func 161) #[] #[]] w fun e w' => e = .returned (.bool r) ∧ Ext w w' := by
  refine calls_of_W Tryd.func142 rfl (Nat.le_of_ble_eq_true rfl) ?_
  refine W_seq ?_
  refine W_region rfl ?_
  refine da_op rfl (d_as (v := .bool false) rfl ?_)
  refine da_nil ?_
  refine W_seq ?_
  refine W_region rfl ?_
  refine da_op rfl (d_mv (v := (Value.slice p0a p0n p0c)) rfl ?_)
  refine da_op rfl (d_mv (v := .func (.func 161) #[] #[]) rfl ?_)
  obtain ⟨m1, hm1, hr⟩ := bind_out hr
  refine da_op rfl (d_cl (vs := [(Value.slice p0a p0n p0c), .func (.func 161) #[] #[]]) en179 (ac rfl (ac rfl rfl)) rfl ?_)
  refine (c179_f161 p0 p0a p0n p0c m1 w hm1 p0R).mono ?_
  rintro _ w2 ⟨rfl, E2⟩
  refine ⟨_, rfl, ?_⟩
  have X3 : Ext w w2 := (Ext.refl w).trans E2
  refine da_op rfl (d_icmp cGeq rfl rfl ?_)
  refine da_op rfl (d_as (v := .bool (icmp .geq m1 0)) rfl ?_)
  refine da_nil ?_
  refine W_ret ?_
  obtain rfl := Option.some.inj hr
  refine ⟨_, res1 (rv_tmp rfl), ?_⟩
  exact ⟨rfl, X3⟩
set_option maxHeartbeats 4000000 in
theorem c107 (p0 : List Nat) (p0a : Option Addr) (p0n : Nat) (p0c : Nat) (r : Bool) (w : World) (hr : M.impl_finite p0 = some r) (p0R : RS w encF_f32 (Value.slice p0a p0n p0c) p0) :
    Calls Tryd.prog 107 #[(Value.slice p0a p0n p0c)] w fun e w' => e = .returned (.bool r) ∧ Ext w w' := by
  refine calls_of_W Tryd.func107 rfl (Nat.le_of_ble_eq_true rfl) ?_
  refine W_seq ?_
  refine W_region rfl ?_
  refine da_op rfl (d_as (v := .bool false) rfl ?_)
  refine da_nil ?_
  refine W_seq ?_
  refine W_region rfl ?_
  refine da_op rfl (d_mv (v := (Value.slice p0a p0n p0c)) rfl ?_)
  obtain ⟨m1, hm1, hr⟩ := bind_out hr
  refine da_op rfl (d_cl (vs := [(Value.slice p0a p0n p0c), .func (.func 161) #[] #[]]) en142 (ac rfl (ac rfl rfl)) rfl ?_)
  refine (c142_f161 p0 p0a p0n p0c m1 w hm1 p0R).mono ?_
  rintro _ w2 ⟨rfl, E2⟩
  refine ⟨_, rfl, ?_⟩
  have X3 : Ext w w2 := (Ext.refl w).trans E2
  refine da_op rfl (d_not rfl ?_)
  refine da_op rfl (d_as (v := .bool (!m1)) rfl ?_)
  refine da_nil ?_
  refine W_ret ?_
  obtain rfl := Option.some.inj hr
  refine ⟨_, res1 (rv_tmp rfl), ?_⟩
  exact ⟨rfl, X3⟩
set_option maxHeartbeats 4000000 in
theorem c125 (p0 : SVector) (p0r0 : Nat) (p0r1 : Nat) (p0r2 : Nat) (r : Bool) (w : World) (hr : M.impl_finiteVector p0 = some r) (p0h0 : cn .f32 p0r0 = p0.x) (p0h1 : cn .f32 p0r1 = p0.y) (p0h2 : cn .f32 p0r2 = p0.z) :
    Calls Tryd.prog 125 #[.agg #[.float .f32 p0r0, .float .f32 p0r1, .float .f32 p0r2]] w fun e w' => e = .returned (.bool r) ∧ Ext w w' := by
  refine calls_of_W Tryd.func125 rfl (Nat.le_of_ble_eq_true rfl) ?_
  refine W_seq ?_
  refine W_region rfl ?_
  refine da_op rfl (d_box (cs := #[.float .f32 p0r0, .float .f32 p0r1, .float .f32 p0r2]) rfl fun w1 B1 E1 => ?_)
  have own2 : w.heap.size ≤ w.heap.size := Nat.le_trans (Ext.refl w).size (Nat.le_refl _)
  have X3 : Ext w w1 := (Ext.refl w).trans E1
  refine da_op rfl (d_as (v := .bool false) rfl ?_)
  refine da_nil ?_
  refine W_seq ?_
  refine W_region rfl ?_
  refine da_op rfl (d_fieldAddr rfl (fa44_0 _ _) ?_)
  refine da_op rfl (d_load (v := .float .f32 p0r0) rfl agg22 B1 rfl ?_)
  refine da_op rfl (d_fieldAddr rfl (fa44_1 _ _) ?_)
  refine da_op rfl (d_load (v := .float .f32 p0r1) rfl agg22 B1 rfl ?_)
  refine da_op rfl (d_fieldAddr rfl (fa44_2 _ _) ?_)
  refine da_op rfl (d_load (v := .float .f32 p0r2) rfl agg22 B1 rfl ?_)
  refine da_op rfl (d_bslice (vs := [(0, .float .f32 p0r0), (1, .float .f32 p0r1), (2, .float .f32 p0r2)]) (cs := #[.float .f32 p0r0, .float .f32 p0r1, .float .f32 p0r2]) un53 (pc rfl (pc rfl (pc rfl rfl))) (by kernel_rfl) fun w4 B4 E4 => ?_)
  have fr4 : ∀ k, (Value.slice (some ⟨w1.heap.size, 0, none⟩) 3 3).ownBlock = some k → w1.heap.size ≤ k := fun k hk => by cases hk; exact Nat.le_refl _
  have own4 : ∀ k, (Value.slice (some ⟨w1.heap.size, 0, none⟩) 3 3).ownBlock = some k → w.heap.size ≤ k := fun k hk => Nat.le_trans X3.size (fr4 k hk)
  have sp5 : ¬ (Value.slice (some ⟨w1.heap.size, 0, none⟩) 3 3).ownBlock = some w.heap.size := ne_fresh fr4 (lt_heap B1)
  have X6 : Ext w w4 := X3.trans E4
  have O4 : OS w4 22 encF_f32 (Value.slice (some ⟨w1.heap.size, 0, none⟩) 3 3) [p0.x, p0.y, p0.z] := OS.box (xs := [p0.x, p0.y, p0.z]) B4 (lc_f p0h0 (lc_f p0h1 (lc_f p0h2 rfl))) (Nat.le_of_ble_eq_true rfl)
  obtain ⟨m7, hm7, hr⟩ := bind_out hr
  have B8 : w4.heap[w.heap.size]? = some (.cells #[.float .f32 p0r0, .float .f32 p0r1, .float .f32 p0r2] 44 (0, 0)) := E4.heap B1
  refine da_op rfl (d_cl (vs := [(Value.slice (some ⟨w1.heap.size, 0, none⟩) 3 3)]) en107 (ac rfl rfl) rfl ?_)
  refine (c107 ([p0.x, p0.y, p0.z]) (some ⟨w1.heap.size, 0, none⟩) 3 3 m7 w4 hm7 O4.rs).mono ?_
  rintro _ w9 ⟨rfl, E9⟩
  refine ⟨_, rfl, ?_⟩
  have X10 : Ext w w9 := X6.trans E9
  refine da_op rfl (d_as (v := .bool m7) rfl ?_)
  refine da_nil ?_
  refine W_ret ?_
  obtain rfl := Option.some.inj hr
  refine ⟨_, res1 (rv_tmp rfl), ?_⟩
  exact ⟨rfl, X10⟩
set_option maxHeartbeats 4000000 in
theorem c141 (p0 : SVector) (p0r0 : Nat) (p0r1 : Nat) (p0r2 : Nat) (r : Bool) (w : World) (hr : M.impl_badVector p0 = some r) (p0h0 : cn .f32 p0r0 = p0.x) (p0h1 : cn .f32 p0r1 = p0.y) (p0h2 : cn .f32 p0r2 = p0.z) :
    Calls Tryd.prog 141 #[.agg #[.float .f32 p0r0, .float .f32 p0r1, .float .f32 p0r2]] w fun e w' => e = .returned (.bool r) ∧ Ext w w' := by
  refine calls_of_W Tryd.func141 rfl (Nat.le_of_ble_eq_true rfl) ?_
  refine W_seq ?_
  refine W_region rfl ?_
  refine da_op rfl (d_box (cs := #[.float .f32 p0r0, .float .f32 p0r1, .float .f32 p0r2]) rfl fun w1 B1 E1 => ?_)
  have own2 : w.heap.size ≤ w.heap.size := Nat.le_trans (Ext.refl w).size (Nat.le_refl _)
  have X3 : Ext w w1 := (Ext.refl w).trans E1
  refine da_op rfl (d_as (v := .bool false) rfl ?_)
  refine da_nil ?_
  refine W_seq ?_
  refine W_region rfl ?_
  refine da_op rfl (d_loads (vs := #[.float .f32 p0r0, .float .f32 p0r1, .float .f32 p0r2]) rfl agg44 size44 B1 rfl ?_)
  obtain ⟨m4, hm4, hr⟩ := bind_out hr
  refine da_op rfl (d_cl (vs := [.agg #[.float .f32 p0r0, .float .f32 p0r1, .float .f32 p0r2]]) en125 (ac rfl rfl) rfl ?_)
  refine (c125 p0 p0r0 p0r1 p0r2 m4 w1 hm4 p0h0 p0h1 p0h2).mono ?_
  rintro _ w5 ⟨rfl, E5⟩
  refine ⟨_, rfl, ?_⟩
  have X6 : Ext w w5 := X3.trans E5
  refine da_op rfl (d_not rfl ?_)
  refine da_op rfl (d_as (v := .bool (!m4)) rfl ?_)
  refine da_nil ?_
  refine W_ret ?_
  obtain rfl := Option.some.inj hr
  refine ⟨_, res1 (rv_tmp rfl), ?_⟩
  exact ⟨rfl, X6⟩
set_option maxHeartbeats 4000000 in
theorem c178_f141 (p0 : List SVector) (p0a : Option Addr) (p0n : Nat) (p0c : Nat) (r : Int) (w : World) (hr : M.slices_IndexFunc___impl_Vector_impl_Vector__f141 p0 = some r) (p0R : RS w encSVector (Value.slice p0a p0n p0c) p0) :
    Calls Tryd.prog 178 #[(Value.slice p0a p0n p0c), .func (.func 141) #[] #[]] w fun e w' => e = .returned (.int .i64 r) ∧ Ext w w' := by
  refine calls_of_W Tryd.func178 rfl (Nat.le_of_ble_eq_true rfl) ?_
  refine W_seq ?_
  refine W_region rfl ?_
  refine da_op rfl (d_as (v := .int .i64 0) rfl ?_)
  refine da_nil ?_
  refine W_seq ?_
  refine W_seq ?_
  refine W_region rfl ?_
  refine da_op rfl (d_mv (v := (Value.slice p0a p0n p0c)) rfl ?_)
  refine da_op rfl (d_len (e := encSVector) un66 rfl p0R ?_)
  refine da_op rfl (d_mv (v := .int .i64 0) rfl ?_)
  refine da_nil ?_
  refine W_block ?_
  obtain ⟨m1, hm1, hr⟩ := bind_out hr
  refine W_loopM hm1 (fun (s1 : Int) σ w' => σ 8 = .int .i64 s1 ∧ σ 0 = (Value.slice p0a p0n p0c) ∧ σ 1 = .func (.func 141) #[] #[] ∧ σ 7 = .int .i64 ((p0).length : Int) ∧ Ext w w') (fun (e1 : (Unit ⊕ Int)) ex σ w' => sel e1 (fun e1 => ex = .exit 0 ∧ Ext w w') (fun e1 => ex = .ret ∧ σ 4 = .int .i64 e1 ∧ Ext w w')) ⟨rfl, rfl, rfl, rfl, (Ext.refl w)⟩ ?_ ?_
  · skip
    rintro s1 σl1 wl1 r1l ⟨i1_S8, i1_S0, i1_S1, i1_S7, i1_X⟩ hr
    refine W_seq ?_
    refine W_region rfl ?_
    refine da_op rfl (d_icmp cLss i1_S8 i1_S7 ?_)
    refine da_nil ?_
    refine W_seq ?_
    refine W_cond (b := (icmp .lss s1 ((p0).length : Int))) rfl (fun hc2 => ?_) (fun hc2 => ?_)
    · skip
      replace hr := bif_t hr hc2
      refine W_skip ?_
      refine W_seq ?_
      refine W_block ?_
      refine W_seq ?_
      refine W_region rfl ?_
      refine da_op rfl (d_mv (v := .int .i64 s1) i1_S8 ?_)
      refine da_op rfl (d_as (v := .int .i64 s1) rfl ?_)
      refine da_nil ?_
      refine W_seq ?_
      refine W_region rfl ?_
      refine da_op rfl (d_mv (v := .func (.func 141) #[] #[]) i1_S1 ?_)
      refine da_op rfl (d_mv (v := (Value.slice p0a p0n p0c)) i1_S0 ?_)
      refine da_op rfl (d_mv (v := .int .i64 s1) rfl ?_)
      obtain ⟨m3, hm3, hr⟩ := bind_out hr
      have B5 : RS wl1 encSVector (Value.slice p0a p0n p0c) p0 := p0R.ext i1_X
      refine da_op rfl (d_index (e := encSVector) (v := (Value.slice p0a p0n p0c)) un66 size44 rfl rfl B5 hm3 fun g4 o4 cu4 T4 fr4 vs4 hv4 hg4 hp4 hq4 => ?_)
      obtain ⟨e4_r0, e4_r1, e4_r2, rfl, e4_h0, e4_h1, e4_h2⟩ := dec_encSVector hq4
      refine da_op rfl (d_loads (vs := #[.float .f32 e4_r0, .float .f32 e4_r1, .float .f32 e4_r2]) rfl agg44 size44 hg4 (sub_take (vs := #[.float .f32 e4_r0, .float .f32 e4_r1, .float .f32 e4_r2]) (us := #[.float .f32 e4_r0, .float .f32 e4_r1, .float .f32 e4_r2]) (i := 0) hp4 rfl (Nat.le_of_ble_eq_true rfl)) ?_)
      obtain ⟨m6, hm6, hr⟩ := bind_out hr
      refine da_op rfl (d_clv (vs := [.agg #[.float .f32 e4_r0, .float .f32 e4_r1, .float .f32 e4_r2]]) (cap := []) en141 rfl (ac rfl rfl) ?_)
      refine (c141 m3 e4_r0 e4_r1 e4_r2 m6 wl1 hm6 e4_h0 e4_h1 e4_h2).mono ?_
      rintro _ w7 ⟨rfl, E7⟩
      refine ⟨_, rfl, ?_⟩
      have X8 : Ext w w7 := i1_X.trans E7
      refine da_nil ?_
      refine W_cond (b := m6) rfl (fun hc9 => ?_) (fun hc9 => ?_)
      · skip
        replace hr := bif_t hr hc9
        refine W_seq ?_
        refine W_region rfl ?_
        refine da_op rfl (d_mv (v := .int .i64 s1) rfl ?_)
        refine da_op rfl (d_as (v := .int .i64 s1) rfl ?_)
        refine da_nil ?_
        refine W_ret ?_
        obtain rfl := Option.some.inj hr
        exact ⟨_, rfl, rfl, rfl, X8⟩
      · skip
        replace hr := bif_f hr hc9
        refine W_skip ?_
        refine W_region rfl ?_
        refine da_op rfl (d_iarith i1_S8 rfl (.inl ⟨rfl, rfl⟩) ?_)
        refine da_op rfl (d_mv (v := .int .i64 (IntKind.i64.wrap (s1 + 1))) rfl ?_)
        refine da_nil ?_
        obtain rfl := Option.some.inj hr
        exact ⟨_, rfl, ⟨rfl, i1_S0, i1_S1, i1_S7, X8⟩⟩
    · skip
      replace hr := bif_f hr hc2
      refine W_exit ?_
      obtain rfl := Option.some.inj hr
      exact ⟨_, rfl, rfl, i1_X⟩
  · skip
    intro ex σx1 wx1 hq
    rcases m1 with m1 | m1
    · skip
      obtain ⟨rfl, q1_0_X⟩ := hq
      refine W_seq ?_
      refine W_region rfl ?_
      refine da_op rfl (d_as (v := .int .i64 (-1)) rfl ?_)
      refine da_nil ?_
      refine W_ret ?_
      obtain rfl := Option.some.inj hr
      refine ⟨_, res1 (rv_tmp rfl), ?_⟩
      exact ⟨rfl, q1_0_X⟩
    · skip
      obtain ⟨rfl, q1_1_S4, q1_1_X⟩ := hq
      obtain rfl := Option.some.inj hr
      refine ⟨_, res1 (rv_tmp q1_1_S4), ?_⟩
      exact ⟨rfl, q1_1_X⟩
set_option maxHeartbeats 4000000 in
theorem c140_f141 (p0 : List SVector) (p0a : Option Addr) (p0n : Nat) (p0c : Nat) (r : Bool) (w : World) (hr : M.slices_ContainsFunc___impl_Vector_impl_Vector__f141 p0 = some r) (p0R : RS w encSVector (Value.slice p0a p0n p0c) p0) :
    Calls Tryd.prog 140 #[(Value.slice p0a p0n p0c), .func (.func 141) #[] #[]] w fun e w' => e = .returned (.bool r) ∧ Ext w w' := by
  refine calls_of_W Tryd.func140 rfl (Nat.le_of_ble_eq_true rfl) ?_
  refine W_seq ?_
  refine W_region rfl ?_
  refine da_op rfl (d_as (v := .bool false) rfl ?_)
  refine da_nil ?_
  refine W_seq ?_
  refine W_region rfl ?_
  refine da_op rfl (d_mv (v := (Value.slice p0a p0n p0c)) rfl ?_)
  refine da_op rfl (d_mv (v := .func (.func 141) #[] #[]) rfl ?_)
  obtain ⟨m1, hm1, hr⟩ := bind_out hr
  refine da_op rfl (d_cl (vs := [(Value.slice p0a p0n p0c), .func (.func 141) #[] #[]]) en178 (ac rfl (ac rfl rfl)) rfl ?_)
  refine (c178_f141 p0 p0a p0n p0c m1 w hm1 p0R).mono ?_
  rintro _ w2 ⟨rfl, E2⟩
  refine ⟨_, rfl, ?_⟩
  have X3 : Ext w w2 := (Ext.refl w).trans E2
  refine da_op rfl (d_icmp cGeq rfl rfl ?_)
  refine da_op rfl (d_as (v := .bool (icmp .geq m1 0)) rfl ?_)
  refine da_nil ?_
  refine W_ret ?_
  obtain rfl := Option.some.inj hr
  refine ⟨_, res1 (rv_tmp rfl), ?_⟩
  exact ⟨rfl, X3⟩
set_option maxHeartbeats 4000000 in
theorem c180 (p0 : Nat) (p0r : Nat) (r : Bool) (w : World) (hr : M.impl_levelOk p0 = r) (p0h : cn .f32 p0r = p0) :
    Calls Tryd.prog 180 #[.float .f32 p0r] w fun e w' => e = .returned (.bool r) ∧ Ext w w' := by
  refine calls_of_W Tryd.func180 rfl (Nat.le_of_ble_eq_true rfl) ?_
  refine W_seq ?_
  refine W_region rfl ?_
  refine da_op rfl (d_as (v := .bool false) rfl ?_)
  refine da_nil ?_
  refine W_seq ?_
  obtain ⟨m1, hm1, hr⟩ := letv_out hr
  refine W_cut (fun σ' w' => σ' 2 = .bool m1 ∧ Ext w w') rfl ?_ ?_
  · skip
    have hr := hm1
    refine da_op rfl (d_mv (v := .float .f32 p0r) rfl ?_)
    obtain ⟨m2, hm2, hr⟩ := letv_out hr
    refine da_op rfl (d_cl (vs := [.float .f32 p0r]) en130 (ac rfl rfl) rfl ?_)
    refine (c130 p0 p0r m2 w hm2 p0h).mono ?_
    rintro _ w3 ⟨rfl, E3⟩
    refine ⟨_, rfl, ?_⟩
    have X4 : Ext w w3 := (Ext.refl w).trans E3
    refine da_op rfl (d_mv (v := .bool m2) rfl ?_)
    rcases Bool.eq_false_or_eq_true m2 with hc5 | hc5
    · skip
      replace hr := bif_t hr hc5
      refine da_on rfl (Eq.trans (show sl _ _ _ = .bool m2 from rfl) (congrArg Value.bool hc5)) (d_mv (v := .float .f32 p0r) rfl ?_)
      refine da_on rfl (Eq.trans (show sl _ _ _ = .bool m2 from rfl) (congrArg Value.bool hc5)) (d_fcmp (k := .f32) cGeq rfl rfl p0h cn_f32_0 ?_)
      refine da_op rfl (d_pick (b := true) (Eq.trans (show ev _ _ = .bool m2 from rfl) (congrArg Value.bool hc5)) ?_)
      refine da_op rfl (d_as (v := .bool (fcmp .geq .f32 p0 0)) rfl ?_)
      refine da_nil ?_
      subst hr
      exact ⟨rfl, (Ext.trans (Ext.refl w) E3)⟩
    · skip
      replace hr := bif_f hr hc5
      refine da_off rfl (Eq.trans (show sl _ _ _ = .bool m2 from rfl) (congrArg Value.bool hc5)) (by decide) ?_
      refine da_off rfl (Eq.trans (show sl _ _ _ = .bool m2 from rfl) (congrArg Value.bool hc5)) (by decide) ?_
      refine da_op rfl (d_pick (b := false) (Eq.trans (show ev _ _ = .bool m2 from rfl) (congrArg Value.bool hc5)) ?_)
      refine da_op rfl (d_as (v := .bool false) rfl ?_)
      refine da_nil ?_
      subst hr
      exact ⟨rfl, (Ext.trans (Ext.refl w) E3)⟩
  · skip
    rintro σ1 w1 o1 ⟨s2_1, E1⟩
    have X6 : Ext w w1 := (Ext.refl w).trans E1
    refine W_ret ?_
    subst hr
    refine ⟨_, res1 (rv_tmp s2_1), ?_⟩
    exact ⟨rfl, X6⟩
set_option maxHeartbeats 4000000 in
theorem c143 (p0 : Nat) (p0r : Nat) (r : Bool) (w : World) (hr : M.impl_badLevel p0 = r) (p0h : cn .f32 p0r = p0) :
    Calls Tryd.prog 143 #[.float .f32 p0r] w fun e w' => e = .returned (.bool r) ∧ Ext w w' := by
  refine calls_of_W Tryd.func143 rfl (Nat.le_of_ble_eq_true rfl) ?_
  refine W_seq ?_
  refine W_region rfl ?_
  refine da_op rfl (d_as (v := .bool false) rfl ?_)
  refine da_nil ?_
  refine W_seq ?_
  refine W_region rfl ?_
  refine da_op rfl (d_mv (v := .float .f32 p0r) rfl ?_)
  obtain ⟨m1, hm1, hr⟩ := letv_out hr
  refine da_op rfl (d_cl (vs := [.float .f32 p0r]) en180 (ac rfl rfl) rfl ?_)
  refine (c180 p0 p0r m1 w hm1 p0h).mono ?_
  rintro _ w2 ⟨rfl, E2⟩
  refine ⟨_, rfl, ?_⟩
  have X3 : Ext w w2 := (Ext.refl w).trans E2
  refine da_op rfl (d_not rfl ?_)
  refine da_op rfl (d_as (v := .bool (!m1)) rfl ?_)
  refine da_nil ?_
  refine W_ret ?_
  subst hr
  refine ⟨_, res1 (rv_tmp rfl), ?_⟩
  exact ⟨rfl, X3⟩
set_option maxHeartbeats 4000000 in
theorem c179_f143 (p0 : List Nat) (p0a : Option Addr) (p0n : Nat) (p0c : Nat) (r : Int) (w : World) (hr : M.slices_IndexFunc___float32_float32__f143 p0 = some r) (p0R : RS w encF_f32 (Value.slice p0a p0n p0c) p0) :
    Calls Tryd.prog 179 #[(Value.slice p0a p0n p0c), .func (.func 143) #[] #[]] w fun e w' => e = .returned (.int .i64 r) ∧ Ext w w' := by
  refine calls_of_W Tryd.func179 rfl (Nat.le_of_ble_eq_true rfl) ?_
  refine W_seq ?_
  refine W_region rfl ?_
  refine da_op rfl (d_as (v := .int .i64 0) rfl ?_)
  refine da_nil ?_
  refine W_seq ?_
  refine W_seq ?_
  refine W_region rfl ?_
  refine da_op rfl (d_mv (v := (Value.slice p0a p0n p0c)) rfl ?_)
  refine da_op rfl (d_len (e := encF_f32) un53 rfl p0R ?_)
  refine da_op rfl (d_mv (v := .int .i64 0) rfl ?_)
  refine da_nil ?_
  refine W_block ?_
  obtain ⟨m1, hm1, hr⟩ := bind_out hr
  refine W_loopM hm1 (fun (s1 : Int) σ w' => σ 8 = .int .i64 s1 ∧ σ 0 = (Value.slice p0a p0n p0c) ∧ σ 1 = .func (.func 143) #[] #[] ∧ σ 7 = .int .i64 ((p0).length : Int) ∧ Ext w w') (fun (e1 : (Unit ⊕ Int)) ex σ w' => sel e1 (fun e1 => ex = .exit 0 ∧ Ext w w') (fun e1 => ex = .ret ∧ σ 4 = .int .i64 e1 ∧ Ext w w')) ⟨rfl, rfl, rfl, rfl, (Ext.refl w)⟩ ?_ ?_
  · skip
    rintro s1 σl1 wl1 r1l ⟨i1_S8, i1_S0, i1_S1, i1_S7, i1_X⟩ hr
    refine W_seq ?_
    refine W_region rfl ?_
    refine da_op rfl (d_icmp cLss i1_S8 i1_S7 ?_)
    refine da_nil ?_
    refine W_seq ?_
    refine W_cond (b := (icmp .lss s1 ((p0).length : Int))) rfl (fun hc2 => ?_) (fun hc2 => ?_)
    · skip
      replace hr := bif_t hr hc2
      refine W_skip ?_
      refine W_seq ?_
      refine W_block ?_
      refine W_seq ?_
      refine W_region rfl ?_
      refine da_op rfl (d_mv (v := .int .i64 s1) i1_S8 ?_)
      refine da_op rfl (d_as (v := .int .i64 s1) rfl ?_)
      refine da_nil ?_
      refine W_seq ?_
      refine W_region rfl ?_
      refine da_op rfl (d_mv (v := .func (.func 143) #[] #[]) i1_S1 ?_)
      refine da_op rfl (d_mv (v := (Value.slice p0a p0n p0c)) i1_S0 ?_)
      refine da_op rfl (d_mv (v := .int .i64 s1) rfl ?_)
      obtain ⟨m3, hm3, hr⟩ := bind_out hr
      have B5 : RS wl1 encF_f32 (Value.slice p0a p0n p0c) p0 := p0R.ext i1_X
      refine da_op rfl (d_index (e := encF_f32) (v := (Value.slice p0a p0n p0c)) un53 size22 rfl rfl B5 hm3 fun g4 o4 cu4 T4 fr4 vs4 hv4 hg4 hp4 hq4 => ?_)
      obtain ⟨e4_r0, rfl, e4_h0⟩ := dec_encF_f32 hq4
      refine da_op rfl (d_load (v := .float .f32 e4_r0) rfl agg22 hg4 (sub_get (vs := #[.float .f32 e4_r0]) hp4 (i := 0) rfl) ?_)
      obtain ⟨m6, hm6, hr⟩ := letv_out hr
      refine da_op rfl (d_clv (vs := [.float .f32 e4_r0]) (cap := []) en143 rfl (ac rfl rfl) ?_)
      refine (c143 m3 e4_r0 m6 wl1 hm6 e4_h0).mono ?_
      rintro _ w7 ⟨rfl, E7⟩
      refine ⟨_, rfl, ?_⟩
      have X8 : Ext w w7 := i1_X.trans E7
      refine da_nil ?_
      refine W_cond (b := m6) rfl (fun hc9 => ?_) (fun hc9 => ?_)
      · skip
        replace hr := bif_t hr hc9
        refine W_seq ?_
        refine W_region rfl ?_
        refine da_op rfl (d_mv (v := .int .i64 s1) rfl ?_)
        refine da_op rfl (d_as (v := .int .i64 s1) rfl ?_)
        refine da_nil ?_
        refine W_ret ?_
        obtain rfl := Option.some.inj hr
        exact ⟨_, rfl, rfl, rfl, X8⟩
      · skip
        replace hr := bif_f hr hc9
        refine W_skip ?_
        refine W_region rfl ?_
        refine da_op rfl (d_iarith i1_S8 rfl (.inl ⟨rfl, rfl⟩) ?_)
        refine da_op rfl (d_mv (v := .int .i64 (IntKind.i64.wrap (s1 + 1))) rfl ?_)
        refine da_nil ?_
        obtain rfl := Option.some.inj hr
        exact ⟨_, rfl, ⟨rfl, i1_S0, i1_S1, i1_S7, X8⟩⟩
    · skip
      replace hr := bif_f hr hc2
      refine W_exit ?_
      obtain rfl := Option.some.inj hr
      exact ⟨_, rfl, rfl, i1_X⟩
  · skip
    intro ex σx1 wx1 hq
    rcases m1 with m1 | m1
    · skip
      obtain ⟨rfl, q1_0_X⟩ := hq
      refine W_seq ?_
      refine W_region rfl ?_
      refine da_op rfl (d_as (v := .int .i64 (-1)) rfl ?_)
      refine da_nil ?_
      refine W_ret ?_
      obtain rfl := Option.some.inj hr
      refine ⟨_, res1 (rv_tmp rfl), ?_⟩
      exact ⟨rfl, q1_0_X⟩
    · skip
      obtain ⟨rfl, q1_1_S4, q1_1_X⟩ := hq
      obtain rfl := Option.some.inj hr
      refine ⟨_, res1 (rv_tmp q1_1_S4), ?_⟩
      exact ⟨rfl, q1_1_X⟩
set_option maxHeartbeats 4000000 in
theorem c142_f143 (p0 : List Nat) (p0a : Option Addr) (p0n : Nat) (p0c : Nat) (r : Bool) (w : World) (hr : M.slices_ContainsFunc___float32_float32__f143 p0 = some r) (p0R : RS w encF_f32 (Value.slice p0a p0n p0c) p0) :
    Calls Tryd.prog 142 #[(Value.slice p0a p0n p0c), .func (.func 143) #[] #[]] w fun e w' => e = .returned (.bool r) ∧ Ext w w' := by
  refine calls_of_W Tryd.func142 rfl (Nat.le_of_ble_eq_true rfl) ?_
  refine W_seq ?_
  refine W_region rfl ?_
  refine da_op rfl (d_as (v := .bool false) rfl ?_)
  refine da_nil ?_
  refine W_seq ?_
  refine W_region rfl ?_
  refine da_op rfl (d_mv (v := (Value.slice p0a p0n p0c)) rfl ?_)
  refine da_op rfl (d_mv (v := .func (.func 143) #[] #[]) rfl ?_)
  obtain ⟨m1, hm1, hr⟩ := bind_out hr
  refine da_op rfl (d_cl (vs := [(Value.slice p0a p0n p0c), .func (.func 143) #[] #[]]) en179 (ac rfl (ac rfl rfl)) rfl ?_)
  refine (c179_f143 p0 p0a p0n p0c m1 w hm1 p0R).mono ?_
  rintro _ w2 ⟨rfl, E2⟩
  refine ⟨_, rfl, ?_⟩
  have X3 : Ext w w2 := (Ext.refl w).trans E2
  refine da_op rfl (d_icmp cGeq rfl rfl ?_)
  refine da_op rfl (d_as (v := .bool (icmp .geq m1 0)) rfl ?_)
  refine da_nil ?_
  refine W_ret ?_
  obtain rfl := Option.some.inj hr
  refine ⟨_, res1 (rv_tmp rfl), ?_⟩
  exact ⟨rfl, X3⟩
set_option maxHeartbeats 4000000 in
theorem c103 (p0 : Int) (p1 : Int) (p2 : Int) (r : Bool) (w : World) (hr : M.impl_in p0 p1 p2 = r)  :
    Calls Tryd.prog 103 #[.int .i64 p0, .int .i64 p1, .int .i64 p2] w fun e w' => e = .returned (.bool r) ∧ Ext w w' := by
  refine calls_of_W Tryd.func103 rfl (Nat.le_of_ble_eq_true rfl) ?_
  refine W_seq ?_
  refine W_region rfl ?_
  refine da_op rfl (d_as (v := .bool false) rfl ?_)
  refine da_nil ?_
  refine W_seq ?_
  obtain ⟨m1, hm1, hr⟩ := letv_out hr
  refine W_cut (fun σ' w' => σ' 6 = .bool m1 ∧ Ext w w') rfl ?_ ?_
  · skip
    have hr := hm1
    refine da_op rfl (d_mv (v := .int .i64 p0) rfl ?_)
    refine da_op rfl (d_mv (v := .int .i64 p1) rfl ?_)
    refine da_op rfl (d_icmp cGeq rfl rfl ?_)
    refine da_op rfl (d_mv (v := .bool (icmp .geq p0 p1)) rfl ?_)
    rcases Bool.eq_false_or_eq_true (icmp .geq p0 p1) with hc2 | hc2
    · skip
      replace hr := bif_t hr hc2
      refine da_on rfl (Eq.trans (show sl _ _ _ = .bool (icmp .geq p0 p1) from rfl) (congrArg Value.bool hc2)) (d_mv (v := .int .i64 p0) rfl ?_)
      refine da_on rfl (Eq.trans (show sl _ _ _ = .bool (icmp .geq p0 p1) from rfl) (congrArg Value.bool hc2)) (d_mv (v := .int .i64 p2) rfl ?_)
      refine da_on rfl (Eq.trans (show sl _ _ _ = .bool (icmp .geq p0 p1) from rfl) (congrArg Value.bool hc2)) (d_icmp cLeq rfl rfl ?_)
      refine da_op rfl (d_pick (b := true) (Eq.trans (show ev _ _ = .bool (icmp .geq p0 p1) from rfl) (congrArg Value.bool hc2)) ?_)
      refine da_op rfl (d_as (v := .bool (icmp .leq p0 p2)) rfl ?_)
      refine da_nil ?_
      subst hr
      exact ⟨rfl, (Ext.refl w)⟩
    · skip
      replace hr := bif_f hr hc2
      refine da_off rfl (Eq.trans (show sl _ _ _ = .bool (icmp .geq p0 p1) from rfl) (congrArg Value.bool hc2)) (by decide) ?_
      refine da_off rfl (Eq.trans (show sl _ _ _ = .bool (icmp .geq p0 p1) from rfl) (congrArg Value.bool hc2)) (by decide) ?_
      refine da_off rfl (Eq.trans (show sl _ _ _ = .bool (icmp .geq p0 p1) from rfl) (congrArg Value.bool hc2)) (by decide) ?_
      refine da_op rfl (d_pick (b := false) (Eq.trans (show ev _ _ = .bool (icmp .geq p0 p1) from rfl) (congrArg Value.bool hc2)) ?_)
      refine da_op rfl (d_as (v := .bool false) rfl ?_)
      refine da_nil ?_
      subst hr
      exact ⟨rfl, (Ext.refl w)⟩
  · skip
    rintro σ1 w1 o1 ⟨s6_1, E1⟩
    have X3 : Ext w w1 := (Ext.refl w).trans E1
    refine W_ret ?_
    subst hr
    refine ⟨_, res1 (rv_tmp s6_1), ?_⟩
    exact ⟨rfl, X3⟩
set_option maxHeartbeats 4000000 in
theorem c146 (p0 : SChain) (p1 : SRod) (p0b p0o : Nat) (p0c : Array Value) (p0T : TypeId) (p0f : Nat × Nat) (p0v0a : Option Addr) (p0v0n : Nat) (p0v0c : Nat) (p0v1a : Option Addr) (p0v1n : Nat) (p0v1c : Nat) (p0v2a : Option Addr) (p0v2n : Nat) (p0v2c : Nat) (p0v3a : Option Addr) (p0v3n : Nat) (p0v3c : Nat) (p1r2 : Nat) (r : Bool) (w : World) (hr : M.impl_Chain_rodOk p0 p1 = r) (p0v0R : RS w encSVector (Value.slice p0v0a p0v0n p0v0c) p0.places) (p0v1R : RS w encSVector (Value.slice p0v1a p0v1n p0v1c) p0.before) (p0v2R : RS w encF_f32 (Value.slice p0v2a p0v2n p0v2c) p0.weights) (p0v3R : RS w encSRod (Value.slice p0v3a p0v3n p0v3c) p0.rods) (p0B : w.heap[p0b]? = some (.cells p0c p0T p0f)) (p0P : (p0c.toList.drop p0o).take 4 = [(Value.slice p0v0a p0v0n p0v0c), (Value.slice p0v1a p0v1n p0v1c), (Value.slice p0v2a p0v2n p0v2c), (Value.slice p0v3a p0v3n p0v3c)]) (p1h2 : cn .f32 p1r2 = p1.long) :
    Calls Tryd.prog 146 #[.pointer (some ⟨p0b, p0o, none⟩), .agg #[.int .i64 p1.a, .int .i64 p1.b, .float .f32 p1r2]] w fun e w' => e = .returned (.bool r) ∧ Ext w w' := by
  refine calls_of_W Tryd.func146 rfl (Nat.le_of_ble_eq_true rfl) ?_
  refine W_seq ?_
  refine W_region rfl ?_
  refine da_op rfl (d_box (cs := #[.int .i64 p1.a, .int .i64 p1.b, .float .f32 p1r2]) rfl fun w1 B1 E1 => ?_)
  have own2 : w.heap.size ≤ w.heap.size := Nat.le_trans (Ext.refl w).size (Nat.le_refl _)
  have X3 : Ext w w1 := (Ext.refl w).trans E1
  refine da_op rfl (d_as (v := .bool false) rfl ?_)
  refine da_nil ?_
  refine W_seq ?_
  refine W_region rfl ?_
  refine da_op rfl (d_mv (v := .pointer (some ⟨p0b, p0o, none⟩)) rfl ?_)
  refine da_op rfl (d_nil rfl ?_)
  refine da_op rfl (d_fieldAddr rfl (fa69_0 _ _) ?_)
  have B4 : w1.heap[p0b]? = some (.cells p0c p0T p0f) := X3.heap p0B
  refine da_op rfl (d_load (v := (Value.slice p0v0a p0v0n p0v0c)) rfl agg66 B4 (sub_get (vs := #[(Value.slice p0v0a p0v0n p0v0c), (Value.slice p0v1a p0v1n p0v1c), (Value.slice p0v2a p0v2n p0v2c), (Value.slice p0v3a p0v3n p0v3c)]) p0P (i := 0) rfl) ?_)
  have B5 : RS w1 encSVector (Value.slice p0v0a p0v0n p0v0c) p0.places := p0v0R.ext X3
  refine da_op rfl (d_len (e := encSVector) un66 rfl B5 ?_)
  refine da_op rfl (d_iarith rfl rfl (.inr (.inl ⟨rfl, rfl⟩)) ?_)
  refine da_op rfl (d_as (v := .int .i64 (IntKind.i64.wrap (((p0.places).length : Int) - 1))) rfl ?_)
  refine da_nil ?_
  refine W_seq ?_
  obtain ⟨m6, hm6, hr⟩ := letv_out hr
  refine W_cut (fun σ' w' => σ' 4 = .bool m6 ∧ Ext w1 w') rfl ?_ ?_
  · skip
    have hr := hm6
    refine da_op rfl (d_fieldAddr rfl (fa136_0 _ _) ?_)
    refine da_op rfl (d_load (v := .int .i64 p1.a) rfl agg2 B1 rfl ?_)
    refine da_op rfl (d_mv (v := .int .i64 (IntKind.i64.wrap (((p0.places).length : Int) - 1))) rfl ?_)
    obtain ⟨m7, hm7, hr⟩ := letv_out hr
    refine da_op rfl (d_cl (vs := [.int .i64 p1.a, .int .i64 0, .int .i64 (IntKind.i64.wrap (((p0.places).length : Int) - 1))]) en103 (ac rfl (ac rfl (ac rfl rfl))) rfl ?_)
    refine (c103 p1.a 0 (IntKind.i64.wrap (((p0.places).length : Int) - 1)) m7 w1 hm7 ).mono ?_
    rintro _ w8 ⟨rfl, E8⟩
    refine ⟨_, rfl, ?_⟩
    have X9 : Ext w w8 := X3.trans E8
    refine da_op rfl (d_mv (v := .bool m7) rfl ?_)
    rcases Bool.eq_false_or_eq_true m7 with hc10 | hc10
    · skip
      replace hr := bif_t hr hc10
      refine da_on rfl (Eq.trans (show sl _ _ _ = .bool m7 from rfl) (congrArg Value.bool hc10)) (d_fieldAddr rfl (fa136_1 _ _) ?_)
      have B11 : w8.heap[w.heap.size]? = some (.cells #[.int .i64 p1.a, .int .i64 p1.b, .float .f32 p1r2] 136 (0, 0)) := E8.heap B1
      refine da_on rfl (Eq.trans (show sl _ _ _ = .bool m7 from rfl) (congrArg Value.bool hc10)) (d_load (v := .int .i64 p1.b) rfl agg2 B11 rfl ?_)
      refine da_on rfl (Eq.trans (show sl _ _ _ = .bool m7 from rfl) (congrArg Value.bool hc10)) (d_mv (v := .int .i64 (IntKind.i64.wrap (((p0.places).length : Int) - 1))) rfl ?_)
      obtain ⟨m12, hm12, hr⟩ := letv_out hr
      refine da_on rfl (Eq.trans (show sl _ _ _ = .bool m7 from rfl) (congrArg Value.bool hc10)) (d_cl (vs := [.int .i64 p1.b, .int .i64 0, .int .i64 (IntKind.i64.wrap (((p0.places).length : Int) - 1))]) en103 (ac rfl (ac rfl (ac rfl rfl))) rfl ?_)
      refine (c103 p1.b 0 (IntKind.i64.wrap (((p0.places).length : Int) - 1)) m12 w8 hm12 ).mono ?_
      rintro _ w13 ⟨rfl, E13⟩
      refine ⟨_, rfl, ?_⟩
      have X14 : Ext w w13 := X9.trans E13
      refine da_op rfl (d_pick (b := true) (Eq.trans (show ev _ _ = .bool m7 from rfl) (congrArg Value.bool hc10)) ?_)
      refine da_op rfl (d_mv (v := .bool m12) rfl ?_)
      rcases Bool.eq_false_or_eq_true m12 with hc15 | hc15
      · skip
        replace hr := bif_t hr hc15
        refine da_on rfl (Eq.trans (show sl _ _ _ = .bool m12 from rfl) (congrArg Value.bool hc15)) (d_fieldAddr rfl (fa136_0 _ _) ?_)
        have B16 : w13.heap[w.heap.size]? = some (.cells #[.int .i64 p1.a, .int .i64 p1.b, .float .f32 p1r2] 136 (0, 0)) := E13.heap B11
        refine da_on rfl (Eq.trans (show sl _ _ _ = .bool m12 from rfl) (congrArg Value.bool hc15)) (d_load (v := .int .i64 p1.a) rfl agg2 B16 rfl ?_)
        refine da_on rfl (Eq.trans (show sl _ _ _ = .bool m12 from rfl) (congrArg Value.bool hc15)) (d_fieldAddr rfl (fa136_1 _ _) ?_)
        refine da_on rfl (Eq.trans (show sl _ _ _ = .bool m12 from rfl) (congrArg Value.bool hc15)) (d_load (v := .int .i64 p1.b) rfl agg2 B16 rfl ?_)
        refine da_on rfl (Eq.trans (show sl _ _ _ = .bool m12 from rfl) (congrArg Value.bool hc15)) (d_icmp cNeq rfl rfl ?_)
        refine da_op rfl (d_pick (b := true) (Eq.trans (show ev _ _ = .bool m12 from rfl) (congrArg Value.bool hc15)) ?_)
        refine da_op rfl (d_mv (v := .bool (icmp .neq p1.a p1.b)) rfl ?_)
        rcases Bool.eq_false_or_eq_true (icmp .neq p1.a p1.b) with hc17 | hc17
        · skip
          replace hr := bif_t hr hc17
          refine da_on rfl (Eq.trans (show sl _ _ _ = .bool (icmp .neq p1.a p1.b) from rfl) (congrArg Value.bool hc17)) (d_fieldAddr rfl (fa136_2 _ _) ?_)
          refine da_on rfl (Eq.trans (show sl _ _ _ = .bool (icmp .neq p1.a p1.b) from rfl) (congrArg Value.bool hc17)) (d_load (v := .float .f32 p1r2) rfl agg22 B16 rfl ?_)
          obtain ⟨m18, hm18, hr⟩ := letv_out hr
          refine da_on rfl (Eq.trans (show sl _ _ _ = .bool (icmp .neq p1.a p1.b) from rfl) (congrArg Value.bool hc17)) (d_cl (vs := [.float .f32 p1r2]) en180 (ac rfl rfl) rfl ?_)
          refine (c180 p1.long p1r2 m18 w13 hm18 p1h2).mono ?_
          rintro _ w19 ⟨rfl, E19⟩
          refine ⟨_, rfl, ?_⟩
          have X20 : Ext w w19 := X14.trans E19
          refine da_op rfl (d_pick (b := true) (Eq.trans (show ev _ _ = .bool (icmp .neq p1.a p1.b) from rfl) (congrArg Value.bool hc17)) ?_)
          refine da_op rfl (d_as (v := .bool m18) rfl ?_)
          refine da_nil ?_
          subst hr
          exact ⟨rfl, (Ext.trans (Ext.trans (Ext.trans (Ext.refl w1) E8) E13) E19)⟩
        · skip
          replace hr := bif_f hr hc17
          refine da_off rfl (Eq.trans (show sl _ _ _ = .bool (icmp .neq p1.a p1.b) from rfl) (congrArg Value.bool hc17)) (by decide) ?_
          refine da_off rfl (Eq.trans (show sl _ _ _ = .bool (icmp .neq p1.a p1.b) from rfl) (congrArg Value.bool hc17)) (by decide) ?_
          refine da_off rfl (Eq.trans (show sl _ _ _ = .bool (icmp .neq p1.a p1.b) from rfl) (congrArg Value.bool hc17)) (by decide) ?_
          refine da_op rfl (d_pick (b := false) (Eq.trans (show ev _ _ = .bool (icmp .neq p1.a p1.b) from rfl) (congrArg Value.bool hc17)) ?_)
          refine da_op rfl (d_as (v := .bool false) rfl ?_)
          refine da_nil ?_
          subst hr
          exact ⟨rfl, (Ext.trans (Ext.trans (Ext.refl w1) E8) E13)⟩
      · skip
        replace hr := bif_f hr hc15
        refine da_off rfl (Eq.trans (show sl _ _ _ = .bool m12 from rfl) (congrArg Value.bool hc15)) (by decide) ?_
        refine da_off rfl (Eq.trans (show sl _ _ _ = .bool m12 from rfl) (congrArg Value.bool hc15)) (by decide) ?_
        refine da_off rfl (Eq.trans (show sl _ _ _ = .bool m12 from rfl) (congrArg Value.bool hc15)) (by decide) ?_
        refine da_off rfl (Eq.trans (show sl _ _ _ = .bool m12 from rfl) (congrArg Value.bool hc15)) (by decide) ?_
        refine da_off rfl (Eq.trans (show sl _ _ _ = .bool m12 from rfl) (congrArg Value.bool hc15)) (by decide) ?_
        refine da_op rfl (d_pick (b := false) (Eq.trans (show ev _ _ = .bool m12 from rfl) (congrArg Value.bool hc15)) ?_)
        refine da_op rfl (d_mv (v := .bool false) rfl ?_)
        refine da_off rfl rfl (by decide) ?_
        refine da_off rfl rfl (by decide) ?_
        refine da_off rfl rfl (by decide) ?_
        refine da_op rfl (d_pick (b := false) rfl ?_)
        refine da_op rfl (d_as (v := .bool false) rfl ?_)
        refine da_nil ?_
        subst hr
        exact ⟨rfl, (Ext.trans (Ext.trans (Ext.refl w1) E8) E13)⟩
    · skip
      replace hr := bif_f hr hc10
      refine da_off rfl (Eq.trans (show sl _ _ _ = .bool m7 from rfl) (congrArg Value.bool hc10)) (by decide) ?_
      refine da_off rfl (Eq.trans (show sl _ _ _ = .bool m7 from rfl) (congrArg Value.bool hc10)) (by decide) ?_
      refine da_off rfl (Eq.trans (show sl _ _ _ = .bool m7 from rfl) (congrArg Value.bool hc10)) (by decide) ?_
      refine da_off rfl (Eq.trans (show sl _ _ _ = .bool m7 from rfl) (congrArg Value.bool hc10)) (by decide) ?_
      refine da_op rfl (d_pick (b := false) (Eq.trans (show ev _ _ = .bool m7 from rfl) (congrArg Value.bool hc10)) ?_)
      refine da_op rfl (d_mv (v := .bool false) rfl ?_)
      refine da_off rfl rfl (by decide) ?_
      refine da_off rfl rfl (by decide) ?_
      refine da_off rfl rfl (by decide) ?_
      refine da_off rfl rfl (by decide) ?_
      refine da_off rfl rfl (by decide) ?_
      refine da_op rfl (d_pick (b := false) rfl ?_)
      refine da_op rfl (d_mv (v := .bool false) rfl ?_)
      refine da_off rfl rfl (by decide) ?_
      refine da_off rfl rfl (by decide) ?_
      refine da_off rfl rfl (by decide) ?_
      refine da_op rfl (d_pick (b := false) rfl ?_)
      refine da_op rfl (d_as (v := .bool false) rfl ?_)
      refine da_nil ?_
      subst hr
      exact ⟨rfl, (Ext.trans (Ext.refl w1) E8)⟩
  · skip
    rintro σ6 w6 o6 ⟨s4_6, E6⟩
    have X21 : Ext w w6 := X3.trans E6
    refine W_ret ?_
    subst hr
    refine ⟨_, res1 (rv_tmp s4_6), ?_⟩
    exact ⟨rfl, X21⟩
set_option maxHeartbeats 4000000 in
theorem c145 (p0 : SRod) (p1 : SChain) (p0r2 : Nat) (p1b p1o : Nat) (p1c : Array Value) (p1T : TypeId) (p1f : Nat × Nat) (p1v0a : Option Addr) (p1v0n : Nat) (p1v0c : Nat) (p1v1a : Option Addr) (p1v1n : Nat) (p1v1c : Nat) (p1v2a : Option Addr) (p1v2n : Nat) (p1v2c : Nat) (p1v3a : Option Addr) (p1v3n : Nat) (p1v3c : Nat) (r : Bool) (w : World) (hr : M.impl_ValidChain_1 p0 p1 = r) (p0h2 : cn .f32 p0r2 = p0.long) (p1v0R : RS w encSVector (Value.slice p1v0a p1v0n p1v0c) p1.places) (p1v1R : RS w encSVector (Value.slice p1v1a p1v1n p1v1c) p1.before) (p1v2R : RS w encF_f32 (Value.slice p1v2a p1v2n p1v2c) p1.weights) (p1v3R : RS w encSRod (Value.slice p1v3a p1v3n p1v3c) p1.rods) (p1B : w.heap[p1b]? = some (.cells p1c p1T p1f)) (p1P : (p1c.toList.drop p1o).take 4 = [(Value.slice p1v0a p1v0n p1v0c), (Value.slice p1v1a p1v1n p1v1c), (Value.slice p1v2a p1v2n p1v2c), (Value.slice p1v3a p1v3n p1v3c)]) :
    Calls Tryd.prog 145 #[.agg #[.int .i64 p0.a, .int .i64 p0.b, .float .f32 p0r2], .pointer (some ⟨p1b, p1o, none⟩)] w fun e w' => e = .returned (.bool r) ∧ Ext w w' := by
  refine calls_of_W Tryd.func145 rfl (Nat.le_of_ble_eq_true rfl) ?_
  refine W_seq ?_
  refine W_region rfl ?_
  refine da_op rfl (d_box (cs := #[.int .i64 p0.a, .int .i64 p0.b, .float .f32 p0r2]) rfl fun w1 B1 E1 => ?_)
  have own2 : w.heap.size ≤ w.heap.size := Nat.le_trans (Ext.refl w).size (Nat.le_refl _)
  have X3 : Ext w w1 := (Ext.refl w).trans E1
  refine da_op rfl (d_as (v := .bool false) rfl ?_)
  refine da_nil ?_
  refine W_seq ?_
  refine W_region rfl ?_
  refine da_op rfl (d_loads (vs := #[.int .i64 p0.a, .int .i64 p0.b, .float .f32 p0r2]) rfl agg136 size136 B1 rfl ?_)
  obtain ⟨m4, hm4, hr⟩ := letv_out hr
  have B5 : w1.heap[p1b]? = some (.cells p1c p1T p1f) := X3.heap p1B
  have B6 : RS w1 encSVector (Value.slice p1v0a p1v0n p1v0c) p1.places := p1v0R.ext X3
  have B7 : RS w1 encSVector (Value.slice p1v1a p1v1n p1v1c) p1.before := p1v1R.ext X3
  have B8 : RS w1 encF_f32 (Value.slice p1v2a p1v2n p1v2c) p1.weights := p1v2R.ext X3
  have B9 : RS w1 encSRod (Value.slice p1v3a p1v3n p1v3c) p1.rods := p1v3R.ext X3
  refine da_op rfl (d_cl (vs := [.pointer (some ⟨p1b, p1o, none⟩), .agg #[.int .i64 p0.a, .int .i64 p0.b, .float .f32 p0r2]]) en146 (ac rfl (ac rfl rfl)) rfl ?_)
  refine (c146 (⟨p1.places, p1.before, p1.weights, p1.rods⟩ : SChain) (⟨p0.a, p0.b, p0.long⟩ : SRod) p1b p1o p1c p1T p1f p1v0a p1v0n p1v0c p1v1a p1v1n p1v1c p1v2a p1v2n p1v2c p1v3a p1v3n p1v3c p0r2 m4 w1 hm4 B6 B7 B8 B9 B5 (sub_take (vs := #[(Value.slice p1v0a p1v0n p1v0c), (Value.slice p1v1a p1v1n p1v1c), (Value.slice p1v2a p1v2n p1v2c), (Value.slice p1v3a p1v3n p1v3c)]) (us := #[(Value.slice p1v0a p1v0n p1v0c), (Value.slice p1v1a p1v1n p1v1c), (Value.slice p1v2a p1v2n p1v2c), (Value.slice p1v3a p1v3n p1v3c)]) (i := 0) p1P rfl (Nat.le_of_ble_eq_true rfl)) p0h2).mono ?_
  rintro _ w10 ⟨rfl, E10⟩
  refine ⟨_, rfl, ?_⟩
  have X11 : Ext w w10 := X3.trans E10
  refine da_op rfl (d_not rfl ?_)
  refine da_op rfl (d_as (v := .bool (!m4)) rfl ?_)
  refine da_nil ?_
  refine W_ret ?_
  subst hr
  refine ⟨_, res1 (rv_tmp rfl), ?_⟩
  exact ⟨rfl, X11⟩
set_option maxHeartbeats 4000000 in
theorem c181_f145 (p0 : List SRod) (p1c0 : SChain) (p0a : Option Addr) (p0n : Nat) (p0c : Nat) (p1c0b p1c0o : Nat) (p1c0c : Array Value) (p1c0T : TypeId) (p1c0f : Nat × Nat) (p1c0v0a : Option Addr) (p1c0v0n : Nat) (p1c0v0c : Nat) (p1c0v1a : Option Addr) (p1c0v1n : Nat) (p1c0v1c : Nat) (p1c0v2a : Option Addr) (p1c0v2n : Nat) (p1c0v2c : Nat) (p1c0v3a : Option Addr) (p1c0v3n : Nat) (p1c0v3c : Nat) (r : Int) (w : World) (hr : M.slices_IndexFunc___impl_Rod_impl_Rod__f145 p0 p1c0 = some r) (p0R : RS w encSRod (Value.slice p0a p0n p0c) p0) (p1c0v0R : RS w encSVector (Value.slice p1c0v0a p1c0v0n p1c0v0c) p1c0.places) (p1c0v1R : RS w encSVector (Value.slice p1c0v1a p1c0v1n p1c0v1c) p1c0.before) (p1c0v2R : RS w encF_f32 (Value.slice p1c0v2a p1c0v2n p1c0v2c) p1c0.weights) (p1c0v3R : RS w encSRod (Value.slice p1c0v3a p1c0v3n p1c0v3c) p1c0.rods) (p1c0B : w.heap[p1c0b]? = some (.cells p1c0c p1c0T p1c0f)) (p1c0P : (p1c0c.toList.drop p1c0o).take 4 = [(Value.slice p1c0v0a p1c0v0n p1c0v0c), (Value.slice p1c0v1a p1c0v1n p1c0v1c), (Value.slice p1c0v2a p1c0v2n p1c0v2c), (Value.slice p1c0v3a p1c0v3n p1c0v3c)]) :
    Calls Tryd.prog 181 #[(Value.slice p0a p0n p0c), .func (.func 145) #[] #[.pointer (some ⟨p1c0b, p1c0o, none⟩)]] w fun e w' => e = .returned (.int .i64 r) ∧ Ext w w' := by
  refine calls_of_W Tryd.func181 rfl (Nat.le_of_ble_eq_true rfl) ?_
  refine W_seq ?_
  refine W_region rfl ?_
  refine da_op rfl (d_as (v := .int .i64 0) rfl ?_)
  refine da_nil ?_
  refine W_seq ?_
  refine W_seq ?_
  refine W_region rfl ?_
  refine da_op rfl (d_mv (v := (Value.slice p0a p0n p0c)) rfl ?_)
  refine da_op rfl (d_len (e := encSRod) un67 rfl p0R ?_)
  refine da_op rfl (d_mv (v := .int .i64 0) rfl ?_)
  refine da_nil ?_
  refine W_block ?_
  obtain ⟨m1, hm1, hr⟩ := bind_out hr
  refine W_loopM hm1 (fun (s1 : Int) σ w' => σ 8 = .int .i64 s1 ∧ σ 0 = (Value.slice p0a p0n p0c) ∧ σ 1 = .func (.func 145) #[] #[.pointer (some ⟨p1c0b, p1c0o, none⟩)] ∧ σ 7 = .int .i64 ((p0).length : Int) ∧ Ext w w') (fun (e1 : (Unit ⊕ Int)) ex σ w' => sel e1 (fun e1 => ex = .exit 0 ∧ Ext w w') (fun e1 => ex = .ret ∧ σ 4 = .int .i64 e1 ∧ Ext w w')) ⟨rfl, rfl, rfl, rfl, (Ext.refl w)⟩ ?_ ?_
  · skip
    rintro s1 σl1 wl1 r1l ⟨i1_S8, i1_S0, i1_S1, i1_S7, i1_X⟩ hr
    refine W_seq ?_
    refine W_region rfl ?_
    refine da_op rfl (d_icmp cLss i1_S8 i1_S7 ?_)
    refine da_nil ?_
    refine W_seq ?_
    refine W_cond (b := (icmp .lss s1 ((p0).length : Int))) rfl (fun hc2 => ?_) (fun hc2 => ?_)
    · skip
      replace hr := bif_t hr hc2
      refine W_skip ?_
      refine W_seq ?_
      refine W_block ?_
      refine W_seq ?_
      refine W_region rfl ?_
      refine da_op rfl (d_mv (v := .int .i64 s1) i1_S8 ?_)
      refine da_op rfl (d_as (v := .int .i64 s1) rfl ?_)
      refine da_nil ?_
      refine W_seq ?_
      refine W_region rfl ?_
      refine da_op rfl (d_mv (v := .func (.func 145) #[] #[.pointer (some ⟨p1c0b, p1c0o, none⟩)]) i1_S1 ?_)
      refine da_op rfl (d_mv (v := (Value.slice p0a p0n p0c)) i1_S0 ?_)
      refine da_op rfl (d_mv (v := .int .i64 s1) rfl ?_)
      obtain ⟨m3, hm3, hr⟩ := bind_out hr
      have B5 : RS wl1 encSRod (Value.slice p0a p0n p0c) p0 := p0R.ext i1_X
      refine da_op rfl (d_index (e := encSRod) (v := (Value.slice p0a p0n p0c)) un67 size136 rfl rfl B5 hm3 fun g4 o4 cu4 T4 fr4 vs4 hv4 hg4 hp4 hq4 => ?_)
      obtain ⟨e4_r2, rfl, e4_h2⟩ := dec_encSRod hq4
      refine da_op rfl (d_loads (vs := #[.int .i64 m3.a, .int .i64 m3.b, .float .f32 e4_r2]) rfl agg136 size136 hg4 (sub_take (vs := #[.int .i64 m3.a, .int .i64 m3.b, .float .f32 e4_r2]) (us := #[.int .i64 m3.a, .int .i64 m3.b, .float .f32 e4_r2]) (i := 0) hp4 rfl (Nat.le_of_ble_eq_true rfl)) ?_)
      obtain ⟨m6, hm6, hr⟩ := letv_out hr
      have B7 : wl1.heap[p1c0b]? = some (.cells p1c0c p1c0T p1c0f) := i1_X.heap p1c0B
      have B8 : RS wl1 encSVector (Value.slice p1c0v0a p1c0v0n p1c0v0c) p1c0.places := p1c0v0R.ext i1_X
      have B9 : RS wl1 encSVector (Value.slice p1c0v1a p1c0v1n p1c0v1c) p1c0.before := p1c0v1R.ext i1_X
      have B10 : RS wl1 encF_f32 (Value.slice p1c0v2a p1c0v2n p1c0v2c) p1c0.weights := p1c0v2R.ext i1_X
      have B11 : RS wl1 encSRod (Value.slice p1c0v3a p1c0v3n p1c0v3c) p1c0.rods := p1c0v3R.ext i1_X
      refine da_op rfl (d_clv (vs := [.agg #[.int .i64 m3.a, .int .i64 m3.b, .float .f32 e4_r2]]) (cap := [.pointer (some ⟨p1c0b, p1c0o, none⟩)]) en145 rfl (ac rfl rfl) ?_)
      refine (c145 m3 p1c0 e4_r2 p1c0b p1c0o p1c0c p1c0T p1c0f p1c0v0a p1c0v0n p1c0v0c p1c0v1a p1c0v1n p1c0v1c p1c0v2a p1c0v2n p1c0v2c p1c0v3a p1c0v3n p1c0v3c m6 wl1 hm6 e4_h2 B8 B9 B10 B11 B7 (sub_take (vs := #[(Value.slice p1c0v0a p1c0v0n p1c0v0c), (Value.slice p1c0v1a p1c0v1n p1c0v1c), (Value.slice p1c0v2a p1c0v2n p1c0v2c), (Value.slice p1c0v3a p1c0v3n p1c0v3c)]) (us := #[(Value.slice p1c0v0a p1c0v0n p1c0v0c), (Value.slice p1c0v1a p1c0v1n p1c0v1c), (Value.slice p1c0v2a p1c0v2n p1c0v2c), (Value.slice p1c0v3a p1c0v3n p1c0v3c)]) (i := 0) p1c0P rfl (Nat.le_of_ble_eq_true rfl))).mono ?_
      rintro _ w12 ⟨rfl, E12⟩
      refine ⟨_, rfl, ?_⟩
      have X13 : Ext w w12 := i1_X.trans E12
      refine da_nil ?_
      refine W_cond (b := m6) rfl (fun hc14 => ?_) (fun hc14 => ?_)
      · skip
        replace hr := bif_t hr hc14
        refine W_seq ?_
        refine W_region rfl ?_
        refine da_op rfl (d_mv (v := .int .i64 s1) rfl ?_)
        refine da_op rfl (d_as (v := .int .i64 s1) rfl ?_)
        refine da_nil ?_
        refine W_ret ?_
        obtain rfl := Option.some.inj hr
        exact ⟨_, rfl, rfl, rfl, X13⟩
      · skip
        replace hr := bif_f hr hc14
        refine W_skip ?_
        refine W_region rfl ?_
        refine da_op rfl (d_iarith i1_S8 rfl (.inl ⟨rfl, rfl⟩) ?_)
        refine da_op rfl (d_mv (v := .int .i64 (IntKind.i64.wrap (s1 + 1))) rfl ?_)
        refine da_nil ?_
        obtain rfl := Option.some.inj hr
        exact ⟨_, rfl, ⟨rfl, i1_S0, i1_S1, i1_S7, X13⟩⟩
    · skip
      replace hr := bif_f hr hc2
      refine W_exit ?_
      obtain rfl := Option.some.inj hr
      exact ⟨_, rfl, rfl, i1_X⟩
  · skip
    intro ex σx1 wx1 hq
    rcases m1 with m1 | m1
    · skip
      obtain ⟨rfl, q1_0_X⟩ := hq
      refine W_seq ?_
      refine W_region rfl ?_
      refine da_op rfl (d_as (v := .int .i64 (-1)) rfl ?_)
      refine da_nil ?_
      refine W_ret ?_
      obtain rfl := Option.some.inj hr
      refine ⟨_, res1 (rv_tmp rfl), ?_⟩
      exact ⟨rfl, q1_0_X⟩
    · skip
      obtain ⟨rfl, q1_1_S4, q1_1_X⟩ := hq
      obtain rfl := Option.some.inj hr
      refine ⟨_, res1 (rv_tmp q1_1_S4), ?_⟩
      exact ⟨rfl, q1_1_X⟩
set_option maxHeartbeats 4000000 in
theorem c144_f145 (p0 : List SRod) (p1c0 : SChain) (p0a : Option Addr) (p0n : Nat) (p0c : Nat) (p1c0b p1c0o : Nat) (p1c0c : Array Value) (p1c0T : TypeId) (p1c0f : Nat × Nat) (p1c0v0a : Option Addr) (p1c0v0n : Nat) (p1c0v0c : Nat) (p1c0v1a : Option Addr) (p1c0v1n : Nat) (p1c0v1c : Nat) (p1c0v2a : Option Addr) (p1c0v2n : Nat) (p1c0v2c : Nat) (p1c0v3a : Option Addr) (p1c0v3n : Nat) (p1c0v3c : Nat) (r : Bool) (w : World) (hr : M.slices_ContainsFunc___impl_Rod_impl_Rod__f145 p0 p1c0 = some r) (p0R : RS w encSRod (Value.slice p0a p0n p0c) p0) (p1c0v0R : RS w encSVector (Value.slice p1c0v0a p1c0v0n p1c0v0c) p1c0.places) (p1c0v1R : RS w encSVector (Value.slice p1c0v1a p1c0v1n p1c0v1c) p1c0.before) (p1c0v2R : RS w encF_f32 (Value.slice p1c0v2a p1c0v2n p1c0v2c) p1c0.weights) (p1c0v3R : RS w encSRod (Value.slice p1c0v3a p1c0v3n p1c0v3c) p1c0.rods) (p1c0B : w.heap[p1c0b]? = some (.cells p1c0c p1c0T p1c0f)) (p1c0P : (p1c0c.toList.drop p1c0o).take 4 = [(Value.slice p1c0v0a p1c0v0n p1c0v0c), (Value.slice p1c0v1a p1c0v1n p1c0v1c), (Value.slice p1c0v2a p1c0v2n p1c0v2c), (Value.slice p1c0v3a p1c0v3n p1c0v3c)]) :
    Calls Tryd.prog 144 #[(Value.slice p0a p0n p0c), .func (.func 145) #[] #[.pointer (some ⟨p1c0b, p1c0o, none⟩)]] w fun e w' => e = .returned (.bool r) ∧ Ext w w' := by
  refine calls_of_W Tryd.func144 rfl (Nat.le_of_ble_eq_true rfl) ?_
  refine W_seq ?_
  refine W_region rfl ?_
  refine da_op rfl (d_as (v := .bool false) rfl ?_)
  refine da_nil ?_
  refine W_seq ?_
  refine W_region rfl ?_
  refine da_op rfl (d_mv (v := (Value.slice p0a p0n p0c)) rfl ?_)
  refine da_op rfl (d_mv (v := .func (.func 145) #[] #[.pointer (some ⟨p1c0b, p1c0o, none⟩)]) rfl ?_)
  obtain ⟨m1, hm1, hr⟩ := bind_out hr
  refine da_op rfl (d_cl (vs := [(Value.slice p0a p0n p0c), .func (.func 145) #[] #[.pointer (some ⟨p1c0b, p1c0o, none⟩)]]) en181 (ac rfl (ac rfl rfl)) rfl ?_)
  refine (c181_f145 p0 p1c0 p0a p0n p0c p1c0b p1c0o p1c0c p1c0T p1c0f p1c0v0a p1c0v0n p1c0v0c p1c0v1a p1c0v1n p1c0v1c p1c0v2a p1c0v2n p1c0v2c p1c0v3a p1c0v3n p1c0v3c m1 w hm1 p0R p1c0v0R p1c0v1R p1c0v2R p1c0v3R p1c0B (sub_take (vs := #[(Value.slice p1c0v0a p1c0v0n p1c0v0c), (Value.slice p1c0v1a p1c0v1n p1c0v1c), (Value.slice p1c0v2a p1c0v2n p1c0v2c), (Value.slice p1c0v3a p1c0v3n p1c0v3c)]) (us := #[(Value.slice p1c0v0a p1c0v0n p1c0v0c), (Value.slice p1c0v1a p1c0v1n p1c0v1c), (Value.slice p1c0v2a p1c0v2n p1c0v2c), (Value.slice p1c0v3a p1c0v3n p1c0v3c)]) (i := 0) p1c0P rfl (Nat.le_of_ble_eq_true rfl))).mono ?_
  rintro _ w2 ⟨rfl, E2⟩
  refine ⟨_, rfl, ?_⟩
  have X3 : Ext w w2 := (Ext.refl w).trans E2
  refine da_op rfl (d_icmp cGeq rfl rfl ?_)
  refine da_op rfl (d_as (v := .bool (icmp .geq m1 0)) rfl ?_)
  refine da_nil ?_
  refine W_ret ?_
  obtain rfl := Option.some.inj hr
  refine ⟨_, res1 (rv_tmp rfl), ?_⟩
  exact ⟨rfl, X3⟩
set_option maxHeartbeats 4000000 in
theorem c88 (p0 : SChain) (p0v0a : Option Addr) (p0v0n : Nat) (p0v0c : Nat) (p0v1a : Option Addr) (p0v1n : Nat) (p0v1c : Nat) (p0v2a : Option Addr) (p0v2n : Nat) (p0v2c : Nat) (p0v3a : Option Addr) (p0v3n : Nat) (p0v3c : Nat) (r : Bool) (w : World) (hr : M.impl_ValidChain p0 = some r) (p0v0R : RS w encSVector (Value.slice p0v0a p0v0n p0v0c) p0.places) (p0v1R : RS w encSVector (Value.slice p0v1a p0v1n p0v1c) p0.before) (p0v2R : RS w encF_f32 (Value.slice p0v2a p0v2n p0v2c) p0.weights) (p0v3R : RS w encSRod (Value.slice p0v3a p0v3n p0v3c) p0.rods) :
    Calls Tryd.prog 88 #[.agg #[(Value.slice p0v0a p0v0n p0v0c), (Value.slice p0v1a p0v1n p0v1c), (Value.slice p0v2a p0v2n p0v2c), (Value.slice p0v3a p0v3n p0v3c)]] w fun e w' => e = .returned (.bool r) ∧ Ext w w' := by
  refine calls_of_W Tryd.func88 rfl (Nat.le_of_ble_eq_true rfl) ?_
  refine W_seq ?_
  refine W_region rfl ?_
  refine da_op rfl (d_box (cs := #[(Value.slice p0v0a p0v0n p0v0c), (Value.slice p0v1a p0v1n p0v1c), (Value.slice p0v2a p0v2n p0v2c), (Value.slice p0v3a p0v3n p0v3c)]) rfl fun w1 B1 E1 => ?_)
  have own2 : w.heap.size ≤ w.heap.size := Nat.le_trans (Ext.refl w).size (Nat.le_refl _)
  have X3 : Ext w w1 := (Ext.refl w).trans E1
  refine da_op rfl (d_as (v := .bool false) rfl ?_)
  refine da_nil ?_
  refine W_seq ?_
  refine W_region rfl ?_
  refine da_op rfl (d_fieldAddr rfl (fa69_0 _ _) ?_)
  refine da_op rfl (d_load (v := (Value.slice p0v0a p0v0n p0v0c)) rfl agg66 B1 rfl ?_)
  have B4 : RS w1 encSVector (Value.slice p0v0a p0v0n p0v0c) p0.places := p0v0R.ext X3
  refine da_op rfl (d_len (e := encSVector) un66 rfl B4 ?_)
  refine da_op rfl (d_as (v := .int .i64 ((p0.places).length : Int)) rfl ?_)
  refine da_nil ?_
  refine W_seq ?_
  refine W_seq ?_
  obtain ⟨m5, hm5, hr⟩ := letv_out hr
  refine W_cut (fun σ' w' => σ' 28 = .bool m5 ∧ Ext w1 w') rfl ?_ ?_
  · skip
    have hr := hm5
    refine da_op rfl (d_mv (v := .int .i64 ((p0.places).length : Int)) rfl ?_)
    refine da_op rfl (d_icmp cGtr rfl rfl ?_)
    refine da_op rfl (d_mv (v := .bool (icmp .gtr ((p0.places).length : Int) 24)) rfl ?_)
    rcases Bool.eq_false_or_eq_true (icmp .gtr ((p0.places).length : Int) 24) with hc6 | hc6
    · skip
      replace hr := bif_t hr hc6
      refine da_off rfl (Eq.trans (show sl _ _ _ = .bool (icmp .gtr ((p0.places).length : Int) 24) from rfl) (congrArg Value.bool hc6)) (by decide) ?_
      refine da_off rfl (Eq.trans (show sl _ _ _ = .bool (icmp .gtr ((p0.places).length : Int) 24) from rfl) (congrArg Value.bool hc6)) (by decide) ?_
      refine da_off rfl (Eq.trans (show sl _ _ _ = .bool (icmp .gtr ((p0.places).length : Int) 24) from rfl) (congrArg Value.bool hc6)) (by decide) ?_
      refine da_off rfl (Eq.trans (show sl _ _ _ = .bool (icmp .gtr ((p0.places).length : Int) 24) from rfl) (congrArg Value.bool hc6)) (by decide) ?_
      refine da_off rfl (Eq.trans (show sl _ _ _ = .bool (icmp .gtr ((p0.places).length : Int) 24) from rfl) (congrArg Value.bool hc6)) (by decide) ?_
      refine da_op rfl (d_pick (b := true) (Eq.trans (show ev _ _ = .bool (icmp .gtr ((p0.places).length : Int) 24) from rfl) (congrArg Value.bool hc6)) ?_)
      refine da_op rfl (d_mv (v := .bool true) rfl ?_)
      refine da_off rfl rfl (by decide) ?_
      refine da_off rfl rfl (by decide) ?_
      refine da_off rfl rfl (by decide) ?_
      refine da_off rfl rfl (by decide) ?_
      refine da_off rfl rfl (by decide) ?_
      refine da_op rfl (d_pick (b := true) rfl ?_)
      refine da_op rfl (d_mv (v := .bool true) rfl ?_)
      refine da_off rfl rfl (by decide) ?_
      refine da_off rfl rfl (by decide) ?_
      refine da_off rfl rfl (by decide) ?_
      refine da_off rfl rfl (by decide) ?_
      refine da_op rfl (d_pick (b := true) rfl ?_)
      refine da_nil ?_
      subst hr
      exact ⟨rfl, (Ext.refl w1)⟩
    · skip
      replace hr := bif_f hr hc6
      refine da_on rfl (Eq.trans (show sl _ _ _ = .bool (icmp .gtr ((p0.places).length : Int) 24) from rfl) (congrArg Value.bool hc6)) (d_fieldAddr rfl (fa69_1 _ _) ?_)
      refine da_on rfl (Eq.trans (show sl _ _ _ = .bool (icmp .gtr ((p0.places).length : Int) 24) from rfl) (congrArg Value.bool hc6)) (d_load (v := (Value.slice p0v1a p0v1n p0v1c)) rfl agg66 B1 rfl ?_)
      have B7 : RS w1 encSVector (Value.slice p0v1a p0v1n p0v1c) p0.before := p0v1R.ext X3
      refine da_on rfl (Eq.trans (show sl _ _ _ = .bool (icmp .gtr ((p0.places).length : Int) 24) from rfl) (congrArg Value.bool hc6)) (d_len (e := encSVector) un66 rfl B7 ?_)
      refine da_on rfl (Eq.trans (show sl _ _ _ = .bool (icmp .gtr ((p0.places).length : Int) 24) from rfl) (congrArg Value.bool hc6)) (d_mv (v := .int .i64 ((p0.places).length : Int)) rfl ?_)
      refine da_on rfl (Eq.trans (show sl _ _ _ = .bool (icmp .gtr ((p0.places).length : Int) 24) from rfl) (congrArg Value.bool hc6)) (d_icmp cNeq rfl rfl ?_)
      refine da_op rfl (d_pick (b := false) (Eq.trans (show ev _ _ = .bool (icmp .gtr ((p0.places).length : Int) 24) from rfl) (congrArg Value.bool hc6)) ?_)
      refine da_op rfl (d_mv (v := .bool (icmp .neq ((p0.before).length : Int) ((p0.places).length : Int))) rfl ?_)
      rcases Bool.eq_false_or_eq_true (icmp .neq ((p0.before).length : Int) ((p0.places).length : Int)) with hc8 | hc8
      · skip
        replace hr := bif_t hr hc8
        refine da_off rfl (Eq.trans (show sl _ _ _ = .bool (icmp .neq ((p0.before).length : Int) ((p0.places).length : Int)) from rfl) (congrArg Value.bool hc8)) (by decide) ?_
        refine da_off rfl (Eq.trans (show sl _ _ _ = .bool (icmp .neq ((p0.before).length : Int) ((p0.places).length : Int)) from rfl) (congrArg Value.bool hc8)) (by decide) ?_
        refine da_off rfl (Eq.trans (show sl _ _ _ = .bool (icmp .neq ((p0.before).length : Int) ((p0.places).length : Int)) from rfl) (congrArg Value.bool hc8)) (by decide) ?_
        refine da_off rfl (Eq.trans (show sl _ _ _ = .bool (icmp .neq ((p0.before).length : Int) ((p0.places).length : Int)) from rfl) (congrArg Value.bool hc8)) (by decide) ?_
        refine da_off rfl (Eq.trans (show sl _ _ _ = .bool (icmp .neq ((p0.before).length : Int) ((p0.places).length : Int)) from rfl) (congrArg Value.bool hc8)) (by decide) ?_
        refine da_op rfl (d_pick (b := true) (Eq.trans (show ev _ _ = .bool (icmp .neq ((p0.before).length : Int) ((p0.places).length : Int)) from rfl) (congrArg Value.bool hc8)) ?_)
        refine da_op rfl (d_mv (v := .bool true) rfl ?_)
        refine da_off rfl rfl (by decide) ?_
        refine da_off rfl rfl (by decide) ?_
        refine da_off rfl rfl (by decide) ?_
        refine da_off rfl rfl (by decide) ?_
        refine da_op rfl (d_pick (b := true) rfl ?_)
        refine da_nil ?_
        subst hr
        exact ⟨rfl, (Ext.refl w1)⟩
      · skip
        replace hr := bif_f hr hc8
        refine da_on rfl (Eq.trans (show sl _ _ _ = .bool (icmp .neq ((p0.before).length : Int) ((p0.places).length : Int)) from rfl) (congrArg Value.bool hc8)) (d_fieldAddr rfl (fa69_2 _ _) ?_)
        refine da_on rfl (Eq.trans (show sl _ _ _ = .bool (icmp .neq ((p0.before).length : Int) ((p0.places).length : Int)) from rfl) (congrArg Value.bool hc8)) (d_load (v := (Value.slice p0v2a p0v2n p0v2c)) rfl agg53 B1 rfl ?_)
        have B9 : RS w1 encF_f32 (Value.slice p0v2a p0v2n p0v2c) p0.weights := p0v2R.ext X3
        refine da_on rfl (Eq.trans (show sl _ _ _ = .bool (icmp .neq ((p0.before).length : Int) ((p0.places).length : Int)) from rfl) (congrArg Value.bool hc8)) (d_len (e := encF_f32) un53 rfl B9 ?_)
        refine da_on rfl (Eq.trans (show sl _ _ _ = .bool (icmp .neq ((p0.before).length : Int) ((p0.places).length : Int)) from rfl) (congrArg Value.bool hc8)) (d_mv (v := .int .i64 ((p0.places).length : Int)) rfl ?_)
        refine da_on rfl (Eq.trans (show sl _ _ _ = .bool (icmp .neq ((p0.before).length : Int) ((p0.places).length : Int)) from rfl) (congrArg Value.bool hc8)) (d_icmp cNeq rfl rfl ?_)
        refine da_op rfl (d_pick (b := false) (Eq.trans (show ev _ _ = .bool (icmp .neq ((p0.before).length : Int) ((p0.places).length : Int)) from rfl) (congrArg Value.bool hc8)) ?_)
        refine da_op rfl (d_mv (v := .bool (icmp .neq ((p0.weights).length : Int) ((p0.places).length : Int))) rfl ?_)
        rcases Bool.eq_false_or_eq_true (icmp .neq ((p0.weights).length : Int) ((p0.places).length : Int)) with hc10 | hc10
        · skip
          replace hr := bif_t hr hc10
          refine da_off rfl (Eq.trans (show sl _ _ _ = .bool (icmp .neq ((p0.weights).length : Int) ((p0.places).length : Int)) from rfl) (congrArg Value.bool hc10)) (by decide) ?_
          refine da_off rfl (Eq.trans (show sl _ _ _ = .bool (icmp .neq ((p0.weights).length : Int) ((p0.places).length : Int)) from rfl) (congrArg Value.bool hc10)) (by decide) ?_
          refine da_off rfl (Eq.trans (show sl _ _ _ = .bool (icmp .neq ((p0.weights).length : Int) ((p0.places).length : Int)) from rfl) (congrArg Value.bool hc10)) (by decide) ?_
          refine da_off rfl (Eq.trans (show sl _ _ _ = .bool (icmp .neq ((p0.weights).length : Int) ((p0.places).length : Int)) from rfl) (congrArg Value.bool hc10)) (by decide) ?_
          refine da_op rfl (d_pick (b := true) (Eq.trans (show ev _ _ = .bool (icmp .neq ((p0.weights).length : Int) ((p0.places).length : Int)) from rfl) (congrArg Value.bool hc10)) ?_)
          refine da_nil ?_
          subst hr
          exact ⟨rfl, (Ext.refl w1)⟩
        · skip
          replace hr := bif_f hr hc10
          refine da_on rfl (Eq.trans (show sl _ _ _ = .bool (icmp .neq ((p0.weights).length : Int) ((p0.places).length : Int)) from rfl) (congrArg Value.bool hc10)) (d_fieldAddr rfl (fa69_3 _ _) ?_)
          refine da_on rfl (Eq.trans (show sl _ _ _ = .bool (icmp .neq ((p0.weights).length : Int) ((p0.places).length : Int)) from rfl) (congrArg Value.bool hc10)) (d_load (v := (Value.slice p0v3a p0v3n p0v3c)) rfl agg67 B1 rfl ?_)
          have B11 : RS w1 encSRod (Value.slice p0v3a p0v3n p0v3c) p0.rods := p0v3R.ext X3
          refine da_on rfl (Eq.trans (show sl _ _ _ = .bool (icmp .neq ((p0.weights).length : Int) ((p0.places).length : Int)) from rfl) (congrArg Value.bool hc10)) (d_len (e := encSRod) un67 rfl B11 ?_)
          refine da_on rfl (Eq.trans (show sl _ _ _ = .bool (icmp .neq ((p0.weights).length : Int) ((p0.places).length : Int)) from rfl) (congrArg Value.bool hc10)) (d_icmp cGtr rfl rfl ?_)
          refine da_op rfl (d_pick (b := false) (Eq.trans (show ev _ _ = .bool (icmp .neq ((p0.weights).length : Int) ((p0.places).length : Int)) from rfl) (congrArg Value.bool hc10)) ?_)
          refine da_nil ?_
          subst hr
          exact ⟨rfl, (Ext.refl w1)⟩
  · skip
    rintro σ5 w5 o5 ⟨s28_5, E5⟩
    have s1_5 : σ5 1 = .pointer (some ⟨w.heap.size, 0, none⟩) := (o5 1 rfl).trans rfl
    have X12 : Ext w w5 := X3.trans E5
    refine W_cond (b := m5) s28_5 (fun hc13 => ?_) (fun hc13 => ?_)
    · skip
      replace hr := bif_t hr hc13
      refine W_seq ?_
      refine W_region rfl ?_
      refine da_op rfl (d_as (v := .bool false) rfl ?_)
      refine da_nil ?_
      refine W_ret ?_
      obtain rfl := Option.some.inj hr
      refine ⟨_, res1 (rv_tmp rfl), ?_⟩
      exact ⟨rfl, X12⟩
    · skip
      replace hr := bif_f hr hc13
      refine W_skip ?_
      refine W_seq ?_
      refine W_seq ?_
      have B15 : w5.heap[w.heap.size]? = some (.cells #[(Value.slice p0v0a p0v0n p0v0c), (Value.slice p0v1a p0v1n p0v1c), (Value.slice p0v2a p0v2n p0v2c), (Value.slice p0v3a p0v3n p0v3c)] 69 (0, 0)) := E5.heap B1
      obtain ⟨m14, hm14, hr⟩ := bind_out hr
      refine W_cut (fun σ' w' => σ' 41 = .bool m14 ∧ Ext w5 w') rfl ?_ ?_
      · skip
        have hr := hm14
        refine da_op rfl (d_fieldAddr s1_5 (fa69_0 _ _) ?_)
        refine da_op rfl (d_load (v := (Value.slice p0v0a p0v0n p0v0c)) rfl agg66 B15 rfl ?_)
        obtain ⟨m16, hm16, hr⟩ := bind_out hr
        have B17 : RS w5 encSVector (Value.slice p0v0a p0v0n p0v0c) p0.places := p0v0R.ext X12
        refine da_op rfl (d_cl (vs := [(Value.slice p0v0a p0v0n p0v0c), .func (.func 141) #[] #[]]) en140 (ac rfl (ac rfl rfl)) rfl ?_)
        refine (c140_f141 p0.places p0v0a p0v0n p0v0c m16 w5 hm16 B17).mono ?_
        rintro _ w18 ⟨rfl, E18⟩
        refine ⟨_, rfl, ?_⟩
        have X19 : Ext w w18 := X12.trans E18
        refine da_op rfl (d_mv (v := .bool m16) rfl ?_)
        rcases Bool.eq_false_or_eq_true m16 with hc20 | hc20
        · skip
          replace hr := bif_t hr hc20
          refine da_off rfl (Eq.trans (show sl _ _ _ = .bool m16 from rfl) (congrArg Value.bool hc20)) (by decide) ?_
          refine da_off rfl (Eq.trans (show sl _ _ _ = .bool m16 from rfl) (congrArg Value.bool hc20)) (by decide) ?_
          refine da_off rfl (Eq.trans (show sl _ _ _ = .bool m16 from rfl) (congrArg Value.bool hc20)) (by decide) ?_
          refine da_op rfl (d_pick (b := true) (Eq.trans (show ev _ _ = .bool m16 from rfl) (congrArg Value.bool hc20)) ?_)
          refine da_op rfl (d_mv (v := .bool true) rfl ?_)
          refine da_off rfl rfl (by decide) ?_
          refine da_off rfl rfl (by decide) ?_
          refine da_off rfl rfl (by decide) ?_
          refine da_op rfl (d_pick (b := true) rfl ?_)
          refine da_nil ?_
          obtain rfl := Option.some.inj hr
          exact ⟨rfl, (Ext.trans (Ext.refl w5) E18)⟩
        · skip
          replace hr := bif_f hr hc20
          refine da_on rfl (Eq.trans (show sl _ _ _ = .bool m16 from rfl) (congrArg Value.bool hc20)) (d_fieldAddr s1_5 (fa69_1 _ _) ?_)
          have B21 : w18.heap[w.heap.size]? = some (.cells #[(Value.slice p0v0a p0v0n p0v0c), (Value.slice p0v1a p0v1n p0v1c), (Value.slice p0v2a p0v2n p0v2c), (Value.slice p0v3a p0v3n p0v3c)] 69 (0, 0)) := E18.heap B15
          refine da_on rfl (Eq.trans (show sl _ _ _ = .bool m16 from rfl) (congrArg Value.bool hc20)) (d_load (v := (Value.slice p0v1a p0v1n p0v1c)) rfl agg66 B21 rfl ?_)
          obtain ⟨m22, hm22, hr⟩ := bind_out hr
          have B23 : RS w18 encSVector (Value.slice p0v1a p0v1n p0v1c) p0.before := p0v1R.ext X19
          refine da_on rfl (Eq.trans (show sl _ _ _ = .bool m16 from rfl) (congrArg Value.bool hc20)) (d_cl (vs := [(Value.slice p0v1a p0v1n p0v1c), .func (.func 141) #[] #[]]) en140 (ac rfl (ac rfl rfl)) rfl ?_)
          refine (c140_f141 p0.before p0v1a p0v1n p0v1c m22 w18 hm22 B23).mono ?_
          rintro _ w24 ⟨rfl, E24⟩
          refine ⟨_, rfl, ?_⟩
          have X25 : Ext w w24 := X19.trans E24
          refine da_op rfl (d_pick (b := false) (Eq.trans (show ev _ _ = .bool m16 from rfl) (congrArg Value.bool hc20)) ?_)
          refine da_op rfl (d_mv (v := .bool m22) rfl ?_)
          rcases Bool.eq_false_or_eq_true m22 with hc26 | hc26
          · skip
            replace hr := bif_t hr hc26
            refine da_off rfl (Eq.trans (show sl _ _ _ = .bool m22 from rfl) (congrArg Value.bool hc26)) (by decide) ?_
            refine da_off rfl (Eq.trans (show sl _ _ _ = .bool m22 from rfl) (congrArg Value.bool hc26)) (by decide) ?_
            refine da_off rfl (Eq.trans (show sl _ _ _ = .bool m22 from rfl) (congrArg Value.bool hc26)) (by decide) ?_
            refine da_op rfl (d_pick (b := true) (Eq.trans (show ev _ _ = .bool m22 from rfl) (congrArg Value.bool hc26)) ?_)
            refine da_nil ?_
            obtain rfl := Option.some.inj hr
            exact ⟨rfl, (Ext.trans (Ext.trans (Ext.refl w5) E18) E24)⟩
          · skip
            replace hr := bif_f hr hc26
            refine da_on rfl (Eq.trans (show sl _ _ _ = .bool m22 from rfl) (congrArg Value.bool hc26)) (d_fieldAddr s1_5 (fa69_2 _ _) ?_)
            have B27 : w24.heap[w.heap.size]? = some (.cells #[(Value.slice p0v0a p0v0n p0v0c), (Value.slice p0v1a p0v1n p0v1c), (Value.slice p0v2a p0v2n p0v2c), (Value.slice p0v3a p0v3n p0v3c)] 69 (0, 0)) := E24.heap B21
            refine da_on rfl (Eq.trans (show sl _ _ _ = .bool m22 from rfl) (congrArg Value.bool hc26)) (d_load (v := (Value.slice p0v2a p0v2n p0v2c)) rfl agg53 B27 rfl ?_)
            obtain ⟨m28, hm28, hr⟩ := bind_out hr
            have B29 : RS w24 encF_f32 (Value.slice p0v2a p0v2n p0v2c) p0.weights := p0v2R.ext X25
            refine da_on rfl (Eq.trans (show sl _ _ _ = .bool m22 from rfl) (congrArg Value.bool hc26)) (d_cl (vs := [(Value.slice p0v2a p0v2n p0v2c), .func (.func 143) #[] #[]]) en142 (ac rfl (ac rfl rfl)) rfl ?_)
            refine (c142_f143 p0.weights p0v2a p0v2n p0v2c m28 w24 hm28 B29).mono ?_
            rintro _ w30 ⟨rfl, E30⟩
            refine ⟨_, rfl, ?_⟩
            have X31 : Ext w w30 := X25.trans E30
            refine da_op rfl (d_pick (b := false) (Eq.trans (show ev _ _ = .bool m22 from rfl) (congrArg Value.bool hc26)) ?_)
            refine da_nil ?_
            obtain rfl := Option.some.inj hr
            exact ⟨rfl, (Ext.trans (Ext.trans (Ext.trans (Ext.refl w5) E18) E24) E30)⟩
      · skip
        rintro σ14 w14 o14 ⟨s41_14, E14⟩
        have s1_14 : σ14 1 = .pointer (some ⟨w.heap.size, 0, none⟩) := (o14 1 rfl).trans s1_5
        have X32 : Ext w w14 := X12.trans E14
        refine W_cond (b := m14) s41_14 (fun hc33 => ?_) (fun hc33 => ?_)
        · skip
          replace hr := bif_t hr hc33
          refine W_seq ?_
          refine W_region rfl ?_
          refine da_op rfl (d_as (v := .bool false) rfl ?_)
          refine da_nil ?_
          refine W_ret ?_
          obtain rfl := Option.some.inj hr
          refine ⟨_, res1 (rv_tmp rfl), ?_⟩
          exact ⟨rfl, X32⟩
        · skip
          replace hr := bif_f hr hc33
          refine W_skip ?_
          refine W_seq ?_
          refine W_region rfl ?_
          refine da_op rfl (d_fieldAddr s1_14 (fa69_3 _ _) ?_)
          have B34 : w14.heap[w.heap.size]? = some (.cells #[(Value.slice p0v0a p0v0n p0v0c), (Value.slice p0v1a p0v1n p0v1c), (Value.slice p0v2a p0v2n p0v2c), (Value.slice p0v3a p0v3n p0v3c)] 69 (0, 0)) := E14.heap B15
          refine da_op rfl (d_load (v := (Value.slice p0v3a p0v3n p0v3c)) rfl agg67 B34 rfl ?_)
          refine da_op rfl (d_fn (vs := [.pointer (some ⟨w.heap.size, 0, none⟩)]) (ac s1_14 rfl) ?_)
          obtain ⟨m35, hm35, hr⟩ := bind_out hr
          have B36 : RS w14 encSRod (Value.slice p0v3a p0v3n p0v3c) p0.rods := p0v3R.ext X32
          have B37 : RS w14 encSVector (Value.slice p0v0a p0v0n p0v0c) p0.places := p0v0R.ext X32
          have B38 : RS w14 encSVector (Value.slice p0v1a p0v1n p0v1c) p0.before := p0v1R.ext X32
          have B39 : RS w14 encF_f32 (Value.slice p0v2a p0v2n p0v2c) p0.weights := p0v2R.ext X32
          refine da_op rfl (d_cl (vs := [(Value.slice p0v3a p0v3n p0v3c), .func (.func 145) #[] #[.pointer (some ⟨w.heap.size, 0, none⟩)]]) en144 (ac rfl (ac rfl rfl)) rfl ?_)
          refine (c144_f145 p0.rods (⟨p0.places, p0.before, p0.weights, p0.rods⟩ : SChain) p0v3a p0v3n p0v3c w.heap.size 0 #[(Value.slice p0v0a p0v0n p0v0c), (Value.slice p0v1a p0v1n p0v1c), (Value.slice p0v2a p0v2n p0v2c), (Value.slice p0v3a p0v3n p0v3c)] 69 (0, 0) p0v0a p0v0n p0v0c p0v1a p0v1n p0v1c p0v2a p0v2n p0v2c p0v3a p0v3n p0v3c m35 w14 hm35 B36 B37 B38 B39 B36 B34 rfl).mono ?_
          rintro _ w40 ⟨rfl, E40⟩
          refine ⟨_, rfl, ?_⟩
          have X41 : Ext w w40 := X32.trans E40
          refine da_op rfl (d_not rfl ?_)
          refine da_op rfl (d_as (v := .bool (!m35)) rfl ?_)
          refine da_nil ?_
          refine W_ret ?_
          obtain rfl := Option.some.inj hr
          refine ⟨_, res1 (rv_tmp rfl), ?_⟩
          exact ⟨rfl, X41⟩
set_option maxHeartbeats 4000000 in
theorem c59 (p0 : Int) (r : List UInt8) (w : World) (hr : M.impl_Decimal p0 = some r) (t_T10 : T10 Tryd.prog w) :
    Calls Tryd.prog 59 #[.int .i64 p0] w fun e w' => e = .returned (.string (bs r)) ∧ Ext w w' := by
  refine calls_of_W Tryd.func59 rfl (Nat.le_of_ble_eq_true rfl) ?_
  refine W_seq ?_
  refine W_region rfl ?_
  refine da_op rfl (d_as (v := .string (bs ([] : List UInt8))) rfl ?_)
  refine da_nil ?_
  refine W_seq ?_
  refine W_region rfl ?_
  refine da_op rfl (d_mv (v := .int .i64 p0) rfl ?_)
  obtain ⟨m2, hm2, hr⟩ := bind_out hr
  refine da_op rfl (d_cl (vs := [.int .i64 p0, .int .i64 10]) en115 (ac rfl (ac rfl rfl)) rfl ?_)
  refine (sh115 hm2 (t_T10.ext (Ext.refl w))).mono ?_
  rintro _ w1 ⟨rfl, E1⟩
  refine ⟨_, rfl, ?_⟩
  have X3 : Ext w w1 := (Ext.refl w).trans E1
  refine da_op rfl (d_as (v := .string (bs m2)) rfl ?_)
  refine da_nil ?_
  refine W_ret ?_
  obtain rfl := Option.some.inj hr
  refine ⟨_, res1 (rv_tmp rfl), ?_⟩
  exact ⟨rfl, X3⟩
set_option maxHeartbeats 4000000 in
theorem c99 (p0 : List (List UInt8)) (p0a : Option Addr) (p0n : Nat) (p0c : Nat) (r : List UInt8) (w : World) (hr : M.impl_joined p0 = some r) (p0R : RS w encS (Value.slice p0a p0n p0c) p0) :
    Calls Tryd.prog 99 #[(Value.slice p0a p0n p0c)] w fun e w' => e = .returned (.string (bs r)) ∧ Ext w w' := by
  refine calls_of_W Tryd.func99 rfl (Nat.le_of_ble_eq_true rfl) ?_
  refine W_seq ?_
  refine W_region rfl ?_
  refine da_op rfl (d_as (v := .string (bs ([] : List UInt8))) rfl ?_)
  refine da_nil ?_
  refine W_seq ?_
  refine W_seq ?_
  refine W_region rfl ?_
  refine da_op rfl (d_mv (v := (Value.slice p0a p0n p0c)) rfl ?_)
  refine da_op rfl (d_len (e := encS) un34 rfl p0R ?_)
  refine da_op rfl (d_icmp cEql rfl rfl ?_)
  refine da_nil ?_
  refine W_cond (b := (icmp .eql ((p0).length : Int) 0)) rfl (fun hc1 => ?_) (fun hc1 => ?_)
  · skip
    replace hr := bif_t hr hc1
    refine W_seq ?_
    refine W_region rfl ?_
    refine da_op rfl (d_as (v := .string (bs ([110, 111, 110, 101] : List UInt8))) rfl ?_)
    refine da_nil ?_
    refine W_ret ?_
    obtain rfl := Option.some.inj hr
    refine ⟨_, res1 (rv_tmp rfl), ?_⟩
    exact ⟨rfl, (Ext.refl w)⟩
  · skip
    replace hr := bif_f hr hc1
    refine W_skip ?_
    refine W_seq ?_
    refine W_region rfl ?_
    refine da_op rfl (d_mv (v := (Value.slice p0a p0n p0c)) rfl ?_)
    obtain ⟨m3, hm3, hr⟩ := bind_out hr
    refine da_op rfl (d_cl (vs := [(Value.slice p0a p0n p0c), .string (bs ([44] : List UInt8))]) en90 (ac rfl (ac rfl rfl)) rfl ?_)
    refine (sh90 hm3 p0R).mono ?_
    rintro _ w2 ⟨rfl, E2⟩
    refine ⟨_, rfl, ?_⟩
    have X4 : Ext w w2 := (Ext.refl w).trans E2
    refine da_op rfl (d_as (v := .string (bs m3)) rfl ?_)
    refine da_nil ?_
    refine W_ret ?_
    obtain rfl := Option.some.inj hr
    refine ⟨_, res1 (rv_tmp rfl), ?_⟩
    exact ⟨rfl, X4⟩
set_option maxHeartbeats 4000000 in
theorem c45 (p0 : List Int) (p0a : Option Addr) (p0n : Nat) (p0c : Nat) (r : List UInt8 × Bool) (w : World) (hr : M.impl_ListText p0 = some r) (p0R : RS w encI_i64 (Value.slice p0a p0n p0c) p0) (t_T10 : T10 Tryd.prog w) :
    Calls Tryd.prog 45 #[(Value.slice p0a p0n p0c)] w fun e w' => e = .returned (.tuple #[.string (bs r.1), .bool r.2]) ∧ Ext w w' := by
  refine calls_of_W Tryd.func45 rfl (Nat.le_of_ble_eq_true rfl) ?_
  refine W_seq ?_
  refine W_region rfl ?_
  refine da_op rfl (d_as (v := .string (bs ([] : List UInt8))) rfl ?_)
  refine da_op rfl (d_as (v := .bool false) rfl ?_)
  refine da_nil ?_
  refine W_seq ?_
  refine W_region rfl ?_
  refine da_op rfl (d_bslice0 un34 size9 fun w1 B1 E1 => ?_)
  have fr1 : ∀ k, (Value.slice (some ⟨w.heap.size, 0, none⟩) 0 0).ownBlock = some k → w.heap.size ≤ k := fun k hk => by cases hk; exact Nat.le_refl _
  have own1 : ∀ k, (Value.slice (some ⟨w.heap.size, 0, none⟩) 0 0).ownBlock = some k → w.heap.size ≤ k := fun k hk => Nat.le_trans (Ext.refl w).size (fr1 k hk)
  have X2 : Ext w w1 := (Ext.refl w).trans E1
  have O1 : OS w1 9 encS (Value.slice (some ⟨w.heap.size, 0, none⟩) 0 0) ([] : List (List UInt8)) := OS.box (xs := ([] : List (List UInt8))) B1 rfl (Nat.le_of_ble_eq_true rfl)
  refine da_op rfl (d_as (v := (Value.slice (some ⟨w.heap.size, 0, none⟩) 0 0)) rfl ?_)
  refine da_nil ?_
  refine W_seq ?_
  refine W_seq ?_
  refine W_region rfl ?_
  refine da_op rfl (d_mv (v := (Value.slice p0a p0n p0c)) rfl ?_)
  have B3 : RS w1 encI_i64 (Value.slice p0a p0n p0c) p0 := p0R.ext X2
  refine da_op rfl (d_len (e := encI_i64) un81 rfl B3 ?_)
  refine da_op rfl (d_mv (v := .int .i64 0) rfl ?_)
  refine da_nil ?_
  refine W_block ?_
  obtain ⟨m4, hm4, hr⟩ := bind_out hr
  refine W_loopM hm4 (fun (s4 : List (List UInt8) × Int) σ w' => ∃ i4_0a : Option Addr, ∃ i4_0n : Nat, ∃ i4_0c : Nat, σ 4 = (Value.slice i4_0a i4_0n i4_0c) ∧ σ 10 = .int .i64 s4.2 ∧ σ 8 = (Value.slice p0a p0n p0c) ∧ σ 9 = .int .i64 ((p0).length : Int) ∧ OS w' 9 encS (Value.slice i4_0a i4_0n i4_0c) s4.1 ∧ (∀ k, (Value.slice i4_0a i4_0n i4_0c).ownBlock = some k → w.heap.size ≤ k) ∧ Ext w w') (fun (e4 : ((List (List UInt8)) ⊕ (List UInt8 × Bool))) ex σ w' => sel e4 (fun e4 => ex = .exit 0 ∧ ∃ q4_0_0a : Option Addr, ∃ q4_0_0n : Nat, ∃ q4_0_0c : Nat, σ 4 = (Value.slice q4_0_0a q4_0_0n q4_0_0c) ∧ OS w' 9 encS (Value.slice q4_0_0a q4_0_0n q4_0_0c) e4 ∧ (∀ k, (Value.slice q4_0_0a q4_0_0n q4_0_0c).ownBlock = some k → w.heap.size ≤ k) ∧ Ext w w') (fun e4 => ex = .ret ∧ σ 2 = .string (bs e4.1) ∧ σ 3 = .bool e4.2 ∧ Ext w w')) ⟨(some ⟨w.heap.size, 0, none⟩), 0, 0, rfl, rfl, rfl, rfl, O1, own1, X2⟩ ?_ ?_
  · skip
    rintro s4 σl4 wl4 r4l ⟨i4_0a, i4_0n, i4_0c, i4_S4, i4_S10, i4_S8, i4_S9, i4_0R, i4_0O, i4_X⟩ hr
    refine W_seq ?_
    refine W_region rfl ?_
    refine da_op rfl (d_icmp cLss i4_S10 i4_S9 ?_)
    refine da_nil ?_
    refine W_seq ?_
    refine W_cond (b := (icmp .lss s4.2 ((p0).length : Int))) rfl (fun hc5 => ?_) (fun hc5 => ?_)
    · skip
      replace hr := bif_t hr hc5
      refine W_skip ?_
      refine W_seq ?_
      refine W_block ?_
      refine W_seq ?_
      refine W_region rfl ?_
      obtain ⟨m6, hm6, hr⟩ := bind_out hr
      have B8 : RS wl4 encI_i64 (Value.slice p0a p0n p0c) p0 := p0R.ext i4_X
      refine da_op rfl (d_index (e := encI_i64) (v := (Value.slice p0a p0n p0c)) un81 size2 i4_S8 i4_S10 B8 hm6 fun g7 o7 cu7 T7 fr7 vs7 hv7 hg7 hp7 hq7 => ?_)
      obtain rfl := dec_encI_i64 hq7
      refine da_op rfl (d_load (v := .int .i64 m6) rfl agg2 hg7 (sub_get (vs := #[.int .i64 m6]) hp7 (i := 0) rfl) ?_)
      refine da_op rfl (d_as (v := .int .i64 m6) rfl ?_)
      refine da_nil ?_
      refine W_seq ?_
      refine W_seq ?_
      obtain ⟨m9, hm9, hr⟩ := letv_out hr
      refine W_cut (fun σ' w' => σ' 21 = .bool m9 ∧ Ext wl4 w') rfl ?_ ?_
      · skip
        have hr := hm9
        refine da_op rfl (d_mv (v := .int .i64 m6) rfl ?_)
        obtain ⟨m10, hm10, hr⟩ := letv_out hr
        refine da_op rfl (d_cl (vs := [.int .i64 m6, .int .i64 (-1000000000000000), .int .i64 1000000000000000]) en103 (ac rfl (ac rfl (ac rfl rfl))) rfl ?_)
        refine (c103 m6 (-1000000000000000) 1000000000000000 m10 wl4 hm10 ).mono ?_
        rintro _ w11 ⟨rfl, E11⟩
        refine ⟨_, rfl, ?_⟩
        have X12 : Ext w w11 := i4_X.trans E11
        refine da_op rfl (d_not rfl ?_)
        refine da_op rfl (d_mv (v := .bool (!m10)) rfl ?_)
        rcases Bool.eq_false_or_eq_true m10 with hc13 | hc13
        · skip
          replace hr := bif_t hr hc13
          refine da_on rfl (Eq.trans (show sl _ _ _ = .bool (!m10) from rfl) (congrArg Value.bool (congrArg not hc13))) (d_mv (v := (Value.slice i4_0a i4_0n i4_0c)) i4_S4 ?_)
          have B14 : OS w11 9 encS (Value.slice i4_0a i4_0n i4_0c) s4.1 := i4_0R.ext E11
          refine da_on rfl (Eq.trans (show sl _ _ _ = .bool (!m10) from rfl) (congrArg Value.bool (congrArg not hc13))) (d_len (e := encS) un34 rfl B14.rs ?_)
          refine da_on rfl (Eq.trans (show sl _ _ _ = .bool (!m10) from rfl) (congrArg Value.bool (congrArg not hc13))) (d_icmp cEql rfl rfl ?_)
          refine da_op rfl (d_pick (b := false) (Eq.trans (show ev _ _ = .bool (!m10) from rfl) (congrArg Value.bool (congrArg not hc13))) ?_)
          refine da_nil ?_
          subst hr
          exact ⟨rfl, (Ext.trans (Ext.refl wl4) E11)⟩
        · skip
          replace hr := bif_f hr hc13
          refine da_off rfl (Eq.trans (show sl _ _ _ = .bool (!m10) from rfl) (congrArg Value.bool (congrArg not hc13))) (by decide) ?_
          refine da_off rfl (Eq.trans (show sl _ _ _ = .bool (!m10) from rfl) (congrArg Value.bool (congrArg not hc13))) (by decide) ?_
          refine da_off rfl (Eq.trans (show sl _ _ _ = .bool (!m10) from rfl) (congrArg Value.bool (congrArg not hc13))) (by decide) ?_
          refine da_op rfl (d_pick (b := true) (Eq.trans (show ev _ _ = .bool (!m10) from rfl) (congrArg Value.bool (congrArg not hc13))) ?_)
          refine da_nil ?_
          subst hr
          exact ⟨rfl, (Ext.trans (Ext.refl wl4) E11)⟩
      · skip
        rintro σ9 w9 o9 ⟨s21_9, E9⟩
        have s4_9 : σ9 4 = (Value.slice i4_0a i4_0n i4_0c) := (o9 4 rfl).trans i4_S4
        have s10_9 : σ9 10 = .int .i64 s4.2 := (o9 10 rfl).trans i4_S10
        have s8_9 : σ9 8 = (Value.slice p0a p0n p0c) := (o9 8 rfl).trans i4_S8
        have s9_9 : σ9 9 = .int .i64 ((p0).length : Int) := (o9 9 rfl).trans i4_S9
        have s6_9 : σ9 6 = .int .i64 m6 := (o9 6 rfl).trans rfl
        have X15 : Ext w w9 := i4_X.trans E9
        refine W_cond (b := m9) s21_9 (fun hc16 => ?_) (fun hc16 => ?_)
        · skip
          replace hr := bif_t hr hc16
          refine W_seq ?_
          refine W_region rfl ?_
          refine da_op rfl (d_as (v := .string (bs ([] : List UInt8))) rfl ?_)
          refine da_op rfl (d_as (v := .bool false) rfl ?_)
          refine da_nil ?_
          refine W_ret ?_
          obtain rfl := Option.some.inj hr
          exact ⟨_, rfl, rfl, rfl, rfl, X15⟩
        · skip
          replace hr := bif_f hr hc16
          refine W_skip ?_
          refine W_region rfl ?_
          refine da_op rfl (d_mv (v := (Value.slice i4_0a i4_0n i4_0c)) s4_9 ?_)
          refine da_op rfl (d_mv (v := .int .i64 m6) s6_9 ?_)
          obtain ⟨m17, hm17, hr⟩ := bind_out hr
          have B18 : OS w9 9 encS (Value.slice i4_0a i4_0n i4_0c) s4.1 := i4_0R.ext E9
          refine da_op rfl (d_cl (vs := [.int .i64 m6]) en59 (ac rfl rfl) rfl ?_)
          refine (c59 m6 m17 w9 hm17 (t_T10.ext X15)).mono ?_
          rintro _ w19 ⟨rfl, E19⟩
          refine ⟨_, rfl, ?_⟩
          have X20 : Ext w w19 := X15.trans E19
          have B22 : OS w19 9 encS (Value.slice i4_0a i4_0n i4_0c) s4.1 := B18.ext E19
          refine da_op rfl (d_bslice (vs := [(0, .string (bs m17))]) (cs := #[.string (bs m17)]) un34 (pc rfl rfl) (by kernel_rfl) fun w21 B21 E21 => ?_)
          have fr21 : ∀ k, (Value.slice (some ⟨w19.heap.size, 0, none⟩) 1 1).ownBlock = some k → w19.heap.size ≤ k := fun k hk => by cases hk; exact Nat.le_refl _
          have own21 : ∀ k, (Value.slice (some ⟨w19.heap.size, 0, none⟩) 1 1).ownBlock = some k → w.heap.size ≤ k := fun k hk => Nat.le_trans X20.size (fr21 k hk)
          have sp23 : ∀ k, (Value.slice i4_0a i4_0n i4_0c).ownBlock = some k → ¬ (Value.slice (some ⟨w19.heap.size, 0, none⟩) 1 1).ownBlock = some k := apart_fresh B22 fr21
          have X24 : Ext w w21 := X20.trans E21
          have O21 : OS w21 9 encS (Value.slice (some ⟨w19.heap.size, 0, none⟩) 1 1) [m17] := OS.box (xs := [m17]) B21 (lc_v rfl rfl) (Nat.le_of_ble_eq_true rfl)
          obtain ⟨m25, hm25, hr⟩ := bind_out hr
          have B26 : OS w21 9 encS (Value.slice i4_0a i4_0n i4_0c) s4.1 := B22.ext E21
          refine da_op rfl (d_append (e := encS) (v := (Value.slice i4_0a i4_0n i4_0c)) (y := (Value.slice (some ⟨w19.heap.size, 0, none⟩) 1 1)) un34 info9 rfl (by kernel_rfl) (by kernel_rfl) (by decide) (by decide) rfl rfl B26 O21.rs hm25 fun v27 w27 O27 Fm27 at_27 nl27 => ?_)
          obtain ⟨v27pa, v27pn, v27pc, rfl⟩ := O27.vals
          have own27 : ∀ k, (Value.slice v27pa v27pn v27pc).ownBlock = some k → w.heap.size ≤ k := app_own (w := w21) at_27 i4_0O X24.size
          have sp28 : ∀ k, (Value.slice (some ⟨w19.heap.size, 0, none⟩) 1 1).ownBlock = some k → ¬ (Value.slice v27pa v27pn v27pc).ownBlock = some k := app_nr at_27 (apart_symm sp23) O21
          have X29 : Ext w w27 := Ext.step X24 Fm27 (fun k _ hk => i4_0O k hk)
          refine da_op rfl (d_as (v := (Value.slice v27pa v27pn v27pc)) rfl ?_)
          refine da_nil ?_
          refine W_region rfl ?_
          refine da_op rfl (d_iarith s10_9 rfl (.inl ⟨rfl, rfl⟩) ?_)
          refine da_op rfl (d_mv (v := .int .i64 (IntKind.i64.wrap (s4.2 + 1))) rfl ?_)
          refine da_nil ?_
          obtain rfl := Option.some.inj hr
          exact ⟨_, rfl, ⟨v27pa, v27pn, v27pc, rfl, rfl, s8_9, s9_9, O27, own27, X29⟩⟩
    · skip
      replace hr := bif_f hr hc5
      refine W_exit ?_
      obtain rfl := Option.some.inj hr
      exact ⟨_, rfl, rfl, i4_0a, i4_0n, i4_0c, i4_S4, i4_0R, i4_0O, i4_X⟩
  · skip
    intro ex σx4 wx4 hq
    rcases m4 with m4 | m4
    · skip
      obtain ⟨rfl, q4_0_0a, q4_0_0n, q4_0_0c, q4_0_S4, q4_0_0R, q4_0_0O, q4_0_X⟩ := hq
      refine W_seq ?_
      refine W_region rfl ?_
      refine da_op rfl (d_mv (v := (Value.slice q4_0_0a q4_0_0n q4_0_0c)) q4_0_S4 ?_)
      obtain ⟨m30, hm30, hr⟩ := bind_out hr
      refine da_op rfl (d_cl (vs := [(Value.slice q4_0_0a q4_0_0n q4_0_0c)]) en99 (ac rfl rfl) rfl ?_)
      refine (c99 m4 q4_0_0a q4_0_0n q4_0_0c m30 wx4 hm30 q4_0_0R.rs).mono ?_
      rintro _ w31 ⟨rfl, E31⟩
      refine ⟨_, rfl, ?_⟩
      have X32 : Ext w w31 := q4_0_X.trans E31
      refine da_op rfl (d_as (v := .string (bs m30)) rfl ?_)
      refine da_op rfl (d_as (v := .bool true) rfl ?_)
      refine da_nil ?_
      refine W_ret ?_
      obtain rfl := Option.some.inj hr
      refine ⟨_, res2 (rv_tmp rfl) (rv_tmp rfl), ?_⟩
      exact ⟨rfl, X32⟩
    · skip
      obtain ⟨rfl, q4_1_S2, q4_1_S3, q4_1_X⟩ := hq
      obtain rfl := Option.some.inj hr
      refine ⟨_, res2 (rv_tmp q4_1_S2) (rv_tmp q4_1_S3), ?_⟩
      exact ⟨rfl, q4_1_X⟩
set_option maxHeartbeats 4000000 in
theorem c97 (p0 : List Nat) (p0a : Option Addr) (p0n : Nat) (p0c : Nat) (r : Bool) (w : World) (hr : M.impl_listOk p0 = r) (p0R : RS w encF_f32 (Value.slice p0a p0n p0c) p0) :
    Calls Tryd.prog 97 #[(Value.slice p0a p0n p0c)] w fun e w' => e = .returned (.bool r) ∧ Ext w w' := by
  refine calls_of_W Tryd.func97 rfl (Nat.le_of_ble_eq_true rfl) ?_
  refine W_seq ?_
  refine W_region rfl ?_
  refine da_op rfl (d_as (v := .bool false) rfl ?_)
  refine da_nil ?_
  refine W_seq ?_
  refine W_region rfl ?_
  refine da_op rfl (d_mv (v := (Value.slice p0a p0n p0c)) rfl ?_)
  refine da_op rfl (d_len (e := encF_f32) un53 rfl p0R ?_)
  refine da_op rfl (d_icmp cLeq rfl rfl ?_)
  refine da_op rfl (d_as (v := .bool (icmp .leq ((p0).length : Int) 256)) rfl ?_)
  refine da_nil ?_
  refine W_ret ?_
  subst hr
  refine ⟨_, res1 (rv_tmp rfl), ?_⟩
  exact ⟨rfl, (Ext.refl w)⟩
set_option maxHeartbeats 4000000 in
theorem c153 (p0 : Nat) (p0r : Nat) (r : Bool) (w : World) (hr : M.impl_isNaN p0 = r) (p0h : cn .f32 p0r = p0) :
    Calls Tryd.prog 153 #[.float .f32 p0r] w fun e w' => e = .returned (.bool r) ∧ Ext w w' := by
  refine calls_of_W Tryd.func153 rfl (Nat.le_of_ble_eq_true rfl) ?_
  refine W_seq ?_
  refine W_region rfl ?_
  refine da_op rfl (d_as (v := .bool false) rfl ?_)
  refine da_nil ?_
  refine W_seq ?_
  refine W_region rfl ?_
  refine da_op rfl (d_mv (v := .float .f32 p0r) rfl ?_)
  refine da_op rfl (d_mv (v := .float .f32 p0r) rfl ?_)
  refine da_op rfl (d_fcmp (k := .f32) cNeq rfl rfl p0h p0h ?_)
  refine da_op rfl (d_as (v := .bool (fcmp .neq .f32 p0 p0)) rfl ?_)
  refine da_nil ?_
  refine W_ret ?_
  subst hr
  refine ⟨_, res1 (rv_tmp rfl), ?_⟩
  exact ⟨rfl, (Ext.refl w)⟩
set_option maxHeartbeats 4000000 in
theorem c98 (p0 : Nat) (p0r : Nat) (r : Int) (w : World) (hr : M.impl_BitsOf p0 = r) (p0h : cn .f32 p0r = p0) :
    Calls Tryd.prog 98 #[.float .f32 p0r] w fun e w' => e = .returned (.int .i64 r) ∧ Ext w w' := by
  refine calls_of_W Tryd.func98 rfl (Nat.le_of_ble_eq_true rfl) ?_
  refine W_seq ?_
  refine W_region rfl ?_
  refine da_op rfl (d_as (v := .int .i64 0) rfl ?_)
  refine da_nil ?_
  refine W_seq ?_
  refine W_seq ?_
  refine W_region rfl ?_
  refine da_op rfl (d_mv (v := .float .f32 p0r) rfl ?_)
  obtain ⟨m1, hm1, hr⟩ := letv_out hr
  refine da_op rfl (d_cl (vs := [.float .f32 p0r]) en153 (ac rfl rfl) rfl ?_)
  refine (c153 p0 p0r m1 w hm1 p0h).mono ?_
  rintro _ w2 ⟨rfl, E2⟩
  refine ⟨_, rfl, ?_⟩
  have X3 : Ext w w2 := (Ext.refl w).trans E2
  refine da_nil ?_
  refine W_cond (b := m1) rfl (fun hc4 => ?_) (fun hc4 => ?_)
  · skip
    replace hr := bif_t hr hc4
    refine W_seq ?_
    refine W_region rfl ?_
    refine da_op rfl (d_as (v := .int .i64 2143289344) rfl ?_)
    refine da_nil ?_
    refine W_ret ?_
    subst hr
    refine ⟨_, res1 (rv_tmp rfl), ?_⟩
    exact ⟨rfl, X3⟩
  · skip
    replace hr := bif_f hr hc4
    refine W_skip ?_
    refine W_seq ?_
    refine W_region rfl ?_
    refine da_op rfl (d_mv (v := .float .f32 p0r) rfl ?_)
    refine da_op rfl (d_f32bits ext154_0 ext154_1 ext154_2 (Option.isNone_iff_eq_none.1 ext154_3) ext154_4 rfl rfl p0h (nn_ne (Eq.trans (show fcmp .neq .f32 p0 p0 = m1 from hm1) hc4)) ?_)
    refine da_op rfl (d_iconv un193 un2 rfl ?_)
    refine da_op rfl (d_as (v := .int .i64 (IntKind.i64.wrap (p0 : Int))) rfl ?_)
    refine da_nil ?_
    refine W_ret ?_
    subst hr
    refine ⟨_, res1 (rv_tmp rfl), ?_⟩
    exact ⟨rfl, X3⟩
set_option maxHeartbeats 4000000 in
theorem c42 (p0 : List Nat) (p0a : Option Addr) (p0n : Nat) (p0c : Nat) (r : List UInt8 × Bool) (w : World) (hr : M.impl_NumbersText p0 = some r) (p0R : RS w encF_f32 (Value.slice p0a p0n p0c) p0) :
    Calls Tryd.prog 42 #[(Value.slice p0a p0n p0c)] w fun e w' => e = .returned (.tuple #[.string (bs r.1), .bool r.2]) ∧ Ext w w' := by
  refine calls_of_W Tryd.func42 rfl (Nat.le_of_ble_eq_true rfl) ?_
  refine W_seq ?_
  refine W_region rfl ?_
  refine da_op rfl (d_as (v := .string (bs ([] : List UInt8))) rfl ?_)
  refine da_op rfl (d_as (v := .bool false) rfl ?_)
  refine da_nil ?_
  refine W_seq ?_
  refine W_seq ?_
  refine W_region rfl ?_
  refine da_op rfl (d_mv (v := (Value.slice p0a p0n p0c)) rfl ?_)
  obtain ⟨m1, hm1, hr⟩ := letv_out hr
  refine da_op rfl (d_cl (vs := [(Value.slice p0a p0n p0c)]) en97 (ac rfl rfl) rfl ?_)
  refine (c97 p0 p0a p0n p0c m1 w hm1 p0R).mono ?_
  rintro _ w2 ⟨rfl, E2⟩
  refine ⟨_, rfl, ?_⟩
  have X3 : Ext w w2 := (Ext.refl w).trans E2
  refine da_op rfl (d_not rfl ?_)
  refine da_nil ?_
  refine W_cond (b := (!m1)) rfl (fun hc4 => ?_) (fun hc4 => ?_)
  · skip
    replace hr := bif_t hr hc4
    refine W_seq ?_
    refine W_region rfl ?_
    refine da_op rfl (d_as (v := .string (bs ([] : List UInt8))) rfl ?_)
    refine da_op rfl (d_as (v := .bool false) rfl ?_)
    refine da_nil ?_
    refine W_ret ?_
    obtain rfl := Option.some.inj hr
    refine ⟨_, res2 (rv_tmp rfl) (rv_tmp rfl), ?_⟩
    exact ⟨rfl, X3⟩
  · skip
    replace hr := bif_f hr hc4
    refine W_skip ?_
    refine W_seq ?_
    refine W_region rfl ?_
    refine da_op rfl (d_bslice0 un34 size9 fun w5 B5 E5 => ?_)
    have fr5 : ∀ k, (Value.slice (some ⟨w2.heap.size, 0, none⟩) 0 0).ownBlock = some k → w2.heap.size ≤ k := fun k hk => by cases hk; exact Nat.le_refl _
    have own5 : ∀ k, (Value.slice (some ⟨w2.heap.size, 0, none⟩) 0 0).ownBlock = some k → w.heap.size ≤ k := fun k hk => Nat.le_trans X3.size (fr5 k hk)
    have X6 : Ext w w5 := X3.trans E5
    have O5 : OS w5 9 encS (Value.slice (some ⟨w2.heap.size, 0, none⟩) 0 0) ([] : List (List UInt8)) := OS.box (xs := ([] : List (List UInt8))) B5 rfl (Nat.le_of_ble_eq_true rfl)
    refine da_op rfl (d_as (v := (Value.slice (some ⟨w2.heap.size, 0, none⟩) 0 0)) rfl ?_)
    refine da_nil ?_
    refine W_seq ?_
    refine W_seq ?_
    refine W_region rfl ?_
    refine da_op rfl (d_mv (v := (Value.slice p0a p0n p0c)) rfl ?_)
    have B7 : RS w5 encF_f32 (Value.slice p0a p0n p0c) p0 := p0R.ext X6
    refine da_op rfl (d_len (e := encF_f32) un53 rfl B7 ?_)
    refine da_op rfl (d_mv (v := .int .i64 0) rfl ?_)
    refine da_nil ?_
    refine W_block ?_
    obtain ⟨m8, hm8, hr⟩ := bind_out hr
    refine W_loopM hm8 (fun (s8 : List (List UInt8) × Int) σ w' => ∃ i8_0a : Option Addr, ∃ i8_0n : Nat, ∃ i8_0c : Nat, σ 4 = (Value.slice i8_0a i8_0n i8_0c) ∧ σ 15 = .int .i64 s8.2 ∧ σ 13 = (Value.slice p0a p0n p0c) ∧ σ 14 = .int .i64 ((p0).length : Int) ∧ OS w' 9 encS (Value.slice i8_0a i8_0n i8_0c) s8.1 ∧ (∀ k, (Value.slice i8_0a i8_0n i8_0c).ownBlock = some k → w.heap.size ≤ k) ∧ Ext w w') (fun (e8 : (List (List UInt8))) ex σ w' => ex = .exit 0 ∧ ∃ q8_0_0a : Option Addr, ∃ q8_0_0n : Nat, ∃ q8_0_0c : Nat, σ 4 = (Value.slice q8_0_0a q8_0_0n q8_0_0c) ∧ OS w' 9 encS (Value.slice q8_0_0a q8_0_0n q8_0_0c) e8 ∧ (∀ k, (Value.slice q8_0_0a q8_0_0n q8_0_0c).ownBlock = some k → w.heap.size ≤ k) ∧ Ext w w') ⟨(some ⟨w2.heap.size, 0, none⟩), 0, 0, rfl, rfl, rfl, rfl, O5, own5, X6⟩ ?_ ?_
    · skip
      rintro s8 σl8 wl8 r8l ⟨i8_0a, i8_0n, i8_0c, i8_S4, i8_S15, i8_S13, i8_S14, i8_0R, i8_0O, i8_X⟩ hr
      refine W_seq ?_
      refine W_region rfl ?_
      refine da_op rfl (d_icmp cLss i8_S15 i8_S14 ?_)
      refine da_nil ?_
      refine W_seq ?_
      refine W_cond (b := (icmp .lss s8.2 ((p0).length : Int))) rfl (fun hc9 => ?_) (fun hc9 => ?_)
      · skip
        replace hr := bif_t hr hc9
        refine W_skip ?_
        refine W_seq ?_
        refine W_block ?_
        refine W_seq ?_
        refine W_region rfl ?_
        obtain ⟨m10, hm10, hr⟩ := bind_out hr
        have B12 : RS wl8 encF_f32 (Value.slice p0a p0n p0c) p0 := p0R.ext i8_X
        refine da_op rfl (d_index (e := encF_f32) (v := (Value.slice p0a p0n p0c)) un53 size22 i8_S13 i8_S15 B12 hm10 fun g11 o11 cu11 T11 fr11 vs11 hv11 hg11 hp11 hq11 => ?_)
        obtain ⟨e11_r0, rfl, e11_h0⟩ := dec_encF_f32 hq11
        refine da_op rfl (d_load (v := .float .f32 e11_r0) rfl agg22 hg11 (sub_get (vs := #[.float .f32 e11_r0]) hp11 (i := 0) rfl) ?_)
        refine da_op rfl (d_as (v := .float .f32 e11_r0) rfl ?_)
        refine da_nil ?_
        refine W_seq ?_
        refine W_region rfl ?_
        refine da_op rfl (d_bslice0 un73 size5 fun w13 B13 E13 => ?_)
        have fr13 : ∀ k, (Value.slice (some ⟨wl8.heap.size, 0, none⟩) 0 0).ownBlock = some k → wl8.heap.size ≤ k := fun k hk => by cases hk; exact Nat.le_refl _
        have own13 : ∀ k, (Value.slice (some ⟨wl8.heap.size, 0, none⟩) 0 0).ownBlock = some k → w.heap.size ≤ k := fun k hk => Nat.le_trans i8_X.size (fr13 k hk)
        have sp14 : ∀ k, (Value.slice i8_0a i8_0n i8_0c).ownBlock = some k → ¬ (Value.slice (some ⟨wl8.heap.size, 0, none⟩) 0 0).ownBlock = some k := apart_fresh i8_0R fr13
        have X15 : Ext w w13 := i8_X.trans E13
        have O13 : OS w13 5 encI_u8 (Value.slice (some ⟨wl8.heap.size, 0, none⟩) 0 0) ([] : List Int) := OS.box (xs := ([] : List Int)) B13 rfl (Nat.le_of_ble_eq_true rfl)
        refine da_op rfl (d_as (v := (Value.slice (some ⟨wl8.heap.size, 0, none⟩) 0 0)) rfl ?_)
        refine da_nil ?_
        refine W_seq ?_
        refine W_seq ?_
        refine W_region rfl ?_
        refine da_op rfl (d_as (v := .int .i64 28) rfl ?_)
        refine da_nil ?_
        refine W_block ?_
        refine W_rounds 100 ?_
        refine Wr_next ?_
        refine W_seq ?_
        refine W_seq ?_
        refine W_region rfl ?_
        refine da_op rfl (d_mv (v := .int .i64 28) rfl ?_)
        refine da_op rfl (d_icmpL (b := true) cGeq rfl rfl (by decide) ?_)
        refine da_nil ?_
        refine W_true rfl ?_
        refine W_skip ?_
        refine W_seq ?_
        refine W_block ?_
        refine W_region rfl ?_
        refine da_op rfl (d_mv (v := (Value.slice (some ⟨wl8.heap.size, 0, none⟩) 0 0)) rfl ?_)
        refine da_op rfl (d_mv (v := .float .f32 e11_r0) rfl ?_)
        obtain ⟨m16, hm16, hr⟩ := letv_out hr
        have B17 : OS w13 9 encS (Value.slice i8_0a i8_0n i8_0c) s8.1 := i8_0R.ext E13
        refine da_op rfl (d_cl (vs := [.float .f32 e11_r0]) en98 (ac rfl rfl) rfl ?_)
        refine (c98 m10 e11_r0 m16 w13 hm16 e11_h0).mono ?_
        rintro _ w18 ⟨rfl, E18⟩
        refine ⟨_, rfl, ?_⟩
        have X19 : Ext w w18 := X15.trans E18
        refine da_op rfl (d_mv (v := .int .i64 28) rfl ?_)
        refine da_op rfl (d_shrL rfl rfl (n := 28) (by decide) ?_)
        refine da_op rfl (d_and rfl rfl ?_)
        obtain ⟨m20, hm20, hr⟩ := bind_out hr
        refine da_op rfl (d_sidx un9 rfl rfl hm20 ?_)
        have B22 : OS w18 9 encS (Value.slice i8_0a i8_0n i8_0c) s8.1 := B17.ext E18
        have B23 : OS w18 5 encI_u8 (Value.slice (some ⟨wl8.heap.size, 0, none⟩) 0 0) ([] : List Int) := O13.ext E18
        refine da_op rfl (d_bslice (vs := [(0, .int .u8 m20)]) (cs := #[.int .u8 m20]) un73 (pc rfl rfl) (by kernel_rfl) fun w21 B21 E21 => ?_)
        have fr21 : ∀ k, (Value.slice (some ⟨w18.heap.size, 0, none⟩) 1 1).ownBlock = some k → w18.heap.size ≤ k := fun k hk => by cases hk; exact Nat.le_refl _
        have own21 : ∀ k, (Value.slice (some ⟨w18.heap.size, 0, none⟩) 1 1).ownBlock = some k → w.heap.size ≤ k := fun k hk => Nat.le_trans X19.size (fr21 k hk)
        have sp24 : ∀ k, (Value.slice i8_0a i8_0n i8_0c).ownBlock = some k → ¬ (Value.slice (some ⟨w18.heap.size, 0, none⟩) 1 1).ownBlock = some k := apart_fresh B22 fr21
        have sp25 : ∀ k, (Value.slice (some ⟨wl8.heap.size, 0, none⟩) 0 0).ownBlock = some k → ¬ (Value.slice (some ⟨w18.heap.size, 0, none⟩) 1 1).ownBlock = some k := apart_fresh B23 fr21
        have X26 : Ext w w21 := X19.trans E21
        have O21 : OS w21 5 encI_u8 (Value.slice (some ⟨w18.heap.size, 0, none⟩) 1 1) [m20] := OS.box (xs := [m20]) B21 (lc_v rfl rfl) (Nat.le_of_ble_eq_true rfl)
        obtain ⟨m27, hm27, hr⟩ := bind_out hr
        have B28 : OS w21 5 encI_u8 (Value.slice (some ⟨wl8.heap.size, 0, none⟩) 0 0) ([] : List Int) := B23.ext E21
        have B29 : OS w21 9 encS (Value.slice i8_0a i8_0n i8_0c) s8.1 := B22.ext E21
        refine da_op rfl (d_append (e := encI_u8) (v := (Value.slice (some ⟨wl8.heap.size, 0, none⟩) 0 0)) (y := (Value.slice (some ⟨w18.heap.size, 0, none⟩) 1 1)) un73 info5 rfl (by kernel_rfl) (by kernel_rfl) (by decide) (by decide) rfl rfl B28 O21.rs hm27 fun v30 w30 O30 Fm30 at_30 nl30 => ?_)
        obtain ⟨v30pa, v30pn, v30pc, rfl⟩ := O30.vals
        have own30 : ∀ k, (Value.slice v30pa v30pn v30pc).ownBlock = some k → w.heap.size ≤ k := app_own (w := w21) at_30 own13 X26.size
        have sp31 : ∀ k, (Value.slice i8_0a i8_0n i8_0c).ownBlock = some k → ¬ (Value.slice v30pa v30pn v30pc).ownBlock = some k := app_nr at_30 sp14 B29
        have sp32 : ∀ k, (Value.slice (some ⟨w18.heap.size, 0, none⟩) 1 1).ownBlock = some k → ¬ (Value.slice v30pa v30pn v30pc).ownBlock = some k := app_nr at_30 (apart_symm sp25) O21
        have X33 : Ext w w30 := Ext.step X26 Fm30 (fun k _ hk => own13 k hk)
        refine da_op rfl (d_as (v := (Value.slice v30pa v30pn v30pc)) rfl ?_)
        refine da_nil ?_
        refine W_region rfl ?_
        refine da_op rfl (d_mv (v := .int .i64 28) rfl ?_)
        refine da_op rfl (d_iarith (r := 24) rfl rfl (.inr (.inl ⟨rfl, (by decide)⟩)) ?_)
        refine da_op rfl (d_as (v := .int .i64 24) rfl ?_)
        refine da_nil ?_
        refine Wr_next ?_
        refine W_seq ?_
        refine W_seq ?_
        refine W_region rfl ?_
        refine da_op rfl (d_mv (v := .int .i64 24) rfl ?_)
        refine da_op rfl (d_icmpL (b := true) cGeq rfl rfl (by decide) ?_)
        refine da_nil ?_
        refine W_true rfl ?_
        refine W_skip ?_
        refine W_seq ?_
        refine W_block ?_
        refine W_region rfl ?_
        refine da_op rfl (d_mv (v := (Value.slice v30pa v30pn v30pc)) rfl ?_)
        refine da_op rfl (d_mv (v := .float .f32 e11_r0) rfl ?_)
        obtain ⟨m34, hm34, hr⟩ := letv_out hr
        have B35 : OS w30 9 encS (Value.slice i8_0a i8_0n i8_0c) s8.1 := B29.frm Fm30 sp14
        refine da_op rfl (d_cl (vs := [.float .f32 e11_r0]) en98 (ac rfl rfl) rfl ?_)
        refine (c98 m10 e11_r0 m34 w30 hm34 e11_h0).mono ?_
        rintro _ w36 ⟨rfl, E36⟩
        refine ⟨_, rfl, ?_⟩
        have X37 : Ext w w36 := X33.trans E36
        refine da_op rfl (d_mv (v := .int .i64 24) rfl ?_)
        refine da_op rfl (d_shrL rfl rfl (n := 24) (by decide) ?_)
        refine da_op rfl (d_and rfl rfl ?_)
        obtain ⟨m38, hm38, hr⟩ := bind_out hr
        refine da_op rfl (d_sidx un9 rfl rfl hm38 ?_)
        have B40 : OS w36 9 encS (Value.slice i8_0a i8_0n i8_0c) s8.1 := B35.ext E36
        have B41 : OS w36 5 encI_u8 (Value.slice v30pa v30pn v30pc) m27 := O30.ext E36
        refine da_op rfl (d_bslice (vs := [(0, .int .u8 m38)]) (cs := #[.int .u8 m38]) un73 (pc rfl rfl) (by kernel_rfl) fun w39 B39 E39 => ?_)
        have fr39 : ∀ k, (Value.slice (some ⟨w36.heap.size, 0, none⟩) 1 1).ownBlock = some k → w36.heap.size ≤ k := fun k hk => by cases hk; exact Nat.le_refl _
        have own39 : ∀ k, (Value.slice (some ⟨w36.heap.size, 0, none⟩) 1 1).ownBlock = some k → w.heap.size ≤ k := fun k hk => Nat.le_trans X37.size (fr39 k hk)
        have sp42 : ∀ k, (Value.slice i8_0a i8_0n i8_0c).ownBlock = some k → ¬ (Value.slice (some ⟨w36.heap.size, 0, none⟩) 1 1).ownBlock = some k := apart_fresh B40 fr39
        have sp43 : ∀ k, (Value.slice v30pa v30pn v30pc).ownBlock = some k → ¬ (Value.slice (some ⟨w36.heap.size, 0, none⟩) 1 1).ownBlock = some k := apart_fresh B41 fr39
        have X44 : Ext w w39 := X37.trans E39
        have O39 : OS w39 5 encI_u8 (Value.slice (some ⟨w36.heap.size, 0, none⟩) 1 1) [m38] := OS.box (xs := [m38]) B39 (lc_v rfl rfl) (Nat.le_of_ble_eq_true rfl)
        obtain ⟨m45, hm45, hr⟩ := bind_out hr
        have B46 : OS w39 5 encI_u8 (Value.slice v30pa v30pn v30pc) m27 := B41.ext E39
        have B47 : OS w39 9 encS (Value.slice i8_0a i8_0n i8_0c) s8.1 := B40.ext E39
        refine da_op rfl (d_append (e := encI_u8) (v := (Value.slice v30pa v30pn v30pc)) (y := (Value.slice (some ⟨w36.heap.size, 0, none⟩) 1 1)) un73 info5 rfl (by kernel_rfl) (by kernel_rfl) (by decide) (by decide) rfl rfl B46 O39.rs hm45 fun v48 w48 O48 Fm48 at_48 nl48 => ?_)
        obtain ⟨v48pa, v48pn, v48pc, rfl⟩ := O48.vals
        have own48 : ∀ k, (Value.slice v48pa v48pn v48pc).ownBlock = some k → w.heap.size ≤ k := app_own (w := w39) at_48 own30 X44.size
        have sp49 : ∀ k, (Value.slice i8_0a i8_0n i8_0c).ownBlock = some k → ¬ (Value.slice v48pa v48pn v48pc).ownBlock = some k := app_nr at_48 sp31 B47
        have sp50 : ∀ k, (Value.slice (some ⟨w36.heap.size, 0, none⟩) 1 1).ownBlock = some k → ¬ (Value.slice v48pa v48pn v48pc).ownBlock = some k := app_nr at_48 (apart_symm sp43) O39
        have X51 : Ext w w48 := Ext.step X44 Fm48 (fun k _ hk => own30 k hk)
        refine da_op rfl (d_as (v := (Value.slice v48pa v48pn v48pc)) rfl ?_)
        refine da_nil ?_
        refine W_region rfl ?_
        refine da_op rfl (d_mv (v := .int .i64 24) rfl ?_)
        refine da_op rfl (d_iarith (r := 20) rfl rfl (.inr (.inl ⟨rfl, (by decide)⟩)) ?_)
        refine da_op rfl (d_as (v := .int .i64 20) rfl ?_)
        refine da_nil ?_
        refine Wr_next ?_
        refine W_seq ?_
        refine W_seq ?_
        refine W_region rfl ?_
        refine da_op rfl (d_mv (v := .int .i64 20) rfl ?_)
        refine da_op rfl (d_icmpL (b := true) cGeq rfl rfl (by decide) ?_)
        refine da_nil ?_
        refine W_true rfl ?_
        refine W_skip ?_
        refine W_seq ?_
        refine W_block ?_
        refine W_region rfl ?_
        refine da_op rfl (d_mv (v := (Value.slice v48pa v48pn v48pc)) rfl ?_)
        refine da_op rfl (d_mv (v := .float .f32 e11_r0) rfl ?_)
        obtain ⟨m52, hm52, hr⟩ := letv_out hr
        have B53 : OS w48 9 encS (Value.slice i8_0a i8_0n i8_0c) s8.1 := B47.frm Fm48 sp31
        refine da_op rfl (d_cl (vs := [.float .f32 e11_r0]) en98 (ac rfl rfl) rfl ?_)
        refine (c98 m10 e11_r0 m52 w48 hm52 e11_h0).mono ?_
        rintro _ w54 ⟨rfl, E54⟩
        refine ⟨_, rfl, ?_⟩
        have X55 : Ext w w54 := X51.trans E54
        refine da_op rfl (d_mv (v := .int .i64 20) rfl ?_)
        refine da_op rfl (d_shrL rfl rfl (n := 20) (by decide) ?_)
        refine da_op rfl (d_and rfl rfl ?_)
        obtain ⟨m56, hm56, hr⟩ := bind_out hr
        refine da_op rfl (d_sidx un9 rfl rfl hm56 ?_)
        have B58 : OS w54 9 encS (Value.slice i8_0a i8_0n i8_0c) s8.1 := B53.ext E54
        have B59 : OS w54 5 encI_u8 (Value.slice v48pa v48pn v48pc) m45 := O48.ext E54
        refine da_op rfl (d_bslice (vs := [(0, .int .u8 m56)]) (cs := #[.int .u8 m56]) un73 (pc rfl rfl) (by kernel_rfl) fun w57 B57 E57 => ?_)
        have fr57 : ∀ k, (Value.slice (some ⟨w54.heap.size, 0, none⟩) 1 1).ownBlock = some k → w54.heap.size ≤ k := fun k hk => by cases hk; exact Nat.le_refl _
        have own57 : ∀ k, (Value.slice (some ⟨w54.heap.size, 0, none⟩) 1 1).ownBlock = some k → w.heap.size ≤ k := fun k hk => Nat.le_trans X55.size (fr57 k hk)
        have sp60 : ∀ k, (Value.slice i8_0a i8_0n i8_0c).ownBlock = some k → ¬ (Value.slice (some ⟨w54.heap.size, 0, none⟩) 1 1).ownBlock = some k := apart_fresh B58 fr57
        have sp61 : ∀ k, (Value.slice v48pa v48pn v48pc).ownBlock = some k → ¬ (Value.slice (some ⟨w54.heap.size, 0, none⟩) 1 1).ownBlock = some k := apart_fresh B59 fr57
        have X62 : Ext w w57 := X55.trans E57
        have O57 : OS w57 5 encI_u8 (Value.slice (some ⟨w54.heap.size, 0, none⟩) 1 1) [m56] := OS.box (xs := [m56]) B57 (lc_v rfl rfl) (Nat.le_of_ble_eq_true rfl)
        obtain ⟨m63, hm63, hr⟩ := bind_out hr
        have B64 : OS w57 5 encI_u8 (Value.slice v48pa v48pn v48pc) m45 := B59.ext E57
        have B65 : OS w57 9 encS (Value.slice i8_0a i8_0n i8_0c) s8.1 := B58.ext E57
        refine da_op rfl (d_append (e := encI_u8) (v := (Value.slice v48pa v48pn v48pc)) (y := (Value.slice (some ⟨w54.heap.size, 0, none⟩) 1 1)) un73 info5 rfl (by kernel_rfl) (by kernel_rfl) (by decide) (by decide) rfl rfl B64 O57.rs hm63 fun v66 w66 O66 Fm66 at_66 nl66 => ?_)
        obtain ⟨v66pa, v66pn, v66pc, rfl⟩ := O66.vals
        have own66 : ∀ k, (Value.slice v66pa v66pn v66pc).ownBlock = some k → w.heap.size ≤ k := app_own (w := w57) at_66 own48 X62.size
        have sp67 : ∀ k, (Value.slice i8_0a i8_0n i8_0c).ownBlock = some k → ¬ (Value.slice v66pa v66pn v66pc).ownBlock = some k := app_nr at_66 sp49 B65
        have sp68 : ∀ k, (Value.slice (some ⟨w54.heap.size, 0, none⟩) 1 1).ownBlock = some k → ¬ (Value.slice v66pa v66pn v66pc).ownBlock = some k := app_nr at_66 (apart_symm sp61) O57
        have X69 : Ext w w66 := Ext.step X62 Fm66 (fun k _ hk => own48 k hk)
        refine da_op rfl (d_as (v := (Value.slice v66pa v66pn v66pc)) rfl ?_)
        refine da_nil ?_
        refine W_region rfl ?_
        refine da_op rfl (d_mv (v := .int .i64 20) rfl ?_)
        refine da_op rfl (d_iarith (r := 16) rfl rfl (.inr (.inl ⟨rfl, (by decide)⟩)) ?_)
        refine da_op rfl (d_as (v := .int .i64 16) rfl ?_)
        refine da_nil ?_
        refine Wr_next ?_
        refine W_seq ?_
        refine W_seq ?_
        refine W_region rfl ?_
        refine da_op rfl (d_mv (v := .int .i64 16) rfl ?_)
        refine da_op rfl (d_icmpL (b := true) cGeq rfl rfl (by decide) ?_)
        refine da_nil ?_
        refine W_true rfl ?_
        refine W_skip ?_
        refine W_seq ?_
        refine W_block ?_
        refine W_region rfl ?_
        refine da_op rfl (d_mv (v := (Value.slice v66pa v66pn v66pc)) rfl ?_)
        refine da_op rfl (d_mv (v := .float .f32 e11_r0) rfl ?_)
        obtain ⟨m70, hm70, hr⟩ := letv_out hr
        have B71 : OS w66 9 encS (Value.slice i8_0a i8_0n i8_0c) s8.1 := B65.frm Fm66 sp49
        refine da_op rfl (d_cl (vs := [.float .f32 e11_r0]) en98 (ac rfl rfl) rfl ?_)
        refine (c98 m10 e11_r0 m70 w66 hm70 e11_h0).mono ?_
        rintro _ w72 ⟨rfl, E72⟩
        refine ⟨_, rfl, ?_⟩
        have X73 : Ext w w72 := X69.trans E72
        refine da_op rfl (d_mv (v := .int .i64 16) rfl ?_)
        refine da_op rfl (d_shrL rfl rfl (n := 16) (by decide) ?_)
        refine da_op rfl (d_and rfl rfl ?_)
        obtain ⟨m74, hm74, hr⟩ := bind_out hr
        refine da_op rfl (d_sidx un9 rfl rfl hm74 ?_)
        have B76 : OS w72 9 encS (Value.slice i8_0a i8_0n i8_0c) s8.1 := B71.ext E72
        have B77 : OS w72 5 encI_u8 (Value.slice v66pa v66pn v66pc) m63 := O66.ext E72
        refine da_op rfl (d_bslice (vs := [(0, .int .u8 m74)]) (cs := #[.int .u8 m74]) un73 (pc rfl rfl) (by kernel_rfl) fun w75 B75 E75 => ?_)
        have fr75 : ∀ k, (Value.slice (some ⟨w72.heap.size, 0, none⟩) 1 1).ownBlock = some k → w72.heap.size ≤ k := fun k hk => by cases hk; exact Nat.le_refl _
        have own75 : ∀ k, (Value.slice (some ⟨w72.heap.size, 0, none⟩) 1 1).ownBlock = some k → w.heap.size ≤ k := fun k hk => Nat.le_trans X73.size (fr75 k hk)
        have sp78 : ∀ k, (Value.slice i8_0a i8_0n i8_0c).ownBlock = some k → ¬ (Value.slice (some ⟨w72.heap.size, 0, none⟩) 1 1).ownBlock = some k := apart_fresh B76 fr75
        have sp79 : ∀ k, (Value.slice v66pa v66pn v66pc).ownBlock = some k → ¬ (Value.slice (some ⟨w72.heap.size, 0, none⟩) 1 1).ownBlock = some k := apart_fresh B77 fr75
        have X80 : Ext w w75 := X73.trans E75
        have O75 : OS w75 5 encI_u8 (Value.slice (some ⟨w72.heap.size, 0, none⟩) 1 1) [m74] := OS.box (xs := [m74]) B75 (lc_v rfl rfl) (Nat.le_of_ble_eq_true rfl)
        obtain ⟨m81, hm81, hr⟩ := bind_out hr
        have B82 : OS w75 5 encI_u8 (Value.slice v66pa v66pn v66pc) m63 := B77.ext E75
        have B83 : OS w75 9 encS (Value.slice i8_0a i8_0n i8_0c) s8.1 := B76.ext E75
        refine da_op rfl (d_append (e := encI_u8) (v := (Value.slice v66pa v66pn v66pc)) (y := (Value.slice (some ⟨w72.heap.size, 0, none⟩) 1 1)) un73 info5 rfl (by kernel_rfl) (by kernel_rfl) (by decide) (by decide) rfl rfl B82 O75.rs hm81 fun v84 w84 O84 Fm84 at_84 nl84 => ?_)
        obtain ⟨v84pa, v84pn, v84pc, rfl⟩ := O84.vals
        have own84 : ∀ k, (Value.slice v84pa v84pn v84pc).ownBlock = some k → w.heap.size ≤ k := app_own (w := w75) at_84 own66 X80.size
        have sp85 : ∀ k, (Value.slice i8_0a i8_0n i8_0c).ownBlock = some k → ¬ (Value.slice v84pa v84pn v84pc).ownBlock = some k := app_nr at_84 sp67 B83
        have sp86 : ∀ k, (Value.slice (some ⟨w72.heap.size, 0, none⟩) 1 1).ownBlock = some k → ¬ (Value.slice v84pa v84pn v84pc).ownBlock = some k := app_nr at_84 (apart_symm sp79) O75
        have X87 : Ext w w84 := Ext.step X80 Fm84 (fun k _ hk => own66 k hk)
        refine da_op rfl (d_as (v := (Value.slice v84pa v84pn v84pc)) rfl ?_)
        refine da_nil ?_
        refine W_region rfl ?_
        refine da_op rfl (d_mv (v := .int .i64 16) rfl ?_)
        refine da_op rfl (d_iarith (r := 12) rfl rfl (.inr (.inl ⟨rfl, (by decide)⟩)) ?_)
        refine da_op rfl (d_as (v := .int .i64 12) rfl ?_)
        refine da_nil ?_
        refine Wr_next ?_
        refine W_seq ?_
        refine W_seq ?_
        refine W_region rfl ?_
        refine da_op rfl (d_mv (v := .int .i64 12) rfl ?_)
        refine da_op rfl (d_icmpL (b := true) cGeq rfl rfl (by decide) ?_)
        refine da_nil ?_
        refine W_true rfl ?_
        refine W_skip ?_
        refine W_seq ?_
        refine W_block ?_
        refine W_region rfl ?_
        refine da_op rfl (d_mv (v := (Value.slice v84pa v84pn v84pc)) rfl ?_)
        refine da_op rfl (d_mv (v := .float .f32 e11_r0) rfl ?_)
        obtain ⟨m88, hm88, hr⟩ := letv_out hr
        have B89 : OS w84 9 encS (Value.slice i8_0a i8_0n i8_0c) s8.1 := B83.frm Fm84 sp67
        refine da_op rfl (d_cl (vs := [.float .f32 e11_r0]) en98 (ac rfl rfl) rfl ?_)
        refine (c98 m10 e11_r0 m88 w84 hm88 e11_h0).mono ?_
        rintro _ w90 ⟨rfl, E90⟩
        refine ⟨_, rfl, ?_⟩
        have X91 : Ext w w90 := X87.trans E90
        refine da_op rfl (d_mv (v := .int .i64 12) rfl ?_)
        refine da_op rfl (d_shrL rfl rfl (n := 12) (by decide) ?_)
        refine da_op rfl (d_and rfl rfl ?_)
        obtain ⟨m92, hm92, hr⟩ := bind_out hr
        refine da_op rfl (d_sidx un9 rfl rfl hm92 ?_)
        have B94 : OS w90 9 encS (Value.slice i8_0a i8_0n i8_0c) s8.1 := B89.ext E90
        have B95 : OS w90 5 encI_u8 (Value.slice v84pa v84pn v84pc) m81 := O84.ext E90
        refine da_op rfl (d_bslice (vs := [(0, .int .u8 m92)]) (cs := #[.int .u8 m92]) un73 (pc rfl rfl) (by kernel_rfl) fun w93 B93 E93 => ?_)
        have fr93 : ∀ k, (Value.slice (some ⟨w90.heap.size, 0, none⟩) 1 1).ownBlock = some k → w90.heap.size ≤ k := fun k hk => by cases hk; exact Nat.le_refl _
        have own93 : ∀ k, (Value.slice (some ⟨w90.heap.size, 0, none⟩) 1 1).ownBlock = some k → w.heap.size ≤ k := fun k hk => Nat.le_trans X91.size (fr93 k hk)
        have sp96 : ∀ k, (Value.slice i8_0a i8_0n i8_0c).ownBlock = some k → ¬ (Value.slice (some ⟨w90.heap.size, 0, none⟩) 1 1).ownBlock = some k := apart_fresh B94 fr93
        have sp97 : ∀ k, (Value.slice v84pa v84pn v84pc).ownBlock = some k → ¬ (Value.slice (some ⟨w90.heap.size, 0, none⟩) 1 1).ownBlock = some k := apart_fresh B95 fr93
        have X98 : Ext w w93 := X91.trans E93
        have O93 : OS w93 5 encI_u8 (Value.slice (some ⟨w90.heap.size, 0, none⟩) 1 1) [m92] := OS.box (xs := [m92]) B93 (lc_v rfl rfl) (Nat.le_of_ble_eq_true rfl)
        obtain ⟨m99, hm99, hr⟩ := bind_out hr
        have B100 : OS w93 5 encI_u8 (Value.slice v84pa v84pn v84pc) m81 := B95.ext E93
        have B101 : OS w93 9 encS (Value.slice i8_0a i8_0n i8_0c) s8.1 := B94.ext E93
        refine da_op rfl (d_append (e := encI_u8) (v := (Value.slice v84pa v84pn v84pc)) (y := (Value.slice (some ⟨w90.heap.size, 0, none⟩) 1 1)) un73 info5 rfl (by kernel_rfl) (by kernel_rfl) (by decide) (by decide) rfl rfl B100 O93.rs hm99 fun v102 w102 O102 Fm102 at_102 nl102 => ?_)
        obtain ⟨v102pa, v102pn, v102pc, rfl⟩ := O102.vals
        have own102 : ∀ k, (Value.slice v102pa v102pn v102pc).ownBlock = some k → w.heap.size ≤ k := app_own (w := w93) at_102 own84 X98.size
        have sp103 : ∀ k, (Value.slice i8_0a i8_0n i8_0c).ownBlock = some k → ¬ (Value.slice v102pa v102pn v102pc).ownBlock = some k := app_nr at_102 sp85 B101
        have sp104 : ∀ k, (Value.slice (some ⟨w90.heap.size, 0, none⟩) 1 1).ownBlock = some k → ¬ (Value.slice v102pa v102pn v102pc).ownBlock = some k := app_nr at_102 (apart_symm sp97) O93
        have X105 : Ext w w102 := Ext.step X98 Fm102 (fun k _ hk => own84 k hk)
        refine da_op rfl (d_as (v := (Value.slice v102pa v102pn v102pc)) rfl ?_)
        refine da_nil ?_
        refine W_region rfl ?_
        refine da_op rfl (d_mv (v := .int .i64 12) rfl ?_)
        refine da_op rfl (d_iarith (r := 8) rfl rfl (.inr (.inl ⟨rfl, (by decide)⟩)) ?_)
        refine da_op rfl (d_as (v := .int .i64 8) rfl ?_)
        refine da_nil ?_
        refine Wr_next ?_
        refine W_seq ?_
        refine W_seq ?_
        refine W_region rfl ?_
        refine da_op rfl (d_mv (v := .int .i64 8) rfl ?_)
        refine da_op rfl (d_icmpL (b := true) cGeq rfl rfl (by decide) ?_)
        refine da_nil ?_
        refine W_true rfl ?_
        refine W_skip ?_
        refine W_seq ?_
        refine W_block ?_
        refine W_region rfl ?_
        refine da_op rfl (d_mv (v := (Value.slice v102pa v102pn v102pc)) rfl ?_)
        refine da_op rfl (d_mv (v := .float .f32 e11_r0) rfl ?_)
        obtain ⟨m106, hm106, hr⟩ := letv_out hr
        have B107 : OS w102 9 encS (Value.slice i8_0a i8_0n i8_0c) s8.1 := B101.frm Fm102 sp85
        refine da_op rfl (d_cl (vs := [.float .f32 e11_r0]) en98 (ac rfl rfl) rfl ?_)
        refine (c98 m10 e11_r0 m106 w102 hm106 e11_h0).mono ?_
        rintro _ w108 ⟨rfl, E108⟩
        refine ⟨_, rfl, ?_⟩
        have X109 : Ext w w108 := X105.trans E108
        refine da_op rfl (d_mv (v := .int .i64 8) rfl ?_)
        refine da_op rfl (d_shrL rfl rfl (n := 8) (by decide) ?_)
        refine da_op rfl (d_and rfl rfl ?_)
        obtain ⟨m110, hm110, hr⟩ := bind_out hr
        refine da_op rfl (d_sidx un9 rfl rfl hm110 ?_)
        have B112 : OS w108 9 encS (Value.slice i8_0a i8_0n i8_0c) s8.1 := B107.ext E108
        have B113 : OS w108 5 encI_u8 (Value.slice v102pa v102pn v102pc) m99 := O102.ext E108
        refine da_op rfl (d_bslice (vs := [(0, .int .u8 m110)]) (cs := #[.int .u8 m110]) un73 (pc rfl rfl) (by kernel_rfl) fun w111 B111 E111 => ?_)
        have fr111 : ∀ k, (Value.slice (some ⟨w108.heap.size, 0, none⟩) 1 1).ownBlock = some k → w108.heap.size ≤ k := fun k hk => by cases hk; exact Nat.le_refl _
        have own111 : ∀ k, (Value.slice (some ⟨w108.heap.size, 0, none⟩) 1 1).ownBlock = some k → w.heap.size ≤ k := fun k hk => Nat.le_trans X109.size (fr111 k hk)
        have sp114 : ∀ k, (Value.slice i8_0a i8_0n i8_0c).ownBlock = some k → ¬ (Value.slice (some ⟨w108.heap.size, 0, none⟩) 1 1).ownBlock = some k := apart_fresh B112 fr111
        have sp115 : ∀ k, (Value.slice v102pa v102pn v102pc).ownBlock = some k → ¬ (Value.slice (some ⟨w108.heap.size, 0, none⟩) 1 1).ownBlock = some k := apart_fresh B113 fr111
        have X116 : Ext w w111 := X109.trans E111
        have O111 : OS w111 5 encI_u8 (Value.slice (some ⟨w108.heap.size, 0, none⟩) 1 1) [m110] := OS.box (xs := [m110]) B111 (lc_v rfl rfl) (Nat.le_of_ble_eq_true rfl)
        obtain ⟨m117, hm117, hr⟩ := bind_out hr
        have B118 : OS w111 5 encI_u8 (Value.slice v102pa v102pn v102pc) m99 := B113.ext E111
        have B119 : OS w111 9 encS (Value.slice i8_0a i8_0n i8_0c) s8.1 := B112.ext E111
        refine da_op rfl (d_append (e := encI_u8) (v := (Value.slice v102pa v102pn v102pc)) (y := (Value.slice (some ⟨w108.heap.size, 0, none⟩) 1 1)) un73 info5 rfl (by kernel_rfl) (by kernel_rfl) (by decide) (by decide) rfl rfl B118 O111.rs hm117 fun v120 w120 O120 Fm120 at_120 nl120 => ?_)
        obtain ⟨v120pa, v120pn, v120pc, rfl⟩ := O120.vals
        have own120 : ∀ k, (Value.slice v120pa v120pn v120pc).ownBlock = some k → w.heap.size ≤ k := app_own (w := w111) at_120 own102 X116.size
        have sp121 : ∀ k, (Value.slice i8_0a i8_0n i8_0c).ownBlock = some k → ¬ (Value.slice v120pa v120pn v120pc).ownBlock = some k := app_nr at_120 sp103 B119
        have sp122 : ∀ k, (Value.slice (some ⟨w108.heap.size, 0, none⟩) 1 1).ownBlock = some k → ¬ (Value.slice v120pa v120pn v120pc).ownBlock = some k := app_nr at_120 (apart_symm sp115) O111
        have X123 : Ext w w120 := Ext.step X116 Fm120 (fun k _ hk => own102 k hk)
        refine da_op rfl (d_as (v := (Value.slice v120pa v120pn v120pc)) rfl ?_)
        refine da_nil ?_
        refine W_region rfl ?_
        refine da_op rfl (d_mv (v := .int .i64 8) rfl ?_)
        refine da_op rfl (d_iarith (r := 4) rfl rfl (.inr (.inl ⟨rfl, (by decide)⟩)) ?_)
        refine da_op rfl (d_as (v := .int .i64 4) rfl ?_)
        refine da_nil ?_
        refine Wr_next ?_
        refine W_seq ?_
        refine W_seq ?_
        refine W_region rfl ?_
        refine da_op rfl (d_mv (v := .int .i64 4) rfl ?_)
        refine da_op rfl (d_icmpL (b := true) cGeq rfl rfl (by decide) ?_)
        refine da_nil ?_
        refine W_true rfl ?_
        refine W_skip ?_
        refine W_seq ?_
        refine W_block ?_
        refine W_region rfl ?_
        refine da_op rfl (d_mv (v := (Value.slice v120pa v120pn v120pc)) rfl ?_)
        refine da_op rfl (d_mv (v := .float .f32 e11_r0) rfl ?_)
        obtain ⟨m124, hm124, hr⟩ := letv_out hr
        have B125 : OS w120 9 encS (Value.slice i8_0a i8_0n i8_0c) s8.1 := B119.frm Fm120 sp103
        refine da_op rfl (d_cl (vs := [.float .f32 e11_r0]) en98 (ac rfl rfl) rfl ?_)
        refine (c98 m10 e11_r0 m124 w120 hm124 e11_h0).mono ?_
        rintro _ w126 ⟨rfl, E126⟩
        refine ⟨_, rfl, ?_⟩
        have X127 : Ext w w126 := X123.trans E126
        refine da_op rfl (d_mv (v := .int .i64 4) rfl ?_)
        refine da_op rfl (d_shrL rfl rfl (n := 4) (by decide) ?_)
        refine da_op rfl (d_and rfl rfl ?_)
        obtain ⟨m128, hm128, hr⟩ := bind_out hr
        refine da_op rfl (d_sidx un9 rfl rfl hm128 ?_)
        have B130 : OS w126 9 encS (Value.slice i8_0a i8_0n i8_0c) s8.1 := B125.ext E126
        have B131 : OS w126 5 encI_u8 (Value.slice v120pa v120pn v120pc) m117 := O120.ext E126
        refine da_op rfl (d_bslice (vs := [(0, .int .u8 m128)]) (cs := #[.int .u8 m128]) un73 (pc rfl rfl) (by kernel_rfl) fun w129 B129 E129 => ?_)
        have fr129 : ∀ k, (Value.slice (some ⟨w126.heap.size, 0, none⟩) 1 1).ownBlock = some k → w126.heap.size ≤ k := fun k hk => by cases hk; exact Nat.le_refl _
        have own129 : ∀ k, (Value.slice (some ⟨w126.heap.size, 0, none⟩) 1 1).ownBlock = some k → w.heap.size ≤ k := fun k hk => Nat.le_trans X127.size (fr129 k hk)
        have sp132 : ∀ k, (Value.slice i8_0a i8_0n i8_0c).ownBlock = some k → ¬ (Value.slice (some ⟨w126.heap.size, 0, none⟩) 1 1).ownBlock = some k := apart_fresh B130 fr129
        have sp133 : ∀ k, (Value.slice v120pa v120pn v120pc).ownBlock = some k → ¬ (Value.slice (some ⟨w126.heap.size, 0, none⟩) 1 1).ownBlock = some k := apart_fresh B131 fr129
        have X134 : Ext w w129 := X127.trans E129
        have O129 : OS w129 5 encI_u8 (Value.slice (some ⟨w126.heap.size, 0, none⟩) 1 1) [m128] := OS.box (xs := [m128]) B129 (lc_v rfl rfl) (Nat.le_of_ble_eq_true rfl)
        obtain ⟨m135, hm135, hr⟩ := bind_out hr
        have B136 : OS w129 5 encI_u8 (Value.slice v120pa v120pn v120pc) m117 := B131.ext E129
        have B137 : OS w129 9 encS (Value.slice i8_0a i8_0n i8_0c) s8.1 := B130.ext E129
        refine da_op rfl (d_append (e := encI_u8) (v := (Value.slice v120pa v120pn v120pc)) (y := (Value.slice (some ⟨w126.heap.size, 0, none⟩) 1 1)) un73 info5 rfl (by kernel_rfl) (by kernel_rfl) (by decide) (by decide) rfl rfl B136 O129.rs hm135 fun v138 w138 O138 Fm138 at_138 nl138 => ?_)
        obtain ⟨v138pa, v138pn, v138pc, rfl⟩ := O138.vals
        have own138 : ∀ k, (Value.slice v138pa v138pn v138pc).ownBlock = some k → w.heap.size ≤ k := app_own (w := w129) at_138 own120 X134.size
        have sp139 : ∀ k, (Value.slice i8_0a i8_0n i8_0c).ownBlock = some k → ¬ (Value.slice v138pa v138pn v138pc).ownBlock = some k := app_nr at_138 sp121 B137
        have sp140 : ∀ k, (Value.slice (some ⟨w126.heap.size, 0, none⟩) 1 1).ownBlock = some k → ¬ (Value.slice v138pa v138pn v138pc).ownBlock = some k := app_nr at_138 (apart_symm sp133) O129
        have X141 : Ext w w138 := Ext.step X134 Fm138 (fun k _ hk => own120 k hk)
        refine da_op rfl (d_as (v := (Value.slice v138pa v138pn v138pc)) rfl ?_)
        refine da_nil ?_
        refine W_region rfl ?_
        refine da_op rfl (d_mv (v := .int .i64 4) rfl ?_)
        refine da_op rfl (d_iarith (r := 0) rfl rfl (.inr (.inl ⟨rfl, (by decide)⟩)) ?_)
        refine da_op rfl (d_as (v := .int .i64 0) rfl ?_)
        refine da_nil ?_
        refine Wr_next ?_
        refine W_seq ?_
        refine W_seq ?_
        refine W_region rfl ?_
        refine da_op rfl (d_mv (v := .int .i64 0) rfl ?_)
        refine da_op rfl (d_icmpL (b := true) cGeq rfl rfl (by decide) ?_)
        refine da_nil ?_
        refine W_true rfl ?_
        refine W_skip ?_
        refine W_seq ?_
        refine W_block ?_
        refine W_region rfl ?_
        refine da_op rfl (d_mv (v := (Value.slice v138pa v138pn v138pc)) rfl ?_)
        refine da_op rfl (d_mv (v := .float .f32 e11_r0) rfl ?_)
        obtain ⟨m142, hm142, hr⟩ := letv_out hr
        have B143 : OS w138 9 encS (Value.slice i8_0a i8_0n i8_0c) s8.1 := B137.frm Fm138 sp121
        refine da_op rfl (d_cl (vs := [.float .f32 e11_r0]) en98 (ac rfl rfl) rfl ?_)
        refine (c98 m10 e11_r0 m142 w138 hm142 e11_h0).mono ?_
        rintro _ w144 ⟨rfl, E144⟩
        refine ⟨_, rfl, ?_⟩
        have X145 : Ext w w144 := X141.trans E144
        refine da_op rfl (d_mv (v := .int .i64 0) rfl ?_)
        refine da_op rfl (d_shrL rfl rfl (n := 0) (by decide) ?_)
        refine da_op rfl (d_and rfl rfl ?_)
        obtain ⟨m146, hm146, hr⟩ := bind_out hr
        refine da_op rfl (d_sidx un9 rfl rfl hm146 ?_)
        have B148 : OS w144 9 encS (Value.slice i8_0a i8_0n i8_0c) s8.1 := B143.ext E144
        have B149 : OS w144 5 encI_u8 (Value.slice v138pa v138pn v138pc) m135 := O138.ext E144
        refine da_op rfl (d_bslice (vs := [(0, .int .u8 m146)]) (cs := #[.int .u8 m146]) un73 (pc rfl rfl) (by kernel_rfl) fun w147 B147 E147 => ?_)
        have fr147 : ∀ k, (Value.slice (some ⟨w144.heap.size, 0, none⟩) 1 1).ownBlock = some k → w144.heap.size ≤ k := fun k hk => by cases hk; exact Nat.le_refl _
        have own147 : ∀ k, (Value.slice (some ⟨w144.heap.size, 0, none⟩) 1 1).ownBlock = some k → w.heap.size ≤ k := fun k hk => Nat.le_trans X145.size (fr147 k hk)
        have sp150 : ∀ k, (Value.slice i8_0a i8_0n i8_0c).ownBlock = some k → ¬ (Value.slice (some ⟨w144.heap.size, 0, none⟩) 1 1).ownBlock = some k := apart_fresh B148 fr147
        have sp151 : ∀ k, (Value.slice v138pa v138pn v138pc).ownBlock = some k → ¬ (Value.slice (some ⟨w144.heap.size, 0, none⟩) 1 1).ownBlock = some k := apart_fresh B149 fr147
        have X152 : Ext w w147 := X145.trans E147
        have O147 : OS w147 5 encI_u8 (Value.slice (some ⟨w144.heap.size, 0, none⟩) 1 1) [m146] := OS.box (xs := [m146]) B147 (lc_v rfl rfl) (Nat.le_of_ble_eq_true rfl)
        obtain ⟨m153, hm153, hr⟩ := bind_out hr
        have B154 : OS w147 5 encI_u8 (Value.slice v138pa v138pn v138pc) m135 := B149.ext E147
        have B155 : OS w147 9 encS (Value.slice i8_0a i8_0n i8_0c) s8.1 := B148.ext E147
        refine da_op rfl (d_append (e := encI_u8) (v := (Value.slice v138pa v138pn v138pc)) (y := (Value.slice (some ⟨w144.heap.size, 0, none⟩) 1 1)) un73 info5 rfl (by kernel_rfl) (by kernel_rfl) (by decide) (by decide) rfl rfl B154 O147.rs hm153 fun v156 w156 O156 Fm156 at_156 nl156 => ?_)
        obtain ⟨v156pa, v156pn, v156pc, rfl⟩ := O156.vals
        have own156 : ∀ k, (Value.slice v156pa v156pn v156pc).ownBlock = some k → w.heap.size ≤ k := app_own (w := w147) at_156 own138 X152.size
        have sp157 : ∀ k, (Value.slice i8_0a i8_0n i8_0c).ownBlock = some k → ¬ (Value.slice v156pa v156pn v156pc).ownBlock = some k := app_nr at_156 sp139 B155
        have sp158 : ∀ k, (Value.slice (some ⟨w144.heap.size, 0, none⟩) 1 1).ownBlock = some k → ¬ (Value.slice v156pa v156pn v156pc).ownBlock = some k := app_nr at_156 (apart_symm sp151) O147
        have X159 : Ext w w156 := Ext.step X152 Fm156 (fun k _ hk => own138 k hk)
        refine da_op rfl (d_as (v := (Value.slice v156pa v156pn v156pc)) rfl ?_)
        refine da_nil ?_
        refine W_region rfl ?_
        refine da_op rfl (d_mv (v := .int .i64 0) rfl ?_)
        refine da_op rfl (d_iarith (r := -4) rfl rfl (.inr (.inl ⟨rfl, (by decide)⟩)) ?_)
        refine da_op rfl (d_as (v := .int .i64 (-4)) rfl ?_)
        refine da_nil ?_
        refine Wr_next ?_
        refine W_seq ?_
        refine W_seq ?_
        refine W_region rfl ?_
        refine da_op rfl (d_mv (v := .int .i64 (-4)) rfl ?_)
        refine da_op rfl (d_icmpL (b := false) cGeq rfl rfl (by decide) ?_)
        refine da_nil ?_
        refine W_false rfl ?_
        refine W_exit ?_
        refine W_region rfl ?_
        refine da_op rfl (d_mv (v := (Value.slice i8_0a i8_0n i8_0c)) i8_S4 ?_)
        refine da_op rfl (d_mv (v := (Value.slice v156pa v156pn v156pc)) rfl ?_)
        refine da_op rfl (d_bstr (e := encI_u8) (v := (Value.slice v156pa v156pn v156pc)) rfl un73 un5 un9 rfl O156.rs ?_)
        have B161 : OS w156 9 encS (Value.slice i8_0a i8_0n i8_0c) s8.1 := B155.frm Fm156 sp139
        refine da_op rfl (d_bslice (vs := [(0, .string (bs (u8s m153)))]) (cs := #[.string (bs (u8s m153))]) un34 (pc rfl rfl) (by kernel_rfl) fun w160 B160 E160 => ?_)
        have fr160 : ∀ k, (Value.slice (some ⟨w156.heap.size, 0, none⟩) 1 1).ownBlock = some k → w156.heap.size ≤ k := fun k hk => by cases hk; exact Nat.le_refl _
        have own160 : ∀ k, (Value.slice (some ⟨w156.heap.size, 0, none⟩) 1 1).ownBlock = some k → w.heap.size ≤ k := fun k hk => Nat.le_trans X159.size (fr160 k hk)
        have sp162 : ∀ k, (Value.slice i8_0a i8_0n i8_0c).ownBlock = some k → ¬ (Value.slice (some ⟨w156.heap.size, 0, none⟩) 1 1).ownBlock = some k := apart_fresh B161 fr160
        have sp163 : ∀ k, (Value.slice v156pa v156pn v156pc).ownBlock = some k → ¬ (Value.slice (some ⟨w156.heap.size, 0, none⟩) 1 1).ownBlock = some k := apart_fresh O156 fr160
        have X164 : Ext w w160 := X159.trans E160
        have O160 : OS w160 9 encS (Value.slice (some ⟨w156.heap.size, 0, none⟩) 1 1) [(u8s m153)] := OS.box (xs := [(u8s m153)]) B160 (lc_v rfl rfl) (Nat.le_of_ble_eq_true rfl)
        obtain ⟨m165, hm165, hr⟩ := bind_out hr
        have B166 : OS w160 9 encS (Value.slice i8_0a i8_0n i8_0c) s8.1 := B161.ext E160
        have B167 : OS w160 5 encI_u8 (Value.slice v156pa v156pn v156pc) m153 := O156.ext E160
        refine da_op rfl (d_append (e := encS) (v := (Value.slice i8_0a i8_0n i8_0c)) (y := (Value.slice (some ⟨w156.heap.size, 0, none⟩) 1 1)) un34 info9 rfl (by kernel_rfl) (by kernel_rfl) (by decide) (by decide) rfl rfl B166 O160.rs hm165 fun v168 w168 O168 Fm168 at_168 nl168 => ?_)
        obtain ⟨v168pa, v168pn, v168pc, rfl⟩ := O168.vals
        have own168 : ∀ k, (Value.slice v168pa v168pn v168pc).ownBlock = some k → w.heap.size ≤ k := app_own (w := w160) at_168 i8_0O X164.size
        have sp169 : ∀ k, (Value.slice v156pa v156pn v156pc).ownBlock = some k → ¬ (Value.slice v168pa v168pn v168pc).ownBlock = some k := app_nr at_168 (apart_symm sp157) B167
        have sp170 : ∀ k, (Value.slice (some ⟨w156.heap.size, 0, none⟩) 1 1).ownBlock = some k → ¬ (Value.slice v168pa v168pn v168pc).ownBlock = some k := app_nr at_168 (apart_symm sp162) O160
        have X171 : Ext w w168 := Ext.step X164 Fm168 (fun k _ hk => i8_0O k hk)
        refine da_op rfl (d_as (v := (Value.slice v168pa v168pn v168pc)) rfl ?_)
        refine da_nil ?_
        refine W_region rfl ?_
        refine da_op rfl (d_iarith i8_S15 rfl (.inl ⟨rfl, rfl⟩) ?_)
        refine da_op rfl (d_mv (v := .int .i64 (IntKind.i64.wrap (s8.2 + 1))) rfl ?_)
        refine da_nil ?_
        obtain rfl := Option.some.inj hr
        exact ⟨_, rfl, ⟨v168pa, v168pn, v168pc, rfl, rfl, i8_S13, i8_S14, O168, own168, X171⟩⟩
      · skip
        replace hr := bif_f hr hc9
        refine W_exit ?_
        obtain rfl := Option.some.inj hr
        exact ⟨_, rfl, rfl, i8_0a, i8_0n, i8_0c, i8_S4, i8_0R, i8_0O, i8_X⟩
    · skip
      intro ex σx8 wx8 hq
      obtain ⟨rfl, q8_0_0a, q8_0_0n, q8_0_0c, q8_0_S4, q8_0_0R, q8_0_0O, q8_0_X⟩ := hq
      refine W_seq ?_
      refine W_region rfl ?_
      refine da_op rfl (d_mv (v := (Value.slice q8_0_0a q8_0_0n q8_0_0c)) q8_0_S4 ?_)
      obtain ⟨m172, hm172, hr⟩ := bind_out hr
      refine da_op rfl (d_cl (vs := [(Value.slice q8_0_0a q8_0_0n q8_0_0c)]) en99 (ac rfl rfl) rfl ?_)
      refine (c99 m8 q8_0_0a q8_0_0n q8_0_0c m172 wx8 hm172 q8_0_0R.rs).mono ?_
      rintro _ w173 ⟨rfl, E173⟩
      refine ⟨_, rfl, ?_⟩
      have X174 : Ext w w173 := q8_0_X.trans E173
      refine da_op rfl (d_as (v := .string (bs m172)) rfl ?_)
      refine da_op rfl (d_as (v := .bool true) rfl ?_)
      refine da_nil ?_
      refine W_ret ?_
      obtain rfl := Option.some.inj hr
      refine ⟨_, res2 (rv_tmp rfl) (rv_tmp rfl), ?_⟩
      exact ⟨rfl, X174⟩
set_option maxHeartbeats 4000000 in
theorem c89 (p0 : List Nat) (p0a : Option Addr) (p0n : Nat) (p0c : Nat) (r : List UInt8) (w : World) (hr : M.impl_numbersText p0 = some r) (p0R : RS w encF_f32 (Value.slice p0a p0n p0c) p0) :
    Calls Tryd.prog 89 #[(Value.slice p0a p0n p0c)] w fun e w' => e = .returned (.string (bs r)) ∧ Ext w w' := by
  refine calls_of_W Tryd.func89 rfl (Nat.le_of_ble_eq_true rfl) ?_
  refine W_seq ?_
  refine W_region rfl ?_
  refine da_op rfl (d_as (v := .string (bs ([] : List UInt8))) rfl ?_)
  refine da_nil ?_
  refine W_seq ?_
  refine W_region rfl ?_
  refine da_op rfl (d_mv (v := (Value.slice p0a p0n p0c)) rfl ?_)
  obtain ⟨m1, hm1, hr⟩ := bind_out hr
  refine da_op rfl (d_cl (vs := [(Value.slice p0a p0n p0c)]) en42 (ac rfl rfl) rfl ?_)
  refine (c42 p0 p0a p0n p0c m1 w hm1 p0R).mono ?_
  rintro _ w2 ⟨rfl, E2⟩
  refine ⟨_, rfl, ?_⟩
  have X3 : Ext w w2 := (Ext.refl w).trans E2
  refine da_op rfl (d_mv (v := .tuple #[.string (bs m1.1), .bool m1.2]) rfl ?_)
  refine da_op rfl (d_extract (v := .string (bs m1.1)) rfl rfl ?_)
  refine da_op rfl (d_extract (v := .bool m1.2) rfl rfl ?_)
  refine da_op rfl (d_as (v := .string (bs m1.1)) rfl ?_)
  refine da_op rfl (d_as (v := .bool m1.2) rfl ?_)
  refine da_nil ?_
  refine W_seq ?_
  refine W_region rfl ?_
  refine da_op rfl (d_mv (v := .string (bs m1.1)) rfl ?_)
  refine da_op rfl (d_as (v := .string (bs m1.1)) rfl ?_)
  refine da_nil ?_
  refine W_ret ?_
  obtain rfl := Option.some.inj hr
  refine ⟨_, res1 (rv_tmp rfl), ?_⟩
  exact ⟨rfl, X3⟩
set_option maxHeartbeats 4000000 in
theorem c183 (p0 : SVector) (p0r0 : Nat) (p0r1 : Nat) (p0r2 : Nat) (r : List Nat) (w : World) (hr : M.impl_Vector_numbers p0 = r) (p0h0 : cn .f32 p0r0 = p0.x) (p0h1 : cn .f32 p0r1 = p0.y) (p0h2 : cn .f32 p0r2 = p0.z) :
    Calls Tryd.prog 183 #[.agg #[.float .f32 p0r0, .float .f32 p0r1, .float .f32 p0r2]] w fun e w' => ∃ q0a : Option Addr, ∃ q0n : Nat, ∃ q0c : Nat, e = .returned ((Value.slice q0a q0n q0c)) ∧ OS w' 22 encF_f32 (Value.slice q0a q0n q0c) r ∧ (∀ k, (Value.slice q0a q0n q0c).ownBlock = some k → w.heap.size ≤ k) ∧ Ext w w' := by
  refine calls_of_W Tryd.func183 rfl (Nat.le_of_ble_eq_true rfl) ?_
  refine W_seq ?_
  refine W_region rfl ?_
  refine da_op rfl (d_box (cs := #[.float .f32 p0r0, .float .f32 p0r1, .float .f32 p0r2]) rfl fun w1 B1 E1 => ?_)
  have own2 : w.heap.size ≤ w.heap.size := Nat.le_trans (Ext.refl w).size (Nat.le_refl _)
  have X3 : Ext w w1 := (Ext.refl w).trans E1
  refine da_op rfl (d_as (v := .slice none 0 0) rfl ?_)
  refine da_nil ?_
  refine W_seq ?_
  refine W_region rfl ?_
  refine da_op rfl (d_fieldAddr rfl (fa44_0 _ _) ?_)
  refine da_op rfl (d_load (v := .float .f32 p0r0) rfl agg22 B1 rfl ?_)
  refine da_op rfl (d_fieldAddr rfl (fa44_1 _ _) ?_)
  refine da_op rfl (d_load (v := .float .f32 p0r1) rfl agg22 B1 rfl ?_)
  refine da_op rfl (d_fieldAddr rfl (fa44_2 _ _) ?_)
  refine da_op rfl (d_load (v := .float .f32 p0r2) rfl agg22 B1 rfl ?_)
  refine da_op rfl (d_bslice (vs := [(0, .float .f32 p0r0), (1, .float .f32 p0r1), (2, .float .f32 p0r2)]) (cs := #[.float .f32 p0r0, .float .f32 p0r1, .float .f32 p0r2]) un53 (pc rfl (pc rfl (pc rfl rfl))) (by kernel_rfl) fun w4 B4 E4 => ?_)
  have fr4 : ∀ k, (Value.slice (some ⟨w1.heap.size, 0, none⟩) 3 3).ownBlock = some k → w1.heap.size ≤ k := fun k hk => by cases hk; exact Nat.le_refl _
  have own4 : ∀ k, (Value.slice (some ⟨w1.heap.size, 0, none⟩) 3 3).ownBlock = some k → w.heap.size ≤ k := fun k hk => Nat.le_trans X3.size (fr4 k hk)
  have sp5 : ¬ (Value.slice (some ⟨w1.heap.size, 0, none⟩) 3 3).ownBlock = some w.heap.size := ne_fresh fr4 (lt_heap B1)
  have X6 : Ext w w4 := X3.trans E4
  have O4 : OS w4 22 encF_f32 (Value.slice (some ⟨w1.heap.size, 0, none⟩) 3 3) [p0.x, p0.y, p0.z] := OS.box (xs := [p0.x, p0.y, p0.z]) B4 (lc_f p0h0 (lc_f p0h1 (lc_f p0h2 rfl))) (Nat.le_of_ble_eq_true rfl)
  refine da_op rfl (d_as (v := (Value.slice (some ⟨w1.heap.size, 0, none⟩) 3 3)) rfl ?_)
  refine da_nil ?_
  refine W_ret ?_
  subst hr
  refine ⟨_, res1 (rv_tmp rfl), ?_⟩
  exact ⟨(some ⟨w1.heap.size, 0, none⟩), 3, 3, rfl, O4, own4, X6⟩
set_option maxHeartbeats 4000000 in
theorem c148 (p0 : SVector) (p0r0 : Nat) (p0r1 : Nat) (p0r2 : Nat) (r : List UInt8) (w : World) (hr : M.impl_VectorText p0 = some r) (p0h0 : cn .f32 p0r0 = p0.x) (p0h1 : cn .f32 p0r1 = p0.y) (p0h2 : cn .f32 p0r2 = p0.z) :
    Calls Tryd.prog 148 #[.agg #[.float .f32 p0r0, .float .f32 p0r1, .float .f32 p0r2]] w fun e w' => e = .returned (.string (bs r)) ∧ Ext w w' := by
  refine calls_of_W Tryd.func148 rfl (Nat.le_of_ble_eq_true rfl) ?_
  refine W_seq ?_
  refine W_region rfl ?_
  refine da_op rfl (d_box (cs := #[.float .f32 p0r0, .float .f32 p0r1, .float .f32 p0r2]) rfl fun w1 B1 E1 => ?_)
  have own2 : w.heap.size ≤ w.heap.size := Nat.le_trans (Ext.refl w).size (Nat.le_refl _)
  have X3 : Ext w w1 := (Ext.refl w).trans E1
  refine da_op rfl (d_as (v := .string (bs ([] : List UInt8))) rfl ?_)
  refine da_nil ?_
  refine W_seq ?_
  refine W_region rfl ?_
  refine da_op rfl (d_loads (vs := #[.float .f32 p0r0, .float .f32 p0r1, .float .f32 p0r2]) rfl agg44 size44 B1 rfl ?_)
  obtain ⟨m4, hm4, hr⟩ := letv_out hr
  refine da_op rfl (d_cl (vs := [.agg #[.float .f32 p0r0, .float .f32 p0r1, .float .f32 p0r2]]) en183 (ac rfl rfl) rfl ?_)
  refine (c183 p0 p0r0 p0r1 p0r2 m4 w1 hm4 p0h0 p0h1 p0h2).mono ?_
  rintro _ w5 ⟨q5_0a, q5_0n, q5_0c, rfl, q5_0R, q5_0F, E5⟩
  refine ⟨_, rfl, ?_⟩
  have own6 : ∀ k, (Value.slice q5_0a q5_0n q5_0c).ownBlock = some k → w.heap.size ≤ k := fun k hk => Nat.le_trans X3.size (q5_0F k hk)
  have sp7 : ¬ (Value.slice q5_0a q5_0n q5_0c).ownBlock = some w.heap.size := ne_fresh q5_0F (lt_heap B1)
  have X8 : Ext w w5 := X3.trans E5
  obtain ⟨m9, hm9, hr⟩ := bind_out hr
  have B10 : w5.heap[w.heap.size]? = some (.cells #[.float .f32 p0r0, .float .f32 p0r1, .float .f32 p0r2] 44 (0, 0)) := E5.heap B1
  refine da_op rfl (d_cl (vs := [(Value.slice q5_0a q5_0n q5_0c)]) en42 (ac rfl rfl) rfl ?_)
  refine (c42 m4 q5_0a q5_0n q5_0c m9 w5 hm9 q5_0R.rs).mono ?_
  rintro _ w11 ⟨rfl, E11⟩
  refine ⟨_, rfl, ?_⟩
  have X12 : Ext w w11 := X8.trans E11
  refine da_op rfl (d_mv (v := .tuple #[.string (bs m9.1), .bool m9.2]) rfl ?_)
  refine da_op rfl (d_extract (v := .string (bs m9.1)) rfl rfl ?_)
  refine da_op rfl (d_extract (v := .bool m9.2) rfl rfl ?_)
  refine da_op rfl (d_as (v := .string (bs m9.1)) rfl ?_)
  refine da_op rfl (d_as (v := .bool m9.2) rfl ?_)
  refine da_nil ?_
  refine W_seq ?_
  refine W_region rfl ?_
  refine da_op rfl (d_mv (v := .string (bs m9.1)) rfl ?_)
  refine da_op rfl (d_as (v := .string (bs m9.1)) rfl ?_)
  refine da_nil ?_
  refine W_ret ?_
  obtain rfl := Option.some.inj hr
  refine ⟨_, res1 (rv_tmp rfl), ?_⟩
  exact ⟨rfl, X12⟩
set_option maxHeartbeats 4000000 in
theorem c92 (p0 : List (List UInt8)) (p0a : Option Addr) (p0n : Nat) (p0c : Nat) (r : List UInt8) (w : World) (hr : M.impl_joinedBy p0 = some r) (p0R : RS w encS (Value.slice p0a p0n p0c) p0) :
    Calls Tryd.prog 92 #[(Value.slice p0a p0n p0c)] w fun e w' => e = .returned (.string (bs r)) ∧ Ext w w' := by
  refine calls_of_W Tryd.func92 rfl (Nat.le_of_ble_eq_true rfl) ?_
  refine W_seq ?_
  refine W_region rfl ?_
  refine da_op rfl (d_as (v := .string (bs ([] : List UInt8))) rfl ?_)
  refine da_nil ?_
  refine W_seq ?_
  refine W_seq ?_
  refine W_region rfl ?_
  refine da_op rfl (d_mv (v := (Value.slice p0a p0n p0c)) rfl ?_)
  refine da_op rfl (d_len (e := encS) un34 rfl p0R ?_)
  refine da_op rfl (d_icmp cEql rfl rfl ?_)
  refine da_nil ?_
  refine W_cond (b := (icmp .eql ((p0).length : Int) 0)) rfl (fun hc1 => ?_) (fun hc1 => ?_)
  · skip
    replace hr := bif_t hr hc1
    refine W_seq ?_
    refine W_region rfl ?_
    refine da_op rfl (d_as (v := .string (bs ([110, 111, 110, 101] : List UInt8))) rfl ?_)
    refine da_nil ?_
    refine W_ret ?_
    obtain rfl := Option.some.inj hr
    refine ⟨_, res1 (rv_tmp rfl), ?_⟩
    exact ⟨rfl, (Ext.refl w)⟩
  · skip
    replace hr := bif_f hr hc1
    refine W_skip ?_
    refine W_seq ?_
    refine W_region rfl ?_
    refine da_op rfl (d_mv (v := (Value.slice p0a p0n p0c)) rfl ?_)
    obtain ⟨m3, hm3, hr⟩ := bind_out hr
    refine da_op rfl (d_cl (vs := [(Value.slice p0a p0n p0c), .string (bs ([47] : List UInt8))]) en90 (ac rfl (ac rfl rfl)) rfl ?_)
    refine (sh90 hm3 p0R).mono ?_
    rintro _ w2 ⟨rfl, E2⟩
    refine ⟨_, rfl, ?_⟩
    have X4 : Ext w w2 := (Ext.refl w).trans E2
    refine da_op rfl (d_as (v := .string (bs m3)) rfl ?_)
    refine da_nil ?_
    refine W_ret ?_
    obtain rfl := Option.some.inj hr
    refine ⟨_, res1 (rv_tmp rfl), ?_⟩
    exact ⟨rfl, X4⟩
set_option maxHeartbeats 4000000 in
theorem c91 (p0 : List SVector) (p0a : Option Addr) (p0n : Nat) (p0c : Nat) (r : List UInt8) (w : World) (hr : M.impl_vectorsText p0 = some r) (p0R : RS w encSVector (Value.slice p0a p0n p0c) p0) :
    Calls Tryd.prog 91 #[(Value.slice p0a p0n p0c)] w fun e w' => e = .returned (.string (bs r)) ∧ Ext w w' := by
  refine calls_of_W Tryd.func91 rfl (Nat.le_of_ble_eq_true rfl) ?_
  refine W_seq ?_
  refine W_region rfl ?_
  refine da_op rfl (d_as (v := .string (bs ([] : List UInt8))) rfl ?_)
  refine da_nil ?_
  refine W_seq ?_
  refine W_region rfl ?_
  refine da_op rfl (d_bslice0 un34 size9 fun w1 B1 E1 => ?_)
  have fr1 : ∀ k, (Value.slice (some ⟨w.heap.size, 0, none⟩) 0 0).ownBlock = some k → w.heap.size ≤ k := fun k hk => by cases hk; exact Nat.le_refl _
  have own1 : ∀ k, (Value.slice (some ⟨w.heap.size, 0, none⟩) 0 0).ownBlock = some k → w.heap.size ≤ k := fun k hk => Nat.le_trans (Ext.refl w).size (fr1 k hk)
  have X2 : Ext w w1 := (Ext.refl w).trans E1
  have O1 : OS w1 9 encS (Value.slice (some ⟨w.heap.size, 0, none⟩) 0 0) ([] : List (List UInt8)) := OS.box (xs := ([] : List (List UInt8))) B1 rfl (Nat.le_of_ble_eq_true rfl)
  refine da_op rfl (d_as (v := (Value.slice (some ⟨w.heap.size, 0, none⟩) 0 0)) rfl ?_)
  refine da_nil ?_
  refine W_seq ?_
  refine W_seq ?_
  refine W_region rfl ?_
  refine da_op rfl (d_mv (v := (Value.slice p0a p0n p0c)) rfl ?_)
  have B3 : RS w1 encSVector (Value.slice p0a p0n p0c) p0 := p0R.ext X2
  refine da_op rfl (d_len (e := encSVector) un66 rfl B3 ?_)
  refine da_op rfl (d_mv (v := .int .i64 0) rfl ?_)
  refine da_nil ?_
  refine W_block ?_
  obtain ⟨m4, hm4, hr⟩ := bind_out hr
  refine W_loopM hm4 (fun (s4 : List (List UInt8) × Int) σ w' => ∃ i4_0a : Option Addr, ∃ i4_0n : Nat, ∃ i4_0c : Nat, σ 3 = (Value.slice i4_0a i4_0n i4_0c) ∧ σ 9 = .int .i64 s4.2 ∧ σ 7 = (Value.slice p0a p0n p0c) ∧ σ 8 = .int .i64 ((p0).length : Int) ∧ OS w' 9 encS (Value.slice i4_0a i4_0n i4_0c) s4.1 ∧ (∀ k, (Value.slice i4_0a i4_0n i4_0c).ownBlock = some k → w.heap.size ≤ k) ∧ Ext w w') (fun (e4 : (List (List UInt8))) ex σ w' => ex = .exit 0 ∧ ∃ q4_0_0a : Option Addr, ∃ q4_0_0n : Nat, ∃ q4_0_0c : Nat, σ 3 = (Value.slice q4_0_0a q4_0_0n q4_0_0c) ∧ OS w' 9 encS (Value.slice q4_0_0a q4_0_0n q4_0_0c) e4 ∧ (∀ k, (Value.slice q4_0_0a q4_0_0n q4_0_0c).ownBlock = some k → w.heap.size ≤ k) ∧ Ext w w') ⟨(some ⟨w.heap.size, 0, none⟩), 0, 0, rfl, rfl, rfl, rfl, O1, own1, X2⟩ ?_ ?_
  · skip
    rintro s4 σl4 wl4 r4l ⟨i4_0a, i4_0n, i4_0c, i4_S3, i4_S9, i4_S7, i4_S8, i4_0R, i4_0O, i4_X⟩ hr
    refine W_seq ?_
    refine W_region rfl ?_
    refine da_op rfl (d_icmp cLss i4_S9 i4_S8 ?_)
    refine da_nil ?_
    refine W_seq ?_
    refine W_cond (b := (icmp .lss s4.2 ((p0).length : Int))) rfl (fun hc5 => ?_) (fun hc5 => ?_)
    · skip
      replace hr := bif_t hr hc5
      refine W_skip ?_
      refine W_seq ?_
      refine W_block ?_
      refine W_seq ?_
      refine W_region rfl ?_
      obtain ⟨m6, hm6, hr⟩ := bind_out hr
      have B8 : RS wl4 encSVector (Value.slice p0a p0n p0c) p0 := p0R.ext i4_X
      refine da_op rfl (d_index (e := encSVector) (v := (Value.slice p0a p0n p0c)) un66 size44 i4_S7 i4_S9 B8 hm6 fun g7 o7 cu7 T7 fr7 vs7 hv7 hg7 hp7 hq7 => ?_)
      obtain ⟨e7_r0, e7_r1, e7_r2, rfl, e7_h0, e7_h1, e7_h2⟩ := dec_encSVector hq7
      refine da_op rfl (d_loads (vs := #[.float .f32 e7_r0, .float .f32 e7_r1, .float .f32 e7_r2]) rfl agg44 size44 hg7 (sub_take (vs := #[.float .f32 e7_r0, .float .f32 e7_r1, .float .f32 e7_r2]) (us := #[.float .f32 e7_r0, .float .f32 e7_r1, .float .f32 e7_r2]) (i := 0) hp7 rfl (Nat.le_of_ble_eq_true rfl)) ?_)
      refine da_op rfl (d_alloc (cs := #[.float .f32 0, .float .f32 0, .float .f32 0]) zero44 rfl fun w9 B9 E9 => ?_)
      have own10 : w.heap.size ≤ wl4.heap.size := Nat.le_trans i4_X.size (Nat.le_refl _)
      have sp11 : ¬ (Value.slice i4_0a i4_0n i4_0c).ownBlock = some wl4.heap.size := OS.ne_new i4_0R (Nat.le_refl _)
      have sp12 : g7 ≠ wl4.heap.size := Nat.ne_of_lt (Nat.lt_of_lt_of_le (lt_heap hg7) (Nat.le_refl _))
      have X13 : Ext w w9 := i4_X.trans E9
      refine da_op rfl (d_store (vs := #[.float .f32 e7_r0, .float .f32 e7_r1, .float .f32 e7_r2]) rfl rfl B9 size44 (Nat.le_of_ble_eq_true rfl) rfl fun w14 S14 => ?_)
      have X15 : Ext w w14 := Ext.step X13 S14.frmb (fun k _ hk => hk ▸ own10)
      have B16 : w14.heap[wl4.heap.size]? = some (.cells #[.float .f32 e7_r0, .float .f32 e7_r1, .float .f32 e7_r2] 44 (0, 0)) := S14.here
      refine da_nil ?_
      refine W_region rfl ?_
      refine da_op rfl (d_mv (v := (Value.slice i4_0a i4_0n i4_0c)) i4_S3 ?_)
      refine da_op rfl (d_loads (vs := #[.float .f32 e7_r0, .float .f32 e7_r1, .float .f32 e7_r2]) rfl agg44 size44 B16 rfl ?_)
      obtain ⟨m17, hm17, hr⟩ := bind_out hr
      have B18 : OS w14 9 encS (Value.slice i4_0a i4_0n i4_0c) s4.1 := (i4_0R.ext E9).frm S14.frmb (rb sp11)
      refine da_op rfl (d_cl (vs := [.agg #[.float .f32 e7_r0, .float .f32 e7_r1, .float .f32 e7_r2]]) en148 (ac rfl rfl) rfl ?_)
      refine (c148 m6 e7_r0 e7_r1 e7_r2 m17 w14 hm17 e7_h0 e7_h1 e7_h2).mono ?_
      rintro _ w19 ⟨rfl, E19⟩
      refine ⟨_, rfl, ?_⟩
      have X20 : Ext w w19 := X15.trans E19
      have B22 : OS w19 9 encS (Value.slice i4_0a i4_0n i4_0c) s4.1 := B18.ext E19
      have B23 : w19.heap[wl4.heap.size]? = some (.cells #[.float .f32 e7_r0, .float .f32 e7_r1, .float .f32 e7_r2] 44 (0, 0)) := E19.heap B16
      refine da_op rfl (d_bslice (vs := [(0, .string (bs m17))]) (cs := #[.string (bs m17)]) un34 (pc rfl rfl) (by kernel_rfl) fun w21 B21 E21 => ?_)
      have fr21 : ∀ k, (Value.slice (some ⟨w19.heap.size, 0, none⟩) 1 1).ownBlock = some k → w19.heap.size ≤ k := fun k hk => by cases hk; exact Nat.le_refl _
      have own21 : ∀ k, (Value.slice (some ⟨w19.heap.size, 0, none⟩) 1 1).ownBlock = some k → w.heap.size ≤ k := fun k hk => Nat.le_trans X20.size (fr21 k hk)
      have sp24 : ∀ k, (Value.slice i4_0a i4_0n i4_0c).ownBlock = some k → ¬ (Value.slice (some ⟨w19.heap.size, 0, none⟩) 1 1).ownBlock = some k := apart_fresh B22 fr21
      have sp25 : ¬ (Value.slice (some ⟨w19.heap.size, 0, none⟩) 1 1).ownBlock = some wl4.heap.size := ne_fresh fr21 (lt_heap B23)
      have X26 : Ext w w21 := X20.trans E21
      have O21 : OS w21 9 encS (Value.slice (some ⟨w19.heap.size, 0, none⟩) 1 1) [m17] := OS.box (xs := [m17]) B21 (lc_v rfl rfl) (Nat.le_of_ble_eq_true rfl)
      obtain ⟨m27, hm27, hr⟩ := bind_out hr
      have B28 : OS w21 9 encS (Value.slice i4_0a i4_0n i4_0c) s4.1 := B22.ext E21
      have B29 : w21.heap[wl4.heap.size]? = some (.cells #[.float .f32 e7_r0, .float .f32 e7_r1, .float .f32 e7_r2] 44 (0, 0)) := E21.heap B23
      refine da_op rfl (d_append (e := encS) (v := (Value.slice i4_0a i4_0n i4_0c)) (y := (Value.slice (some ⟨w19.heap.size, 0, none⟩) 1 1)) un34 info9 rfl (by kernel_rfl) (by kernel_rfl) (by decide) (by decide) rfl rfl B28 O21.rs hm27 fun v30 w30 O30 Fm30 at_30 nl30 => ?_)
      obtain ⟨v30pa, v30pn, v30pc, rfl⟩ := O30.vals
      have own30 : ∀ k, (Value.slice v30pa v30pn v30pc).ownBlock = some k → w.heap.size ≤ k := app_own (w := w21) at_30 i4_0O X26.size
      have sp31 : ¬ (Value.slice v30pa v30pn v30pc).ownBlock = some wl4.heap.size := app_nb at_30 sp11 (lt_heap B29)
      have sp32 : ∀ k, (Value.slice (some ⟨w19.heap.size, 0, none⟩) 1 1).ownBlock = some k → ¬ (Value.slice v30pa v30pn v30pc).ownBlock = some k := app_nr at_30 (apart_symm sp24) O21
      have X33 : Ext w w30 := Ext.step X26 Fm30 (fun k _ hk => i4_0O k hk)
      refine da_op rfl (d_as (v := (Value.slice v30pa v30pn v30pc)) rfl ?_)
      refine da_nil ?_
      refine W_region rfl ?_
      refine da_op rfl (d_iarith i4_S9 rfl (.inl ⟨rfl, rfl⟩) ?_)
      refine da_op rfl (d_mv (v := .int .i64 (IntKind.i64.wrap (s4.2 + 1))) rfl ?_)
      refine da_nil ?_
      obtain rfl := Option.some.inj hr
      exact ⟨_, rfl, ⟨v30pa, v30pn, v30pc, rfl, rfl, i4_S7, i4_S8, O30, own30, X33⟩⟩
    · skip
      replace hr := bif_f hr hc5
      refine W_exit ?_
      obtain rfl := Option.some.inj hr
      exact ⟨_, rfl, rfl, i4_0a, i4_0n, i4_0c, i4_S3, i4_0R, i4_0O, i4_X⟩
  · skip
    intro ex σx4 wx4 hq
    obtain ⟨rfl, q4_0_0a, q4_0_0n, q4_0_0c, q4_0_S3, q4_0_0R, q4_0_0O, q4_0_X⟩ := hq
    refine W_seq ?_
    refine W_region rfl ?_
    refine da_op rfl (d_mv (v := (Value.slice q4_0_0a q4_0_0n q4_0_0c)) q4_0_S3 ?_)
    obtain ⟨m34, hm34, hr⟩ := bind_out hr
    refine da_op rfl (d_cl (vs := [(Value.slice q4_0_0a q4_0_0n q4_0_0c)]) en92 (ac rfl rfl) rfl ?_)
    refine (c92 m4 q4_0_0a q4_0_0n q4_0_0c m34 wx4 hm34 q4_0_0R.rs).mono ?_
    rintro _ w35 ⟨rfl, E35⟩
    refine ⟨_, rfl, ?_⟩
    have X36 : Ext w w35 := q4_0_X.trans E35
    refine da_op rfl (d_as (v := .string (bs m34)) rfl ?_)
    refine da_nil ?_
    refine W_ret ?_
    obtain rfl := Option.some.inj hr
    refine ⟨_, res1 (rv_tmp rfl), ?_⟩
    exact ⟨rfl, X36⟩
set_option maxHeartbeats 4000000 in
theorem c37 (p0 : SChain) (p0v0a : Option Addr) (p0v0n : Nat) (p0v0c : Nat) (p0v1a : Option Addr) (p0v1n : Nat) (p0v1c : Nat) (p0v2a : Option Addr) (p0v2n : Nat) (p0v2c : Nat) (p0v3a : Option Addr) (p0v3n : Nat) (p0v3c : Nat) (r : List UInt8 × Bool) (w : World) (hr : M.impl_ChainText p0 = some r) (p0v0R : RS w encSVector (Value.slice p0v0a p0v0n p0v0c) p0.places) (p0v1R : RS w encSVector (Value.slice p0v1a p0v1n p0v1c) p0.before) (p0v2R : RS w encF_f32 (Value.slice p0v2a p0v2n p0v2c) p0.weights) (p0v3R : RS w encSRod (Value.slice p0v3a p0v3n p0v3c) p0.rods) (t_T10 : T10 Tryd.prog w) :
    Calls Tryd.prog 37 #[.agg #[(Value.slice p0v0a p0v0n p0v0c), (Value.slice p0v1a p0v1n p0v1c), (Value.slice p0v2a p0v2n p0v2c), (Value.slice p0v3a p0v3n p0v3c)]] w fun e w' => e = .returned (.tuple #[.string (bs r.1), .bool r.2]) ∧ Ext w w' := by
  refine calls_of_W Tryd.func37 rfl (Nat.le_of_ble_eq_true rfl) ?_
  refine W_seq ?_
  refine W_region rfl ?_
  refine da_op rfl (d_box (cs := #[(Value.slice p0v0a p0v0n p0v0c), (Value.slice p0v1a p0v1n p0v1c), (Value.slice p0v2a p0v2n p0v2c), (Value.slice p0v3a p0v3n p0v3c)]) rfl fun w1 B1 E1 => ?_)
  have own2 : w.heap.size ≤ w.heap.size := Nat.le_trans (Ext.refl w).size (Nat.le_refl _)
  have X3 : Ext w w1 := (Ext.refl w).trans E1
  refine da_op rfl (d_as (v := .string (bs ([] : List UInt8))) rfl ?_)
  refine da_op rfl (d_as (v := .bool false) rfl ?_)
  refine da_nil ?_
  refine W_seq ?_
  refine W_seq ?_
  refine W_region rfl ?_
  refine da_op rfl (d_loads (vs := #[(Value.slice p0v0a p0v0n p0v0c), (Value.slice p0v1a p0v1n p0v1c), (Value.slice p0v2a p0v2n p0v2c), (Value.slice p0v3a p0v3n p0v3c)]) rfl agg69 size69 B1 rfl ?_)
  obtain ⟨m4, hm4, hr⟩ := bind_out hr
  have B5 : RS w1 encSVector (Value.slice p0v0a p0v0n p0v0c) p0.places := p0v0R.ext X3
  have B6 : RS w1 encSVector (Value.slice p0v1a p0v1n p0v1c) p0.before := p0v1R.ext X3
  have B7 : RS w1 encF_f32 (Value.slice p0v2a p0v2n p0v2c) p0.weights := p0v2R.ext X3
  have B8 : RS w1 encSRod (Value.slice p0v3a p0v3n p0v3c) p0.rods := p0v3R.ext X3
  refine da_op rfl (d_cl (vs := [.agg #[(Value.slice p0v0a p0v0n p0v0c), (Value.slice p0v1a p0v1n p0v1c), (Value.slice p0v2a p0v2n p0v2c), (Value.slice p0v3a p0v3n p0v3c)]]) en88 (ac rfl rfl) rfl ?_)
  refine (c88 p0 p0v0a p0v0n p0v0c p0v1a p0v1n p0v1c p0v2a p0v2n p0v2c p0v3a p0v3n p0v3c m4 w1 hm4 B5 B6 B7 B8).mono ?_
  rintro _ w9 ⟨rfl, E9⟩
  refine ⟨_, rfl, ?_⟩
  have X10 : Ext w w9 := X3.trans E9
  refine da_op rfl (d_not rfl ?_)
  refine da_nil ?_
  refine W_cond (b := (!m4)) rfl (fun hc11 => ?_) (fun hc11 => ?_)
  · skip
    replace hr := bif_t hr hc11
    refine W_seq ?_
    refine W_region rfl ?_
    refine da_op rfl (d_as (v := .string (bs ([] : List UInt8))) rfl ?_)
    refine da_op rfl (d_as (v := .bool false) rfl ?_)
    refine da_nil ?_
    refine W_ret ?_
    obtain rfl := Option.some.inj hr
    refine ⟨_, res2 (rv_tmp rfl) (rv_tmp rfl), ?_⟩
    exact ⟨rfl, X10⟩
  · skip
    replace hr := bif_f hr hc11
    refine W_skip ?_
    refine W_seq ?_
    refine W_region rfl ?_
    have B13 : w9.heap[w.heap.size]? = some (.cells #[(Value.slice p0v0a p0v0n p0v0c), (Value.slice p0v1a p0v1n p0v1c), (Value.slice p0v2a p0v2n p0v2c), (Value.slice p0v3a p0v3n p0v3c)] 69 (0, 0)) := E9.heap B1
    refine da_op rfl (d_bslice0 un34 size9 fun w12 B12 E12 => ?_)
    have fr12 : ∀ k, (Value.slice (some ⟨w9.heap.size, 0, none⟩) 0 0).ownBlock = some k → w9.heap.size ≤ k := fun k hk => by cases hk; exact Nat.le_refl _
    have own12 : ∀ k, (Value.slice (some ⟨w9.heap.size, 0, none⟩) 0 0).ownBlock = some k → w.heap.size ≤ k := fun k hk => Nat.le_trans X10.size (fr12 k hk)
    have sp14 : ¬ (Value.slice (some ⟨w9.heap.size, 0, none⟩) 0 0).ownBlock = some w.heap.size := ne_fresh fr12 (lt_heap B13)
    have X15 : Ext w w12 := X10.trans E12
    have O12 : OS w12 9 encS (Value.slice (some ⟨w9.heap.size, 0, none⟩) 0 0) ([] : List (List UInt8)) := OS.box (xs := ([] : List (List UInt8))) B12 rfl (Nat.le_of_ble_eq_true rfl)
    refine da_op rfl (d_as (v := (Value.slice (some ⟨w9.heap.size, 0, none⟩) 0 0)) rfl ?_)
    refine da_nil ?_
    refine W_seq ?_
    refine W_seq ?_
    refine W_region rfl ?_
    refine da_op rfl (d_fieldAddr rfl (fa69_3 _ _) ?_)
    have B16 : w12.heap[w.heap.size]? = some (.cells #[(Value.slice p0v0a p0v0n p0v0c), (Value.slice p0v1a p0v1n p0v1c), (Value.slice p0v2a p0v2n p0v2c), (Value.slice p0v3a p0v3n p0v3c)] 69 (0, 0)) := E12.heap B13
    refine da_op rfl (d_load (v := (Value.slice p0v3a p0v3n p0v3c)) rfl agg67 B16 rfl ?_)
    have B17 : RS w12 encSRod (Value.slice p0v3a p0v3n p0v3c) p0.rods := p0v3R.ext X15
    refine da_op rfl (d_len (e := encSRod) un67 rfl B17 ?_)
    refine da_op rfl (d_mv (v := .int .i64 0) rfl ?_)
    refine da_nil ?_
    refine W_block ?_
    obtain ⟨m18, hm18, hr⟩ := bind_out hr
    refine W_loopM hm18 (fun (s18 : List (List UInt8) × Int) σ w' => ∃ i18_0a : Option Addr, ∃ i18_0n : Nat, ∃ i18_0c : Nat, σ 4 = (Value.slice i18_0a i18_0n i18_0c) ∧ σ 16 = .int .i64 s18.2 ∧ σ 1 = .pointer (some ⟨w.heap.size, 0, none⟩) ∧ σ 14 = (Value.slice p0v3a p0v3n p0v3c) ∧ σ 15 = .int .i64 ((p0.rods).length : Int) ∧ OS w' 9 encS (Value.slice i18_0a i18_0n i18_0c) s18.1 ∧ (∀ k, (Value.slice i18_0a i18_0n i18_0c).ownBlock = some k → w.heap.size ≤ k) ∧ w'.heap[w.heap.size]? = some (.cells #[(Value.slice p0v0a p0v0n p0v0c), (Value.slice p0v1a p0v1n p0v1c), (Value.slice p0v2a p0v2n p0v2c), (Value.slice p0v3a p0v3n p0v3c)] 69 (0, 0)) ∧ ¬ (Value.slice i18_0a i18_0n i18_0c).ownBlock = some w.heap.size ∧ Ext w w') (fun (e18 : (List (List UInt8))) ex σ w' => ex = .exit 0 ∧ ∃ q18_0_0a : Option Addr, ∃ q18_0_0n : Nat, ∃ q18_0_0c : Nat, σ 4 = (Value.slice q18_0_0a q18_0_0n q18_0_0c) ∧ σ 1 = .pointer (some ⟨w.heap.size, 0, none⟩) ∧ OS w' 9 encS (Value.slice q18_0_0a q18_0_0n q18_0_0c) e18 ∧ (∀ k, (Value.slice q18_0_0a q18_0_0n q18_0_0c).ownBlock = some k → w.heap.size ≤ k) ∧ w'.heap[w.heap.size]? = some (.cells #[(Value.slice p0v0a p0v0n p0v0c), (Value.slice p0v1a p0v1n p0v1c), (Value.slice p0v2a p0v2n p0v2c), (Value.slice p0v3a p0v3n p0v3c)] 69 (0, 0)) ∧ ¬ (Value.slice q18_0_0a q18_0_0n q18_0_0c).ownBlock = some w.heap.size ∧ Ext w w') ⟨(some ⟨w9.heap.size, 0, none⟩), 0, 0, rfl, rfl, rfl, rfl, rfl, O12, own12, B16, sp14, X15⟩ ?_ ?_
    · skip
      rintro s18 σl18 wl18 r18l ⟨i18_0a, i18_0n, i18_0c, i18_S4, i18_S16, i18_S1, i18_S14, i18_S15, i18_0R, i18_0O, i18_K0, i18_A0, i18_X⟩ hr
      refine W_seq ?_
      refine W_region rfl ?_
      refine da_op rfl (d_icmp cLss i18_S16 i18_S15 ?_)
      refine da_nil ?_
      refine W_seq ?_
      refine W_cond (b := (icmp .lss s18.2 ((p0.rods).length : Int))) rfl (fun hc19 => ?_) (fun hc19 => ?_)
      · skip
        replace hr := bif_t hr hc19
        refine W_skip ?_
        refine W_seq ?_
        refine W_block ?_
        refine W_seq ?_
        refine W_region rfl ?_
        obtain ⟨m20, hm20, hr⟩ := bind_out hr
        have B22 : RS wl18 encSRod (Value.slice p0v3a p0v3n p0v3c) p0.rods := p0v3R.ext i18_X
        refine da_op rfl (d_index (e := encSRod) (v := (Value.slice p0v3a p0v3n p0v3c)) un67 size136 i18_S14 i18_S16 B22 hm20 fun g21 o21 cu21 T21 fr21 vs21 hv21 hg21 hp21 hq21 => ?_)
        obtain ⟨e21_r2, rfl, e21_h2⟩ := dec_encSRod hq21
        refine da_op rfl (d_loads (vs := #[.int .i64 m20.a, .int .i64 m20.b, .float .f32 e21_r2]) rfl agg136 size136 hg21 (sub_take (vs := #[.int .i64 m20.a, .int .i64 m20.b, .float .f32 e21_r2]) (us := #[.int .i64 m20.a, .int .i64 m20.b, .float .f32 e21_r2]) (i := 0) hp21 rfl (Nat.le_of_ble_eq_true rfl)) ?_)
        refine da_op rfl (d_alloc (cs := #[.int .i64 0, .int .i64 0, .float .f32 0]) zero136 rfl fun w23 B23 E23 => ?_)
        have own24 : w.heap.size ≤ wl18.heap.size := Nat.le_trans i18_X.size (Nat.le_refl _)
        have sp25 : w.heap.size ≠ wl18.heap.size := Nat.ne_of_lt (Nat.lt_of_lt_of_le (lt_heap i18_K0) (Nat.le_refl _))
        have sp26 : ¬ (Value.slice i18_0a i18_0n i18_0c).ownBlock = some wl18.heap.size := OS.ne_new i18_0R (Nat.le_refl _)
        have sp27 : g21 ≠ wl18.heap.size := Nat.ne_of_lt (Nat.lt_of_lt_of_le (lt_heap hg21) (Nat.le_refl _))
        have X28 : Ext w w23 := i18_X.trans E23
        refine da_op rfl (d_store (vs := #[.int .i64 m20.a, .int .i64 m20.b, .float .f32 e21_r2]) rfl rfl B23 size136 (Nat.le_of_ble_eq_true rfl) rfl fun w29 S29 => ?_)
        have X30 : Ext w w29 := Ext.step X28 S29.frmb (fun k _ hk => hk ▸ own24)
        have B31 : w29.heap[wl18.heap.size]? = some (.cells #[.int .i64 m20.a, .int .i64 m20.b, .float .f32 e21_r2] 136 (0, 0)) := S29.here
        refine da_nil ?_
        refine W_seq ?_
        refine W_region rfl ?_
        refine da_op rfl (d_fieldAddr rfl (fa136_0 _ _) ?_)
        refine da_op rfl (d_load (v := .int .i64 m20.a) rfl agg2 B31 rfl ?_)
        refine da_op rfl (d_fieldAddr rfl (fa136_1 _ _) ?_)
        refine da_op rfl (d_load (v := .int .i64 m20.b) rfl agg2 B31 rfl ?_)
        have B33 : w29.heap[w.heap.size]? = some (.cells #[(Value.slice p0v0a p0v0n p0v0c), (Value.slice p0v1a p0v1n p0v1c), (Value.slice p0v2a p0v2n p0v2c), (Value.slice p0v3a p0v3n p0v3c)] 69 (0, 0)) := S29.frmb.heap sp25 (E23.heap i18_K0)
        have B34 : OS w29 9 encS (Value.slice i18_0a i18_0n i18_0c) s18.1 := (i18_0R.ext E23).frm S29.frmb (rb sp26)
        refine da_op rfl (d_bslice (vs := [(0, .int .i64 m20.a), (1, .int .i64 m20.b)]) (cs := #[.int .i64 m20.a, .int .i64 m20.b]) un81 (pc rfl (pc rfl rfl)) (by kernel_rfl) fun w32 B32 E32 => ?_)
        have fr32 : ∀ k, (Value.slice (some ⟨w29.heap.size, 0, none⟩) 2 2).ownBlock = some k → w29.heap.size ≤ k := fun k hk => by cases hk; exact Nat.le_refl _
        have own32 : ∀ k, (Value.slice (some ⟨w29.heap.size, 0, none⟩) 2 2).ownBlock = some k → w.heap.size ≤ k := fun k hk => Nat.le_trans X30.size (fr32 k hk)
        have sp35 : ¬ (Value.slice (some ⟨w29.heap.size, 0, none⟩) 2 2).ownBlock = some w.heap.size := ne_fresh fr32 (lt_heap B33)
        have sp36 : ∀ k, (Value.slice i18_0a i18_0n i18_0c).ownBlock = some k → ¬ (Value.slice (some ⟨w29.heap.size, 0, none⟩) 2 2).ownBlock = some k := apart_fresh B34 fr32
        have sp37 : ¬ (Value.slice (some ⟨w29.heap.size, 0, none⟩) 2 2).ownBlock = some wl18.heap.size := ne_fresh fr32 (lt_heap B31)
        have X38 : Ext w w32 := X30.trans E32
        have O32 : OS w32 2 encI_i64 (Value.slice (some ⟨w29.heap.size, 0, none⟩) 2 2) [m20.a, m20.b] := OS.box (xs := [m20.a, m20.b]) B32 (lc_v rfl (lc_v rfl rfl)) (Nat.le_of_ble_eq_true rfl)
        obtain ⟨m39, hm39, hr⟩ := bind_out hr
        have B40 : w32.heap[w.heap.size]? = some (.cells #[(Value.slice p0v0a p0v0n p0v0c), (Value.slice p0v1a p0v1n p0v1c), (Value.slice p0v2a p0v2n p0v2c), (Value.slice p0v3a p0v3n p0v3c)] 69 (0, 0)) := E32.heap B33
        have B41 : OS w32 9 encS (Value.slice i18_0a i18_0n i18_0c) s18.1 := B34.ext E32
        have B42 : w32.heap[wl18.heap.size]? = some (.cells #[.int .i64 m20.a, .int .i64 m20.b, .float .f32 e21_r2] 136 (0, 0)) := E32.heap B31
        refine da_op rfl (d_cl (vs := [(Value.slice (some ⟨w29.heap.size, 0, none⟩) 2 2)]) en45 (ac rfl rfl) rfl ?_)
        refine (c45 ([m20.a, m20.b]) (some ⟨w29.heap.size, 0, none⟩) 2 2 m39 w32 hm39 O32.rs (t_T10.ext X38)).mono ?_
        rintro _ w43 ⟨rfl, E43⟩
        refine ⟨_, rfl, ?_⟩
        have X44 : Ext w w43 := X38.trans E43
        refine da_op rfl (d_mv (v := .tuple #[.string (bs m39.1), .bool m39.2]) rfl ?_)
        refine da_op rfl (d_extract (v := .string (bs m39.1)) rfl rfl ?_)
        refine da_op rfl (d_extract (v := .bool m39.2) rfl rfl ?_)
        refine da_op rfl (d_as (v := .string (bs m39.1)) rfl ?_)
        refine da_op rfl (d_as (v := .bool m39.2) rfl ?_)
        refine da_nil ?_
        refine W_region rfl ?_
        refine da_op rfl (d_mv (v := (Value.slice i18_0a i18_0n i18_0c)) i18_S4 ?_)
        refine da_op rfl (d_mv (v := .string (bs m39.1)) rfl ?_)
        obtain ⟨m45, hm45, hr⟩ := bind_out hr
        refine da_op rfl (d_scat rfl rfl hm45 ?_)
        refine da_op rfl (d_fieldAddr rfl (fa136_2 _ _) ?_)
        have B46 : w43.heap[wl18.heap.size]? = some (.cells #[.int .i64 m20.a, .int .i64 m20.b, .float .f32 e21_r2] 136 (0, 0)) := E43.heap B42
        refine da_op rfl (d_load (v := .float .f32 e21_r2) rfl agg22 B46 rfl ?_)
        have B48 : w43.heap[w.heap.size]? = some (.cells #[(Value.slice p0v0a p0v0n p0v0c), (Value.slice p0v1a p0v1n p0v1c), (Value.slice p0v2a p0v2n p0v2c), (Value.slice p0v3a p0v3n p0v3c)] 69 (0, 0)) := E43.heap B40
        have B49 : OS w43 9 encS (Value.slice i18_0a i18_0n i18_0c) s18.1 := B41.ext E43
        refine da_op rfl (d_bslice (vs := [(0, .float .f32 e21_r2)]) (cs := #[.float .f32 e21_r2]) un53 (pc rfl rfl) (by kernel_rfl) fun w47 B47 E47 => ?_)
        have fr47 : ∀ k, (Value.slice (some ⟨w43.heap.size, 0, none⟩) 1 1).ownBlock = some k → w43.heap.size ≤ k := fun k hk => by cases hk; exact Nat.le_refl _
        have own47 : ∀ k, (Value.slice (some ⟨w43.heap.size, 0, none⟩) 1 1).ownBlock = some k → w.heap.size ≤ k := fun k hk => Nat.le_trans X44.size (fr47 k hk)
        have sp50 : ¬ (Value.slice (some ⟨w43.heap.size, 0, none⟩) 1 1).ownBlock = some w.heap.size := ne_fresh fr47 (lt_heap B48)
        have sp51 : ∀ k, (Value.slice i18_0a i18_0n i18_0c).ownBlock = some k → ¬ (Value.slice (some ⟨w43.heap.size, 0, none⟩) 1 1).ownBlock = some k := apart_fresh B49 fr47
        have sp52 : ¬ (Value.slice (some ⟨w43.heap.size, 0, none⟩) 1 1).ownBlock = some wl18.heap.size := ne_fresh fr47 (lt_heap B46)
        have X53 : Ext w w47 := X44.trans E47
        have O47 : OS w47 22 encF_f32 (Value.slice (some ⟨w43.heap.size, 0, none⟩) 1 1) [m20.long] := OS.box (xs := [m20.long]) B47 (lc_f e21_h2 rfl) (Nat.le_of_ble_eq_true rfl)
        obtain ⟨m54, hm54, hr⟩ := bind_out hr
        have B55 : w47.heap[w.heap.size]? = some (.cells #[(Value.slice p0v0a p0v0n p0v0c), (Value.slice p0v1a p0v1n p0v1c), (Value.slice p0v2a p0v2n p0v2c), (Value.slice p0v3a p0v3n p0v3c)] 69 (0, 0)) := E47.heap B48
        have B56 : OS w47 9 encS (Value.slice i18_0a i18_0n i18_0c) s18.1 := B49.ext E47
        have B57 : w47.heap[wl18.heap.size]? = some (.cells #[.int .i64 m20.a, .int .i64 m20.b, .float .f32 e21_r2] 136 (0, 0)) := E47.heap B46
        refine da_op rfl (d_cl (vs := [(Value.slice (some ⟨w43.heap.size, 0, none⟩) 1 1)]) en89 (ac rfl rfl) rfl ?_)
        refine (c89 ([m20.long]) (some ⟨w43.heap.size, 0, none⟩) 1 1 m54 w47 hm54 O47.rs).mono ?_
        rintro _ w58 ⟨rfl, E58⟩
        refine ⟨_, rfl, ?_⟩
        have X59 : Ext w w58 := X53.trans E58
        obtain ⟨m60, hm60, hr⟩ := bind_out hr
        refine da_op rfl (d_scat rfl rfl hm60 ?_)
        have B62 : w58.heap[w.heap.size]? = some (.cells #[(Value.slice p0v0a p0v0n p0v0c), (Value.slice p0v1a p0v1n p0v1c), (Value.slice p0v2a p0v2n p0v2c), (Value.slice p0v3a p0v3n p0v3c)] 69 (0, 0)) := E58.heap B55
        have B63 : OS w58 9 encS (Value.slice i18_0a i18_0n i18_0c) s18.1 := B56.ext E58
        have B64 : w58.heap[wl18.heap.size]? = some (.cells #[.int .i64 m20.a, .int .i64 m20.b, .float .f32 e21_r2] 136 (0, 0)) := E58.heap B57
        have B65 : OS w58 22 encF_f32 (Value.slice (some ⟨w43.heap.size, 0, none⟩) 1 1) ([m20.long]) := O47.ext E58
        refine da_op rfl (d_bslice (vs := [(0, .string (bs m60))]) (cs := #[.string (bs m60)]) un34 (pc rfl rfl) (by kernel_rfl) fun w61 B61 E61 => ?_)
        have fr61 : ∀ k, (Value.slice (some ⟨w58.heap.size, 0, none⟩) 1 1).ownBlock = some k → w58.heap.size ≤ k := fun k hk => by cases hk; exact Nat.le_refl _
        have own61 : ∀ k, (Value.slice (some ⟨w58.heap.size, 0, none⟩) 1 1).ownBlock = some k → w.heap.size ≤ k := fun k hk => Nat.le_trans X59.size (fr61 k hk)
        have sp66 : ¬ (Value.slice (some ⟨w58.heap.size, 0, none⟩) 1 1).ownBlock = some w.heap.size := ne_fresh fr61 (lt_heap B62)
        have sp67 : ∀ k, (Value.slice i18_0a i18_0n i18_0c).ownBlock = some k → ¬ (Value.slice (some ⟨w58.heap.size, 0, none⟩) 1 1).ownBlock = some k := apart_fresh B63 fr61
        have sp68 : ¬ (Value.slice (some ⟨w58.heap.size, 0, none⟩) 1 1).ownBlock = some wl18.heap.size := ne_fresh fr61 (lt_heap B64)
        have sp69 : ∀ k, (Value.slice (some ⟨w43.heap.size, 0, none⟩) 1 1).ownBlock = some k → ¬ (Value.slice (some ⟨w58.heap.size, 0, none⟩) 1 1).ownBlock = some k := apart_fresh B65 fr61
        have X70 : Ext w w61 := X59.trans E61
        have O61 : OS w61 9 encS (Value.slice (some ⟨w58.heap.size, 0, none⟩) 1 1) [m60] := OS.box (xs := [m60]) B61 (lc_v rfl rfl) (Nat.le_of_ble_eq_true rfl)
        obtain ⟨m71, hm71, hr⟩ := bind_out hr
        have B72 : OS w61 9 encS (Value.slice i18_0a i18_0n i18_0c) s18.1 := B63.ext E61
        have B73 : w61.heap[w.heap.size]? = some (.cells #[(Value.slice p0v0a p0v0n p0v0c), (Value.slice p0v1a p0v1n p0v1c), (Value.slice p0v2a p0v2n p0v2c), (Value.slice p0v3a p0v3n p0v3c)] 69 (0, 0)) := E61.heap B62
        have B74 : w61.heap[wl18.heap.size]? = some (.cells #[.int .i64 m20.a, .int .i64 m20.b, .float .f32 e21_r2] 136 (0, 0)) := E61.heap B64
        have B75 : OS w61 22 encF_f32 (Value.slice (some ⟨w43.heap.size, 0, none⟩) 1 1) ([m20.long]) := B65.ext E61
        refine da_op rfl (d_append (e := encS) (v := (Value.slice i18_0a i18_0n i18_0c)) (y := (Value.slice (some ⟨w58.heap.size, 0, none⟩) 1 1)) un34 info9 rfl (by kernel_rfl) (by kernel_rfl) (by decide) (by decide) rfl rfl B72 O61.rs hm71 fun v76 w76 O76 Fm76 at_76 nl76 => ?_)
        obtain ⟨v76pa, v76pn, v76pc, rfl⟩ := O76.vals
        have own76 : ∀ k, (Value.slice v76pa v76pn v76pc).ownBlock = some k → w.heap.size ≤ k := app_own (w := w61) at_76 i18_0O X70.size
        have sp77 : ¬ (Value.slice v76pa v76pn v76pc).ownBlock = some w.heap.size := app_nb at_76 i18_A0 (lt_heap B73)
        have sp78 : ¬ (Value.slice v76pa v76pn v76pc).ownBlock = some wl18.heap.size := app_nb at_76 sp26 (lt_heap B74)
        have sp79 : ∀ k, (Value.slice (some ⟨w43.heap.size, 0, none⟩) 1 1).ownBlock = some k → ¬ (Value.slice v76pa v76pn v76pc).ownBlock = some k := app_nr at_76 (apart_symm sp51) B75
        have sp80 : ∀ k, (Value.slice (some ⟨w58.heap.size, 0, none⟩) 1 1).ownBlock = some k → ¬ (Value.slice v76pa v76pn v76pc).ownBlock = some k := app_nr at_76 (apart_symm sp67) O61
        have X81 : Ext w w76 := Ext.step X70 Fm76 (fun k _ hk => i18_0O k hk)
        refine da_op rfl (d_as (v := (Value.slice v76pa v76pn v76pc)) rfl ?_)
        refine da_nil ?_
        refine W_region rfl ?_
        refine da_op rfl (d_iarith i18_S16 rfl (.inl ⟨rfl, rfl⟩) ?_)
        refine da_op rfl (d_mv (v := .int .i64 (IntKind.i64.wrap (s18.2 + 1))) rfl ?_)
        refine da_nil ?_
        have B82 : w76.heap[w.heap.size]? = some (.cells #[(Value.slice p0v0a p0v0n p0v0c), (Value.slice p0v1a p0v1n p0v1c), (Value.slice p0v2a p0v2n p0v2c), (Value.slice p0v3a p0v3n p0v3c)] 69 (0, 0)) := Fm76.heap i18_A0 B73
        obtain rfl := Option.some.inj hr
        exact ⟨_, rfl, ⟨v76pa, v76pn, v76pc, rfl, rfl, i18_S1, i18_S14, i18_S15, O76, own76, B82, sp77, X81⟩⟩
      · skip
        replace hr := bif_f hr hc19
        refine W_exit ?_
        obtain rfl := Option.some.inj hr
        exact ⟨_, rfl, rfl, i18_0a, i18_0n, i18_0c, i18_S4, i18_S1, i18_0R, i18_0O, i18_K0, i18_A0, i18_X⟩
    · skip
      intro ex σx18 wx18 hq
      obtain ⟨rfl, q18_0_0a, q18_0_0n, q18_0_0c, q18_0_S4, q18_0_S1, q18_0_0R, q18_0_0O, q18_0_K0, q18_0_A0, q18_0_X⟩ := hq
      refine W_seq ?_
      have B84 : RS wx18 encSVector (Value.slice p0v0a p0v0n p0v0c) p0.places := p0v0R.ext q18_0_X
      have B85 : RS wx18 encSVector (Value.slice p0v1a p0v1n p0v1c) p0.before := p0v1R.ext q18_0_X
      have B86 : RS wx18 encF_f32 (Value.slice p0v2a p0v2n p0v2c) p0.weights := p0v2R.ext q18_0_X
      have B87 : RS wx18 encSRod (Value.slice p0v3a p0v3n p0v3c) p0.rods := p0v3R.ext q18_0_X
      obtain ⟨m88, hm88, hr⟩ := bind_out hr
      obtain ⟨m89, hm89, hr⟩ := bind_out hr
      obtain ⟨m90, hm90, hr⟩ := bind_out hr
      obtain ⟨m91, hm91, hr⟩ := bind_out hr
      obtain ⟨m92, hm92, hr⟩ := bind_out hr
      refine W_any [] [{ V := fun _ v _ => v = (.pointer (some ⟨w.heap.size, 0, none⟩)) }, { V := fun _ v _ => v = (Value.slice p0v0a p0v0n p0v0c) }, { V := fun _ v _ => v = (.string (bs m88)) }, { V := fun _ v _ => v = (.pointer (some ⟨w.heap.size, 1, none⟩)) }, { V := fun _ v _ => v = (Value.slice p0v1a p0v1n p0v1c) }, { V := fun _ v _ => v = (.string (bs m89)) }, { V := fun _ v _ => v = (.pointer (some ⟨w.heap.size, 2, none⟩)) }, { V := fun _ v _ => v = (Value.slice p0v2a p0v2n p0v2c) }, { V := fun _ v _ => v = (.string (bs m90)) }, { V := fun _ v _ => v = (Value.slice q18_0_0a q18_0_0n q18_0_0c) }, { V := fun _ v _ => v = (.string (bs m91)) }, { V := fun _ v w' => ∃ d83_11a : Option Addr, ∃ d83_11n : Nat, ∃ d83_11c : Nat, v = (Value.slice d83_11a d83_11n d83_11c) ∧ (∀ k, (Value.slice d83_11a d83_11n d83_11c).ownBlock = some k → wx18.heap.size ≤ k) ∧ OS w' 9 encS (Value.slice d83_11a d83_11n d83_11c) ([m88, m89, m90, m91]) }, { V := fun _ v _ => v = (.string (bs m92)) }, { V := fun _ v _ => v = (.string (bs m92)) }, { V := fun _ v _ => v = (.bool true) }] mixed (by kernel_rfl) ⟨trivial, trivial, trivial, trivial, trivial, trivial, trivial, trivial, trivial, trivial, trivial, trivial, trivial, trivial, trivial, trivial⟩ ⟨?_, ?_, ?_, ?_, ?_, ?_, ?_, ?_, ?_, ?_, ?_, ?_, ?_, ?_, ?_, trivial⟩ ?_
      · skip
        refine ⟨fun _ _ _ _ _ _ h _ => h, fun _ _ h _ => h, fun σ' w' hA hE hD hP => ?_⟩
        have t1 : σ' 1 = .pointer (some ⟨w.heap.size, 0, none⟩) := (hA 1 rfl).trans q18_0_S1
        have B0_93 : w'.heap[w.heap.size]? = some (.cells #[(Value.slice p0v0a p0v0n p0v0c), (Value.slice p0v1a p0v1n p0v1c), (Value.slice p0v2a p0v2n p0v2c), (Value.slice p0v3a p0v3n p0v3c)] 69 (0, 0)) := hE.heap not_oth0 q18_0_K0
        refine dg_op rfl (d_fieldAddr t1 (fa69_0 _ _) ?_)
        exact ⟨rfl, own_none (Ext.refl w')⟩
      · skip
        refine ⟨fun _ _ _ _ _ _ h _ => h, fun _ _ h _ => h, fun σ' w' hA hE hD hP => ?_⟩
        have t40 : σ' 40 = (.pointer (some ⟨w.heap.size, 0, none⟩)) := hD 0 rfl
        have B0_94 : w'.heap[w.heap.size]? = some (.cells #[(Value.slice p0v0a p0v0n p0v0c), (Value.slice p0v1a p0v1n p0v1c), (Value.slice p0v2a p0v2n p0v2c), (Value.slice p0v3a p0v3n p0v3c)] 69 (0, 0)) := hE.heap not_oth0 q18_0_K0
        refine dg_op rfl (d_load (v := (Value.slice p0v0a p0v0n p0v0c)) t40 agg66 B0_94 rfl ?_)
        exact ⟨rfl, own_none (Ext.refl w')⟩
      · skip
        refine ⟨fun _ _ _ _ _ _ h _ => h, fun _ _ h _ => h, fun σ' w' hA hE hD hP => ?_⟩
        have t41 : σ' 41 = (Value.slice p0v0a p0v0n p0v0c) := hD 1 rfl
        have B0_95 : RS w' encSVector (Value.slice p0v0a p0v0n p0v0c) p0.places := B84.frm hE (fun k _ hk => not_oth0)
        refine dg_op rfl (d_cl (vs := [(Value.slice p0v0a p0v0n p0v0c)]) en91 (ac t41 rfl) rfl ?_)
        refine (c91 p0.places p0v0a p0v0n p0v0c m88 w' hm88 B0_95).mono ?_
        rintro _ w96 ⟨rfl, E96⟩
        refine ⟨_, rfl, ?_⟩
        have X97 : Ext w' w96 := (Ext.refl w').trans E96
        exact ⟨rfl, own_none X97⟩
      · skip
        refine ⟨fun _ _ _ _ _ _ h _ => h, fun _ _ h _ => h, fun σ' w' hA hE hD hP => ?_⟩
        have t1 : σ' 1 = .pointer (some ⟨w.heap.size, 0, none⟩) := (hA 1 rfl).trans q18_0_S1
        have B0_98 : w'.heap[w.heap.size]? = some (.cells #[(Value.slice p0v0a p0v0n p0v0c), (Value.slice p0v1a p0v1n p0v1c), (Value.slice p0v2a p0v2n p0v2c), (Value.slice p0v3a p0v3n p0v3c)] 69 (0, 0)) := hE.heap not_oth0 q18_0_K0
        refine dg_op rfl (d_fieldAddr t1 (fa69_1 _ _) ?_)
        exact ⟨rfl, own_none (Ext.refl w')⟩
      · skip
        refine ⟨fun _ _ _ _ _ _ h _ => h, fun _ _ h _ => h, fun σ' w' hA hE hD hP => ?_⟩
        have t43 : σ' 43 = (.pointer (some ⟨w.heap.size, 1, none⟩)) := hD 3 rfl
        have B0_99 : w'.heap[w.heap.size]? = some (.cells #[(Value.slice p0v0a p0v0n p0v0c), (Value.slice p0v1a p0v1n p0v1c), (Value.slice p0v2a p0v2n p0v2c), (Value.slice p0v3a p0v3n p0v3c)] 69 (0, 0)) := hE.heap not_oth0 q18_0_K0
        refine dg_op rfl (d_load (v := (Value.slice p0v1a p0v1n p0v1c)) t43 agg66 B0_99 rfl ?_)
        exact ⟨rfl, own_none (Ext.refl w')⟩
      · skip
        refine ⟨fun _ _ _ _ _ _ h _ => h, fun _ _ h _ => h, fun σ' w' hA hE hD hP => ?_⟩
        have t44 : σ' 44 = (Value.slice p0v1a p0v1n p0v1c) := hD 4 rfl
        have B0_100 : RS w' encSVector (Value.slice p0v1a p0v1n p0v1c) p0.before := B85.frm hE (fun k _ hk => not_oth0)
        refine dg_op rfl (d_cl (vs := [(Value.slice p0v1a p0v1n p0v1c)]) en91 (ac t44 rfl) rfl ?_)
        refine (c91 p0.before p0v1a p0v1n p0v1c m89 w' hm89 B0_100).mono ?_
        rintro _ w101 ⟨rfl, E101⟩
        refine ⟨_, rfl, ?_⟩
        have X102 : Ext w' w101 := (Ext.refl w').trans E101
        exact ⟨rfl, own_none X102⟩
      · skip
        refine ⟨fun _ _ _ _ _ _ h _ => h, fun _ _ h _ => h, fun σ' w' hA hE hD hP => ?_⟩
        have t1 : σ' 1 = .pointer (some ⟨w.heap.size, 0, none⟩) := (hA 1 rfl).trans q18_0_S1
        have B0_103 : w'.heap[w.heap.size]? = some (.cells #[(Value.slice p0v0a p0v0n p0v0c), (Value.slice p0v1a p0v1n p0v1c), (Value.slice p0v2a p0v2n p0v2c), (Value.slice p0v3a p0v3n p0v3c)] 69 (0, 0)) := hE.heap not_oth0 q18_0_K0
        refine dg_op rfl (d_fieldAddr t1 (fa69_2 _ _) ?_)
        exact ⟨rfl, own_none (Ext.refl w')⟩
      · skip
        refine ⟨fun _ _ _ _ _ _ h _ => h, fun _ _ h _ => h, fun σ' w' hA hE hD hP => ?_⟩
        have t46 : σ' 46 = (.pointer (some ⟨w.heap.size, 2, none⟩)) := hD 6 rfl
        have B0_104 : w'.heap[w.heap.size]? = some (.cells #[(Value.slice p0v0a p0v0n p0v0c), (Value.slice p0v1a p0v1n p0v1c), (Value.slice p0v2a p0v2n p0v2c), (Value.slice p0v3a p0v3n p0v3c)] 69 (0, 0)) := hE.heap not_oth0 q18_0_K0
        refine dg_op rfl (d_load (v := (Value.slice p0v2a p0v2n p0v2c)) t46 agg53 B0_104 rfl ?_)
        exact ⟨rfl, own_none (Ext.refl w')⟩
      · skip
        refine ⟨fun _ _ _ _ _ _ h _ => h, fun _ _ h _ => h, fun σ' w' hA hE hD hP => ?_⟩
        have t47 : σ' 47 = (Value.slice p0v2a p0v2n p0v2c) := hD 7 rfl
        have B0_105 : RS w' encF_f32 (Value.slice p0v2a p0v2n p0v2c) p0.weights := B86.frm hE (fun k _ hk => not_oth0)
        refine dg_op rfl (d_cl (vs := [(Value.slice p0v2a p0v2n p0v2c)]) en89 (ac t47 rfl) rfl ?_)
        refine (c89 p0.weights p0v2a p0v2n p0v2c m90 w' hm90 B0_105).mono ?_
        rintro _ w106 ⟨rfl, E106⟩
        refine ⟨_, rfl, ?_⟩
        have X107 : Ext w' w106 := (Ext.refl w').trans E106
        exact ⟨rfl, own_none X107⟩
      · skip
        refine ⟨fun _ _ _ _ _ _ h _ => h, fun _ _ h _ => h, fun σ' w' hA hE hD hP => ?_⟩
        have t4 : σ' 4 = (Value.slice q18_0_0a q18_0_0n q18_0_0c) := (hA 4 rfl).trans q18_0_S4
        have B0_108 : OS w' 9 encS (Value.slice q18_0_0a q18_0_0n q18_0_0c) m18 := q18_0_0R.frm hE (fun k hk => not_oth0)
        refine dg_op rfl (d_mv (v := (Value.slice q18_0_0a q18_0_0n q18_0_0c)) t4 ?_)
        exact ⟨rfl, own_none (Ext.refl w')⟩
      · skip
        refine ⟨fun _ _ _ _ _ _ h _ => h, fun _ _ h _ => h, fun σ' w' hA hE hD hP => ?_⟩
        have t49 : σ' 49 = (Value.slice q18_0_0a q18_0_0n q18_0_0c) := hD 9 rfl
        have B0_109 : OS w' 9 encS (Value.slice q18_0_0a q18_0_0n q18_0_0c) m18 := q18_0_0R.frm hE (fun k hk => not_oth0)
        refine dg_op rfl (d_cl (vs := [(Value.slice q18_0_0a q18_0_0n q18_0_0c)]) en92 (ac t49 rfl) rfl ?_)
        refine (c92 m18 q18_0_0a q18_0_0n q18_0_0c m91 w' hm91 B0_109.rs).mono ?_
        rintro _ w110 ⟨rfl, E110⟩
        refine ⟨_, rfl, ?_⟩
        have X111 : Ext w' w110 := (Ext.refl w').trans E110
        exact ⟨rfl, own_none X111⟩
      · skip
        refine ⟨fun _ _ _ w' w'' _ ⟨d83_11a, d83_11n, d83_11c, hv, d83_11L, d83_11R⟩ hF => ⟨d83_11a, d83_11n, d83_11c, hv, d83_11L, d83_11R.frm hF (fun k hk => not_oth0)⟩, fun _ _ h _ => h, fun σ' w' hA hE hD hP => ?_⟩
        have t42 : σ' 42 = (.string (bs m88)) := hD 2 rfl
        have t45 : σ' 45 = (.string (bs m89)) := hD 5 rfl
        have t48 : σ' 48 = (.string (bs m90)) := hD 8 rfl
        have t50 : σ' 50 = (.string (bs m91)) := hD 10 rfl
        refine dg_op rfl (d_bslice (vs := [(0, .string (bs m88)), (1, .string (bs m89)), (2, .string (bs m90)), (3, .string (bs m91))]) (cs := #[.string (bs m88), .string (bs m89), .string (bs m90), .string (bs m91)]) un34 (pc t42 (pc t45 (pc t48 (pc t50 rfl)))) (by kernel_rfl) fun w112 B112 E112 => ?_)
        have fr112 : ∀ k, (Value.slice (some ⟨w'.heap.size, 0, none⟩) 4 4).ownBlock = some k → w'.heap.size ≤ k := fun k hk => by cases hk; exact Nat.le_refl _
        have X113 : Ext w' w112 := (Ext.refl w').trans E112
        have O112 : OS w112 9 encS (Value.slice (some ⟨w'.heap.size, 0, none⟩) 4 4) [m88, m89, m90, m91] := OS.box (xs := [m88, m89, m90, m91]) B112 (lc_v rfl (lc_v rfl (lc_v rfl (lc_v rfl rfl)))) (Nat.le_of_ble_eq_true rfl)
        exact ⟨⟨(some ⟨w'.heap.size, 0, none⟩), 4, 4, rfl, (fun k hk => Nat.le_trans hE.size (fr112 k hk)), O112⟩, own_none X113⟩
      · skip
        refine ⟨fun _ _ _ _ _ _ h _ => h, fun _ _ h _ => h, fun σ' w' hA hE hD hP => ?_⟩
        obtain ⟨d83_11a, d83_11n, d83_11c, t51, d83_11L, d83_11R⟩ : ∃ d83_11a : Option Addr, ∃ d83_11n : Nat, ∃ d83_11c : Nat, σ' 51 = (Value.slice d83_11a d83_11n d83_11c) ∧ (∀ k, (Value.slice d83_11a d83_11n d83_11c).ownBlock = some k → wx18.heap.size ≤ k) ∧ OS w' 9 encS (Value.slice d83_11a d83_11n d83_11c) ([m88, m89, m90, m91]) := hD 11 rfl
        refine dg_op rfl (d_cl (vs := [(Value.slice d83_11a d83_11n d83_11c), .string (bs ([59] : List UInt8))]) en90 (ac t51 (ac rfl rfl)) rfl ?_)
        refine (sh90 hm92 d83_11R.rs).mono ?_
        rintro _ w114 ⟨rfl, E114⟩
        refine ⟨_, rfl, ?_⟩
        have X115 : Ext w' w114 := (Ext.refl w').trans E114
        exact ⟨rfl, own_none X115⟩
      · skip
        refine ⟨fun _ _ _ _ _ _ h _ => h, fun _ _ h _ => h, fun σ' w' hA hE hD hP => ?_⟩
        have t52 : σ' 52 = (.string (bs m92)) := hD 12 rfl
        refine dg_op rfl (d_as (v := .string (bs m92)) t52 ?_)
        exact ⟨rfl, own_none (Ext.refl w')⟩
      · skip
        refine ⟨fun _ _ _ _ _ _ h _ => h, fun _ _ h _ => h, fun σ' w' hA hE hD hP => ?_⟩
        refine dg_op rfl (d_as (v := .bool true) rfl ?_)
        exact ⟨rfl, own_none (Ext.refl w')⟩
      · skip
        intro σ83 w83 A83 E83 V83
        have E83x : Ext wx18 w83 := ext_of_oth0 E83
        have s2_83 : σ83 2 = (.string (bs m92)) := V83 13 (Nat.le_of_ble_eq_true rfl)
        have s3_83 : σ83 3 = (.bool true) := V83 14 (Nat.le_of_ble_eq_true rfl)
        have X116 : Ext w w83 := q18_0_X.trans E83x
        refine W_ret ?_
        obtain rfl := Option.some.inj hr
        refine ⟨_, res2 (rv_tmp s2_83) (rv_tmp s3_83), ?_⟩
        exact ⟨rfl, X116⟩
set_option maxHeartbeats 4000000 in
theorem c51 (p0 : Nat) (p1 : Nat) (p0r : Nat) (p1r : Nat) (r : Bool) (w : World) (hr : M.laws_sameFloat p0 p1 = r) (p0h : cn .f64 p0r = p0) (p1h : cn .f64 p1r = p1) :
    Calls Tryd.prog 51 #[.float .f64 p0r, .float .f64 p1r] w fun e w' => e = .returned (.bool r) ∧ Ext w w' := by
  refine calls_of_W Tryd.func51 rfl (Nat.le_of_ble_eq_true rfl) ?_
  refine W_seq ?_
  refine W_region rfl ?_
  refine da_op rfl (d_as (v := .bool false) rfl ?_)
  refine da_nil ?_
  refine W_seq ?_
  refine W_seq ?_
  obtain ⟨m1, hm1, hr⟩ := letv_out hr
  refine W_cut (fun σ' w' => σ' 12 = .bool m1 ∧ Ext w w') rfl ?_ ?_
  · skip
    have hr := hm1
    refine da_op rfl (d_mv (v := .float .f64 p0r) rfl ?_)
    refine da_op rfl (d_mv (v := .float .f64 p0r) rfl ?_)
    refine da_op rfl (d_fcmp (k := .f64) cNeq rfl rfl p0h p0h ?_)
    refine da_op rfl (d_mv (v := .bool (fcmp .neq .f64 p0 p0)) rfl ?_)
    rcases Bool.eq_false_or_eq_true (fcmp .neq .f64 p0 p0) with hc2 | hc2
    · skip
      replace hr := bif_t hr hc2
      refine da_off rfl (Eq.trans (show sl _ _ _ = .bool (fcmp .neq .f64 p0 p0) from rfl) (congrArg Value.bool hc2)) (by decide) ?_
      refine da_off rfl (Eq.trans (show sl _ _ _ = .bool (fcmp .neq .f64 p0 p0) from rfl) (congrArg Value.bool hc2)) (by decide) ?_
      refine da_off rfl (Eq.trans (show sl _ _ _ = .bool (fcmp .neq .f64 p0 p0) from rfl) (congrArg Value.bool hc2)) (by decide) ?_
      refine da_op rfl (d_pick (b := true) (Eq.trans (show ev _ _ = .bool (fcmp .neq .f64 p0 p0) from rfl) (congrArg Value.bool hc2)) ?_)
      refine da_nil ?_
      subst hr
      exact ⟨rfl, (Ext.refl w)⟩
    · skip
      replace hr := bif_f hr hc2
      refine da_on rfl (Eq.trans (show sl _ _ _ = .bool (fcmp .neq .f64 p0 p0) from rfl) (congrArg Value.bool hc2)) (d_mv (v := .float .f64 p1r) rfl ?_)
      refine da_on rfl (Eq.trans (show sl _ _ _ = .bool (fcmp .neq .f64 p0 p0) from rfl) (congrArg Value.bool hc2)) (d_mv (v := .float .f64 p1r) rfl ?_)
      refine da_on rfl (Eq.trans (show sl _ _ _ = .bool (fcmp .neq .f64 p0 p0) from rfl) (congrArg Value.bool hc2)) (d_fcmp (k := .f64) cNeq rfl rfl p1h p1h ?_)
      refine da_op rfl (d_pick (b := false) (Eq.trans (show ev _ _ = .bool (fcmp .neq .f64 p0 p0) from rfl) (congrArg Value.bool hc2)) ?_)
      refine da_nil ?_
      subst hr
      exact ⟨rfl, (Ext.refl w)⟩
  · skip
    rintro σ1 w1 o1 ⟨s12_1, E1⟩
    have s0_1 : σ1 0 = .float .f64 p0r := (o1 0 rfl).trans rfl
    have s1_1 : σ1 1 = .float .f64 p1r := (o1 1 rfl).trans rfl
    have X3 : Ext w w1 := (Ext.refl w).trans E1
    refine W_cond (b := m1) s12_1 (fun hc4 => ?_) (fun hc4 => ?_)
    · skip
      replace hr := bif_t hr hc4
      refine W_seq ?_
      obtain ⟨m5, hm5, hr⟩ := letv_out hr
      refine W_cut (fun σ' w' => σ' 4 = .bool m5 ∧ Ext w1 w') rfl ?_ ?_
      · skip
        have hr := hm5
        refine da_op rfl (d_mv (v := .float .f64 p0r) s0_1 ?_)
        refine da_op rfl (d_mv (v := .float .f64 p0r) s0_1 ?_)
        refine da_op rfl (d_fcmp (k := .f64) cNeq rfl rfl p0h p0h ?_)
        refine da_op rfl (d_mv (v := .bool (fcmp .neq .f64 p0 p0)) rfl ?_)
        rcases Bool.eq_false_or_eq_true (fcmp .neq .f64 p0 p0) with hc6 | hc6
        · skip
          replace hr := bif_t hr hc6
          refine da_on rfl (Eq.trans (show sl _ _ _ = .bool (fcmp .neq .f64 p0 p0) from rfl) (congrArg Value.bool hc6)) (d_mv (v := .float .f64 p1r) s1_1 ?_)
          refine da_on rfl (Eq.trans (show sl _ _ _ = .bool (fcmp .neq .f64 p0 p0) from rfl) (congrArg Value.bool hc6)) (d_mv (v := .float .f64 p1r) s1_1 ?_)
          refine da_on rfl (Eq.trans (show sl _ _ _ = .bool (fcmp .neq .f64 p0 p0) from rfl) (congrArg Value.bool hc6)) (d_fcmp (k := .f64) cNeq rfl rfl p1h p1h ?_)
          refine da_op rfl (d_pick (b := true) (Eq.trans (show ev _ _ = .bool (fcmp .neq .f64 p0 p0) from rfl) (congrArg Value.bool hc6)) ?_)
          refine da_op rfl (d_as (v := .bool (fcmp .neq .f64 p1 p1)) rfl ?_)
          refine da_nil ?_
          subst hr
          exact ⟨rfl, (Ext.refl w1)⟩
        · skip
          replace hr := bif_f hr hc6
          refine da_off rfl (Eq.trans (show sl _ _ _ = .bool (fcmp .neq .f64 p0 p0) from rfl) (congrArg Value.bool hc6)) (by decide) ?_
          refine da_off rfl (Eq.trans (show sl _ _ _ = .bool (fcmp .neq .f64 p0 p0) from rfl) (congrArg Value.bool hc6)) (by decide) ?_
          refine da_off rfl (Eq.trans (show sl _ _ _ = .bool (fcmp .neq .f64 p0 p0) from rfl) (congrArg Value.bool hc6)) (by decide) ?_
          refine da_op rfl (d_pick (b := false) (Eq.trans (show ev _ _ = .bool (fcmp .neq .f64 p0 p0) from rfl) (congrArg Value.bool hc6)) ?_)
          refine da_op rfl (d_as (v := .bool false) rfl ?_)
          refine da_nil ?_
          subst hr
          exact ⟨rfl, (Ext.refl w1)⟩
      · skip
        rintro σ5 w5 o5 ⟨s4_5, E5⟩
        have X7 : Ext w w5 := X3.trans E5
        refine W_ret ?_
        subst hr
        refine ⟨_, res1 (rv_tmp s4_5), ?_⟩
        exact ⟨rfl, X7⟩
    · skip
      replace hr := bif_f hr hc4
      refine W_skip ?_
      refine W_seq ?_
      refine W_seq ?_
      obtain ⟨m8, hm8, hr⟩ := letv_out hr
      refine W_cut (fun σ' w' => σ' 26 = .bool m8 ∧ Ext w1 w') rfl ?_ ?_
      · skip
        have hr := hm8
        refine da_op rfl (d_mv (v := .float .f64 p0r) s0_1 ?_)
        refine da_op rfl (d_fcmp (k := .f64) cEql rfl rfl p0h cn_f64_0 ?_)
        refine da_op rfl (d_mv (v := .bool (fcmp .eql .f64 p0 0)) rfl ?_)
        rcases Bool.eq_false_or_eq_true (fcmp .eql .f64 p0 0) with hc9 | hc9
        · skip
          replace hr := bif_t hr hc9
          refine da_on rfl (Eq.trans (show sl _ _ _ = .bool (fcmp .eql .f64 p0 0) from rfl) (congrArg Value.bool hc9)) (d_mv (v := .float .f64 p1r) s1_1 ?_)
          refine da_on rfl (Eq.trans (show sl _ _ _ = .bool (fcmp .eql .f64 p0 0) from rfl) (congrArg Value.bool hc9)) (d_fcmp (k := .f64) cEql rfl rfl p1h cn_f64_0 ?_)
          refine da_op rfl (d_pick (b := true) (Eq.trans (show ev _ _ = .bool (fcmp .eql .f64 p0 0) from rfl) (congrArg Value.bool hc9)) ?_)
          refine da_nil ?_
          subst hr
          exact ⟨rfl, (Ext.refl w1)⟩
        · skip
          replace hr := bif_f hr hc9
          refine da_off rfl (Eq.trans (show sl _ _ _ = .bool (fcmp .eql .f64 p0 0) from rfl) (congrArg Value.bool hc9)) (by decide) ?_
          refine da_off rfl (Eq.trans (show sl _ _ _ = .bool (fcmp .eql .f64 p0 0) from rfl) (congrArg Value.bool hc9)) (by decide) ?_
          refine da_op rfl (d_pick (b := false) (Eq.trans (show ev _ _ = .bool (fcmp .eql .f64 p0 0) from rfl) (congrArg Value.bool hc9)) ?_)
          refine da_nil ?_
          subst hr
          exact ⟨rfl, (Ext.refl w1)⟩
      · skip
        rintro σ8 w8 o8 ⟨s26_8, E8⟩
        have s0_8 : σ8 0 = .float .f64 p0r := (o8 0 rfl).trans s0_1
        have s1_8 : σ8 1 = .float .f64 p1r := (o8 1 rfl).trans s1_1
        have X10 : Ext w w8 := X3.trans E8
        refine W_cond (b := m8) s26_8 (fun hc11 => ?_) (fun hc11 => ?_)
        · skip
          replace hr := bif_t hr hc11
          refine W_seq ?_
          refine W_region rfl ?_
          refine da_op rfl (d_mv (v := .float .f64 p0r) s0_8 ?_)
          refine da_op rfl (d_fop (k := .f64) fQuo rfl rfl cn_f64_4607182418800017408 p0h fun r12 w12 h12 _ E12 => ?_)
          have X13 : Ext w w12 := X10.trans E12
          refine da_op rfl (d_fcmp (k := .f64) cGtr rfl rfl h12 cn_f64_0 ?_)
          refine da_op rfl (d_mv (v := .float .f64 p1r) s1_8 ?_)
          refine da_op rfl (d_fop (k := .f64) fQuo rfl rfl cn_f64_4607182418800017408 p1h fun r14 w14 h14 _ E14 => ?_)
          have X15 : Ext w w14 := X13.trans E14
          refine da_op rfl (d_fcmp (k := .f64) cGtr rfl rfl h14 cn_f64_0 ?_)
          refine da_op rfl (d_beq un4 rfl rfl ?_)
          refine da_op rfl (d_as (v := .bool ((fcmp .gtr .f64 (fop .quo .f64 4607182418800017408 p0) 0) == (fcmp .gtr .f64 (fop .quo .f64 4607182418800017408 p1) 0))) rfl ?_)
          refine da_nil ?_
          refine W_ret ?_
          subst hr
          refine ⟨_, res1 (rv_tmp rfl), ?_⟩
          exact ⟨rfl, X15⟩
        · skip
          replace hr := bif_f hr hc11
          refine W_skip ?_
          refine W_seq ?_
          refine W_region rfl ?_
          refine da_op rfl (d_mv (v := .float .f64 p0r) s0_8 ?_)
          refine da_op rfl (d_mv (v := .float .f64 p1r) s1_8 ?_)
          refine da_op rfl (d_fcmp (k := .f64) cEql rfl rfl p0h p1h ?_)
          refine da_op rfl (d_as (v := .bool (fcmp .eql .f64 p0 p1)) rfl ?_)
          refine da_nil ?_
          refine W_ret ?_
          subst hr
          refine ⟨_, res1 (rv_tmp rfl), ?_⟩
          exact ⟨rfl, X10⟩
set_option maxHeartbeats 4000000 in
theorem c69 (p0 : SVector) (p1 : SVector) (p0r0 : Nat) (p0r1 : Nat) (p0r2 : Nat) (p1r0 : Nat) (p1r1 : Nat) (p1r2 : Nat) (r : Bool) (w : World) (hr : M.laws_eqVector p0 p1 = r) (p0h0 : cn .f32 p0r0 = p0.x) (p0h1 : cn .f32 p0r1 = p0.y) (p0h2 : cn .f32 p0r2 = p0.z) (p1h0 : cn .f32 p1r0 = p1.x) (p1h1 : cn .f32 p1r1 = p1.y) (p1h2 : cn .f32 p1r2 = p1.z) :
    Calls Tryd.prog 69 #[.agg #[.float .f32 p0r0, .float .f32 p0r1, .float .f32 p0r2], .agg #[.float .f32 p1r0, .float .f32 p1r1, .float .f32 p1r2]] w fun e w' => e = .returned (.bool r) ∧ Ext w w' := by
  refine calls_of_W Tryd.func69 rfl (Nat.le_of_ble_eq_true rfl) ?_
  refine W_seq ?_
  refine W_region rfl ?_
  refine da_op rfl (d_box (cs := #[.float .f32 p0r0, .float .f32 p0r1, .float .f32 p0r2]) rfl fun w1 B1 E1 => ?_)
  have own2 : w.heap.size ≤ w.heap.size := Nat.le_trans (Ext.refl w).size (Nat.le_refl _)
  have X3 : Ext w w1 := (Ext.refl w).trans E1
  refine da_op rfl (d_box (cs := #[.float .f32 p1r0, .float .f32 p1r1, .float .f32 p1r2]) rfl fun w4 B4 E4 => ?_)
  have own5 : w.heap.size ≤ w1.heap.size := Nat.le_trans X3.size (Nat.le_refl _)
  have sp6 : w.heap.size ≠ w1.heap.size := Nat.ne_of_lt (Nat.lt_of_lt_of_le (lt_heap B1) (Nat.le_refl _))
  have X7 : Ext w w4 := X3.trans E4
  refine da_op rfl (d_as (v := .bool false) rfl ?_)
  refine da_nil ?_
  refine W_seq ?_
  refine W_seq ?_
  refine W_region rfl ?_
  refine da_op rfl (d_fieldAddr rfl (fa44_0 _ _) ?_)
  have B8 : w4.heap[w.heap.size]? = some (.cells #[.float .f32 p0r0, .float .f32 p0r1, .float .f32 p0r2] 44 (0, 0)) := E4.heap B1
  refine da_op rfl (d_load (v := .float .f32 p0r0) rfl agg22 B8 rfl ?_)
  refine da_op rfl (d_widen un22 un89 rfl p0h0 fun r9 w9 h9 _ E9 => ?_)
  have X10 : Ext w w9 := X7.trans E9
  refine da_op rfl (d_fieldAddr rfl (fa44_0 _ _) ?_)
  have B11 : w9.heap[w1.heap.size]? = some (.cells #[.float .f32 p1r0, .float .f32 p1r1, .float .f32 p1r2] 44 (0, 0)) := E9.heap B4
  refine da_op rfl (d_load (v := .float .f32 p1r0) rfl agg22 B11 rfl ?_)
  refine da_op rfl (d_widen un22 un89 rfl p1h0 fun r12 w12 h12 _ E12 => ?_)
  have X13 : Ext w w12 := X10.trans E12
  obtain ⟨m14, hm14, hr⟩ := letv_out hr
  have B15 : w12.heap[w.heap.size]? = some (.cells #[.float .f32 p0r0, .float .f32 p0r1, .float .f32 p0r2] 44 (0, 0)) := E12.heap (E9.heap B8)
  have B16 : w12.heap[w1.heap.size]? = some (.cells #[.float .f32 p1r0, .float .f32 p1r1, .float .f32 p1r2] 44 (0, 0)) := E12.heap B11
  refine da_op rfl (d_cl (vs := [.float .f64 r9, .float .f64 r12]) en51 (ac rfl (ac rfl rfl)) rfl ?_)
  refine (c51 (widen p0.x) (widen p1.x) r9 r12 m14 w12 hm14 h9 h12).mono ?_
  rintro _ w17 ⟨rfl, E17⟩
  refine ⟨_, rfl, ?_⟩
  have X18 : Ext w w17 := X13.trans E17
  refine da_op rfl (d_not rfl ?_)
  refine da_nil ?_
  refine W_cond (b := (!m14)) rfl (fun hc19 => ?_) (fun hc19 => ?_)
  · skip
    replace hr := bif_t hr hc19
    refine W_seq ?_
    refine W_region rfl ?_
    refine da_op rfl (d_as (v := .bool false) rfl ?_)
    refine da_nil ?_
    refine W_ret ?_
    subst hr
    refine ⟨_, res1 (rv_tmp rfl), ?_⟩
    exact ⟨rfl, X18⟩
  · skip
    replace hr := bif_f hr hc19
    refine W_skip ?_
    refine W_seq ?_
    refine W_seq ?_
    refine W_region rfl ?_
    refine da_op rfl (d_fieldAddr rfl (fa44_1 _ _) ?_)
    have B20 : w17.heap[w.heap.size]? = some (.cells #[.float .f32 p0r0, .float .f32 p0r1, .float .f32 p0r2] 44 (0, 0)) := E17.heap B15
    refine da_op rfl (d_load (v := .float .f32 p0r1) rfl agg22 B20 rfl ?_)
    refine da_op rfl (d_widen un22 un89 rfl p0h1 fun r21 w21 h21 _ E21 => ?_)
    have X22 : Ext w w21 := X18.trans E21
    refine da_op rfl (d_fieldAddr rfl (fa44_1 _ _) ?_)
    have B23 : w21.heap[w1.heap.size]? = some (.cells #[.float .f32 p1r0, .float .f32 p1r1, .float .f32 p1r2] 44 (0, 0)) := E21.heap (E17.heap B16)
    refine da_op rfl (d_load (v := .float .f32 p1r1) rfl agg22 B23 rfl ?_)
    refine da_op rfl (d_widen un22 un89 rfl p1h1 fun r24 w24 h24 _ E24 => ?_)
    have X25 : Ext w w24 := X22.trans E24
    obtain ⟨m26, hm26, hr⟩ := letv_out hr
    have B27 : w24.heap[w.heap.size]? = some (.cells #[.float .f32 p0r0, .float .f32 p0r1, .float .f32 p0r2] 44 (0, 0)) := E24.heap (E21.heap B20)
    have B28 : w24.heap[w1.heap.size]? = some (.cells #[.float .f32 p1r0, .float .f32 p1r1, .float .f32 p1r2] 44 (0, 0)) := E24.heap B23
    refine da_op rfl (d_cl (vs := [.float .f64 r21, .float .f64 r24]) en51 (ac rfl (ac rfl rfl)) rfl ?_)
    refine (c51 (widen p0.y) (widen p1.y) r21 r24 m26 w24 hm26 h21 h24).mono ?_
    rintro _ w29 ⟨rfl, E29⟩
    refine ⟨_, rfl, ?_⟩
    have X30 : Ext w w29 := X25.trans E29
    refine da_op rfl (d_not rfl ?_)
    refine da_nil ?_
    refine W_cond (b := (!m26)) rfl (fun hc31 => ?_) (fun hc31 => ?_)
    · skip
      replace hr := bif_t hr hc31
      refine W_seq ?_
      refine W_region rfl ?_
      refine da_op rfl (d_as (v := .bool false) rfl ?_)
      refine da_nil ?_
      refine W_ret ?_
      subst hr
      refine ⟨_, res1 (rv_tmp rfl), ?_⟩
      exact ⟨rfl, X30⟩
    · skip
      replace hr := bif_f hr hc31
      refine W_skip ?_
      refine W_seq ?_
      refine W_seq ?_
      refine W_region rfl ?_
      refine da_op rfl (d_fieldAddr rfl (fa44_2 _ _) ?_)
      have B32 : w29.heap[w.heap.size]? = some (.cells #[.float .f32 p0r0, .float .f32 p0r1, .float .f32 p0r2] 44 (0, 0)) := E29.heap B27
      refine da_op rfl (d_load (v := .float .f32 p0r2) rfl agg22 B32 rfl ?_)
      refine da_op rfl (d_widen un22 un89 rfl p0h2 fun r33 w33 h33 _ E33 => ?_)
      have X34 : Ext w w33 := X30.trans E33
      refine da_op rfl (d_fieldAddr rfl (fa44_2 _ _) ?_)
      have B35 : w33.heap[w1.heap.size]? = some (.cells #[.float .f32 p1r0, .float .f32 p1r1, .float .f32 p1r2] 44 (0, 0)) := E33.heap (E29.heap B28)
      refine da_op rfl (d_load (v := .float .f32 p1r2) rfl agg22 B35 rfl ?_)
      refine da_op rfl (d_widen un22 un89 rfl p1h2 fun r36 w36 h36 _ E36 => ?_)
      have X37 : Ext w w36 := X34.trans E36
      obtain ⟨m38, hm38, hr⟩ := letv_out hr
      have B39 : w36.heap[w.heap.size]? = some (.cells #[.float .f32 p0r0, .float .f32 p0r1, .float .f32 p0r2] 44 (0, 0)) := E36.heap (E33.heap B32)
      have B40 : w36.heap[w1.heap.size]? = some (.cells #[.float .f32 p1r0, .float .f32 p1r1, .float .f32 p1r2] 44 (0, 0)) := E36.heap B35
      refine da_op rfl (d_cl (vs := [.float .f64 r33, .float .f64 r36]) en51 (ac rfl (ac rfl rfl)) rfl ?_)
      refine (c51 (widen p0.z) (widen p1.z) r33 r36 m38 w36 hm38 h33 h36).mono ?_
      rintro _ w41 ⟨rfl, E41⟩
      refine ⟨_, rfl, ?_⟩
      have X42 : Ext w w41 := X37.trans E41
      refine da_op rfl (d_not rfl ?_)
      refine da_nil ?_
      refine W_cond (b := (!m38)) rfl (fun hc43 => ?_) (fun hc43 => ?_)
      · skip
        replace hr := bif_t hr hc43
        refine W_seq ?_
        refine W_region rfl ?_
        refine da_op rfl (d_as (v := .bool false) rfl ?_)
        refine da_nil ?_
        refine W_ret ?_
        subst hr
        refine ⟨_, res1 (rv_tmp rfl), ?_⟩
        exact ⟨rfl, X42⟩
      · skip
        replace hr := bif_f hr hc43
        refine W_skip ?_
        refine W_seq ?_
        refine W_region rfl ?_
        refine da_op rfl (d_as (v := .bool true) rfl ?_)
        refine da_nil ?_
        refine W_ret ?_
        subst hr
        refine ⟨_, res1 (rv_tmp rfl), ?_⟩
        exact ⟨rfl, X42⟩
end Go.Proofs
