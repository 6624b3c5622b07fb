import Derived.Test.YtdcienojgkioiaaNMd
import Derived.Test.YtdcienojgkioiaaRk
/- Models that can be reckoned, printed by a program (mkn.py). No program in sight. -/
namespace Go.Proofs
open Go Go.Fl Go.RowKit Go.Rg
set_option linter.unusedVariables false
noncomputable def N.spec_l03Is (p0 : SChain) : Option Bool :=
  letv (
      bif (icmp .gtr ((p0.places).length : Int) 24) then
        true
      else
        bif (icmp .neq ((p0.before).length : Int) ((p0.places).length : Int)) then
          true
        else
          bif (icmp .neq ((p0.weights).length : Int) ((p0.places).length : Int)) then
            true
          else
            (icmp .gtr ((p0.rods).length : Int) 40)) fun m1 =>
  bif m1 then
    some false
  else
    (loopN (fun (s9 : Int) =>
        bif (icmp .lss s9 ((p0.places).length : Int)) then
          (Option.bind (
              (idx p0.places s9).bind fun m13 =>
              letv (M.spec_l01VFinite m13) fun m16 =>
              bif m16 then
                (idx p0.before s9).bind fun m21 =>
                letv (M.spec_l01VFinite m21) fun m24 =>
                bif m24 then
                  (idx p0.weights s9).bind fun m30 =>
                  letv (M.spec_l03Least m30) fun m33 =>
                  some (!m33)
                else
                  some true
              else
                some true) fun m11 =>
          bif m11 then
            some (.inr (.inr false))
          else
            some (.inl (IntKind.i64.wrap (s9 + 1))))
        else
          some (.inr (.inl ()))) (0 : Int)).bind fun m9 =>
    sel m9 (fun m9 =>
      (loopN (fun (s42 : Int) =>
          bif (icmp .lss s42 ((p0.rods).length : Int)) then
            (idx p0.rods s42).bind fun m45 =>
            letv (
                letv (M.spec_l00In m45.a 0 (IntKind.i64.wrap (((p0.places).length : Int) - 1))) fun m56 =>
                bif m56 then
                  letv (M.spec_l00In m45.b 0 (IntKind.i64.wrap (((p0.places).length : Int) - 1))) fun m61 =>
                  bif m61 then
                    bif (icmp .eql m45.a m45.b) then
                      true
                    else
                      letv (M.spec_l03Least m45.long) fun m67 =>
                      (!m67)
                  else
                    true
                else
                  true) fun m55 =>
            bif m55 then
              some (.inr (.inr false))
            else
              some (.inl (IntKind.i64.wrap (s42 + 1)))
          else
            some (.inr (.inl ()))) (0 : Int)).bind fun m42 =>
      sel m42 (fun m42 =>
        some true) (fun m42 =>
        some m42)) (fun m9 =>
      some m9)
theorem N.le_spec_l03Is (p0 : SChain) : Le (N.spec_l03Is p0) (M.spec_l03Is p0) := by
  unfold N.spec_l03Is M.spec_l03Is
  repeat (first | with_reducible exact Le.refl _ | with_reducible refine Le.bind ?_ fun _ => ?_ | with_reducible refine Le.cond ?_ ?_ | with_reducible refine Le.letv fun _ => ?_ | with_reducible refine Le.sel (fun _ => ?_) fun _ => ?_ | with_reducible refine Le.loop fun _ => ?_)
noncomputable def N.spec_l03Give (p0 : SChain) : Option (SChain × Bool) :=
  (N.spec_l03Is p0).bind fun m8 =>
  bif (!m8) then
    some ((⟨[], [], [], []⟩ : SChain), false)
  else
    some (p0, true)
theorem N.le_spec_l03Give (p0 : SChain) : Le (N.spec_l03Give p0) (M.spec_l03Give p0) := by
  unfold N.spec_l03Give M.spec_l03Give
  repeat (first | with_reducible exact Le.refl _ | with_reducible exact N.le_spec_l03Is _ | with_reducible refine Le.bind ?_ fun _ => ?_ | with_reducible refine Le.cond ?_ ?_ | with_reducible refine Le.letv fun _ => ?_ | with_reducible refine Le.sel (fun _ => ?_) fun _ => ?_ | with_reducible refine Le.loop fun _ => ?_)
noncomputable def N.spec_RopeChain (p0 : Int) (p1 : Nat) (p2 : Nat) : Option (SChain × Bool) :=
  letv (
      letv (M.spec_l00In p0 2 24) fun m5 =>
      bif m5 then
        letv (M.spec_l03Above p1) fun m9 =>
        bif m9 then
          letv (M.spec_l03Above p2) fun m14 =>
          (!m14)
        else
          true
      else
        true) fun m4 =>
  bif m4 then
    some ((⟨[], [], [], []⟩ : SChain), false)
  else
    (loopN (fun (s32 : Int × SChain) =>
        bif (icmp .lss s32.1 p0) then
          bif (icmp .eql s32.1 0) then
            (app 12 s32.2.places ([(⟨(fop .mul .f32 (fint .f32 s32.1) p1), 0, 0⟩ : SVector)])).bind fun m60 =>
            (app 12 s32.2.before ([(⟨(fop .mul .f32 (fint .f32 s32.1) p1), 0, 0⟩ : SVector)])).bind fun m110 =>
            (app 4 s32.2.weights ([0])).bind fun m166 =>
            some (.inl ((IntKind.i64.wrap (s32.1 + 1)), (⟨m60, m110, m166, s32.2.rods⟩ : SChain)))
          else
            (app 24 s32.2.rods ([(⟨(IntKind.i64.wrap (s32.1 - 1)), s32.1, p1⟩ : SRod)])).bind fun m198 =>
            (app 12 s32.2.places ([(⟨(fop .mul .f32 (fint .f32 s32.1) p1), 0, 0⟩ : SVector)])).bind fun m241 =>
            (app 12 s32.2.before ([(⟨(fop .mul .f32 (fint .f32 s32.1) p1), 0, 0⟩ : SVector)])).bind fun m291 =>
            (app 4 s32.2.weights ([p2])).bind fun m347 =>
            some (.inl ((IntKind.i64.wrap (s32.1 + 1)), (⟨m241, m291, m347, m198⟩ : SChain)))
        else
          some (.inr s32.2)) ((0, (⟨[], [], [], []⟩ : SChain)) : Int × SChain)).bind fun m32 =>
    (N.spec_l03Give (⟨m32.places, m32.before, m32.weights, m32.rods⟩ : SChain)).bind fun m371 =>
    some (m371.1, m371.2)
theorem N.le_spec_RopeChain (p0 : Int) (p1 : Nat) (p2 : Nat) : Le (N.spec_RopeChain p0 p1 p2) (M.spec_RopeChain p0 p1 p2) := by
  unfold N.spec_RopeChain M.spec_RopeChain
  repeat (first | with_reducible exact Le.refl _ | with_reducible exact N.le_spec_l03Give _ | with_reducible refine Le.bind ?_ fun _ => ?_ | with_reducible refine Le.cond ?_ ?_ | with_reducible refine Le.letv fun _ => ?_ | with_reducible refine Le.sel (fun _ => ?_) fun _ => ?_ | with_reducible refine Le.loop fun _ => ?_)
noncomputable def N.spec_l05Is (p0 : SClocks) : Option Bool :=
  letv (
      bif (icmp .lss ((p0.list).length : Int) 1) then
        true
      else
        bif (icmp .gtr ((p0.list).length : Int) 12) then
          true
        else
          (icmp .neq ((p0.links).length : Int) (IntKind.i64.wrap (((p0.list).length : Int) * ((p0.list).length : Int))))) fun m1 =>
  bif m1 then
    some false
  else
    (loopN (fun (s8 : Int) =>
        bif (icmp .lss s8 ((p0.list).length : Int)) then
          (Option.bind (
              (idx p0.list s8).bind fun m12 =>
              bif (fcmp .geq .f32 m12.turn 0) then
                (idx p0.list s8).bind fun m16 =>
                bif (fcmp .geq .f32 m16.turn 1065353216) then
                  some true
                else
                  (idx p0.list s8).bind fun m19 =>
                  letv (M.spec_l01Finite m19.rate) fun m21 =>
                  some (!m21)
              else
                some true) fun m10 =>
          bif m10 then
            some (.inr (.inr false))
          else
            some (.inl (IntKind.i64.wrap (s8 + 1))))
        else
          some (.inr (.inl ()))) (0 : Int)).bind fun m8 =>
    sel m8 (fun m8 =>
      (loopN (fun (s28 : Int) =>
          bif (icmp .lss s28 ((p0.links).length : Int)) then
            (idx p0.links s28).bind fun m31 =>
            letv (M.spec_l01Finite m31) fun m34 =>
            bif (!m34) then
              some (.inr (.inr false))
            else
              some (.inl (IntKind.i64.wrap (s28 + 1)))
          else
            some (.inr (.inl ()))) (0 : Int)).bind fun m28 =>
      sel m28 (fun m28 =>
        some true) (fun m28 =>
        some m28)) (fun m8 =>
      some m8)
theorem N.le_spec_l05Is (p0 : SClocks) : Le (N.spec_l05Is p0) (M.spec_l05Is p0) := by
  unfold N.spec_l05Is M.spec_l05Is
  repeat (first | with_reducible exact Le.refl _ | with_reducible refine Le.bind ?_ fun _ => ?_ | with_reducible refine Le.cond ?_ ?_ | with_reducible refine Le.letv fun _ => ?_ | with_reducible refine Le.sel (fun _ => ?_) fun _ => ?_ | with_reducible refine Le.loop fun _ => ?_)
noncomputable def N.spec_l05Give (p0 : SClocks) : Option (SClocks × Bool) :=
  (N.spec_l05Is p0).bind fun m8 =>
  bif (!m8) then
    some ((⟨[], []⟩ : SClocks), false)
  else
    some (p0, true)
theorem N.le_spec_l05Give (p0 : SClocks) : Le (N.spec_l05Give p0) (M.spec_l05Give p0) := by
  unfold N.spec_l05Give M.spec_l05Give
  repeat (first | with_reducible exact Le.refl _ | with_reducible exact N.le_spec_l05Is _ | with_reducible refine Le.bind ?_ fun _ => ?_ | with_reducible refine Le.cond ?_ ?_ | with_reducible refine Le.letv fun _ => ?_ | with_reducible refine Le.sel (fun _ => ?_) fun _ => ?_ | with_reducible refine Le.loop fun _ => ?_)
noncomputable def N.spec_EvenClocks (p0 : Int) (p1 : Nat) (p2 : Nat) : Option (SClocks × Bool) :=
  letv (M.spec_l00In p0 1 12) fun m4 =>
  bif (!m4) then
    some ((⟨[], []⟩ : SClocks), false)
  else
    (loopN (fun (s20 : Int × SClocks) =>
        bif (icmp .lss s20.1 p0) then
          (app 8 s20.2.list ([(⟨(fop .quo .f32 (fint .f32 s20.1) (fint .f32 p0)), p1⟩ : SClock)])).bind fun m35 =>
          (loopN (fun (s50 : Int × SClocks) =>
              bif (icmp .lss s50.1 p0) then
                bif (icmp .eql s50.1 s20.1) then
                  (app 4 s50.2.links ([0])).bind fun m62 =>
                  some (.inl ((IntKind.i64.wrap (s50.1 + 1)), (⟨m35, m62⟩ : SClocks)))
                else
                  (app 4 s50.2.links ([p2])).bind fun m86 =>
                  some (.inl ((IntKind.i64.wrap (s50.1 + 1)), (⟨m35, m86⟩ : SClocks)))
              else
                some (.inr (⟨m35, s50.2.links⟩ : SClocks))) ((0, (⟨m35, s20.2.links⟩ : SClocks)) : Int × SClocks)).bind fun m50 =>
          some (.inl ((IntKind.i64.wrap (s20.1 + 1)), (⟨m35, m50.links⟩ : SClocks)))
        else
          some (.inr s20.2)) ((0, (⟨[], []⟩ : SClocks)) : Int × SClocks)).bind fun m20 =>
    (N.spec_l05Give (⟨m20.list, m20.links⟩ : SClocks)).bind fun m104 =>
    some (m104.1, m104.2)
theorem N.le_spec_EvenClocks (p0 : Int) (p1 : Nat) (p2 : Nat) : Le (N.spec_EvenClocks p0 p1 p2) (M.spec_EvenClocks p0 p1 p2) := by
  unfold N.spec_EvenClocks M.spec_EvenClocks
  repeat (first | with_reducible exact Le.refl _ | with_reducible exact N.le_spec_l05Give _ | with_reducible refine Le.bind ?_ fun _ => ?_ | with_reducible refine Le.cond ?_ ?_ | with_reducible refine Le.letv fun _ => ?_ | with_reducible refine Le.sel (fun _ => ?_) fun _ => ?_ | with_reducible refine Le.loop fun _ => ?_)
noncomputable def N.spec_NewDesk : Option SDesk :=
  (N.spec_RopeChain 3 1065353216 1065353216).bind fun m11 =>
  (N.spec_EvenClocks 2 1065353216 0).bind fun m41 =>
  some (⟨(⟨1065353216, 1065353216, 0, 0, 0⟩ : SPendulum), (⟨0, 0, 0⟩ : SSwing), (⟨m11.1.places, m11.1.before, m11.1.weights, m11.1.rods⟩ : SChain), (⟨(⟨1065353216, 1065353216, 1065353216⟩ : SVector), (⟨1065353216, 0, 0, 0⟩ : SSpin), (⟨0, 0, 0⟩ : SVector)⟩ : STop), m41.1⟩ : SDesk)
theorem N.le_spec_NewDesk : Le (N.spec_NewDesk) (M.spec_NewDesk) := by
  unfold N.spec_NewDesk M.spec_NewDesk
  repeat (first | with_reducible exact Le.refl _ | with_reducible exact N.le_spec_RopeChain _ _ _ | with_reducible exact N.le_spec_EvenClocks _ _ _ | with_reducible refine Le.bind ?_ fun _ => ?_ | with_reducible refine Le.cond ?_ ?_ | with_reducible refine Le.letv fun _ => ?_ | with_reducible refine Le.sel (fun _ => ?_) fun _ => ?_ | with_reducible refine Le.loop fun _ => ?_)
noncomputable def N.slices_IndexFunc___float32_float32__f61 (p0 : List Nat) : Option Int :=
  (loopN (fun (s1 : Int) =>
      bif (icmp .lss s1 ((p0).length : Int)) then
        (idx p0 s1).bind fun m3 =>
        letv (M.impl_finite_1 m3) fun m6 =>
        bif m6 then
          some (.inr (.inr s1))
        else
          some (.inl (IntKind.i64.wrap (s1 + 1)))
      else
        some (.inr (.inl ()))) (0 : Int)).bind fun m1 =>
  sel m1 (fun m1 =>
    some (-1)) (fun m1 =>
    some m1)
theorem N.le_slices_IndexFunc___float32_float32__f61 (p0 : List Nat) : Le (N.slices_IndexFunc___float32_float32__f61 p0) (M.slices_IndexFunc___float32_float32__f61 p0) := by
  unfold N.slices_IndexFunc___float32_float32__f61 M.slices_IndexFunc___float32_float32__f61
  repeat (first | with_reducible exact Le.refl _ | with_reducible refine Le.bind ?_ fun _ => ?_ | with_reducible refine Le.cond ?_ ?_ | with_reducible refine Le.letv fun _ => ?_ | with_reducible refine Le.sel (fun _ => ?_) fun _ => ?_ | with_reducible refine Le.loop fun _ => ?_)
noncomputable def N.slices_ContainsFunc___float32_float32__f61 (p0 : List Nat) : Option Bool :=
  (N.slices_IndexFunc___float32_float32__f61 p0).bind fun m1 =>
  some (icmp .geq m1 0)
theorem N.le_slices_ContainsFunc___float32_float32__f61 (p0 : List Nat) : Le (N.slices_ContainsFunc___float32_float32__f61 p0) (M.slices_ContainsFunc___float32_float32__f61 p0) := by
  unfold N.slices_ContainsFunc___float32_float32__f61 M.slices_ContainsFunc___float32_float32__f61
  repeat (first | with_reducible exact Le.refl _ | with_reducible exact N.le_slices_IndexFunc___float32_float32__f61 _ | with_reducible refine Le.bind ?_ fun _ => ?_ | with_reducible refine Le.cond ?_ ?_ | with_reducible refine Le.letv fun _ => ?_ | with_reducible refine Le.sel (fun _ => ?_) fun _ => ?_ | with_reducible refine Le.loop fun _ => ?_)
noncomputable def N.impl_finite (p0 : List Nat) : Option Bool :=
  (N.slices_ContainsFunc___float32_float32__f61 p0).bind fun m1 =>
  some (!m1)
theorem N.le_impl_finite (p0 : List Nat) : Le (N.impl_finite p0) (M.impl_finite p0) := by
  unfold N.impl_finite M.impl_finite
  repeat (first | with_reducible exact Le.refl _ | with_reducible exact N.le_slices_ContainsFunc___float32_float32__f61 _ | with_reducible refine Le.bind ?_ fun _ => ?_ | with_reducible refine Le.cond ?_ ?_ | with_reducible refine Le.letv fun _ => ?_ | with_reducible refine Le.sel (fun _ => ?_) fun _ => ?_ | with_reducible refine Le.loop fun _ => ?_)
noncomputable def N.impl_finiteVector (p0 : SVector) : Option Bool :=
  (N.impl_finite ([p0.x, p0.y, p0.z])).bind fun m7 =>
  some m7
theorem N.le_impl_finiteVector (p0 : SVector) : Le (N.impl_finiteVector p0) (M.impl_finiteVector p0) := by
  unfold N.impl_finiteVector M.impl_finiteVector
  repeat (first | with_reducible exact Le.refl _ | with_reducible exact N.le_impl_finite _ | with_reducible refine Le.bind ?_ fun _ => ?_ | with_reducible refine Le.cond ?_ ?_ | with_reducible refine Le.letv fun _ => ?_ | with_reducible refine Le.sel (fun _ => ?_) fun _ => ?_ | with_reducible refine Le.loop fun _ => ?_)
noncomputable def N.impl_badVector (p0 : SVector) : Option Bool :=
  (N.impl_finiteVector p0).bind fun m4 =>
  some (!m4)
theorem N.le_impl_badVector (p0 : SVector) : Le (N.impl_badVector p0) (M.impl_badVector p0) := by
  unfold N.impl_badVector M.impl_badVector
  repeat (first | with_reducible exact Le.refl _ | with_reducible exact N.le_impl_finiteVector _ | with_reducible refine Le.bind ?_ fun _ => ?_ | with_reducible refine Le.cond ?_ ?_ | with_reducible refine Le.letv fun _ => ?_ | with_reducible refine Le.sel (fun _ => ?_) fun _ => ?_ | with_reducible refine Le.loop fun _ => ?_)
noncomputable def N.slices_IndexFunc___impl_Vector_impl_Vector__f119 (p0 : List SVector) : Option Int :=
  (loopN (fun (s1 : Int) =>
      bif (icmp .lss s1 ((p0).length : Int)) then
        (idx p0 s1).bind fun m3 =>
        (N.impl_badVector m3).bind fun m6 =>
        bif m6 then
          some (.inr (.inr s1))
        else
          some (.inl (IntKind.i64.wrap (s1 + 1)))
      else
        some (.inr (.inl ()))) (0 : Int)).bind fun m1 =>
  sel m1 (fun m1 =>
    some (-1)) (fun m1 =>
    some m1)
theorem N.le_slices_IndexFunc___impl_Vector_impl_Vector__f119 (p0 : List SVector) : Le (N.slices_IndexFunc___impl_Vector_impl_Vector__f119 p0) (M.slices_IndexFunc___impl_Vector_impl_Vector__f119 p0) := by
  unfold N.slices_IndexFunc___impl_Vector_impl_Vector__f119 M.slices_IndexFunc___impl_Vector_impl_Vector__f119
  repeat (first | with_reducible exact Le.refl _ | with_reducible exact N.le_impl_badVector _ | with_reducible refine Le.bind ?_ fun _ => ?_ | with_reducible refine Le.cond ?_ ?_ | with_reducible refine Le.letv fun _ => ?_ | with_reducible refine Le.sel (fun _ => ?_) fun _ => ?_ | with_reducible refine Le.loop fun _ => ?_)
noncomputable def N.slices_ContainsFunc___impl_Vector_impl_Vector__f119 (p0 : List SVector) : Option Bool :=
  (N.slices_IndexFunc___impl_Vector_impl_Vector__f119 p0).bind fun m1 =>
  some (icmp .geq m1 0)
theorem N.le_slices_ContainsFunc___impl_Vector_impl_Vector__f119 (p0 : List SVector) : Le (N.slices_ContainsFunc___impl_Vector_impl_Vector__f119 p0) (M.slices_ContainsFunc___impl_Vector_impl_Vector__f119 p0) := by
  unfold N.slices_ContainsFunc___impl_Vector_impl_Vector__f119 M.slices_ContainsFunc___impl_Vector_impl_Vector__f119
  repeat (first | with_reducible exact Le.refl _ | with_reducible exact N.le_slices_IndexFunc___impl_Vector_impl_Vector__f119 _ | with_reducible refine Le.bind ?_ fun _ => ?_ | with_reducible refine Le.cond ?_ ?_ | with_reducible refine Le.letv fun _ => ?_ | with_reducible refine Le.sel (fun _ => ?_) fun _ => ?_ | with_reducible refine Le.loop fun _ => ?_)
noncomputable def N.slices_IndexFunc___float32_float32__f120 (p0 : List Nat) : Option Int :=
  (loopN (fun (s1 : Int) =>
      bif (icmp .lss s1 ((p0).length : Int)) then
        (idx p0 s1).bind fun m3 =>
        letv (M.impl_badLevel m3) fun m6 =>
        bif m6 then
          some (.inr (.inr s1))
        else
          some (.inl (IntKind.i64.wrap (s1 + 1)))
      else
        some (.inr (.inl ()))) (0 : Int)).bind fun m1 =>
  sel m1 (fun m1 =>
    some (-1)) (fun m1 =>
    some m1)
theorem N.le_slices_IndexFunc___float32_float32__f120 (p0 : List Nat) : Le (N.slices_IndexFunc___float32_float32__f120 p0) (M.slices_IndexFunc___float32_float32__f120 p0) := by
  unfold N.slices_IndexFunc___float32_float32__f120 M.slices_IndexFunc___float32_float32__f120
  repeat (first | with_reducible exact Le.refl _ | with_reducible refine Le.bind ?_ fun _ => ?_ | with_reducible refine Le.cond ?_ ?_ | with_reducible refine Le.letv fun _ => ?_ | with_reducible refine Le.sel (fun _ => ?_) fun _ => ?_ | with_reducible refine Le.loop fun _ => ?_)
noncomputable def N.slices_ContainsFunc___float32_float32__f120 (p0 : List Nat) : Option Bool :=
  (N.slices_IndexFunc___float32_float32__f120 p0).bind fun m1 =>
  some (icmp .geq m1 0)
theorem N.le_slices_ContainsFunc___float32_float32__f120 (p0 : List Nat) : Le (N.slices_ContainsFunc___float32_float32__f120 p0) (M.slices_ContainsFunc___float32_float32__f120 p0) := by
  unfold N.slices_ContainsFunc___float32_float32__f120 M.slices_ContainsFunc___float32_float32__f120
  repeat (first | with_reducible exact Le.refl _ | with_reducible exact N.le_slices_IndexFunc___float32_float32__f120 _ | with_reducible refine Le.bind ?_ fun _ => ?_ | with_reducible refine Le.cond ?_ ?_ | with_reducible refine Le.letv fun _ => ?_ | with_reducible refine Le.sel (fun _ => ?_) fun _ => ?_ | with_reducible refine Le.loop fun _ => ?_)
noncomputable def N.slices_IndexFunc___impl_Rod_impl_Rod__f122 (p0 : List SRod) (p1c0 : SChain) : Option Int :=
  (loopN (fun (s1 : Int) =>
      bif (icmp .lss s1 ((p0).length : Int)) then
        (idx p0 s1).bind fun m3 =>
        letv (M.impl_ValidChain_1 m3 p1c0) fun m6 =>
        bif m6 then
          some (.inr (.inr s1))
        else
          some (.inl (IntKind.i64.wrap (s1 + 1)))
      else
        some (.inr (.inl ()))) (0 : Int)).bind fun m1 =>
  sel m1 (fun m1 =>
    some (-1)) (fun m1 =>
    some m1)
theorem N.le_slices_IndexFunc___impl_Rod_impl_Rod__f122 (p0 : List SRod) (p1c0 : SChain) : Le (N.slices_IndexFunc___impl_Rod_impl_Rod__f122 p0 p1c0) (M.slices_IndexFunc___impl_Rod_impl_Rod__f122 p0 p1c0) := by
  unfold N.slices_IndexFunc___impl_Rod_impl_Rod__f122 M.slices_IndexFunc___impl_Rod_impl_Rod__f122
  repeat (first | with_reducible exact Le.refl _ | with_reducible refine Le.bind ?_ fun _ => ?_ | with_reducible refine Le.cond ?_ ?_ | with_reducible refine Le.letv fun _ => ?_ | with_reducible refine Le.sel (fun _ => ?_) fun _ => ?_ | with_reducible refine Le.loop fun _ => ?_)
noncomputable def N.slices_ContainsFunc___impl_Rod_impl_Rod__f122 (p0 : List SRod) (p1c0 : SChain) : Option Bool :=
  (N.slices_IndexFunc___impl_Rod_impl_Rod__f122 p0 p1c0).bind fun m1 =>
  some (icmp .geq m1 0)
theorem N.le_slices_ContainsFunc___impl_Rod_impl_Rod__f122 (p0 : List SRod) (p1c0 : SChain) : Le (N.slices_ContainsFunc___impl_Rod_impl_Rod__f122 p0 p1c0) (M.slices_ContainsFunc___impl_Rod_impl_Rod__f122 p0 p1c0) := by
  unfold N.slices_ContainsFunc___impl_Rod_impl_Rod__f122 M.slices_ContainsFunc___impl_Rod_impl_Rod__f122
  repeat (first | with_reducible exact Le.refl _ | with_reducible exact N.le_slices_IndexFunc___impl_Rod_impl_Rod__f122 _ _ | with_reducible refine Le.bind ?_ fun _ => ?_ | with_reducible refine Le.cond ?_ ?_ | with_reducible refine Le.letv fun _ => ?_ | with_reducible refine Le.sel (fun _ => ?_) fun _ => ?_ | with_reducible refine Le.loop fun _ => ?_)
noncomputable def N.impl_ValidChain (p0 : SChain) : Option Bool :=
  letv (
      bif (icmp .gtr ((p0.places).length : Int) 24) then
        true
      else
        bif (icmp .neq ((p0.before).length : Int) ((p0.places).length : Int)) then
          true
        else
          bif (icmp .neq ((p0.weights).length : Int) ((p0.places).length : Int)) then
            true
          else
            (icmp .gtr ((p0.rods).length : Int) 40)) fun m5 =>
  bif m5 then
    some false
  else
    (Option.bind (
        (N.slices_ContainsFunc___impl_Vector_impl_Vector__f119 p0.places).bind fun m16 =>
        bif m16 then
          some true
        else
          (N.slices_ContainsFunc___impl_Vector_impl_Vector__f119 p0.before).bind fun m22 =>
          bif m22 then
            some true
          else
            (N.slices_ContainsFunc___float32_float32__f120 p0.weights).bind fun m28 =>
            some m28) fun m14 =>
    bif m14 then
      some false
    else
      (N.slices_ContainsFunc___impl_Rod_impl_Rod__f122 p0.rods (⟨p0.places, p0.before, p0.weights, p0.rods⟩ : SChain)).bind fun m35 =>
      some (!m35))
theorem N.le_impl_ValidChain (p0 : SChain) : Le (N.impl_ValidChain p0) (M.impl_ValidChain p0) := by
  unfold N.impl_ValidChain M.impl_ValidChain
  repeat (first | with_reducible exact Le.refl _ | with_reducible exact N.le_slices_ContainsFunc___impl_Vector_impl_Vector__f119 _ | with_reducible exact N.le_slices_ContainsFunc___float32_float32__f120 _ | with_reducible exact N.le_slices_ContainsFunc___impl_Rod_impl_Rod__f122 _ _ | with_reducible refine Le.bind ?_ fun _ => ?_ | with_reducible refine Le.cond ?_ ?_ | with_reducible refine Le.letv fun _ => ?_ | with_reducible refine Le.sel (fun _ => ?_) fun _ => ?_ | with_reducible refine Le.loop fun _ => ?_)
noncomputable def N.impl_toldChain (p0 : SChain) : Option (SChain × Bool) :=
  (N.impl_ValidChain p0).bind fun m9 =>
  bif (!m9) then
    some ((⟨[], [], [], []⟩ : SChain), false)
  else
    some (p0, true)
theorem N.le_impl_toldChain (p0 : SChain) : Le (N.impl_toldChain p0) (M.impl_toldChain p0) := by
  unfold N.impl_toldChain M.impl_toldChain
  repeat (first | with_reducible exact Le.refl _ | with_reducible exact N.le_impl_ValidChain _ | with_reducible refine Le.bind ?_ fun _ => ?_ | with_reducible refine Le.cond ?_ ?_ | with_reducible refine Le.letv fun _ => ?_ | with_reducible refine Le.sel (fun _ => ?_) fun _ => ?_ | with_reducible refine Le.loop fun _ => ?_)
noncomputable def N.impl_RopeChain (p0 : Int) (p1 : Nat) (p2 : Nat) : Option (SChain × Bool) :=
  letv (
      letv (M.impl_in p0 2 24) fun m5 =>
      bif m5 then
        letv (M.impl_lengthOk p1) fun m9 =>
        bif m9 then
          letv (M.impl_lengthOk p2) fun m14 =>
          (!m14)
        else
          true
      else
        true) fun m4 =>
  bif m4 then
    some ((⟨[], [], [], []⟩ : SChain), false)
  else
    (loopN (fun (s32 : Int × SChain) =>
        bif (icmp .lss s32.1 p0) then
          (app 12 s32.2.places ([(⟨(fop .mul .f32 (fint .f32 s32.1) p1), 0, 0⟩ : SVector)])).bind fun m59 =>
          (app 12 s32.2.before ([(⟨(fop .mul .f32 (fint .f32 s32.1) p1), 0, 0⟩ : SVector)])).bind fun m60 =>
          (app 4 s32.2.weights ([p2])).bind fun m61 =>
          bif (icmp .gtr s32.1 0) then
            (app 24 s32.2.rods ([(⟨(IntKind.i64.wrap (s32.1 - 1)), s32.1, p1⟩ : SRod)])).bind fun m200 =>
            some (.inl ((IntKind.i64.wrap (s32.1 + 1)), (⟨m59, m60, m61, m200⟩ : SChain)))
          else
            some (.inl ((IntKind.i64.wrap (s32.1 + 1)), (⟨m59, m60, m61, s32.2.rods⟩ : SChain)))
        else
          some (.inr s32.2)) ((0, (⟨[], [], [], []⟩ : SChain)) : Int × SChain)).bind fun m32 =>
    (idx m32.weights 0).bind fun m229 =>
    (N.impl_toldChain (⟨m32.places, m32.before, (m32.weights.set (Int.toNat 0) 0), m32.rods⟩ : SChain)).bind fun m240 =>
    some (m240.1, m240.2)
theorem N.le_impl_RopeChain (p0 : Int) (p1 : Nat) (p2 : Nat) : Le (N.impl_RopeChain p0 p1 p2) (M.impl_RopeChain p0 p1 p2) := by
  unfold N.impl_RopeChain M.impl_RopeChain
  repeat (first | with_reducible exact Le.refl _ | with_reducible exact N.le_impl_toldChain _ | with_reducible refine Le.bind ?_ fun _ => ?_ | with_reducible refine Le.cond ?_ ?_ | with_reducible refine Le.letv fun _ => ?_ | with_reducible refine Le.sel (fun _ => ?_) fun _ => ?_ | with_reducible refine Le.loop fun _ => ?_)
noncomputable def N.slices_Repeat___float32_float32_ (p0 : List Nat) (p1 : Int) : Option (List Nat) :=
  bif (icmp .lss p1 0) then
    none
  else
    letv (M.math_bits_Mul (IntKind.u64.wrap ((p0).length : Int)) (IntKind.u64.wrap p1)) fun m2 =>
    letv (
        bif (icmp .gtr m2.1 0) then
          true
        else
          (icmp .gtr m2.2 9223372036854775807)) fun m5 =>
    bif m5 then
      none
    else
      (mkl 4 (IntKind.i64.wrap m2.2) (IntKind.i64.wrap m2.2) 0).bind fun m9 =>
      (loopN (fun (s15 : Int × List Nat) =>
          bif (icmp .lss s15.1 ((s15.2).length : Int)) then
            (repI s15.2 s15.1).bind fun m19 =>
            some (.inl (m19.2, m19.1))
          else
            some (.inr s15.2)) ((((min (p0).length (m9).length : Nat) : Int), (cpyAt m9 0 p0)) : Int × List Nat)).bind fun m15 =>
      some m15
theorem N.le_slices_Repeat___float32_float32_ (p0 : List Nat) (p1 : Int) : Le (N.slices_Repeat___float32_float32_ p0 p1) (M.slices_Repeat___float32_float32_ p0 p1) := by
  unfold N.slices_Repeat___float32_float32_ M.slices_Repeat___float32_float32_
  repeat (first | with_reducible exact Le.refl _ | with_reducible refine Le.bind ?_ fun _ => ?_ | with_reducible refine Le.cond ?_ ?_ | with_reducible refine Le.letv fun _ => ?_ | with_reducible refine Le.sel (fun _ => ?_) fun _ => ?_ | with_reducible refine Le.loop fun _ => ?_)
noncomputable def N.slices_IndexFunc___impl_Clock_impl_Clock__f107 (p0 : List SClock) : Option Int :=
  (loopN (fun (s1 : Int) =>
      bif (icmp .lss s1 ((p0).length : Int)) then
        (idx p0 s1).bind fun m3 =>
        letv (M.impl_ValidClocks_1 m3) fun m6 =>
        bif m6 then
          some (.inr (.inr s1))
        else
          some (.inl (IntKind.i64.wrap (s1 + 1)))
      else
        some (.inr (.inl ()))) (0 : Int)).bind fun m1 =>
  sel m1 (fun m1 =>
    some (-1)) (fun m1 =>
    some m1)
theorem N.le_slices_IndexFunc___impl_Clock_impl_Clock__f107 (p0 : List SClock) : Le (N.slices_IndexFunc___impl_Clock_impl_Clock__f107 p0) (M.slices_IndexFunc___impl_Clock_impl_Clock__f107 p0) := by
  unfold N.slices_IndexFunc___impl_Clock_impl_Clock__f107 M.slices_IndexFunc___impl_Clock_impl_Clock__f107
  repeat (first | with_reducible exact Le.refl _ | with_reducible refine Le.bind ?_ fun _ => ?_ | with_reducible refine Le.cond ?_ ?_ | with_reducible refine Le.letv fun _ => ?_ | with_reducible refine Le.sel (fun _ => ?_) fun _ => ?_ | with_reducible refine Le.loop fun _ => ?_)
noncomputable def N.slices_ContainsFunc___impl_Clock_impl_Clock__f107 (p0 : List SClock) : Option Bool :=
  (N.slices_IndexFunc___impl_Clock_impl_Clock__f107 p0).bind fun m1 =>
  some (icmp .geq m1 0)
theorem N.le_slices_ContainsFunc___impl_Clock_impl_Clock__f107 (p0 : List SClock) : Le (N.slices_ContainsFunc___impl_Clock_impl_Clock__f107 p0) (M.slices_ContainsFunc___impl_Clock_impl_Clock__f107 p0) := by
  unfold N.slices_ContainsFunc___impl_Clock_impl_Clock__f107 M.slices_ContainsFunc___impl_Clock_impl_Clock__f107
  repeat (first | with_reducible exact Le.refl _ | with_reducible exact N.le_slices_IndexFunc___impl_Clock_impl_Clock__f107 _ | with_reducible refine Le.bind ?_ fun _ => ?_ | with_reducible refine Le.cond ?_ ?_ | with_reducible refine Le.letv fun _ => ?_ | with_reducible refine Le.sel (fun _ => ?_) fun _ => ?_ | with_reducible refine Le.loop fun _ => ?_)
noncomputable def N.impl_ValidClocks (p0 : SClocks) : Option Bool :=
  (N.slices_ContainsFunc___impl_Clock_impl_Clock__f107 p0.list).bind fun m5 =>
  (Option.bind (
      letv (M.impl_in ((p0.list).length : Int) 1 12) fun m10 =>
      bif m10 then
        bif m5 then
          some false
        else
          bif (icmp .eql ((p0.links).length : Int) (IntKind.i64.wrap (((p0.list).length : Int) * ((p0.list).length : Int)))) then
            (N.impl_finite p0.links).bind fun m18 =>
            some m18
          else
            some false
      else
        some false) fun m8 =>
  some m8)
theorem N.le_impl_ValidClocks (p0 : SClocks) : Le (N.impl_ValidClocks p0) (M.impl_ValidClocks p0) := by
  unfold N.impl_ValidClocks M.impl_ValidClocks
  repeat (first | with_reducible exact Le.refl _ | with_reducible exact N.le_slices_ContainsFunc___impl_Clock_impl_Clock__f107 _ | with_reducible exact N.le_impl_finite _ | with_reducible refine Le.bind ?_ fun _ => ?_ | with_reducible refine Le.cond ?_ ?_ | with_reducible refine Le.letv fun _ => ?_ | with_reducible refine Le.sel (fun _ => ?_) fun _ => ?_ | with_reducible refine Le.loop fun _ => ?_)
noncomputable def N.impl_EvenClocks (p0 : Int) (p1 : Nat) (p2 : Nat) : Option (SClocks × Bool) :=
  letv (M.impl_in p0 1 12) fun m4 =>
  bif (!m4) then
    some ((⟨[], []⟩ : SClocks), false)
  else
    (N.slices_Repeat___float32_float32_ ([p2]) (IntKind.i64.wrap (p0 * p0))).bind fun m16 =>
    (loopN (fun (s34 : Int × SClocks) =>
        bif (icmp .lss s34.1 p0) then
          (app 8 s34.2.list ([(⟨(fop .quo .f32 (fint .f32 s34.1) (fint .f32 p0)), p1⟩ : SClock)])).bind fun m50 =>
          (idx s34.2.links (IntKind.i64.wrap ((IntKind.i64.wrap (s34.1 * p0)) + s34.1))).bind fun m65 =>
          some (.inl ((IntKind.i64.wrap (s34.1 + 1)), (⟨m50, (s34.2.links.set (IntKind.i64.wrap ((IntKind.i64.wrap (s34.1 * p0)) + s34.1)).toNat 0)⟩ : SClocks)))
        else
          some (.inr s34.2)) ((0, (⟨[], m16⟩ : SClocks)) : Int × SClocks)).bind fun m34 =>
    (N.impl_ValidClocks (⟨m34.list, m34.links⟩ : SClocks)).bind fun m77 =>
    bif (!m77) then
      some ((⟨[], []⟩ : SClocks), false)
    else
      some ((⟨m34.list, m34.links⟩ : SClocks), true)
theorem N.le_impl_EvenClocks (p0 : Int) (p1 : Nat) (p2 : Nat) : Le (N.impl_EvenClocks p0 p1 p2) (M.impl_EvenClocks p0 p1 p2) := by
  unfold N.impl_EvenClocks M.impl_EvenClocks
  repeat (first | with_reducible exact Le.refl _ | with_reducible exact N.le_slices_Repeat___float32_float32_ _ _ | with_reducible exact N.le_impl_ValidClocks _ | with_reducible refine Le.bind ?_ fun _ => ?_ | with_reducible refine Le.cond ?_ ?_ | with_reducible refine Le.letv fun _ => ?_ | with_reducible refine Le.sel (fun _ => ?_) fun _ => ?_ | with_reducible refine Le.loop fun _ => ?_)
noncomputable def N.impl_NewDesk : Option SDesk :=
  (N.impl_RopeChain 3 1065353216 1065353216).bind fun m11 =>
  (N.impl_EvenClocks 2 1065353216 0).bind fun m34 =>
  some (⟨(⟨1065353216, 1065353216, 0, 0, 0⟩ : SPendulum), (⟨0, 0, 0⟩ : SSwing), (⟨m11.1.places, m11.1.before, m11.1.weights, m11.1.rods⟩ : SChain), (⟨(⟨1065353216, 1065353216, 1065353216⟩ : SVector), (⟨1065353216, 0, 0, 0⟩ : SSpin), (⟨0, 0, 0⟩ : SVector)⟩ : STop), m34.1⟩ : SDesk)
theorem N.le_impl_NewDesk : Le (N.impl_NewDesk) (M.impl_NewDesk) := by
  unfold N.impl_NewDesk M.impl_NewDesk
  repeat (first | with_reducible exact Le.refl _ | with_reducible exact N.le_impl_RopeChain _ _ _ | with_reducible exact N.le_impl_EvenClocks _ _ _ | with_reducible refine Le.bind ?_ fun _ => ?_ | with_reducible refine Le.cond ?_ ?_ | with_reducible refine Le.letv fun _ => ?_ | with_reducible refine Le.sel (fun _ => ?_) fun _ => ?_ | with_reducible refine Le.loop fun _ => ?_)
noncomputable def N.laws_eqVectorS (p0 : List SVector) (p1 : List SVector) : Option Bool :=
  bif (icmp .neq ((p0).length : Int) ((p1).length : Int)) then
    some false
  else
    (loopN (fun (s2 : Int) =>
        bif (icmp .lss s2 ((p0).length : Int)) then
          (idx p0 s2).bind fun m7 =>
          (idx p1 s2).bind fun m8 =>
          letv (M.laws_eqVector m7 m8) fun m9 =>
          bif (!m9) then
            some (.inr (.inr false))
          else
            some (.inl (IntKind.i64.wrap (s2 + 1)))
        else
          some (.inr (.inl ()))) (0 : Int)).bind fun m2 =>
    sel m2 (fun m2 =>
      some true) (fun m2 =>
      some m2)
theorem N.le_laws_eqVectorS (p0 : List SVector) (p1 : List SVector) : Le (N.laws_eqVectorS p0 p1) (M.laws_eqVectorS p0 p1) := by
  unfold N.laws_eqVectorS M.laws_eqVectorS
  repeat (first | with_reducible exact Le.refl _ | with_reducible refine Le.bind ?_ fun _ => ?_ | with_reducible refine Le.cond ?_ ?_ | with_reducible refine Le.letv fun _ => ?_ | with_reducible refine Le.sel (fun _ => ?_) fun _ => ?_ | with_reducible refine Le.loop fun _ => ?_)
noncomputable def N.laws_eqFloat32S (p0 : List Nat) (p1 : List Nat) : Option Bool :=
  bif (icmp .neq ((p0).length : Int) ((p1).length : Int)) then
    some false
  else
    (loopN (fun (s2 : Int) =>
        bif (icmp .lss s2 ((p0).length : Int)) then
          (idx p0 s2).bind fun m7 =>
          (idx p1 s2).bind fun m8 =>
          letv (M.laws_sameFloat (widen m7) (widen m8)) fun m9 =>
          bif (!m9) then
            some (.inr (.inr false))
          else
            some (.inl (IntKind.i64.wrap (s2 + 1)))
        else
          some (.inr (.inl ()))) (0 : Int)).bind fun m2 =>
    sel m2 (fun m2 =>
      some true) (fun m2 =>
      some m2)
theorem N.le_laws_eqFloat32S (p0 : List Nat) (p1 : List Nat) : Le (N.laws_eqFloat32S p0 p1) (M.laws_eqFloat32S p0 p1) := by
  unfold N.laws_eqFloat32S M.laws_eqFloat32S
  repeat (first | with_reducible exact Le.refl _ | with_reducible refine Le.bind ?_ fun _ => ?_ | with_reducible refine Le.cond ?_ ?_ | with_reducible refine Le.letv fun _ => ?_ | with_reducible refine Le.sel (fun _ => ?_) fun _ => ?_ | with_reducible refine Le.loop fun _ => ?_)
noncomputable def N.laws_eqRodS (p0 : List SRod) (p1 : List SRod) : Option Bool :=
  bif (icmp .neq ((p0).length : Int) ((p1).length : Int)) then
    some false
  else
    (loopN (fun (s2 : Int) =>
        bif (icmp .lss s2 ((p0).length : Int)) then
          (idx p0 s2).bind fun m7 =>
          (idx p1 s2).bind fun m8 =>
          letv (M.laws_eqRod m7 m8) fun m9 =>
          bif (!m9) then
            some (.inr (.inr false))
          else
            some (.inl (IntKind.i64.wrap (s2 + 1)))
        else
          some (.inr (.inl ()))) (0 : Int)).bind fun m2 =>
    sel m2 (fun m2 =>
      some true) (fun m2 =>
      some m2)
theorem N.le_laws_eqRodS (p0 : List SRod) (p1 : List SRod) : Le (N.laws_eqRodS p0 p1) (M.laws_eqRodS p0 p1) := by
  unfold N.laws_eqRodS M.laws_eqRodS
  repeat (first | with_reducible exact Le.refl _ | with_reducible refine Le.bind ?_ fun _ => ?_ | with_reducible refine Le.cond ?_ ?_ | with_reducible refine Le.letv fun _ => ?_ | with_reducible refine Le.sel (fun _ => ?_) fun _ => ?_ | with_reducible refine Le.loop fun _ => ?_)
noncomputable def N.laws_eqChain (p0 : SChain) (p1 : SChain) : Option Bool :=
  (N.laws_eqVectorS p0.places p1.places).bind fun m9 =>
  bif (!m9) then
    some false
  else
    (N.laws_eqVectorS p0.before p1.before).bind fun m17 =>
    bif (!m17) then
      some false
    else
      (N.laws_eqFloat32S p0.weights p1.weights).bind fun m25 =>
      bif (!m25) then
        some false
      else
        (N.laws_eqRodS p0.rods p1.rods).bind fun m33 =>
        bif (!m33) then
          some false
        else
          some true
theorem N.le_laws_eqChain (p0 : SChain) (p1 : SChain) : Le (N.laws_eqChain p0 p1) (M.laws_eqChain p0 p1) := by
  unfold N.laws_eqChain M.laws_eqChain
  repeat (first | with_reducible exact Le.refl _ | with_reducible exact N.le_laws_eqVectorS _ _ | with_reducible exact N.le_laws_eqFloat32S _ _ | with_reducible exact N.le_laws_eqRodS _ _ | with_reducible refine Le.bind ?_ fun _ => ?_ | with_reducible refine Le.cond ?_ ?_ | with_reducible refine Le.letv fun _ => ?_ | with_reducible refine Le.sel (fun _ => ?_) fun _ => ?_ | with_reducible refine Le.loop fun _ => ?_)
noncomputable def N.laws_eqClockS (p0 : List SClock) (p1 : List SClock) : Option Bool :=
  bif (icmp .neq ((p0).length : Int) ((p1).length : Int)) then
    some false
  else
    (loopN (fun (s2 : Int) =>
        bif (icmp .lss s2 ((p0).length : Int)) then
          (idx p0 s2).bind fun m7 =>
          (idx p1 s2).bind fun m8 =>
          letv (M.laws_eqClock m7 m8) fun m9 =>
          bif (!m9) then
            some (.inr (.inr false))
          else
            some (.inl (IntKind.i64.wrap (s2 + 1)))
        else
          some (.inr (.inl ()))) (0 : Int)).bind fun m2 =>
    sel m2 (fun m2 =>
      some true) (fun m2 =>
      some m2)
theorem N.le_laws_eqClockS (p0 : List SClock) (p1 : List SClock) : Le (N.laws_eqClockS p0 p1) (M.laws_eqClockS p0 p1) := by
  unfold N.laws_eqClockS M.laws_eqClockS
  repeat (first | with_reducible exact Le.refl _ | with_reducible refine Le.bind ?_ fun _ => ?_ | with_reducible refine Le.cond ?_ ?_ | with_reducible refine Le.letv fun _ => ?_ | with_reducible refine Le.sel (fun _ => ?_) fun _ => ?_ | with_reducible refine Le.loop fun _ => ?_)
noncomputable def N.laws_eqClocks (p0 : SClocks) (p1 : SClocks) : Option Bool :=
  (N.laws_eqClockS p0.list p1.list).bind fun m9 =>
  bif (!m9) then
    some false
  else
    (N.laws_eqFloat32S p0.links p1.links).bind fun m17 =>
    bif (!m17) then
      some false
    else
      some true
theorem N.le_laws_eqClocks (p0 : SClocks) (p1 : SClocks) : Le (N.laws_eqClocks p0 p1) (M.laws_eqClocks p0 p1) := by
  unfold N.laws_eqClocks M.laws_eqClocks
  repeat (first | with_reducible exact Le.refl _ | with_reducible exact N.le_laws_eqClockS _ _ | with_reducible exact N.le_laws_eqFloat32S _ _ | with_reducible refine Le.bind ?_ fun _ => ?_ | with_reducible refine Le.cond ?_ ?_ | with_reducible refine Le.letv fun _ => ?_ | with_reducible refine Le.sel (fun _ => ?_) fun _ => ?_ | with_reducible refine Le.loop fun _ => ?_)
noncomputable def N.laws_eqDesk (p0 : SDesk) (p1 : SDesk) : Option Bool :=
  letv (M.laws_eqPendulum p0.pendulum p1.pendulum) fun m9 =>
  bif (!m9) then
    some false
  else
    letv (M.laws_eqSwing p0.swing p1.swing) fun m15 =>
    bif (!m15) then
      some false
    else
      (N.laws_eqChain p0.chain p1.chain).bind fun m21 =>
      bif (!m21) then
        some false
      else
        letv (M.laws_eqTop (⟨(⟨p0.top.moments.x, p0.top.moments.y, p0.top.moments.z⟩ : SVector), (⟨p0.top.turn.w, p0.top.turn.x, p0.top.turn.y, p0.top.turn.z⟩ : SSpin), (⟨p0.top.speed.x, p0.top.speed.y, p0.top.speed.z⟩ : SVector)⟩ : STop) (⟨(⟨p1.top.moments.x, p1.top.moments.y, p1.top.moments.z⟩ : SVector), (⟨p1.top.turn.w, p1.top.turn.x, p1.top.turn.y, p1.top.turn.z⟩ : SSpin), (⟨p1.top.speed.x, p1.top.speed.y, p1.top.speed.z⟩ : SVector)⟩ : STop)) fun m35 =>
        bif (!m35) then
          some false
        else
          (N.laws_eqClocks (⟨p0.clocks.list, p0.clocks.links⟩ : SClocks) (⟨p1.clocks.list, p1.clocks.links⟩ : SClocks)).bind fun m41 =>
          bif (!m41) then
            some false
          else
            some true
theorem N.le_laws_eqDesk (p0 : SDesk) (p1 : SDesk) : Le (N.laws_eqDesk p0 p1) (M.laws_eqDesk p0 p1) := by
  unfold N.laws_eqDesk M.laws_eqDesk
  repeat (first | with_reducible exact Le.refl _ | with_reducible exact N.le_laws_eqChain _ _ | with_reducible exact N.le_laws_eqClocks _ _ | with_reducible refine Le.bind ?_ fun _ => ?_ | with_reducible refine Le.cond ?_ ?_ | with_reducible refine Le.letv fun _ => ?_ | with_reducible refine Le.sel (fun _ => ?_) fun _ => ?_ | with_reducible refine Le.loop fun _ => ?_)
noncomputable def N.laws_markVectorS (p0 : List SVector) (p1 : Int) : Option (Int × List SVector) :=
  (loopN (fun (s1 : Int × Int × List SVector) =>
      bif (icmp .lss s1.2.1 ((s1.2.2).length : Int)) then
        (idx s1.2.2 s1.2.1).bind fun m3 =>
        (idx (s1.2.2.set s1.2.1.toNat (⟨(fint .f32 s1.1), m3.y, m3.z⟩ : SVector)) s1.2.1).bind fun m8 =>
        (idx ((s1.2.2.set s1.2.1.toNat (⟨(fint .f32 s1.1), m3.y, m3.z⟩ : SVector)).set s1.2.1.toNat (⟨m8.x, (fint .f32 (IntKind.i64.wrap (s1.1 + 1))), m8.z⟩ : SVector)) s1.2.1).bind fun m13 =>
        some (.inl ((IntKind.i64.wrap ((IntKind.i64.wrap ((IntKind.i64.wrap (s1.1 + 1)) + 1)) + 1)), (IntKind.i64.wrap (s1.2.1 + 1)), (((s1.2.2.set s1.2.1.toNat (⟨(fint .f32 s1.1), m3.y, m3.z⟩ : SVector)).set s1.2.1.toNat (⟨m8.x, (fint .f32 (IntKind.i64.wrap (s1.1 + 1))), m8.z⟩ : SVector)).set s1.2.1.toNat (⟨m13.x, m13.y, (fint .f32 (IntKind.i64.wrap ((IntKind.i64.wrap (s1.1 + 1)) + 1)))⟩ : SVector))))
      else
        some (.inr (s1.1, s1.2.2))) ((p1, 0, p0) : Int × Int × List SVector)).bind fun m1 =>
  some (m1.1, m1.2)
theorem N.le_laws_markVectorS (p0 : List SVector) (p1 : Int) : Le (N.laws_markVectorS p0 p1) (M.laws_markVectorS p0 p1) := by
  unfold N.laws_markVectorS M.laws_markVectorS
  repeat (first | with_reducible exact Le.refl _ | with_reducible refine Le.bind ?_ fun _ => ?_ | with_reducible refine Le.cond ?_ ?_ | with_reducible refine Le.letv fun _ => ?_ | with_reducible refine Le.sel (fun _ => ?_) fun _ => ?_ | with_reducible refine Le.loop fun _ => ?_)
noncomputable def N.laws_markFloat32S (p0 : List Nat) (p1 : Int) : Option (Int × List Nat) :=
  (loopN (fun (s1 : Int × Int × List Nat) =>
      bif (icmp .lss s1.2.1 ((s1.2.2).length : Int)) then
        (idx s1.2.2 s1.2.1).bind fun m3 =>
        some (.inl ((IntKind.i64.wrap (s1.1 + 1)), (IntKind.i64.wrap (s1.2.1 + 1)), (s1.2.2.set s1.2.1.toNat (fint .f32 s1.1))))
      else
        some (.inr (s1.1, s1.2.2))) ((p1, 0, p0) : Int × Int × List Nat)).bind fun m1 =>
  some (m1.1, m1.2)
theorem N.le_laws_markFloat32S (p0 : List Nat) (p1 : Int) : Le (N.laws_markFloat32S p0 p1) (M.laws_markFloat32S p0 p1) := by
  unfold N.laws_markFloat32S M.laws_markFloat32S
  repeat (first | with_reducible exact Le.refl _ | with_reducible refine Le.bind ?_ fun _ => ?_ | with_reducible refine Le.cond ?_ ?_ | with_reducible refine Le.letv fun _ => ?_ | with_reducible refine Le.sel (fun _ => ?_) fun _ => ?_ | with_reducible refine Le.loop fun _ => ?_)
noncomputable def N.laws_markRodS (p0 : List SRod) (p1 : Int) : Option (Int × List SRod) :=
  (loopN (fun (s1 : Int × Int × List SRod) =>
      bif (icmp .lss s1.2.1 ((s1.2.2).length : Int)) then
        (idx s1.2.2 s1.2.1).bind fun m3 =>
        (idx (s1.2.2.set s1.2.1.toNat (⟨s1.1, m3.b, m3.long⟩ : SRod)) s1.2.1).bind fun m8 =>
        (idx ((s1.2.2.set s1.2.1.toNat (⟨s1.1, m3.b, m3.long⟩ : SRod)).set s1.2.1.toNat (⟨m8.a, (IntKind.i64.wrap (s1.1 + 1)), m8.long⟩ : SRod)) s1.2.1).bind fun m13 =>
        some (.inl ((IntKind.i64.wrap ((IntKind.i64.wrap ((IntKind.i64.wrap (s1.1 + 1)) + 1)) + 1)), (IntKind.i64.wrap (s1.2.1 + 1)), (((s1.2.2.set s1.2.1.toNat (⟨s1.1, m3.b, m3.long⟩ : SRod)).set s1.2.1.toNat (⟨m8.a, (IntKind.i64.wrap (s1.1 + 1)), m8.long⟩ : SRod)).set s1.2.1.toNat (⟨m13.a, m13.b, (fint .f32 (IntKind.i64.wrap ((IntKind.i64.wrap (s1.1 + 1)) + 1)))⟩ : SRod))))
      else
        some (.inr (s1.1, s1.2.2))) ((p1, 0, p0) : Int × Int × List SRod)).bind fun m1 =>
  some (m1.1, m1.2)
theorem N.le_laws_markRodS (p0 : List SRod) (p1 : Int) : Le (N.laws_markRodS p0 p1) (M.laws_markRodS p0 p1) := by
  unfold N.laws_markRodS M.laws_markRodS
  repeat (first | with_reducible exact Le.refl _ | with_reducible refine Le.bind ?_ fun _ => ?_ | with_reducible refine Le.cond ?_ ?_ | with_reducible refine Le.letv fun _ => ?_ | with_reducible refine Le.sel (fun _ => ?_) fun _ => ?_ | with_reducible refine Le.loop fun _ => ?_)
noncomputable def N.laws_markChain (p0 : SChain) (p1 : Int) : Option (Int × List SVector × List SVector × List Nat × List SRod) :=
  (N.laws_markVectorS p0.places p1).bind fun m8 =>
  (N.laws_markVectorS p0.before m8.1).bind fun m16 =>
  (N.laws_markFloat32S p0.weights m16.1).bind fun m23 =>
  (N.laws_markRodS p0.rods m23.1).bind fun m30 =>
  some (m30.1, m8.2, m16.2, m23.2, m30.2)
theorem N.le_laws_markChain (p0 : SChain) (p1 : Int) : Le (N.laws_markChain p0 p1) (M.laws_markChain p0 p1) := by
  unfold N.laws_markChain M.laws_markChain
  repeat (first | with_reducible exact Le.refl _ | with_reducible exact N.le_laws_markVectorS _ _ | with_reducible exact N.le_laws_markFloat32S _ _ | with_reducible exact N.le_laws_markRodS _ _ | with_reducible refine Le.bind ?_ fun _ => ?_ | with_reducible refine Le.cond ?_ ?_ | with_reducible refine Le.letv fun _ => ?_ | with_reducible refine Le.sel (fun _ => ?_) fun _ => ?_ | with_reducible refine Le.loop fun _ => ?_)
noncomputable def N.laws_markClockS (p0 : List SClock) (p1 : Int) : Option (Int × List SClock) :=
  (loopN (fun (s1 : Int × Int × List SClock) =>
      bif (icmp .lss s1.2.1 ((s1.2.2).length : Int)) then
        (idx s1.2.2 s1.2.1).bind fun m3 =>
        (idx (s1.2.2.set s1.2.1.toNat (⟨(fint .f32 s1.1), m3.rate⟩ : SClock)) s1.2.1).bind fun m8 =>
        some (.inl ((IntKind.i64.wrap ((IntKind.i64.wrap (s1.1 + 1)) + 1)), (IntKind.i64.wrap (s1.2.1 + 1)), ((s1.2.2.set s1.2.1.toNat (⟨(fint .f32 s1.1), m3.rate⟩ : SClock)).set s1.2.1.toNat (⟨m8.turn, (fint .f32 (IntKind.i64.wrap (s1.1 + 1)))⟩ : SClock))))
      else
        some (.inr (s1.1, s1.2.2))) ((p1, 0, p0) : Int × Int × List SClock)).bind fun m1 =>
  some (m1.1, m1.2)
theorem N.le_laws_markClockS (p0 : List SClock) (p1 : Int) : Le (N.laws_markClockS p0 p1) (M.laws_markClockS p0 p1) := by
  unfold N.laws_markClockS M.laws_markClockS
  repeat (first | with_reducible exact Le.refl _ | with_reducible refine Le.bind ?_ fun _ => ?_ | with_reducible refine Le.cond ?_ ?_ | with_reducible refine Le.letv fun _ => ?_ | with_reducible refine Le.sel (fun _ => ?_) fun _ => ?_ | with_reducible refine Le.loop fun _ => ?_)
noncomputable def N.laws_markClocks (p0 : SClocks) (p1 : Int) : Option (Int × List SClock × List Nat) :=
  (N.laws_markClockS p0.list p1).bind fun m6 =>
  (N.laws_markFloat32S p0.links m6.1).bind fun m12 =>
  some (m12.1, m6.2, m12.2)
theorem N.le_laws_markClocks (p0 : SClocks) (p1 : Int) : Le (N.laws_markClocks p0 p1) (M.laws_markClocks p0 p1) := by
  unfold N.laws_markClocks M.laws_markClocks
  repeat (first | with_reducible exact Le.refl _ | with_reducible exact N.le_laws_markClockS _ _ | with_reducible exact N.le_laws_markFloat32S _ _ | with_reducible refine Le.bind ?_ fun _ => ?_ | with_reducible refine Le.cond ?_ ?_ | with_reducible refine Le.letv fun _ => ?_ | with_reducible refine Le.sel (fun _ => ?_) fun _ => ?_ | with_reducible refine Le.loop fun _ => ?_)
noncomputable def N.laws_markDesk (p0 : SDesk) (p1 : Int) : Option (Int × List SVector × List SVector × List Nat × List SRod × List SClock × List Nat) :=
  (N.laws_markChain p0.chain p1).bind fun m10 =>
  (N.laws_markClocks (⟨p0.clocks.list, p0.clocks.links⟩ : SClocks) m10.1).bind fun m20 =>
  some (m20.1, m10.2.1, m10.2.2.1, m10.2.2.2.1, m10.2.2.2.2, m20.2.1, m20.2.2)
theorem N.le_laws_markDesk (p0 : SDesk) (p1 : Int) : Le (N.laws_markDesk p0 p1) (M.laws_markDesk p0 p1) := by
  unfold N.laws_markDesk M.laws_markDesk
  repeat (first | with_reducible exact Le.refl _ | with_reducible exact N.le_laws_markChain _ _ | with_reducible exact N.le_laws_markClocks _ _ | with_reducible refine Le.bind ?_ fun _ => ?_ | with_reducible refine Le.cond ?_ ?_ | with_reducible refine Le.letv fun _ => ?_ | with_reducible refine Le.sel (fun _ => ?_) fun _ => ?_ | with_reducible refine Le.loop fun _ => ?_)
noncomputable def N.laws_heldVectorS (p0 : List SVector) (p1 : Int) : Option Int :=
  (loopN (fun (s1 : Int × Int) =>
      bif (icmp .lss s1.2 ((p0).length : Int)) then
        (idx p0 s1.2).bind fun m4 =>
        bif (fcmp .neq .f32 m4.x (fint .f32 s1.1)) then
          some (.inr (.inr (-1)))
        else
          (idx p0 s1.2).bind fun m7 =>
          bif (fcmp .neq .f32 m7.y (fint .f32 (IntKind.i64.wrap (s1.1 + 1)))) then
            some (.inr (.inr (-1)))
          else
            (idx p0 s1.2).bind fun m10 =>
            bif (fcmp .neq .f32 m10.z (fint .f32 (IntKind.i64.wrap ((IntKind.i64.wrap (s1.1 + 1)) + 1)))) then
              some (.inr (.inr (-1)))
            else
              some (.inl ((IntKind.i64.wrap ((IntKind.i64.wrap ((IntKind.i64.wrap (s1.1 + 1)) + 1)) + 1)), (IntKind.i64.wrap (s1.2 + 1))))
      else
        some (.inr (.inl s1.1))) ((p1, 0) : Int × Int)).bind fun m1 =>
  sel m1 (fun m1 =>
    some m1) (fun m1 =>
    some m1)
theorem N.le_laws_heldVectorS (p0 : List SVector) (p1 : Int) : Le (N.laws_heldVectorS p0 p1) (M.laws_heldVectorS p0 p1) := by
  unfold N.laws_heldVectorS M.laws_heldVectorS
  repeat (first | with_reducible exact Le.refl _ | with_reducible refine Le.bind ?_ fun _ => ?_ | with_reducible refine Le.cond ?_ ?_ | with_reducible refine Le.letv fun _ => ?_ | with_reducible refine Le.sel (fun _ => ?_) fun _ => ?_ | with_reducible refine Le.loop fun _ => ?_)
noncomputable def N.laws_heldFloat32S (p0 : List Nat) (p1 : Int) : Option Int :=
  (loopN (fun (s1 : Int × Int) =>
      bif (icmp .lss s1.2 ((p0).length : Int)) then
        (idx p0 s1.2).bind fun m4 =>
        bif (fcmp .neq .f32 m4 (fint .f32 s1.1)) then
          some (.inr (.inr (-1)))
        else
          some (.inl ((IntKind.i64.wrap (s1.1 + 1)), (IntKind.i64.wrap (s1.2 + 1))))
      else
        some (.inr (.inl s1.1))) ((p1, 0) : Int × Int)).bind fun m1 =>
  sel m1 (fun m1 =>
    some m1) (fun m1 =>
    some m1)
theorem N.le_laws_heldFloat32S (p0 : List Nat) (p1 : Int) : Le (N.laws_heldFloat32S p0 p1) (M.laws_heldFloat32S p0 p1) := by
  unfold N.laws_heldFloat32S M.laws_heldFloat32S
  repeat (first | with_reducible exact Le.refl _ | with_reducible refine Le.bind ?_ fun _ => ?_ | with_reducible refine Le.cond ?_ ?_ | with_reducible refine Le.letv fun _ => ?_ | with_reducible refine Le.sel (fun _ => ?_) fun _ => ?_ | with_reducible refine Le.loop fun _ => ?_)
noncomputable def N.laws_heldRodS (p0 : List SRod) (p1 : Int) : Option Int :=
  (loopN (fun (s1 : Int × Int) =>
      bif (icmp .lss s1.2 ((p0).length : Int)) then
        (idx p0 s1.2).bind fun m4 =>
        bif (icmp .neq m4.a s1.1) then
          some (.inr (.inr (-1)))
        else
          (idx p0 s1.2).bind fun m7 =>
          bif (icmp .neq m7.b (IntKind.i64.wrap (s1.1 + 1))) then
            some (.inr (.inr (-1)))
          else
            (idx p0 s1.2).bind fun m10 =>
            bif (fcmp .neq .f32 m10.long (fint .f32 (IntKind.i64.wrap ((IntKind.i64.wrap (s1.1 + 1)) + 1)))) then
              some (.inr (.inr (-1)))
            else
              some (.inl ((IntKind.i64.wrap ((IntKind.i64.wrap ((IntKind.i64.wrap (s1.1 + 1)) + 1)) + 1)), (IntKind.i64.wrap (s1.2 + 1))))
      else
        some (.inr (.inl s1.1))) ((p1, 0) : Int × Int)).bind fun m1 =>
  sel m1 (fun m1 =>
    some m1) (fun m1 =>
    some m1)
theorem N.le_laws_heldRodS (p0 : List SRod) (p1 : Int) : Le (N.laws_heldRodS p0 p1) (M.laws_heldRodS p0 p1) := by
  unfold N.laws_heldRodS M.laws_heldRodS
  repeat (first | with_reducible exact Le.refl _ | with_reducible refine Le.bind ?_ fun _ => ?_ | with_reducible refine Le.cond ?_ ?_ | with_reducible refine Le.letv fun _ => ?_ | with_reducible refine Le.sel (fun _ => ?_) fun _ => ?_ | with_reducible refine Le.loop fun _ => ?_)
noncomputable def N.laws_heldChain (p0 : SChain) (p1 : Int) : Option Int :=
  (N.laws_heldVectorS p0.places p1).bind fun m4 =>
  bif (icmp .lss m4 0) then
    some (-1)
  else
    (N.laws_heldVectorS p0.before m4).bind fun m10 =>
    bif (icmp .lss m10 0) then
      some (-1)
    else
      (N.laws_heldFloat32S p0.weights m10).bind fun m16 =>
      bif (icmp .lss m16 0) then
        some (-1)
      else
        (N.laws_heldRodS p0.rods m16).bind fun m22 =>
        bif (icmp .lss m22 0) then
          some (-1)
        else
          some m22
theorem N.le_laws_heldChain (p0 : SChain) (p1 : Int) : Le (N.laws_heldChain p0 p1) (M.laws_heldChain p0 p1) := by
  unfold N.laws_heldChain M.laws_heldChain
  repeat (first | with_reducible exact Le.refl _ | with_reducible exact N.le_laws_heldVectorS _ _ | with_reducible exact N.le_laws_heldFloat32S _ _ | with_reducible exact N.le_laws_heldRodS _ _ | with_reducible refine Le.bind ?_ fun _ => ?_ | with_reducible refine Le.cond ?_ ?_ | with_reducible refine Le.letv fun _ => ?_ | with_reducible refine Le.sel (fun _ => ?_) fun _ => ?_ | with_reducible refine Le.loop fun _ => ?_)
noncomputable def N.laws_heldClockS (p0 : List SClock) (p1 : Int) : Option Int :=
  (loopN (fun (s1 : Int × Int) =>
      bif (icmp .lss s1.2 ((p0).length : Int)) then
        (idx p0 s1.2).bind fun m4 =>
        bif (fcmp .neq .f32 m4.turn (fint .f32 s1.1)) then
          some (.inr (.inr (-1)))
        else
          (idx p0 s1.2).bind fun m7 =>
          bif (fcmp .neq .f32 m7.rate (fint .f32 (IntKind.i64.wrap (s1.1 + 1)))) then
            some (.inr (.inr (-1)))
          else
            some (.inl ((IntKind.i64.wrap ((IntKind.i64.wrap (s1.1 + 1)) + 1)), (IntKind.i64.wrap (s1.2 + 1))))
      else
        some (.inr (.inl s1.1))) ((p1, 0) : Int × Int)).bind fun m1 =>
  sel m1 (fun m1 =>
    some m1) (fun m1 =>
    some m1)
theorem N.le_laws_heldClockS (p0 : List SClock) (p1 : Int) : Le (N.laws_heldClockS p0 p1) (M.laws_heldClockS p0 p1) := by
  unfold N.laws_heldClockS M.laws_heldClockS
  repeat (first | with_reducible exact Le.refl _ | with_reducible refine Le.bind ?_ fun _ => ?_ | with_reducible refine Le.cond ?_ ?_ | with_reducible refine Le.letv fun _ => ?_ | with_reducible refine Le.sel (fun _ => ?_) fun _ => ?_ | with_reducible refine Le.loop fun _ => ?_)
noncomputable def N.laws_heldClocks (p0 : SClocks) (p1 : Int) : Option Int :=
  (N.laws_heldClockS p0.list p1).bind fun m4 =>
  bif (icmp .lss m4 0) then
    some (-1)
  else
    (N.laws_heldFloat32S p0.links m4).bind fun m10 =>
    bif (icmp .lss m10 0) then
      some (-1)
    else
      some m10
theorem N.le_laws_heldClocks (p0 : SClocks) (p1 : Int) : Le (N.laws_heldClocks p0 p1) (M.laws_heldClocks p0 p1) := by
  unfold N.laws_heldClocks M.laws_heldClocks
  repeat (first | with_reducible exact Le.refl _ | with_reducible exact N.le_laws_heldClockS _ _ | with_reducible exact N.le_laws_heldFloat32S _ _ | with_reducible refine Le.bind ?_ fun _ => ?_ | with_reducible refine Le.cond ?_ ?_ | with_reducible refine Le.letv fun _ => ?_ | with_reducible refine Le.sel (fun _ => ?_) fun _ => ?_ | with_reducible refine Le.loop fun _ => ?_)
noncomputable def N.laws_heldDesk (p0 : SDesk) (p1 : Int) : Option Int :=
  (N.laws_heldChain p0.chain p1).bind fun m4 =>
  bif (icmp .lss m4 0) then
    some (-1)
  else
    (N.laws_heldClocks (⟨p0.clocks.list, p0.clocks.links⟩ : SClocks) m4).bind fun m13 =>
    bif (icmp .lss m13 0) then
      some (-1)
    else
      some m13
theorem N.le_laws_heldDesk (p0 : SDesk) (p1 : Int) : Le (N.laws_heldDesk p0 p1) (M.laws_heldDesk p0 p1) := by
  unfold N.laws_heldDesk M.laws_heldDesk
  repeat (first | with_reducible exact Le.refl _ | with_reducible exact N.le_laws_heldChain _ _ | with_reducible exact N.le_laws_heldClocks _ _ | with_reducible refine Le.bind ?_ fun _ => ?_ | with_reducible refine Le.cond ?_ ?_ | with_reducible refine Le.letv fun _ => ?_ | with_reducible refine Le.sel (fun _ => ?_) fun _ => ?_ | with_reducible refine Le.loop fun _ => ?_)
noncomputable def N.laws_FnExactNewDesk : Option Bool :=
  N.spec_NewDesk.bind fun m1 =>
  N.impl_NewDesk.bind fun m22 =>
  (N.laws_eqDesk (⟨(⟨m22.pendulum.long, m22.pendulum.pull, m22.pendulum.drag, m22.pendulum.drive, m22.pendulum.rate⟩ : SPendulum), (⟨m22.swing.turn, m22.swing.speed, m22.swing.time⟩ : SSwing), (⟨m22.chain.places, m22.chain.before, m22.chain.weights, m22.chain.rods⟩ : SChain), (⟨(⟨m22.top.moments.x, m22.top.moments.y, m22.top.moments.z⟩ : SVector), (⟨m22.top.turn.w, m22.top.turn.x, m22.top.turn.y, m22.top.turn.z⟩ : SSpin), (⟨m22.top.speed.x, m22.top.speed.y, m22.top.speed.z⟩ : SVector)⟩ : STop), (⟨m22.clocks.list, m22.clocks.links⟩ : SClocks)⟩ : SDesk) (⟨(⟨m1.pendulum.long, m1.pendulum.pull, m1.pendulum.drag, m1.pendulum.drive, m1.pendulum.rate⟩ : SPendulum), (⟨m1.swing.turn, m1.swing.speed, m1.swing.time⟩ : SSwing), (⟨m1.chain.places, m1.chain.before, m1.chain.weights, m1.chain.rods⟩ : SChain), (⟨(⟨m1.top.moments.x, m1.top.moments.y, m1.top.moments.z⟩ : SVector), (⟨m1.top.turn.w, m1.top.turn.x, m1.top.turn.y, m1.top.turn.z⟩ : SSpin), (⟨m1.top.speed.x, m1.top.speed.y, m1.top.speed.z⟩ : SVector)⟩ : STop), (⟨m1.clocks.list, m1.clocks.links⟩ : SClocks)⟩ : SDesk)).bind fun m106 =>
  bif (!m106) then
    some false
  else
    (N.laws_markDesk (⟨(⟨m22.pendulum.long, m22.pendulum.pull, m22.pendulum.drag, m22.pendulum.drive, m22.pendulum.rate⟩ : SPendulum), (⟨m22.swing.turn, m22.swing.speed, m22.swing.time⟩ : SSwing), (⟨m22.chain.places, m22.chain.before, m22.chain.weights, m22.chain.rods⟩ : SChain), (⟨(⟨m22.top.moments.x, m22.top.moments.y, m22.top.moments.z⟩ : SVector), (⟨m22.top.turn.w, m22.top.turn.x, m22.top.turn.y, m22.top.turn.z⟩ : SSpin), (⟨m22.top.speed.x, m22.top.speed.y, m22.top.speed.z⟩ : SVector)⟩ : STop), (⟨m22.clocks.list, m22.clocks.links⟩ : SClocks)⟩ : SDesk) 1).bind fun m123 =>
    (N.laws_heldDesk (⟨(⟨m22.pendulum.long, m22.pendulum.pull, m22.pendulum.drag, m22.pendulum.drive, m22.pendulum.rate⟩ : SPendulum), (⟨m22.swing.turn, m22.swing.speed, m22.swing.time⟩ : SSwing), (⟨m123.2.1, m123.2.2.1, m123.2.2.2.1, m123.2.2.2.2.1⟩ : SChain), (⟨(⟨m22.top.moments.x, m22.top.moments.y, m22.top.moments.z⟩ : SVector), (⟨m22.top.turn.w, m22.top.turn.x, m22.top.turn.y, m22.top.turn.z⟩ : SSpin), (⟨m22.top.speed.x, m22.top.speed.y, m22.top.speed.z⟩ : SVector)⟩ : STop), (⟨m123.2.2.2.2.2.1, m123.2.2.2.2.2.2⟩ : SClocks)⟩ : SDesk) 1).bind fun m140 =>
    bif (icmp .lss m140 0) then
      some false
    else
      bif (icmp .neq m140 m123.1) then
        some false
      else
        N.impl_NewDesk.bind fun m152 =>
        (N.laws_eqDesk m152 (⟨(⟨m1.pendulum.long, m1.pendulum.pull, m1.pendulum.drag, m1.pendulum.drive, m1.pendulum.rate⟩ : SPendulum), (⟨m1.swing.turn, m1.swing.speed, m1.swing.time⟩ : SSwing), (⟨m1.chain.places, m1.chain.before, m1.chain.weights, m1.chain.rods⟩ : SChain), (⟨(⟨m1.top.moments.x, m1.top.moments.y, m1.top.moments.z⟩ : SVector), (⟨m1.top.turn.w, m1.top.turn.x, m1.top.turn.y, m1.top.turn.z⟩ : SSpin), (⟨m1.top.speed.x, m1.top.speed.y, m1.top.speed.z⟩ : SVector)⟩ : STop), (⟨m1.clocks.list, m1.clocks.links⟩ : SClocks)⟩ : SDesk)).bind fun m300 =>
        bif (!m300) then
          some false
        else
          (N.laws_heldDesk (⟨(⟨m22.pendulum.long, m22.pendulum.pull, m22.pendulum.drag, m22.pendulum.drive, m22.pendulum.rate⟩ : SPendulum), (⟨m22.swing.turn, m22.swing.speed, m22.swing.time⟩ : SSwing), (⟨m123.2.1, m123.2.2.1, m123.2.2.2.1, m123.2.2.2.2.1⟩ : SChain), (⟨(⟨m22.top.moments.x, m22.top.moments.y, m22.top.moments.z⟩ : SVector), (⟨m22.top.turn.w, m22.top.turn.x, m22.top.turn.y, m22.top.turn.z⟩ : SSpin), (⟨m22.top.speed.x, m22.top.speed.y, m22.top.speed.z⟩ : SVector)⟩ : STop), (⟨m123.2.2.2.2.2.1, m123.2.2.2.2.2.2⟩ : SClocks)⟩ : SDesk) 1).bind fun m324 =>
          bif (icmp .lss m324 0) then
            some false
          else
            bif (icmp .neq m324 m123.1) then
              some false
            else
              some true
theorem N.le_laws_FnExactNewDesk : Le (N.laws_FnExactNewDesk) (M.laws_FnExactNewDesk) := by
  unfold N.laws_FnExactNewDesk M.laws_FnExactNewDesk
  repeat (first | with_reducible exact Le.refl _ | with_reducible exact N.le_spec_NewDesk | with_reducible exact N.le_impl_NewDesk | with_reducible exact N.le_laws_eqDesk _ _ | with_reducible exact N.le_laws_markDesk _ _ | with_reducible exact N.le_laws_heldDesk _ _ | with_reducible refine Le.bind ?_ fun _ => ?_ | with_reducible refine Le.cond ?_ ?_ | with_reducible refine Le.letv fun _ => ?_ | with_reducible refine Le.sel (fun _ => ?_) fun _ => ?_ | with_reducible refine Le.loop fun _ => ?_)
end Go.Proofs
