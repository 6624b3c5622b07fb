import Derived.Test.YtdcienojgkioiaaDoorSu
namespace Go.Proofs
open Go Go.Fl Go.RowKit Go.Rg
set_option linter.unusedVariables false
structure SSwing where
  turn : Nat
  speed : Nat
  time : Nat
structure SPendulum where
  long : Nat
  pull : Nat
  drag : Nat
  drive : Nat
  rate : Nat
def encF_f32 : Enc Nat := ⟨1, fun x => [.float .f32 x], fun _ => rfl, fun _ => rfl⟩
theorem dec_encF_f32 {vs : List Value} {x : Nat} (h : vs.map cnv = encF_f32.f x) : ∃ r0 : Nat, vs = [.float .f32 r0] ∧ cn .f32 r0 = x := by
  obtain ⟨r0, v1, e0, c0, h1⟩ := cnv_f h
  have en := cnv_nil h1
  subst en e0
  exact ⟨r0, rfl, c0⟩
def encS : Enc (List UInt8) := ⟨1, fun x => [.string (bs x)], fun _ => rfl, fun _ => rfl⟩
theorem dec_encS {vs : List Value} {x : List UInt8} (h : vs.map cnv = encS.f x) : vs = [.string (bs x)] := by
  obtain ⟨v1, e0, h1⟩ := cnv_s h
  have en := cnv_nil h1
  subst en e0
  exact rfl
noncomputable def M.spec_l01Cut (p0 : List UInt8) (p1 : Int) : Option (List (List UInt8)) :=
  (loopM (fun (s3 : List (List UInt8) × Int × Int) =>
      bif (icmp .leq s3.2.2 ((p0).length : Int)) then
        (Option.bind (
            bif (icmp .eql s3.2.2 ((p0).length : Int)) then
              some true
            else
              (sidx p0 s3.2.2).bind fun m7 =>
              some (icmp .eql m7 p1)) fun m5 =>
        bif m5 then
          (ssub p0 s3.2.1 s3.2.2).bind fun m10 =>
          (app 16 s3.1 ([m10])).bind fun m15 =>
          some (.inl (m15, (IntKind.i64.wrap (s3.2.2 + 1)), (IntKind.i64.wrap (s3.2.2 + 1))))
        else
          some (.inl (s3.1, s3.2.1, (IntKind.i64.wrap (s3.2.2 + 1)))))
      else
        some (.inr s3.1)) ((([] : List (List UInt8)), 0, 0) : List (List UInt8) × Int × Int)).bind fun m3 =>
  some m3
def M.spec_l01From (p0 : Int) : Nat :=
  (cn .f32 (((IntKind.u32.wrap p0)).toNat))
def M.spec_l01Bits (p0 : Nat) : Int :=
  bif (fcmp .neq .f32 p0 p0) then
    2143289344
  else
    (IntKind.i64.wrap (p0 : Int))
noncomputable def M.spec_l01NRead (p0 : List UInt8) : Option (List Nat × Bool) :=
  bif (p0 == ([110, 111, 110, 101] : List UInt8)) then
    some (([] : List Nat), true)
  else
    (M.spec_l01Cut p0 44).bind fun m4 =>
    bif (icmp .gtr ((m4).length : Int) 256) then
      some ([], false)
    else
      (loopM (fun (s10 : List Nat × Int) =>
          bif (icmp .lss s10.2 ((m4).length : Int)) then
            (idx m4 s10.2).bind fun m13 =>
            bif (icmp .neq ((m13).length : Int) 8) then
              some (.inr (.inr ([], false)))
            else
              (loopM (fun (s17 : Int × Int) =>
                  bif (icmp .lss s17.2 8) then
                    (idx m4 s10.2).bind fun m19 =>
                    (sidx m19 s17.2).bind fun m22 =>
                    letv (
                        bif (icmp .geq m22 48) then
                          (icmp .leq m22 57)
                        else
                          false) fun m23 =>
                    bif m23 then
                      letv (
                          bif (icmp .geq m22 97) then
                            (icmp .leq m22 102)
                          else
                            false) fun m27 =>
                      bif m27 then
                        bif (icmp .lss (IntKind.i64.wrap ((IntKind.i64.wrap (IntKind.u8.wrap (m22 - 97))) + 10)) 0) then
                          some (.inr (.inr ([], false)))
                        else
                          some (.inl ((IntKind.i64.wrap ((IntKind.i64.wrap (16 * s17.1)) + (IntKind.i64.wrap ((IntKind.i64.wrap (IntKind.u8.wrap (m22 - 97))) + 10)))), (IntKind.i64.wrap (s17.2 + 1))))
                      else
                        bif (icmp .lss (IntKind.i64.wrap (IntKind.u8.wrap (m22 - 48))) 0) then
                          some (.inr (.inr ([], false)))
                        else
                          some (.inl ((IntKind.i64.wrap ((IntKind.i64.wrap (16 * s17.1)) + (IntKind.i64.wrap (IntKind.u8.wrap (m22 - 48))))), (IntKind.i64.wrap (s17.2 + 1))))
                    else
                      letv (
                          bif (icmp .geq m22 97) then
                            (icmp .leq m22 102)
                          else
                            false) fun m39 =>
                      bif m39 then
                        bif (icmp .lss (IntKind.i64.wrap ((IntKind.i64.wrap (IntKind.u8.wrap (m22 - 97))) + 10)) 0) then
                          some (.inr (.inr ([], false)))
                        else
                          some (.inl ((IntKind.i64.wrap ((IntKind.i64.wrap (16 * s17.1)) + (IntKind.i64.wrap ((IntKind.i64.wrap (IntKind.u8.wrap (m22 - 97))) + 10)))), (IntKind.i64.wrap (s17.2 + 1))))
                      else
                        some (.inr (.inr ([], false)))
                  else
                    some (.inr (.inl s17.1))) ((0, 0) : Int × Int)).bind fun m17 =>
              sel m17 (fun m17 =>
                letv (M.spec_l01From m17) fun m48 =>
                letv (M.spec_l01Bits m48) fun m51 =>
                bif (icmp .neq m51 m17) then
                  some (.inr (.inr ([], false)))
                else
                  (app 4 s10.1 ([m48])).bind fun m63 =>
                  some (.inl (m63, (IntKind.i64.wrap (s10.2 + 1))))) (fun m17 =>
                some (.inr (.inr (m17.1, m17.2))))
          else
            some (.inr (.inl s10.1))) ((([] : List Nat), 0) : List Nat × Int)).bind fun m10 =>
      sel m10 (fun m10 =>
        some (m10, true)) (fun m10 =>
        some (m10.1, m10.2))
def M.spec_l01Finite (p0 : Nat) : Bool :=
  (fcmp .eql .f32 (fop .sub .f32 p0 p0) 0)
def M.spec_l02Swing (p0 : SSwing) : Bool :=
  letv (
      letv (M.spec_l01Finite p0.turn) fun m2 =>
      bif m2 then
        letv (M.spec_l01Finite p0.speed) fun m7 =>
        bif m7 then
          letv (M.spec_l01Finite p0.time) fun m12 =>
          m12
        else
          false
      else
        false) fun m1 =>
  m1
def M.spec_l02Give (p0 : SSwing) : SSwing × Bool :=
  letv (M.spec_l02Swing (⟨p0.turn, p0.speed, p0.time⟩ : SSwing)) fun m8 =>
  bif (!m8) then
    ((⟨0, 0, 0⟩ : SSwing), false)
  else
    ((⟨p0.turn, p0.speed, p0.time⟩ : SSwing), true)
noncomputable def M.spec_l08ReadSwing (p0 : List UInt8) : Option (SSwing × Bool) :=
  (M.spec_l01NRead p0).bind fun m4 =>
  letv (
      bif m4.2 then
        (icmp .neq ((m4.1).length : Int) 3)
      else
        true) fun m9 =>
  bif m9 then
    some ((⟨0, 0, 0⟩ : SSwing), false)
  else
    (idx m4.1 0).bind fun m21 =>
    (idx m4.1 1).bind fun m22 =>
    (idx m4.1 2).bind fun m23 =>
    letv (M.spec_l02Give (⟨m21, m22, m23⟩ : SSwing)) fun m24 =>
    some (m24.1, m24.2)
noncomputable def M.spec_ReadSwing (p0 : List UInt8) : Option (SSwing × Bool) :=
  (M.spec_l08ReadSwing p0).bind fun m4 =>
  some (m4.1, m4.2)
noncomputable def M.strings_Count_s2c (p0 : List UInt8) : Option Int :=
  (sidx ([44] : List UInt8) 0).bind fun m1 =>
  some (scount p0 m1)
def M.internal_stringslite_IndexByte (p0 : List UInt8) (p1 : Int) : Int :=
  (sfind p0 p1)
noncomputable def M.internal_stringslite_Index_s2c (p0 : List UInt8) : Option Int :=
  bif (([44] : List UInt8) == p0) then
    some 0
  else
    (sidx ([44] : List UInt8) 0).bind fun m4 =>
    letv (M.internal_stringslite_IndexByte p0 m4) fun m5 =>
    some m5
noncomputable def M.strings_Index_s2c (p0 : List UInt8) : Option Int :=
  (M.internal_stringslite_Index_s2c p0).bind fun m1 =>
  some m1
noncomputable def M.strings_genSplit_s2c_i64n0_i64m1 (p0 : List UInt8) : Option (List (List UInt8)) :=
  (M.strings_Count_s2c p0).bind fun m1 =>
  (mkl 16 (imin (IntKind.i64.wrap (m1 + 1)) (IntKind.i64.wrap (((p0).length : Int) + 1))) (imin (IntKind.i64.wrap (m1 + 1)) (IntKind.i64.wrap (((p0).length : Int) + 1))) ([] : List UInt8)).bind fun m4 =>
  (loopM (fun (s7 : List UInt8 × Int × List (List UInt8)) =>
      bif (icmp .lss s7.2.1 (IntKind.i64.wrap ((imin (IntKind.i64.wrap (m1 + 1)) (IntKind.i64.wrap (((p0).length : Int) + 1))) - 1))) then
        (M.strings_Index_s2c s7.1).bind fun m9 =>
        bif (icmp .lss m9 0) then
          some (.inr (s7.1, s7.2.1, s7.2.2))
        else
          (ssub s7.1 0 (IntKind.i64.wrap (m9 + 0))).bind fun m14 =>
          (idx s7.2.2 s7.2.1).bind fun m15 =>
          (ssub s7.1 (IntKind.i64.wrap (m9 + 1)) ((s7.1).length : Int)).bind fun m21 =>
          some (.inl (m21, (IntKind.i64.wrap (s7.2.1 + 1)), (s7.2.2.set s7.2.1.toNat m14)))
      else
        some (.inr (s7.1, s7.2.1, s7.2.2))) ((p0, 0, m4) : List UInt8 × Int × List (List UInt8))).bind fun m7 =>
  (idx m7.2.2 m7.2.1).bind fun m22 =>
  (ssub (m7.2.2.set m7.2.1.toNat m7.1) 0 (IntKind.i64.wrap (m7.2.1 + 1))).bind fun m27 =>
  some m27
noncomputable def M.strings_Split_s2c (p0 : List UInt8) : Option (List (List UInt8)) :=
  (M.strings_genSplit_s2c_i64n0_i64m1 p0).bind fun m1 =>
  some m1
noncomputable def M.impl_parted (p0 : List UInt8) : Option (List (List UInt8)) :=
  bif (p0 == ([110, 111, 110, 101] : List UInt8)) then
    some ([])
  else
    (M.strings_Split_s2c p0).bind fun m2 =>
    some m2
def M.internal_stringslite_IndexByte_s30313233343536373839616263646566 (p1 : Int) : Int :=
  (sfind ([48, 49, 50, 51, 52, 53, 54, 55, 56, 57, 97, 98, 99, 100, 101, 102] : List UInt8) p1)
def M.strings_IndexByte_s30313233343536373839616263646566 (p1 : Int) : Int :=
  letv (M.internal_stringslite_IndexByte_s30313233343536373839616263646566 p1) fun m1 =>
  m1
def M.impl_in (p0 : Int) (p1 : Int) (p2 : Int) : Bool :=
  letv (
      bif (icmp .geq p0 p1) then
        (icmp .leq p0 p2)
      else
        false) fun m1 =>
  m1
def M.impl_FromBits (p0 : Int) : Nat × Bool :=
  letv (M.impl_in p0 0 4294967295) fun m1 =>
  bif (!m1) then
    (0, false)
  else
    ((cn .f32 (((IntKind.u32.wrap p0)).toNat)), true)
def M.impl_isNaN (p0 : Nat) : Bool :=
  (fcmp .neq .f32 p0 p0)
def M.impl_BitsOf (p0 : Nat) : Int :=
  letv (M.impl_isNaN p0) fun m1 =>
  bif m1 then
    2143289344
  else
    (IntKind.i64.wrap (p0 : Int))
noncomputable def M.impl_readNumber (p0 : List UInt8) : Option (Nat × Bool) :=
  (loopM (fun (s1 : Int × Int) =>
      bif (icmp .lss s1.2 ((p0).length : Int)) then
        (sidx p0 s1.2).bind fun m3 =>
        letv (M.strings_IndexByte_s30313233343536373839616263646566 m3) fun m4 =>
        letv (
            bif (icmp .lss m4 0) then
              true
            else
              (icmp .eql s1.2 8)) fun m7 =>
        bif m7 then
          some (.inr (.inr (0, false)))
        else
          some (.inl ((IntKind.i64.wrap ((IntKind.i64.wrap (s1.1 * 16)) + m4)), (IntKind.i64.wrap (s1.2 + 1))))
      else
        some (.inr (.inl s1.1))) ((0, 0) : Int × Int)).bind fun m1 =>
  sel m1 (fun m1 =>
    letv (M.impl_FromBits m1) fun m11 =>
    letv (
        bif (icmp .eql ((p0).length : Int) 8) then
          letv (M.impl_BitsOf m11.1) fun m16 =>
          (icmp .eql m16 m1)
        else
          false) fun m14 =>
    some (m11.1, m14)) (fun m1 =>
    some (m1.1, m1.2))
noncomputable def M.impl_ReadNumbers (p0 : List UInt8) : Option (List Nat × Bool) :=
  (M.impl_parted p0).bind fun m3 =>
  (loopM (fun (s8 : List Nat × Int) =>
      bif (icmp .lss s8.2 ((m3).length : Int)) then
        (idx m3 s8.2).bind fun m11 =>
        (M.impl_readNumber m11).bind fun m13 =>
        letv (
            bif m13.2 then
              (icmp .eql ((s8.1).length : Int) 256)
            else
              true) fun m16 =>
        bif m16 then
          some (.inr (.inr ([], false)))
        else
          (app 4 s8.1 ([m13.1])).bind fun m28 =>
          some (.inl (m28, (IntKind.i64.wrap (s8.2 + 1))))
      else
        some (.inr (.inl s8.1))) ((([] : List Nat), 0) : List Nat × Int)).bind fun m8 =>
  sel m8 (fun m8 =>
    some (m8, true)) (fun m8 =>
    some (m8.1, m8.2))
noncomputable def M.impl_exactly (p0 : List UInt8) (p1 : Int) : Option (List Nat × Bool) :=
  (M.impl_ReadNumbers p0).bind fun m1 =>
  letv (
      bif m1.2 then
        (icmp .neq ((m1.1).length : Int) p1)
      else
        true) fun m5 =>
  bif m5 then
    (mkl 4 p1 p1 0).bind fun m9 =>
    some (m9, false)
  else
    some (m1.1, true)
def M.impl_Swing_numbers (p0 : SSwing) : List Nat :=
  [p0.turn, p0.speed, p0.time]
def M.impl_IsFinite (p0 : Nat) : Bool :=
  (fcmp .eql .f32 (fop .sub .f32 p0 p0) 0)
def M.impl_finite_1 (p0 : Nat) : Bool :=
  letv (M.impl_IsFinite p0) fun m1 =>
  (!m1)
noncomputable def M.slices_IndexFunc___float32_float32__f161 (p0 : List Nat) : Option Int :=
  (loopM (fun (s1 : Int) =>
      bif (icmp .lss s1 ((p0).length : Int)) then
        (idx p0 s1).bind fun m3 =>
        letv (M.impl_finite_1 m3) fun m6 =>
        bif m6 then
          some (.inr (.inr s1))
        else
          some (.inl (IntKind.i64.wrap (s1 + 1)))
      else
        some (.inr (.inl ()))) (0 : Int)).bind fun m1 =>
  sel m1 (fun m1 =>
    some (-1)) (fun m1 =>
    some m1)
noncomputable def M.slices_ContainsFunc___float32_float32__f161 (p0 : List Nat) : Option Bool :=
  (M.slices_IndexFunc___float32_float32__f161 p0).bind fun m1 =>
  some (icmp .geq m1 0)
noncomputable def M.impl_finite (p0 : List Nat) : Option Bool :=
  (M.slices_ContainsFunc___float32_float32__f161 p0).bind fun m1 =>
  some (!m1)
noncomputable def M.impl_ValidSwing (p0 : SSwing) : Option Bool :=
  letv (M.impl_Swing_numbers p0) fun m4 =>
  (M.impl_finite m4).bind fun m9 =>
  some m9
noncomputable def M.impl_ReadSwing (p0 : List UInt8) : Option (SSwing × Bool) :=
  (M.impl_exactly p0 3).bind fun m4 =>
  (idx m4.1 0).bind fun m11 =>
  (idx m4.1 1).bind fun m12 =>
  (idx m4.1 2).bind fun m13 =>
  (Option.bind (
      bif m4.2 then
        (M.impl_ValidSwing (⟨m11, m12, m13⟩ : SSwing)).bind fun m37 =>
        some (!m37)
      else
        some true) fun m34 =>
  bif m34 then
    some ((⟨0, 0, 0⟩ : SSwing), false)
  else
    some ((⟨m11, m12, m13⟩ : SSwing), true))
def M.laws_sameFloat (p0 : Nat) (p1 : Nat) : Bool :=
  letv (
      bif (fcmp .neq .f64 p0 p0) then
        true
      else
        (fcmp .neq .f64 p1 p1)) fun m1 =>
  bif m1 then
    letv (
        bif (fcmp .neq .f64 p0 p0) then
          (fcmp .neq .f64 p1 p1)
        else
          false) fun m5 =>
    m5
  else
    letv (
        bif (fcmp .eql .f64 p0 0) then
          (fcmp .eql .f64 p1 0)
        else
          false) fun m8 =>
    bif m8 then
      ((fcmp .gtr .f64 (fop .quo .f64 4607182418800017408 p0) 0) == (fcmp .gtr .f64 (fop .quo .f64 4607182418800017408 p1) 0))
    else
      (fcmp .eql .f64 p0 p1)
def M.laws_eqSwing (p0 : SSwing) (p1 : SSwing) : Bool :=
  letv (M.laws_sameFloat (widen p0.turn) (widen p1.turn)) fun m14 =>
  bif (!m14) then
    false
  else
    letv (M.laws_sameFloat (widen p0.speed) (widen p1.speed)) fun m26 =>
    bif (!m26) then
      false
    else
      letv (M.laws_sameFloat (widen p0.time) (widen p1.time)) fun m38 =>
      bif (!m38) then
        false
      else
        true
noncomputable def M.laws_FnExactReadSwing (p0 : List UInt8) : Option Bool :=
  bif (icmp .gtr ((p0).length : Int) 1048576) then
    some true
  else
    (M.spec_ReadSwing p0).bind fun m2 =>
    (M.impl_ReadSwing p0).bind fun m11 =>
    letv (
        letv (M.laws_eqSwing (⟨m11.1.turn, m11.1.speed, m11.1.time⟩ : SSwing) (⟨m2.1.turn, m2.1.speed, m2.1.time⟩ : SSwing)) fun m24 =>
        bif m24 then
          (!(m11.2 == m2.2))
        else
          true) fun m22 =>
    bif m22 then
      some false
    else
      some true
def M.spec_l02Above (p0 : Nat) : Bool :=
  letv (
      letv (M.spec_l01Finite p0) fun m2 =>
      bif m2 then
        (fcmp .gtr .f32 p0 0)
      else
        false) fun m1 =>
  m1
def M.spec_l02Least (p0 : Nat) : Bool :=
  letv (
      letv (M.spec_l01Finite p0) fun m2 =>
      bif m2 then
        (fcmp .geq .f32 p0 0)
      else
        false) fun m1 =>
  m1
def M.spec_l02Is (p0 : SPendulum) : Bool :=
  letv (
      letv (M.spec_l02Above p0.long) fun m2 =>
      bif m2 then
        letv (M.spec_l02Least p0.pull) fun m7 =>
        bif m7 then
          letv (M.spec_l02Least p0.drag) fun m12 =>
          bif m12 then
            letv (M.spec_l01Finite p0.drive) fun m17 =>
            bif m17 then
              letv (M.spec_l01Finite p0.rate) fun m22 =>
              m22
            else
              false
          else
            false
        else
          false
      else
        false) fun m1 =>
  m1
noncomputable def M.spec_l08ReadPendulum (p0 : List UInt8) : Option (SPendulum × Bool) :=
  (M.spec_l01NRead p0).bind fun m4 =>
  letv (
      bif m4.2 then
        (icmp .neq ((m4.1).length : Int) 5)
      else
        true) fun m9 =>
  bif m9 then
    some ((⟨0, 0, 0, 0, 0⟩ : SPendulum), false)
  else
    (idx m4.1 0).bind fun m21 =>
    (idx m4.1 1).bind fun m22 =>
    (idx m4.1 2).bind fun m23 =>
    (idx m4.1 3).bind fun m24 =>
    (idx m4.1 4).bind fun m25 =>
    letv (M.spec_l02Is (⟨m21, m22, m23, m24, m25⟩ : SPendulum)) fun m54 =>
    bif (!m54) then
      some ((⟨0, 0, 0, 0, 0⟩ : SPendulum), false)
    else
      some ((⟨m21, m22, m23, m24, m25⟩ : SPendulum), true)
noncomputable def M.spec_ReadPendulum (p0 : List UInt8) : Option (SPendulum × Bool) :=
  (M.spec_l08ReadPendulum p0).bind fun m4 =>
  some (m4.1, m4.2)
def M.impl_Pendulum_numbers (p0 : SPendulum) : List Nat :=
  [p0.long, p0.pull, p0.drag, p0.drive, p0.rate]
noncomputable def M.impl_ValidPendulum (p0 : SPendulum) : Option Bool :=
  (Option.bind (
      letv (M.impl_Pendulum_numbers p0) fun m5 =>
      (M.impl_finite m5).bind fun m10 =>
      bif m10 then
        bif (fcmp .gtr .f32 p0.long 0) then
          bif (fcmp .geq .f32 p0.pull 0) then
            some (fcmp .geq .f32 p0.drag 0)
          else
            some false
        else
          some false
      else
        some false) fun m4 =>
  some m4)
noncomputable def M.impl_ReadPendulum (p0 : List UInt8) : Option (SPendulum × Bool) :=
  (M.impl_exactly p0 5).bind fun m4 =>
  (idx m4.1 0).bind fun m11 =>
  (idx m4.1 1).bind fun m12 =>
  (idx m4.1 2).bind fun m13 =>
  (idx m4.1 3).bind fun m14 =>
  (idx m4.1 4).bind fun m15 =>
  (Option.bind (
      bif m4.2 then
        (M.impl_ValidPendulum (⟨m11, m12, m13, m14, m15⟩ : SPendulum)).bind fun m47 =>
        some (!m47)
      else
        some true) fun m44 =>
  bif m44 then
    some ((⟨0, 0, 0, 0, 0⟩ : SPendulum), false)
  else
    some ((⟨m11, m12, m13, m14, m15⟩ : SPendulum), true))
def M.laws_eqPendulum (p0 : SPendulum) (p1 : SPendulum) : Bool :=
  letv (M.laws_sameFloat (widen p0.long) (widen p1.long)) fun m14 =>
  bif (!m14) then
    false
  else
    letv (M.laws_sameFloat (widen p0.pull) (widen p1.pull)) fun m26 =>
    bif (!m26) then
      false
    else
      letv (M.laws_sameFloat (widen p0.drag) (widen p1.drag)) fun m38 =>
      bif (!m38) then
        false
      else
        letv (M.laws_sameFloat (widen p0.drive) (widen p1.drive)) fun m50 =>
        bif (!m50) then
          false
        else
          letv (M.laws_sameFloat (widen p0.rate) (widen p1.rate)) fun m62 =>
          bif (!m62) then
            false
          else
            true
noncomputable def M.laws_FnExactReadPendulum (p0 : List UInt8) : Option Bool :=
  bif (icmp .gtr ((p0).length : Int) 1048576) then
    some true
  else
    (M.spec_ReadPendulum p0).bind fun m2 =>
    (M.impl_ReadPendulum p0).bind fun m11 =>
    letv (
        letv (M.laws_eqPendulum (⟨m11.1.long, m11.1.pull, m11.1.drag, m11.1.drive, m11.1.rate⟩ : SPendulum) (⟨m2.1.long, m2.1.pull, m2.1.drag, m2.1.drive, m2.1.rate⟩ : SPendulum)) fun m24 =>
        bif m24 then
          (!(m11.2 == m2.2))
        else
          true) fun m22 =>
    bif m22 then
      some false
    else
      some true
end Go.Proofs
