import Derived.Test.YtdcienojgkioiaaDoorRy
/- Models of the functions, printed by a program (gen2.py) out of the loaded program. No program in sight. -/
namespace Go.Proofs
open Go Go.Fl Go.RowKit Go.Rg
set_option linter.unusedVariables false
structure SSwing where
  turn : Nat
  speed : Nat
  time : Nat
structure SPendulum where
  long : Nat
  pull : Nat
  drag : Nat
  drive : Nat
  rate : Nat
structure SVector where
  x : Nat
  y : Nat
  z : Nat
structure SSpin where
  w : Nat
  x : Nat
  y : Nat
  z : Nat
structure STop where
  moments : SVector
  turn : SSpin
  speed : SVector
structure SRod where
  a : Int
  b : Int
  long : Nat
structure SChain where
  places : List SVector
  before : List SVector
  weights : List Nat
  rods : List SRod
structure Sl00Src where
  code : List Int
  at_ : Int
  seed : Int
def encF_f32 : Enc Nat := ⟨1, fun x => [.float .f32 x], fun _ => rfl, fun _ => rfl⟩
theorem dec_encF_f32 {vs : List Value} {x : Nat} (h : vs.map cnv = encF_f32.f x) : ∃ r0 : Nat, vs = [.float .f32 r0] ∧ cn .f32 r0 = x := by
  obtain ⟨r0, v1, e0, c0, h1⟩ := cnv_f h
  have en := cnv_nil h1
  subst en e0
  exact ⟨r0, rfl, c0⟩
def encS : Enc (List UInt8) := ⟨1, fun x => [.string (bs x)], fun _ => rfl, fun _ => rfl⟩
theorem dec_encS {vs : List Value} {x : List UInt8} (h : vs.map cnv = encS.f x) : vs = [.string (bs x)] := by
  obtain ⟨v1, e0, h1⟩ := cnv_s h
  have en := cnv_nil h1
  subst en e0
  exact rfl
def encI_u8 : Enc Int := ⟨1, fun x => [.int .u8 x], fun _ => rfl, fun _ => rfl⟩
theorem dec_encI_u8 {vs : List Value} {x : Int} (h : vs.map cnv = encI_u8.f x) : vs = [.int .u8 x] := by
  obtain ⟨v1, e0, h1⟩ := cnv_i h
  have en := cnv_nil h1
  subst en e0
  exact rfl
def encSVector : Enc SVector := ⟨3, fun x => [.float .f32 x.x, .float .f32 x.y, .float .f32 x.z], fun _ => rfl, fun _ => rfl⟩
theorem dec_encSVector {vs : List Value} {x : SVector} (h : vs.map cnv = encSVector.f x) : ∃ r0 : Nat, ∃ r1 : Nat, ∃ r2 : Nat, vs = [.float .f32 r0, .float .f32 r1, .float .f32 r2] ∧ cn .f32 r0 = x.x ∧ cn .f32 r1 = x.y ∧ cn .f32 r2 = x.z := by
  obtain ⟨r0, v1, e0, c0, h1⟩ := cnv_f h
  obtain ⟨r1, v2, e1, c1, h2⟩ := cnv_f h1
  obtain ⟨r2, v3, e2, c2, h3⟩ := cnv_f h2
  have en := cnv_nil h3
  subst en e2 e1 e0
  exact ⟨r0, r1, r2, rfl, c0, c1, c2⟩
def encSRod : Enc SRod := ⟨3, fun x => [.int .i64 x.a, .int .i64 x.b, .float .f32 x.long], fun _ => rfl, fun _ => rfl⟩
theorem dec_encSRod {vs : List Value} {x : SRod} (h : vs.map cnv = encSRod.f x) : ∃ r2 : Nat, vs = [.int .i64 x.a, .int .i64 x.b, .float .f32 r2] ∧ cn .f32 r2 = x.long := by
  obtain ⟨v1, e0, h1⟩ := cnv_i h
  obtain ⟨v2, e1, h2⟩ := cnv_i h1
  obtain ⟨r2, v3, e2, c2, h3⟩ := cnv_f h2
  have en := cnv_nil h3
  subst en e2 e1 e0
  exact ⟨r2, rfl, c2⟩
def encI_i64 : Enc Int := ⟨1, fun x => [.int .i64 x], fun _ => rfl, fun _ => rfl⟩
theorem dec_encI_i64 {vs : List Value} {x : Int} (h : vs.map cnv = encI_i64.f x) : vs = [.int .i64 x] := by
  obtain ⟨v1, e0, h1⟩ := cnv_i h
  have en := cnv_nil h1
  subst en e0
  exact rfl
noncomputable def M.spec_l01Cut (p0 : List UInt8) (p1 : Int) : Option (List (List UInt8)) :=
  (loopM (fun (s3 : List (List UInt8) × Int × Int) =>
      bif (icmp .leq s3.2.2 ((p0).length : Int)) then
        (Option.bind (
            bif (icmp .eql s3.2.2 ((p0).length : Int)) then
              some true
            else
              (sidx p0 s3.2.2).bind fun m7 =>
              some (icmp .eql m7 p1)) fun m5 =>
        bif m5 then
          (ssub p0 s3.2.1 s3.2.2).bind fun m10 =>
          (app 16 s3.1 ([m10])).bind fun m15 =>
          some (.inl (m15, (IntKind.i64.wrap (s3.2.2 + 1)), (IntKind.i64.wrap (s3.2.2 + 1))))
        else
          some (.inl (s3.1, s3.2.1, (IntKind.i64.wrap (s3.2.2 + 1)))))
      else
        some (.inr s3.1)) ((([] : List (List UInt8)), 0, 0) : List (List UInt8) × Int × Int)).bind fun m3 =>
  some m3
def M.spec_l01From (p0 : Int) : Nat :=
  (cn .f32 (((IntKind.u32.wrap p0)).toNat))
def M.spec_l01Bits (p0 : Nat) : Int :=
  bif (fcmp .neq .f32 p0 p0) then
    2143289344
  else
    (IntKind.i64.wrap (p0 : Int))
noncomputable def M.spec_l01NRead (p0 : List UInt8) : Option (List Nat × Bool) :=
  bif (p0 == ([110, 111, 110, 101] : List UInt8)) then
    some (([] : List Nat), true)
  else
    (M.spec_l01Cut p0 44).bind fun m4 =>
    bif (icmp .gtr ((m4).length : Int) 256) then
      some ([], false)
    else
      (loopM (fun (s10 : List Nat × Int) =>
          bif (icmp .lss s10.2 ((m4).length : Int)) then
            (idx m4 s10.2).bind fun m13 =>
            bif (icmp .neq ((m13).length : Int) 8) then
              some (.inr (.inr ([], false)))
            else
              (loopM (fun (s17 : Int × Int) =>
                  bif (icmp .lss s17.2 8) then
                    (idx m4 s10.2).bind fun m19 =>
                    (sidx m19 s17.2).bind fun m22 =>
                    letv (
                        bif (icmp .geq m22 48) then
                          (icmp .leq m22 57)
                        else
                          false) fun m23 =>
                    bif m23 then
                      letv (
                          bif (icmp .geq m22 97) then
                            (icmp .leq m22 102)
                          else
                            false) fun m27 =>
                      bif m27 then
                        bif (icmp .lss (IntKind.i64.wrap ((IntKind.i64.wrap (IntKind.u8.wrap (m22 - 97))) + 10)) 0) then
                          some (.inr (.inr ([], false)))
                        else
                          some (.inl ((IntKind.i64.wrap ((IntKind.i64.wrap (16 * s17.1)) + (IntKind.i64.wrap ((IntKind.i64.wrap (IntKind.u8.wrap (m22 - 97))) + 10)))), (IntKind.i64.wrap (s17.2 + 1))))
                      else
                        bif (icmp .lss (IntKind.i64.wrap (IntKind.u8.wrap (m22 - 48))) 0) then
                          some (.inr (.inr ([], false)))
                        else
                          some (.inl ((IntKind.i64.wrap ((IntKind.i64.wrap (16 * s17.1)) + (IntKind.i64.wrap (IntKind.u8.wrap (m22 - 48))))), (IntKind.i64.wrap (s17.2 + 1))))
                    else
                      letv (
                          bif (icmp .geq m22 97) then
                            (icmp .leq m22 102)
                          else
                            false) fun m39 =>
                      bif m39 then
                        bif (icmp .lss (IntKind.i64.wrap ((IntKind.i64.wrap (IntKind.u8.wrap (m22 - 97))) + 10)) 0) then
                          some (.inr (.inr ([], false)))
                        else
                          some (.inl ((IntKind.i64.wrap ((IntKind.i64.wrap (16 * s17.1)) + (IntKind.i64.wrap ((IntKind.i64.wrap (IntKind.u8.wrap (m22 - 97))) + 10)))), (IntKind.i64.wrap (s17.2 + 1))))
                      else
                        some (.inr (.inr ([], false)))
                  else
                    some (.inr (.inl s17.1))) ((0, 0) : Int × Int)).bind fun m17 =>
              sel m17 (fun m17 =>
                letv (M.spec_l01From m17) fun m48 =>
                letv (M.spec_l01Bits m48) fun m51 =>
                bif (icmp .neq m51 m17) then
                  some (.inr (.inr ([], false)))
                else
                  (app 4 s10.1 ([m48])).bind fun m63 =>
                  some (.inl (m63, (IntKind.i64.wrap (s10.2 + 1))))) (fun m17 =>
                some (.inr (.inr (m17.1, m17.2))))
          else
            some (.inr (.inl s10.1))) ((([] : List Nat), 0) : List Nat × Int)).bind fun m10 =>
      sel m10 (fun m10 =>
        some (m10, true)) (fun m10 =>
        some (m10.1, m10.2))
def M.spec_l01Finite (p0 : Nat) : Bool :=
  (fcmp .eql .f32 (fop .sub .f32 p0 p0) 0)
def M.spec_l02Swing (p0 : SSwing) : Bool :=
  letv (
      letv (M.spec_l01Finite p0.turn) fun m2 =>
      bif m2 then
        letv (M.spec_l01Finite p0.speed) fun m7 =>
        bif m7 then
          letv (M.spec_l01Finite p0.time) fun m12 =>
          m12
        else
          false
      else
        false) fun m1 =>
  m1
def M.spec_l02Give (p0 : SSwing) : SSwing × Bool :=
  letv (M.spec_l02Swing (⟨p0.turn, p0.speed, p0.time⟩ : SSwing)) fun m8 =>
  bif (!m8) then
    ((⟨0, 0, 0⟩ : SSwing), false)
  else
    ((⟨p0.turn, p0.speed, p0.time⟩ : SSwing), true)
noncomputable def M.spec_l08ReadSwing (p0 : List UInt8) : Option (SSwing × Bool) :=
  (M.spec_l01NRead p0).bind fun m4 =>
  letv (
      bif m4.2 then
        (icmp .neq ((m4.1).length : Int) 3)
      else
        true) fun m9 =>
  bif m9 then
    some ((⟨0, 0, 0⟩ : SSwing), false)
  else
    (idx m4.1 0).bind fun m21 =>
    (idx m4.1 1).bind fun m22 =>
    (idx m4.1 2).bind fun m23 =>
    letv (M.spec_l02Give (⟨m21, m22, m23⟩ : SSwing)) fun m24 =>
    some (m24.1, m24.2)
noncomputable def M.spec_ReadSwing (p0 : List UInt8) : Option (SSwing × Bool) :=
  (M.spec_l08ReadSwing p0).bind fun m4 =>
  some (m4.1, m4.2)
noncomputable def M.strings_Count_s2c (p0 : List UInt8) : Option Int :=
  (sidx ([44] : List UInt8) 0).bind fun m1 =>
  some (scount p0 m1)
def M.internal_stringslite_IndexByte (p0 : List UInt8) (p1 : Int) : Int :=
  (sfind p0 p1)
noncomputable def M.internal_stringslite_Index_s2c (p0 : List UInt8) : Option Int :=
  bif (([44] : List UInt8) == p0) then
    some 0
  else
    (sidx ([44] : List UInt8) 0).bind fun m4 =>
    letv (M.internal_stringslite_IndexByte p0 m4) fun m5 =>
    some m5
noncomputable def M.strings_Index_s2c (p0 : List UInt8) : Option Int :=
  (M.internal_stringslite_Index_s2c p0).bind fun m1 =>
  some m1
noncomputable def M.strings_genSplit_s2c_i64n0_i64m1 (p0 : List UInt8) : Option (List (List UInt8)) :=
  (M.strings_Count_s2c p0).bind fun m1 =>
  (mkl 16 (imin (IntKind.i64.wrap (m1 + 1)) (IntKind.i64.wrap (((p0).length : Int) + 1))) (imin (IntKind.i64.wrap (m1 + 1)) (IntKind.i64.wrap (((p0).length : Int) + 1))) ([] : List UInt8)).bind fun m4 =>
  (loopM (fun (s7 : List UInt8 × Int × List (List UInt8)) =>
      bif (icmp .lss s7.2.1 (IntKind.i64.wrap ((imin (IntKind.i64.wrap (m1 + 1)) (IntKind.i64.wrap (((p0).length : Int) + 1))) - 1))) then
        (M.strings_Index_s2c s7.1).bind fun m9 =>
        bif (icmp .lss m9 0) then
          some (.inr (s7.1, s7.2.1, s7.2.2))
        else
          (ssub s7.1 0 (IntKind.i64.wrap (m9 + 0))).bind fun m14 =>
          (idx s7.2.2 s7.2.1).bind fun m15 =>
          (ssub s7.1 (IntKind.i64.wrap (m9 + 1)) ((s7.1).length : Int)).bind fun m21 =>
          some (.inl (m21, (IntKind.i64.wrap (s7.2.1 + 1)), (s7.2.2.set s7.2.1.toNat m14)))
      else
        some (.inr (s7.1, s7.2.1, s7.2.2))) ((p0, 0, m4) : List UInt8 × Int × List (List UInt8))).bind fun m7 =>
  (idx m7.2.2 m7.2.1).bind fun m22 =>
  (ssub (m7.2.2.set m7.2.1.toNat m7.1) 0 (IntKind.i64.wrap (m7.2.1 + 1))).bind fun m27 =>
  some m27
noncomputable def M.strings_Split_s2c (p0 : List UInt8) : Option (List (List UInt8)) :=
  (M.strings_genSplit_s2c_i64n0_i64m1 p0).bind fun m1 =>
  some m1
noncomputable def M.impl_parted (p0 : List UInt8) : Option (List (List UInt8)) :=
  bif (p0 == ([110, 111, 110, 101] : List UInt8)) then
    some ([])
  else
    (M.strings_Split_s2c p0).bind fun m2 =>
    some m2
def M.internal_stringslite_IndexByte_s30313233343536373839616263646566 (p1 : Int) : Int :=
  (sfind ([48, 49, 50, 51, 52, 53, 54, 55, 56, 57, 97, 98, 99, 100, 101, 102] : List UInt8) p1)
def M.strings_IndexByte_s30313233343536373839616263646566 (p1 : Int) : Int :=
  letv (M.internal_stringslite_IndexByte_s30313233343536373839616263646566 p1) fun m1 =>
  m1
def M.impl_in (p0 : Int) (p1 : Int) (p2 : Int) : Bool :=
  letv (
      bif (icmp .geq p0 p1) then
        (icmp .leq p0 p2)
      else
        false) fun m1 =>
  m1
def M.impl_FromBits (p0 : Int) : Nat × Bool :=
  letv (M.impl_in p0 0 4294967295) fun m1 =>
  bif (!m1) then
    (0, false)
  else
    ((cn .f32 (((IntKind.u32.wrap p0)).toNat)), true)
def M.impl_isNaN (p0 : Nat) : Bool :=
  (fcmp .neq .f32 p0 p0)
def M.impl_BitsOf (p0 : Nat) : Int :=
  letv (M.impl_isNaN p0) fun m1 =>
  bif m1 then
    2143289344
  else
    (IntKind.i64.wrap (p0 : Int))
noncomputable def M.impl_readNumber (p0 : List UInt8) : Option (Nat × Bool) :=
  (loopM (fun (s1 : Int × Int) =>
      bif (icmp .lss s1.2 ((p0).length : Int)) then
        (sidx p0 s1.2).bind fun m3 =>
        letv (M.strings_IndexByte_s30313233343536373839616263646566 m3) fun m4 =>
        letv (
            bif (icmp .lss m4 0) then
              true
            else
              (icmp .eql s1.2 8)) fun m7 =>
        bif m7 then
          some (.inr (.inr (0, false)))
        else
          some (.inl ((IntKind.i64.wrap ((IntKind.i64.wrap (s1.1 * 16)) + m4)), (IntKind.i64.wrap (s1.2 + 1))))
      else
        some (.inr (.inl s1.1))) ((0, 0) : Int × Int)).bind fun m1 =>
  sel m1 (fun m1 =>
    letv (M.impl_FromBits m1) fun m11 =>
    letv (
        bif (icmp .eql ((p0).length : Int) 8) then
          letv (M.impl_BitsOf m11.1) fun m16 =>
          (icmp .eql m16 m1)
        else
          false) fun m14 =>
    some (m11.1, m14)) (fun m1 =>
    some (m1.1, m1.2))
noncomputable def M.impl_ReadNumbers (p0 : List UInt8) : Option (List Nat × Bool) :=
  (M.impl_parted p0).bind fun m3 =>
  (loopM (fun (s8 : List Nat × Int) =>
      bif (icmp .lss s8.2 ((m3).length : Int)) then
        (idx m3 s8.2).bind fun m11 =>
        (M.impl_readNumber m11).bind fun m13 =>
        letv (
            bif m13.2 then
              (icmp .eql ((s8.1).length : Int) 256)
            else
              true) fun m16 =>
        bif m16 then
          some (.inr (.inr ([], false)))
        else
          (app 4 s8.1 ([m13.1])).bind fun m28 =>
          some (.inl (m28, (IntKind.i64.wrap (s8.2 + 1))))
      else
        some (.inr (.inl s8.1))) ((([] : List Nat), 0) : List Nat × Int)).bind fun m8 =>
  sel m8 (fun m8 =>
    some (m8, true)) (fun m8 =>
    some (m8.1, m8.2))
noncomputable def M.impl_exactly (p0 : List UInt8) (p1 : Int) : Option (List Nat × Bool) :=
  (M.impl_ReadNumbers p0).bind fun m1 =>
  letv (
      bif m1.2 then
        (icmp .neq ((m1.1).length : Int) p1)
      else
        true) fun m5 =>
  bif m5 then
    (mkl 4 p1 p1 0).bind fun m9 =>
    some (m9, false)
  else
    some (m1.1, true)
def M.impl_Swing_numbers (p0 : SSwing) : List Nat :=
  [p0.turn, p0.speed, p0.time]
def M.impl_IsFinite (p0 : Nat) : Bool :=
  (fcmp .eql .f32 (fop .sub .f32 p0 p0) 0)
def M.impl_finite_1 (p0 : Nat) : Bool :=
  letv (M.impl_IsFinite p0) fun m1 =>
  (!m1)
noncomputable def M.slices_IndexFunc___float32_float32__f161 (p0 : List Nat) : Option Int :=
  (loopM (fun (s1 : Int) =>
      bif (icmp .lss s1 ((p0).length : Int)) then
        (idx p0 s1).bind fun m3 =>
        letv (M.impl_finite_1 m3) fun m6 =>
        bif m6 then
          some (.inr (.inr s1))
        else
          some (.inl (IntKind.i64.wrap (s1 + 1)))
      else
        some (.inr (.inl ()))) (0 : Int)).bind fun m1 =>
  sel m1 (fun m1 =>
    some (-1)) (fun m1 =>
    some m1)
noncomputable def M.slices_ContainsFunc___float32_float32__f161 (p0 : List Nat) : Option Bool :=
  (M.slices_IndexFunc___float32_float32__f161 p0).bind fun m1 =>
  some (icmp .geq m1 0)
noncomputable def M.impl_finite (p0 : List Nat) : Option Bool :=
  (M.slices_ContainsFunc___float32_float32__f161 p0).bind fun m1 =>
  some (!m1)
noncomputable def M.impl_ValidSwing (p0 : SSwing) : Option Bool :=
  letv (M.impl_Swing_numbers p0) fun m4 =>
  (M.impl_finite m4).bind fun m9 =>
  some m9
noncomputable def M.impl_ReadSwing (p0 : List UInt8) : Option (SSwing × Bool) :=
  (M.impl_exactly p0 3).bind fun m4 =>
  (idx m4.1 0).bind fun m11 =>
  (idx m4.1 1).bind fun m12 =>
  (idx m4.1 2).bind fun m13 =>
  (Option.bind (
      bif m4.2 then
        (M.impl_ValidSwing (⟨m11, m12, m13⟩ : SSwing)).bind fun m39 =>
        some (!m39)
      else
        some true) fun m36 =>
  bif m36 then
    some ((⟨0, 0, 0⟩ : SSwing), false)
  else
    some ((⟨m11, m12, m13⟩ : SSwing), true))
def M.laws_sameFloat (p0 : Nat) (p1 : Nat) : Bool :=
  letv (
      bif (fcmp .neq .f64 p0 p0) then
        true
      else
        (fcmp .neq .f64 p1 p1)) fun m1 =>
  bif m1 then
    letv (
        bif (fcmp .neq .f64 p0 p0) then
          (fcmp .neq .f64 p1 p1)
        else
          false) fun m5 =>
    m5
  else
    letv (
        bif (fcmp .eql .f64 p0 0) then
          (fcmp .eql .f64 p1 0)
        else
          false) fun m8 =>
    bif m8 then
      ((fcmp .gtr .f64 (fop .quo .f64 4607182418800017408 p0) 0) == (fcmp .gtr .f64 (fop .quo .f64 4607182418800017408 p1) 0))
    else
      (fcmp .eql .f64 p0 p1)
def M.laws_eqSwing (p0 : SSwing) (p1 : SSwing) : Bool :=
  letv (M.laws_sameFloat (widen p0.turn) (widen p1.turn)) fun m14 =>
  bif (!m14) then
    false
  else
    letv (M.laws_sameFloat (widen p0.speed) (widen p1.speed)) fun m26 =>
    bif (!m26) then
      false
    else
      letv (M.laws_sameFloat (widen p0.time) (widen p1.time)) fun m38 =>
      bif (!m38) then
        false
      else
        true
noncomputable def M.laws_FnExactReadSwing (p0 : List UInt8) : Option Bool :=
  bif (icmp .gtr ((p0).length : Int) 1048576) then
    some true
  else
    (M.spec_ReadSwing p0).bind fun m2 =>
    (M.impl_ReadSwing p0).bind fun m11 =>
    letv (
        letv (M.laws_eqSwing (⟨m11.1.turn, m11.1.speed, m11.1.time⟩ : SSwing) (⟨m2.1.turn, m2.1.speed, m2.1.time⟩ : SSwing)) fun m24 =>
        bif m24 then
          (!(m11.2 == m2.2))
        else
          true) fun m22 =>
    bif m22 then
      some false
    else
      some true
def M.spec_l02Above (p0 : Nat) : Bool :=
  letv (
      letv (M.spec_l01Finite p0) fun m2 =>
      bif m2 then
        (fcmp .gtr .f32 p0 0)
      else
        false) fun m1 =>
  m1
def M.spec_l02Least (p0 : Nat) : Bool :=
  letv (
      letv (M.spec_l01Finite p0) fun m2 =>
      bif m2 then
        (fcmp .geq .f32 p0 0)
      else
        false) fun m1 =>
  m1
def M.spec_l02Is (p0 : SPendulum) : Bool :=
  letv (
      letv (M.spec_l02Above p0.long) fun m2 =>
      bif m2 then
        letv (M.spec_l02Least p0.pull) fun m7 =>
        bif m7 then
          letv (M.spec_l02Least p0.drag) fun m12 =>
          bif m12 then
            letv (M.spec_l01Finite p0.drive) fun m17 =>
            bif m17 then
              letv (M.spec_l01Finite p0.rate) fun m22 =>
              m22
            else
              false
          else
            false
        else
          false
      else
        false) fun m1 =>
  m1
noncomputable def M.spec_l08ReadPendulum (p0 : List UInt8) : Option (SPendulum × Bool) :=
  (M.spec_l01NRead p0).bind fun m4 =>
  letv (
      bif m4.2 then
        (icmp .neq ((m4.1).length : Int) 5)
      else
        true) fun m9 =>
  bif m9 then
    some ((⟨0, 0, 0, 0, 0⟩ : SPendulum), false)
  else
    (idx m4.1 0).bind fun m21 =>
    (idx m4.1 1).bind fun m22 =>
    (idx m4.1 2).bind fun m23 =>
    (idx m4.1 3).bind fun m24 =>
    (idx m4.1 4).bind fun m25 =>
    letv (M.spec_l02Is (⟨m21, m22, m23, m24, m25⟩ : SPendulum)) fun m56 =>
    bif (!m56) then
      some ((⟨0, 0, 0, 0, 0⟩ : SPendulum), false)
    else
      some ((⟨m21, m22, m23, m24, m25⟩ : SPendulum), true)
noncomputable def M.spec_ReadPendulum (p0 : List UInt8) : Option (SPendulum × Bool) :=
  (M.spec_l08ReadPendulum p0).bind fun m4 =>
  some (m4.1, m4.2)
def M.impl_Pendulum_numbers (p0 : SPendulum) : List Nat :=
  [p0.long, p0.pull, p0.drag, p0.drive, p0.rate]
noncomputable def M.impl_ValidPendulum (p0 : SPendulum) : Option Bool :=
  (Option.bind (
      letv (M.impl_Pendulum_numbers p0) fun m5 =>
      (M.impl_finite m5).bind fun m10 =>
      bif m10 then
        bif (fcmp .gtr .f32 p0.long 0) then
          bif (fcmp .geq .f32 p0.pull 0) then
            some (fcmp .geq .f32 p0.drag 0)
          else
            some false
        else
          some false
      else
        some false) fun m4 =>
  some m4)
noncomputable def M.impl_ReadPendulum (p0 : List UInt8) : Option (SPendulum × Bool) :=
  (M.impl_exactly p0 5).bind fun m4 =>
  (idx m4.1 0).bind fun m11 =>
  (idx m4.1 1).bind fun m12 =>
  (idx m4.1 2).bind fun m13 =>
  (idx m4.1 3).bind fun m14 =>
  (idx m4.1 4).bind fun m15 =>
  (Option.bind (
      bif m4.2 then
        (M.impl_ValidPendulum (⟨m11, m12, m13, m14, m15⟩ : SPendulum)).bind fun m49 =>
        some (!m49)
      else
        some true) fun m46 =>
  bif m46 then
    some ((⟨0, 0, 0, 0, 0⟩ : SPendulum), false)
  else
    some ((⟨m11, m12, m13, m14, m15⟩ : SPendulum), true))
def M.laws_eqPendulum (p0 : SPendulum) (p1 : SPendulum) : Bool :=
  letv (M.laws_sameFloat (widen p0.long) (widen p1.long)) fun m14 =>
  bif (!m14) then
    false
  else
    letv (M.laws_sameFloat (widen p0.pull) (widen p1.pull)) fun m26 =>
    bif (!m26) then
      false
    else
      letv (M.laws_sameFloat (widen p0.drag) (widen p1.drag)) fun m38 =>
      bif (!m38) then
        false
      else
        letv (M.laws_sameFloat (widen p0.drive) (widen p1.drive)) fun m50 =>
        bif (!m50) then
          false
        else
          letv (M.laws_sameFloat (widen p0.rate) (widen p1.rate)) fun m62 =>
          bif (!m62) then
            false
          else
            true
noncomputable def M.laws_FnExactReadPendulum (p0 : List UInt8) : Option Bool :=
  bif (icmp .gtr ((p0).length : Int) 1048576) then
    some true
  else
    (M.spec_ReadPendulum p0).bind fun m2 =>
    (M.impl_ReadPendulum p0).bind fun m11 =>
    letv (
        letv (M.laws_eqPendulum (⟨m11.1.long, m11.1.pull, m11.1.drag, m11.1.drive, m11.1.rate⟩ : SPendulum) (⟨m2.1.long, m2.1.pull, m2.1.drag, m2.1.drive, m2.1.rate⟩ : SPendulum)) fun m24 =>
        bif m24 then
          (!(m11.2 == m2.2))
        else
          true) fun m22 =>
    bif m22 then
      some false
    else
      some true
noncomputable def M.laws_szStringS (p0 : List (List UInt8)) (p1 : Int) : Option Int :=
  bif (icmp .lss (IntKind.i64.wrap (p1 - ((p0).length : Int))) 0) then
    some (-1)
  else
    (loopM (fun (s2 : Int × Int) =>
        bif (icmp .lss s2.2 ((p0).length : Int)) then
          (idx p0 s2.2).bind fun m5 =>
          bif (icmp .lss (IntKind.i64.wrap (s2.1 - ((m5).length : Int))) 0) then
            some (.inr (.inr (-1)))
          else
            some (.inl ((IntKind.i64.wrap (s2.1 - ((m5).length : Int))), (IntKind.i64.wrap (s2.2 + 1))))
        else
          some (.inr (.inl s2.1))) (((IntKind.i64.wrap (p1 - ((p0).length : Int))), 0) : Int × Int)).bind fun m2 =>
    sel m2 (fun m2 =>
      some m2) (fun m2 =>
      some m2)
noncomputable def M.laws_toStringS (p0 : List (List UInt8)) : Option (List (List UInt8)) :=
  (mkl 16 ((p0).length : Int) ((p0).length : Int) ([] : List UInt8)).bind fun m1 =>
  (loopM (fun (s4 : Int × List (List UInt8)) =>
      bif (icmp .lss s4.1 ((p0).length : Int)) then
        (idx p0 s4.1).bind fun m7 =>
        (idx s4.2 s4.1).bind fun m9 =>
        some (.inl ((IntKind.i64.wrap (s4.1 + 1)), (s4.2.set s4.1.toNat m7)))
      else
        some (.inr s4.2)) ((0, m1) : Int × List (List UInt8))).bind fun m4 =>
  some m4
noncomputable def M.spec_l01Check (p0 : Int) (p1 : List UInt8) : Option Int :=
  (loopM (fun (s1 : Int × Int) =>
      bif (icmp .lss s1.2 ((p1).length : Int)) then
        (sidx p1 s1.2).bind fun m3 =>
        some (.inl ((((IntKind.i64.wrap ((IntKind.i64.wrap ((IntKind.i64.wrap (757 * s1.1)) + (IntKind.i64.wrap m3))) + 79))).tmod 65003), (IntKind.i64.wrap (s1.2 + 1))))
      else
        some (.inr s1.1)) ((p0, 0) : Int × Int)).bind fun m1 =>
  some m1
noncomputable def M.spec_l01Dec (p0 : Int) : Option (List UInt8) :=
  (loopM (fun (s3 : List Int × Int) =>
      letv (
          bif (icmp .eql ((s3.1).length : Int) 0) then
            true
          else
            (icmp .neq s3.2 0)) fun m4 =>
      bif m4 then
        bif (icmp .lss ((s3.2).tmod 10) 0) then
          (app 1 ([(IntKind.u8.wrap (IntKind.i64.wrap (48 + (IntKind.i64.wrap (0 - ((s3.2).tmod 10))))))]) s3.1).bind fun m13 =>
          some (.inl (m13, (IntKind.i64.wrap ((s3.2).tdiv 10))))
        else
          (app 1 ([(IntKind.u8.wrap (IntKind.i64.wrap (48 + ((s3.2).tmod 10))))]) s3.1).bind fun m22 =>
          some (.inl (m22, (IntKind.i64.wrap ((s3.2).tdiv 10))))
      else
        some (.inr s3.1)) ((([] : List Int), p0) : List Int × Int)).bind fun m3 =>
  bif (icmp .lss p0 0) then
    (app 1 ([45]) m3).bind fun m32 =>
    some (u8s m32)
  else
    some (u8s m3)
noncomputable def M.spec_l08Journal (p0 : List (List UInt8)) : Option (List UInt8) :=
  (loopM (fun (s1 : List UInt8 × Int × Int) =>
      bif (icmp .lss s1.2.2 ((p0).length : Int)) then
        (idx p0 s1.2.2).bind fun m4 =>
        (M.spec_l01Check s1.2.1 m4).bind fun m6 =>
        (M.spec_l01Dec m6).bind fun m11 =>
        (scat m11 ([32] : List UInt8)).bind fun m12 =>
        (idx p0 s1.2.2).bind fun m13 =>
        (scat m12 m13).bind fun m14 =>
        (scat m14 ([10] : List UInt8)).bind fun m15 =>
        (scat s1.1 m15).bind fun m16 =>
        some (.inl (m16, m6, (IntKind.i64.wrap (s1.2.2 + 1))))
      else
        some (.inr s1.1)) ((([] : List UInt8), 0, 0) : List UInt8 × Int × Int)).bind fun m1 =>
  some m1
noncomputable def M.spec_JournalOf (p0 : List (List UInt8)) : Option (List UInt8 × Bool) :=
  (loopM (fun (s1 : Int × Int) =>
      bif (icmp .lss s1.2 ((p0).length : Int)) then
        (idx p0 s1.2).bind fun m4 =>
        bif (icmp .gtr (IntKind.i64.wrap (s1.1 + (IntKind.i64.wrap (((m4).length : Int) + 3)))) 16000) then
          some (.inr (.inr (([] : List UInt8), false)))
        else
          (loopM (fun (s7 : Int) =>
              (idx p0 s1.2).bind fun m8 =>
              bif (icmp .lss s7 ((m8).length : Int)) then
                (idx p0 s1.2).bind fun m12 =>
                (sidx m12 s7).bind fun m14 =>
                bif (icmp .eql m14 10) then
                  some (.inr (.inr (([] : List UInt8), false)))
                else
                  some (.inl (IntKind.i64.wrap (s7 + 1)))
              else
                some (.inr (.inl ()))) (0 : Int)).bind fun m7 =>
          sel m7 (fun m7 =>
            some (.inl ((IntKind.i64.wrap (s1.1 + (IntKind.i64.wrap (((m4).length : Int) + 3)))), (IntKind.i64.wrap (s1.2 + 1))))) (fun m7 =>
            some (.inr (.inr (m7.1, m7.2))))
      else
        some (.inr (.inl ()))) ((0, 0) : Int × Int)).bind fun m1 =>
  sel m1 (fun m1 =>
    (M.spec_l08Journal p0).bind fun m16 =>
    bif (icmp .gtr ((m16).length : Int) 16000) then
      some (([] : List UInt8), false)
    else
      some (m16, true)) (fun m1 =>
    some (m1.1, m1.2))
noncomputable def M.internal_stringslite_Index_s0a (p0 : List UInt8) : Option Int :=
  bif (([10] : List UInt8) == p0) then
    some 0
  else
    (sidx ([10] : List UInt8) 0).bind fun m4 =>
    letv (M.internal_stringslite_IndexByte p0 m4) fun m5 =>
    some m5
noncomputable def M.strings_Index_s0a (p0 : List UInt8) : Option Int :=
  (M.internal_stringslite_Index_s0a p0).bind fun m1 =>
  some m1
noncomputable def M.strings_Contains_s0a (p0 : List UInt8) : Option Bool :=
  (M.strings_Index_s0a p0).bind fun m1 =>
  some (icmp .geq m1 0)
noncomputable def M.impl_CheckOf (p0 : Int) (p1 : List UInt8) : Option (Int × Bool) :=
  letv (M.impl_in p0 0 65002) fun m1 =>
  bif (!m1) then
    some (0, false)
  else
    (loopM (fun (s5 : Int × Int) =>
        bif (icmp .lss s5.2 ((p1).length : Int)) then
          (sidx p1 s5.2).bind fun m7 =>
          some (.inl ((((IntKind.i64.wrap ((IntKind.i64.wrap ((IntKind.i64.wrap (757 * s5.1)) + (IntKind.i64.wrap m7))) + 79))).tmod 65003), (IntKind.i64.wrap (s5.2 + 1))))
        else
          some (.inr s5.1)) ((p0, 0) : Int × Int)).bind fun m5 =>
    some (m5, true)
noncomputable def M.impl_Decimal (p0 : Int) : Option (List UInt8) :=
  (fmt10 p0).bind fun m2 =>
  some m2
noncomputable def M.impl_JournalOf (p0 : List (List UInt8)) : Option (List UInt8 × Bool) :=
  (loopM (fun (s9 : Int × Int × List UInt8) =>
      bif (icmp .lss s9.2.1 ((p0).length : Int)) then
        (idx p0 s9.2.1).bind fun m11 =>
        (Option.bind (
            bif (icmp .gtr ((m11).length : Int) 16000) then
              some true
            else
              (M.strings_Contains_s0a m11).bind fun m16 =>
              bif m16 then
                some true
              else
                some (icmp .gtr ((s9.2.2).length : Int) 16000)) fun m14 =>
        bif m14 then
          some (.inr (.inr (([] : List UInt8), false)))
        else
          (M.impl_CheckOf s9.1 m11).bind fun m24 =>
          (M.impl_Decimal m24.1).bind fun m27 =>
          (scat m27 ([32] : List UInt8)).bind fun m30 =>
          (scat m30 m11).bind fun m31 =>
          (scat m31 ([10] : List UInt8)).bind fun m32 =>
          (app 1 s9.2.2 m32).bind fun m35 =>
          some (.inl (m24.1, (IntKind.i64.wrap (s9.2.1 + 1)), m35)))
      else
        some (.inr (.inl s9.2.2))) ((0, 0, ([] : List UInt8)) : Int × Int × List UInt8)).bind fun m9 =>
  sel m9 (fun m9 =>
    bif (icmp .gtr ((m9).length : Int) 16000) then
      some (([] : List UInt8), false)
    else
      some (m9, true)) (fun m9 =>
    some (m9.1, m9.2))
noncomputable def M.laws_eqStringS (p0 : List (List UInt8)) (p1 : List (List UInt8)) : Option Bool :=
  bif (icmp .neq ((p0).length : Int) ((p1).length : Int)) then
    some false
  else
    (loopM (fun (s2 : Int) =>
        bif (icmp .lss s2 ((p0).length : Int)) then
          (idx p0 s2).bind fun m7 =>
          (idx p1 s2).bind fun m8 =>
          bif (!(m7 == m8)) then
            some (.inr (.inr false))
          else
            some (.inl (IntKind.i64.wrap (s2 + 1)))
        else
          some (.inr (.inl ()))) (0 : Int)).bind fun m2 =>
    sel m2 (fun m2 =>
      some true) (fun m2 =>
      some m2)
noncomputable def M.laws_FnExactJournalOf (p0 : List (List UInt8)) : Option Bool :=
  (M.laws_szStringS p0 1048576).bind fun m1 =>
  bif (icmp .lss m1 0) then
    some true
  else
    (M.laws_toStringS p0).bind fun m5 =>
    (M.spec_JournalOf m5).bind fun m10 =>
    (M.laws_toStringS p0).bind fun m13 =>
    (M.impl_JournalOf m13).bind fun m18 =>
    letv (
        bif (m18.1 == m10.1) then
          (!(m18.2 == m10.2))
        else
          true) fun m21 =>
    bif m21 then
      some false
    else
      (M.laws_toStringS p0).bind fun m26 =>
      (M.laws_eqStringS m13 m26).bind fun m33 =>
      bif (!m33) then
        some false
      else
        some true
noncomputable def M.spec_l01VRead (p0 : List UInt8) : Option (SVector × Bool) :=
  (M.spec_l01NRead p0).bind fun m4 =>
  letv (
      bif m4.2 then
        (icmp .neq ((m4.1).length : Int) 3)
      else
        true) fun m9 =>
  bif m9 then
    some ((⟨0, 0, 0⟩ : SVector), false)
  else
    (idx m4.1 0).bind fun m21 =>
    (idx m4.1 1).bind fun m22 =>
    (idx m4.1 2).bind fun m23 =>
    some ((⟨m21, m22, m23⟩ : SVector), true)
def M.spec_l04Spin (p0 : SSpin) : Bool :=
  letv (
      letv (M.spec_l01Finite p0.w) fun m2 =>
      bif m2 then
        letv (M.spec_l01Finite p0.x) fun m7 =>
        bif m7 then
          letv (M.spec_l01Finite p0.y) fun m12 =>
          bif m12 then
            letv (M.spec_l01Finite p0.z) fun m17 =>
            (!m17)
          else
            true
        else
          true
      else
        true) fun m1 =>
  bif m1 then
    false
  else
    letv (
        bif (fcmp .neq .f32 p0.w 0) then
          true
        else
          bif (fcmp .neq .f32 p0.x 0) then
            true
          else
            bif (fcmp .neq .f32 p0.y 0) then
              true
            else
              (fcmp .neq .f32 p0.z 0)) fun m22 =>
    m22
def M.spec_l01VFinite (p0 : SVector) : Bool :=
  letv (
      letv (M.spec_l01Finite p0.x) fun m5 =>
      bif m5 then
        letv (M.spec_l01Finite p0.y) fun m10 =>
        bif m10 then
          letv (M.spec_l01Finite p0.z) fun m15 =>
          m15
        else
          false
      else
        false) fun m4 =>
  m4
def M.spec_l04Is (p0 : STop) : Bool :=
  letv (
      letv (M.spec_l02Above p0.moments.x) fun m2 =>
      bif m2 then
        letv (M.spec_l02Above p0.moments.y) fun m7 =>
        bif m7 then
          letv (M.spec_l02Above p0.moments.z) fun m12 =>
          bif m12 then
            letv (M.spec_l04Spin (⟨p0.turn.w, p0.turn.x, p0.turn.y, p0.turn.z⟩ : SSpin)) fun m16 =>
            bif m16 then
              letv (M.spec_l01VFinite (⟨p0.speed.x, p0.speed.y, p0.speed.z⟩ : SVector)) fun m22 =>
              m22
            else
              false
          else
            false
        else
          false
      else
        false) fun m1 =>
  m1
noncomputable def M.spec_l08ReadTop (p0 : List UInt8) : Option (STop × Bool) :=
  (M.spec_l01Cut p0 59).bind fun m4 =>
  bif (icmp .neq ((m4).length : Int) 3) then
    some ((⟨(⟨0, 0, 0⟩ : SVector), (⟨0, 0, 0, 0⟩ : SSpin), (⟨0, 0, 0⟩ : SVector)⟩ : STop), false)
  else
    (idx m4 0).bind fun m14 =>
    (M.spec_l01VRead m14).bind fun m17 =>
    (idx m4 1).bind fun m33 =>
    (M.spec_l01NRead m33).bind fun m38 =>
    (idx m4 2).bind fun m47 =>
    (M.spec_l01VRead m47).bind fun m53 =>
    letv (
        bif m17.2 then
          bif m38.2 then
            bif m53.2 then
              (icmp .neq ((m38.1).length : Int) 4)
            else
              true
          else
            true
        else
          true) fun m74 =>
    bif m74 then
      some ((⟨(⟨0, 0, 0⟩ : SVector), (⟨0, 0, 0, 0⟩ : SSpin), (⟨0, 0, 0⟩ : SVector)⟩ : STop), false)
    else
      (idx m38.1 0).bind fun m92 =>
      (idx m38.1 1).bind fun m93 =>
      (idx m38.1 2).bind fun m94 =>
      (idx m38.1 3).bind fun m95 =>
      letv (M.spec_l04Is (⟨(⟨m17.1.x, m17.1.y, m17.1.z⟩ : SVector), (⟨m92, m93, m94, m95⟩ : SSpin), (⟨m53.1.x, m53.1.y, m53.1.z⟩ : SVector)⟩ : STop)) fun m126 =>
      bif (!m126) then
        some ((⟨(⟨0, 0, 0⟩ : SVector), (⟨0, 0, 0, 0⟩ : SSpin), (⟨0, 0, 0⟩ : SVector)⟩ : STop), false)
      else
        some ((⟨(⟨m17.1.x, m17.1.y, m17.1.z⟩ : SVector), (⟨m92, m93, m94, m95⟩ : SSpin), (⟨m53.1.x, m53.1.y, m53.1.z⟩ : SVector)⟩ : STop), true)
noncomputable def M.spec_ReadTop (p0 : List UInt8) : Option (STop × Bool) :=
  (M.spec_l08ReadTop p0).bind fun m4 =>
  some (m4.1, m4.2)
noncomputable def M.strings_Count_s3b (p0 : List UInt8) : Option Int :=
  (sidx ([59] : List UInt8) 0).bind fun m1 =>
  some (scount p0 m1)
noncomputable def M.internal_stringslite_Index_s3b (p0 : List UInt8) : Option Int :=
  bif (([59] : List UInt8) == p0) then
    some 0
  else
    (sidx ([59] : List UInt8) 0).bind fun m4 =>
    letv (M.internal_stringslite_IndexByte p0 m4) fun m5 =>
    some m5
noncomputable def M.strings_Index_s3b (p0 : List UInt8) : Option Int :=
  (M.internal_stringslite_Index_s3b p0).bind fun m1 =>
  some m1
noncomputable def M.strings_genSplit_s3b_i64n0_i64m1 (p0 : List UInt8) : Option (List (List UInt8)) :=
  (M.strings_Count_s3b p0).bind fun m1 =>
  (mkl 16 (imin (IntKind.i64.wrap (m1 + 1)) (IntKind.i64.wrap (((p0).length : Int) + 1))) (imin (IntKind.i64.wrap (m1 + 1)) (IntKind.i64.wrap (((p0).length : Int) + 1))) ([] : List UInt8)).bind fun m4 =>
  (loopM (fun (s7 : List UInt8 × Int × List (List UInt8)) =>
      bif (icmp .lss s7.2.1 (IntKind.i64.wrap ((imin (IntKind.i64.wrap (m1 + 1)) (IntKind.i64.wrap (((p0).length : Int) + 1))) - 1))) then
        (M.strings_Index_s3b s7.1).bind fun m9 =>
        bif (icmp .lss m9 0) then
          some (.inr (s7.1, s7.2.1, s7.2.2))
        else
          (ssub s7.1 0 (IntKind.i64.wrap (m9 + 0))).bind fun m14 =>
          (idx s7.2.2 s7.2.1).bind fun m15 =>
          (ssub s7.1 (IntKind.i64.wrap (m9 + 1)) ((s7.1).length : Int)).bind fun m21 =>
          some (.inl (m21, (IntKind.i64.wrap (s7.2.1 + 1)), (s7.2.2.set s7.2.1.toNat m14)))
      else
        some (.inr (s7.1, s7.2.1, s7.2.2))) ((p0, 0, m4) : List UInt8 × Int × List (List UInt8))).bind fun m7 =>
  (idx m7.2.2 m7.2.1).bind fun m22 =>
  (ssub (m7.2.2.set m7.2.1.toNat m7.1) 0 (IntKind.i64.wrap (m7.2.1 + 1))).bind fun m27 =>
  some m27
noncomputable def M.strings_Split_s3b (p0 : List UInt8) : Option (List (List UInt8)) :=
  (M.strings_genSplit_s3b_i64n0_i64m1 p0).bind fun m1 =>
  some m1
noncomputable def M.impl_ReadVector (p0 : List UInt8) : Option (SVector × Bool) :=
  (M.impl_ReadNumbers p0).bind fun m4 =>
  letv (
      bif m4.2 then
        (icmp .neq ((m4.1).length : Int) 3)
      else
        true) fun m9 =>
  bif m9 then
    some ((⟨0, 0, 0⟩ : SVector), false)
  else
    (idx m4.1 0).bind fun m21 =>
    (idx m4.1 1).bind fun m22 =>
    (idx m4.1 2).bind fun m23 =>
    some ((⟨m21, m22, m23⟩ : SVector), true)
def M.impl_lengthOk (p0 : Nat) : Bool :=
  letv (
      letv (M.impl_IsFinite p0) fun m2 =>
      bif m2 then
        (fcmp .gtr .f32 p0 0)
      else
        false) fun m1 =>
  m1
def M.impl_Spin_numbers (p0 : SSpin) : List Nat :=
  [p0.w, p0.x, p0.y, p0.z]
noncomputable def M.impl_IsSpin (p0 : SSpin) : Option Bool :=
  (Option.bind (
      letv (M.impl_Spin_numbers p0) fun m5 =>
      (M.impl_finite m5).bind fun m10 =>
      bif m10 then
        bif (fcmp .neq .f32 p0.w 0) then
          some true
        else
          bif (fcmp .neq .f32 p0.x 0) then
            some true
          else
            bif (fcmp .neq .f32 p0.y 0) then
              some true
            else
              some (fcmp .neq .f32 p0.z 0)
      else
        some false) fun m4 =>
  some m4)
noncomputable def M.impl_finiteVector (p0 : SVector) : Option Bool :=
  (M.impl_finite ([p0.x, p0.y, p0.z])).bind fun m7 =>
  some m7
noncomputable def M.impl_ValidTop (p0 : STop) : Option Bool :=
  (Option.bind (
      letv (M.impl_lengthOk p0.moments.x) fun m13 =>
      bif m13 then
        letv (M.impl_lengthOk p0.moments.y) fun m18 =>
        bif m18 then
          letv (M.impl_lengthOk p0.moments.z) fun m24 =>
          bif m24 then
            (M.impl_IsSpin p0.turn).bind fun m30 =>
            bif m30 then
              (M.impl_finiteVector (⟨p0.speed.x, p0.speed.y, p0.speed.z⟩ : SVector)).bind fun m36 =>
              some m36
            else
              some false
          else
            some false
        else
          some false
      else
        some false) fun m11 =>
  some m11)
noncomputable def M.impl_ReadTop (p0 : List UInt8) : Option (STop × Bool) :=
  (M.strings_Split_s3b p0).bind fun m4 =>
  bif (icmp .neq ((m4).length : Int) 3) then
    some ((⟨(⟨0, 0, 0⟩ : SVector), (⟨0, 0, 0, 0⟩ : SSpin), (⟨0, 0, 0⟩ : SVector)⟩ : STop), false)
  else
    (idx m4 0).bind fun m14 =>
    (M.impl_ReadVector m14).bind fun m16 =>
    (idx m4 1).bind fun m32 =>
    (M.impl_exactly m32 4).bind fun m35 =>
    (idx m4 2).bind fun m44 =>
    (M.impl_ReadVector m44).bind fun m47 =>
    (idx m35.1 0).bind fun m72 =>
    (idx m35.1 1).bind fun m73 =>
    (idx m35.1 2).bind fun m74 =>
    (idx m35.1 3).bind fun m75 =>
    (Option.bind (
        bif m16.2 then
          bif m35.2 then
            bif m47.2 then
              (M.impl_ValidTop (⟨(⟨m16.1.x, m16.1.y, m16.1.z⟩ : SVector), (⟨m72, m73, m74, m75⟩ : SSpin), (⟨m47.1.x, m47.1.y, m47.1.z⟩ : SVector)⟩ : STop)).bind fun m111 =>
              some (!m111)
            else
              some true
          else
            some true
        else
          some true) fun m106 =>
    bif m106 then
      some ((⟨(⟨0, 0, 0⟩ : SVector), (⟨0, 0, 0, 0⟩ : SSpin), (⟨0, 0, 0⟩ : SVector)⟩ : STop), false)
    else
      some ((⟨(⟨m16.1.x, m16.1.y, m16.1.z⟩ : SVector), (⟨m72, m73, m74, m75⟩ : SSpin), (⟨m47.1.x, m47.1.y, m47.1.z⟩ : SVector)⟩ : STop), true))
def M.laws_eqVector (p0 : SVector) (p1 : SVector) : Bool :=
  letv (M.laws_sameFloat (widen p0.x) (widen p1.x)) fun m14 =>
  bif (!m14) then
    false
  else
    letv (M.laws_sameFloat (widen p0.y) (widen p1.y)) fun m26 =>
    bif (!m26) then
      false
    else
      letv (M.laws_sameFloat (widen p0.z) (widen p1.z)) fun m38 =>
      bif (!m38) then
        false
      else
        true
def M.laws_eqSpin (p0 : SSpin) (p1 : SSpin) : Bool :=
  letv (M.laws_sameFloat (widen p0.w) (widen p1.w)) fun m14 =>
  bif (!m14) then
    false
  else
    letv (M.laws_sameFloat (widen p0.x) (widen p1.x)) fun m26 =>
    bif (!m26) then
      false
    else
      letv (M.laws_sameFloat (widen p0.y) (widen p1.y)) fun m38 =>
      bif (!m38) then
        false
      else
        letv (M.laws_sameFloat (widen p0.z) (widen p1.z)) fun m50 =>
        bif (!m50) then
          false
        else
          true
def M.laws_eqTop (p0 : STop) (p1 : STop) : Bool :=
  letv (M.laws_eqVector (⟨p0.moments.x, p0.moments.y, p0.moments.z⟩ : SVector) (⟨p1.moments.x, p1.moments.y, p1.moments.z⟩ : SVector)) fun m9 =>
  bif (!m9) then
    false
  else
    letv (M.laws_eqSpin (⟨p0.turn.w, p0.turn.x, p0.turn.y, p0.turn.z⟩ : SSpin) (⟨p1.turn.w, p1.turn.x, p1.turn.y, p1.turn.z⟩ : SSpin)) fun m15 =>
    bif (!m15) then
      false
    else
      letv (M.laws_eqVector (⟨p0.speed.x, p0.speed.y, p0.speed.z⟩ : SVector) (⟨p1.speed.x, p1.speed.y, p1.speed.z⟩ : SVector)) fun m21 =>
      bif (!m21) then
        false
      else
        true
noncomputable def M.laws_FnExactReadTop (p0 : List UInt8) : Option Bool :=
  bif (icmp .gtr ((p0).length : Int) 1048576) then
    some true
  else
    (M.spec_ReadTop p0).bind fun m2 =>
    (M.impl_ReadTop p0).bind fun m11 =>
    letv (
        letv (M.laws_eqTop (⟨(⟨m11.1.moments.x, m11.1.moments.y, m11.1.moments.z⟩ : SVector), (⟨m11.1.turn.w, m11.1.turn.x, m11.1.turn.y, m11.1.turn.z⟩ : SSpin), (⟨m11.1.speed.x, m11.1.speed.y, m11.1.speed.z⟩ : SVector)⟩ : STop) (⟨(⟨m2.1.moments.x, m2.1.moments.y, m2.1.moments.z⟩ : SVector), (⟨m2.1.turn.w, m2.1.turn.x, m2.1.turn.y, m2.1.turn.z⟩ : SSpin), (⟨m2.1.speed.x, m2.1.speed.y, m2.1.speed.z⟩ : SVector)⟩ : STop)) fun m24 =>
        bif m24 then
          (!(m11.2 == m2.2))
        else
          true) fun m22 =>
    bif m22 then
      some false
    else
      some true
noncomputable def M.spec_l08Lines (p0 : List UInt8) : Option (List (List UInt8) × List UInt8) :=
  (M.spec_l01Cut p0 10).bind fun m1 =>
  (ssub m1 0 (IntKind.i64.wrap (((m1).length : Int) - 1))).bind fun m6 =>
  (idx m1 (IntKind.i64.wrap (((m1).length : Int) - 1))).bind fun m7 =>
  some (m6, m7)
noncomputable def M.spec_l08Recover (p0 : List UInt8) : Option (List (List UInt8) × Int) :=
  (M.spec_l08Lines p0).bind fun m1 =>
  (loopM (fun (s8 : List (List UInt8) × Int × Int × Int) =>
      bif (icmp .lss s8.2.2.2 ((m1.1).length : Int)) then
        (loopM (fun (s11 : Int) =>
            (Option.bind (
                (idx m1.1 s8.2.2.2).bind fun m13 =>
                bif (icmp .lss s11 ((m13).length : Int)) then
                  (idx m1.1 s8.2.2.2).bind fun m16 =>
                  (sidx m16 s11).bind fun m18 =>
                  some (icmp .neq m18 32)
                else
                  some false) fun m12 =>
            bif m12 then
              some (.inl (IntKind.i64.wrap (s11 + 1)))
            else
              some (.inr s11))) (0 : Int)).bind fun m11 =>
        (idx m1.1 s8.2.2.2).bind fun m25 =>
        bif (icmp .eql m11 ((m25).length : Int)) then
          some (.inr (s8.1, s8.2.2.1))
        else
          (idx m1.1 s8.2.2.2).bind fun m28 =>
          (ssub m28 (IntKind.i64.wrap (m11 + 1)) ((m28).length : Int)).bind fun m30 =>
          (M.spec_l01Check s8.2.1 m30).bind fun m31 =>
          (idx m1.1 s8.2.2.2).bind fun m37 =>
          (ssub m37 0 m11).bind fun m38 =>
          (M.spec_l01Dec m31).bind fun m39 =>
          bif (!(m38 == m39)) then
            some (.inr (s8.1, s8.2.2.1))
          else
            (app 16 s8.1 ([m30])).bind fun m55 =>
            (idx m1.1 s8.2.2.2).bind fun m62 =>
            some (.inl (m55, m31, (IntKind.i64.wrap (s8.2.2.1 + (IntKind.i64.wrap (((m62).length : Int) + 1)))), (IntKind.i64.wrap (s8.2.2.2 + 1))))
      else
        some (.inr (s8.1, s8.2.2.1))) ((([] : List (List UInt8)), 0, 0, 0) : List (List UInt8) × Int × Int × Int)).bind fun m8 =>
  some (m8.1, m8.2)
noncomputable def M.spec_RecoverJournal (p0 : List UInt8) : Option (List (List UInt8) × Int × Bool) :=
  bif (icmp .gtr ((p0).length : Int) 16000) then
    some ([], 0, false)
  else
    (M.spec_l08Recover p0).bind fun m2 =>
    some (m2.1, m2.2, true)
def M.internal_stringslite_IndexByte_u8n10 (p0 : List UInt8) : Int :=
  (sfind p0 10)
def M.strings_IndexByte_u8n10 (p0 : List UInt8) : Int :=
  letv (M.internal_stringslite_IndexByte_u8n10 p0) fun m1 =>
  m1
noncomputable def M.internal_stringslite_Index_s20 (p0 : List UInt8) : Option Int :=
  bif (([32] : List UInt8) == p0) then
    some 0
  else
    (sidx ([32] : List UInt8) 0).bind fun m4 =>
    letv (M.internal_stringslite_IndexByte p0 m4) fun m5 =>
    some m5
noncomputable def M.internal_stringslite_Cut_s20 (p0 : List UInt8) : Option (List UInt8 × List UInt8 × Bool) :=
  (M.internal_stringslite_Index_s20 p0).bind fun m1 =>
  bif (icmp .geq m1 0) then
    (ssub p0 0 m1).bind fun m6 =>
    (ssub p0 (IntKind.i64.wrap (m1 + 1)) ((p0).length : Int)).bind fun m7 =>
    some (m6, m7, true)
  else
    some (p0, ([] : List UInt8), false)
noncomputable def M.strings_Cut_s20 (p0 : List UInt8) : Option (List UInt8 × List UInt8 × Bool) :=
  (M.internal_stringslite_Cut_s20 p0).bind fun m1 =>
  some (m1.1, m1.2.1, m1.2.2)
noncomputable def M.impl_RecoverJournal (p0 : List UInt8) : Option (List (List UInt8) × Int × Bool) :=
  bif (icmp .gtr ((p0).length : Int) 16000) then
    some ([], 0, false)
  else
    (loopM (fun (s4 : List (List UInt8) × Int × Int) =>
        (ssub p0 s4.2.1 ((p0).length : Int)).bind fun m5 =>
        letv (M.strings_IndexByte_u8n10 m5) fun m6 =>
        bif (icmp .lss m6 0) then
          some (.inr (s4.1, s4.2.1))
        else
          (ssub p0 s4.2.1 (IntKind.i64.wrap (s4.2.1 + m6))).bind fun m11 =>
          (M.strings_Cut_s20 m11).bind fun m12 =>
          (M.impl_CheckOf s4.2.2 m12.2.1).bind fun m16 =>
          (bif (!m12.2.2) then some default else (M.impl_Decimal m16.1)).bind fun m22 =>
          (bif (!m12.2.2) then some default else (scat m22 ([32] : List UInt8))).bind fun m23 =>
          (bif (!m12.2.2) then some default else (scat m23 m12.2.1)).bind fun m24 =>
          (bif (!m12.2.2) then some default else (ssub p0 s4.2.1 (IntKind.i64.wrap (s4.2.1 + m6)))).bind fun m25 =>
          bif (bif (!m12.2.2) then true else (!(m24 == m25))) then
            some (.inr (s4.1, s4.2.1))
          else
            (app 16 s4.1 ([m12.2.1])).bind fun m47 =>
            some (.inl (m47, (IntKind.i64.wrap ((IntKind.i64.wrap (s4.2.1 + m6)) + 1)), m16.1))) ((([] : List (List UInt8)), 0, 0) : List (List UInt8) × Int × Int)).bind fun m4 =>
    some (m4.1, m4.2, true)
noncomputable def M.laws_markText (p0 : Int) : Option (List UInt8) :=
  bif (icmp .leq p0 0) then
    some ([109, 48] : List UInt8)
  else
    (loopM (fun (s2 : Int × List UInt8) =>
        bif (icmp .gtr s2.1 0) then
          (scat (u8s ([(IntKind.u8.wrap (IntKind.i64.wrap (48 + ((s2.1).tmod 10))))])) s2.2).bind fun m6 =>
          some (.inl ((IntKind.i64.wrap ((s2.1).tdiv 10)), m6))
        else
          some (.inr s2.2)) ((p0, ([] : List UInt8)) : Int × List UInt8)).bind fun m2 =>
    (scat ([109] : List UInt8) m2).bind fun m7 =>
    some m7
noncomputable def M.laws_markStringS (p0 : List (List UInt8)) (p1 : Int) : Option (Int × List (List UInt8)) :=
  (loopM (fun (s1 : Int × Int × List (List UInt8)) =>
      bif (icmp .lss s1.2.1 ((s1.2.2).length : Int)) then
        (M.laws_markText s1.1).bind fun m3 =>
        (idx s1.2.2 s1.2.1).bind fun m6 =>
        some (.inl ((IntKind.i64.wrap (s1.1 + 1)), (IntKind.i64.wrap (s1.2.1 + 1)), (s1.2.2.set s1.2.1.toNat m3)))
      else
        some (.inr (s1.1, s1.2.2))) ((p1, 0, p0) : Int × Int × List (List UInt8))).bind fun m1 =>
  some (m1.1, m1.2)
noncomputable def M.laws_heldStringS (p0 : List (List UInt8)) (p1 : Int) : Option Int :=
  (loopM (fun (s1 : Int × Int) =>
      bif (icmp .lss s1.2 ((p0).length : Int)) then
        (idx p0 s1.2).bind fun m5 =>
        (M.laws_markText s1.1).bind fun m6 =>
        bif (!(m5 == m6)) then
          some (.inr (.inr (-1)))
        else
          some (.inl ((IntKind.i64.wrap (s1.1 + 1)), (IntKind.i64.wrap (s1.2 + 1))))
      else
        some (.inr (.inl s1.1))) ((p1, 0) : Int × Int)).bind fun m1 =>
  sel m1 (fun m1 =>
    some m1) (fun m1 =>
    some m1)
noncomputable def M.laws_FnExactRecoverJournal (p0 : List UInt8) : Option Bool :=
  bif (icmp .gtr ((p0).length : Int) 1048576) then
    some true
  else
    (M.spec_RecoverJournal p0).bind fun m2 =>
    (M.impl_RecoverJournal p0).bind fun m6 =>
    (Option.bind (
        (M.laws_eqStringS m6.1 m2.1).bind fun m13 =>
        bif m13 then
          bif (icmp .neq m6.2.1 m2.2.1) then
            some true
          else
            some (!(m6.2.2 == m2.2.2))
        else
          some true) fun m11 =>
    bif m11 then
      some false
    else
      (M.laws_markStringS m6.1 1).bind fun m20 =>
      (M.laws_heldStringS m20.2 1).bind fun m25 =>
      bif (icmp .lss m25 0) then
        some false
      else
        bif (icmp .neq m25 m20.1) then
          some false
        else
          (M.impl_RecoverJournal p0).bind fun m31 =>
          (Option.bind (
              (M.laws_eqStringS m31.1 m2.1).bind fun m42 =>
              bif m42 then
                bif (icmp .neq m31.2.1 m2.2.1) then
                  some true
                else
                  some (!(m31.2.2 == m2.2.2))
              else
                some true) fun m39 =>
          bif m39 then
            some false
          else
            (M.laws_heldStringS m20.2 1).bind fun m49 =>
            bif (icmp .lss m49 0) then
              some false
            else
              bif (icmp .neq m49 m20.1) then
                some false
              else
                some true))
def M.laws_szVectorS (p0 : List SVector) (p1 : Int) : Int :=
  bif (icmp .lss (IntKind.i64.wrap (p1 - ((p0).length : Int))) 0) then
    -1
  else
    (IntKind.i64.wrap (p1 - ((p0).length : Int)))
def M.laws_szFloat32S (p0 : List Nat) (p1 : Int) : Int :=
  bif (icmp .lss (IntKind.i64.wrap (p1 - ((p0).length : Int))) 0) then
    -1
  else
    (IntKind.i64.wrap (p1 - ((p0).length : Int)))
def M.laws_szRodS (p0 : List SRod) (p1 : Int) : Int :=
  bif (icmp .lss (IntKind.i64.wrap (p1 - ((p0).length : Int))) 0) then
    -1
  else
    (IntKind.i64.wrap (p1 - ((p0).length : Int)))
def M.laws_szChain (p0 : SChain) (p1 : Int) : Int :=
  letv (M.laws_szVectorS p0.places p1) fun m4 =>
  bif (icmp .lss m4 0) then
    -1
  else
    letv (M.laws_szVectorS p0.before m4) fun m10 =>
    bif (icmp .lss m10 0) then
      -1
    else
      letv (M.laws_szFloat32S p0.weights m10) fun m16 =>
      bif (icmp .lss m16 0) then
        -1
      else
        letv (M.laws_szRodS p0.rods m16) fun m22 =>
        bif (icmp .lss m22 0) then
          -1
        else
          m22
def M.laws_toVector (p0 : SVector) : SVector :=
  p0
noncomputable def M.laws_toVectorS (p0 : List SVector) : Option (List SVector) :=
  (mkl 12 ((p0).length : Int) ((p0).length : Int) (⟨0, 0, 0⟩ : SVector)).bind fun m1 =>
  (loopM (fun (s4 : Int × List SVector) =>
      bif (icmp .lss s4.1 ((p0).length : Int)) then
        (idx p0 s4.1).bind fun m7 =>
        letv (M.laws_toVector m7) fun m9 =>
        (idx s4.2 s4.1).bind fun m12 =>
        some (.inl ((IntKind.i64.wrap (s4.1 + 1)), (s4.2.set s4.1.toNat m9)))
      else
        some (.inr s4.2)) ((0, m1) : Int × List SVector)).bind fun m4 =>
  some m4
noncomputable def M.laws_toFloat32S (p0 : List Nat) : Option (List Nat) :=
  (mkl 4 ((p0).length : Int) ((p0).length : Int) 0).bind fun m1 =>
  (loopM (fun (s4 : Int × List Nat) =>
      bif (icmp .lss s4.1 ((p0).length : Int)) then
        (idx p0 s4.1).bind fun m7 =>
        (idx s4.2 s4.1).bind fun m9 =>
        some (.inl ((IntKind.i64.wrap (s4.1 + 1)), (s4.2.set s4.1.toNat m7)))
      else
        some (.inr s4.2)) ((0, m1) : Int × List Nat)).bind fun m4 =>
  some m4
def M.laws_toRod (p0 : SRod) : SRod :=
  p0
noncomputable def M.laws_toRodS (p0 : List SRod) : Option (List SRod) :=
  (mkl 24 ((p0).length : Int) ((p0).length : Int) (⟨0, 0, 0⟩ : SRod)).bind fun m1 =>
  (loopM (fun (s4 : Int × List SRod) =>
      bif (icmp .lss s4.1 ((p0).length : Int)) then
        (idx p0 s4.1).bind fun m7 =>
        letv (M.laws_toRod m7) fun m9 =>
        (idx s4.2 s4.1).bind fun m12 =>
        some (.inl ((IntKind.i64.wrap (s4.1 + 1)), (s4.2.set s4.1.toNat m9)))
      else
        some (.inr s4.2)) ((0, m1) : Int × List SRod)).bind fun m4 =>
  some m4
noncomputable def M.laws_toChain (p0 : SChain) : Option SChain :=
  (M.laws_toVectorS p0.places).bind fun m15 =>
  (M.laws_toVectorS p0.before).bind fun m29 =>
  (M.laws_toFloat32S p0.weights).bind fun m45 =>
  (M.laws_toRodS p0.rods).bind fun m63 =>
  some (⟨m15, m29, m45, m63⟩ : SChain)
def M.spec_l03Least (p0 : Nat) : Bool :=
  letv (
      letv (M.spec_l01Finite p0) fun m2 =>
      bif m2 then
        (fcmp .geq .f32 p0 0)
      else
        false) fun m1 =>
  m1
def M.spec_l00In (p0 : Int) (p1 : Int) (p2 : Int) : Bool :=
  letv (
      bif (icmp .geq p0 p1) then
        (icmp .leq p0 p2)
      else
        false) fun m1 =>
  m1
noncomputable def M.spec_l03Is (p0 : SChain) : Option Bool :=
  letv (
      bif (icmp .gtr ((p0.places).length : Int) 24) then
        true
      else
        bif (icmp .neq ((p0.before).length : Int) ((p0.places).length : Int)) then
          true
        else
          bif (icmp .neq ((p0.weights).length : Int) ((p0.places).length : Int)) then
            true
          else
            (icmp .gtr ((p0.rods).length : Int) 40)) fun m1 =>
  bif m1 then
    some false
  else
    (loopM (fun (s9 : Int) =>
        bif (icmp .lss s9 ((p0.places).length : Int)) then
          (Option.bind (
              (idx p0.places s9).bind fun m13 =>
              letv (M.spec_l01VFinite m13) fun m16 =>
              bif m16 then
                (idx p0.before s9).bind fun m21 =>
                letv (M.spec_l01VFinite m21) fun m24 =>
                bif m24 then
                  (idx p0.weights s9).bind fun m30 =>
                  letv (M.spec_l03Least m30) fun m33 =>
                  some (!m33)
                else
                  some true
              else
                some true) fun m11 =>
          bif m11 then
            some (.inr (.inr false))
          else
            some (.inl (IntKind.i64.wrap (s9 + 1))))
        else
          some (.inr (.inl ()))) (0 : Int)).bind fun m9 =>
    sel m9 (fun m9 =>
      (loopM (fun (s42 : Int) =>
          bif (icmp .lss s42 ((p0.rods).length : Int)) then
            (idx p0.rods s42).bind fun m45 =>
            letv (
                letv (M.spec_l00In m45.a 0 (IntKind.i64.wrap (((p0.places).length : Int) - 1))) fun m56 =>
                bif m56 then
                  letv (M.spec_l00In m45.b 0 (IntKind.i64.wrap (((p0.places).length : Int) - 1))) fun m61 =>
                  bif m61 then
                    bif (icmp .eql m45.a m45.b) then
                      true
                    else
                      letv (M.spec_l03Least m45.long) fun m67 =>
                      (!m67)
                  else
                    true
                else
                  true) fun m55 =>
            bif m55 then
              some (.inr (.inr false))
            else
              some (.inl (IntKind.i64.wrap (s42 + 1)))
          else
            some (.inr (.inl ()))) (0 : Int)).bind fun m42 =>
      sel m42 (fun m42 =>
        some true) (fun m42 =>
        some m42)) (fun m9 =>
      some m9)
noncomputable def M.spec_l01Hex (p0 : Nat) : Option (List UInt8) :=
  letv (M.spec_l01Bits p0) fun m1 =>
  (sidx ([48, 49, 50, 51, 52, 53, 54, 55, 56, 57, 97, 98, 99, 100, 101, 102] : List UInt8) (iand .i64 ((m1).fdiv (2 ^ 28)) 15)).bind fun m6 =>
  (app 1 ([] : List Int) ([m6])).bind fun m10 =>
  (sidx ([48, 49, 50, 51, 52, 53, 54, 55, 56, 57, 97, 98, 99, 100, 101, 102] : List UInt8) (iand .i64 ((m1).fdiv (2 ^ 24)) 15)).bind fun m15 =>
  (app 1 m10 ([m15])).bind fun m19 =>
  (sidx ([48, 49, 50, 51, 52, 53, 54, 55, 56, 57, 97, 98, 99, 100, 101, 102] : List UInt8) (iand .i64 ((m1).fdiv (2 ^ 20)) 15)).bind fun m24 =>
  (app 1 m19 ([m24])).bind fun m28 =>
  (sidx ([48, 49, 50, 51, 52, 53, 54, 55, 56, 57, 97, 98, 99, 100, 101, 102] : List UInt8) (iand .i64 ((m1).fdiv (2 ^ 16)) 15)).bind fun m33 =>
  (app 1 m28 ([m33])).bind fun m37 =>
  (sidx ([48, 49, 50, 51, 52, 53, 54, 55, 56, 57, 97, 98, 99, 100, 101, 102] : List UInt8) (iand .i64 ((m1).fdiv (2 ^ 12)) 15)).bind fun m42 =>
  (app 1 m37 ([m42])).bind fun m46 =>
  (sidx ([48, 49, 50, 51, 52, 53, 54, 55, 56, 57, 97, 98, 99, 100, 101, 102] : List UInt8) (iand .i64 ((m1).fdiv (2 ^ 8)) 15)).bind fun m51 =>
  (app 1 m46 ([m51])).bind fun m55 =>
  (sidx ([48, 49, 50, 51, 52, 53, 54, 55, 56, 57, 97, 98, 99, 100, 101, 102] : List UInt8) (iand .i64 ((m1).fdiv (2 ^ 4)) 15)).bind fun m60 =>
  (app 1 m55 ([m60])).bind fun m64 =>
  (sidx ([48, 49, 50, 51, 52, 53, 54, 55, 56, 57, 97, 98, 99, 100, 101, 102] : List UInt8) (iand .i64 ((m1).fdiv (2 ^ 0)) 15)).bind fun m69 =>
  (app 1 m64 ([m69])).bind fun m73 =>
  some (u8s m73)
noncomputable def M.spec_l01NText (p0 : List Nat) : Option (List UInt8) :=
  bif (icmp .eql ((p0).length : Int) 0) then
    some ([110, 111, 110, 101] : List UInt8)
  else
    (idx p0 0).bind fun m2 =>
    (M.spec_l01Hex m2).bind fun m4 =>
    (loopM (fun (s7 : List UInt8 × Int) =>
        bif (icmp .lss s7.2 ((p0).length : Int)) then
          (idx p0 s7.2).bind fun m10 =>
          (M.spec_l01Hex m10).bind fun m12 =>
          (scat ([44] : List UInt8) m12).bind fun m15 =>
          (scat s7.1 m15).bind fun m16 =>
          some (.inl (m16, (IntKind.i64.wrap (s7.2 + 1))))
        else
          some (.inr s7.1)) ((m4, 1) : List UInt8 × Int)).bind fun m7 =>
    some m7
noncomputable def M.spec_l01VText (p0 : SVector) : Option (List UInt8) :=
  (M.spec_l01NText ([p0.x, p0.y, p0.z])).bind fun m7 =>
  some m7
noncomputable def M.spec_l08Vectors (p0 : List SVector) : Option (List UInt8) :=
  bif (icmp .eql ((p0).length : Int) 0) then
    some ([110, 111, 110, 101] : List UInt8)
  else
    (idx p0 0).bind fun m2 =>
    (M.spec_l01VText (⟨m2.x, m2.y, m2.z⟩ : SVector)).bind fun m4 =>
    (loopM (fun (s7 : List UInt8 × Int) =>
        bif (icmp .lss s7.2 ((p0).length : Int)) then
          (idx p0 s7.2).bind fun m10 =>
          (M.spec_l01VText m10).bind fun m12 =>
          (scat ([47] : List UInt8) m12).bind fun m15 =>
          (scat s7.1 m15).bind fun m16 =>
          some (.inl (m16, (IntKind.i64.wrap (s7.2 + 1))))
        else
          some (.inr s7.1)) ((m4, 1) : List UInt8 × Int)).bind fun m7 =>
    some m7
noncomputable def M.spec_l01Text (p0 : List Int) : Option (List UInt8) :=
  bif (icmp .eql ((p0).length : Int) 0) then
    some ([110, 111, 110, 101] : List UInt8)
  else
    (idx p0 0).bind fun m2 =>
    (M.spec_l01Dec m2).bind fun m4 =>
    (loopM (fun (s7 : List UInt8 × Int) =>
        bif (icmp .lss s7.2 ((p0).length : Int)) then
          (idx p0 s7.2).bind fun m10 =>
          (M.spec_l01Dec m10).bind fun m12 =>
          (scat ([44] : List UInt8) m12).bind fun m15 =>
          (scat s7.1 m15).bind fun m16 =>
          some (.inl (m16, (IntKind.i64.wrap (s7.2 + 1))))
        else
          some (.inr s7.1)) ((m4, 1) : List UInt8 × Int)).bind fun m7 =>
    some m7
noncomputable def M.spec_l08Rods (p0 : List SRod) : Option (List UInt8) :=
  bif (icmp .eql ((p0).length : Int) 0) then
    some ([110, 111, 110, 101] : List UInt8)
  else
    (loopM (fun (s2 : List UInt8 × Int) =>
        bif (icmp .lss s2.2 ((p0).length : Int)) then
          bif (icmp .gtr s2.2 0) then
            (scat s2.1 ([47] : List UInt8)).bind fun m6 =>
            (idx p0 s2.2).bind fun m8 =>
            (idx p0 s2.2).bind fun m9 =>
            (M.spec_l01Text ([m8.a, m9.b])).bind fun m10 =>
            (scat m10 ([58] : List UInt8)).bind fun m11 =>
            (idx p0 s2.2).bind fun m12 =>
            (M.spec_l01NText ([m12.long])).bind fun m13 =>
            (scat m11 m13).bind fun m14 =>
            (scat m6 m14).bind fun m15 =>
            some (.inl (m15, (IntKind.i64.wrap (s2.2 + 1))))
          else
            (idx p0 s2.2).bind fun m41 =>
            (idx p0 s2.2).bind fun m42 =>
            (M.spec_l01Text ([m41.a, m42.b])).bind fun m43 =>
            (scat m43 ([58] : List UInt8)).bind fun m44 =>
            (idx p0 s2.2).bind fun m45 =>
            (M.spec_l01NText ([m45.long])).bind fun m46 =>
            (scat m44 m46).bind fun m47 =>
            (scat s2.1 m47).bind fun m48 =>
            some (.inl (m48, (IntKind.i64.wrap (s2.2 + 1))))
        else
          some (.inr s2.1)) ((([] : List UInt8), 0) : List UInt8 × Int)).bind fun m2 =>
    some m2
noncomputable def M.spec_l08Chain (p0 : SChain) : Option (List UInt8) :=
  (M.spec_l08Vectors p0.places).bind fun m2 =>
  (scat m2 ([59] : List UInt8)).bind fun m3 =>
  (M.spec_l08Vectors p0.before).bind fun m4 =>
  (scat m3 m4).bind fun m5 =>
  (scat m5 ([59] : List UInt8)).bind fun m6 =>
  (M.spec_l01NText p0.weights).bind fun m7 =>
  (scat m6 m7).bind fun m8 =>
  (scat m8 ([59] : List UInt8)).bind fun m9 =>
  (M.spec_l08Rods p0.rods).bind fun m10 =>
  (scat m9 m10).bind fun m11 =>
  some m11
noncomputable def M.spec_ChainText (p0 : SChain) : Option (List UInt8 × Bool) :=
  (M.spec_l03Is p0).bind fun m4 =>
  bif (!m4) then
    some (([] : List UInt8), false)
  else
    (M.spec_l08Chain (⟨p0.places, p0.before, p0.weights, p0.rods⟩ : SChain)).bind fun m12 =>
    some (m12, true)
noncomputable def M.impl_badVector (p0 : SVector) : Option Bool :=
  (M.impl_finiteVector p0).bind fun m4 =>
  some (!m4)
noncomputable def M.slices_IndexFunc___impl_Vector_impl_Vector__f141 (p0 : List SVector) : Option Int :=
  (loopM (fun (s1 : Int) =>
      bif (icmp .lss s1 ((p0).length : Int)) then
        (idx p0 s1).bind fun m3 =>
        (M.impl_badVector m3).bind fun m6 =>
        bif m6 then
          some (.inr (.inr s1))
        else
          some (.inl (IntKind.i64.wrap (s1 + 1)))
      else
        some (.inr (.inl ()))) (0 : Int)).bind fun m1 =>
  sel m1 (fun m1 =>
    some (-1)) (fun m1 =>
    some m1)
noncomputable def M.slices_ContainsFunc___impl_Vector_impl_Vector__f141 (p0 : List SVector) : Option Bool :=
  (M.slices_IndexFunc___impl_Vector_impl_Vector__f141 p0).bind fun m1 =>
  some (icmp .geq m1 0)
def M.impl_levelOk (p0 : Nat) : Bool :=
  letv (
      letv (M.impl_IsFinite p0) fun m2 =>
      bif m2 then
        (fcmp .geq .f32 p0 0)
      else
        false) fun m1 =>
  m1
def M.impl_badLevel (p0 : Nat) : Bool :=
  letv (M.impl_levelOk p0) fun m1 =>
  (!m1)
noncomputable def M.slices_IndexFunc___float32_float32__f143 (p0 : List Nat) : Option Int :=
  (loopM (fun (s1 : Int) =>
      bif (icmp .lss s1 ((p0).length : Int)) then
        (idx p0 s1).bind fun m3 =>
        letv (M.impl_badLevel m3) fun m6 =>
        bif m6 then
          some (.inr (.inr s1))
        else
          some (.inl (IntKind.i64.wrap (s1 + 1)))
      else
        some (.inr (.inl ()))) (0 : Int)).bind fun m1 =>
  sel m1 (fun m1 =>
    some (-1)) (fun m1 =>
    some m1)
noncomputable def M.slices_ContainsFunc___float32_float32__f143 (p0 : List Nat) : Option Bool :=
  (M.slices_IndexFunc___float32_float32__f143 p0).bind fun m1 =>
  some (icmp .geq m1 0)
def M.impl_Chain_rodOk (p0 : SChain) (p1 : SRod) : Bool :=
  letv (
      letv (M.impl_in p1.a 0 (IntKind.i64.wrap (((p0.places).length : Int) - 1))) fun m7 =>
      bif m7 then
        letv (M.impl_in p1.b 0 (IntKind.i64.wrap (((p0.places).length : Int) - 1))) fun m12 =>
        bif m12 then
          bif (icmp .neq p1.a p1.b) then
            letv (M.impl_levelOk p1.long) fun m18 =>
            m18
          else
            false
        else
          false
      else
        false) fun m6 =>
  m6
def M.impl_ValidChain_1 (p0 : SRod) (p1 : SChain) : Bool :=
  letv (M.impl_Chain_rodOk (⟨p1.places, p1.before, p1.weights, p1.rods⟩ : SChain) (⟨p0.a, p0.b, p0.long⟩ : SRod)) fun m4 =>
  (!m4)
noncomputable def M.slices_IndexFunc___impl_Rod_impl_Rod__f145 (p0 : List SRod) (p1c0 : SChain) : Option Int :=
  (loopM (fun (s1 : Int) =>
      bif (icmp .lss s1 ((p0).length : Int)) then
        (idx p0 s1).bind fun m3 =>
        letv (M.impl_ValidChain_1 m3 p1c0) fun m6 =>
        bif m6 then
          some (.inr (.inr s1))
        else
          some (.inl (IntKind.i64.wrap (s1 + 1)))
      else
        some (.inr (.inl ()))) (0 : Int)).bind fun m1 =>
  sel m1 (fun m1 =>
    some (-1)) (fun m1 =>
    some m1)
noncomputable def M.slices_ContainsFunc___impl_Rod_impl_Rod__f145 (p0 : List SRod) (p1c0 : SChain) : Option Bool :=
  (M.slices_IndexFunc___impl_Rod_impl_Rod__f145 p0 p1c0).bind fun m1 =>
  some (icmp .geq m1 0)
noncomputable def M.impl_ValidChain (p0 : SChain) : Option Bool :=
  letv (
      bif (icmp .gtr ((p0.places).length : Int) 24) then
        true
      else
        bif (icmp .neq ((p0.before).length : Int) ((p0.places).length : Int)) then
          true
        else
          bif (icmp .neq ((p0.weights).length : Int) ((p0.places).length : Int)) then
            true
          else
            (icmp .gtr ((p0.rods).length : Int) 40)) fun m5 =>
  bif m5 then
    some false
  else
    (Option.bind (
        (M.slices_ContainsFunc___impl_Vector_impl_Vector__f141 p0.places).bind fun m16 =>
        bif m16 then
          some true
        else
          (M.slices_ContainsFunc___impl_Vector_impl_Vector__f141 p0.before).bind fun m22 =>
          bif m22 then
            some true
          else
            (M.slices_ContainsFunc___float32_float32__f143 p0.weights).bind fun m28 =>
            some m28) fun m14 =>
    bif m14 then
      some false
    else
      (M.slices_ContainsFunc___impl_Rod_impl_Rod__f145 p0.rods (⟨p0.places, p0.before, p0.weights, p0.rods⟩ : SChain)).bind fun m35 =>
      some (!m35))
noncomputable def M.impl_joined (p0 : List (List UInt8)) : Option (List UInt8) :=
  bif (icmp .eql ((p0).length : Int) 0) then
    some ([110, 111, 110, 101] : List UInt8)
  else
    (sjoin p0 ([44] : List UInt8)).bind fun m3 =>
    some m3
noncomputable def M.impl_ListText (p0 : List Int) : Option (List UInt8 × Bool) :=
  (loopM (fun (s4 : List (List UInt8) × Int) =>
      bif (icmp .lss s4.2 ((p0).length : Int)) then
        (idx p0 s4.2).bind fun m6 =>
        letv (
            letv (M.impl_in m6 (-1000000000000000) 1000000000000000) fun m10 =>
            bif m10 then
              (icmp .eql ((s4.1).length : Int) 64)
            else
              true) fun m9 =>
        bif m9 then
          some (.inr (.inr (([] : List UInt8), false)))
        else
          (M.impl_Decimal m6).bind fun m17 =>
          (app 16 s4.1 ([m17])).bind fun m25 =>
          some (.inl (m25, (IntKind.i64.wrap (s4.2 + 1))))
      else
        some (.inr (.inl s4.1))) ((([] : List (List UInt8)), 0) : List (List UInt8) × Int)).bind fun m4 =>
  sel m4 (fun m4 =>
    (M.impl_joined m4).bind fun m30 =>
    some (m30, true)) (fun m4 =>
    some (m4.1, m4.2))
def M.impl_listOk (p0 : List Nat) : Bool :=
  (icmp .leq ((p0).length : Int) 256)
noncomputable def M.impl_NumbersText (p0 : List Nat) : Option (List UInt8 × Bool) :=
  letv (M.impl_listOk p0) fun m1 =>
  bif (!m1) then
    some (([] : List UInt8), false)
  else
    (loopM (fun (s8 : List (List UInt8) × Int) =>
        bif (icmp .lss s8.2 ((p0).length : Int)) then
          (idx p0 s8.2).bind fun m10 =>
          letv (M.impl_BitsOf m10) fun m16 =>
          (sidx ([48, 49, 50, 51, 52, 53, 54, 55, 56, 57, 97, 98, 99, 100, 101, 102] : List UInt8) (iand .i64 ((m16).fdiv (2 ^ 28)) 15)).bind fun m20 =>
          (app 1 ([] : List Int) ([m20])).bind fun m27 =>
          letv (M.impl_BitsOf m10) fun m34 =>
          (sidx ([48, 49, 50, 51, 52, 53, 54, 55, 56, 57, 97, 98, 99, 100, 101, 102] : List UInt8) (iand .i64 ((m34).fdiv (2 ^ 24)) 15)).bind fun m38 =>
          (app 1 m27 ([m38])).bind fun m45 =>
          letv (M.impl_BitsOf m10) fun m52 =>
          (sidx ([48, 49, 50, 51, 52, 53, 54, 55, 56, 57, 97, 98, 99, 100, 101, 102] : List UInt8) (iand .i64 ((m52).fdiv (2 ^ 20)) 15)).bind fun m56 =>
          (app 1 m45 ([m56])).bind fun m63 =>
          letv (M.impl_BitsOf m10) fun m70 =>
          (sidx ([48, 49, 50, 51, 52, 53, 54, 55, 56, 57, 97, 98, 99, 100, 101, 102] : List UInt8) (iand .i64 ((m70).fdiv (2 ^ 16)) 15)).bind fun m74 =>
          (app 1 m63 ([m74])).bind fun m81 =>
          letv (M.impl_BitsOf m10) fun m88 =>
          (sidx ([48, 49, 50, 51, 52, 53, 54, 55, 56, 57, 97, 98, 99, 100, 101, 102] : List UInt8) (iand .i64 ((m88).fdiv (2 ^ 12)) 15)).bind fun m92 =>
          (app 1 m81 ([m92])).bind fun m99 =>
          letv (M.impl_BitsOf m10) fun m106 =>
          (sidx ([48, 49, 50, 51, 52, 53, 54, 55, 56, 57, 97, 98, 99, 100, 101, 102] : List UInt8) (iand .i64 ((m106).fdiv (2 ^ 8)) 15)).bind fun m110 =>
          (app 1 m99 ([m110])).bind fun m117 =>
          letv (M.impl_BitsOf m10) fun m124 =>
          (sidx ([48, 49, 50, 51, 52, 53, 54, 55, 56, 57, 97, 98, 99, 100, 101, 102] : List UInt8) (iand .i64 ((m124).fdiv (2 ^ 4)) 15)).bind fun m128 =>
          (app 1 m117 ([m128])).bind fun m135 =>
          letv (M.impl_BitsOf m10) fun m142 =>
          (sidx ([48, 49, 50, 51, 52, 53, 54, 55, 56, 57, 97, 98, 99, 100, 101, 102] : List UInt8) (iand .i64 ((m142).fdiv (2 ^ 0)) 15)).bind fun m146 =>
          (app 1 m135 ([m146])).bind fun m153 =>
          (app 16 s8.1 ([(u8s m153)])).bind fun m165 =>
          some (.inl (m165, (IntKind.i64.wrap (s8.2 + 1))))
        else
          some (.inr s8.1)) ((([] : List (List UInt8)), 0) : List (List UInt8) × Int)).bind fun m8 =>
    (M.impl_joined m8).bind fun m172 =>
    some (m172, true)
noncomputable def M.impl_numbersText (p0 : List Nat) : Option (List UInt8) :=
  (M.impl_NumbersText p0).bind fun m1 =>
  some m1.1
def M.impl_Vector_numbers (p0 : SVector) : List Nat :=
  [p0.x, p0.y, p0.z]
noncomputable def M.impl_VectorText (p0 : SVector) : Option (List UInt8) :=
  letv (M.impl_Vector_numbers p0) fun m4 =>
  (M.impl_NumbersText m4).bind fun m9 =>
  some m9.1
noncomputable def M.impl_joinedBy (p0 : List (List UInt8)) : Option (List UInt8) :=
  bif (icmp .eql ((p0).length : Int) 0) then
    some ([110, 111, 110, 101] : List UInt8)
  else
    (sjoin p0 ([47] : List UInt8)).bind fun m3 =>
    some m3
noncomputable def M.impl_vectorsText (p0 : List SVector) : Option (List UInt8) :=
  (loopM (fun (s4 : List (List UInt8) × Int) =>
      bif (icmp .lss s4.2 ((p0).length : Int)) then
        (idx p0 s4.2).bind fun m6 =>
        (M.impl_VectorText m6).bind fun m17 =>
        (app 16 s4.1 ([m17])).bind fun m27 =>
        some (.inl (m27, (IntKind.i64.wrap (s4.2 + 1))))
      else
        some (.inr s4.1)) ((([] : List (List UInt8)), 0) : List (List UInt8) × Int)).bind fun m4 =>
  (M.impl_joinedBy m4).bind fun m34 =>
  some m34
noncomputable def M.impl_ChainText (p0 : SChain) : Option (List UInt8 × Bool) :=
  (M.impl_ValidChain p0).bind fun m4 =>
  bif (!m4) then
    some (([] : List UInt8), false)
  else
    (loopM (fun (s18 : List (List UInt8) × Int) =>
        bif (icmp .lss s18.2 ((p0.rods).length : Int)) then
          (idx p0.rods s18.2).bind fun m20 =>
          (M.impl_ListText ([m20.a, m20.b])).bind fun m39 =>
          (scat m39.1 ([58] : List UInt8)).bind fun m45 =>
          (M.impl_numbersText ([m20.long])).bind fun m54 =>
          (scat m45 m54).bind fun m60 =>
          (app 16 s18.1 ([m60])).bind fun m71 =>
          some (.inl (m71, (IntKind.i64.wrap (s18.2 + 1))))
        else
          some (.inr s18.1)) ((([] : List (List UInt8)), 0) : List (List UInt8) × Int)).bind fun m18 =>
    (M.impl_vectorsText p0.places).bind fun m88 =>
    (M.impl_vectorsText p0.before).bind fun m89 =>
    (M.impl_numbersText p0.weights).bind fun m90 =>
    (M.impl_joinedBy m18).bind fun m91 =>
    (sjoin ([m88, m89, m90, m91]) ([59] : List UInt8)).bind fun m92 =>
    some (m92, true)
noncomputable def M.laws_eqVectorS (p0 : List SVector) (p1 : List SVector) : Option Bool :=
  bif (icmp .neq ((p0).length : Int) ((p1).length : Int)) then
    some false
  else
    (loopM (fun (s2 : Int) =>
        bif (icmp .lss s2 ((p0).length : Int)) then
          (idx p0 s2).bind fun m7 =>
          (idx p1 s2).bind fun m8 =>
          letv (M.laws_eqVector m7 m8) fun m9 =>
          bif (!m9) then
            some (.inr (.inr false))
          else
            some (.inl (IntKind.i64.wrap (s2 + 1)))
        else
          some (.inr (.inl ()))) (0 : Int)).bind fun m2 =>
    sel m2 (fun m2 =>
      some true) (fun m2 =>
      some m2)
noncomputable def M.laws_eqFloat32S (p0 : List Nat) (p1 : List Nat) : Option Bool :=
  bif (icmp .neq ((p0).length : Int) ((p1).length : Int)) then
    some false
  else
    (loopM (fun (s2 : Int) =>
        bif (icmp .lss s2 ((p0).length : Int)) then
          (idx p0 s2).bind fun m7 =>
          (idx p1 s2).bind fun m8 =>
          letv (M.laws_sameFloat (widen m7) (widen m8)) fun m9 =>
          bif (!m9) then
            some (.inr (.inr false))
          else
            some (.inl (IntKind.i64.wrap (s2 + 1)))
        else
          some (.inr (.inl ()))) (0 : Int)).bind fun m2 =>
    sel m2 (fun m2 =>
      some true) (fun m2 =>
      some m2)
def M.laws_eqRod (p0 : SRod) (p1 : SRod) : Bool :=
  bif (icmp .neq p0.a p1.a) then
    false
  else
    bif (icmp .neq p0.b p1.b) then
      false
    else
      letv (M.laws_sameFloat (widen p0.long) (widen p1.long)) fun m16 =>
      bif (!m16) then
        false
      else
        true
noncomputable def M.laws_eqRodS (p0 : List SRod) (p1 : List SRod) : Option Bool :=
  bif (icmp .neq ((p0).length : Int) ((p1).length : Int)) then
    some false
  else
    (loopM (fun (s2 : Int) =>
        bif (icmp .lss s2 ((p0).length : Int)) then
          (idx p0 s2).bind fun m7 =>
          (idx p1 s2).bind fun m8 =>
          letv (M.laws_eqRod m7 m8) fun m9 =>
          bif (!m9) then
            some (.inr (.inr false))
          else
            some (.inl (IntKind.i64.wrap (s2 + 1)))
        else
          some (.inr (.inl ()))) (0 : Int)).bind fun m2 =>
    sel m2 (fun m2 =>
      some true) (fun m2 =>
      some m2)
noncomputable def M.laws_eqChain (p0 : SChain) (p1 : SChain) : Option Bool :=
  (M.laws_eqVectorS p0.places p1.places).bind fun m9 =>
  bif (!m9) then
    some false
  else
    (M.laws_eqVectorS p0.before p1.before).bind fun m17 =>
    bif (!m17) then
      some false
    else
      (M.laws_eqFloat32S p0.weights p1.weights).bind fun m25 =>
      bif (!m25) then
        some false
      else
        (M.laws_eqRodS p0.rods p1.rods).bind fun m33 =>
        bif (!m33) then
          some false
        else
          some true
noncomputable def M.laws_FnExactChainText (p0 : SChain) : Option Bool :=
  letv (M.laws_szChain p0 1048576) fun m4 =>
  bif (icmp .lss m4 0) then
    some true
  else
    (M.laws_toChain p0).bind fun m13 =>
    (M.spec_ChainText m13).bind fun m28 =>
    (M.laws_toChain (⟨p0.places, p0.before, p0.weights, p0.rods⟩ : SChain)).bind fun m33 =>
    (M.impl_ChainText (⟨m33.places, m33.before, m33.weights, m33.rods⟩ : SChain)).bind fun m60 =>
    letv (
        bif (m60.1 == m28.1) then
          (!(m60.2 == m28.2))
        else
          true) fun m68 =>
    bif m68 then
      some false
    else
      (M.laws_toChain (⟨p0.places, p0.before, p0.weights, p0.rods⟩ : SChain)).bind fun m89 =>
      (M.laws_eqChain (⟨m33.places, m33.before, m33.weights, m33.rods⟩ : SChain) m89).bind fun m90 =>
      bif (!m90) then
        some false
      else
        some true
def M.laws_b10Long (p0 : List Int) (p1 : List Int) : Bool :=
  letv (
      bif (icmp .gtr ((p0).length : Int) 1048576) then
        true
      else
        (icmp .gtr ((p1).length : Int) 1048576)) fun m1 =>
  m1
noncomputable def M.laws_b10At (p0 : List Int) (p1 : Int) (p2 : Int) : Option Int :=
  bif (icmp .leq p2 1) then
    some 0
  else
    bif (icmp .lss p1 ((p0).length : Int)) then
      (idx p0 p1).bind fun m3 =>
      (irem (IntKind.i64.wrap m3) p2).bind fun m5 =>
      some m5
    else
      (irem (IntKind.i64.wrap ((IntKind.i64.wrap (p1 * 37)) + 11)) p2).bind fun m6 =>
      some m6
def M.spec_l00From (p0 : List Int) : Sl00Src :=
  (⟨p0, 0, 0⟩ : Sl00Src)
noncomputable def M.spec_l00Src_next (p0 : Sl00Src) : Option (Int × Sl00Src) :=
  bif (icmp .lss p0.at_ ((p0.code).length : Int)) then
    (idx p0.code p0.at_).bind fun m16 =>
    bif (icmp .leq (IntKind.i64.wrap (p0.at_ + 1)) ((p0.code).length : Int)) then
      some ((IntKind.i64.wrap m16), (⟨p0.code, (IntKind.i64.wrap (p0.at_ + 1)), (IntKind.u64.wrap ((IntKind.u64.wrap ((IntKind.u64.wrap (p0.seed * 6364136223846793005)) + (IntKind.u64.wrap (IntKind.i64.wrap m16)))) + 1442695040888963407))⟩ : Sl00Src))
    else
      some ((IntKind.i64.wrap (iand .u64 (((IntKind.u64.wrap ((IntKind.u64.wrap ((IntKind.u64.wrap (p0.seed * 6364136223846793005)) + (IntKind.u64.wrap (IntKind.i64.wrap m16)))) + 1442695040888963407))).fdiv (2 ^ 40)) 255)), (⟨p0.code, (IntKind.i64.wrap (p0.at_ + 1)), (IntKind.u64.wrap ((IntKind.u64.wrap ((IntKind.u64.wrap (p0.seed * 6364136223846793005)) + (IntKind.u64.wrap (IntKind.i64.wrap m16)))) + 1442695040888963407))⟩ : Sl00Src))
  else
    bif (icmp .leq (IntKind.i64.wrap (p0.at_ + 1)) ((p0.code).length : Int)) then
      some (0, (⟨p0.code, (IntKind.i64.wrap (p0.at_ + 1)), (IntKind.u64.wrap ((IntKind.u64.wrap ((IntKind.u64.wrap (p0.seed * 6364136223846793005)) + 0)) + 1442695040888963407))⟩ : Sl00Src))
    else
      some ((IntKind.i64.wrap (iand .u64 (((IntKind.u64.wrap ((IntKind.u64.wrap ((IntKind.u64.wrap (p0.seed * 6364136223846793005)) + 0)) + 1442695040888963407))).fdiv (2 ^ 40)) 255)), (⟨p0.code, (IntKind.i64.wrap (p0.at_ + 1)), (IntKind.u64.wrap ((IntKind.u64.wrap ((IntKind.u64.wrap (p0.seed * 6364136223846793005)) + 0)) + 1442695040888963407))⟩ : Sl00Src))
noncomputable def M.spec_l00Src_pick (p0 : Sl00Src) (p1 : Int) : Option (Int × Sl00Src) :=
  bif (icmp .leq p1 1) then
    some (0, p0)
  else
    (M.spec_l00Src_next p0).bind fun m2 =>
    bif (icmp .gtr p1 200) then
      (M.spec_l00Src_next (⟨p0.code, m2.2.at_, m2.2.seed⟩ : Sl00Src)).bind fun m6 =>
      (irem (IntKind.i64.wrap ((IntKind.i64.wrap (m2.1 * 256)) + m6.1)) p1).bind fun m10 =>
      some (m10, (⟨p0.code, m6.2.at_, m6.2.seed⟩ : Sl00Src))
    else
      (irem m2.1 p1).bind fun m11 =>
      some (m11, (⟨p0.code, m2.2.at_, m2.2.seed⟩ : Sl00Src))
noncomputable def M.spec_l00Src_one (p0 : Sl00Src) (p1 : Int) : Option (Bool × Sl00Src) :=
  (M.spec_l00Src_pick p0 p1).bind fun m1 =>
  some ((icmp .eql m1.1 0), (⟨p0.code, m1.2.at_, m1.2.seed⟩ : Sl00Src))
noncomputable def M.spec_l01DrawPlain (p0 : Sl00Src) : Option (Nat × Sl00Src) :=
  (M.spec_l00Src_pick p0 129).bind fun m1 =>
  (M.spec_l00Src_one (⟨p0.code, m1.2.at_, m1.2.seed⟩ : Sl00Src) 4).bind fun m4 =>
  bif m4.1 then
    some ((fop .quo .f32 (fint .f32 (IntKind.i64.wrap (m1.1 - 64))) 1088421888), (⟨p0.code, m4.2.at_, m4.2.seed⟩ : Sl00Src))
  else
    some ((fop .quo .f32 (fint .f32 (IntKind.i64.wrap (m1.1 - 64))) 1098907648), (⟨p0.code, m4.2.at_, m4.2.seed⟩ : Sl00Src))
noncomputable def M.spec_l00Src_among (p0 : Sl00Src) (p1 : List Int) : Option (Int × Sl00Src) :=
  (M.spec_l00Src_pick p0 ((p1).length : Int)).bind fun m1 =>
  (idx p1 m1.1).bind fun m4 =>
  some (m4, (⟨p0.code, m1.2.at_, m1.2.seed⟩ : Sl00Src))
noncomputable def M.spec_l01DrawFloat (p0 : Sl00Src) : Option (Nat × Sl00Src) :=
  (M.spec_l00Src_one p0 12).bind fun m1 =>
  bif (!m1.1) then
    (M.spec_l01DrawPlain (⟨p0.code, m1.2.at_, m1.2.seed⟩ : Sl00Src)).bind fun m5 =>
    some (m5.1, (⟨p0.code, m5.2.at_, m5.2.seed⟩ : Sl00Src))
  else
    (M.spec_l00Src_pick (⟨p0.code, m1.2.at_, m1.2.seed⟩ : Sl00Src) 4).bind fun m9 =>
    bif (icmp .eql m9.1 0) then
      (M.spec_l00Src_among (⟨p0.code, m9.2.at_, m9.2.seed⟩ : Sl00Src) ([0, 2147483648, 2139095040, 4286578688, 2143289344, 1, 2139095039, 8388608, 8388607, 2147483649])).bind fun m17 =>
      letv (M.spec_l01From m17.1) fun m22 =>
      some (m22, (⟨p0.code, m17.2.at_, m17.2.seed⟩ : Sl00Src))
    else
      bif (icmp .eql m9.1 1) then
        (M.spec_l00Src_pick (⟨p0.code, m9.2.at_, m9.2.seed⟩ : Sl00Src) 65536).bind fun m28 =>
        (M.spec_l00Src_pick (⟨p0.code, m28.2.at_, m28.2.seed⟩ : Sl00Src) 65536).bind fun m32 =>
        letv (M.spec_l01From (IntKind.i64.wrap ((IntKind.i64.wrap (m28.1 * 65536)) + m32.1))) fun m36 =>
        some (m36, (⟨p0.code, m32.2.at_, m32.2.seed⟩ : Sl00Src))
      else
        bif (icmp .eql m9.1 2) then
          (M.spec_l00Src_pick (⟨p0.code, m9.2.at_, m9.2.seed⟩ : Sl00Src) 65536).bind fun m41 =>
          letv (M.spec_l01From (IntKind.i64.wrap (m41.1 * 65536))) fun m45 =>
          some (m45, (⟨p0.code, m41.2.at_, m41.2.seed⟩ : Sl00Src))
        else
          (M.spec_l01DrawPlain (⟨p0.code, m9.2.at_, m9.2.seed⟩ : Sl00Src)).bind fun m49 =>
          (M.spec_l00Src_among (⟨p0.code, m49.2.at_, m49.2.seed⟩ : Sl00Src) ([8388608, 2130706432, 1610612736, 536870912])).bind fun m56 =>
          letv (M.spec_l01From m56.1) fun m61 =>
          some ((fop .mul .f32 m49.1 m61), (⟨p0.code, m56.2.at_, m56.2.seed⟩ : Sl00Src))
noncomputable def M.spec_l01DrawFloats (p0 : Sl00Src) (p1 : Int) : Option (List Nat × Sl00Src) :=
  (M.spec_l00Src_one p0 4).bind fun m4 =>
  (loopM (fun (s9 : Int × List Nat × Sl00Src) =>
      bif (icmp .gtr s9.1 0) then
        bif m4.1 then
          (M.spec_l01DrawFloat (⟨p0.code, s9.2.2.at_, s9.2.2.seed⟩ : Sl00Src)).bind fun m14 =>
          (app 4 s9.2.1 ([m14.1])).bind fun m22 =>
          some (.inl ((IntKind.i64.wrap (s9.1 - 1)), m22, (⟨p0.code, m14.2.at_, m14.2.seed⟩ : Sl00Src)))
        else
          (M.spec_l01DrawPlain (⟨p0.code, s9.2.2.at_, s9.2.2.seed⟩ : Sl00Src)).bind fun m31 =>
          (app 4 s9.2.1 ([m31.1])).bind fun m39 =>
          some (.inl ((IntKind.i64.wrap (s9.1 - 1)), m39, (⟨p0.code, m31.2.at_, m31.2.seed⟩ : Sl00Src)))
      else
        some (.inr (s9.2.1, (⟨p0.code, s9.2.2.at_, s9.2.2.seed⟩ : Sl00Src)))) ((p1, ([] : List Nat), (⟨p0.code, m4.2.at_, m4.2.seed⟩ : Sl00Src)) : Int × List Nat × Sl00Src)).bind fun m9 =>
  some (m9.1, (⟨p0.code, m9.2.at_, m9.2.seed⟩ : Sl00Src))
noncomputable def M.spec_B10Numbers (p0 : List Int) (p1 : Int) : Option (List Nat) :=
  letv (M.spec_l00From p0) fun m1 =>
  (M.spec_l01DrawFloats m1 p1).bind fun m7 =>
  some m7.1
def M.spec_l01Same (p0 : Nat) (p1 : Nat) : Bool :=
  letv (M.spec_l01Bits p0) fun m1 =>
  letv (M.spec_l01Bits p1) fun m4 =>
  (icmp .eql m1 m4)
def M.spec_SameNumber (p0 : Nat) (p1 : Nat) : Bool :=
  letv (M.spec_l01Same p0 p1) fun m1 =>
  m1
noncomputable def M.laws_b10Same (p0 : List Nat) (p1 : List Nat) : Option Bool :=
  bif (icmp .neq ((p0).length : Int) ((p1).length : Int)) then
    some false
  else
    (loopM (fun (s2 : Int) =>
        bif (icmp .lss s2 ((p0).length : Int)) then
          (idx p0 s2).bind fun m7 =>
          (idx p1 s2).bind fun m8 =>
          letv (M.spec_SameNumber m7 m8) fun m9 =>
          bif (!m9) then
            some (.inr (.inr false))
          else
            some (.inl (IntKind.i64.wrap (s2 + 1)))
        else
          some (.inr (.inl ()))) (0 : Int)).bind fun m2 =>
    sel m2 (fun m2 =>
      some true) (fun m2 =>
      some m2)
noncomputable def M.impl_ReadDecimal (p0 : List UInt8) : Option (Int × Bool) :=
  (pint p0).bind fun m2 =>
  (Option.bind (
      bif m2.2 then
        letv (M.impl_in m2.1 (-1000000000000000) 1000000000000000) fun m6 =>
        bif m6 then
          (M.impl_Decimal m2.1).bind fun m10 =>
          some (!(m10 == p0))
        else
          some true
      else
        some true) fun m4 =>
  bif m4 then
    some (0, false)
  else
    some (m2.1, true))
noncomputable def M.impl_ReadList (p0 : List UInt8) : Option (List Int × Bool) :=
  (M.impl_parted p0).bind fun m3 =>
  (loopM (fun (s8 : List Int × Int) =>
      bif (icmp .lss s8.2 ((m3).length : Int)) then
        (idx m3 s8.2).bind fun m11 =>
        (M.impl_ReadDecimal m11).bind fun m13 =>
        letv (
            bif m13.2 then
              (icmp .eql ((s8.1).length : Int) 64)
            else
              true) fun m16 =>
        bif m16 then
          some (.inr (.inr ([], false)))
        else
          (app 8 s8.1 ([m13.1])).bind fun m28 =>
          some (.inl (m28, (IntKind.i64.wrap (s8.2 + 1))))
      else
        some (.inr (.inl s8.1))) ((([] : List Int), 0) : List Int × Int)).bind fun m8 =>
  sel m8 (fun m8 =>
    some (m8, true)) (fun m8 =>
    some (m8.1, m8.2))
noncomputable def M.laws_b10Nums (p0 : List Int) (p1 : List Int) : Option Bool :=
  bif (icmp .neq ((p0).length : Int) ((p1).length : Int)) then
    some false
  else
    (loopM (fun (s2 : Int) =>
        bif (icmp .lss s2 ((p0).length : Int)) then
          (idx p0 s2).bind fun m7 =>
          (idx p1 s2).bind fun m8 =>
          bif (icmp .neq m7 m8) then
            some (.inr (.inr false))
          else
            some (.inl (IntKind.i64.wrap (s2 + 1)))
        else
          some (.inr (.inl ()))) (0 : Int)).bind fun m2 =>
    sel m2 (fun m2 =>
      some true) (fun m2 =>
      some m2)
noncomputable def M.laws_FnTexts (p0 : List Int) (p1 : List Int) : Option Bool :=
  letv (M.laws_b10Long p0 p1) fun m1 =>
  bif m1 then
    some true
  else
    (M.laws_b10At p1 0 12).bind fun m5 =>
    (M.spec_B10Numbers p0 m5).bind fun m9 =>
    (M.impl_NumbersText m9).bind fun m14 =>
    (M.impl_ReadNumbers m14.1).bind fun m17 =>
    (Option.bind (
        bif m14.2 then
          bif m17.2 then
            (M.laws_b10Same m17.1 m9).bind fun m27 =>
            bif m27 then
              bif (icmp .gtr ((m9).length : Int) 0) then
                some (icmp .neq ((m14.1).length : Int) (IntKind.i64.wrap ((IntKind.i64.wrap (9 * ((m9).length : Int))) - 1)))
              else
                some false
            else
              some true
          else
            some true
        else
          some true) fun m23 =>
    bif m23 then
      some false
    else
      (loopM (fun (s37 : List Int × Int) =>
          (M.laws_b10At p1 1 8).bind fun m38 =>
          bif (icmp .lss s37.2 m38) then
            (M.laws_b10At p1 (IntKind.i64.wrap (s37.2 + 2)) 256).bind fun m43 =>
            (app 8 s37.1 ([(IntKind.i64.wrap ((IntKind.i64.wrap (1000 * m43)) - 90000))])).bind fun m52 =>
            some (.inl (m52, (IntKind.i64.wrap (s37.2 + 1))))
          else
            some (.inr s37.1)) ((([] : List Int), 0) : List Int × Int)).bind fun m37 =>
      (M.impl_ListText m37).bind fun m58 =>
      (M.impl_ReadList m58.1).bind fun m61 =>
      (Option.bind (
          bif m58.2 then
            bif m61.2 then
              (M.laws_b10Nums m61.1 m37).bind fun m71 =>
              some m71
            else
              some false
          else
            some false) fun m67 =>
      some m67))
end Go.Proofs
