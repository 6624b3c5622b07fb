import Derived.Test.YtodohnoicfmneaaDoorRz
/- Models of the functions, printed by a program (gen2.py) out of the loaded program. No program in sight. -/
namespace Go.Proofs
open Go Go.Fl Go.RowKit Go.Rg
set_option linter.unusedVariables false
structure SVector where
  x : Nat
  y : Nat
  z : Nat
structure Sl00Src where
  code : List Int
  at_ : Int
  seed : Int
def encI_u8 : Enc Int := ⟨1, fun x => [.int .u8 x], fun _ => rfl, fun _ => rfl⟩
theorem dec_encI_u8 {vs : List Value} {x : Int} (h : vs.map cnv = encI_u8.f x) : vs = [.int .u8 x] := by
  obtain ⟨v1, e0, h1⟩ := cnv_i h
  have en := cnv_nil h1
  subst en e0
  exact rfl
def encI_i64 : Enc Int := ⟨1, fun x => [.int .i64 x], fun _ => rfl, fun _ => rfl⟩
theorem dec_encI_i64 {vs : List Value} {x : Int} (h : vs.map cnv = encI_i64.f x) : vs = [.int .i64 x] := by
  obtain ⟨v1, e0, h1⟩ := cnv_i h
  have en := cnv_nil h1
  subst en e0
  exact rfl
def encF_f32 : Enc Nat := ⟨1, fun x => [.float .f32 x], fun _ => rfl, fun _ => rfl⟩
theorem dec_encF_f32 {vs : List Value} {x : Nat} (h : vs.map cnv = encF_f32.f x) : ∃ r0 : Nat, vs = [.float .f32 r0] ∧ cn .f32 r0 = x := by
  obtain ⟨r0, v1, e0, c0, h1⟩ := cnv_f h
  have en := cnv_nil h1
  subst en e0
  exact ⟨r0, rfl, c0⟩
def encS : Enc (List UInt8) := ⟨1, fun x => [.string (bs x)], fun _ => rfl, fun _ => rfl⟩
theorem dec_encS {vs : List Value} {x : List UInt8} (h : vs.map cnv = encS.f x) : vs = [.string (bs x)] := by
  obtain ⟨v1, e0, h1⟩ := cnv_s h
  have en := cnv_nil h1
  subst en e0
  exact rfl
def M.laws_b10Long (p0 : List Int) (p1 : List Int) : Bool :=
  letv (
      bif (icmp .gtr ((p0).length : Int) 1048576) then
        true
      else
        (icmp .gtr ((p1).length : Int) 1048576)) fun m1 =>
  m1
def M.spec_l00From (p0 : List Int) : Sl00Src :=
  (⟨p0, 0, 0⟩ : Sl00Src)
noncomputable def M.spec_l00Src_next (p0 : Sl00Src) : Option (Int × Sl00Src) :=
  bif (icmp .lss p0.at_ ((p0.code).length : Int)) then
    (idx p0.code p0.at_).bind fun m16 =>
    bif (icmp .leq (IntKind.i64.wrap (p0.at_ + 1)) ((p0.code).length : Int)) then
      some ((IntKind.i64.wrap m16), (⟨p0.code, (IntKind.i64.wrap (p0.at_ + 1)), (IntKind.u64.wrap ((IntKind.u64.wrap ((IntKind.u64.wrap (p0.seed * 6364136223846793005)) + (IntKind.u64.wrap (IntKind.i64.wrap m16)))) + 1442695040888963407))⟩ : Sl00Src))
    else
      some ((IntKind.i64.wrap (iand .u64 (((IntKind.u64.wrap ((IntKind.u64.wrap ((IntKind.u64.wrap (p0.seed * 6364136223846793005)) + (IntKind.u64.wrap (IntKind.i64.wrap m16)))) + 1442695040888963407))).fdiv (2 ^ 40)) 255)), (⟨p0.code, (IntKind.i64.wrap (p0.at_ + 1)), (IntKind.u64.wrap ((IntKind.u64.wrap ((IntKind.u64.wrap (p0.seed * 6364136223846793005)) + (IntKind.u64.wrap (IntKind.i64.wrap m16)))) + 1442695040888963407))⟩ : Sl00Src))
  else
    bif (icmp .leq (IntKind.i64.wrap (p0.at_ + 1)) ((p0.code).length : Int)) then
      some (0, (⟨p0.code, (IntKind.i64.wrap (p0.at_ + 1)), (IntKind.u64.wrap ((IntKind.u64.wrap ((IntKind.u64.wrap (p0.seed * 6364136223846793005)) + 0)) + 1442695040888963407))⟩ : Sl00Src))
    else
      some ((IntKind.i64.wrap (iand .u64 (((IntKind.u64.wrap ((IntKind.u64.wrap ((IntKind.u64.wrap (p0.seed * 6364136223846793005)) + 0)) + 1442695040888963407))).fdiv (2 ^ 40)) 255)), (⟨p0.code, (IntKind.i64.wrap (p0.at_ + 1)), (IntKind.u64.wrap ((IntKind.u64.wrap ((IntKind.u64.wrap (p0.seed * 6364136223846793005)) + 0)) + 1442695040888963407))⟩ : Sl00Src))
noncomputable def M.spec_l00Src_pick (p0 : Sl00Src) (p1 : Int) : Option (Int × Sl00Src) :=
  bif (icmp .leq p1 1) then
    some (0, p0)
  else
    (M.spec_l00Src_next p0).bind fun m2 =>
    bif (icmp .gtr p1 200) then
      (M.spec_l00Src_next (⟨p0.code, m2.2.at_, m2.2.seed⟩ : Sl00Src)).bind fun m6 =>
      (irem (IntKind.i64.wrap ((IntKind.i64.wrap (m2.1 * 256)) + m6.1)) p1).bind fun m10 =>
      some (m10, (⟨p0.code, m6.2.at_, m6.2.seed⟩ : Sl00Src))
    else
      (irem m2.1 p1).bind fun m11 =>
      some (m11, (⟨p0.code, m2.2.at_, m2.2.seed⟩ : Sl00Src))
noncomputable def M.spec_B10Vector (p0 : List Int) (p1 : Int) : Option SVector :=
  letv (M.spec_l00From p0) fun m4 =>
  (M.spec_l00Src_pick m4 (IntKind.i64.wrap ((IntKind.i64.wrap (2 * p1)) + 1))).bind fun m12 =>
  (M.spec_l00Src_pick (⟨m4.code, m12.2.at_, m12.2.seed⟩ : Sl00Src) (IntKind.i64.wrap ((IntKind.i64.wrap (2 * p1)) + 1))).bind fun m25 =>
  (M.spec_l00Src_pick (⟨m4.code, m25.2.at_, m25.2.seed⟩ : Sl00Src) (IntKind.i64.wrap ((IntKind.i64.wrap (2 * p1)) + 1))).bind fun m35 =>
  some (⟨(fint .f32 (IntKind.i64.wrap (m12.1 - p1))), (fint .f32 (IntKind.i64.wrap (m25.1 - p1))), (fint .f32 (IntKind.i64.wrap (m35.1 - p1)))⟩ : SVector)
def M.impl_crossed (p0 : Nat) (p1 : Nat) (p2 : Nat) (p3 : Nat) : Nat :=
  (fop .sub .f32 (fop .mul .f32 p0 p1) (fop .mul .f32 p2 p3))
def M.impl_CrossOf (p0 : SVector) (p1 : SVector) : SVector :=
  letv (M.impl_crossed p0.y p1.z p0.z p1.y) fun m17 =>
  letv (M.impl_crossed p0.z p1.x p0.x p1.z) fun m18 =>
  letv (M.impl_crossed p0.x p1.y p0.y p1.x) fun m19 =>
  (⟨m17, m18, m19⟩ : SVector)
def M.impl_LessVectors (p0 : SVector) (p1 : SVector) : SVector :=
  (⟨(fop .sub .f32 p0.x p1.x), (fop .sub .f32 p0.y p1.y), (fop .sub .f32 p0.z p1.z)⟩ : SVector)
def M.impl_AddVectors (p0 : SVector) (p1 : SVector) : SVector :=
  (⟨(fop .add .f32 p0.x p1.x), (fop .add .f32 p0.y p1.y), (fop .add .f32 p0.z p1.z)⟩ : SVector)
def M.impl_ScaleVector (p0 : SVector) (p1 : Nat) : SVector :=
  (⟨(fop .mul .f32 p0.x p1), (fop .mul .f32 p0.y p1), (fop .mul .f32 p0.z p1)⟩ : SVector)
def M.laws_b10VEqual (p0 : SVector) (p1 : SVector) : Bool :=
  letv (
      bif (fcmp .eql .f32 p0.x p1.x) then
        bif (fcmp .eql .f32 p0.y p1.y) then
          (fcmp .eql .f32 p0.z p1.z)
        else
          false
      else
        false) fun m8 =>
  m8
def M.impl_InnerOf (p0 : SVector) (p1 : SVector) : Nat :=
  (fop .add .f32 (fop .add .f32 (fop .mul .f32 p0.x p1.x) (fop .mul .f32 p0.y p1.y)) (fop .mul .f32 p0.z p1.z))
def M.laws_b10Square (p0 : SVector) : Nat :=
  (fop .add .f32 (fop .add .f32 (fop .mul .f32 p0.x p0.x) (fop .mul .f32 p0.y p0.y)) (fop .mul .f32 p0.z p0.z))
def M.math_Sqrt (p0 : Nat) : Nat :=
  (fsqrt p0)
def M.impl_RootNumber (p0 : Nat) : Nat :=
  letv (M.math_Sqrt (widen p0)) fun m3 =>
  (narrow m3)
def M.impl_LongOf (p0 : SVector) : Nat :=
  letv (M.impl_InnerOf p0 p0) fun m4 =>
  letv (M.impl_RootNumber m4) fun m7 =>
  m7
def M.spec_l01Narrow (p0 : Nat) : Nat :=
  (narrow p0)
def M.spec_l01Sqrt (p0 : Nat) : Nat :=
  letv (M.math_Sqrt (widen p0)) fun m3 =>
  letv (M.spec_l01Narrow m3) fun m6 =>
  m6
def M.spec_RootNumber (p0 : Nat) : Nat :=
  letv (M.spec_l01Sqrt p0) fun m1 =>
  m1
def M.spec_l01Bits (p0 : Nat) : Int :=
  bif (fcmp .neq .f32 p0 p0) then
    2143289344
  else
    (IntKind.i64.wrap (p0 : Int))
def M.spec_l01Same (p0 : Nat) (p1 : Nat) : Bool :=
  letv (M.spec_l01Bits p0) fun m1 =>
  letv (M.spec_l01Bits p1) fun m4 =>
  (icmp .eql m1 m4)
def M.spec_SameNumber (p0 : Nat) (p1 : Nat) : Bool :=
  letv (M.spec_l01Same p0 p1) fun m1 =>
  m1
def M.impl_BetweenVectors (p0 : SVector) (p1 : SVector) (p2 : Nat) : SVector :=
  letv (M.impl_LessVectors p1 p0) fun m17 =>
  letv (M.impl_ScaleVector m17 p2) fun m18 =>
  letv (M.impl_AddVectors p0 m18) fun m19 =>
  m19
noncomputable def M.spec_l00Src_one (p0 : Sl00Src) (p1 : Int) : Option (Bool × Sl00Src) :=
  (M.spec_l00Src_pick p0 p1).bind fun m1 =>
  some ((icmp .eql m1.1 0), (⟨p0.code, m1.2.at_, m1.2.seed⟩ : Sl00Src))
noncomputable def M.spec_l01DrawSmall (p0 : Sl00Src) : Option (Nat × Sl00Src) :=
  (M.spec_l00Src_pick p0 33).bind fun m1 =>
  some ((fop .quo .f32 (fint .f32 (IntKind.i64.wrap (m1.1 - 16))) 1082130432), (⟨p0.code, m1.2.at_, m1.2.seed⟩ : Sl00Src))
noncomputable def M.spec_l01DrawPlain (p0 : Sl00Src) : Option (Nat × Sl00Src) :=
  (M.spec_l00Src_pick p0 129).bind fun m1 =>
  (M.spec_l00Src_one (⟨p0.code, m1.2.at_, m1.2.seed⟩ : Sl00Src) 4).bind fun m4 =>
  bif m4.1 then
    some ((fop .quo .f32 (fint .f32 (IntKind.i64.wrap (m1.1 - 64))) 1088421888), (⟨p0.code, m4.2.at_, m4.2.seed⟩ : Sl00Src))
  else
    some ((fop .quo .f32 (fint .f32 (IntKind.i64.wrap (m1.1 - 64))) 1098907648), (⟨p0.code, m4.2.at_, m4.2.seed⟩ : Sl00Src))
noncomputable def M.spec_l00Src_among (p0 : Sl00Src) (p1 : List Int) : Option (Int × Sl00Src) :=
  (M.spec_l00Src_pick p0 ((p1).length : Int)).bind fun m1 =>
  (idx p1 m1.1).bind fun m4 =>
  some (m4, (⟨p0.code, m1.2.at_, m1.2.seed⟩ : Sl00Src))
def M.spec_l01From (p0 : Int) : Nat :=
  (cn .f32 (((IntKind.u32.wrap p0)).toNat))
noncomputable def M.spec_l01DrawFloat (p0 : Sl00Src) : Option (Nat × Sl00Src) :=
  (M.spec_l00Src_one p0 12).bind fun m1 =>
  bif (!m1.1) then
    (M.spec_l01DrawPlain (⟨p0.code, m1.2.at_, m1.2.seed⟩ : Sl00Src)).bind fun m5 =>
    some (m5.1, (⟨p0.code, m5.2.at_, m5.2.seed⟩ : Sl00Src))
  else
    (M.spec_l00Src_pick (⟨p0.code, m1.2.at_, m1.2.seed⟩ : Sl00Src) 4).bind fun m9 =>
    bif (icmp .eql m9.1 0) then
      (M.spec_l00Src_among (⟨p0.code, m9.2.at_, m9.2.seed⟩ : Sl00Src) ([0, 2147483648, 2139095040, 4286578688, 2143289344, 1, 2139095039, 8388608, 8388607, 2147483649])).bind fun m17 =>
      letv (M.spec_l01From m17.1) fun m22 =>
      some (m22, (⟨p0.code, m17.2.at_, m17.2.seed⟩ : Sl00Src))
    else
      bif (icmp .eql m9.1 1) then
        (M.spec_l00Src_pick (⟨p0.code, m9.2.at_, m9.2.seed⟩ : Sl00Src) 65536).bind fun m28 =>
        (M.spec_l00Src_pick (⟨p0.code, m28.2.at_, m28.2.seed⟩ : Sl00Src) 65536).bind fun m32 =>
        letv (M.spec_l01From (IntKind.i64.wrap ((IntKind.i64.wrap (m28.1 * 65536)) + m32.1))) fun m36 =>
        some (m36, (⟨p0.code, m32.2.at_, m32.2.seed⟩ : Sl00Src))
      else
        bif (icmp .eql m9.1 2) then
          (M.spec_l00Src_pick (⟨p0.code, m9.2.at_, m9.2.seed⟩ : Sl00Src) 65536).bind fun m41 =>
          letv (M.spec_l01From (IntKind.i64.wrap (m41.1 * 65536))) fun m45 =>
          some (m45, (⟨p0.code, m41.2.at_, m41.2.seed⟩ : Sl00Src))
        else
          (M.spec_l01DrawPlain (⟨p0.code, m9.2.at_, m9.2.seed⟩ : Sl00Src)).bind fun m49 =>
          (M.spec_l00Src_among (⟨p0.code, m49.2.at_, m49.2.seed⟩ : Sl00Src) ([8388608, 2130706432, 1610612736, 536870912])).bind fun m56 =>
          letv (M.spec_l01From m56.1) fun m61 =>
          some ((fop .mul .f32 m49.1 m61), (⟨p0.code, m56.2.at_, m56.2.seed⟩ : Sl00Src))
noncomputable def M.spec_l01DrawVector (p0 : Sl00Src) : Option (SVector × Sl00Src) :=
  (M.spec_l00Src_one p0 10).bind fun m5 =>
  (M.spec_l01DrawSmall (⟨p0.code, m5.2.at_, m5.2.seed⟩ : Sl00Src)).bind fun m10 =>
  (M.spec_l01DrawSmall (⟨p0.code, m10.2.at_, m10.2.seed⟩ : Sl00Src)).bind fun m24 =>
  (M.spec_l01DrawSmall (⟨p0.code, m24.2.at_, m24.2.seed⟩ : Sl00Src)).bind fun m34 =>
  bif m5.1 then
    (M.spec_l01DrawFloat (⟨p0.code, m34.2.at_, m34.2.seed⟩ : Sl00Src)).bind fun m45 =>
    some ((⟨m10.1, m45.1, m34.1⟩ : SVector), (⟨p0.code, m45.2.at_, m45.2.seed⟩ : Sl00Src))
  else
    some ((⟨m10.1, m24.1, m34.1⟩ : SVector), (⟨p0.code, m34.2.at_, m34.2.seed⟩ : Sl00Src))
noncomputable def M.spec_B10Any (p0 : List Int) : Option SVector :=
  letv (M.spec_l00From p0) fun m4 =>
  (M.spec_l01DrawVector m4).bind fun m12 =>
  some m12.1
def M.impl_Vector_numbers (p0 : SVector) : List Nat :=
  [p0.x, p0.y, p0.z]
def M.impl_listOk (p0 : List Nat) : Bool :=
  (icmp .leq ((p0).length : Int) 256)
def M.impl_isNaN (p0 : Nat) : Bool :=
  (fcmp .neq .f32 p0 p0)
def M.impl_BitsOf (p0 : Nat) : Int :=
  letv (M.impl_isNaN p0) fun m1 =>
  bif m1 then
    2143289344
  else
    (IntKind.i64.wrap (p0 : Int))
noncomputable def M.impl_joined (p0 : List (List UInt8)) : Option (List UInt8) :=
  bif (icmp .eql ((p0).length : Int) 0) then
    some ([110, 111, 110, 101] : List UInt8)
  else
    (sjoin p0 ([44] : List UInt8)).bind fun m3 =>
    some m3
noncomputable def M.impl_NumbersText (p0 : List Nat) : Option (List UInt8 × Bool) :=
  letv (M.impl_listOk p0) fun m1 =>
  bif (!m1) then
    some (([] : List UInt8), false)
  else
    (loopM (fun (s8 : List (List UInt8) × Int) =>
        bif (icmp .lss s8.2 ((p0).length : Int)) then
          (idx p0 s8.2).bind fun m10 =>
          letv (M.impl_BitsOf m10) fun m16 =>
          (sidx ([48, 49, 50, 51, 52, 53, 54, 55, 56, 57, 97, 98, 99, 100, 101, 102] : List UInt8) (iand .i64 ((m16).fdiv (2 ^ 28)) 15)).bind fun m20 =>
          (app 1 ([] : List Int) ([m20])).bind fun m27 =>
          letv (M.impl_BitsOf m10) fun m34 =>
          (sidx ([48, 49, 50, 51, 52, 53, 54, 55, 56, 57, 97, 98, 99, 100, 101, 102] : List UInt8) (iand .i64 ((m34).fdiv (2 ^ 24)) 15)).bind fun m38 =>
          (app 1 m27 ([m38])).bind fun m45 =>
          letv (M.impl_BitsOf m10) fun m52 =>
          (sidx ([48, 49, 50, 51, 52, 53, 54, 55, 56, 57, 97, 98, 99, 100, 101, 102] : List UInt8) (iand .i64 ((m52).fdiv (2 ^ 20)) 15)).bind fun m56 =>
          (app 1 m45 ([m56])).bind fun m63 =>
          letv (M.impl_BitsOf m10) fun m70 =>
          (sidx ([48, 49, 50, 51, 52, 53, 54, 55, 56, 57, 97, 98, 99, 100, 101, 102] : List UInt8) (iand .i64 ((m70).fdiv (2 ^ 16)) 15)).bind fun m74 =>
          (app 1 m63 ([m74])).bind fun m81 =>
          letv (M.impl_BitsOf m10) fun m88 =>
          (sidx ([48, 49, 50, 51, 52, 53, 54, 55, 56, 57, 97, 98, 99, 100, 101, 102] : List UInt8) (iand .i64 ((m88).fdiv (2 ^ 12)) 15)).bind fun m92 =>
          (app 1 m81 ([m92])).bind fun m99 =>
          letv (M.impl_BitsOf m10) fun m106 =>
          (sidx ([48, 49, 50, 51, 52, 53, 54, 55, 56, 57, 97, 98, 99, 100, 101, 102] : List UInt8) (iand .i64 ((m106).fdiv (2 ^ 8)) 15)).bind fun m110 =>
          (app 1 m99 ([m110])).bind fun m117 =>
          letv (M.impl_BitsOf m10) fun m124 =>
          (sidx ([48, 49, 50, 51, 52, 53, 54, 55, 56, 57, 97, 98, 99, 100, 101, 102] : List UInt8) (iand .i64 ((m124).fdiv (2 ^ 4)) 15)).bind fun m128 =>
          (app 1 m117 ([m128])).bind fun m135 =>
          letv (M.impl_BitsOf m10) fun m142 =>
          (sidx ([48, 49, 50, 51, 52, 53, 54, 55, 56, 57, 97, 98, 99, 100, 101, 102] : List UInt8) (iand .i64 ((m142).fdiv (2 ^ 0)) 15)).bind fun m146 =>
          (app 1 m135 ([m146])).bind fun m153 =>
          (app 16 s8.1 ([(u8s m153)])).bind fun m165 =>
          some (.inl (m165, (IntKind.i64.wrap (s8.2 + 1))))
        else
          some (.inr s8.1)) ((([] : List (List UInt8)), 0) : List (List UInt8) × Int)).bind fun m8 =>
    (M.impl_joined m8).bind fun m172 =>
    some (m172, true)
noncomputable def M.impl_VectorText (p0 : SVector) : Option (List UInt8) :=
  letv (M.impl_Vector_numbers p0) fun m4 =>
  (M.impl_NumbersText m4).bind fun m9 =>
  some m9.1
noncomputable def M.strings_Count_s2c (p0 : List UInt8) : Option Int :=
  (sidx ([44] : List UInt8) 0).bind fun m1 =>
  some (scount p0 m1)
def M.internal_stringslite_IndexByte (p0 : List UInt8) (p1 : Int) : Int :=
  (sfind p0 p1)
noncomputable def M.internal_stringslite_Index_s2c (p0 : List UInt8) : Option Int :=
  bif (([44] : List UInt8) == p0) then
    some 0
  else
    (sidx ([44] : List UInt8) 0).bind fun m4 =>
    letv (M.internal_stringslite_IndexByte p0 m4) fun m5 =>
    some m5
noncomputable def M.strings_Index_s2c (p0 : List UInt8) : Option Int :=
  (M.internal_stringslite_Index_s2c p0).bind fun m1 =>
  some m1
noncomputable def M.strings_genSplit_s2c_i64n0_i64m1 (p0 : List UInt8) : Option (List (List UInt8)) :=
  (M.strings_Count_s2c p0).bind fun m1 =>
  (mkl 16 (imin (IntKind.i64.wrap (m1 + 1)) (IntKind.i64.wrap (((p0).length : Int) + 1))) (imin (IntKind.i64.wrap (m1 + 1)) (IntKind.i64.wrap (((p0).length : Int) + 1))) ([] : List UInt8)).bind fun m4 =>
  (loopM (fun (s7 : List UInt8 × Int × List (List UInt8)) =>
      bif (icmp .lss s7.2.1 (IntKind.i64.wrap ((imin (IntKind.i64.wrap (m1 + 1)) (IntKind.i64.wrap (((p0).length : Int) + 1))) - 1))) then
        (M.strings_Index_s2c s7.1).bind fun m9 =>
        bif (icmp .lss m9 0) then
          some (.inr (s7.1, s7.2.1, s7.2.2))
        else
          (ssub s7.1 0 (IntKind.i64.wrap (m9 + 0))).bind fun m14 =>
          (idx s7.2.2 s7.2.1).bind fun m15 =>
          (ssub s7.1 (IntKind.i64.wrap (m9 + 1)) ((s7.1).length : Int)).bind fun m21 =>
          some (.inl (m21, (IntKind.i64.wrap (s7.2.1 + 1)), (s7.2.2.set s7.2.1.toNat m14)))
      else
        some (.inr (s7.1, s7.2.1, s7.2.2))) ((p0, 0, m4) : List UInt8 × Int × List (List UInt8))).bind fun m7 =>
  (idx m7.2.2 m7.2.1).bind fun m22 =>
  (ssub (m7.2.2.set m7.2.1.toNat m7.1) 0 (IntKind.i64.wrap (m7.2.1 + 1))).bind fun m27 =>
  some m27
noncomputable def M.strings_Split_s2c (p0 : List UInt8) : Option (List (List UInt8)) :=
  (M.strings_genSplit_s2c_i64n0_i64m1 p0).bind fun m1 =>
  some m1
noncomputable def M.impl_parted (p0 : List UInt8) : Option (List (List UInt8)) :=
  bif (p0 == ([110, 111, 110, 101] : List UInt8)) then
    some ([])
  else
    (M.strings_Split_s2c p0).bind fun m2 =>
    some m2
def M.internal_stringslite_IndexByte_s30313233343536373839616263646566 (p1 : Int) : Int :=
  (sfind ([48, 49, 50, 51, 52, 53, 54, 55, 56, 57, 97, 98, 99, 100, 101, 102] : List UInt8) p1)
def M.strings_IndexByte_s30313233343536373839616263646566 (p1 : Int) : Int :=
  letv (M.internal_stringslite_IndexByte_s30313233343536373839616263646566 p1) fun m1 =>
  m1
def M.impl_in (p0 : Int) (p1 : Int) (p2 : Int) : Bool :=
  letv (
      bif (icmp .geq p0 p1) then
        (icmp .leq p0 p2)
      else
        false) fun m1 =>
  m1
def M.impl_FromBits (p0 : Int) : Nat × Bool :=
  letv (M.impl_in p0 0 4294967295) fun m1 =>
  bif (!m1) then
    (0, false)
  else
    ((cn .f32 (((IntKind.u32.wrap p0)).toNat)), true)
noncomputable def M.impl_readNumber (p0 : List UInt8) : Option (Nat × Bool) :=
  (loopM (fun (s1 : Int × Int) =>
      bif (icmp .lss s1.2 ((p0).length : Int)) then
        (sidx p0 s1.2).bind fun m3 =>
        letv (M.strings_IndexByte_s30313233343536373839616263646566 m3) fun m4 =>
        letv (
            bif (icmp .lss m4 0) then
              true
            else
              (icmp .eql s1.2 8)) fun m7 =>
        bif m7 then
          some (.inr (.inr (0, false)))
        else
          some (.inl ((IntKind.i64.wrap ((IntKind.i64.wrap (s1.1 * 16)) + m4)), (IntKind.i64.wrap (s1.2 + 1))))
      else
        some (.inr (.inl s1.1))) ((0, 0) : Int × Int)).bind fun m1 =>
  sel m1 (fun m1 =>
    letv (M.impl_FromBits m1) fun m11 =>
    letv (
        bif (icmp .eql ((p0).length : Int) 8) then
          letv (M.impl_BitsOf m11.1) fun m16 =>
          (icmp .eql m16 m1)
        else
          false) fun m14 =>
    some (m11.1, m14)) (fun m1 =>
    some (m1.1, m1.2))
noncomputable def M.impl_ReadNumbers (p0 : List UInt8) : Option (List Nat × Bool) :=
  (M.impl_parted p0).bind fun m3 =>
  (loopM (fun (s8 : List Nat × Int) =>
      bif (icmp .lss s8.2 ((m3).length : Int)) then
        (idx m3 s8.2).bind fun m11 =>
        (M.impl_readNumber m11).bind fun m13 =>
        letv (
            bif m13.2 then
              (icmp .eql ((s8.1).length : Int) 256)
            else
              true) fun m16 =>
        bif m16 then
          some (.inr (.inr ([], false)))
        else
          (app 4 s8.1 ([m13.1])).bind fun m28 =>
          some (.inl (m28, (IntKind.i64.wrap (s8.2 + 1))))
      else
        some (.inr (.inl s8.1))) ((([] : List Nat), 0) : List Nat × Int)).bind fun m8 =>
  sel m8 (fun m8 =>
    some (m8, true)) (fun m8 =>
    some (m8.1, m8.2))
noncomputable def M.impl_ReadVector (p0 : List UInt8) : Option (SVector × Bool) :=
  (M.impl_ReadNumbers p0).bind fun m4 =>
  letv (
      bif m4.2 then
        (icmp .neq ((m4.1).length : Int) 3)
      else
        true) fun m9 =>
  bif m9 then
    some ((⟨0, 0, 0⟩ : SVector), false)
  else
    (idx m4.1 0).bind fun m21 =>
    (idx m4.1 1).bind fun m22 =>
    (idx m4.1 2).bind fun m23 =>
    some ((⟨m21, m22, m23⟩ : SVector), true)
def M.impl_SameNumber (p0 : Nat) (p1 : Nat) : Bool :=
  letv (
      letv (M.impl_isNaN p0) fun m2 =>
      bif m2 then
        true
      else
        letv (M.impl_isNaN p1) fun m6 =>
        m6) fun m1 =>
  bif m1 then
    letv (
        letv (M.impl_isNaN p0) fun m12 =>
        bif m12 then
          letv (M.impl_isNaN p1) fun m16 =>
          m16
        else
          false) fun m11 =>
    m11
  else
    (icmp .eql (p0 : Int) (p1 : Int))
noncomputable def M.slices_EqualFunc___float32___float32_float32_float32__f45 (p0 : List Nat) (p1 : List Nat) : Option Bool :=
  bif (icmp .neq ((p0).length : Int) ((p1).length : Int)) then
    some false
  else
    (loopM (fun (s2 : Int) =>
        bif (icmp .lss s2 ((p0).length : Int)) then
          (idx p0 s2).bind fun m4 =>
          (idx p1 s2).bind fun m7 =>
          letv (M.impl_SameNumber m4 m7) fun m10 =>
          bif (!m10) then
            some (.inr (.inr false))
          else
            some (.inl (IntKind.i64.wrap (s2 + 1)))
        else
          some (.inr (.inl ()))) (0 : Int)).bind fun m2 =>
    sel m2 (fun m2 =>
      some true) (fun m2 =>
      some m2)
noncomputable def M.impl_sameList (p0 : List Nat) (p1 : List Nat) : Option Bool :=
  (M.slices_EqualFunc___float32___float32_float32_float32__f45 p0 p1).bind fun m1 =>
  some m1
noncomputable def M.impl_SameVector (p0 : SVector) (p1 : SVector) : Option Bool :=
  letv (M.impl_Vector_numbers p0) fun m10 =>
  letv (M.impl_Vector_numbers p1) fun m11 =>
  (M.impl_sameList m10 m11).bind fun m12 =>
  some m12
noncomputable def M.laws_FnVectors (p0 : List Int) (p1 : List Int) : Option Bool :=
  letv (M.laws_b10Long p0 p1) fun m1 =>
  bif m1 then
    some true
  else
    (M.spec_B10Vector p0 50).bind fun m5 =>
    (M.spec_B10Vector p1 50).bind fun m15 =>
    letv (M.impl_CrossOf (⟨m5.x, m5.y, m5.z⟩ : SVector) (⟨m15.x, m15.y, m15.z⟩ : SVector)) fun m28 =>
    letv (M.impl_CrossOf (⟨m15.x, m15.y, m15.z⟩ : SVector) (⟨m5.x, m5.y, m5.z⟩ : SVector)) fun m43 =>
    letv (M.impl_LessVectors (⟨m5.x, m5.y, m5.z⟩ : SVector) (⟨m15.x, m15.y, m15.z⟩ : SVector)) fun m64 =>
    letv (M.impl_AddVectors (⟨m15.x, m15.y, m15.z⟩ : SVector) m64) fun m65 =>
    letv (M.impl_ScaleVector (⟨m5.x, m5.y, m5.z⟩ : SVector) 1073741824) fun m86 =>
    letv (M.laws_b10VEqual (⟨m65.x, m65.y, m65.z⟩ : SVector) (⟨m5.x, m5.y, m5.z⟩ : SVector)) fun m116 =>
    letv (M.impl_InnerOf (⟨m28.x, m28.y, m28.z⟩ : SVector) (⟨m5.x, m5.y, m5.z⟩ : SVector)) fun m117 =>
    letv (M.impl_InnerOf (⟨m28.x, m28.y, m28.z⟩ : SVector) (⟨m15.x, m15.y, m15.z⟩ : SVector)) fun m118 =>
    letv (M.impl_ScaleVector (⟨m43.x, m43.y, m43.z⟩ : SVector) 3212836864) fun m119 =>
    letv (M.laws_b10VEqual (⟨m28.x, m28.y, m28.z⟩ : SVector) m119) fun m120 =>
    letv (M.impl_AddVectors (⟨m5.x, m5.y, m5.z⟩ : SVector) (⟨m5.x, m5.y, m5.z⟩ : SVector)) fun m121 =>
    letv (M.laws_b10VEqual (⟨m86.x, m86.y, m86.z⟩ : SVector) m121) fun m122 =>
    letv (M.impl_InnerOf (⟨m5.x, m5.y, m5.z⟩ : SVector) (⟨m5.x, m5.y, m5.z⟩ : SVector)) fun m123 =>
    letv (M.laws_b10Square (⟨m5.x, m5.y, m5.z⟩ : SVector)) fun m124 =>
    letv (M.impl_LongOf (⟨m5.x, m5.y, m5.z⟩ : SVector)) fun m125 =>
    letv (M.laws_b10Square (⟨m5.x, m5.y, m5.z⟩ : SVector)) fun m126 =>
    letv (M.spec_RootNumber m126) fun m127 =>
    letv (M.spec_SameNumber m125 m127) fun m128 =>
    bif (bif (bif (bif (bif (bif (bif (!m116) then true else (fcmp .neq .f32 m117 0)) then true else (fcmp .neq .f32 m118 0)) then true else (!m120)) then true else (!m122)) then true else (fcmp .neq .f32 m123 m124)) then true else (!m128)) then
      some false
    else
      letv (M.impl_BetweenVectors (⟨m5.x, m5.y, m5.z⟩ : SVector) (⟨m15.x, m15.y, m15.z⟩ : SVector) 0) fun m210 =>
      letv (M.laws_b10VEqual m210 (⟨m5.x, m5.y, m5.z⟩ : SVector)) fun m211 =>
      letv (M.impl_BetweenVectors (⟨m5.x, m5.y, m5.z⟩ : SVector) (⟨m15.x, m15.y, m15.z⟩ : SVector) 1065353216) fun m212 =>
      letv (M.laws_b10VEqual m212 (⟨m15.x, m15.y, m15.z⟩ : SVector)) fun m213 =>
      bif (bif (!m211) then true else (!m213)) then
        some false
      else
        (M.spec_B10Any p0).bind fun m236 =>
        (M.impl_VectorText (⟨m236.x, m236.y, m236.z⟩ : SVector)).bind fun m246 =>
        (M.impl_ReadVector m246).bind fun m249 =>
        (Option.bind (
            bif m249.2 then
              (M.impl_SameVector (⟨m249.1.x, m249.1.y, m249.1.z⟩ : SVector) (⟨m236.x, m236.y, m236.z⟩ : SVector)).bind fun m264 =>
              bif m264 then
                some (icmp .eql ((m246).length : Int) 26)
              else
                some false
            else
              some false) fun m261 =>
        some m261)
end Go.Proofs
