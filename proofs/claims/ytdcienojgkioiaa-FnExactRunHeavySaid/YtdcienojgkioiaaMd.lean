import Derived.Test.YtdcienojgkioiaaRt
namespace Go.Proofs
open Go Go.Fl Go.RowKit Go.Rg
set_option linter.unusedVariables false
structure SVector where
  x : Nat
  y : Nat
  z : Nat
structure SSpin where
  w : Nat
  x : Nat
  y : Nat
  z : Nat
structure STop where
  moments : SVector
  turn : SSpin
  speed : SVector
structure Arr4Nat where
  a0 : Nat
  a1 : Nat
  a2 : Nat
  a3 : Nat
structure Arr3Nat where
  a0 : Nat
  a1 : Nat
  a2 : Nat
def encSVector : Enc SVector := ⟨3, fun x => [.float .f32 x.x, .float .f32 x.y, .float .f32 x.z], fun _ => rfl, fun _ => rfl⟩
theorem dec_encSVector {vs : List Value} {x : SVector} (h : vs.map cnv = encSVector.f x) : ∃ r0 : Nat, ∃ r1 : Nat, ∃ r2 : Nat, vs = [.float .f32 r0, .float .f32 r1, .float .f32 r2] ∧ cn .f32 r0 = x.x ∧ cn .f32 r1 = x.y ∧ cn .f32 r2 = x.z := by
  obtain ⟨r0, v1, e0, c0, h1⟩ := cnv_f h
  obtain ⟨r1, v2, e1, c1, h2⟩ := cnv_f h1
  obtain ⟨r2, v3, e2, c2, h3⟩ := cnv_f h2
  have en := cnv_nil h3
  subst en e2 e1 e0
  exact ⟨r0, r1, r2, rfl, c0, c1, c2⟩
def encF_f32 : Enc Nat := ⟨1, fun x => [.float .f32 x], fun _ => rfl, fun _ => rfl⟩
theorem dec_encF_f32 {vs : List Value} {x : Nat} (h : vs.map cnv = encF_f32.f x) : ∃ r0 : Nat, vs = [.float .f32 r0] ∧ cn .f32 r0 = x := by
  obtain ⟨r0, v1, e0, c0, h1⟩ := cnv_f h
  have en := cnv_nil h1
  subst en e0
  exact ⟨r0, rfl, c0⟩
def M.laws_toVector (p0 : SVector) : SVector :=
  p0
def M.laws_toSpin (p0 : SSpin) : SSpin :=
  p0
def M.laws_toTop (p0 : STop) : STop :=
  letv (M.laws_toVector (⟨p0.moments.x, p0.moments.y, p0.moments.z⟩ : SVector)) fun m15 =>
  letv (M.laws_toSpin (⟨p0.turn.w, p0.turn.x, p0.turn.y, p0.turn.z⟩ : SSpin)) fun m24 =>
  letv (M.laws_toVector (⟨p0.speed.x, p0.speed.y, p0.speed.z⟩ : SVector)) fun m33 =>
  (⟨(⟨m15.x, m15.y, m15.z⟩ : SVector), m24, m33⟩ : STop)
def M.spec_l01Finite (p0 : Nat) : Bool :=
  (fcmp .eql .f32 (fop .sub .f32 p0 p0) 0)
def M.spec_l02Above (p0 : Nat) : Bool :=
  letv (
      letv (M.spec_l01Finite p0) fun m2 =>
      bif m2 then
        (fcmp .gtr .f32 p0 0)
      else
        false) fun m1 =>
  m1
def M.spec_l04Spin (p0 : SSpin) : Bool :=
  letv (
      letv (M.spec_l01Finite p0.w) fun m2 =>
      bif m2 then
        letv (M.spec_l01Finite p0.x) fun m7 =>
        bif m7 then
          letv (M.spec_l01Finite p0.y) fun m12 =>
          bif m12 then
            letv (M.spec_l01Finite p0.z) fun m17 =>
            (!m17)
          else
            true
        else
          true
      else
        true) fun m1 =>
  bif m1 then
    false
  else
    letv (
        bif (fcmp .neq .f32 p0.w 0) then
          true
        else
          bif (fcmp .neq .f32 p0.x 0) then
            true
          else
            bif (fcmp .neq .f32 p0.y 0) then
              true
            else
              (fcmp .neq .f32 p0.z 0)) fun m22 =>
    m22
def M.spec_l01VFinite (p0 : SVector) : Bool :=
  letv (
      letv (M.spec_l01Finite p0.x) fun m5 =>
      bif m5 then
        letv (M.spec_l01Finite p0.y) fun m10 =>
        bif m10 then
          letv (M.spec_l01Finite p0.z) fun m15 =>
          m15
        else
          false
      else
        false) fun m4 =>
  m4
def M.spec_l04Is (p0 : STop) : Bool :=
  letv (
      letv (M.spec_l02Above p0.moments.x) fun m2 =>
      bif m2 then
        letv (M.spec_l02Above p0.moments.y) fun m7 =>
        bif m7 then
          letv (M.spec_l02Above p0.moments.z) fun m12 =>
          bif m12 then
            letv (M.spec_l04Spin (⟨p0.turn.w, p0.turn.x, p0.turn.y, p0.turn.z⟩ : SSpin)) fun m16 =>
            bif m16 then
              letv (M.spec_l01VFinite (⟨p0.speed.x, p0.speed.y, p0.speed.z⟩ : SVector)) fun m22 =>
              m22
            else
              false
          else
            false
        else
          false
      else
        false) fun m1 =>
  m1
def M.spec_l04Can (p0 : STop) (p1 : SVector) (p2 : Nat) : Bool :=
  letv (
      letv (M.spec_l04Is (⟨(⟨p0.moments.x, p0.moments.y, p0.moments.z⟩ : SVector), (⟨p0.turn.w, p0.turn.x, p0.turn.y, p0.turn.z⟩ : SSpin), (⟨p0.speed.x, p0.speed.y, p0.speed.z⟩ : SVector)⟩ : STop)) fun m5 =>
      bif m5 then
        letv (M.spec_l01VFinite (⟨p1.x, p1.y, p1.z⟩ : SVector)) fun m11 =>
        bif m11 then
          letv (M.spec_l01Finite p2) fun m15 =>
          m15
        else
          false
      else
        false) fun m4 =>
  m4
def M.spec_l00In (p0 : Int) (p1 : Int) (p2 : Int) : Bool :=
  letv (
      bif (icmp .geq p0 p1) then
        (icmp .leq p0 p2)
      else
        false) fun m1 =>
  m1
def M.spec_l04Steps (p0 : Int) : Bool :=
  letv (M.spec_l00In p0 0 128) fun m1 =>
  m1
def M.spec_l04Back (p0 : SSpin) : SSpin :=
  (⟨p0.w, (fneg .f32 p0.x), (fneg .f32 p0.y), (fneg .f32 p0.z)⟩ : SSpin)
def M.spec_l04Part (p0 : SSpin) : SVector :=
  (⟨p0.x, p0.y, p0.z⟩ : SVector)
def M.spec_l01Cross (p0 : SVector) (p1 : SVector) : SVector :=
  (⟨(fop .sub .f32 (fop .mul .f32 p0.y p1.z) (fop .mul .f32 p0.z p1.y)), (fop .sub .f32 (fop .mul .f32 p0.z p1.x) (fop .mul .f32 p0.x p1.z)), (fop .sub .f32 (fop .mul .f32 p0.x p1.y) (fop .mul .f32 p0.y p1.x))⟩ : SVector)
def M.spec_l01Scale (p0 : SVector) (p1 : Nat) : SVector :=
  (⟨(fop .mul .f32 p0.x p1), (fop .mul .f32 p0.y p1), (fop .mul .f32 p0.z p1)⟩ : SVector)
def M.spec_l01Add (p0 : SVector) (p1 : SVector) : SVector :=
  (⟨(fop .add .f32 p0.x p1.x), (fop .add .f32 p0.y p1.y), (fop .add .f32 p0.z p1.z)⟩ : SVector)
def M.spec_l04Turn (p0 : SSpin) (p1 : SVector) : SVector :=
  letv (M.spec_l04Part (⟨p0.w, p0.x, p0.y, p0.z⟩ : SSpin)) fun m15 =>
  letv (M.spec_l01Cross (⟨m15.x, m15.y, m15.z⟩ : SVector) (⟨p1.x, p1.y, p1.z⟩ : SVector)) fun m32 =>
  letv (M.spec_l01Scale m32 1073741824) fun m37 =>
  letv (M.spec_l01Scale m37 p0.w) fun m63 =>
  letv (M.spec_l01Add (⟨p1.x, p1.y, p1.z⟩ : SVector) m63) fun m64 =>
  letv (M.spec_l01Cross (⟨m15.x, m15.y, m15.z⟩ : SVector) (⟨m37.x, m37.y, m37.z⟩ : SVector)) fun m65 =>
  letv (M.spec_l01Add m64 m65) fun m66 =>
  m66
def M.spec_l04Heavy (p0 : STop) (p1 : Nat) (p2 : Nat) : SVector :=
  letv (M.spec_l04Back (⟨p0.turn.w, p0.turn.x, p0.turn.y, p0.turn.z⟩ : SSpin)) fun m5 =>
  letv (M.spec_l04Turn m5 (⟨0, 0, (fneg .f32 p2)⟩ : SVector)) fun m9 =>
  letv (M.spec_l01Cross (⟨0, 0, p1⟩ : SVector) m9) fun m13 =>
  m13
def M.spec_l04Rate (p0 : STop) (p1 : SVector) (p2 : SVector) : SVector :=
  (⟨(fop .quo .f32 (fop .add .f32 (fop .mul .f32 (fop .sub .f32 p0.moments.y p0.moments.z) (fop .mul .f32 p1.y p1.z)) p2.x) p0.moments.x), (fop .quo .f32 (fop .add .f32 (fop .mul .f32 (fop .sub .f32 p0.moments.z p0.moments.x) (fop .mul .f32 p1.z p1.x)) p2.y) p0.moments.y), (fop .quo .f32 (fop .add .f32 (fop .mul .f32 (fop .sub .f32 p0.moments.x p0.moments.y) (fop .mul .f32 p1.x p1.y)) p2.z) p0.moments.z)⟩ : SVector)
def M.spec_l04Times (p0 : SSpin) (p1 : SSpin) : SSpin :=
  (⟨(fop .sub .f32 (fop .sub .f32 (fop .sub .f32 (fop .mul .f32 p0.w p1.w) (fop .mul .f32 p0.x p1.x)) (fop .mul .f32 p0.y p1.y)) (fop .mul .f32 p0.z p1.z)), (fop .sub .f32 (fop .add .f32 (fop .add .f32 (fop .mul .f32 p0.w p1.x) (fop .mul .f32 p0.x p1.w)) (fop .mul .f32 p0.y p1.z)) (fop .mul .f32 p0.z p1.y)), (fop .add .f32 (fop .add .f32 (fop .sub .f32 (fop .mul .f32 p0.w p1.y) (fop .mul .f32 p0.x p1.z)) (fop .mul .f32 p0.y p1.w)) (fop .mul .f32 p0.z p1.x)), (fop .add .f32 (fop .sub .f32 (fop .add .f32 (fop .mul .f32 p0.w p1.z) (fop .mul .f32 p0.x p1.y)) (fop .mul .f32 p0.y p1.x)) (fop .mul .f32 p0.z p1.w))⟩ : SSpin)
def M.math_Sqrt (p0 : Nat) : Nat :=
  (fsqrt p0)
def M.spec_l01Narrow (p0 : Nat) : Nat :=
  (narrow p0)
def M.spec_l01Sqrt (p0 : Nat) : Nat :=
  letv (M.math_Sqrt (widen p0)) fun m3 =>
  letv (M.spec_l01Narrow m3) fun m6 =>
  m6
def M.spec_l04Size (p0 : SSpin) : Nat :=
  letv (M.spec_l01Sqrt (fop .add .f32 (fop .add .f32 (fop .add .f32 (fop .mul .f32 p0.w p0.w) (fop .mul .f32 p0.x p0.x)) (fop .mul .f32 p0.y p0.y)) (fop .mul .f32 p0.z p0.z))) fun m21 =>
  m21
def M.spec_l04Norm (p0 : SSpin) : SSpin × Bool :=
  letv (M.spec_l04Size (⟨p0.w, p0.x, p0.y, p0.z⟩ : SSpin)) fun m9 =>
  letv (
      letv (M.spec_l04Spin (⟨p0.w, p0.x, p0.y, p0.z⟩ : SSpin)) fun m37 =>
      bif m37 then
        letv (M.spec_l04Spin (⟨(fop .quo .f32 p0.w m9), (fop .quo .f32 p0.x m9), (fop .quo .f32 p0.y m9), (fop .quo .f32 p0.z m9)⟩ : SSpin)) fun m41 =>
        (!m41)
      else
        true) fun m34 =>
  bif m34 then
    ((⟨0, 0, 0, 0⟩ : SSpin), false)
  else
    ((⟨(fop .quo .f32 p0.w m9), (fop .quo .f32 p0.x m9), (fop .quo .f32 p0.y m9), (fop .quo .f32 p0.z m9)⟩ : SSpin), true)
def M.spec_l04Step (p0 : STop) (p1 : SVector) (p2 : Nat) : STop × Bool :=
  letv (M.spec_l04Rate (⟨(⟨p0.moments.x, p0.moments.y, p0.moments.z⟩ : SVector), (⟨p0.turn.w, p0.turn.x, p0.turn.y, p0.turn.z⟩ : SSpin), (⟨p0.speed.x, p0.speed.y, p0.speed.z⟩ : SVector)⟩ : STop) (⟨p0.speed.x, p0.speed.y, p0.speed.z⟩ : SVector) (⟨p1.x, p1.y, p1.z⟩ : SVector)) fun m14 =>
  letv (M.spec_l01Scale m14 (fop .mul .f32 1056964608 p2)) fun m15 =>
  letv (M.spec_l01Add (⟨p0.speed.x, p0.speed.y, p0.speed.z⟩ : SVector) m15) fun m16 =>
  letv (M.spec_l04Rate (⟨(⟨p0.moments.x, p0.moments.y, p0.moments.z⟩ : SVector), (⟨p0.turn.w, p0.turn.x, p0.turn.y, p0.turn.z⟩ : SSpin), (⟨p0.speed.x, p0.speed.y, p0.speed.z⟩ : SVector)⟩ : STop) m16 (⟨p1.x, p1.y, p1.z⟩ : SVector)) fun m59 =>
  letv (M.spec_l01Scale m59 p2) fun m60 =>
  letv (M.spec_l01Add (⟨p0.speed.x, p0.speed.y, p0.speed.z⟩ : SVector) m60) fun m61 =>
  letv (M.spec_l04Times (⟨p0.turn.w, p0.turn.x, p0.turn.y, p0.turn.z⟩ : SSpin) (⟨0, m16.x, m16.y, m16.z⟩ : SSpin)) fun m85 =>
  letv (M.spec_l04Norm (⟨(fop .add .f32 p0.turn.w (fop .mul .f32 (fop .mul .f32 1056964608 p2) m85.w)), (fop .add .f32 p0.turn.x (fop .mul .f32 (fop .mul .f32 1056964608 p2) m85.x)), (fop .add .f32 p0.turn.y (fop .mul .f32 (fop .mul .f32 1056964608 p2) m85.y)), (fop .add .f32 p0.turn.z (fop .mul .f32 (fop .mul .f32 1056964608 p2) m85.z))⟩ : SSpin)) fun m184 =>
  letv (M.spec_l04Is (⟨(⟨p0.moments.x, p0.moments.y, p0.moments.z⟩ : SVector), m184.1, (⟨m61.x, m61.y, m61.z⟩ : SVector)⟩ : STop)) fun m208 =>
  ((⟨(⟨p0.moments.x, p0.moments.y, p0.moments.z⟩ : SVector), m184.1, (⟨m61.x, m61.y, m61.z⟩ : SVector)⟩ : STop), (bif m184.2 then m208 else false))
def M.spec_l04Axis (p0 : STop) : SVector :=
  letv (M.spec_l04Turn p0.turn (⟨0, 0, 1065353216⟩ : SVector)) fun m5 =>
  m5
noncomputable def M.spec_l04Run (p0 : STop) (p1 : SVector) (p2 : Nat) (p3 : Nat) (p4 : Nat) (p5 : Int) (p6 : Bool) : Option (STop × List SVector × Bool) :=
  (loopM (fun (s21 : List SVector × Int × SVector × STop × STop) =>
      bif (icmp .lss s21.2.1 p5) then
        bif p6 then
          letv (M.spec_l04Heavy s21.2.2.2.2 p2 p3) fun m27 =>
          letv (M.spec_l04Step s21.2.2.2.2 m27 p4) fun m34 =>
          letv (
              bif m34.2 then
                letv (M.spec_l01VFinite m27) fun m60 =>
                bif m60 then
                  letv (M.spec_l04Axis m34.1) fun m64 =>
                  letv (M.spec_l01VFinite m64) fun m72 =>
                  (!m72)
                else
                  true
              else
                true) fun m54 =>
          bif m54 then
            some (.inr (.inr ([], false, (⟨(⟨0, 0, 0⟩ : SVector), (⟨0, 0, 0, 0⟩ : SSpin), (⟨0, 0, 0⟩ : SVector)⟩ : STop))))
          else
            letv (M.spec_l04Axis m34.1) fun m91 =>
            (app 12 s21.1 ([m91])).bind fun m107 =>
            some (.inl (m107, (IntKind.i64.wrap (s21.2.1 + 1)), m27, s21.2.2.2.1, m34.1))
        else
          letv (M.spec_l04Step s21.2.2.2.2 s21.2.2.1 p4) fun m121 =>
          letv (
              bif m121.2 then
                letv (M.spec_l01VFinite s21.2.2.1) fun m144 =>
                bif m144 then
                  letv (M.spec_l04Axis m121.1) fun m148 =>
                  letv (M.spec_l01VFinite m148) fun m156 =>
                  (!m156)
                else
                  true
              else
                true) fun m138 =>
          bif m138 then
            some (.inr (.inr ([], false, (⟨(⟨0, 0, 0⟩ : SVector), (⟨0, 0, 0, 0⟩ : SSpin), (⟨0, 0, 0⟩ : SVector)⟩ : STop))))
          else
            letv (M.spec_l04Axis m121.1) fun m175 =>
            (app 12 s21.1 ([m175])).bind fun m191 =>
            some (.inl (m191, (IntKind.i64.wrap (s21.2.1 + 1)), s21.2.2.1, s21.2.2.2.1, m121.1))
      else
        some (.inr (.inl (s21.1, s21.2.2.1, s21.2.2.2.1, s21.2.2.2.2)))) ((([] : List SVector), 0, p1, (⟨(⟨0, 0, 0⟩ : SVector), (⟨0, 0, 0, 0⟩ : SSpin), (⟨0, 0, 0⟩ : SVector)⟩ : STop), p0) : List SVector × Int × SVector × STop × STop)).bind fun m21 =>
  sel m21 (fun m21 =>
    some (m21.2.2.2, m21.1, true)) (fun m21 =>
    some (m21.2.2, m21.1, m21.2.1))
noncomputable def M.spec_RunTop (p0 : STop) (p1 : SVector) (p2 : Nat) (p3 : Int) : Option (STop × List SVector × Bool) :=
  letv (
      letv (M.spec_l04Can p0 p1 p2) fun m17 =>
      bif m17 then
        letv (M.spec_l04Steps p3) fun m21 =>
        (!m21)
      else
        true) fun m14 =>
  bif m14 then
    some ((⟨(⟨0, 0, 0⟩ : SVector), (⟨0, 0, 0, 0⟩ : SSpin), (⟨0, 0, 0⟩ : SVector)⟩ : STop), [], false)
  else
    (M.spec_l04Run p0 p1 0 0 p2 p3 false).bind fun m35 =>
    some (m35.1, m35.2.1, m35.2.2)
def M.impl_IsFinite (p0 : Nat) : Bool :=
  (fcmp .eql .f32 (fop .sub .f32 p0 p0) 0)
def M.impl_finite_1 (p0 : Nat) : Bool :=
  letv (M.impl_IsFinite p0) fun m1 =>
  (!m1)
noncomputable def M.slices_IndexFunc___float32_float32__f61 (p0 : List Nat) : Option Int :=
  (loopM (fun (s1 : Int) =>
      bif (icmp .lss s1 ((p0).length : Int)) then
        (idx p0 s1).bind fun m3 =>
        letv (M.impl_finite_1 m3) fun m6 =>
        bif m6 then
          some (.inr (.inr s1))
        else
          some (.inl (IntKind.i64.wrap (s1 + 1)))
      else
        some (.inr (.inl ()))) (0 : Int)).bind fun m1 =>
  sel m1 (fun m1 =>
    some (-1)) (fun m1 =>
    some m1)
noncomputable def M.slices_ContainsFunc___float32_float32__f61 (p0 : List Nat) : Option Bool :=
  (M.slices_IndexFunc___float32_float32__f61 p0).bind fun m1 =>
  some (icmp .geq m1 0)
noncomputable def M.impl_finite (p0 : List Nat) : Option Bool :=
  (M.slices_ContainsFunc___float32_float32__f61 p0).bind fun m1 =>
  some (!m1)
noncomputable def M.impl_finiteVector (p0 : SVector) : Option Bool :=
  (M.impl_finite ([p0.x, p0.y, p0.z])).bind fun m7 =>
  some m7
def M.impl_lengthOk (p0 : Nat) : Bool :=
  letv (
      letv (M.impl_IsFinite p0) fun m2 =>
      bif m2 then
        (fcmp .gtr .f32 p0 0)
      else
        false) fun m1 =>
  m1
def M.impl_Spin_numbers (p0 : SSpin) : List Nat :=
  [p0.w, p0.x, p0.y, p0.z]
noncomputable def M.impl_IsSpin (p0 : SSpin) : Option Bool :=
  (Option.bind (
      letv (M.impl_Spin_numbers p0) fun m5 =>
      (M.impl_finite m5).bind fun m10 =>
      bif m10 then
        bif (fcmp .neq .f32 p0.w 0) then
          some true
        else
          bif (fcmp .neq .f32 p0.x 0) then
            some true
          else
            bif (fcmp .neq .f32 p0.y 0) then
              some true
            else
              some (fcmp .neq .f32 p0.z 0)
      else
        some false) fun m4 =>
  some m4)
noncomputable def M.impl_ValidTop (p0 : STop) : Option Bool :=
  (Option.bind (
      letv (M.impl_lengthOk p0.moments.x) fun m13 =>
      bif m13 then
        letv (M.impl_lengthOk p0.moments.y) fun m18 =>
        bif m18 then
          letv (M.impl_lengthOk p0.moments.z) fun m24 =>
          bif m24 then
            (M.impl_IsSpin p0.turn).bind fun m30 =>
            bif m30 then
              (M.impl_finiteVector p0.speed).bind fun m36 =>
              some m36
            else
              some false
          else
            some false
        else
          some false
      else
        some false) fun m11 =>
  some m11)
def M.impl_in (p0 : Int) (p1 : Int) (p2 : Int) : Bool :=
  letv (
      bif (icmp .geq p0 p1) then
        (icmp .leq p0 p2)
      else
        false) fun m1 =>
  m1
def M.impl_RunTop_1 (p0 : STop) (p1 : SVector) : SVector × Bool :=
  (p1, true)
def M.impl_Top_rate_1 (p0 : Nat) (p1 : Nat) (p2 : Nat) (p3 : Nat) (p4 : Nat) (p5 : Nat) : Nat :=
  (fop .quo .f32 (fop .add .f32 (fop .mul .f32 (fop .sub .f32 p0 p1) (fop .mul .f32 p3 p4)) p5) p2)
def M.impl_Top_rate (p0 : STop) (p1 : SVector) (p2 : SVector) : SVector :=
  letv (M.impl_Top_rate_1 p0.moments.y p0.moments.z p0.moments.x p1.y p1.z p2.x) fun m31 =>
  letv (M.impl_Top_rate_1 p0.moments.z p0.moments.x p0.moments.y p1.z p1.x p2.y) fun m32 =>
  letv (M.impl_Top_rate_1 p0.moments.x p0.moments.y p0.moments.z p1.x p1.y p2.z) fun m33 =>
  (⟨m31, m32, m33⟩ : SVector)
def M.impl_ScaleVector (p0 : SVector) (p1 : Nat) : SVector :=
  (⟨(fop .mul .f32 p0.x p1), (fop .mul .f32 p0.y p1), (fop .mul .f32 p0.z p1)⟩ : SVector)
def M.impl_AddVectors (p0 : SVector) (p1 : SVector) : SVector :=
  (⟨(fop .add .f32 p0.x p1.x), (fop .add .f32 p0.y p1.y), (fop .add .f32 p0.z p1.z)⟩ : SVector)
def M.impl_signed (p0 : Arr4Nat) (p1 : Arr4Nat) (p2 : Arr3Nat) : Nat :=
  (fop .add .f32 (fop .add .f32 (fop .add .f32 (fop .mul .f32 p0.a0 p1.a0) (fop .mul .f32 p2.a0 (fop .mul .f32 p0.a1 p1.a1))) (fop .mul .f32 p2.a1 (fop .mul .f32 p0.a2 p1.a2))) (fop .mul .f32 p2.a2 (fop .mul .f32 p0.a3 p1.a3)))
def M.impl_TimesSpins (p0 : SSpin) (p1 : SSpin) : SSpin :=
  letv (M.impl_signed (⟨p0.w, p0.x, p0.y, p0.z⟩ : Arr4Nat) (⟨p1.w, p1.x, p1.y, p1.z⟩ : Arr4Nat) (⟨3212836864, 3212836864, 3212836864⟩ : Arr3Nat)) fun m17 =>
  letv (M.impl_signed (⟨p0.w, p0.x, p0.y, p0.z⟩ : Arr4Nat) (⟨p1.x, p1.w, p1.z, p1.y⟩ : Arr4Nat) (⟨1065353216, 1065353216, 3212836864⟩ : Arr3Nat)) fun m18 =>
  letv (M.impl_signed (⟨p0.w, p0.x, p0.y, p0.z⟩ : Arr4Nat) (⟨p1.y, p1.z, p1.w, p1.x⟩ : Arr4Nat) (⟨3212836864, 1065353216, 1065353216⟩ : Arr3Nat)) fun m19 =>
  letv (M.impl_signed (⟨p0.w, p0.x, p0.y, p0.z⟩ : Arr4Nat) (⟨p1.z, p1.y, p1.x, p1.w⟩ : Arr4Nat) (⟨1065353216, 3212836864, 1065353216⟩ : Arr3Nat)) fun m20 =>
  (⟨m17, m18, m19, m20⟩ : SSpin)
def M.impl_along (p0 : SSpin) (p1 : SSpin) (p2 : Nat) : SSpin :=
  (⟨(fop .add .f32 p0.w (fop .mul .f32 p2 p1.w)), (fop .add .f32 p0.x (fop .mul .f32 p2 p1.x)), (fop .add .f32 p0.y (fop .mul .f32 p2 p1.y)), (fop .add .f32 p0.z (fop .mul .f32 p2 p1.z))⟩ : SSpin)
def M.impl_products (p0 : SSpin) (p1 : SSpin) : Nat :=
  (fop .add .f32 (fop .add .f32 (fop .add .f32 (fop .mul .f32 p0.w p1.w) (fop .mul .f32 p0.x p1.x)) (fop .mul .f32 p0.y p1.y)) (fop .mul .f32 p0.z p1.z))
def M.impl_RootNumber (p0 : Nat) : Nat :=
  letv (M.math_Sqrt (widen p0)) fun m3 =>
  (narrow m3)
def M.impl_SizeOfSpin (p0 : SSpin) : Nat :=
  letv (M.impl_products (⟨p0.w, p0.x, p0.y, p0.z⟩ : SSpin) (⟨p0.w, p0.x, p0.y, p0.z⟩ : SSpin)) fun m4 =>
  letv (M.impl_RootNumber m4) fun m7 =>
  m7
noncomputable def M.impl_toldSpin (p0 : SSpin) : Option (SSpin × Bool) :=
  (M.impl_IsSpin p0).bind fun m9 =>
  bif (!m9) then
    some ((⟨0, 0, 0, 0⟩ : SSpin), false)
  else
    some (p0, true)
noncomputable def M.impl_NormSpin (p0 : SSpin) : Option (SSpin × Bool) :=
  (M.impl_IsSpin p0).bind fun m9 =>
  bif (!m9) then
    some ((⟨0, 0, 0, 0⟩ : SSpin), false)
  else
    letv (M.impl_SizeOfSpin (⟨p0.w, p0.x, p0.y, p0.z⟩ : SSpin)) fun m18 =>
    (M.impl_toldSpin (⟨(fop .quo .f32 p0.w m18), (fop .quo .f32 p0.x m18), (fop .quo .f32 p0.y m18), (fop .quo .f32 p0.z m18)⟩ : SSpin)).bind fun m34 =>
    some (m34.1, m34.2)
noncomputable def M.impl_StepTop (p0 : STop) (p1 : SVector) (p2 : Nat) : Option (STop × Bool) :=
  (Option.bind (
      (M.impl_ValidTop p0).bind fun m17 =>
      bif m17 then
        (M.impl_finiteVector p1).bind fun m22 =>
        bif m22 then
          letv (M.impl_IsFinite p2) fun m28 =>
          some (!m28)
        else
          some true
      else
        some true) fun m14 =>
  bif m14 then
    some ((⟨(⟨0, 0, 0⟩ : SVector), (⟨0, 0, 0, 0⟩ : SSpin), (⟨0, 0, 0⟩ : SVector)⟩ : STop), false)
  else
    letv (M.impl_Top_rate (⟨(⟨p0.moments.x, p0.moments.y, p0.moments.z⟩ : SVector), (⟨p0.turn.w, p0.turn.x, p0.turn.y, p0.turn.z⟩ : SSpin), (⟨p0.speed.x, p0.speed.y, p0.speed.z⟩ : SVector)⟩ : STop) (⟨p0.speed.x, p0.speed.y, p0.speed.z⟩ : SVector) (⟨p1.x, p1.y, p1.z⟩ : SVector)) fun m44 =>
    letv (M.impl_ScaleVector (⟨m44.x, m44.y, m44.z⟩ : SVector) (fop .quo .f32 p2 1073741824)) fun m64 =>
    letv (M.impl_AddVectors (⟨p0.speed.x, p0.speed.y, p0.speed.z⟩ : SVector) m64) fun m65 =>
    letv (M.impl_Top_rate (⟨(⟨p0.moments.x, p0.moments.y, p0.moments.z⟩ : SVector), (⟨p0.turn.w, p0.turn.x, p0.turn.y, p0.turn.z⟩ : SSpin), (⟨p0.speed.x, p0.speed.y, p0.speed.z⟩ : SVector)⟩ : STop) m65 (⟨p1.x, p1.y, p1.z⟩ : SVector)) fun m84 =>
    letv (M.impl_TimesSpins (⟨p0.turn.w, p0.turn.x, p0.turn.y, p0.turn.z⟩ : SSpin) (⟨0, m65.x, m65.y, m65.z⟩ : SSpin)) fun m111 =>
    letv (M.impl_along (⟨p0.turn.w, p0.turn.x, p0.turn.y, p0.turn.z⟩ : SSpin) m111 (fop .quo .f32 p2 1073741824)) fun m112 =>
    (M.impl_NormSpin m112).bind fun m113 =>
    letv (M.impl_ScaleVector (⟨m84.x, m84.y, m84.z⟩ : SVector) p2) fun m147 =>
    letv (M.impl_AddVectors (⟨p0.speed.x, p0.speed.y, p0.speed.z⟩ : SVector) m147) fun m148 =>
    (Option.bind (
        bif m113.2 then
          (M.impl_finiteVector (⟨m44.x, m44.y, m44.z⟩ : SVector)).bind fun m177 =>
          bif m177 then
            (M.impl_finiteVector (⟨m65.x, m65.y, m65.z⟩ : SVector)).bind fun m182 =>
            bif m182 then
              (M.impl_finiteVector (⟨m84.x, m84.y, m84.z⟩ : SVector)).bind fun m191 =>
              bif m191 then
                (M.impl_ValidTop (⟨(⟨p0.moments.x, p0.moments.y, p0.moments.z⟩ : SVector), m113.1, m148⟩ : STop)).bind fun m200 =>
                some (!m200)
              else
                some true
            else
              some true
          else
            some true
        else
          some true) fun m171 =>
    bif m171 then
      some ((⟨(⟨0, 0, 0⟩ : SVector), (⟨0, 0, 0, 0⟩ : SSpin), (⟨0, 0, 0⟩ : SVector)⟩ : STop), false)
    else
      some ((⟨(⟨p0.moments.x, p0.moments.y, p0.moments.z⟩ : SVector), m113.1, m148⟩ : STop), true)))
def M.impl_Spin_vector (p0 : SSpin) : SVector :=
  (⟨p0.x, p0.y, p0.z⟩ : SVector)
def M.impl_crossed (p0 : Nat) (p1 : Nat) (p2 : Nat) (p3 : Nat) : Nat :=
  (fop .sub .f32 (fop .mul .f32 p0 p1) (fop .mul .f32 p2 p3))
def M.impl_CrossOf (p0 : SVector) (p1 : SVector) : SVector :=
  letv (M.impl_crossed p0.y p1.z p0.z p1.y) fun m17 =>
  letv (M.impl_crossed p0.z p1.x p0.x p1.z) fun m18 =>
  letv (M.impl_crossed p0.x p1.y p0.y p1.x) fun m19 =>
  (⟨m17, m18, m19⟩ : SVector)
def M.impl_TurnVector (p0 : SSpin) (p1 : SVector) : SVector :=
  letv (M.impl_Spin_vector (⟨p0.w, p0.x, p0.y, p0.z⟩ : SSpin)) fun m14 =>
  letv (M.impl_CrossOf (⟨m14.x, m14.y, m14.z⟩ : SVector) (⟨p1.x, p1.y, p1.z⟩ : SVector)) fun m32 =>
  letv (M.impl_ScaleVector m32 1073741824) fun m37 =>
  letv (M.impl_ScaleVector m37 p0.w) fun m63 =>
  letv (M.impl_AddVectors (⟨p1.x, p1.y, p1.z⟩ : SVector) m63) fun m64 =>
  letv (M.impl_CrossOf (⟨m14.x, m14.y, m14.z⟩ : SVector) m37) fun m65 =>
  letv (M.impl_AddVectors m64 m65) fun m66 =>
  m66
def M.impl_Top_axis (p0 : STop) : SVector :=
  letv (M.impl_TurnVector (⟨p0.turn.w, p0.turn.x, p0.turn.y, p0.turn.z⟩ : SSpin) (⟨0, 0, 1065353216⟩ : SVector)) fun m5 =>
  m5
noncomputable def M.impl_runTop_f27 (p0 : STop) (p1 : Nat) (p2 : Int) (p3c0 : SVector) : Option (STop × List SVector × Bool) :=
  (Option.bind (
      (M.impl_ValidTop p0).bind fun m10 =>
      bif m10 then
        letv (M.impl_IsFinite p1) fun m14 =>
        bif m14 then
          letv (M.impl_in p2 0 128) fun m20 =>
          some (!m20)
        else
          some true
      else
        some true) fun m8 =>
  bif m8 then
    some ((⟨(⟨0, 0, 0⟩ : SVector), (⟨0, 0, 0, 0⟩ : SSpin), (⟨0, 0, 0⟩ : SVector)⟩ : STop), [], false)
  else
    (loopM (fun (s37 : List SVector × Int × STop × STop) =>
        bif (icmp .lss s37.2.1 p2) then
          letv (M.impl_RunTop_1 s37.2.2.2 (⟨p3c0.x, p3c0.y, p3c0.z⟩ : SVector)) fun m41 =>
          (M.impl_StepTop s37.2.2.2 m41.1 p1).bind fun m58 =>
          (Option.bind (
              bif m41.2 then
                bif m58.2 then
                  letv (M.impl_Top_axis m58.1) fun m83 =>
                  (M.impl_finiteVector m83).bind fun m86 =>
                  some (!m86)
                else
                  some true
              else
                some true) fun m77 =>
          bif m77 then
            some (.inr (.inr ([], false, (⟨(⟨0, 0, 0⟩ : SVector), (⟨0, 0, 0, 0⟩ : SSpin), (⟨0, 0, 0⟩ : SVector)⟩ : STop))))
          else
            letv (M.impl_Top_axis m58.1) fun m105 =>
            (app 12 s37.1 ([m105])).bind fun m106 =>
            some (.inl (m106, (IntKind.i64.wrap (s37.2.1 + 1)), s37.2.2.1, m58.1)))
        else
          some (.inr (.inl (s37.1, s37.2.2.1, s37.2.2.2)))) ((([] : List SVector), 0, (⟨(⟨0, 0, 0⟩ : SVector), (⟨0, 0, 0, 0⟩ : SSpin), (⟨0, 0, 0⟩ : SVector)⟩ : STop), (⟨(⟨p0.moments.x, p0.moments.y, p0.moments.z⟩ : SVector), (⟨p0.turn.w, p0.turn.x, p0.turn.y, p0.turn.z⟩ : SSpin), (⟨p0.speed.x, p0.speed.y, p0.speed.z⟩ : SVector)⟩ : STop)) : List SVector × Int × STop × STop)).bind fun m37 =>
    sel m37 (fun m37 =>
      some (m37.2.2, m37.1, true)) (fun m37 =>
      some (m37.2.2, m37.1, m37.2.1)))
noncomputable def M.impl_RunTop (p0 : STop) (p1 : SVector) (p2 : Nat) (p3 : Int) : Option (STop × List SVector × Bool) :=
  (M.impl_finiteVector p1).bind fun m15 =>
  bif (!m15) then
    some ((⟨(⟨0, 0, 0⟩ : SVector), (⟨0, 0, 0, 0⟩ : SSpin), (⟨0, 0, 0⟩ : SVector)⟩ : STop), [], false)
  else
    (M.impl_runTop_f27 (⟨(⟨p0.moments.x, p0.moments.y, p0.moments.z⟩ : SVector), (⟨p0.turn.w, p0.turn.x, p0.turn.y, p0.turn.z⟩ : SSpin), (⟨p0.speed.x, p0.speed.y, p0.speed.z⟩ : SVector)⟩ : STop) p2 p3 (⟨p1.x, p1.y, p1.z⟩ : SVector)).bind fun m25 =>
    some (m25.1, m25.2.1, m25.2.2)
def M.laws_sameFloat (p0 : Nat) (p1 : Nat) : Bool :=
  letv (
      bif (fcmp .neq .f64 p0 p0) then
        true
      else
        (fcmp .neq .f64 p1 p1)) fun m1 =>
  bif m1 then
    letv (
        bif (fcmp .neq .f64 p0 p0) then
          (fcmp .neq .f64 p1 p1)
        else
          false) fun m5 =>
    m5
  else
    letv (
        bif (fcmp .eql .f64 p0 0) then
          (fcmp .eql .f64 p1 0)
        else
          false) fun m8 =>
    bif m8 then
      ((fcmp .gtr .f64 (fop .quo .f64 4607182418800017408 p0) 0) == (fcmp .gtr .f64 (fop .quo .f64 4607182418800017408 p1) 0))
    else
      (fcmp .eql .f64 p0 p1)
def M.laws_eqVector (p0 : SVector) (p1 : SVector) : Bool :=
  letv (M.laws_sameFloat (widen p0.x) (widen p1.x)) fun m14 =>
  bif (!m14) then
    false
  else
    letv (M.laws_sameFloat (widen p0.y) (widen p1.y)) fun m26 =>
    bif (!m26) then
      false
    else
      letv (M.laws_sameFloat (widen p0.z) (widen p1.z)) fun m38 =>
      bif (!m38) then
        false
      else
        true
def M.laws_eqSpin (p0 : SSpin) (p1 : SSpin) : Bool :=
  letv (M.laws_sameFloat (widen p0.w) (widen p1.w)) fun m14 =>
  bif (!m14) then
    false
  else
    letv (M.laws_sameFloat (widen p0.x) (widen p1.x)) fun m26 =>
    bif (!m26) then
      false
    else
      letv (M.laws_sameFloat (widen p0.y) (widen p1.y)) fun m38 =>
      bif (!m38) then
        false
      else
        letv (M.laws_sameFloat (widen p0.z) (widen p1.z)) fun m50 =>
        bif (!m50) then
          false
        else
          true
def M.laws_eqTop (p0 : STop) (p1 : STop) : Bool :=
  letv (M.laws_eqVector (⟨p0.moments.x, p0.moments.y, p0.moments.z⟩ : SVector) (⟨p1.moments.x, p1.moments.y, p1.moments.z⟩ : SVector)) fun m9 =>
  bif (!m9) then
    false
  else
    letv (M.laws_eqSpin (⟨p0.turn.w, p0.turn.x, p0.turn.y, p0.turn.z⟩ : SSpin) (⟨p1.turn.w, p1.turn.x, p1.turn.y, p1.turn.z⟩ : SSpin)) fun m15 =>
    bif (!m15) then
      false
    else
      letv (M.laws_eqVector (⟨p0.speed.x, p0.speed.y, p0.speed.z⟩ : SVector) (⟨p1.speed.x, p1.speed.y, p1.speed.z⟩ : SVector)) fun m21 =>
      bif (!m21) then
        false
      else
        true
noncomputable def M.laws_eqVectorS (p0 : List SVector) (p1 : List SVector) : Option Bool :=
  bif (icmp .neq ((p0).length : Int) ((p1).length : Int)) then
    some false
  else
    (loopM (fun (s2 : Int) =>
        bif (icmp .lss s2 ((p0).length : Int)) then
          (idx p0 s2).bind fun m7 =>
          (idx p1 s2).bind fun m8 =>
          letv (M.laws_eqVector m7 m8) fun m9 =>
          bif (!m9) then
            some (.inr (.inr false))
          else
            some (.inl (IntKind.i64.wrap (s2 + 1)))
        else
          some (.inr (.inl ()))) (0 : Int)).bind fun m2 =>
    sel m2 (fun m2 =>
      some true) (fun m2 =>
      some m2)
noncomputable def M.laws_markVectorS (p0 : List SVector) (p1 : Int) : Option (Int × List SVector) :=
  (loopM (fun (s1 : Int × Int × List SVector) =>
      bif (icmp .lss s1.2.1 ((s1.2.2).length : Int)) then
        (idx s1.2.2 s1.2.1).bind fun m3 =>
        (idx (s1.2.2.set s1.2.1.toNat (⟨(fint .f32 s1.1), m3.y, m3.z⟩ : SVector)) s1.2.1).bind fun m8 =>
        (idx ((s1.2.2.set s1.2.1.toNat (⟨(fint .f32 s1.1), m3.y, m3.z⟩ : SVector)).set s1.2.1.toNat (⟨m8.x, (fint .f32 (IntKind.i64.wrap (s1.1 + 1))), m8.z⟩ : SVector)) s1.2.1).bind fun m13 =>
        some (.inl ((IntKind.i64.wrap ((IntKind.i64.wrap ((IntKind.i64.wrap (s1.1 + 1)) + 1)) + 1)), (IntKind.i64.wrap (s1.2.1 + 1)), (((s1.2.2.set s1.2.1.toNat (⟨(fint .f32 s1.1), m3.y, m3.z⟩ : SVector)).set s1.2.1.toNat (⟨m8.x, (fint .f32 (IntKind.i64.wrap (s1.1 + 1))), m8.z⟩ : SVector)).set s1.2.1.toNat (⟨m13.x, m13.y, (fint .f32 (IntKind.i64.wrap ((IntKind.i64.wrap (s1.1 + 1)) + 1)))⟩ : SVector))))
      else
        some (.inr (s1.1, s1.2.2))) ((p1, 0, p0) : Int × Int × List SVector)).bind fun m1 =>
  some (m1.1, m1.2)
noncomputable def M.laws_heldVectorS (p0 : List SVector) (p1 : Int) : Option Int :=
  (loopM (fun (s1 : Int × Int) =>
      bif (icmp .lss s1.2 ((p0).length : Int)) then
        (idx p0 s1.2).bind fun m4 =>
        bif (fcmp .neq .f32 m4.x (fint .f32 s1.1)) then
          some (.inr (.inr (-1)))
        else
          (idx p0 s1.2).bind fun m7 =>
          bif (fcmp .neq .f32 m7.y (fint .f32 (IntKind.i64.wrap (s1.1 + 1)))) then
            some (.inr (.inr (-1)))
          else
            (idx p0 s1.2).bind fun m10 =>
            bif (fcmp .neq .f32 m10.z (fint .f32 (IntKind.i64.wrap ((IntKind.i64.wrap (s1.1 + 1)) + 1)))) then
              some (.inr (.inr (-1)))
            else
              some (.inl ((IntKind.i64.wrap ((IntKind.i64.wrap ((IntKind.i64.wrap (s1.1 + 1)) + 1)) + 1)), (IntKind.i64.wrap (s1.2 + 1))))
      else
        some (.inr (.inl s1.1))) ((p1, 0) : Int × Int)).bind fun m1 =>
  sel m1 (fun m1 =>
    some m1) (fun m1 =>
    some m1)
noncomputable def M.laws_FnExactRunTop (p0 : STop) (p1 : SVector) (p2 : Nat) (p3 : Int) : Option Bool :=
  letv (M.laws_toTop p0) fun m10 =>
  letv (M.laws_toVector p1) fun m11 =>
  (M.spec_RunTop m10 m11 p2 p3).bind fun m12 =>
  letv (M.laws_toTop p0) fun m36 =>
  letv (M.laws_toVector p1) fun m37 =>
  (M.impl_RunTop m36 m37 p2 p3).bind fun m38 =>
  (Option.bind (
      letv (M.laws_eqTop (⟨(⟨m38.1.moments.x, m38.1.moments.y, m38.1.moments.z⟩ : SVector), (⟨m38.1.turn.w, m38.1.turn.x, m38.1.turn.y, m38.1.turn.z⟩ : SSpin), (⟨m38.1.speed.x, m38.1.speed.y, m38.1.speed.z⟩ : SVector)⟩ : STop) (⟨(⟨m12.1.moments.x, m12.1.moments.y, m12.1.moments.z⟩ : SVector), (⟨m12.1.turn.w, m12.1.turn.x, m12.1.turn.y, m12.1.turn.z⟩ : SSpin), (⟨m12.1.speed.x, m12.1.speed.y, m12.1.speed.z⟩ : SVector)⟩ : STop)) fun m68 =>
      bif m68 then
        (M.laws_eqVectorS m38.2.1 m12.2.1).bind fun m72 =>
        bif m72 then
          some (!(m38.2.2 == m12.2.2))
        else
          some true
      else
        some true) fun m63 =>
  bif m63 then
    some false
  else
    (M.laws_markVectorS m38.2.1 1).bind fun m84 =>
    (M.laws_heldVectorS m84.2 1).bind fun m92 =>
    bif (icmp .lss m92 0) then
      some false
    else
      bif (icmp .neq m92 m84.1) then
        some false
      else
        letv (M.laws_toTop (⟨(⟨p0.moments.x, p0.moments.y, p0.moments.z⟩ : SVector), (⟨p0.turn.w, p0.turn.x, p0.turn.y, p0.turn.z⟩ : SSpin), (⟨p0.speed.x, p0.speed.y, p0.speed.z⟩ : SVector)⟩ : STop)) fun m107 =>
        letv (M.laws_toVector (⟨p1.x, p1.y, p1.z⟩ : SVector)) fun m108 =>
        (M.impl_RunTop m107 m108 p2 p3).bind fun m109 =>
        (Option.bind (
            letv (M.laws_eqTop m109.1 (⟨(⟨m12.1.moments.x, m12.1.moments.y, m12.1.moments.z⟩ : SVector), (⟨m12.1.turn.w, m12.1.turn.x, m12.1.turn.y, m12.1.turn.z⟩ : SSpin), (⟨m12.1.speed.x, m12.1.speed.y, m12.1.speed.z⟩ : SVector)⟩ : STop)) fun m140 =>
            bif m140 then
              (M.laws_eqVectorS m109.2.1 m12.2.1).bind fun m144 =>
              bif m144 then
                some (!(m109.2.2 == m12.2.2))
              else
                some true
            else
              some true) fun m136 =>
        bif m136 then
          some false
        else
          (M.laws_heldVectorS m84.2 1).bind fun m155 =>
          bif (icmp .lss m155 0) then
            some false
          else
            bif (icmp .neq m155 m84.1) then
              some false
            else
              some true))
noncomputable def M.spec_RunHeavy (p0 : STop) (p1 : Nat) (p2 : Nat) (p3 : Nat) (p4 : Int) : Option (STop × List SVector × Bool) :=
  letv (
      letv (M.spec_l04Is p0) fun m10 =>
      bif m10 then
        letv (M.spec_l01Finite p1) fun m14 =>
        bif m14 then
          letv (M.spec_l01Finite p2) fun m20 =>
          bif m20 then
            letv (M.spec_l01Finite p3) fun m26 =>
            bif m26 then
              letv (M.spec_l04Steps p4) fun m32 =>
              (!m32)
            else
              true
          else
            true
        else
          true
      else
        true) fun m8 =>
  bif m8 then
    some ((⟨(⟨0, 0, 0⟩ : SVector), (⟨0, 0, 0, 0⟩ : SSpin), (⟨0, 0, 0⟩ : SVector)⟩ : STop), [], false)
  else
    (M.spec_l04Run p0 (⟨0, 0, 0⟩ : SVector) p1 p2 p3 p4 true).bind fun m44 =>
    some (m44.1, m44.2.1, m44.2.2)
def M.impl_BackSpin (p0 : SSpin) : SSpin :=
  (⟨p0.w, (fneg .f32 p0.x), (fneg .f32 p0.y), (fneg .f32 p0.z)⟩ : SSpin)
noncomputable def M.impl_toldVector (p0 : SVector) : Option (SVector × Bool) :=
  (M.impl_finiteVector p0).bind fun m9 =>
  bif (!m9) then
    some ((⟨0, 0, 0⟩ : SVector), false)
  else
    some (p0, true)
noncomputable def M.impl_HeavyTorque (p0 : STop) (p1 : Nat) (p2 : Nat) : Option (SVector × Bool) :=
  (Option.bind (
      (M.impl_ValidTop p0).bind fun m10 =>
      bif m10 then
        (M.impl_finite ([p1, p2])).bind fun m20 =>
        some (!m20)
      else
        some true) fun m8 =>
  bif m8 then
    some ((⟨0, 0, 0⟩ : SVector), false)
  else
    letv (M.impl_BackSpin (⟨p0.turn.w, p0.turn.x, p0.turn.y, p0.turn.z⟩ : SSpin)) fun m32 =>
    letv (M.impl_TurnVector m32 (⟨0, 0, (fneg .f32 p2)⟩ : SVector)) fun m37 =>
    letv (M.impl_CrossOf (⟨0, 0, p1⟩ : SVector) m37) fun m42 =>
    (M.impl_toldVector m42).bind fun m47 =>
    some (m47.1, m47.2))
noncomputable def M.impl_RunHeavy_1 (p0 : STop) (p1 : Nat) (p2 : Nat) : Option (SVector × Bool) :=
  (M.impl_HeavyTorque p0 p1 p2).bind fun m11 =>
  some (m11.1, m11.2)
noncomputable def M.impl_runTop_f33 (p0 : STop) (p1 : Nat) (p2 : Int) (p3c0 : Nat) (p3c1 : Nat) : Option (STop × List SVector × Bool) :=
  (Option.bind (
      (M.impl_ValidTop p0).bind fun m10 =>
      bif m10 then
        letv (M.impl_IsFinite p1) fun m14 =>
        bif m14 then
          letv (M.impl_in p2 0 128) fun m20 =>
          some (!m20)
        else
          some true
      else
        some true) fun m8 =>
  bif m8 then
    some ((⟨(⟨0, 0, 0⟩ : SVector), (⟨0, 0, 0, 0⟩ : SSpin), (⟨0, 0, 0⟩ : SVector)⟩ : STop), [], false)
  else
    (loopM (fun (s37 : List SVector × Int × STop × STop) =>
        bif (icmp .lss s37.2.1 p2) then
          (M.impl_RunHeavy_1 s37.2.2.2 p3c0 p3c1).bind fun m41 =>
          (M.impl_StepTop s37.2.2.2 m41.1 p1).bind fun m59 =>
          (Option.bind (
              bif m41.2 then
                bif m59.2 then
                  letv (M.impl_Top_axis m59.1) fun m84 =>
                  (M.impl_finiteVector m84).bind fun m87 =>
                  some (!m87)
                else
                  some true
              else
                some true) fun m78 =>
          bif m78 then
            some (.inr (.inr ([], false, (⟨(⟨0, 0, 0⟩ : SVector), (⟨0, 0, 0, 0⟩ : SSpin), (⟨0, 0, 0⟩ : SVector)⟩ : STop))))
          else
            letv (M.impl_Top_axis m59.1) fun m107 =>
            (app 12 s37.1 ([m107])).bind fun m108 =>
            some (.inl (m108, (IntKind.i64.wrap (s37.2.1 + 1)), s37.2.2.1, m59.1)))
        else
          some (.inr (.inl (s37.1, s37.2.2.1, s37.2.2.2)))) ((([] : List SVector), 0, (⟨(⟨0, 0, 0⟩ : SVector), (⟨0, 0, 0, 0⟩ : SSpin), (⟨0, 0, 0⟩ : SVector)⟩ : STop), p0) : List SVector × Int × STop × STop)).bind fun m37 =>
    sel m37 (fun m37 =>
      some (m37.2.2, m37.1, true)) (fun m37 =>
      some (m37.2.2, m37.1, m37.2.1)))
noncomputable def M.impl_RunHeavy (p0 : STop) (p1 : Nat) (p2 : Nat) (p3 : Nat) (p4 : Int) : Option (STop × List SVector × Bool) :=
  (M.impl_finite ([p1, p2])).bind fun m31 =>
  bif (!m31) then
    some ((⟨(⟨0, 0, 0⟩ : SVector), (⟨0, 0, 0, 0⟩ : SSpin), (⟨0, 0, 0⟩ : SVector)⟩ : STop), [], false)
  else
    (M.impl_runTop_f33 (⟨(⟨p0.moments.x, p0.moments.y, p0.moments.z⟩ : SVector), (⟨p0.turn.w, p0.turn.x, p0.turn.y, p0.turn.z⟩ : SSpin), (⟨p0.speed.x, p0.speed.y, p0.speed.z⟩ : SVector)⟩ : STop) p3 p4 p1 p2).bind fun m44 =>
    some (m44.1, m44.2.1, m44.2.2)
noncomputable def M.laws_FnExactRunHeavy (p0 : STop) (p1 : Nat) (p2 : Nat) (p3 : Nat) (p4 : Int) : Option Bool :=
  letv (M.laws_toTop p0) fun m4 =>
  (M.spec_RunHeavy m4 p1 p2 p3 p4).bind fun m7 =>
  letv (M.laws_toTop p0) fun m23 =>
  (M.impl_RunHeavy m23 p1 p2 p3 p4).bind fun m27 =>
  (Option.bind (
      letv (M.laws_eqTop m27.1 (⟨(⟨m7.1.moments.x, m7.1.moments.y, m7.1.moments.z⟩ : SVector), (⟨m7.1.turn.w, m7.1.turn.x, m7.1.turn.y, m7.1.turn.z⟩ : SSpin), (⟨m7.1.speed.x, m7.1.speed.y, m7.1.speed.z⟩ : SVector)⟩ : STop)) fun m55 =>
      bif m55 then
        (M.laws_eqVectorS m27.2.1 m7.2.1).bind fun m59 =>
        bif m59 then
          some (!(m27.2.2 == m7.2.2))
        else
          some true
      else
        some true) fun m50 =>
  bif m50 then
    some false
  else
    (M.laws_markVectorS m27.2.1 1).bind fun m70 =>
    (M.laws_heldVectorS m70.2 1).bind fun m77 =>
    bif (icmp .lss m77 0) then
      some false
    else
      bif (icmp .neq m77 m70.1) then
        some false
      else
        letv (M.laws_toTop (⟨(⟨p0.moments.x, p0.moments.y, p0.moments.z⟩ : SVector), (⟨p0.turn.w, p0.turn.x, p0.turn.y, p0.turn.z⟩ : SSpin), (⟨p0.speed.x, p0.speed.y, p0.speed.z⟩ : SVector)⟩ : STop)) fun m86 =>
        (M.impl_RunHeavy m86 p1 p2 p3 p4).bind fun m92 =>
        (Option.bind (
            letv (M.laws_eqTop m92.1 (⟨(⟨m7.1.moments.x, m7.1.moments.y, m7.1.moments.z⟩ : SVector), (⟨m7.1.turn.w, m7.1.turn.x, m7.1.turn.y, m7.1.turn.z⟩ : SSpin), (⟨m7.1.speed.x, m7.1.speed.y, m7.1.speed.z⟩ : SVector)⟩ : STop)) fun m124 =>
            bif m124 then
              (M.laws_eqVectorS m92.2.1 m7.2.1).bind fun m128 =>
              bif m128 then
                some (!(m92.2.2 == m7.2.2))
              else
                some true
            else
              some true) fun m119 =>
        bif m119 then
          some false
        else
          (M.laws_heldVectorS m70.2 1).bind fun m139 =>
          bif (icmp .lss m139 0) then
            some false
          else
            bif (icmp .neq m139 m70.1) then
              some false
            else
              some true))
end Go.Proofs
