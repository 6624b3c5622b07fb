import Derived.Test.YtdcienojgkioiaaGreatDoorRy
/- Models of the functions, printed by a program (gen2.py) out of the loaded program. No program in sight. -/
namespace Go.Proofs
open Go Go.Fl Go.RowKit Go.Rg
set_option linter.unusedVariables false
structure SVector where
  x : Nat
  y : Nat
  z : Nat
structure SRod where
  a : Int
  b : Int
  long : Nat
structure SChain where
  places : List SVector
  before : List SVector
  weights : List Nat
  rods : List SRod
def encS : Enc (List UInt8) := ⟨1, fun x => [.string (bs x)], fun _ => rfl, fun _ => rfl⟩
theorem dec_encS {vs : List Value} {x : List UInt8} (h : vs.map cnv = encS.f x) : vs = [.string (bs x)] := by
  obtain ⟨v1, e0, h1⟩ := cnv_s h
  have en := cnv_nil h1
  subst en e0
  exact rfl
def encSVector : Enc SVector := ⟨3, fun x => [.float .f32 x.x, .float .f32 x.y, .float .f32 x.z], fun _ => rfl, fun _ => rfl⟩
theorem dec_encSVector {vs : List Value} {x : SVector} (h : vs.map cnv = encSVector.f x) : ∃ r0 : Nat, ∃ r1 : Nat, ∃ r2 : Nat, vs = [.float .f32 r0, .float .f32 r1, .float .f32 r2] ∧ cn .f32 r0 = x.x ∧ cn .f32 r1 = x.y ∧ cn .f32 r2 = x.z := by
  obtain ⟨r0, v1, e0, c0, h1⟩ := cnv_f h
  obtain ⟨r1, v2, e1, c1, h2⟩ := cnv_f h1
  obtain ⟨r2, v3, e2, c2, h3⟩ := cnv_f h2
  have en := cnv_nil h3
  subst en e2 e1 e0
  exact ⟨r0, r1, r2, rfl, c0, c1, c2⟩
def encF_f32 : Enc Nat := ⟨1, fun x => [.float .f32 x], fun _ => rfl, fun _ => rfl⟩
theorem dec_encF_f32 {vs : List Value} {x : Nat} (h : vs.map cnv = encF_f32.f x) : ∃ r0 : Nat, vs = [.float .f32 r0] ∧ cn .f32 r0 = x := by
  obtain ⟨r0, v1, e0, c0, h1⟩ := cnv_f h
  have en := cnv_nil h1
  subst en e0
  exact ⟨r0, rfl, c0⟩
def encSRod : Enc SRod := ⟨3, fun x => [.int .i64 x.a, .int .i64 x.b, .float .f32 x.long], fun _ => rfl, fun _ => rfl⟩
theorem dec_encSRod {vs : List Value} {x : SRod} (h : vs.map cnv = encSRod.f x) : ∃ r2 : Nat, vs = [.int .i64 x.a, .int .i64 x.b, .float .f32 r2] ∧ cn .f32 r2 = x.long := by
  obtain ⟨v1, e0, h1⟩ := cnv_i h
  obtain ⟨v2, e1, h2⟩ := cnv_i h1
  obtain ⟨r2, v3, e2, c2, h3⟩ := cnv_f h2
  have en := cnv_nil h3
  subst en e2 e1 e0
  exact ⟨r2, rfl, c2⟩
def encI_i64 : Enc Int := ⟨1, fun x => [.int .i64 x], fun _ => rfl, fun _ => rfl⟩
theorem dec_encI_i64 {vs : List Value} {x : Int} (h : vs.map cnv = encI_i64.f x) : vs = [.int .i64 x] := by
  obtain ⟨v1, e0, h1⟩ := cnv_i h
  have en := cnv_nil h1
  subst en e0
  exact rfl
def encI_u8 : Enc Int := ⟨1, fun x => [.int .u8 x], fun _ => rfl, fun _ => rfl⟩
theorem dec_encI_u8 {vs : List Value} {x : Int} (h : vs.map cnv = encI_u8.f x) : vs = [.int .u8 x] := by
  obtain ⟨v1, e0, h1⟩ := cnv_i h
  have en := cnv_nil h1
  subst en e0
  exact rfl
noncomputable def M.spec_l01Cut (p0 : List UInt8) (p1 : Int) : Option (List (List UInt8)) :=
  (loopM (fun (s3 : List (List UInt8) × Int × Int) =>
      bif (icmp .leq s3.2.2 ((p0).length : Int)) then
        (Option.bind (
            bif (icmp .eql s3.2.2 ((p0).length : Int)) then
              some true
            else
              (sidx p0 s3.2.2).bind fun m7 =>
              some (icmp .eql m7 p1)) fun m5 =>
        bif m5 then
          (ssub p0 s3.2.1 s3.2.2).bind fun m10 =>
          (app 16 s3.1 ([m10])).bind fun m15 =>
          some (.inl (m15, (IntKind.i64.wrap (s3.2.2 + 1)), (IntKind.i64.wrap (s3.2.2 + 1))))
        else
          some (.inl (s3.1, s3.2.1, (IntKind.i64.wrap (s3.2.2 + 1)))))
      else
        some (.inr s3.1)) ((([] : List (List UInt8)), 0, 0) : List (List UInt8) × Int × Int)).bind fun m3 =>
  some m3
def M.spec_l01From (p0 : Int) : Nat :=
  (cn .f32 (((IntKind.u32.wrap p0)).toNat))
def M.spec_l01Bits (p0 : Nat) : Int :=
  bif (fcmp .neq .f32 p0 p0) then
    2143289344
  else
    (IntKind.i64.wrap (p0 : Int))
noncomputable def M.spec_l01NRead (p0 : List UInt8) : Option (List Nat × Bool) :=
  bif (p0 == ([110, 111, 110, 101] : List UInt8)) then
    some (([] : List Nat), true)
  else
    (M.spec_l01Cut p0 44).bind fun m4 =>
    bif (icmp .gtr ((m4).length : Int) 256) then
      some ([], false)
    else
      (loopM (fun (s10 : List Nat × Int) =>
          bif (icmp .lss s10.2 ((m4).length : Int)) then
            (idx m4 s10.2).bind fun m13 =>
            bif (icmp .neq ((m13).length : Int) 8) then
              some (.inr (.inr ([], false)))
            else
              (loopM (fun (s17 : Int × Int) =>
                  bif (icmp .lss s17.2 8) then
                    (idx m4 s10.2).bind fun m19 =>
                    (sidx m19 s17.2).bind fun m22 =>
                    letv (
                        bif (icmp .geq m22 48) then
                          (icmp .leq m22 57)
                        else
                          false) fun m23 =>
                    bif m23 then
                      letv (
                          bif (icmp .geq m22 97) then
                            (icmp .leq m22 102)
                          else
                            false) fun m27 =>
                      bif m27 then
                        bif (icmp .lss (IntKind.i64.wrap ((IntKind.i64.wrap (IntKind.u8.wrap (m22 - 97))) + 10)) 0) then
                          some (.inr (.inr ([], false)))
                        else
                          some (.inl ((IntKind.i64.wrap ((IntKind.i64.wrap (16 * s17.1)) + (IntKind.i64.wrap ((IntKind.i64.wrap (IntKind.u8.wrap (m22 - 97))) + 10)))), (IntKind.i64.wrap (s17.2 + 1))))
                      else
                        bif (icmp .lss (IntKind.i64.wrap (IntKind.u8.wrap (m22 - 48))) 0) then
                          some (.inr (.inr ([], false)))
                        else
                          some (.inl ((IntKind.i64.wrap ((IntKind.i64.wrap (16 * s17.1)) + (IntKind.i64.wrap (IntKind.u8.wrap (m22 - 48))))), (IntKind.i64.wrap (s17.2 + 1))))
                    else
                      letv (
                          bif (icmp .geq m22 97) then
                            (icmp .leq m22 102)
                          else
                            false) fun m39 =>
                      bif m39 then
                        bif (icmp .lss (IntKind.i64.wrap ((IntKind.i64.wrap (IntKind.u8.wrap (m22 - 97))) + 10)) 0) then
                          some (.inr (.inr ([], false)))
                        else
                          some (.inl ((IntKind.i64.wrap ((IntKind.i64.wrap (16 * s17.1)) + (IntKind.i64.wrap ((IntKind.i64.wrap (IntKind.u8.wrap (m22 - 97))) + 10)))), (IntKind.i64.wrap (s17.2 + 1))))
                      else
                        some (.inr (.inr ([], false)))
                  else
                    some (.inr (.inl s17.1))) ((0, 0) : Int × Int)).bind fun m17 =>
              sel m17 (fun m17 =>
                letv (M.spec_l01From m17) fun m48 =>
                letv (M.spec_l01Bits m48) fun m51 =>
                bif (icmp .neq m51 m17) then
                  some (.inr (.inr ([], false)))
                else
                  (app 4 s10.1 ([m48])).bind fun m63 =>
                  some (.inl (m63, (IntKind.i64.wrap (s10.2 + 1))))) (fun m17 =>
                some (.inr (.inr (m17.1, m17.2))))
          else
            some (.inr (.inl s10.1))) ((([] : List Nat), 0) : List Nat × Int)).bind fun m10 =>
      sel m10 (fun m10 =>
        some (m10, true)) (fun m10 =>
        some (m10.1, m10.2))
noncomputable def M.spec_l01VRead (p0 : List UInt8) : Option (SVector × Bool) :=
  (M.spec_l01NRead p0).bind fun m4 =>
  letv (
      bif m4.2 then
        (icmp .neq ((m4.1).length : Int) 3)
      else
        true) fun m9 =>
  bif m9 then
    some ((⟨0, 0, 0⟩ : SVector), false)
  else
    (idx m4.1 0).bind fun m21 =>
    (idx m4.1 1).bind fun m22 =>
    (idx m4.1 2).bind fun m23 =>
    some ((⟨m21, m22, m23⟩ : SVector), true)
noncomputable def M.spec_l08ReadVectors (p0 : List UInt8) : Option (List SVector × Bool) :=
  bif (p0 == ([110, 111, 110, 101] : List UInt8)) then
    some (([] : List SVector), true)
  else
    (M.spec_l01Cut p0 47).bind fun m4 =>
    (loopM (fun (s9 : List SVector × Int) =>
        bif (icmp .lss s9.2 ((m4).length : Int)) then
          (idx m4 s9.2).bind fun m12 =>
          (M.spec_l01VRead m12).bind fun m15 =>
          bif (!m15.2) then
            some (.inr (.inr ([], false)))
          else
            (app 12 s9.1 ([m15.1])).bind fun m38 =>
            some (.inl (m38, (IntKind.i64.wrap (s9.2 + 1))))
        else
          some (.inr (.inl s9.1))) ((([] : List SVector), 0) : List SVector × Int)).bind fun m9 =>
    sel m9 (fun m9 =>
      some (m9, true)) (fun m9 =>
      some (m9.1, m9.2))
def M.spec_l00In (p0 : Int) (p1 : Int) (p2 : Int) : Bool :=
  letv (
      bif (icmp .geq p0 p1) then
        (icmp .leq p0 p2)
      else
        false) fun m1 =>
  m1
noncomputable def M.spec_l01Dec (p0 : Int) : Option (List UInt8) :=
  (loopM (fun (s3 : List Int × Int) =>
      letv (
          bif (icmp .eql ((s3.1).length : Int) 0) then
            true
          else
            (icmp .neq s3.2 0)) fun m4 =>
      bif m4 then
        bif (icmp .lss ((s3.2).tmod 10) 0) then
          (app 1 ([(IntKind.u8.wrap (IntKind.i64.wrap (48 + (IntKind.i64.wrap (0 - ((s3.2).tmod 10))))))]) s3.1).bind fun m13 =>
          some (.inl (m13, (IntKind.i64.wrap ((s3.2).tdiv 10))))
        else
          (app 1 ([(IntKind.u8.wrap (IntKind.i64.wrap (48 + ((s3.2).tmod 10))))]) s3.1).bind fun m22 =>
          some (.inl (m22, (IntKind.i64.wrap ((s3.2).tdiv 10))))
      else
        some (.inr s3.1)) ((([] : List Int), p0) : List Int × Int)).bind fun m3 =>
  bif (icmp .lss p0 0) then
    (app 1 ([45]) m3).bind fun m32 =>
    some (u8s m32)
  else
    some (u8s m3)
noncomputable def M.spec_l01Value (p0 : List UInt8) : Option (Int × Bool) :=
  letv (
      bif (icmp .lss ((p0).length : Int) 1) then
        true
      else
        (icmp .gtr ((p0).length : Int) 17)) fun m1 =>
  bif m1 then
    some (0, false)
  else
    (loopM (fun (s5 : Int × Int) =>
        bif (icmp .lss s5.2 ((p0).length : Int)) then
          (Option.bind (
              (sidx p0 s5.2).bind fun m8 =>
              bif (icmp .geq m8 48) then
                (sidx p0 s5.2).bind fun m10 =>
                some (icmp .leq m10 57)
              else
                some false) fun m7 =>
          bif m7 then
            (sidx p0 s5.2).bind fun m13 =>
            some (.inl ((IntKind.i64.wrap ((IntKind.i64.wrap (10 * s5.1)) + (IntKind.i64.wrap (IntKind.u8.wrap (m13 - 48))))), (IntKind.i64.wrap (s5.2 + 1))))
          else
            some (.inl (s5.1, (IntKind.i64.wrap (s5.2 + 1)))))
        else
          some (.inr s5.1)) ((0, 0) : Int × Int)).bind fun m5 =>
    (sidx p0 0).bind fun m14 =>
    bif (icmp .eql m14 45) then
      (Option.bind (
          letv (M.spec_l00In (IntKind.i64.wrap (0 - m5)) (-1000000000000000) 1000000000000000) fun m17 =>
          bif m17 then
            (M.spec_l01Dec (IntKind.i64.wrap (0 - m5))).bind fun m21 =>
            some (!(m21 == p0))
          else
            some true) fun m16 =>
      bif m16 then
        some (0, false)
      else
        some ((IntKind.i64.wrap (0 - m5)), true))
    else
      (Option.bind (
          letv (M.spec_l00In m5 (-1000000000000000) 1000000000000000) fun m27 =>
          bif m27 then
            (M.spec_l01Dec m5).bind fun m31 =>
            some (!(m31 == p0))
          else
            some true) fun m26 =>
      bif m26 then
        some (0, false)
      else
        some (m5, true))
noncomputable def M.spec_l01Numbers (p0 : List UInt8) : Option (List Int × Bool) :=
  bif (p0 == ([110, 111, 110, 101] : List UInt8)) then
    some (([] : List Int), true)
  else
    (M.spec_l01Cut p0 44).bind fun m4 =>
    bif (icmp .gtr ((m4).length : Int) 64) then
      some ([], false)
    else
      (loopM (fun (s10 : List Int × Int) =>
          bif (icmp .lss s10.2 ((m4).length : Int)) then
            (idx m4 s10.2).bind fun m13 =>
            (M.spec_l01Value m13).bind fun m16 =>
            bif (!m16.2) then
              some (.inr (.inr ([], false)))
            else
              (app 8 s10.1 ([m16.1])).bind fun m26 =>
              some (.inl (m26, (IntKind.i64.wrap (s10.2 + 1))))
          else
            some (.inr (.inl s10.1))) ((([] : List Int), 0) : List Int × Int)).bind fun m10 =>
      sel m10 (fun m10 =>
        some (m10, true)) (fun m10 =>
        some (m10.1, m10.2))
noncomputable def M.spec_l08ReadRods (p0 : List UInt8) : Option (List SRod × Bool) :=
  bif (p0 == ([110, 111, 110, 101] : List UInt8)) then
    some (([] : List SRod), true)
  else
    (M.spec_l01Cut p0 47).bind fun m4 =>
    (loopM (fun (s9 : List SRod × Int) =>
        bif (icmp .lss s9.2 ((m4).length : Int)) then
          (idx m4 s9.2).bind fun m12 =>
          (M.spec_l01Cut m12 58).bind fun m15 =>
          bif (icmp .neq ((m15).length : Int) 2) then
            some (.inr (.inr ([], false)))
          else
            (idx m15 0).bind fun m23 =>
            (M.spec_l01Numbers m23).bind fun m27 =>
            (idx m15 1).bind fun m37 =>
            (M.spec_l01NRead m37).bind fun m43 =>
            letv (
                bif m27.2 then
                  bif m43.2 then
                    bif (icmp .neq ((m27.1).length : Int) 2) then
                      true
                    else
                      (icmp .neq ((m43.1).length : Int) 1)
                  else
                    true
                else
                  true) fun m54 =>
            bif m54 then
              some (.inr (.inr ([], false)))
            else
              (idx m27.1 0).bind fun m68 =>
              (idx m27.1 1).bind fun m69 =>
              (idx m43.1 0).bind fun m70 =>
              (app 24 s9.1 ([(⟨m68, m69, m70⟩ : SRod)])).bind fun m71 =>
              some (.inl (m71, (IntKind.i64.wrap (s9.2 + 1))))
        else
          some (.inr (.inl s9.1))) ((([] : List SRod), 0) : List SRod × Int)).bind fun m9 =>
    sel m9 (fun m9 =>
      some (m9, true)) (fun m9 =>
      some (m9.1, m9.2))
def M.spec_l01Finite (p0 : Nat) : Bool :=
  (fcmp .eql .f32 (fop .sub .f32 p0 p0) 0)
def M.spec_l01VFinite (p0 : SVector) : Bool :=
  letv (
      letv (M.spec_l01Finite p0.x) fun m5 =>
      bif m5 then
        letv (M.spec_l01Finite p0.y) fun m10 =>
        bif m10 then
          letv (M.spec_l01Finite p0.z) fun m15 =>
          m15
        else
          false
      else
        false) fun m4 =>
  m4
def M.spec_l03Least (p0 : Nat) : Bool :=
  letv (
      letv (M.spec_l01Finite p0) fun m2 =>
      bif m2 then
        (fcmp .geq .f32 p0 0)
      else
        false) fun m1 =>
  m1
noncomputable def M.spec_l03Is (p0 : SChain) : Option Bool :=
  letv (
      bif (icmp .gtr ((p0.places).length : Int) 24) then
        true
      else
        bif (icmp .neq ((p0.before).length : Int) ((p0.places).length : Int)) then
          true
        else
          bif (icmp .neq ((p0.weights).length : Int) ((p0.places).length : Int)) then
            true
          else
            (icmp .gtr ((p0.rods).length : Int) 40)) fun m1 =>
  bif m1 then
    some false
  else
    (loopM (fun (s9 : Int) =>
        bif (icmp .lss s9 ((p0.places).length : Int)) then
          (Option.bind (
              (idx p0.places s9).bind fun m13 =>
              letv (M.spec_l01VFinite m13) fun m16 =>
              bif m16 then
                (idx p0.before s9).bind fun m21 =>
                letv (M.spec_l01VFinite m21) fun m24 =>
                bif m24 then
                  (idx p0.weights s9).bind fun m30 =>
                  letv (M.spec_l03Least m30) fun m33 =>
                  some (!m33)
                else
                  some true
              else
                some true) fun m11 =>
          bif m11 then
            some (.inr (.inr false))
          else
            some (.inl (IntKind.i64.wrap (s9 + 1))))
        else
          some (.inr (.inl ()))) (0 : Int)).bind fun m9 =>
    sel m9 (fun m9 =>
      (loopM (fun (s42 : Int) =>
          bif (icmp .lss s42 ((p0.rods).length : Int)) then
            (idx p0.rods s42).bind fun m45 =>
            letv (
                letv (M.spec_l00In m45.a 0 (IntKind.i64.wrap (((p0.places).length : Int) - 1))) fun m56 =>
                bif m56 then
                  letv (M.spec_l00In m45.b 0 (IntKind.i64.wrap (((p0.places).length : Int) - 1))) fun m61 =>
                  bif m61 then
                    bif (icmp .eql m45.a m45.b) then
                      true
                    else
                      letv (M.spec_l03Least m45.long) fun m67 =>
                      (!m67)
                  else
                    true
                else
                  true) fun m55 =>
            bif m55 then
              some (.inr (.inr false))
            else
              some (.inl (IntKind.i64.wrap (s42 + 1)))
          else
            some (.inr (.inl ()))) (0 : Int)).bind fun m42 =>
      sel m42 (fun m42 =>
        some true) (fun m42 =>
        some m42)) (fun m9 =>
      some m9)
noncomputable def M.spec_l03Give (p0 : SChain) : Option (SChain × Bool) :=
  (M.spec_l03Is p0).bind fun m8 =>
  bif (!m8) then
    some ((⟨[], [], [], []⟩ : SChain), false)
  else
    some (p0, true)
noncomputable def M.spec_l08ReadChain (p0 : List UInt8) : Option (SChain × Bool) :=
  (M.spec_l01Cut p0 59).bind fun m4 =>
  bif (icmp .neq ((m4).length : Int) 4) then
    some ((⟨[], [], [], []⟩ : SChain), false)
  else
    (idx m4 0).bind fun m14 =>
    (M.spec_l08ReadVectors m14).bind fun m17 =>
    (idx m4 1).bind fun m25 =>
    (M.spec_l08ReadVectors m25).bind fun m30 =>
    (idx m4 2).bind fun m39 =>
    (M.spec_l01NRead m39).bind fun m45 =>
    (idx m4 3).bind fun m56 =>
    (M.spec_l08ReadRods m56).bind fun m63 =>
    letv (
        bif m17.2 then
          bif m30.2 then
            bif m45.2 then
              (!m63.2)
            else
              true
          else
            true
        else
          true) fun m76 =>
    bif m76 then
      some ((⟨[], [], [], []⟩ : SChain), false)
    else
      (M.spec_l03Give (⟨m17.1, m30.1, m45.1, m63.1⟩ : SChain)).bind fun m90 =>
      some (m90.1, m90.2)
noncomputable def M.spec_ReadChain (p0 : List UInt8) : Option (SChain × Bool) :=
  (M.spec_l08ReadChain p0).bind fun m4 =>
  some (m4.1, m4.2)
noncomputable def M.strings_Count_s3b (p0 : List UInt8) : Option Int :=
  (sidx ([59] : List UInt8) 0).bind fun m1 =>
  some (scount p0 m1)
def M.internal_stringslite_IndexByte (p0 : List UInt8) (p1 : Int) : Int :=
  (sfind p0 p1)
noncomputable def M.internal_stringslite_Index_s3b (p0 : List UInt8) : Option Int :=
  bif (([59] : List UInt8) == p0) then
    some 0
  else
    (sidx ([59] : List UInt8) 0).bind fun m4 =>
    letv (M.internal_stringslite_IndexByte p0 m4) fun m5 =>
    some m5
noncomputable def M.strings_Index_s3b (p0 : List UInt8) : Option Int :=
  (M.internal_stringslite_Index_s3b p0).bind fun m1 =>
  some m1
noncomputable def M.strings_genSplit_s3b_i64n0_i64m1 (p0 : List UInt8) : Option (List (List UInt8)) :=
  (M.strings_Count_s3b p0).bind fun m1 =>
  (mkl 16 (imin (IntKind.i64.wrap (m1 + 1)) (IntKind.i64.wrap (((p0).length : Int) + 1))) (imin (IntKind.i64.wrap (m1 + 1)) (IntKind.i64.wrap (((p0).length : Int) + 1))) ([] : List UInt8)).bind fun m4 =>
  (loopM (fun (s7 : List UInt8 × Int × List (List UInt8)) =>
      bif (icmp .lss s7.2.1 (IntKind.i64.wrap ((imin (IntKind.i64.wrap (m1 + 1)) (IntKind.i64.wrap (((p0).length : Int) + 1))) - 1))) then
        (M.strings_Index_s3b s7.1).bind fun m9 =>
        bif (icmp .lss m9 0) then
          some (.inr (s7.1, s7.2.1, s7.2.2))
        else
          (ssub s7.1 0 (IntKind.i64.wrap (m9 + 0))).bind fun m14 =>
          (idx s7.2.2 s7.2.1).bind fun m15 =>
          (ssub s7.1 (IntKind.i64.wrap (m9 + 1)) ((s7.1).length : Int)).bind fun m21 =>
          some (.inl (m21, (IntKind.i64.wrap (s7.2.1 + 1)), (s7.2.2.set s7.2.1.toNat m14)))
      else
        some (.inr (s7.1, s7.2.1, s7.2.2))) ((p0, 0, m4) : List UInt8 × Int × List (List UInt8))).bind fun m7 =>
  (idx m7.2.2 m7.2.1).bind fun m22 =>
  (ssub (m7.2.2.set m7.2.1.toNat m7.1) 0 (IntKind.i64.wrap (m7.2.1 + 1))).bind fun m27 =>
  some m27
noncomputable def M.strings_Split_s3b (p0 : List UInt8) : Option (List (List UInt8)) :=
  (M.strings_genSplit_s3b_i64n0_i64m1 p0).bind fun m1 =>
  some m1
noncomputable def M.strings_Count_s2f (p0 : List UInt8) : Option Int :=
  (sidx ([47] : List UInt8) 0).bind fun m1 =>
  some (scount p0 m1)
noncomputable def M.internal_stringslite_Index_s2f (p0 : List UInt8) : Option Int :=
  bif (([47] : List UInt8) == p0) then
    some 0
  else
    (sidx ([47] : List UInt8) 0).bind fun m4 =>
    letv (M.internal_stringslite_IndexByte p0 m4) fun m5 =>
    some m5
noncomputable def M.strings_Index_s2f (p0 : List UInt8) : Option Int :=
  (M.internal_stringslite_Index_s2f p0).bind fun m1 =>
  some m1
noncomputable def M.strings_genSplit_s2f_i64n0_i64m1 (p0 : List UInt8) : Option (List (List UInt8)) :=
  (M.strings_Count_s2f p0).bind fun m1 =>
  (mkl 16 (imin (IntKind.i64.wrap (m1 + 1)) (IntKind.i64.wrap (((p0).length : Int) + 1))) (imin (IntKind.i64.wrap (m1 + 1)) (IntKind.i64.wrap (((p0).length : Int) + 1))) ([] : List UInt8)).bind fun m4 =>
  (loopM (fun (s7 : List UInt8 × Int × List (List UInt8)) =>
      bif (icmp .lss s7.2.1 (IntKind.i64.wrap ((imin (IntKind.i64.wrap (m1 + 1)) (IntKind.i64.wrap (((p0).length : Int) + 1))) - 1))) then
        (M.strings_Index_s2f s7.1).bind fun m9 =>
        bif (icmp .lss m9 0) then
          some (.inr (s7.1, s7.2.1, s7.2.2))
        else
          (ssub s7.1 0 (IntKind.i64.wrap (m9 + 0))).bind fun m14 =>
          (idx s7.2.2 s7.2.1).bind fun m15 =>
          (ssub s7.1 (IntKind.i64.wrap (m9 + 1)) ((s7.1).length : Int)).bind fun m21 =>
          some (.inl (m21, (IntKind.i64.wrap (s7.2.1 + 1)), (s7.2.2.set s7.2.1.toNat m14)))
      else
        some (.inr (s7.1, s7.2.1, s7.2.2))) ((p0, 0, m4) : List UInt8 × Int × List (List UInt8))).bind fun m7 =>
  (idx m7.2.2 m7.2.1).bind fun m22 =>
  (ssub (m7.2.2.set m7.2.1.toNat m7.1) 0 (IntKind.i64.wrap (m7.2.1 + 1))).bind fun m27 =>
  some m27
noncomputable def M.strings_Split_s2f (p0 : List UInt8) : Option (List (List UInt8)) :=
  (M.strings_genSplit_s2f_i64n0_i64m1 p0).bind fun m1 =>
  some m1
noncomputable def M.impl_partedBy (p0 : List UInt8) (p1 : Int) : Option (List (List UInt8) × Bool) :=
  bif (p0 == ([110, 111, 110, 101] : List UInt8)) then
    some ([], true)
  else
    (M.strings_Split_s2f p0).bind fun m2 =>
    some (m2, (icmp .leq ((m2).length : Int) p1))
noncomputable def M.strings_Count_s2c (p0 : List UInt8) : Option Int :=
  (sidx ([44] : List UInt8) 0).bind fun m1 =>
  some (scount p0 m1)
noncomputable def M.internal_stringslite_Index_s2c (p0 : List UInt8) : Option Int :=
  bif (([44] : List UInt8) == p0) then
    some 0
  else
    (sidx ([44] : List UInt8) 0).bind fun m4 =>
    letv (M.internal_stringslite_IndexByte p0 m4) fun m5 =>
    some m5
noncomputable def M.strings_Index_s2c (p0 : List UInt8) : Option Int :=
  (M.internal_stringslite_Index_s2c p0).bind fun m1 =>
  some m1
noncomputable def M.strings_genSplit_s2c_i64n0_i64m1 (p0 : List UInt8) : Option (List (List UInt8)) :=
  (M.strings_Count_s2c p0).bind fun m1 =>
  (mkl 16 (imin (IntKind.i64.wrap (m1 + 1)) (IntKind.i64.wrap (((p0).length : Int) + 1))) (imin (IntKind.i64.wrap (m1 + 1)) (IntKind.i64.wrap (((p0).length : Int) + 1))) ([] : List UInt8)).bind fun m4 =>
  (loopM (fun (s7 : List UInt8 × Int × List (List UInt8)) =>
      bif (icmp .lss s7.2.1 (IntKind.i64.wrap ((imin (IntKind.i64.wrap (m1 + 1)) (IntKind.i64.wrap (((p0).length : Int) + 1))) - 1))) then
        (M.strings_Index_s2c s7.1).bind fun m9 =>
        bif (icmp .lss m9 0) then
          some (.inr (s7.1, s7.2.1, s7.2.2))
        else
          (ssub s7.1 0 (IntKind.i64.wrap (m9 + 0))).bind fun m14 =>
          (idx s7.2.2 s7.2.1).bind fun m15 =>
          (ssub s7.1 (IntKind.i64.wrap (m9 + 1)) ((s7.1).length : Int)).bind fun m21 =>
          some (.inl (m21, (IntKind.i64.wrap (s7.2.1 + 1)), (s7.2.2.set s7.2.1.toNat m14)))
      else
        some (.inr (s7.1, s7.2.1, s7.2.2))) ((p0, 0, m4) : List UInt8 × Int × List (List UInt8))).bind fun m7 =>
  (idx m7.2.2 m7.2.1).bind fun m22 =>
  (ssub (m7.2.2.set m7.2.1.toNat m7.1) 0 (IntKind.i64.wrap (m7.2.1 + 1))).bind fun m27 =>
  some m27
noncomputable def M.strings_Split_s2c (p0 : List UInt8) : Option (List (List UInt8)) :=
  (M.strings_genSplit_s2c_i64n0_i64m1 p0).bind fun m1 =>
  some m1
noncomputable def M.impl_parted (p0 : List UInt8) : Option (List (List UInt8)) :=
  bif (p0 == ([110, 111, 110, 101] : List UInt8)) then
    some ([])
  else
    (M.strings_Split_s2c p0).bind fun m2 =>
    some m2
def M.internal_stringslite_IndexByte_s30313233343536373839616263646566 (p1 : Int) : Int :=
  (sfind ([48, 49, 50, 51, 52, 53, 54, 55, 56, 57, 97, 98, 99, 100, 101, 102] : List UInt8) p1)
def M.strings_IndexByte_s30313233343536373839616263646566 (p1 : Int) : Int :=
  letv (M.internal_stringslite_IndexByte_s30313233343536373839616263646566 p1) fun m1 =>
  m1
def M.impl_in (p0 : Int) (p1 : Int) (p2 : Int) : Bool :=
  letv (
      bif (icmp .geq p0 p1) then
        (icmp .leq p0 p2)
      else
        false) fun m1 =>
  m1
def M.impl_FromBits (p0 : Int) : Nat × Bool :=
  letv (M.impl_in p0 0 4294967295) fun m1 =>
  bif (!m1) then
    (0, false)
  else
    ((cn .f32 (((IntKind.u32.wrap p0)).toNat)), true)
def M.impl_isNaN (p0 : Nat) : Bool :=
  (fcmp .neq .f32 p0 p0)
def M.impl_BitsOf (p0 : Nat) : Int :=
  letv (M.impl_isNaN p0) fun m1 =>
  bif m1 then
    2143289344
  else
    (IntKind.i64.wrap (p0 : Int))
noncomputable def M.impl_readNumber (p0 : List UInt8) : Option (Nat × Bool) :=
  (loopM (fun (s1 : Int × Int) =>
      bif (icmp .lss s1.2 ((p0).length : Int)) then
        (sidx p0 s1.2).bind fun m3 =>
        letv (M.strings_IndexByte_s30313233343536373839616263646566 m3) fun m4 =>
        letv (
            bif (icmp .lss m4 0) then
              true
            else
              (icmp .eql s1.2 8)) fun m7 =>
        bif m7 then
          some (.inr (.inr (0, false)))
        else
          some (.inl ((IntKind.i64.wrap ((IntKind.i64.wrap (s1.1 * 16)) + m4)), (IntKind.i64.wrap (s1.2 + 1))))
      else
        some (.inr (.inl s1.1))) ((0, 0) : Int × Int)).bind fun m1 =>
  sel m1 (fun m1 =>
    letv (M.impl_FromBits m1) fun m11 =>
    letv (
        bif (icmp .eql ((p0).length : Int) 8) then
          letv (M.impl_BitsOf m11.1) fun m16 =>
          (icmp .eql m16 m1)
        else
          false) fun m14 =>
    some (m11.1, m14)) (fun m1 =>
    some (m1.1, m1.2))
noncomputable def M.impl_ReadNumbers (p0 : List UInt8) : Option (List Nat × Bool) :=
  (M.impl_parted p0).bind fun m3 =>
  (loopM (fun (s8 : List Nat × Int) =>
      bif (icmp .lss s8.2 ((m3).length : Int)) then
        (idx m3 s8.2).bind fun m11 =>
        (M.impl_readNumber m11).bind fun m13 =>
        letv (
            bif m13.2 then
              (icmp .eql ((s8.1).length : Int) 256)
            else
              true) fun m16 =>
        bif m16 then
          some (.inr (.inr ([], false)))
        else
          (app 4 s8.1 ([m13.1])).bind fun m28 =>
          some (.inl (m28, (IntKind.i64.wrap (s8.2 + 1))))
      else
        some (.inr (.inl s8.1))) ((([] : List Nat), 0) : List Nat × Int)).bind fun m8 =>
  sel m8 (fun m8 =>
    some (m8, true)) (fun m8 =>
    some (m8.1, m8.2))
noncomputable def M.impl_ReadVector (p0 : List UInt8) : Option (SVector × Bool) :=
  (M.impl_ReadNumbers p0).bind fun m4 =>
  letv (
      bif m4.2 then
        (icmp .neq ((m4.1).length : Int) 3)
      else
        true) fun m9 =>
  bif m9 then
    some ((⟨0, 0, 0⟩ : SVector), false)
  else
    (idx m4.1 0).bind fun m21 =>
    (idx m4.1 1).bind fun m22 =>
    (idx m4.1 2).bind fun m23 =>
    some ((⟨m21, m22, m23⟩ : SVector), true)
noncomputable def M.impl_readVectors (p0 : List UInt8) : Option (List SVector × Bool) :=
  (M.impl_partedBy p0 24).bind fun m1 =>
  (loopM (fun (s9 : Bool × List SVector × Int) =>
      bif (icmp .lss s9.2.2 ((m1.1).length : Int)) then
        (idx m1.1 s9.2.2).bind fun m11 =>
        (M.impl_ReadVector m11).bind fun m13 =>
        letv (
            bif s9.1 then
              m13.2
            else
              false) fun m26 =>
        (app 12 s9.2.1 ([m13.1])).bind fun m39 =>
        some (.inl (m26, m39, (IntKind.i64.wrap (s9.2.2 + 1))))
      else
        some (.inr (s9.1, s9.2.1))) ((m1.2, ([] : List SVector), 0) : Bool × List SVector × Int)).bind fun m9 =>
  some (m9.2, m9.1)
noncomputable def M.internal_stringslite_Index_s3a (p0 : List UInt8) : Option Int :=
  bif (([58] : List UInt8) == p0) then
    some 0
  else
    (sidx ([58] : List UInt8) 0).bind fun m4 =>
    letv (M.internal_stringslite_IndexByte p0 m4) fun m5 =>
    some m5
noncomputable def M.internal_stringslite_Cut_s3a (p0 : List UInt8) : Option (List UInt8 × List UInt8 × Bool) :=
  (M.internal_stringslite_Index_s3a p0).bind fun m1 =>
  bif (icmp .geq m1 0) then
    (ssub p0 0 m1).bind fun m6 =>
    (ssub p0 (IntKind.i64.wrap (m1 + 1)) ((p0).length : Int)).bind fun m7 =>
    some (m6, m7, true)
  else
    some (p0, ([] : List UInt8), false)
noncomputable def M.strings_Cut_s3a (p0 : List UInt8) : Option (List UInt8 × List UInt8 × Bool) :=
  (M.internal_stringslite_Cut_s3a p0).bind fun m1 =>
  some (m1.1, m1.2.1, m1.2.2)
noncomputable def M.impl_Decimal (p0 : Int) : Option (List UInt8) :=
  (fmt10 p0).bind fun m2 =>
  some m2
noncomputable def M.impl_ReadDecimal (p0 : List UInt8) : Option (Int × Bool) :=
  (pint p0).bind fun m2 =>
  (Option.bind (
      bif m2.2 then
        letv (M.impl_in m2.1 (-1000000000000000) 1000000000000000) fun m6 =>
        bif m6 then
          (M.impl_Decimal m2.1).bind fun m10 =>
          some (!(m10 == p0))
        else
          some true
      else
        some true) fun m4 =>
  bif m4 then
    some (0, false)
  else
    some (m2.1, true))
noncomputable def M.impl_ReadList (p0 : List UInt8) : Option (List Int × Bool) :=
  (M.impl_parted p0).bind fun m3 =>
  (loopM (fun (s8 : List Int × Int) =>
      bif (icmp .lss s8.2 ((m3).length : Int)) then
        (idx m3 s8.2).bind fun m11 =>
        (M.impl_ReadDecimal m11).bind fun m13 =>
        letv (
            bif m13.2 then
              (icmp .eql ((s8.1).length : Int) 64)
            else
              true) fun m16 =>
        bif m16 then
          some (.inr (.inr ([], false)))
        else
          (app 8 s8.1 ([m13.1])).bind fun m28 =>
          some (.inl (m28, (IntKind.i64.wrap (s8.2 + 1))))
      else
        some (.inr (.inl s8.1))) ((([] : List Int), 0) : List Int × Int)).bind fun m8 =>
  sel m8 (fun m8 =>
    some (m8, true)) (fun m8 =>
    some (m8.1, m8.2))
noncomputable def M.impl_exactly (p0 : List UInt8) (p1 : Int) : Option (List Nat × Bool) :=
  (M.impl_ReadNumbers p0).bind fun m1 =>
  letv (
      bif m1.2 then
        (icmp .neq ((m1.1).length : Int) p1)
      else
        true) fun m5 =>
  bif m5 then
    (mkl 4 p1 p1 0).bind fun m9 =>
    some (m9, false)
  else
    some (m1.1, true)
noncomputable def M.impl_readRod (p0 : List UInt8) : Option (SRod × Bool) :=
  (M.strings_Cut_s3a p0).bind fun m4 =>
  (M.impl_ReadList m4.1).bind fun m7 =>
  (M.impl_exactly m4.2.1 1).bind fun m13 =>
  letv (
      bif m4.2.2 then
        bif m7.2 then
          bif m13.2 then
            (icmp .neq ((m7.1).length : Int) 2)
          else
            true
        else
          true
      else
        true) fun m20 =>
  bif m20 then
    some ((⟨0, 0, 0⟩ : SRod), false)
  else
    (idx m7.1 0).bind fun m36 =>
    (idx m7.1 1).bind fun m37 =>
    (idx m13.1 0).bind fun m38 =>
    some ((⟨m36, m37, m38⟩ : SRod), true)
def M.impl_IsFinite (p0 : Nat) : Bool :=
  (fcmp .eql .f32 (fop .sub .f32 p0 p0) 0)
def M.impl_finite_1 (p0 : Nat) : Bool :=
  letv (M.impl_IsFinite p0) fun m1 =>
  (!m1)
noncomputable def M.slices_IndexFunc___float32_float32__f100 (p0 : List Nat) : Option Int :=
  (loopM (fun (s1 : Int) =>
      bif (icmp .lss s1 ((p0).length : Int)) then
        (idx p0 s1).bind fun m3 =>
        letv (M.impl_finite_1 m3) fun m6 =>
        bif m6 then
          some (.inr (.inr s1))
        else
          some (.inl (IntKind.i64.wrap (s1 + 1)))
      else
        some (.inr (.inl ()))) (0 : Int)).bind fun m1 =>
  sel m1 (fun m1 =>
    some (-1)) (fun m1 =>
    some m1)
noncomputable def M.slices_ContainsFunc___float32_float32__f100 (p0 : List Nat) : Option Bool :=
  (M.slices_IndexFunc___float32_float32__f100 p0).bind fun m1 =>
  some (icmp .geq m1 0)
noncomputable def M.impl_finite (p0 : List Nat) : Option Bool :=
  (M.slices_ContainsFunc___float32_float32__f100 p0).bind fun m1 =>
  some (!m1)
noncomputable def M.impl_finiteVector (p0 : SVector) : Option Bool :=
  (M.impl_finite ([p0.x, p0.y, p0.z])).bind fun m7 =>
  some m7
noncomputable def M.impl_badVector (p0 : SVector) : Option Bool :=
  (M.impl_finiteVector p0).bind fun m4 =>
  some (!m4)
noncomputable def M.slices_IndexFunc___impl_Vector_impl_Vector__f55 (p0 : List SVector) : Option Int :=
  (loopM (fun (s1 : Int) =>
      bif (icmp .lss s1 ((p0).length : Int)) then
        (idx p0 s1).bind fun m3 =>
        (M.impl_badVector m3).bind fun m6 =>
        bif m6 then
          some (.inr (.inr s1))
        else
          some (.inl (IntKind.i64.wrap (s1 + 1)))
      else
        some (.inr (.inl ()))) (0 : Int)).bind fun m1 =>
  sel m1 (fun m1 =>
    some (-1)) (fun m1 =>
    some m1)
noncomputable def M.slices_ContainsFunc___impl_Vector_impl_Vector__f55 (p0 : List SVector) : Option Bool :=
  (M.slices_IndexFunc___impl_Vector_impl_Vector__f55 p0).bind fun m1 =>
  some (icmp .geq m1 0)
def M.impl_levelOk (p0 : Nat) : Bool :=
  letv (
      letv (M.impl_IsFinite p0) fun m2 =>
      bif m2 then
        (fcmp .geq .f32 p0 0)
      else
        false) fun m1 =>
  m1
def M.impl_badLevel (p0 : Nat) : Bool :=
  letv (M.impl_levelOk p0) fun m1 =>
  (!m1)
noncomputable def M.slices_IndexFunc___float32_float32__f57 (p0 : List Nat) : Option Int :=
  (loopM (fun (s1 : Int) =>
      bif (icmp .lss s1 ((p0).length : Int)) then
        (idx p0 s1).bind fun m3 =>
        letv (M.impl_badLevel m3) fun m6 =>
        bif m6 then
          some (.inr (.inr s1))
        else
          some (.inl (IntKind.i64.wrap (s1 + 1)))
      else
        some (.inr (.inl ()))) (0 : Int)).bind fun m1 =>
  sel m1 (fun m1 =>
    some (-1)) (fun m1 =>
    some m1)
noncomputable def M.slices_ContainsFunc___float32_float32__f57 (p0 : List Nat) : Option Bool :=
  (M.slices_IndexFunc___float32_float32__f57 p0).bind fun m1 =>
  some (icmp .geq m1 0)
def M.impl_Chain_rodOk (p0 : SChain) (p1 : SRod) : Bool :=
  letv (
      letv (M.impl_in p1.a 0 (IntKind.i64.wrap (((p0.places).length : Int) - 1))) fun m7 =>
      bif m7 then
        letv (M.impl_in p1.b 0 (IntKind.i64.wrap (((p0.places).length : Int) - 1))) fun m12 =>
        bif m12 then
          bif (icmp .neq p1.a p1.b) then
            letv (M.impl_levelOk p1.long) fun m18 =>
            m18
          else
            false
        else
          false
      else
        false) fun m6 =>
  m6
def M.impl_ValidChain_1 (p0 : SRod) (p1 : SChain) : Bool :=
  letv (M.impl_Chain_rodOk (⟨p1.places, p1.before, p1.weights, p1.rods⟩ : SChain) (⟨p0.a, p0.b, p0.long⟩ : SRod)) fun m4 =>
  (!m4)
noncomputable def M.slices_IndexFunc___impl_Rod_impl_Rod__f59 (p0 : List SRod) (p1c0 : SChain) : Option Int :=
  (loopM (fun (s1 : Int) =>
      bif (icmp .lss s1 ((p0).length : Int)) then
        (idx p0 s1).bind fun m3 =>
        letv (M.impl_ValidChain_1 m3 p1c0) fun m6 =>
        bif m6 then
          some (.inr (.inr s1))
        else
          some (.inl (IntKind.i64.wrap (s1 + 1)))
      else
        some (.inr (.inl ()))) (0 : Int)).bind fun m1 =>
  sel m1 (fun m1 =>
    some (-1)) (fun m1 =>
    some m1)
noncomputable def M.slices_ContainsFunc___impl_Rod_impl_Rod__f59 (p0 : List SRod) (p1c0 : SChain) : Option Bool :=
  (M.slices_IndexFunc___impl_Rod_impl_Rod__f59 p0 p1c0).bind fun m1 =>
  some (icmp .geq m1 0)
noncomputable def M.impl_ValidChain (p0 : SChain) : Option Bool :=
  letv (
      bif (icmp .gtr ((p0.places).length : Int) 24) then
        true
      else
        bif (icmp .neq ((p0.before).length : Int) ((p0.places).length : Int)) then
          true
        else
          bif (icmp .neq ((p0.weights).length : Int) ((p0.places).length : Int)) then
            true
          else
            (icmp .gtr ((p0.rods).length : Int) 40)) fun m5 =>
  bif m5 then
    some false
  else
    (Option.bind (
        (M.slices_ContainsFunc___impl_Vector_impl_Vector__f55 p0.places).bind fun m16 =>
        bif m16 then
          some true
        else
          (M.slices_ContainsFunc___impl_Vector_impl_Vector__f55 p0.before).bind fun m22 =>
          bif m22 then
            some true
          else
            (M.slices_ContainsFunc___float32_float32__f57 p0.weights).bind fun m28 =>
            some m28) fun m14 =>
    bif m14 then
      some false
    else
      (M.slices_ContainsFunc___impl_Rod_impl_Rod__f59 p0.rods (⟨p0.places, p0.before, p0.weights, p0.rods⟩ : SChain)).bind fun m35 =>
      some (!m35))
noncomputable def M.impl_toldChain (p0 : SChain) : Option (SChain × Bool) :=
  (M.impl_ValidChain p0).bind fun m9 =>
  bif (!m9) then
    some ((⟨[], [], [], []⟩ : SChain), false)
  else
    some (p0, true)
noncomputable def M.impl_ReadChain (p0 : List UInt8) : Option (SChain × Bool) :=
  (M.strings_Split_s3b p0).bind fun m4 =>
  bif (icmp .neq ((m4).length : Int) 4) then
    some ((⟨[], [], [], []⟩ : SChain), false)
  else
    (idx m4 0).bind fun m14 =>
    (M.impl_readVectors m14).bind fun m16 =>
    (idx m4 1).bind fun m24 =>
    (M.impl_readVectors m24).bind fun m27 =>
    (idx m4 2).bind fun m36 =>
    (M.impl_ReadNumbers m36).bind fun m39 =>
    (idx m4 3).bind fun m50 =>
    (M.impl_partedBy m50 40).bind fun m53 =>
    (loopM (fun (s82 : Bool × Int × SChain) =>
        bif (icmp .lss s82.2.1 ((m53.1).length : Int)) then
          (idx m53.1 s82.2.1).bind fun m88 =>
          (M.impl_readRod m88).bind fun m90 =>
          letv (
              bif s82.1 then
                m90.2
              else
                false) fun m113 =>
          (app 24 s82.2.2.rods ([m90.1])).bind fun m141 =>
          some (.inl (m113, (IntKind.i64.wrap (s82.2.1 + 1)), (⟨m16.1, m27.1, m39.1, m141⟩ : SChain)))
        else
          some (.inr (s82.1, (⟨m16.1, m27.1, m39.1, s82.2.2.rods⟩ : SChain)))) ((m53.2, 0, (⟨m16.1, m27.1, m39.1, []⟩ : SChain)) : Bool × Int × SChain)).bind fun m82 =>
    letv (
        bif m16.2 then
          bif m27.2 then
            bif m39.2 then
              (!m82.1)
            else
              true
          else
            true
        else
          true) fun m170 =>
    bif m170 then
      some ((⟨[], [], [], []⟩ : SChain), false)
    else
      (M.impl_toldChain (⟨m16.1, m27.1, m39.1, m82.2.rods⟩ : SChain)).bind fun m181 =>
      some (m181.1, m181.2)
def M.laws_sameFloat (p0 : Nat) (p1 : Nat) : Bool :=
  letv (
      bif (fcmp .neq .f64 p0 p0) then
        true
      else
        (fcmp .neq .f64 p1 p1)) fun m1 =>
  bif m1 then
    letv (
        bif (fcmp .neq .f64 p0 p0) then
          (fcmp .neq .f64 p1 p1)
        else
          false) fun m5 =>
    m5
  else
    letv (
        bif (fcmp .eql .f64 p0 0) then
          (fcmp .eql .f64 p1 0)
        else
          false) fun m8 =>
    bif m8 then
      ((fcmp .gtr .f64 (fop .quo .f64 4607182418800017408 p0) 0) == (fcmp .gtr .f64 (fop .quo .f64 4607182418800017408 p1) 0))
    else
      (fcmp .eql .f64 p0 p1)
def M.laws_eqVector (p0 : SVector) (p1 : SVector) : Bool :=
  letv (M.laws_sameFloat (widen p0.x) (widen p1.x)) fun m14 =>
  bif (!m14) then
    false
  else
    letv (M.laws_sameFloat (widen p0.y) (widen p1.y)) fun m26 =>
    bif (!m26) then
      false
    else
      letv (M.laws_sameFloat (widen p0.z) (widen p1.z)) fun m38 =>
      bif (!m38) then
        false
      else
        true
noncomputable def M.laws_eqVectorS (p0 : List SVector) (p1 : List SVector) : Option Bool :=
  bif (icmp .neq ((p0).length : Int) ((p1).length : Int)) then
    some false
  else
    (loopM (fun (s2 : Int) =>
        bif (icmp .lss s2 ((p0).length : Int)) then
          (idx p0 s2).bind fun m7 =>
          (idx p1 s2).bind fun m8 =>
          letv (M.laws_eqVector m7 m8) fun m9 =>
          bif (!m9) then
            some (.inr (.inr false))
          else
            some (.inl (IntKind.i64.wrap (s2 + 1)))
        else
          some (.inr (.inl ()))) (0 : Int)).bind fun m2 =>
    sel m2 (fun m2 =>
      some true) (fun m2 =>
      some m2)
noncomputable def M.laws_eqFloat32S (p0 : List Nat) (p1 : List Nat) : Option Bool :=
  bif (icmp .neq ((p0).length : Int) ((p1).length : Int)) then
    some false
  else
    (loopM (fun (s2 : Int) =>
        bif (icmp .lss s2 ((p0).length : Int)) then
          (idx p0 s2).bind fun m7 =>
          (idx p1 s2).bind fun m8 =>
          letv (M.laws_sameFloat (widen m7) (widen m8)) fun m9 =>
          bif (!m9) then
            some (.inr (.inr false))
          else
            some (.inl (IntKind.i64.wrap (s2 + 1)))
        else
          some (.inr (.inl ()))) (0 : Int)).bind fun m2 =>
    sel m2 (fun m2 =>
      some true) (fun m2 =>
      some m2)
def M.laws_eqRod (p0 : SRod) (p1 : SRod) : Bool :=
  bif (icmp .neq p0.a p1.a) then
    false
  else
    bif (icmp .neq p0.b p1.b) then
      false
    else
      letv (M.laws_sameFloat (widen p0.long) (widen p1.long)) fun m16 =>
      bif (!m16) then
        false
      else
        true
noncomputable def M.laws_eqRodS (p0 : List SRod) (p1 : List SRod) : Option Bool :=
  bif (icmp .neq ((p0).length : Int) ((p1).length : Int)) then
    some false
  else
    (loopM (fun (s2 : Int) =>
        bif (icmp .lss s2 ((p0).length : Int)) then
          (idx p0 s2).bind fun m7 =>
          (idx p1 s2).bind fun m8 =>
          letv (M.laws_eqRod m7 m8) fun m9 =>
          bif (!m9) then
            some (.inr (.inr false))
          else
            some (.inl (IntKind.i64.wrap (s2 + 1)))
        else
          some (.inr (.inl ()))) (0 : Int)).bind fun m2 =>
    sel m2 (fun m2 =>
      some true) (fun m2 =>
      some m2)
noncomputable def M.laws_eqChain (p0 : SChain) (p1 : SChain) : Option Bool :=
  (M.laws_eqVectorS p0.places p1.places).bind fun m9 =>
  bif (!m9) then
    some false
  else
    (M.laws_eqVectorS p0.before p1.before).bind fun m17 =>
    bif (!m17) then
      some false
    else
      (M.laws_eqFloat32S p0.weights p1.weights).bind fun m25 =>
      bif (!m25) then
        some false
      else
        (M.laws_eqRodS p0.rods p1.rods).bind fun m33 =>
        bif (!m33) then
          some false
        else
          some true
noncomputable def M.laws_markVectorS (p0 : List SVector) (p1 : Int) : Option (Int × List SVector) :=
  (loopM (fun (s1 : Int × Int × List SVector) =>
      bif (icmp .lss s1.2.1 ((s1.2.2).length : Int)) then
        (idx s1.2.2 s1.2.1).bind fun m3 =>
        (idx (s1.2.2.set s1.2.1.toNat (⟨(fint .f32 s1.1), m3.y, m3.z⟩ : SVector)) s1.2.1).bind fun m8 =>
        (idx ((s1.2.2.set s1.2.1.toNat (⟨(fint .f32 s1.1), m3.y, m3.z⟩ : SVector)).set s1.2.1.toNat (⟨m8.x, (fint .f32 (IntKind.i64.wrap (s1.1 + 1))), m8.z⟩ : SVector)) s1.2.1).bind fun m13 =>
        some (.inl ((IntKind.i64.wrap ((IntKind.i64.wrap ((IntKind.i64.wrap (s1.1 + 1)) + 1)) + 1)), (IntKind.i64.wrap (s1.2.1 + 1)), (((s1.2.2.set s1.2.1.toNat (⟨(fint .f32 s1.1), m3.y, m3.z⟩ : SVector)).set s1.2.1.toNat (⟨m8.x, (fint .f32 (IntKind.i64.wrap (s1.1 + 1))), m8.z⟩ : SVector)).set s1.2.1.toNat (⟨m13.x, m13.y, (fint .f32 (IntKind.i64.wrap ((IntKind.i64.wrap (s1.1 + 1)) + 1)))⟩ : SVector))))
      else
        some (.inr (s1.1, s1.2.2))) ((p1, 0, p0) : Int × Int × List SVector)).bind fun m1 =>
  some (m1.1, m1.2)
noncomputable def M.laws_markFloat32S (p0 : List Nat) (p1 : Int) : Option (Int × List Nat) :=
  (loopM (fun (s1 : Int × Int × List Nat) =>
      bif (icmp .lss s1.2.1 ((s1.2.2).length : Int)) then
        (idx s1.2.2 s1.2.1).bind fun m3 =>
        some (.inl ((IntKind.i64.wrap (s1.1 + 1)), (IntKind.i64.wrap (s1.2.1 + 1)), (s1.2.2.set s1.2.1.toNat (fint .f32 s1.1))))
      else
        some (.inr (s1.1, s1.2.2))) ((p1, 0, p0) : Int × Int × List Nat)).bind fun m1 =>
  some (m1.1, m1.2)
noncomputable def M.laws_markRodS (p0 : List SRod) (p1 : Int) : Option (Int × List SRod) :=
  (loopM (fun (s1 : Int × Int × List SRod) =>
      bif (icmp .lss s1.2.1 ((s1.2.2).length : Int)) then
        (idx s1.2.2 s1.2.1).bind fun m3 =>
        (idx (s1.2.2.set s1.2.1.toNat (⟨s1.1, m3.b, m3.long⟩ : SRod)) s1.2.1).bind fun m8 =>
        (idx ((s1.2.2.set s1.2.1.toNat (⟨s1.1, m3.b, m3.long⟩ : SRod)).set s1.2.1.toNat (⟨m8.a, (IntKind.i64.wrap (s1.1 + 1)), m8.long⟩ : SRod)) s1.2.1).bind fun m13 =>
        some (.inl ((IntKind.i64.wrap ((IntKind.i64.wrap ((IntKind.i64.wrap (s1.1 + 1)) + 1)) + 1)), (IntKind.i64.wrap (s1.2.1 + 1)), (((s1.2.2.set s1.2.1.toNat (⟨s1.1, m3.b, m3.long⟩ : SRod)).set s1.2.1.toNat (⟨m8.a, (IntKind.i64.wrap (s1.1 + 1)), m8.long⟩ : SRod)).set s1.2.1.toNat (⟨m13.a, m13.b, (fint .f32 (IntKind.i64.wrap ((IntKind.i64.wrap (s1.1 + 1)) + 1)))⟩ : SRod))))
      else
        some (.inr (s1.1, s1.2.2))) ((p1, 0, p0) : Int × Int × List SRod)).bind fun m1 =>
  some (m1.1, m1.2)
noncomputable def M.laws_markChain (p0 : SChain) (p1 : Int) : Option (Int × List SVector × List SVector × List Nat × List SRod) :=
  (M.laws_markVectorS p0.places p1).bind fun m8 =>
  (M.laws_markVectorS p0.before m8.1).bind fun m16 =>
  (M.laws_markFloat32S p0.weights m16.1).bind fun m23 =>
  (M.laws_markRodS p0.rods m23.1).bind fun m30 =>
  some (m30.1, m8.2, m16.2, m23.2, m30.2)
noncomputable def M.laws_heldVectorS (p0 : List SVector) (p1 : Int) : Option Int :=
  (loopM (fun (s1 : Int × Int) =>
      bif (icmp .lss s1.2 ((p0).length : Int)) then
        (idx p0 s1.2).bind fun m4 =>
        bif (fcmp .neq .f32 m4.x (fint .f32 s1.1)) then
          some (.inr (.inr (-1)))
        else
          (idx p0 s1.2).bind fun m7 =>
          bif (fcmp .neq .f32 m7.y (fint .f32 (IntKind.i64.wrap (s1.1 + 1)))) then
            some (.inr (.inr (-1)))
          else
            (idx p0 s1.2).bind fun m10 =>
            bif (fcmp .neq .f32 m10.z (fint .f32 (IntKind.i64.wrap ((IntKind.i64.wrap (s1.1 + 1)) + 1)))) then
              some (.inr (.inr (-1)))
            else
              some (.inl ((IntKind.i64.wrap ((IntKind.i64.wrap ((IntKind.i64.wrap (s1.1 + 1)) + 1)) + 1)), (IntKind.i64.wrap (s1.2 + 1))))
      else
        some (.inr (.inl s1.1))) ((p1, 0) : Int × Int)).bind fun m1 =>
  sel m1 (fun m1 =>
    some m1) (fun m1 =>
    some m1)
noncomputable def M.laws_heldFloat32S (p0 : List Nat) (p1 : Int) : Option Int :=
  (loopM (fun (s1 : Int × Int) =>
      bif (icmp .lss s1.2 ((p0).length : Int)) then
        (idx p0 s1.2).bind fun m4 =>
        bif (fcmp .neq .f32 m4 (fint .f32 s1.1)) then
          some (.inr (.inr (-1)))
        else
          some (.inl ((IntKind.i64.wrap (s1.1 + 1)), (IntKind.i64.wrap (s1.2 + 1))))
      else
        some (.inr (.inl s1.1))) ((p1, 0) : Int × Int)).bind fun m1 =>
  sel m1 (fun m1 =>
    some m1) (fun m1 =>
    some m1)
noncomputable def M.laws_heldRodS (p0 : List SRod) (p1 : Int) : Option Int :=
  (loopM (fun (s1 : Int × Int) =>
      bif (icmp .lss s1.2 ((p0).length : Int)) then
        (idx p0 s1.2).bind fun m4 =>
        bif (icmp .neq m4.a s1.1) then
          some (.inr (.inr (-1)))
        else
          (idx p0 s1.2).bind fun m7 =>
          bif (icmp .neq m7.b (IntKind.i64.wrap (s1.1 + 1))) then
            some (.inr (.inr (-1)))
          else
            (idx p0 s1.2).bind fun m10 =>
            bif (fcmp .neq .f32 m10.long (fint .f32 (IntKind.i64.wrap ((IntKind.i64.wrap (s1.1 + 1)) + 1)))) then
              some (.inr (.inr (-1)))
            else
              some (.inl ((IntKind.i64.wrap ((IntKind.i64.wrap ((IntKind.i64.wrap (s1.1 + 1)) + 1)) + 1)), (IntKind.i64.wrap (s1.2 + 1))))
      else
        some (.inr (.inl s1.1))) ((p1, 0) : Int × Int)).bind fun m1 =>
  sel m1 (fun m1 =>
    some m1) (fun m1 =>
    some m1)
noncomputable def M.laws_heldChain (p0 : SChain) (p1 : Int) : Option Int :=
  (M.laws_heldVectorS p0.places p1).bind fun m4 =>
  bif (icmp .lss m4 0) then
    some (-1)
  else
    (M.laws_heldVectorS p0.before m4).bind fun m10 =>
    bif (icmp .lss m10 0) then
      some (-1)
    else
      (M.laws_heldFloat32S p0.weights m10).bind fun m16 =>
      bif (icmp .lss m16 0) then
        some (-1)
      else
        (M.laws_heldRodS p0.rods m16).bind fun m22 =>
        bif (icmp .lss m22 0) then
          some (-1)
        else
          some m22
noncomputable def M.laws_FnExactReadChain (p0 : List UInt8) : Option Bool :=
  bif (icmp .gtr ((p0).length : Int) 1048576) then
    some true
  else
    (M.spec_ReadChain p0).bind fun m2 =>
    (M.impl_ReadChain p0).bind fun m19 =>
    (Option.bind (
        (M.laws_eqChain (⟨m19.1.places, m19.1.before, m19.1.weights, m19.1.rods⟩ : SChain) (⟨m2.1.places, m2.1.before, m2.1.weights, m2.1.rods⟩ : SChain)).bind fun m80 =>
        bif m80 then
          some (!(m19.2 == m2.2))
        else
          some true) fun m70 =>
    bif m70 then
      some false
    else
      (M.laws_markChain (⟨m19.1.places, m19.1.before, m19.1.weights, m19.1.rods⟩ : SChain) 1).bind fun m87 =>
      (M.laws_heldChain (⟨m87.2.1, m87.2.2.1, m87.2.2.2.1, m87.2.2.2.2⟩ : SChain) 1).bind fun m100 =>
      bif (icmp .lss m100 0) then
        some false
      else
        bif (icmp .neq m100 m87.1) then
          some false
        else
          (M.impl_ReadChain p0).bind fun m110 =>
          (Option.bind (
              (M.laws_eqChain m110.1 (⟨m2.1.places, m2.1.before, m2.1.weights, m2.1.rods⟩ : SChain)).bind fun m212 =>
              bif m212 then
                some (!(m110.2 == m2.2))
              else
                some true) fun m197 =>
          bif m197 then
            some false
          else
            (M.laws_heldChain (⟨m87.2.1, m87.2.2.1, m87.2.2.2.1, m87.2.2.2.2⟩ : SChain) 1).bind fun m219 =>
            bif (icmp .lss m219 0) then
              some false
            else
              bif (icmp .neq m219 m87.1) then
                some false
              else
                some true))
end Go.Proofs
