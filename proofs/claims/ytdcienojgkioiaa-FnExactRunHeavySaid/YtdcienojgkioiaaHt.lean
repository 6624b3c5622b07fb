/- RunTop and RunHeavy of the program return what the reference's return, for all arguments; no condition. -/
import Derived.Test.YtdcienojgkioiaaRows
import Derived.Test.YtdcienojgkioiaaLt
import Derived.Test.YtdcienojgkioiaaRo
import Derived.Test.YtdcienojgkioiaaCt6
namespace Go.Proofs.Ytdcienojgkioiaa
open Go Go.Fl Go.Rg Go.ChangeShapes Go.WideShapes Go.ChangeAt Go.RowKit

theorem own : ownKnob Try.prog.godebug = none := by kernel_rfl
theorem laidOut : laidOutB Try.prog = true := by kernel_rfl

theorem len10 {l : List Nat} (h : l.length = 10) : ∃ a b c d e f g i j k, l = [a, b, c, d, e, f, g, i, j, k] := by
  match l, h with
  | [a, b, c, d, e, f, g, i, j, k], _ => exact ⟨a, b, c, d, e, f, g, i, j, k, rfl⟩
theorem len3 {l : List Nat} (h : l.length = 3) : ∃ a b c, l = [a, b, c] := by
  match l, h with
  | [a, b, c], _ => exact ⟨a, b, c, rfl⟩

set_option maxRecDepth 100000 in
theorem runTop_lifted (os : Os) (started : os.Started) (H : Type) (enc : TypeId × Value → H) :
    ReturnsInHanded {} Try.checked os 3 .any (Rows.fnExactRunTopSpec.pre6 enc Try.prog Try.f3 Rows.fnExactRunTopRow.domain false) (Rows.fnExactRunTopSpec.post enc Try.prog Try.f3 false true false false) := by
  refine returnsInHanded_of_change (C := Try.checked) own started (by kernel_rfl) Try.func3
    (ChangeSpec.witness6 (enc := enc) (C := Try.checked) false ⟨#[], #[.agg (Array.replicate 10 (.float .f32 0)), .agg (Array.replicate 3 (.float .f32 0)), .float .f32 0, .int .i64 0], []⟩ 8 (by kernel_rfl) (by kernel_rfl) (by kernel_rfl) (by kernel_rfl)) ?_
  intro W base args ds gs before hval0 hW hcnd _
  have hval : ∀ (j : Nat) t v, Try.f3.params[j]? = some t → args[j]? = some v → Value.okWide Try.prog W .any base t v := hval0
  have hW' := hW
  obtain ⟨p, q, hA0, hV, rfl, hfz, hnd⟩ := hW
  have hA : DataW.TrodAll enc Try.prog W 0 (fun _ => true) true Try.f3.params.toList args.toList ds p := hA0
  rw [Try.params3] at hA hval
  obtain ⟨v0, l1, d0, e1, p0, q0, ha, rfl, rfl, h0, hr1⟩ := trodAll_cons hA
  obtain ⟨v1, l2, d1, e2, p1, q1, rfl, rfl, rfl, h1, hr2⟩ := trodAll_cons hr1
  obtain ⟨v2, l3, d2, e3, p2, q2, rfl, rfl, rfl, h2, hr3⟩ := trodAll_cons hr2
  obtain ⟨v3, l4, d3, e4, p3, q3, rfl, rfl, rfl, h3, hr4⟩ := trodAll_cons hr3
  obtain ⟨rfl, rfl, rfl⟩ := trodAll_nil hr4
  have ea : args = #[v0, v1, v2, v3] := by rw [← Array.toArray_toList (xs := args), ha]
  subst ea
  obtain ⟨rfl, rfl⟩ := trodVars_none hV
  obtain ⟨r0, rfl, l0, b0⟩ := floats_of Try.underlying28 Try.underlying22 (n := 10) (by kernel_rfl) (by kernel_rfl) (hval 0 28 v0 rfl rfl)
  obtain ⟨r1, rfl, l1, b1⟩ := floats_of Try.underlying24 Try.underlying22 (n := 3) (by kernel_rfl) (by kernel_rfl) (hval 1 24 v1 rfl rfl)
  obtain ⟨r2, rfl, b2⟩ := float_of Try.underlying22 (hval 2 22 v2 rfl rfl)
  obtain ⟨r3, rfl, b3, b4⟩ := int_of Try.underlying2 (hval 3 2 v3 rfl rfl)
  obtain ⟨a, b, c, d, e, f, g, i, j, k, rfl⟩ := len10 l0
  obtain ⟨x, y, z, rfl⟩ := len3 l1
  refine (c3 ⟨⟨cn .f32 a, cn .f32 b, cn .f32 c⟩, ⟨cn .f32 d, cn .f32 e, cn .f32 f, cn .f32 g⟩, ⟨cn .f32 i, cn .f32 j, cn .f32 k⟩⟩ ⟨cn .f32 x, cn .f32 y, cn .f32 z⟩ (cn .f32 r2) r3 a b c d e f g i j k x y z r2 true W
    (law_RunTop _ _ _ _ (can_cn b2)) rfl rfl rfl rfl rfl rfl rfl rfl rfl rfl rfl rfl rfl rfl).mono fun e W' ⟨he, hw⟩ => ?_
  subst he
  exact ⟨_, rfl, law_post laidOut (by kernel_rfl) rfl Try.underlying4 rfl rfl hW' hw⟩

theorem runTop_holds : Rows.FnExactRunTopSaid :=
  OpenClaim.holds_of_wide 3 Try.f3 rfl rfl rfl rfl rfl rfl rfl ⟨rfl, rfl, rfl, rfl, rfl⟩ rfl rfl rfl rfl rfl (by kernel_rfl) Try.func3 (by kernel_rfl)
    (of_decide_eq_true (by kernel_rfl)) (by unfold Func.isWrapper; rw [if_neg (of_decide_eq_false (by kernel_rfl))]; exact ⟨rfl, rfl⟩)
    (fun os started H enc _ => runTop_lifted os started H enc)

set_option maxRecDepth 100000 in
theorem runHeavy_lifted (os : Os) (started : os.Started) (H : Type) (enc : TypeId × Value → H) :
    ReturnsInHanded {} Try.checked os 4 .any (Rows.fnExactRunHeavySpec.pre6 enc Try.prog Try.f4 Rows.fnExactRunHeavyRow.domain false) (Rows.fnExactRunHeavySpec.post enc Try.prog Try.f4 false true false false) := by
  refine returnsInHanded_of_change (C := Try.checked) own started (by kernel_rfl) Try.func4
    (ChangeSpec.witness6 (enc := enc) (C := Try.checked) false ⟨#[], #[.agg (Array.replicate 10 (.float .f32 0)), .float .f32 0, .float .f32 0, .float .f32 0, .int .i64 0], []⟩ 8 (by kernel_rfl) (by kernel_rfl) (by kernel_rfl) (by kernel_rfl)) ?_
  intro W base args ds gs before hval0 hW hcnd _
  have hval : ∀ (j : Nat) t v, Try.f4.params[j]? = some t → args[j]? = some v → Value.okWide Try.prog W .any base t v := hval0
  have hW' := hW
  obtain ⟨p, q, hA0, hV, rfl, hfz, hnd⟩ := hW
  have hA : DataW.TrodAll enc Try.prog W 0 (fun _ => true) true Try.f4.params.toList args.toList ds p := hA0
  rw [Try.params4] at hA hval
  obtain ⟨v0, l1, d0, e1, p0, q0, ha, rfl, rfl, h0, hr1⟩ := trodAll_cons hA
  obtain ⟨v1, l2, d1, e2, p1, q1, rfl, rfl, rfl, h1, hr2⟩ := trodAll_cons hr1
  obtain ⟨v2, l3, d2, e3, p2, q2, rfl, rfl, rfl, h2, hr3⟩ := trodAll_cons hr2
  obtain ⟨v3, l4, d3, e4, p3, q3, rfl, rfl, rfl, h3, hr4⟩ := trodAll_cons hr3
  obtain ⟨v4, l5, d4, e5, p4, q4, rfl, rfl, rfl, h4, hr5⟩ := trodAll_cons hr4
  obtain ⟨rfl, rfl, rfl⟩ := trodAll_nil hr5
  have ea : args = #[v0, v1, v2, v3, v4] := by rw [← Array.toArray_toList (xs := args), ha]
  subst ea
  obtain ⟨rfl, rfl⟩ := trodVars_none hV
  obtain ⟨r0, rfl, l0, b0⟩ := floats_of Try.underlying28 Try.underlying22 (n := 10) (by kernel_rfl) (by kernel_rfl) (hval 0 28 v0 rfl rfl)
  obtain ⟨r1, rfl, b1⟩ := float_of Try.underlying22 (hval 1 22 v1 rfl rfl)
  obtain ⟨r2, rfl, b2⟩ := float_of Try.underlying22 (hval 2 22 v2 rfl rfl)
  obtain ⟨r3, rfl, b3⟩ := float_of Try.underlying22 (hval 3 22 v3 rfl rfl)
  obtain ⟨r4, rfl, b4, b5⟩ := int_of Try.underlying2 (hval 4 2 v4 rfl rfl)
  obtain ⟨a, b, c, d, e, f, g, i, j, k, rfl⟩ := len10 l0
  refine (c4 ⟨⟨cn .f32 a, cn .f32 b, cn .f32 c⟩, ⟨cn .f32 d, cn .f32 e, cn .f32 f, cn .f32 g⟩, ⟨cn .f32 i, cn .f32 j, cn .f32 k⟩⟩ (cn .f32 r1) (cn .f32 r2) (cn .f32 r3) r4 a b c d e f g i j k r1 r2 r3 true W
    (law_RunHeavy _ _ _ _ _ (can_cn b3)) rfl rfl rfl rfl rfl rfl rfl rfl rfl rfl rfl rfl rfl).mono fun e W' ⟨he, hw⟩ => ?_
  subst he
  exact ⟨_, rfl, law_post laidOut (by kernel_rfl) rfl Try.underlying4 rfl rfl hW' hw⟩

theorem runHeavy_holds : Rows.FnExactRunHeavySaid :=
  OpenClaim.holds_of_wide 4 Try.f4 rfl rfl rfl rfl rfl rfl rfl ⟨rfl, rfl, rfl, rfl, rfl⟩ rfl rfl rfl rfl rfl (by kernel_rfl) Try.func4 (by kernel_rfl)
    (of_decide_eq_true (by kernel_rfl)) (by unfold Func.isWrapper; rw [if_neg (of_decide_eq_false (by kernel_rfl))]; exact ⟨rfl, rfl⟩)
    (fun os started H enc _ => runHeavy_lifted os started H enc)

end Go.Proofs.Ytdcienojgkioiaa
