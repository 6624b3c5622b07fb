/- NewDesk of the program returns what the reference's returns; no condition: no argument, and its law is reckoned. -/
import Derived.Test.YtdcienojgkioiaaRows
import Derived.Test.YtdcienojgkioiaaNL
import Derived.Test.YtdcienojgkioiaaRo
import Derived.Test.YtdcienojgkioiaaNNCt5
namespace Go.Proofs.Ytdcienojgkioiaa
open Go Go.Fl Go.Rg Go.ChangeShapes Go.WideShapes Go.ChangeAt Go.RowKit

theorem own : ownKnob Try.prog.godebug = none := by kernel_rfl
theorem laidOut : laidOutB Try.prog = true := by kernel_rfl

set_option maxRecDepth 100000 in
theorem newDesk_lifted (os : Os) (started : os.Started) (H : Type) (enc : TypeId × Value → H) :
    ReturnsInHanded {} Try.checked os 5 .any (Rows.fnExactNewDeskSpec.pre6 enc Try.prog Try.f5 Rows.fnExactNewDeskRow.domain false) (Rows.fnExactNewDeskSpec.post enc Try.prog Try.f5 false true false false) := by
  refine returnsInHanded_of_change (C := Try.checked) own started (by kernel_rfl) Try.func5
    (ChangeSpec.witness6 (enc := enc) (C := Try.checked) false ⟨#[], #[], []⟩ 8 (by kernel_rfl) (by kernel_rfl) (by kernel_rfl) (by kernel_rfl)) ?_
  intro W base args ds gs before hval0 hW hcnd _
  have hW' := hW
  obtain ⟨p, q, hA0, hV, rfl, hfz, hnd⟩ := hW
  have hA : DataW.TrodAll enc Try.prog W 0 (fun _ => true) true Try.f5.params.toList args.toList ds p := hA0
  rw [Try.params5] at hA
  obtain ⟨ha, hd, hp⟩ := trodAll_nil hA
  have ea : args = #[] := by rw [← Array.toArray_toList (xs := args), ha]
  subst ea
  subst hd
  subst hp
  obtain ⟨rfl, rfl⟩ := trodVars_none hV
  refine (c5 true W law_NewDesk).mono fun e W' ⟨he, hw⟩ => ?_
  subst he
  exact ⟨_, rfl, law_post laidOut (by kernel_rfl) rfl Try.underlying4 rfl rfl hW' hw⟩

theorem newDesk_holds : Rows.FnExactNewDeskSaid :=
  OpenClaim.holds_of_wide 5 Try.f5 rfl rfl rfl rfl rfl rfl rfl ⟨rfl, rfl, rfl, rfl, rfl⟩ rfl rfl rfl rfl rfl (by kernel_rfl) Try.func5 (by kernel_rfl)
    (of_decide_eq_true (by kernel_rfl)) (by unfold Func.isWrapper; rw [if_neg (of_decide_eq_false (by kernel_rfl))]; exact ⟨rfl, rfl⟩)
    (fun os started H enc _ => newDesk_lifted os started H enc)
end Go.Proofs.Ytdcienojgkioiaa
