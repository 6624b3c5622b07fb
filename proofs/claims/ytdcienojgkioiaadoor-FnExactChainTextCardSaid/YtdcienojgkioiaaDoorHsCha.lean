import Derived.Test.YtdcienojgkioiaaDoorRows
import Derived.Test.YtdcienojgkioiaaDoorCards
import Derived.Test.YtdcienojgkioiaaDoorTie
import Derived.Test.YtdcienojgkioiaaDoorL8
import Derived.Test.YtdcienojgkioiaaDoorRq
import Derived.Test.YtdcienojgkioiaaDoorBCCt3
import Derived.ProofKit
import Derived.LaidMore
import Derived.Lay
import Derived.SevenTiedAt
import Derived.Stop.Joined
import Derived.Stop.LaidErr
/- The law of ChainText, of the given program: for all arguments it answers true. Conditions: none beyond the given statement. -/
namespace Go.Proofs.YtdcienojgkioiaaDoor
open Go Go.Fl Go.Rg Go.ChangeShapes Go.WideShapes Go.ChangeAt Go.RowKit

theorem own : ownKnob Tryd.prog.godebug = none := by kernel_rfl
theorem laidOut : laidOutB Tryd.prog = true := by kernel_rfl

section
variable {H : Type} {enc : TypeId × Value → H} {W : World}
theorem vec_of (fuel : Nat) (cs : List Value) (y : DataW H × List MemPlace) (h : DataW.trod enc Tryd.prog W 0 (fun _ => true) true fuel 178 cs = some y) : ∃ x, cs.map cnv = encSVector.f x ∧ True := by
  obtain ⟨v0, v1, v2, _, _, _, _, rfl, h0, h1, h2⟩ := cells3 Tryd.underlying178 ⟨rfl, rfl, rfl⟩ ⟨by kernel_rfl, by kernel_rfl, by kernel_rfl⟩ (by kernel_rfl) h
  obtain ⟨b0, e0, _⟩ := float_trod Tryd.underlying22 h0
  obtain ⟨b1, e1, _⟩ := float_trod Tryd.underlying22 h1
  obtain ⟨b2, e2, _⟩ := float_trod Tryd.underlying22 h2
  cases e0; cases e1; cases e2
  exact ⟨⟨cn .f32 b0, cn .f32 b1, cn .f32 b2⟩, rfl, trivial⟩
theorem flt_of (fuel : Nat) (cs : List Value) (y : DataW H × List MemPlace) (h : DataW.trod enc Tryd.prog W 0 (fun _ => true) true fuel 22 cs = some y) : ∃ x, cs.map cnv = encF_f32.f x ∧ True := by
  obtain ⟨b0, e0, _⟩ := float_trod Tryd.underlying22 h
  cases e0
  exact ⟨cn .f32 b0, rfl, trivial⟩
theorem rod_of (fuel : Nat) (cs : List Value) (y : DataW H × List MemPlace) (h : DataW.trod enc Tryd.prog W 0 (fun _ => true) true fuel 180 cs = some y) : ∃ x, cs.map cnv = encSRod.f x ∧ True := by
  obtain ⟨v0, v1, v2, _, _, _, _, rfl, h0, h1, h2⟩ := cells3 Tryd.underlying180 ⟨rfl, rfl, rfl⟩ ⟨by kernel_rfl, by kernel_rfl, by kernel_rfl⟩ (by kernel_rfl) h
  obtain ⟨n0, e0, _⟩ := DataW.trod_int Tryd.underlying2 h0
  obtain ⟨n1, e1, _⟩ := DataW.trod_int Tryd.underlying2 h1
  obtain ⟨b2, e2, _⟩ := float_trod Tryd.underlying22 h2
  cases e0; cases e1; cases e2
  exact ⟨⟨n0, n1, cn .f32 b2⟩, rfl, trivial⟩
end
theorem t10_of {W : World} (hL : laidMetH Tryd.prog Rows.fnExactChainTextRow.laid W) : T10 Tryd.prog W := by
  rw [MakeChecks.laidMetH_plain _ _ _ (by kernel_rfl)] at hL
  exact Lib.tabIs_of_head (g := 2) (t := 239) (e := 188) (n := 20) (by kernel_rfl) (by kernel_rfl) Tryd.underlying239 Tryd.underlying188 (by kernel_rfl) (by kernel_rfl) (show laidMet Tryd.prog (("internal/strconv.uint64pow10", Lib.tabData .u64 Lib.pow10Tab) :: []) W from hL.tail.tail)

set_option maxRecDepth 100000 in
theorem chainText_lifted (os : Os) (started : os.Started) (H : Type) (enc : TypeId × Value → H) :
    ReturnsInHanded {} Tryd.checked os 9 .any (fun w args => (Rows.fnExactChainTextSpec.pre enc Tryd.prog Tryd.f9 Rows.fnExactChainTextRow.domain false w args ∧ laidMetH Tryd.prog Rows.fnExactChainTextRow.laid w) ∧ sizedMet enc Tryd.prog Tryd.f9 (OpenSpec.ofChange Rows.fnExactChainTextSpec) false w args)
      (Rows.fnExactChainTextSpec.post enc Tryd.prog Tryd.f9 false true false false) := by
  refine returnsInHanded_of_change_and (C := Tryd.checked) (X := fun w _ => laidMetH Tryd.prog Rows.fnExactChainTextRow.laid w) (fun _ _ _ hh h => h.of_heap hh) own started (by kernel_rfl) Tryd.func9
    (ChangeSpec.witness_shaped (enc := enc) (C := Tryd.checked) (os := os) (X := fun w _ => laidMetH Tryd.prog Rows.fnExactChainTextRow.laid w) false (World.laidAll Tryd.prog os Rows.fnExactChainTextRow.laid) #[.agg #[.slice none 0 0, .slice none 0 0, .slice none 0 0, .slice none 0 0]] 8 (World.laidAll_os _ _ _)
      (World.shaped_of_ZipB (by kernel_rfl) (by kernel_rfl)) (by kernel_rfl) (by kernel_rfl) (by kernel_rfl)
      (by rw [MakeChecks.laidMetH_plain _ _ _ (by kernel_rfl)]; exact laidMet_laidAll _ (by kernel_rfl) (by kernel_rfl))) ?_
  intro W base args ds gs before hval0 hW _ _ hL _
  have hval : ∀ (j : Nat) t v, Tryd.f9.params[j]? = some t → args[j]? = some v → Value.okWide Tryd.prog W .any base t v := hval0
  have hW' := hW
  obtain ⟨p, q, hA0, hV, rfl, _, _⟩ := hW
  have hA : DataW.TrodAll enc Tryd.prog W 0 (fun _ => true) true Tryd.f9.params.toList args.toList ds p := hA0
  rw [Tryd.params9] at hA hval
  obtain ⟨v0, d0, rfl, rfl, hd0⟩ := trodAll_one hA
  obtain ⟨rfl, rfl⟩ := trodVars_none hV
  obtain ⟨v0, v1, v2, v3, rfl, ⟨_, _, k0⟩, ⟨_, _, k1⟩, ⟨_, _, k2⟩, ⟨_, _, k3⟩, o0, o1, o2, o3⟩ := rows4 Tryd.underlying63 (by kernel_rfl) ⟨rfl, rfl, rfl, rfl⟩ ⟨by kernel_rfl, by kernel_rfl, by kernel_rfl, by kernel_rfl⟩ (by kernel_rfl) ⟨Tryd.underlying60, Tryd.underlying60, Tryd.underlying53, Tryd.underlying61⟩ (hval 0 63 v0 rfl rfl) hd0
  obtain ⟨a0, n0, c0, xs0, rfl, R0, l0, _⟩ := row_of (Q := fun _ => True) encSVector Tryd.underlying60 (by kernel_rfl) vec_of (.inr ⟨base, o0⟩) k0
  obtain ⟨a1, n1, c1, xs1, rfl, R1, l1, _⟩ := row_of (Q := fun _ => True) encSVector Tryd.underlying60 (by kernel_rfl) vec_of (.inr ⟨base, o1⟩) k1
  obtain ⟨a2, n2, c2, xs2, rfl, R2, l2, _⟩ := row_of (Q := fun _ => True) encF_f32 Tryd.underlying53 (by kernel_rfl) flt_of (.inr ⟨base, o2⟩) k2
  obtain ⟨a3, n3, c3, xs3, rfl, R3, l3, _⟩ := row_of (Q := fun _ => True) encSRod Tryd.underlying61 (by kernel_rfl) rod_of (.inr ⟨base, o3⟩) k3
  have hc := c9 ⟨xs0, xs1, xs2, xs3⟩ a0 n0 c0 a1 n1 c1 a2 n2 c2 a3 n3 c3 true W (law_ChainText _ (Nat.le_trans l0 (Nat.le_of_ble_eq_true rfl)) (Nat.le_trans l1 (Nat.le_of_ble_eq_true rfl)) (Nat.le_trans l2 (Nat.le_of_ble_eq_true rfl)) (Nat.le_trans l3 (Nat.le_of_ble_eq_true rfl))) R0 R1 R2 R3 (t10_of hL)
  refine hc.mono fun e W' ⟨he, hw⟩ => ?_
  subst he
  exact ⟨_, rfl, law_post laidOut (by kernel_rfl) rfl Tryd.underlying4 rfl rfl hW' hw⟩
theorem chainText_holds : Rows.FnExactChainTextSaid :=
  OpenClaim.holds_of_wide 9 Tryd.f9 rfl rfl rfl rfl rfl rfl rfl ⟨rfl, rfl, rfl, rfl, rfl⟩ rfl rfl rfl rfl rfl (by kernel_rfl) Tryd.func9 (by kernel_rfl)
    (of_decide_eq_true (by kernel_rfl)) (by unfold Func.isWrapper; rw [if_neg (of_decide_eq_false (by kernel_rfl))]; exact ⟨rfl, rfl⟩)
    (fun os started H enc _ => chainText_lifted os started H enc)
theorem chainText_card : Rows.FnExactChainTextCardSaid :=
  Claim7.holds_tied_plain_at .later [] [.data, .data, .data] true (true, "ed6ce84aa128e61ec11d47c8fb9c8e252b8644b5586b29dc9fb96b8bfb9721b8") true chainText_holds (fun _ h => by cases h) (by kernel_rfl) (fun _ h => by cases h) fnExactChainText_row_tie rfl ⟨rfl, rfl⟩ (by kernel_rfl) rfl
    (fun f fn hf hfn => by
      obtain rfl : f = 9 := Option.some.inj ((show Tryd.prog.funcNamed "loop.example/g01253/laws.FnExactChainText" = some 9 by kernel_rfl).symm.trans hf) |>.symm
      obtain rfl : fn = Tryd.f9 := (Option.some.inj (Tryd.func9.symm.trans hfn)).symm
      exact ⟨by kernel_rfl, fun j t ht => by
        rw [Tryd.params9] at ht
        have hm : t ∈ [63] := by simpa using Array.mem_of_getElem? ht
        have hall : ([63].all fun u => !Tryd.prog.wantsStandIn u) = true := by kernel_rfl
        exact (show Tryd.prog.wantsStandIn t = false by simpa using List.all_eq_true.1 hall t hm)⟩)
    (by kernel_rfl)

end Go.Proofs.YtdcienojgkioiaaDoor
