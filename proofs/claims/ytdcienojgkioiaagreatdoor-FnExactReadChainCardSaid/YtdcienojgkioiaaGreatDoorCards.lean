/-
  DERIVED. GIVEN WITH THE SEED: THE CARDS: each row of YtdcienojgkioiaaGreatDoorRows.lean that lists a variable, with what it lists TIED to the program's text (the seventh form; the later family's looks); each row that meets fmt, with fmt's text TOLD by the authors' own Lean function (tested against real Go, not proved from fmt's source: count such statements apart). THE CARD IS WHAT COUNTS. Prove the row's statement (the work); the ties are given (YtdcienojgkioiaaGreatDoorTie.lean); close each card by the builder's one call (the guide's Derived/Test/ToyasCard.lean, 'card_holds'). Laid BY PROGRAM, IN A SANDBOX (cutbox-door.mjs). By AI agents, Wed Nov 11 2026. No macro, syntax, notation, axiom, sorry.
-/
import Derived.Test.YtdcienojgkioiaaGreatDoorRows
import GoSem.ClaimSeven
namespace Go.Proofs.YtdcienojgkioiaaGreatDoor
namespace Rows

/-- THE TIED CARD OF 'laws.FnExactReadChain'. -/
def fnExactReadChainCard : Claim7 := { stood := { row := fnExactReadChainRow, standIns := [], harness := (true, "945ece7701b881d566afd9094502cce75784059269f927a81ed52a9ca5691456"), looks := true }, kinds := [], alts := [], laidByText := true, laidKinds := [.data, .data, .data, .data, .sentinel, .sentinel, .pinned], laidTests := true, laidLooks := .later }
def FnExactReadChainCardSaid : Prop := Claim7.holds Tryz.pinned (.plain (OpenSpec.ofChange fnExactReadChainSpec)) fnExactReadChainCard

/-- THE SECOND FORM's CARD OF 'laws.FnExactReadChain'. -/
def fnExactReadChainUptoCard : Claim7 := { stood := { row := fnExactReadChainUptoRow, standIns := [], harness := (true, "945ece7701b881d566afd9094502cce75784059269f927a81ed52a9ca5691456"), looks := true }, kinds := [], alts := [], laidByText := true, laidKinds := [.data, .data, .data, .data, .sentinel, .sentinel, .pinned], laidTests := true, laidLooks := .later }
def FnExactReadChainUptoCardSaid : Prop := Claim7.holds Tryz.pinned (.plain (OpenSpec.upto fnExactReadChainSpec)) fnExactReadChainUptoCard
end Rows
end Go.Proofs.YtdcienojgkioiaaGreatDoor
