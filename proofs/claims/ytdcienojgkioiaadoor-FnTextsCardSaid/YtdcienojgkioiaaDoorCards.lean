/-
  DERIVED. GIVEN WITH THE SEED: THE CARDS: each row of YtdcienojgkioiaaDoorRows.lean that lists a variable, with what it lists TIED to the program's text (the seventh form; the later family's looks); each row that meets fmt, with fmt's text TOLD by the authors' own Lean function (tested against real Go, not proved from fmt's source: count such statements apart). THE CARD IS WHAT COUNTS. Prove the row's statement (the work); the ties are given (YtdcienojgkioiaaDoorTie.lean); close each card by the builder's one call (the guide's Derived/Test/ToyasCard.lean, 'card_holds'). Laid BY PROGRAM, IN A SANDBOX (cutbox-door.mjs). By AI agents, Wed Nov 11 2026. No macro, syntax, notation, axiom, sorry.
-/
import Derived.Test.YtdcienojgkioiaaDoorRows
import GoSem.ClaimSeven
namespace Go.Proofs.YtdcienojgkioiaaDoor
namespace Rows

/-- THE TIED CARD OF 'laws.FnExactReadSwing'. -/
def fnExactReadSwingCard : Claim7 := { stood := { row := fnExactReadSwingRow, standIns := [], harness := (true, "ed6ce84aa128e61ec11d47c8fb9c8e252b8644b5586b29dc9fb96b8bfb9721b8"), looks := true }, kinds := [], alts := [], laidByText := true, laidKinds := [.data, .pinned], laidTests := true, laidLooks := .later }
def FnExactReadSwingCardSaid : Prop := Claim7.holds Tryd.pinned (.plain (OpenSpec.ofChange fnExactReadSwingSpec)) fnExactReadSwingCard

/-- THE TIED CARD OF 'laws.FnExactReadPendulum'. -/
def fnExactReadPendulumCard : Claim7 := { stood := { row := fnExactReadPendulumRow, standIns := [], harness := (true, "ed6ce84aa128e61ec11d47c8fb9c8e252b8644b5586b29dc9fb96b8bfb9721b8"), looks := true }, kinds := [], alts := [], laidByText := true, laidKinds := [.data, .pinned], laidTests := true, laidLooks := .later }
def FnExactReadPendulumCardSaid : Prop := Claim7.holds Tryd.pinned (.plain (OpenSpec.ofChange fnExactReadPendulumSpec)) fnExactReadPendulumCard

/-- THE TIED CARD OF 'laws.FnExactJournalOf'. -/
def fnExactJournalOfCard : Claim7 := { stood := { row := fnExactJournalOfRow, standIns := [], harness := (true, "ed6ce84aa128e61ec11d47c8fb9c8e252b8644b5586b29dc9fb96b8bfb9721b8"), looks := true }, kinds := [], alts := [], laidByText := true, laidKinds := [.data, .data, .data], laidTests := true, laidLooks := .later }
def FnExactJournalOfCardSaid : Prop := Claim7.holds Tryd.pinned (.plain (OpenSpec.ofChange fnExactJournalOfSpec)) fnExactJournalOfCard

/-- THE TIED CARD OF 'laws.FnExactRecoverJournal'. -/
def fnExactRecoverJournalCard : Claim7 := { stood := { row := fnExactRecoverJournalRow, standIns := [], harness := (true, "ed6ce84aa128e61ec11d47c8fb9c8e252b8644b5586b29dc9fb96b8bfb9721b8"), looks := true }, kinds := [], alts := [], laidByText := true, laidKinds := [.data, .data, .data], laidTests := true, laidLooks := .later }
def FnExactRecoverJournalCardSaid : Prop := Claim7.holds Tryd.pinned (.plain (OpenSpec.ofChange fnExactRecoverJournalSpec)) fnExactRecoverJournalCard

/-- THE TIED CARD OF 'laws.FnExactReadTop'. -/
def fnExactReadTopCard : Claim7 := { stood := { row := fnExactReadTopRow, standIns := [], harness := (true, "ed6ce84aa128e61ec11d47c8fb9c8e252b8644b5586b29dc9fb96b8bfb9721b8"), looks := true }, kinds := [], alts := [], laidByText := true, laidKinds := [.data, .pinned], laidTests := true, laidLooks := .later }
def FnExactReadTopCardSaid : Prop := Claim7.holds Tryd.pinned (.plain (OpenSpec.ofChange fnExactReadTopSpec)) fnExactReadTopCard

/-- THE TIED CARD OF 'laws.FnExactReadClocks'. -/
def fnExactReadClocksCard : Claim7 := { stood := { row := fnExactReadClocksRow, standIns := [], harness := (true, "ed6ce84aa128e61ec11d47c8fb9c8e252b8644b5586b29dc9fb96b8bfb9721b8"), looks := true }, kinds := [], alts := [], laidByText := true, laidKinds := [.data, .pinned], laidTests := true, laidLooks := .later }
def FnExactReadClocksCardSaid : Prop := Claim7.holds Tryd.pinned (.plain (OpenSpec.ofChange fnExactReadClocksSpec)) fnExactReadClocksCard

/-- THE TIED CARD OF 'laws.FnExactChainText'. -/
def fnExactChainTextCard : Claim7 := { stood := { row := fnExactChainTextRow, standIns := [], harness := (true, "ed6ce84aa128e61ec11d47c8fb9c8e252b8644b5586b29dc9fb96b8bfb9721b8"), looks := true }, kinds := [], alts := [], laidByText := true, laidKinds := [.data, .data, .data], laidTests := true, laidLooks := .later }
def FnExactChainTextCardSaid : Prop := Claim7.holds Tryd.pinned (.plain (OpenSpec.ofChange fnExactChainTextSpec)) fnExactChainTextCard

/-- THE TIED CARD OF 'laws.FnTexts'. -/
def fnTextsCard : Claim7 := { stood := { row := fnTextsRow, standIns := [], harness := (true, "ed6ce84aa128e61ec11d47c8fb9c8e252b8644b5586b29dc9fb96b8bfb9721b8"), looks := true }, kinds := [], alts := [], laidByText := true, laidKinds := [.data, .data, .data, .data, .sentinel, .sentinel, .pinned], laidTests := true, laidLooks := .later }
def FnTextsCardSaid : Prop := Claim7.holds Tryd.pinned (.plain (OpenSpec.ofChange fnTextsSpec)) fnTextsCard

/-- THE SECOND FORM's CARD OF 'laws.FnExactReadSwing'. -/
def fnExactReadSwingUptoCard : Claim7 := { stood := { row := fnExactReadSwingUptoRow, standIns := [], harness := (true, "ed6ce84aa128e61ec11d47c8fb9c8e252b8644b5586b29dc9fb96b8bfb9721b8"), looks := true }, kinds := [], alts := [], laidByText := true, laidKinds := [.data, .pinned], laidTests := true, laidLooks := .later }
def FnExactReadSwingUptoCardSaid : Prop := Claim7.holds Tryd.pinned (.plain (OpenSpec.upto fnExactReadSwingSpec)) fnExactReadSwingUptoCard

/-- THE SECOND FORM's CARD OF 'laws.FnExactReadPendulum'. -/
def fnExactReadPendulumUptoCard : Claim7 := { stood := { row := fnExactReadPendulumUptoRow, standIns := [], harness := (true, "ed6ce84aa128e61ec11d47c8fb9c8e252b8644b5586b29dc9fb96b8bfb9721b8"), looks := true }, kinds := [], alts := [], laidByText := true, laidKinds := [.data, .pinned], laidTests := true, laidLooks := .later }
def FnExactReadPendulumUptoCardSaid : Prop := Claim7.holds Tryd.pinned (.plain (OpenSpec.upto fnExactReadPendulumSpec)) fnExactReadPendulumUptoCard

/-- THE SECOND FORM's CARD OF 'laws.FnExactJournalOf'. -/
def fnExactJournalOfUptoCard : Claim7 := { stood := { row := fnExactJournalOfUptoRow, standIns := [], harness := (true, "ed6ce84aa128e61ec11d47c8fb9c8e252b8644b5586b29dc9fb96b8bfb9721b8"), looks := true }, kinds := [], alts := [], laidByText := true, laidKinds := [.data, .data, .data], laidTests := true, laidLooks := .later }
def FnExactJournalOfUptoCardSaid : Prop := Claim7.holds Tryd.pinned (.plain (OpenSpec.upto fnExactJournalOfSpec)) fnExactJournalOfUptoCard

/-- THE SECOND FORM's CARD OF 'laws.FnExactRecoverJournal'. -/
def fnExactRecoverJournalUptoCard : Claim7 := { stood := { row := fnExactRecoverJournalUptoRow, standIns := [], harness := (true, "ed6ce84aa128e61ec11d47c8fb9c8e252b8644b5586b29dc9fb96b8bfb9721b8"), looks := true }, kinds := [], alts := [], laidByText := true, laidKinds := [.data, .data, .data], laidTests := true, laidLooks := .later }
def FnExactRecoverJournalUptoCardSaid : Prop := Claim7.holds Tryd.pinned (.plain (OpenSpec.upto fnExactRecoverJournalSpec)) fnExactRecoverJournalUptoCard

/-- THE SECOND FORM's CARD OF 'laws.FnExactReadTop'. -/
def fnExactReadTopUptoCard : Claim7 := { stood := { row := fnExactReadTopUptoRow, standIns := [], harness := (true, "ed6ce84aa128e61ec11d47c8fb9c8e252b8644b5586b29dc9fb96b8bfb9721b8"), looks := true }, kinds := [], alts := [], laidByText := true, laidKinds := [.data, .pinned], laidTests := true, laidLooks := .later }
def FnExactReadTopUptoCardSaid : Prop := Claim7.holds Tryd.pinned (.plain (OpenSpec.upto fnExactReadTopSpec)) fnExactReadTopUptoCard

/-- THE SECOND FORM's CARD OF 'laws.FnExactReadClocks'. -/
def fnExactReadClocksUptoCard : Claim7 := { stood := { row := fnExactReadClocksUptoRow, standIns := [], harness := (true, "ed6ce84aa128e61ec11d47c8fb9c8e252b8644b5586b29dc9fb96b8bfb9721b8"), looks := true }, kinds := [], alts := [], laidByText := true, laidKinds := [.data, .pinned], laidTests := true, laidLooks := .later }
def FnExactReadClocksUptoCardSaid : Prop := Claim7.holds Tryd.pinned (.plain (OpenSpec.upto fnExactReadClocksSpec)) fnExactReadClocksUptoCard

/-- THE SECOND FORM's CARD OF 'laws.FnExactChainText'. -/
def fnExactChainTextUptoCard : Claim7 := { stood := { row := fnExactChainTextUptoRow, standIns := [], harness := (true, "ed6ce84aa128e61ec11d47c8fb9c8e252b8644b5586b29dc9fb96b8bfb9721b8"), looks := true }, kinds := [], alts := [], laidByText := true, laidKinds := [.data, .data, .data], laidTests := true, laidLooks := .later }
def FnExactChainTextUptoCardSaid : Prop := Claim7.holds Tryd.pinned (.plain (OpenSpec.upto fnExactChainTextSpec)) fnExactChainTextUptoCard

/-- THE SECOND FORM's CARD OF 'laws.FnTexts'. -/
def fnTextsUptoCard : Claim7 := { stood := { row := fnTextsUptoRow, standIns := [], harness := (true, "ed6ce84aa128e61ec11d47c8fb9c8e252b8644b5586b29dc9fb96b8bfb9721b8"), looks := true }, kinds := [], alts := [], laidByText := true, laidKinds := [.data, .data, .data, .data, .sentinel, .sentinel, .pinned], laidTests := true, laidLooks := .later }
def FnTextsUptoCardSaid : Prop := Claim7.holds Tryd.pinned (.plain (OpenSpec.upto fnTextsSpec)) fnTextsUptoCard
end Rows
end Go.Proofs.YtdcienojgkioiaaDoor
