/-
  DERIVED. GIVEN WITH THE SEED: THE CARDS: each row of YtgegaipkfpdocaaDoorRows.lean that lists a variable, with what it lists TIED to the program's text (the seventh form; the later family's looks); each row that meets fmt, with fmt's text TOLD by the authors' own Lean function (tested against real Go, not proved from fmt's source: count such statements apart). THE CARD IS WHAT COUNTS. Prove the row's statement (the work); the ties are given (YtgegaipkfpdocaaDoorTie.lean); close each card by the builder's one call (the guide's Derived/Test/ToyasCard.lean, 'card_holds'). Laid BY PROGRAM, IN A SANDBOX (cutbox-door.mjs). By AI agents, Wed Nov 11 2026. No macro, syntax, notation, axiom, sorry.
-/
import Derived.Test.YtgegaipkfpdocaaDoorRows
import GoSem.ClaimSeven
namespace Go.Proofs.YtgegaipkfpdocaaDoor
namespace Rows

/-- THE TIED CARD OF 'spandrellaw05.CoreKeeps'. -/
def coreKeepsCard : Claim7 := { stood := { row := coreKeepsRow, standIns := [], harness := (true, "55c41621fc189a40f1533c2de72672fa854e38a98016ccb56c23aa26b9079073"), looks := true }, kinds := [], alts := [], laidByText := true, laidKinds := [.data], laidTests := true, laidLooks := .later }
def CoreKeepsCardSaid : Prop := Claim7.holds Tryd.pinned (.plain (OpenSpec.ofChange coreKeepsSpec)) coreKeepsCard

/-- THE TIED CARD OF 'spandrellaw02.TermLifts'. -/
def termLiftsCard : Claim7 := { stood := { row := termLiftsRow, standIns := [], harness := (true, "55c41621fc189a40f1533c2de72672fa854e38a98016ccb56c23aa26b9079073"), looks := true }, kinds := [], alts := [], laidByText := true, laidKinds := [.data], laidTests := true, laidLooks := .later }
def TermLiftsCardSaid : Prop := Claim7.holds Tryd.pinned (.plain (OpenSpec.ofChange termLiftsSpec)) termLiftsCard

/-- THE SECOND FORM's CARD OF 'spandrellaw05.CoreKeeps'. -/
def coreKeepsUptoCard : Claim7 := { stood := { row := coreKeepsUptoRow, standIns := [], harness := (true, "55c41621fc189a40f1533c2de72672fa854e38a98016ccb56c23aa26b9079073"), looks := true }, kinds := [], alts := [], laidByText := true, laidKinds := [.data], laidTests := true, laidLooks := .later }
def CoreKeepsUptoCardSaid : Prop := Claim7.holds Tryd.pinned (.plain (OpenSpec.upto coreKeepsSpec)) coreKeepsUptoCard

/-- THE SECOND FORM's CARD OF 'spandrellaw02.TermLifts'. -/
def termLiftsUptoCard : Claim7 := { stood := { row := termLiftsUptoRow, standIns := [], harness := (true, "55c41621fc189a40f1533c2de72672fa854e38a98016ccb56c23aa26b9079073"), looks := true }, kinds := [], alts := [], laidByText := true, laidKinds := [.data], laidTests := true, laidLooks := .later }
def TermLiftsUptoCardSaid : Prop := Claim7.holds Tryd.pinned (.plain (OpenSpec.upto termLiftsSpec)) termLiftsUptoCard
end Rows
end Go.Proofs.YtgegaipkfpdocaaDoor
