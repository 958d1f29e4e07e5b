/-
  DERIVED. GIVEN WITH THE SEED: THE CARDS: each row of YtajpkhkfffdclaaDoorRows.lean that lists a variable, with what it lists TIED to the program's text (the seventh form; the later family's looks); each row that meets fmt, with fmt's text TOLD by the authors' own Lean function (tested against real Go, not proved from fmt's source: count such statements apart). THE CARD IS WHAT COUNTS. Prove the row's statement (the work); the ties are given (YtajpkhkfffdclaaDoorTie.lean); close each card by the builder's one call (the guide's Derived/Test/ToyasCard.lean, 'card_holds'). Laid BY PROGRAM, IN A SANDBOX (cutbox-door.mjs). By AI agents, Wed Nov 11 2026. No macro, syntax, notation, axiom, sorry.
-/
import Derived.Test.YtajpkhkfffdclaaDoorRows
import GoSem.ClaimSeven
namespace Go.Proofs.YtajpkhkfffdclaaDoor
namespace Rows

/-- THE TIED CARD OF 'spandrellaw02.TermMeets'. -/
def termMeetsCard : Claim7 := { stood := { row := termMeetsRow, standIns := [], harness := (true, "7ae12e798ea215dccd35e5e90517ba431d3ddf313f09c36c751c918838b6dc30"), looks := true }, kinds := [], alts := [], laidByText := true, laidKinds := [.data], laidTests := true, laidLooks := .later }
def TermMeetsCardSaid : Prop := Claim7.holds Tryd.pinned (.plain (OpenSpec.ofChange termMeetsSpec)) termMeetsCard

/-- THE TIED CARD OF 'spandrellaw05.CoreTells'. -/
def coreTellsCard : Claim7 := { stood := { row := coreTellsRow, standIns := [], harness := (true, "7ae12e798ea215dccd35e5e90517ba431d3ddf313f09c36c751c918838b6dc30"), looks := true }, kinds := [], alts := [], laidByText := true, laidKinds := [.data], laidTests := true, laidLooks := .later }
def CoreTellsCardSaid : Prop := Claim7.holds Tryd.pinned (.plain (OpenSpec.ofChange coreTellsSpec)) coreTellsCard

/-- THE TIED CARD OF 'spandrellaw05.CoreParts'. -/
def corePartsCard : Claim7 := { stood := { row := corePartsRow, standIns := [], harness := (true, "7ae12e798ea215dccd35e5e90517ba431d3ddf313f09c36c751c918838b6dc30"), looks := true }, kinds := [], alts := [], laidByText := true, laidKinds := [.data], laidTests := true, laidLooks := .later }
def CorePartsCardSaid : Prop := Claim7.holds Tryd.pinned (.plain (OpenSpec.ofChange corePartsSpec)) corePartsCard

/-- THE TIED CARD OF 'spandrellaw05.CoreKeeps'. -/
def coreKeepsCard : Claim7 := { stood := { row := coreKeepsRow, standIns := [], harness := (true, "7ae12e798ea215dccd35e5e90517ba431d3ddf313f09c36c751c918838b6dc30"), looks := true }, kinds := [], alts := [], laidByText := true, laidKinds := [.data], laidTests := true, laidLooks := .later }
def CoreKeepsCardSaid : Prop := Claim7.holds Tryd.pinned (.plain (OpenSpec.ofChange coreKeepsSpec)) coreKeepsCard

/-- THE TIED CARD OF 'spandrellaw02.TermLifts'. -/
def termLiftsCard : Claim7 := { stood := { row := termLiftsRow, standIns := [], harness := (true, "7ae12e798ea215dccd35e5e90517ba431d3ddf313f09c36c751c918838b6dc30"), looks := true }, kinds := [], alts := [], laidByText := true, laidKinds := [.data], laidTests := true, laidLooks := .later }
def TermLiftsCardSaid : Prop := Claim7.holds Tryd.pinned (.plain (OpenSpec.ofChange termLiftsSpec)) termLiftsCard

/-- THE SECOND FORM's CARD OF 'spandrellaw02.TermMeets'. -/
def termMeetsUptoCard : Claim7 := { stood := { row := termMeetsUptoRow, standIns := [], harness := (true, "7ae12e798ea215dccd35e5e90517ba431d3ddf313f09c36c751c918838b6dc30"), looks := true }, kinds := [], alts := [], laidByText := true, laidKinds := [.data], laidTests := true, laidLooks := .later }
def TermMeetsUptoCardSaid : Prop := Claim7.holds Tryd.pinned (.plain (OpenSpec.upto termMeetsSpec)) termMeetsUptoCard

/-- THE SECOND FORM's CARD OF 'spandrellaw05.CoreTells'. -/
def coreTellsUptoCard : Claim7 := { stood := { row := coreTellsUptoRow, standIns := [], harness := (true, "7ae12e798ea215dccd35e5e90517ba431d3ddf313f09c36c751c918838b6dc30"), looks := true }, kinds := [], alts := [], laidByText := true, laidKinds := [.data], laidTests := true, laidLooks := .later }
def CoreTellsUptoCardSaid : Prop := Claim7.holds Tryd.pinned (.plain (OpenSpec.upto coreTellsSpec)) coreTellsUptoCard

/-- THE SECOND FORM's CARD OF 'spandrellaw05.CoreParts'. -/
def corePartsUptoCard : Claim7 := { stood := { row := corePartsUptoRow, standIns := [], harness := (true, "7ae12e798ea215dccd35e5e90517ba431d3ddf313f09c36c751c918838b6dc30"), looks := true }, kinds := [], alts := [], laidByText := true, laidKinds := [.data], laidTests := true, laidLooks := .later }
def CorePartsUptoCardSaid : Prop := Claim7.holds Tryd.pinned (.plain (OpenSpec.upto corePartsSpec)) corePartsUptoCard

/-- THE SECOND FORM's CARD OF 'spandrellaw05.CoreKeeps'. -/
def coreKeepsUptoCard : Claim7 := { stood := { row := coreKeepsUptoRow, standIns := [], harness := (true, "7ae12e798ea215dccd35e5e90517ba431d3ddf313f09c36c751c918838b6dc30"), looks := true }, kinds := [], alts := [], laidByText := true, laidKinds := [.data], laidTests := true, laidLooks := .later }
def CoreKeepsUptoCardSaid : Prop := Claim7.holds Tryd.pinned (.plain (OpenSpec.upto coreKeepsSpec)) coreKeepsUptoCard

/-- THE SECOND FORM's CARD OF 'spandrellaw02.TermLifts'. -/
def termLiftsUptoCard : Claim7 := { stood := { row := termLiftsUptoRow, standIns := [], harness := (true, "7ae12e798ea215dccd35e5e90517ba431d3ddf313f09c36c751c918838b6dc30"), looks := true }, kinds := [], alts := [], laidByText := true, laidKinds := [.data], laidTests := true, laidLooks := .later }
def TermLiftsUptoCardSaid : Prop := Claim7.holds Tryd.pinned (.plain (OpenSpec.upto termLiftsSpec)) termLiftsUptoCard
end Rows
end Go.Proofs.YtajpkhkfffdclaaDoor
