/-
  DERIVED. GIVEN WITH THE SEED: THE CARDS: each row of YtddpefbpiehgeaaDoorRows.lean that lists a variable, with what it lists TIED to the program's text (the seventh form; the later family's looks); each row that meets fmt, with fmt's text TOLD by the authors' own Lean function (tested against real Go, not proved from fmt's source: count such statements apart). THE CARD IS WHAT COUNTS. Prove the row's statement (the work); the ties are given (YtddpefbpiehgeaaDoorTie.lean); close each card by the builder's one call (the guide's Derived/Test/ToyasCard.lean, 'card_holds'). Laid BY PROGRAM, IN A SANDBOX (cutbox-door.mjs). By AI agents, Wed Nov 11 2026. No macro, syntax, notation, axiom, sorry.
-/
import Derived.Test.YtddpefbpiehgeaaDoorRows
import GoSem.ClaimSeven
namespace Go.Proofs.YtddpefbpiehgeaaDoor
namespace Rows

/-- THE TIED CARD OF 'fareboxlaw12.LinkFrames'. -/
def linkFramesCard : Claim7 := { stood := { row := linkFramesRow, standIns := [], harness := (true, "2ccb1b888c5ba6715400c18416fa6da1dd013f0f05b23559e9e8584ea41bb72a"), looks := true }, kinds := [], alts := [], laidByText := true, laidKinds := [.data, .data, .data, .data], laidTests := true, laidLooks := .later }
def LinkFramesCardSaid : Prop := Claim7.holds Tryd.pinned (.plain (OpenSpec.ofChange linkFramesSpec)) linkFramesCard

/-- THE TIED CARD OF 'fareboxlaw12.LinkTakes'. -/
def linkTakesCard : Claim7 := { stood := { row := linkTakesRow, standIns := [], harness := (true, "2ccb1b888c5ba6715400c18416fa6da1dd013f0f05b23559e9e8584ea41bb72a"), looks := true }, kinds := [], alts := [], laidByText := true, laidKinds := [.data, .data], laidTests := true, laidLooks := .later }
def LinkTakesCardSaid : Prop := Claim7.holds Tryd.pinned (.plain (OpenSpec.ofChange linkTakesSpec)) linkTakesCard

/-- THE TIED CARD OF 'fareboxlaw12.LinkBack'. -/
def linkBackCard : Claim7 := { stood := { row := linkBackRow, standIns := [], harness := (true, "2ccb1b888c5ba6715400c18416fa6da1dd013f0f05b23559e9e8584ea41bb72a"), looks := true }, kinds := [], alts := [], laidByText := true, laidKinds := [.data, .data], laidTests := true, laidLooks := .later }
def LinkBackCardSaid : Prop := Claim7.holds Tryd.pinned (.plain (OpenSpec.ofChange linkBackSpec)) linkBackCard

/-- THE TIED CARD OF 'fareboxlaw12.LinkOnce'. -/
def linkOnceCard : Claim7 := { stood := { row := linkOnceRow, standIns := [], harness := (true, "2ccb1b888c5ba6715400c18416fa6da1dd013f0f05b23559e9e8584ea41bb72a"), looks := true }, kinds := [], alts := [], laidByText := true, laidKinds := [.data, .data], laidTests := true, laidLooks := .later }
def LinkOnceCardSaid : Prop := Claim7.holds Tryd.pinned (.plain (OpenSpec.ofChange linkOnceSpec)) linkOnceCard

/-- THE TIED CARD OF 'fareboxlaw12.LinkDrains'. -/
def linkDrainsCard : Claim7 := { stood := { row := linkDrainsRow, standIns := [], harness := (true, "2ccb1b888c5ba6715400c18416fa6da1dd013f0f05b23559e9e8584ea41bb72a"), looks := true }, kinds := [], alts := [], laidByText := true, laidKinds := [.data, .data], laidTests := true, laidLooks := .later }
def LinkDrainsCardSaid : Prop := Claim7.holds Tryd.pinned (.plain (OpenSpec.ofChange linkDrainsSpec)) linkDrainsCard

/-- THE TIED CARD OF 'fareboxlaw12.LinkSecrets'. -/
def linkSecretsCard : Claim7 := { stood := { row := linkSecretsRow, standIns := [], harness := (true, "2ccb1b888c5ba6715400c18416fa6da1dd013f0f05b23559e9e8584ea41bb72a"), looks := true }, kinds := [], alts := [], laidByText := true, laidKinds := [.data, .data, .data, .data], laidTests := true, laidLooks := .later }
def LinkSecretsCardSaid : Prop := Claim7.holds Tryd.pinned (.plain (OpenSpec.ofChange linkSecretsSpec)) linkSecretsCard

/-- THE SECOND FORM's CARD OF 'fareboxlaw12.LinkFrames'. -/
def linkFramesUptoCard : Claim7 := { stood := { row := linkFramesUptoRow, standIns := [], harness := (true, "2ccb1b888c5ba6715400c18416fa6da1dd013f0f05b23559e9e8584ea41bb72a"), looks := true }, kinds := [], alts := [], laidByText := true, laidKinds := [.data, .data, .data, .data], laidTests := true, laidLooks := .later }
def LinkFramesUptoCardSaid : Prop := Claim7.holds Tryd.pinned (.plain (OpenSpec.upto linkFramesSpec)) linkFramesUptoCard

/-- THE SECOND FORM's CARD OF 'fareboxlaw12.LinkTakes'. -/
def linkTakesUptoCard : Claim7 := { stood := { row := linkTakesUptoRow, standIns := [], harness := (true, "2ccb1b888c5ba6715400c18416fa6da1dd013f0f05b23559e9e8584ea41bb72a"), looks := true }, kinds := [], alts := [], laidByText := true, laidKinds := [.data, .data], laidTests := true, laidLooks := .later }
def LinkTakesUptoCardSaid : Prop := Claim7.holds Tryd.pinned (.plain (OpenSpec.upto linkTakesSpec)) linkTakesUptoCard

/-- THE SECOND FORM's CARD OF 'fareboxlaw12.LinkBack'. -/
def linkBackUptoCard : Claim7 := { stood := { row := linkBackUptoRow, standIns := [], harness := (true, "2ccb1b888c5ba6715400c18416fa6da1dd013f0f05b23559e9e8584ea41bb72a"), looks := true }, kinds := [], alts := [], laidByText := true, laidKinds := [.data, .data], laidTests := true, laidLooks := .later }
def LinkBackUptoCardSaid : Prop := Claim7.holds Tryd.pinned (.plain (OpenSpec.upto linkBackSpec)) linkBackUptoCard

/-- THE SECOND FORM's CARD OF 'fareboxlaw12.LinkOnce'. -/
def linkOnceUptoCard : Claim7 := { stood := { row := linkOnceUptoRow, standIns := [], harness := (true, "2ccb1b888c5ba6715400c18416fa6da1dd013f0f05b23559e9e8584ea41bb72a"), looks := true }, kinds := [], alts := [], laidByText := true, laidKinds := [.data, .data], laidTests := true, laidLooks := .later }
def LinkOnceUptoCardSaid : Prop := Claim7.holds Tryd.pinned (.plain (OpenSpec.upto linkOnceSpec)) linkOnceUptoCard

/-- THE SECOND FORM's CARD OF 'fareboxlaw12.LinkDrains'. -/
def linkDrainsUptoCard : Claim7 := { stood := { row := linkDrainsUptoRow, standIns := [], harness := (true, "2ccb1b888c5ba6715400c18416fa6da1dd013f0f05b23559e9e8584ea41bb72a"), looks := true }, kinds := [], alts := [], laidByText := true, laidKinds := [.data, .data], laidTests := true, laidLooks := .later }
def LinkDrainsUptoCardSaid : Prop := Claim7.holds Tryd.pinned (.plain (OpenSpec.upto linkDrainsSpec)) linkDrainsUptoCard

/-- THE SECOND FORM's CARD OF 'fareboxlaw12.LinkSecrets'. -/
def linkSecretsUptoCard : Claim7 := { stood := { row := linkSecretsUptoRow, standIns := [], harness := (true, "2ccb1b888c5ba6715400c18416fa6da1dd013f0f05b23559e9e8584ea41bb72a"), looks := true }, kinds := [], alts := [], laidByText := true, laidKinds := [.data, .data, .data, .data], laidTests := true, laidLooks := .later }
def LinkSecretsUptoCardSaid : Prop := Claim7.holds Tryd.pinned (.plain (OpenSpec.upto linkSecretsSpec)) linkSecretsUptoCard
end Rows
end Go.Proofs.YtddpefbpiehgeaaDoor
