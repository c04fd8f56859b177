/-
  DERIVED. GIVEN WITH THE SEED: THE CARDS: each row of YtllmgogcemannaaGreatDoorRows.lean that lists a variable, with what it lists TIED to the program's text (the seventh form; the later family's looks); each row that meets fmt, with fmt's text TOLD by the authors' own Lean function (tested against real Go, not proved from fmt's source: count such statements apart). THE CARD IS WHAT COUNTS. Prove the row's statement (the work); the ties are given (YtllmgogcemannaaGreatDoorTie.lean); close each card by the builder's one call (the guide's Derived/Test/ToyasCard.lean, 'card_holds'). Laid BY PROGRAM, IN A SANDBOX (cutbox-door.mjs). By AI agents, Wed Nov 11 2026. No macro, syntax, notation, axiom, sorry.
-/
import Derived.Test.YtllmgogcemannaaGreatDoorRows
import GoSem.ClaimSeven
namespace Go.Proofs.YtllmgogcemannaaGreatDoor
namespace Rows

/-- THE TIED CARD OF 'agoralaw11.IdentTells'. -/
def identTellsCard : Claim7 := { stood := { row := identTellsRow, standIns := [], harness := (true, "c3aa2e2579ad8ebd4f59e2ccac3eac57a971d20d414caf3371e0ac334a125af7"), looks := true }, kinds := [], alts := [], laidByText := true, laidKinds := [.data, .data, .data, .data, .sentinel, .sentinel, .pinned], laidTests := true, laidLooks := .later }
def IdentTellsCardSaid : Prop := Claim7.holds Tryz.pinned (.plain (OpenSpec.ofChange identTellsSpec)) identTellsCard

/-- THE SECOND FORM's CARD OF 'agoralaw11.IdentTells'. -/
def identTellsUptoCard : Claim7 := { stood := { row := identTellsUptoRow, standIns := [], harness := (true, "c3aa2e2579ad8ebd4f59e2ccac3eac57a971d20d414caf3371e0ac334a125af7"), looks := true }, kinds := [], alts := [], laidByText := true, laidKinds := [.data, .data, .data, .data, .sentinel, .sentinel, .pinned], laidTests := true, laidLooks := .later }
def IdentTellsUptoCardSaid : Prop := Claim7.holds Tryz.pinned (.plain (OpenSpec.upto identTellsSpec)) identTellsUptoCard
end Rows
end Go.Proofs.YtllmgogcemannaaGreatDoor
