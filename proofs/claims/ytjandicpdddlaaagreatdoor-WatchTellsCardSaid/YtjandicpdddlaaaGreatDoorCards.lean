/-
  DERIVED. GIVEN WITH THE SEED: THE CARDS: each row of YtjandicpdddlaaaGreatDoorRows.lean that lists a variable, with what it lists TIED to the program's text (the seventh form; the later family's looks); each row that meets fmt, with fmt's text TOLD by the authors' own Lean function (tested against real Go, not proved from fmt's source: count such statements apart). THE CARD IS WHAT COUNTS. Prove the row's statement (the work); the ties are given (YtjandicpdddlaaaGreatDoorTie.lean); close each card by the builder's one call (the guide's Derived/Test/ToyasCard.lean, 'card_holds'). Laid BY PROGRAM, IN A SANDBOX (cutbox-door.mjs). By AI agents, Wed Nov 11 2026. No macro, syntax, notation, axiom, sorry.
-/
import Derived.Test.YtjandicpdddlaaaGreatDoorRows
import GoSem.ClaimSeven
namespace Go.Proofs.YtjandicpdddlaaaGreatDoor
namespace Rows

/-- THE TIED CARD OF 'demesnelaw47.WatchTells'. -/
def watchTellsCard : Claim7 := { stood := { row := watchTellsRow, standIns := [], harness := (true, "1ce638fd44de1f6d9bb90aad9f8b0ad2c9fd0bc5e88901b56f35bd5c2081cac3"), looks := true }, kinds := [], alts := [], laidByText := true, laidKinds := [.widerDeep], laidTests := true, laidLooks := .later }
def WatchTellsCardSaid : Prop := Claim7.holds Tryz.pinned (.plain (OpenSpec.ofChange watchTellsSpec)) watchTellsCard

/-- THE SECOND FORM's CARD OF 'demesnelaw47.WatchTells'. -/
def watchTellsUptoCard : Claim7 := { stood := { row := watchTellsUptoRow, standIns := [], harness := (true, "1ce638fd44de1f6d9bb90aad9f8b0ad2c9fd0bc5e88901b56f35bd5c2081cac3"), looks := true }, kinds := [], alts := [], laidByText := true, laidKinds := [.widerDeep], laidTests := true, laidLooks := .later }
def WatchTellsUptoCardSaid : Prop := Claim7.holds Tryz.pinned (.plain (OpenSpec.upto watchTellsSpec)) watchTellsUptoCard
end Rows
end Go.Proofs.YtjandicpdddlaaaGreatDoor
