/-
  DERIVED. GIVEN WITH THE SEED: THE CARDS: each row of YtlboclmdfkllnaaGreatDoorRows.lean that lists a variable, with what it lists TIED to the program's text (the seventh form; the later family's looks); each row that meets fmt, with fmt's text TOLD by the authors' own Lean function (tested against real Go, not proved from fmt's source: count such statements apart). THE CARD IS WHAT COUNTS. Prove the row's statement (the work); the ties are given (YtlboclmdfkllnaaGreatDoorTie.lean); close each card by the builder's one call (the guide's Derived/Test/ToyasCard.lean, 'card_holds'). Laid BY PROGRAM, IN A SANDBOX (cutbox-door.mjs). By AI agents, Wed Nov 11 2026. No macro, syntax, notation, axiom, sorry.
-/
import Derived.Test.YtlboclmdfkllnaaGreatDoorRows
import GoSem.ClaimSeven
namespace Go.Proofs.YtlboclmdfkllnaaGreatDoor
namespace Rows

/-- THE TIED CARD OF 'pomanderlaw24.TrailTexts'. -/
def trailTextsCard : Claim7 := { stood := { row := trailTextsRow, standIns := [], harness := (true, "3442c071e9c2df336ede8d4d2ae6b7a34e1266bd54730d58e8322ab85ab2331b"), looks := true }, kinds := [], alts := [], laidByText := true, laidKinds := [.data, .data, .data], laidTests := true, laidLooks := .later }
def TrailTextsCardSaid : Prop := Claim7.holds Tryz.pinned (.plain (OpenSpec.ofChange trailTextsSpec)) trailTextsCard

/-- THE SECOND FORM's CARD OF 'pomanderlaw24.TrailTexts'. -/
def trailTextsUptoCard : Claim7 := { stood := { row := trailTextsUptoRow, standIns := [], harness := (true, "3442c071e9c2df336ede8d4d2ae6b7a34e1266bd54730d58e8322ab85ab2331b"), looks := true }, kinds := [], alts := [], laidByText := true, laidKinds := [.data, .data, .data], laidTests := true, laidLooks := .later }
def TrailTextsUptoCardSaid : Prop := Claim7.holds Tryz.pinned (.plain (OpenSpec.upto trailTextsSpec)) trailTextsUptoCard
end Rows
end Go.Proofs.YtlboclmdfkllnaaGreatDoor
