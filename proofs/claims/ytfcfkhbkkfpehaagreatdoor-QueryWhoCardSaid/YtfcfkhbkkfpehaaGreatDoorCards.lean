/-
  DERIVED. GIVEN WITH THE SEED: THE CARDS: each row of YtfcfkhbkkfpehaaGreatDoorRows.lean that lists a variable, with what it lists TIED to the program's text (the seventh form; the later family's looks); each row that meets fmt, with fmt's text TOLD by the authors' own Lean function (tested against real Go, not proved from fmt's source: count such statements apart). THE CARD IS WHAT COUNTS. Prove the row's statement (the work); the ties are given (YtfcfkhbkkfpehaaGreatDoorTie.lean); close each card by the builder's one call (the guide's Derived/Test/ToyasCard.lean, 'card_holds'). Laid BY PROGRAM, IN A SANDBOX (cutbox-door.mjs). By AI agents, Wed Nov 11 2026. No macro, syntax, notation, axiom, sorry.
-/
import Derived.Test.YtfcfkhbkkfpehaaGreatDoorRows
import GoSem.ClaimSeven
namespace Go.Proofs.YtfcfkhbkkfpehaaGreatDoor
namespace Rows

/-- THE TIED CARD OF 'pomanderlaw14.QueryNil'. -/
def queryNilCard : Claim7 := { stood := { row := queryNilRow, standIns := [], harness := (true, "3f1f22321030305e34fc1e537322a6b3d3c86d3b3860d9c4d697efe43708c1e0"), looks := true }, kinds := [], alts := [], laidByText := true, laidKinds := [.data, .data, .data], laidTests := true, laidLooks := .later }
def QueryNilCardSaid : Prop := Claim7.holds Tryz.pinned (.plain (OpenSpec.ofChange queryNilSpec)) queryNilCard

/-- THE TIED CARD OF 'pomanderlaw14.QueryWho'. -/
def queryWhoCard : Claim7 := { stood := { row := queryWhoRow, standIns := [], harness := (true, "3f1f22321030305e34fc1e537322a6b3d3c86d3b3860d9c4d697efe43708c1e0"), looks := true }, kinds := [], alts := [], laidByText := true, laidKinds := [.data, .data, .data], laidTests := true, laidLooks := .later }
def QueryWhoCardSaid : Prop := Claim7.holds Tryz.pinned (.plain (OpenSpec.ofChange queryWhoSpec)) queryWhoCard

/-- THE SECOND FORM's CARD OF 'pomanderlaw14.QueryNil'. -/
def queryNilUptoCard : Claim7 := { stood := { row := queryNilUptoRow, standIns := [], harness := (true, "3f1f22321030305e34fc1e537322a6b3d3c86d3b3860d9c4d697efe43708c1e0"), looks := true }, kinds := [], alts := [], laidByText := true, laidKinds := [.data, .data, .data], laidTests := true, laidLooks := .later }
def QueryNilUptoCardSaid : Prop := Claim7.holds Tryz.pinned (.plain (OpenSpec.upto queryNilSpec)) queryNilUptoCard

/-- THE SECOND FORM's CARD OF 'pomanderlaw14.QueryWho'. -/
def queryWhoUptoCard : Claim7 := { stood := { row := queryWhoUptoRow, standIns := [], harness := (true, "3f1f22321030305e34fc1e537322a6b3d3c86d3b3860d9c4d697efe43708c1e0"), looks := true }, kinds := [], alts := [], laidByText := true, laidKinds := [.data, .data, .data], laidTests := true, laidLooks := .later }
def QueryWhoUptoCardSaid : Prop := Claim7.holds Tryz.pinned (.plain (OpenSpec.upto queryWhoSpec)) queryWhoUptoCard
end Rows
end Go.Proofs.YtfcfkhbkkfpehaaGreatDoor
