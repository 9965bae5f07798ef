/-
  DERIVED. GIVEN WITH THE SEED: THE CARDS: each row of YtfcfkhbkkfpehaaDoorRows.lean that lists a variable, with what it lists TIED to the program's text (the seventh form; the later family's looks); each row that meets fmt, with fmt's text TOLD by the authors' own Lean function (tested against real Go, not proved from fmt's source: count such statements apart). THE CARD IS WHAT COUNTS. Prove the row's statement (the work); the ties are given (YtfcfkhbkkfpehaaDoorTie.lean); close each card by the builder's one call (the guide's Derived/Test/ToyasCard.lean, 'card_holds'). Laid BY PROGRAM, IN A SANDBOX (cutbox-door.mjs). By AI agents, Wed Nov 11 2026. No macro, syntax, notation, axiom, sorry.
-/
import Derived.Test.YtfcfkhbkkfpehaaDoorRows
import GoSem.ClaimSeven
namespace Go.Proofs.YtfcfkhbkkfpehaaDoor
namespace Rows

/-- THE TIED CARD OF 'pomanderlaw14.QueryChain'. -/
def queryChainCard : Claim7 := { stood := { row := queryChainRow, standIns := [], harness := (true, "629f85d1b802cb82b16b71fac3e17c43bf6ef85b686fe966122ba80785806ad5"), looks := false }, kinds := [], alts := [], laidByText := true, laidKinds := [.data, .data, .data], laidTests := true, laidLooks := .later }
def QueryChainCardSaid : Prop := Claim7.holds Tryd.pinned (.plain (OpenSpec.ofChange queryChainSpec)) queryChainCard

/-- THE TIED CARD OF 'pomanderlaw14.QueryRoots'. -/
def queryRootsCard : Claim7 := { stood := { row := queryRootsRow, standIns := [], harness := (true, "629f85d1b802cb82b16b71fac3e17c43bf6ef85b686fe966122ba80785806ad5"), looks := false }, kinds := [], alts := [], laidByText := true, laidKinds := [.data, .data, .data], laidTests := true, laidLooks := .later }
def QueryRootsCardSaid : Prop := Claim7.holds Tryd.pinned (.plain (OpenSpec.ofChange queryRootsSpec)) queryRootsCard

/-- THE TIED CARD OF 'pomanderlaw14.QueryLater'. -/
def queryLaterCard : Claim7 := { stood := { row := queryLaterRow, standIns := [], harness := (true, "629f85d1b802cb82b16b71fac3e17c43bf6ef85b686fe966122ba80785806ad5"), looks := false }, kinds := [], alts := [], laidByText := true, laidKinds := [.data, .data, .data], laidTests := true, laidLooks := .later }
def QueryLaterCardSaid : Prop := Claim7.holds Tryd.pinned (.plain (OpenSpec.ofChange queryLaterSpec)) queryLaterCard

/-- THE TIED CARD OF 'pomanderlaw14.QueryNotes'. -/
def queryNotesCard : Claim7 := { stood := { row := queryNotesRow, standIns := [], harness := (true, "629f85d1b802cb82b16b71fac3e17c43bf6ef85b686fe966122ba80785806ad5"), looks := false }, kinds := [], alts := [], laidByText := true, laidKinds := [.data, .data, .data], laidTests := true, laidLooks := .later }
def QueryNotesCardSaid : Prop := Claim7.holds Tryd.pinned (.plain (OpenSpec.ofChange queryNotesSpec)) queryNotesCard

/-- THE SECOND FORM's CARD OF 'pomanderlaw14.QueryChain'. -/
def queryChainUptoCard : Claim7 := { stood := { row := queryChainUptoRow, standIns := [], harness := (true, "629f85d1b802cb82b16b71fac3e17c43bf6ef85b686fe966122ba80785806ad5"), looks := false }, kinds := [], alts := [], laidByText := true, laidKinds := [.data, .data, .data], laidTests := true, laidLooks := .later }
def QueryChainUptoCardSaid : Prop := Claim7.holds Tryd.pinned (.plain (OpenSpec.upto queryChainSpec)) queryChainUptoCard

/-- THE SECOND FORM's CARD OF 'pomanderlaw14.QueryRoots'. -/
def queryRootsUptoCard : Claim7 := { stood := { row := queryRootsUptoRow, standIns := [], harness := (true, "629f85d1b802cb82b16b71fac3e17c43bf6ef85b686fe966122ba80785806ad5"), looks := false }, kinds := [], alts := [], laidByText := true, laidKinds := [.data, .data, .data], laidTests := true, laidLooks := .later }
def QueryRootsUptoCardSaid : Prop := Claim7.holds Tryd.pinned (.plain (OpenSpec.upto queryRootsSpec)) queryRootsUptoCard

/-- THE SECOND FORM's CARD OF 'pomanderlaw14.QueryLater'. -/
def queryLaterUptoCard : Claim7 := { stood := { row := queryLaterUptoRow, standIns := [], harness := (true, "629f85d1b802cb82b16b71fac3e17c43bf6ef85b686fe966122ba80785806ad5"), looks := false }, kinds := [], alts := [], laidByText := true, laidKinds := [.data, .data, .data], laidTests := true, laidLooks := .later }
def QueryLaterUptoCardSaid : Prop := Claim7.holds Tryd.pinned (.plain (OpenSpec.upto queryLaterSpec)) queryLaterUptoCard

/-- THE SECOND FORM's CARD OF 'pomanderlaw14.QueryNotes'. -/
def queryNotesUptoCard : Claim7 := { stood := { row := queryNotesUptoRow, standIns := [], harness := (true, "629f85d1b802cb82b16b71fac3e17c43bf6ef85b686fe966122ba80785806ad5"), looks := false }, kinds := [], alts := [], laidByText := true, laidKinds := [.data, .data, .data], laidTests := true, laidLooks := .later }
def QueryNotesUptoCardSaid : Prop := Claim7.holds Tryd.pinned (.plain (OpenSpec.upto queryNotesSpec)) queryNotesUptoCard
end Rows
end Go.Proofs.YtfcfkhbkkfpehaaDoor
