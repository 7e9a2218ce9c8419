/-
  DERIVED. GIVEN WITH THE SEED: THE CARDS: each row of YthicgmdkipgkaaaDoorRows.lean that lists a variable, with what it lists TIED to the program's text (the seventh form; the later family's looks); each row that meets fmt, with fmt's text TOLD by the authors' own Lean function (tested against real Go, not proved from fmt's source: count such statements apart). THE CARD IS WHAT COUNTS. Prove the row's statement (the work); the ties are given (YthicgmdkipgkaaaDoorTie.lean); close each card by the builder's one call (the guide's Derived/Test/ToyasCard.lean, 'card_holds'). Laid BY PROGRAM, IN A SANDBOX (cutbox-door.mjs). By AI agents, Wed Nov 11 2026. No macro, syntax, notation, axiom, sorry.
-/
import Derived.Test.YthicgmdkipgkaaaDoorRows
import GoSem.ClaimSeven
namespace Go.Proofs.YthicgmdkipgkaaaDoor
namespace Rows

/-- THE TIED CARD OF 'laws.FnExactEdgeOf'. -/
def fnExactEdgeOfCard : Claim7 := { stood := { row := fnExactEdgeOfRow, standIns := [], harness := (true, "4f23c3b5973bb90ed361d8c61cd1c783dddb64af1b966ba4d8d7c9202580733e"), looks := false }, kinds := [], alts := [], laidByText := true, laidKinds := [.widerDeep], laidTests := true, laidLooks := .later }
def FnExactEdgeOfCardSaid : Prop := Claim7.holds Tryd.pinned (.plain (OpenSpec.ofChange fnExactEdgeOfSpec)) fnExactEdgeOfCard

/-- THE TIED CARD OF 'laws.FnExactPieceOf'. -/
def fnExactPieceOfCard : Claim7 := { stood := { row := fnExactPieceOfRow, standIns := [], harness := (true, "4f23c3b5973bb90ed361d8c61cd1c783dddb64af1b966ba4d8d7c9202580733e"), looks := false }, kinds := [], alts := [], laidByText := true, laidKinds := [.widerDeep], laidTests := true, laidLooks := .later }
def FnExactPieceOfCardSaid : Prop := Claim7.holds Tryd.pinned (.plain (OpenSpec.ofChange fnExactPieceOfSpec)) fnExactPieceOfCard

/-- THE TIED CARD OF 'laws.FnExactPiecesOf'. -/
def fnExactPiecesOfCard : Claim7 := { stood := { row := fnExactPiecesOfRow, standIns := [], harness := (true, "4f23c3b5973bb90ed361d8c61cd1c783dddb64af1b966ba4d8d7c9202580733e"), looks := false }, kinds := [], alts := [], laidByText := true, laidKinds := [.widerDeep], laidTests := true, laidLooks := .later }
def FnExactPiecesOfCardSaid : Prop := Claim7.holds Tryd.pinned (.plain (OpenSpec.ofChange fnExactPiecesOfSpec)) fnExactPiecesOfCard

/-- THE SECOND FORM's CARD OF 'laws.FnExactEdgeOf'. -/
def fnExactEdgeOfUptoCard : Claim7 := { stood := { row := fnExactEdgeOfUptoRow, standIns := [], harness := (true, "4f23c3b5973bb90ed361d8c61cd1c783dddb64af1b966ba4d8d7c9202580733e"), looks := false }, kinds := [], alts := [], laidByText := true, laidKinds := [.widerDeep], laidTests := true, laidLooks := .later }
def FnExactEdgeOfUptoCardSaid : Prop := Claim7.holds Tryd.pinned (.plain (OpenSpec.upto fnExactEdgeOfSpec)) fnExactEdgeOfUptoCard

/-- THE SECOND FORM's CARD OF 'laws.FnExactPieceOf'. -/
def fnExactPieceOfUptoCard : Claim7 := { stood := { row := fnExactPieceOfUptoRow, standIns := [], harness := (true, "4f23c3b5973bb90ed361d8c61cd1c783dddb64af1b966ba4d8d7c9202580733e"), looks := false }, kinds := [], alts := [], laidByText := true, laidKinds := [.widerDeep], laidTests := true, laidLooks := .later }
def FnExactPieceOfUptoCardSaid : Prop := Claim7.holds Tryd.pinned (.plain (OpenSpec.upto fnExactPieceOfSpec)) fnExactPieceOfUptoCard

/-- THE SECOND FORM's CARD OF 'laws.FnExactPiecesOf'. -/
def fnExactPiecesOfUptoCard : Claim7 := { stood := { row := fnExactPiecesOfUptoRow, standIns := [], harness := (true, "4f23c3b5973bb90ed361d8c61cd1c783dddb64af1b966ba4d8d7c9202580733e"), looks := false }, kinds := [], alts := [], laidByText := true, laidKinds := [.widerDeep], laidTests := true, laidLooks := .later }
def FnExactPiecesOfUptoCardSaid : Prop := Claim7.holds Tryd.pinned (.plain (OpenSpec.upto fnExactPiecesOfSpec)) fnExactPiecesOfUptoCard
end Rows
end Go.Proofs.YthicgmdkipgkaaaDoor
