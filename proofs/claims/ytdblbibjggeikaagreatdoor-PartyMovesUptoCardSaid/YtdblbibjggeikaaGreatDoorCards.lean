/-
  DERIVED. GIVEN WITH THE SEED: THE CARDS: each row of YtdblbibjggeikaaGreatDoorRows.lean that lists a variable, with what it lists TIED to the program's text (the seventh form; the later family's looks); each row that meets fmt, with fmt's text TOLD by the authors' own Lean function (tested against real Go, not proved from fmt's source: count such statements apart). THE CARD IS WHAT COUNTS. Prove the row's statement (the work); the ties are given (YtdblbibjggeikaaGreatDoorTie.lean); close each card by the builder's one call (the guide's Derived/Test/ToyasCard.lean, 'card_holds'). Laid BY PROGRAM, IN A SANDBOX (cutbox-door.mjs). By AI agents, Wed Nov 11 2026. No macro, syntax, notation, axiom, sorry.
-/
import Derived.Test.YtdblbibjggeikaaGreatDoorRows
import GoSem.ClaimSeven
namespace Go.Proofs.YtdblbibjggeikaaGreatDoor
namespace Rows

/-- THE TIED CARD OF 'veillaw13.RangesMoves'. -/
def rangesMovesCard : Claim7 := { stood := { row := rangesMovesRow, standIns := [], harness := (true, "2afe701a3cbbe6aaa14e7a030093d46a2df51998b7873d7240802d6d6a23ee29"), looks := false }, kinds := [], alts := [], goes := true, laidByText := true, laidKinds := [.data, .data, .wider, .data], laidTests := true, laidLooks := .later }
def RangesMovesCardSaid : Prop := Claim7.holds Tryz.pinned (.plain (OpenSpec.ofChange rangesMovesSpec)) rangesMovesCard

/-- THE TIED CARD OF 'veillaw14.PartyMoves'. -/
def partyMovesCard : Claim7 := { stood := { row := partyMovesRow, standIns := [], harness := (true, "2afe701a3cbbe6aaa14e7a030093d46a2df51998b7873d7240802d6d6a23ee29"), looks := false }, kinds := [], alts := [], goes := true, laidByText := true, laidKinds := [.data, .data, .wider, .data], laidTests := true, laidLooks := .later }
def PartyMovesCardSaid : Prop := Claim7.holds Tryz.pinned (.plain (OpenSpec.ofChange partyMovesSpec)) partyMovesCard

/-- THE TIED CARD OF 'veillaw13.RangesCommits'. -/
def rangesCommitsCard : Claim7 := { stood := { row := rangesCommitsRow, standIns := [], harness := (true, "2afe701a3cbbe6aaa14e7a030093d46a2df51998b7873d7240802d6d6a23ee29"), looks := false }, kinds := [], alts := [], goes := true, laidByText := true, laidKinds := [.data, .data, .data, .data, .data, .data, .wider, .data, .data, .data, .wider, .data], laidTests := true, laidLooks := .later }
def RangesCommitsCardSaid : Prop := Claim7.holds Tryz.pinned (.plain (OpenSpec.ofChange rangesCommitsSpec)) rangesCommitsCard

/-- THE SECOND FORM's CARD OF 'veillaw13.RangesMoves'. -/
def rangesMovesUptoCard : Claim7 := { stood := { row := rangesMovesUptoRow, standIns := [], harness := (true, "2afe701a3cbbe6aaa14e7a030093d46a2df51998b7873d7240802d6d6a23ee29"), looks := false }, kinds := [], alts := [], goes := true, laidByText := true, laidKinds := [.data, .data, .wider, .data], laidTests := true, laidLooks := .later }
def RangesMovesUptoCardSaid : Prop := Claim7.holds Tryz.pinned (.plain (OpenSpec.upto rangesMovesSpec)) rangesMovesUptoCard

/-- THE SECOND FORM's CARD OF 'veillaw14.PartyMoves'. -/
def partyMovesUptoCard : Claim7 := { stood := { row := partyMovesUptoRow, standIns := [], harness := (true, "2afe701a3cbbe6aaa14e7a030093d46a2df51998b7873d7240802d6d6a23ee29"), looks := false }, kinds := [], alts := [], goes := true, laidByText := true, laidKinds := [.data, .data, .wider, .data], laidTests := true, laidLooks := .later }
def PartyMovesUptoCardSaid : Prop := Claim7.holds Tryz.pinned (.plain (OpenSpec.upto partyMovesSpec)) partyMovesUptoCard

/-- THE SECOND FORM's CARD OF 'veillaw13.RangesCommits'. -/
def rangesCommitsUptoCard : Claim7 := { stood := { row := rangesCommitsUptoRow, standIns := [], harness := (true, "2afe701a3cbbe6aaa14e7a030093d46a2df51998b7873d7240802d6d6a23ee29"), looks := false }, kinds := [], alts := [], goes := true, laidByText := true, laidKinds := [.data, .data, .data, .data, .data, .data, .wider, .data, .data, .data, .wider, .data], laidTests := true, laidLooks := .later }
def RangesCommitsUptoCardSaid : Prop := Claim7.holds Tryz.pinned (.plain (OpenSpec.upto rangesCommitsSpec)) rangesCommitsUptoCard
end Rows
end Go.Proofs.YtdblbibjggeikaaGreatDoor
