/-
  DERIVED. GIVEN WITH THE SEED: THE CARDS: each row of YticfnbhbpcpgeaaDoorRows.lean that lists a variable, with what it lists TIED to the program's text (the seventh form; the later family's looks); each row that meets fmt, with fmt's text TOLD by the authors' own Lean function (tested against real Go, not proved from fmt's source: count such statements apart). THE CARD IS WHAT COUNTS. Prove the row's statement (the work); the ties are given (YticfnbhbpcpgeaaDoorTie.lean); close each card by the builder's one call (the guide's Derived/Test/ToyasCard.lean, 'card_holds'). Laid BY PROGRAM, IN A SANDBOX (cutbox-door.mjs). By AI agents, Wed Nov 11 2026. No macro, syntax, notation, axiom, sorry.
-/
import Derived.Test.YticfnbhbpcpgeaaDoorRows
import GoSem.ClaimSeven
namespace Go.Proofs.YticfnbhbpcpgeaaDoor
namespace Rows

/-- THE TIED CARD OF 'veillaw14.PartyTapes'. -/
def partyTapesCard : Claim7 := { stood := { row := partyTapesRow, standIns := [], harness := (true, "68f38e4dbd862a7e2bc6e49c6f221c2fa1172e10e34064aac331f36ceea31c89"), looks := false }, kinds := [], alts := [], laidByText := true, laidKinds := [.data], laidTests := true, laidLooks := .later }
def PartyTapesCardSaid : Prop := Claim7.holds Tryd.pinned (.plain (OpenSpec.ofChange partyTapesSpec)) partyTapesCard

/-- THE TIED CARD OF 'veillaw15.BatchWeights'. -/
def batchWeightsCard : Claim7 := { stood := { row := batchWeightsRow, standIns := [], harness := (true, "68f38e4dbd862a7e2bc6e49c6f221c2fa1172e10e34064aac331f36ceea31c89"), looks := false }, kinds := [], alts := [], laidByText := true, laidKinds := [.data, .data, .data, .data, .data], laidTests := true, laidLooks := .later }
def BatchWeightsCardSaid : Prop := Claim7.holds Tryd.pinned (.plain (OpenSpec.ofChange batchWeightsSpec)) batchWeightsCard

/-- THE TIED CARD OF 'veillaw13.RangesTape'. -/
def rangesTapeCard : Claim7 := { stood := { row := rangesTapeRow, standIns := [], harness := (true, "68f38e4dbd862a7e2bc6e49c6f221c2fa1172e10e34064aac331f36ceea31c89"), looks := false }, kinds := [], alts := [], laidByText := true, laidKinds := [.data], laidTests := true, laidLooks := .later }
def RangesTapeCardSaid : Prop := Claim7.holds Tryd.pinned (.plain (OpenSpec.ofChange rangesTapeSpec)) rangesTapeCard

/-- THE SECOND FORM's CARD OF 'veillaw14.PartyTapes'. -/
def partyTapesUptoCard : Claim7 := { stood := { row := partyTapesUptoRow, standIns := [], harness := (true, "68f38e4dbd862a7e2bc6e49c6f221c2fa1172e10e34064aac331f36ceea31c89"), looks := false }, kinds := [], alts := [], laidByText := true, laidKinds := [.data], laidTests := true, laidLooks := .later }
def PartyTapesUptoCardSaid : Prop := Claim7.holds Tryd.pinned (.plain (OpenSpec.upto partyTapesSpec)) partyTapesUptoCard

/-- THE SECOND FORM's CARD OF 'veillaw15.BatchWeights'. -/
def batchWeightsUptoCard : Claim7 := { stood := { row := batchWeightsUptoRow, standIns := [], harness := (true, "68f38e4dbd862a7e2bc6e49c6f221c2fa1172e10e34064aac331f36ceea31c89"), looks := false }, kinds := [], alts := [], laidByText := true, laidKinds := [.data, .data, .data, .data, .data], laidTests := true, laidLooks := .later }
def BatchWeightsUptoCardSaid : Prop := Claim7.holds Tryd.pinned (.plain (OpenSpec.upto batchWeightsSpec)) batchWeightsUptoCard

/-- THE SECOND FORM's CARD OF 'veillaw13.RangesTape'. -/
def rangesTapeUptoCard : Claim7 := { stood := { row := rangesTapeUptoRow, standIns := [], harness := (true, "68f38e4dbd862a7e2bc6e49c6f221c2fa1172e10e34064aac331f36ceea31c89"), looks := false }, kinds := [], alts := [], laidByText := true, laidKinds := [.data], laidTests := true, laidLooks := .later }
def RangesTapeUptoCardSaid : Prop := Claim7.holds Tryd.pinned (.plain (OpenSpec.upto rangesTapeSpec)) rangesTapeUptoCard
end Rows
end Go.Proofs.YticfnbhbpcpgeaaDoor
