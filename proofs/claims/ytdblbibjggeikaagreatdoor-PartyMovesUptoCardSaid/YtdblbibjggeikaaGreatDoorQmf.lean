/- PartyMoves: the row's closed facts. -/
import Derived.Test.YtdblbibjggeikaaGreatDoorRows
import Derived.Test.YtdblbibjggeikaaGreatDoorTie
import Derived.Test.YtdblbibjggeikaaGreatDoorCards
import Derived.KernelRfl
import Derived.JoinedOf
set_option linter.unusedSectionVars false
set_option linter.unusedVariables false
set_option linter.unusedSimpArgs false
namespace Go.Proofs.YtdblbibjggeikaaGreatDoor.partyMoves
open Go
set_option maxRecDepth 100000
theorem own : ownKnob Tryz.prog.godebug = none := by kernel_rfl
theorem func0 : Tryz.prog.funcs[4]? = some Tryz.f4 := by kernel_rfl
theorem laidOut : laidOutB Tryz.prog = true := by kernel_rfl
theorem rowed : mapsRowed Tryz.prog = true := by kernel_rfl
theorem both {a b : Bool} (h : a = true) (g : b = true) : (a && b) = true := by rw [h, g]; rfl
theorem fInPlace : (Rows.partyMovesUptoRow.inPlace == Tryz.prog.inPlace 4) = true := by kernel_rfl
theorem fUnfollowed : (Rows.partyMovesUptoRow.unfollowed == Tryz.prog.unfollowed 4) = true := by kernel_rfl
theorem fRecurses : (Rows.partyMovesUptoRow.recurses == Tryz.prog.recurses 4) = true := by kernel_rfl
theorem fNamed : (Rows.partyMovesUptoRow.named == Tryz.prog.varsNamed 4) = true := by kernel_rfl
theorem closed : joinedFacts Tryz.prog 4 Tryz.f4 (Rows.OpenSpec.upto Rows.partyMovesSpec).bare Rows.partyMovesUptoRow = true := by
 unfold joinedFacts;exact (both (both (both (both (both (both (both (both (both (both (both (both (both (both (both (both (both (both (both (both (both (both (both (both (both (both (both (both (both (both (both (by kernel_rfl) laidOut) rowed) (by kernel_rfl)) (by kernel_rfl)) (by kernel_rfl)) (by kernel_rfl)) (by kernel_rfl)) (by kernel_rfl)) fInPlace) fUnfollowed) fRecurses) fNamed) (by kernel_rfl)) (by kernel_rfl)) (by kernel_rfl)) (by kernel_rfl)) (by kernel_rfl)) (by kernel_rfl)) (by kernel_rfl)) (by kernel_rfl)) (by kernel_rfl)) (by kernel_rfl)) (by kernel_rfl)) (by kernel_rfl)) (by kernel_rfl)) (by kernel_rfl)) (by kernel_rfl)) (by kernel_rfl)) (by kernel_rfl)) (by kernel_rfl)) (by kernel_rfl))
theorem inst : Tryz.f4.isInstance Tryz.prog Rows.partyMovesUptoRow.origin Rows.partyMovesUptoRow.targs := of_decide_eq_true (by kernel_rfl)
theorem wrap : Tryz.f4.isWrapper Tryz.prog Rows.partyMovesUptoRow.wrapper Rows.partyMovesUptoRow.mainSum := by unfold Func.isWrapper; first | (rw [if_pos (by decide +kernel)]; kernel_rfl) | (rw [if_neg (by decide +kernel)]; exact ⟨rfl, rfl⟩)
theorem named : Tryz.prog.funcNamed Rows.partyMovesUptoRow.func = some 4 := by kernel_rfl
theorem plain (f : FuncId) (fn : Func) (hf : Tryz.pinned.checked.prog.funcNamed "veil/veillaw14.PartyMoves" = some f) (hfn : Tryz.pinned.checked.prog.funcs[f]? = some fn) :
  false = Tryz.pinned.checked.prog.looks [] /\ ∀ (j : Nat) t, fn.params[j]? = some t -> Tryz.pinned.checked.prog.wantsStandIn t = false := by
 obtain rfl : f = 4 := Option.some.inj ((show Tryz.prog.funcNamed "veil/veillaw14.PartyMoves" = some 4 by kernel_rfl).symm.trans hf) |>.symm
 obtain rfl : fn = Tryz.f4 := (Option.some.inj (func0.symm.trans hfn)).symm;refine ⟨by kernel_rfl, fun j t ht => ?_⟩
 have h : (Tryz.f4.params.toList.all fun t => Tryz.prog.wantsStandIn t == false) = true := by kernel_rfl
 have := List.all_eq_true.mp h t (Array.mem_def.mp (Array.mem_of_getElem? ht))
 exact eq_of_beq this
end Go.Proofs.YtdblbibjggeikaaGreatDoor.partyMoves
