/-
  DERIVED. GIVEN WITH THE SEED: THE PROGRAM's TIES (one call each: nine closed facts by the kernel) AND EACH ROW's TIE, after the 31st guide's Derived/Test/Toyas{Tie, Card}.lean. No idea stands in it: it is a product of the set-up. Laid BY PROGRAM, IN A SANDBOX (cutbox-door.mjs). By AI agents, Wed Nov 11 2026. No macro, syntax, notation, axiom, sorry.
-/
import Derived.Test.YtdblbibjggeikaaGreatDoorRows
import Derived.LaidByTextLater
import Derived.SevenTiedAt
import Derived.LaidSub
import Derived.LaidOnce
namespace Go.Proofs.YtdblbibjggeikaaGreatDoor
open Go
set_option maxRecDepth 100000
theorem seatTie1 : Tryz.prog.laidByTextLater [("veil/scalar.table", Rows.laid_veil_scalar_table), ("veil/veilref01.Zero", Rows.laid_veil_veilref01_Zero), ("veil/veilref01.One", Rows.laid_veil_veilref01_One), ("veil/veilref01.prime", Rows.laid_veil_veilref01_prime)] [.data, .data, .wider, .data] true :=
  Program.laidByTextLater_by_one 84 8 81 (by kernel_rfl) (by kernel_rfl) (by kernel_rfl) (by kernel_rfl) (by kernel_rfl) (by kernel_rfl) (fun _ _ => by kernel_rfl)
theorem seatTie2 : Tryz.prog.laidByTextLater [("veil/veilref03.round", Rows.laid_veil_veilref03_round), ("veil/veilref03.first", Rows.laid_veil_veilref03_first), ("veil/field.table", Rows.laid_veil_field_table), ("veil/hash.rounds", Rows.laid_veil_hash_rounds), ("veil/hash.start", Rows.laid_veil_hash_start), ("veil/scalar.table", Rows.laid_veil_scalar_table), ("veil/curve.one", Rows.laid_veil_curve_one), ("veil/curve.twice", Rows.laid_veil_curve_twice), ("veil/curve.base", Rows.laid_veil_curve_base), ("veil/veilref01.Zero", Rows.laid_veil_veilref01_Zero), ("veil/veilref01.One", Rows.laid_veil_veilref01_One), ("veil/veilref01.prime", Rows.laid_veil_veilref01_prime)] [.data, .data, .data, .data, .data, .data, .wider, .data, .data, .data, .wider, .data] true :=
  Program.laidByTextLater_by_one 84 8 81 (by kernel_rfl) (by kernel_rfl) (by kernel_rfl) (by kernel_rfl) (by kernel_rfl) (by kernel_rfl) (fun _ _ => by kernel_rfl)
theorem noOwnUnsafe : Tryz.pinned.checked.prog.headLifts.contains "ownunsafe" = false := by kernel_rfl
theorem tie : Tryz.prog.laidByTextLater [("veil/scalar.table", Rows.laid_veil_scalar_table), ("veil/veilref01.Zero", Rows.laid_veil_veilref01_Zero), ("veil/veilref01.One", Rows.laid_veil_veilref01_One), ("veil/veilref01.prime", Rows.laid_veil_veilref01_prime)] [.data, .data, .wider, .data] true :=
  Program.laidByTextLater.sub seatTie1 ["veil/scalar.table", "veil/veilref01.Zero", "veil/veilref01.One", "veil/veilref01.prime"] (by kernel_rfl) (by kernel_rfl)
theorem rangesMoves_row_tie : Rows.rangesMovesRow.laidByTextAt .later Tryz.pinned [.data, .data, .wider, .data] true :=
  OpenClaim.laidByTextAt_later rfl rfl tie noOwnUnsafe
theorem partyMoves_row_tie : Rows.partyMovesRow.laidByTextAt .later Tryz.pinned [.data, .data, .wider, .data] true :=
  OpenClaim.laidByTextAt_later rfl rfl tie noOwnUnsafe
theorem tie2 : Tryz.prog.laidByTextLater [("veil/veilref03.round", Rows.laid_veil_veilref03_round), ("veil/veilref03.first", Rows.laid_veil_veilref03_first), ("veil/field.table", Rows.laid_veil_field_table), ("veil/hash.rounds", Rows.laid_veil_hash_rounds), ("veil/hash.start", Rows.laid_veil_hash_start), ("veil/scalar.table", Rows.laid_veil_scalar_table), ("veil/curve.one", Rows.laid_veil_curve_one), ("veil/curve.twice", Rows.laid_veil_curve_twice), ("veil/curve.base", Rows.laid_veil_curve_base), ("veil/veilref01.Zero", Rows.laid_veil_veilref01_Zero), ("veil/veilref01.One", Rows.laid_veil_veilref01_One), ("veil/veilref01.prime", Rows.laid_veil_veilref01_prime)] [.data, .data, .data, .data, .data, .data, .wider, .data, .data, .data, .wider, .data] true :=
  Program.laidByTextLater.sub seatTie2 ["veil/veilref03.round", "veil/veilref03.first", "veil/field.table", "veil/hash.rounds", "veil/hash.start", "veil/scalar.table", "veil/curve.one", "veil/curve.twice", "veil/curve.base", "veil/veilref01.Zero", "veil/veilref01.One", "veil/veilref01.prime"] (by kernel_rfl) (by kernel_rfl)
theorem rangesCommits_row_tie : Rows.rangesCommitsRow.laidByTextAt .later Tryz.pinned [.data, .data, .data, .data, .data, .data, .wider, .data, .data, .data, .wider, .data] true :=
  OpenClaim.laidByTextAt_later rfl rfl tie2 noOwnUnsafe
theorem rangesMovesUpto_row_tie : Rows.rangesMovesUptoRow.laidByTextAt .later Tryz.pinned [.data, .data, .wider, .data] true :=
  OpenClaim.laidByTextAt_later rfl rfl tie noOwnUnsafe
theorem partyMovesUpto_row_tie : Rows.partyMovesUptoRow.laidByTextAt .later Tryz.pinned [.data, .data, .wider, .data] true :=
  OpenClaim.laidByTextAt_later rfl rfl tie noOwnUnsafe
theorem rangesCommitsUpto_row_tie : Rows.rangesCommitsUptoRow.laidByTextAt .later Tryz.pinned [.data, .data, .data, .data, .data, .data, .wider, .data, .data, .data, .wider, .data] true :=
  OpenClaim.laidByTextAt_later rfl rfl tie2 noOwnUnsafe
end Go.Proofs.YtdblbibjggeikaaGreatDoor
