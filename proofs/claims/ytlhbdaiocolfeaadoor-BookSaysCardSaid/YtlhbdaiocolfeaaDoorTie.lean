/-
  DERIVED. GIVEN WITH THE SEED: THE PROGRAM's TIES (one call each: nine closed facts by the kernel) AND EACH ROW's TIE, after the 31st guide's Derived/Test/Toyas{Tie, Card}.lean. No idea stands in it: it is a product of the set-up. Laid BY PROGRAM, IN A SANDBOX (cutbox-door.mjs). By AI agents, Wed Nov 11 2026. No macro, syntax, notation, axiom, sorry.
-/
import Derived.Test.YtlhbdaiocolfeaaDoorRows
import Derived.LaidByTextLater
import Derived.SevenTiedAt
import Derived.LaidSub
import Derived.LaidOnce
namespace Go.Proofs.YtlhbdaiocolfeaaDoor
open Go
set_option maxRecDepth 100000
theorem seatTie1 : Tryd.prog.laidByTextLater [("flickerbook/flickerbookref.names", Rows.laid_flickerbook_flickerbookref_names), ("flickerbook/op.names", Rows.laid_flickerbook_op_names)] [.data, .widerDeep] true :=
  Program.laidByTextLater_by_one 19 8 18 (by kernel_rfl) (by kernel_rfl) (by kernel_rfl) (by kernel_rfl) (by kernel_rfl) (by kernel_rfl) (fun _ _ => by kernel_rfl)
theorem noOwnUnsafe : Tryd.pinned.checked.prog.headLifts.contains "ownunsafe" = false := by kernel_rfl
theorem tie : Tryd.prog.laidByTextLater [("flickerbook/flickerbookref.names", Rows.laid_flickerbook_flickerbookref_names), ("flickerbook/op.names", Rows.laid_flickerbook_op_names)] [.data, .widerDeep] true :=
  Program.laidByTextLater.sub seatTie1 ["flickerbook/flickerbookref.names", "flickerbook/op.names"] (by kernel_rfl) (by kernel_rfl)
theorem opSays_row_tie : Rows.opSaysRow.laidByTextAt .later Tryd.pinned [.data, .widerDeep] true :=
  OpenClaim.laidByTextAt_later rfl rfl tie noOwnUnsafe
theorem bookSays_row_tie : Rows.bookSaysRow.laidByTextAt .later Tryd.pinned [.data, .widerDeep] true :=
  OpenClaim.laidByTextAt_later rfl rfl tie noOwnUnsafe
theorem tie2 : Tryd.prog.laidByTextLater [("flickerbook/op.names", Rows.laid_flickerbook_op_names)] [.widerDeep] true :=
  Program.laidByTextLater.sub seatTie1 ["flickerbook/op.names"] (by kernel_rfl) (by kernel_rfl)
theorem topOp_row_tie : Rows.topOpRow.laidByTextAt .later Tryd.pinned [.widerDeep] true :=
  OpenClaim.laidByTextAt_later rfl rfl tie2 noOwnUnsafe
theorem opSaysUpto_row_tie : Rows.opSaysUptoRow.laidByTextAt .later Tryd.pinned [.data, .widerDeep] true :=
  OpenClaim.laidByTextAt_later rfl rfl tie noOwnUnsafe
theorem bookSaysUpto_row_tie : Rows.bookSaysUptoRow.laidByTextAt .later Tryd.pinned [.data, .widerDeep] true :=
  OpenClaim.laidByTextAt_later rfl rfl tie noOwnUnsafe
theorem topOpUpto_row_tie : Rows.topOpUptoRow.laidByTextAt .later Tryd.pinned [.widerDeep] true :=
  OpenClaim.laidByTextAt_later rfl rfl tie2 noOwnUnsafe
end Go.Proofs.YtlhbdaiocolfeaaDoor
