/-
  DERIVED. GIVEN WITH THE SEED: THE PROGRAM's TIES (one call each: nine closed facts by the kernel) AND EACH ROW's TIE, after the 31st guide's Derived/Test/Toyas{Tie, Card}.lean. No idea stands in it: it is a product of the set-up. Laid BY PROGRAM, IN A SANDBOX (cutbox-door.mjs). By AI agents, Wed Nov 11 2026. No macro, syntax, notation, axiom, sorry.
-/
import Derived.Test.YtdmmlpioaiammaaDoorRows
import Derived.LaidByTextLater
import Derived.SevenTiedAt
import Derived.LaidSub
import Derived.LaidOnce
namespace Go.Proofs.YtdmmlpioaiammaaDoor
open Go
set_option maxRecDepth 100000
theorem seatTie1 : Tryd.prog.laidByTextLater [("punnet/alpha.lengthBases", Rows.laid_punnet_alpha_lengthBases), ("punnet/alpha.lengthBits", Rows.laid_punnet_alpha_lengthBits), ("punnet/alpha.distBases", Rows.laid_punnet_alpha_distBases), ("punnet/alpha.order", Rows.laid_punnet_alpha_order)] [.data, .data, .data, .data] true :=
  Program.laidByTextLater_by_one 29 8 31 (by kernel_rfl) (by kernel_rfl) (by kernel_rfl) (by kernel_rfl) (by kernel_rfl) (by kernel_rfl) (fun _ _ => by kernel_rfl)
theorem noOwnUnsafe : Tryd.pinned.checked.prog.headLifts.contains "ownunsafe" = false := by kernel_rfl
theorem tie : Tryd.prog.laidByTextLater [("punnet/alpha.lengthBases", Rows.laid_punnet_alpha_lengthBases), ("punnet/alpha.lengthBits", Rows.laid_punnet_alpha_lengthBits), ("punnet/alpha.distBases", Rows.laid_punnet_alpha_distBases), ("punnet/alpha.order", Rows.laid_punnet_alpha_order)] [.data, .data, .data, .data] true :=
  Program.laidByTextLater.sub seatTie1 ["punnet/alpha.lengthBases", "punnet/alpha.lengthBits", "punnet/alpha.distBases", "punnet/alpha.order"] (by kernel_rfl) (by kernel_rfl)
theorem inflateStored_row_tie : Rows.inflateStoredRow.laidByTextAt .later Tryd.pinned [.data, .data, .data, .data] true :=
  OpenClaim.laidByTextAt_later rfl rfl tie noOwnUnsafe
theorem inflateStoredUpto_row_tie : Rows.inflateStoredUptoRow.laidByTextAt .later Tryd.pinned [.data, .data, .data, .data] true :=
  OpenClaim.laidByTextAt_later rfl rfl tie noOwnUnsafe
end Go.Proofs.YtdmmlpioaiammaaDoor
