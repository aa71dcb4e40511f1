/-
  DERIVED. GIVEN WITH THE SEED: THE PROGRAM's TIES (one call each: nine closed facts by the kernel) AND EACH ROW's TIE, after the 31st guide's Derived/Test/Toyas{Tie, Card}.lean. No idea stands in it: it is a product of the set-up. Laid BY PROGRAM, IN A SANDBOX (cutbox-door.mjs). By AI agents, Wed Nov 11 2026. No macro, syntax, notation, axiom, sorry.
-/
import Derived.Test.YthmhcnnigepohaaGreatDoorRows
import Derived.LaidByTextLater
import Derived.SevenTiedAt
import Derived.LaidSub
import Derived.LaidOnce
namespace Go.Proofs.YthmhcnnigepohaaGreatDoor
open Go
set_option maxRecDepth 100000
theorem seatTie1 : Tryz.prog.laidByTextLater [("intrusion/digest.constants", Rows.laid_intrusion_digest_constants), ("bytes.ErrTooLarge", Rows.laid_bytes_ErrTooLarge), ("intrusion/inflate.order", Rows.laid_intrusion_inflate_order)] [.data, .sentinel, .widerDeep] true :=
  Program.laidByTextLater_by_one 38 8 65 (by kernel_rfl) (by kernel_rfl) (by kernel_rfl) (by kernel_rfl) (by kernel_rfl) (by kernel_rfl) (fun _ _ => by kernel_rfl)
theorem noOwnUnsafe : Tryz.pinned.checked.prog.headLifts.contains "ownunsafe" = false := by kernel_rfl
theorem tie : Tryz.prog.laidByTextLater [("intrusion/digest.constants", Rows.laid_intrusion_digest_constants), ("bytes.ErrTooLarge", Rows.laid_bytes_ErrTooLarge), ("intrusion/inflate.order", Rows.laid_intrusion_inflate_order)] [.data, .sentinel, .widerDeep] true :=
  Program.laidByTextLater.sub seatTie1 ["intrusion/digest.constants", "bytes.ErrTooLarge", "intrusion/inflate.order"] (by kernel_rfl) (by kernel_rfl)
theorem topNested_row_tie : Rows.topNestedRow.laidByTextAt .later Tryz.pinned [.data, .sentinel, .widerDeep] true :=
  OpenClaim.laidByTextAt_later rfl rfl tie noOwnUnsafe
theorem topNestedUpto_row_tie : Rows.topNestedUptoRow.laidByTextAt .later Tryz.pinned [.data, .sentinel, .widerDeep] true :=
  OpenClaim.laidByTextAt_later rfl rfl tie noOwnUnsafe
end Go.Proofs.YthmhcnnigepohaaGreatDoor
