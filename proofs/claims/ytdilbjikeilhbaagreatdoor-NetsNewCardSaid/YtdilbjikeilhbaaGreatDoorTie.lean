/-
  DERIVED. GIVEN WITH THE SEED: THE PROGRAM's TIES (one call each: nine closed facts by the kernel) AND EACH ROW's TIE, after the 31st guide's Derived/Test/Toyas{Tie, Card}.lean. No idea stands in it: it is a product of the set-up. Laid BY PROGRAM, IN A SANDBOX (cutbox-door.mjs). By AI agents, Wed Nov 11 2026. No macro, syntax, notation, axiom, sorry.
-/
import Derived.Test.YtdilbjikeilhbaaGreatDoorRows
import Derived.LaidByTextLater
import Derived.SevenTiedAt
import Derived.LaidSub
import Derived.LaidOnce
namespace Go.Proofs.YtdilbjikeilhbaaGreatDoor
open Go
set_option maxRecDepth 100000
theorem seatTie1 : Tryz.prog.laidByTextLater [("sennit/rings.signs", Rows.laid_sennit_rings_signs), ("sennit/modes.edges", Rows.laid_sennit_modes_edges), ("sennit/windows.roles", Rows.laid_sennit_windows_roles)] [.data, .data, .data] true :=
  Program.laidByTextLater_by_one 29 8 26 (by kernel_rfl) (by kernel_rfl) (by kernel_rfl) (by kernel_rfl) (by kernel_rfl) (by kernel_rfl) (fun _ _ => by kernel_rfl)
theorem noOwnUnsafe : Tryz.pinned.checked.prog.headLifts.contains "ownunsafe" = false := by kernel_rfl
theorem tie : Tryz.prog.laidByTextLater [("sennit/rings.signs", Rows.laid_sennit_rings_signs), ("sennit/modes.edges", Rows.laid_sennit_modes_edges), ("sennit/windows.roles", Rows.laid_sennit_windows_roles)] [.data, .data, .data] true :=
  Program.laidByTextLater.sub seatTie1 ["sennit/rings.signs", "sennit/modes.edges", "sennit/windows.roles"] (by kernel_rfl) (by kernel_rfl)
theorem netsNew_row_tie : Rows.netsNewRow.laidByTextAt .later Tryz.pinned [.data, .data, .data] true :=
  OpenClaim.laidByTextAt_later rfl rfl tie noOwnUnsafe
theorem netsVoid_row_tie : Rows.netsVoidRow.laidByTextAt .later Tryz.pinned [.data, .data, .data] true :=
  OpenClaim.laidByTextAt_later rfl rfl tie noOwnUnsafe
theorem netsNewUpto_row_tie : Rows.netsNewUptoRow.laidByTextAt .later Tryz.pinned [.data, .data, .data] true :=
  OpenClaim.laidByTextAt_later rfl rfl tie noOwnUnsafe
theorem netsVoidUpto_row_tie : Rows.netsVoidUptoRow.laidByTextAt .later Tryz.pinned [.data, .data, .data] true :=
  OpenClaim.laidByTextAt_later rfl rfl tie noOwnUnsafe
end Go.Proofs.YtdilbjikeilhbaaGreatDoor
