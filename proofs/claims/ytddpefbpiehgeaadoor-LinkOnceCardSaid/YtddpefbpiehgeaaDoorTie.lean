/-
  DERIVED. GIVEN WITH THE SEED: THE PROGRAM's TIES (one call each: nine closed facts by the kernel) AND EACH ROW's TIE, after the 31st guide's Derived/Test/Toyas{Tie, Card}.lean. No idea stands in it: it is a product of the set-up. Laid BY PROGRAM, IN A SANDBOX (cutbox-door.mjs). By AI agents, Wed Nov 11 2026. No macro, syntax, notation, axiom, sorry.
-/
import Derived.Test.YtddpefbpiehgeaaDoorRows
import Derived.LaidByTextLater
import Derived.SevenTiedAt
import Derived.LaidSub
import Derived.LaidOnce
namespace Go.Proofs.YtddpefbpiehgeaaDoor
open Go
set_option maxRecDepth 100000
theorem seatTie1 : Tryd.prog.laidByTextLater [("farebox/fareboxref03.first", Rows.laid_farebox_fareboxref03_first), ("farebox/fareboxref03.k", Rows.laid_farebox_fareboxref03_k), ("farebox/hash.start", Rows.laid_farebox_hash_start), ("farebox/hash.rounds", Rows.laid_farebox_hash_rounds)] [.data, .data, .data, .data] true :=
  Program.laidByTextLater_by_one 29 8 65 (by kernel_rfl) (by kernel_rfl) (by kernel_rfl) (by kernel_rfl) (by kernel_rfl) (by kernel_rfl) (fun _ _ => by kernel_rfl)
theorem noOwnUnsafe : Tryd.pinned.checked.prog.headLifts.contains "ownunsafe" = false := by kernel_rfl
theorem tie : Tryd.prog.laidByTextLater [("farebox/fareboxref03.first", Rows.laid_farebox_fareboxref03_first), ("farebox/fareboxref03.k", Rows.laid_farebox_fareboxref03_k), ("farebox/hash.start", Rows.laid_farebox_hash_start), ("farebox/hash.rounds", Rows.laid_farebox_hash_rounds)] [.data, .data, .data, .data] true :=
  Program.laidByTextLater.sub seatTie1 ["farebox/fareboxref03.first", "farebox/fareboxref03.k", "farebox/hash.start", "farebox/hash.rounds"] (by kernel_rfl) (by kernel_rfl)
theorem linkFrames_row_tie : Rows.linkFramesRow.laidByTextAt .later Tryd.pinned [.data, .data, .data, .data] true :=
  OpenClaim.laidByTextAt_later rfl rfl tie noOwnUnsafe
theorem linkSecrets_row_tie : Rows.linkSecretsRow.laidByTextAt .later Tryd.pinned [.data, .data, .data, .data] true :=
  OpenClaim.laidByTextAt_later rfl rfl tie noOwnUnsafe
theorem tie2 : Tryd.prog.laidByTextLater [("farebox/hash.start", Rows.laid_farebox_hash_start), ("farebox/hash.rounds", Rows.laid_farebox_hash_rounds)] [.data, .data] true :=
  Program.laidByTextLater.sub seatTie1 ["farebox/hash.start", "farebox/hash.rounds"] (by kernel_rfl) (by kernel_rfl)
theorem linkTakes_row_tie : Rows.linkTakesRow.laidByTextAt .later Tryd.pinned [.data, .data] true :=
  OpenClaim.laidByTextAt_later rfl rfl tie2 noOwnUnsafe
theorem linkBack_row_tie : Rows.linkBackRow.laidByTextAt .later Tryd.pinned [.data, .data] true :=
  OpenClaim.laidByTextAt_later rfl rfl tie2 noOwnUnsafe
theorem linkOnce_row_tie : Rows.linkOnceRow.laidByTextAt .later Tryd.pinned [.data, .data] true :=
  OpenClaim.laidByTextAt_later rfl rfl tie2 noOwnUnsafe
theorem linkDrains_row_tie : Rows.linkDrainsRow.laidByTextAt .later Tryd.pinned [.data, .data] true :=
  OpenClaim.laidByTextAt_later rfl rfl tie2 noOwnUnsafe
theorem linkFramesUpto_row_tie : Rows.linkFramesUptoRow.laidByTextAt .later Tryd.pinned [.data, .data, .data, .data] true :=
  OpenClaim.laidByTextAt_later rfl rfl tie noOwnUnsafe
theorem linkTakesUpto_row_tie : Rows.linkTakesUptoRow.laidByTextAt .later Tryd.pinned [.data, .data] true :=
  OpenClaim.laidByTextAt_later rfl rfl tie2 noOwnUnsafe
theorem linkBackUpto_row_tie : Rows.linkBackUptoRow.laidByTextAt .later Tryd.pinned [.data, .data] true :=
  OpenClaim.laidByTextAt_later rfl rfl tie2 noOwnUnsafe
theorem linkOnceUpto_row_tie : Rows.linkOnceUptoRow.laidByTextAt .later Tryd.pinned [.data, .data] true :=
  OpenClaim.laidByTextAt_later rfl rfl tie2 noOwnUnsafe
theorem linkDrainsUpto_row_tie : Rows.linkDrainsUptoRow.laidByTextAt .later Tryd.pinned [.data, .data] true :=
  OpenClaim.laidByTextAt_later rfl rfl tie2 noOwnUnsafe
theorem linkSecretsUpto_row_tie : Rows.linkSecretsUptoRow.laidByTextAt .later Tryd.pinned [.data, .data, .data, .data] true :=
  OpenClaim.laidByTextAt_later rfl rfl tie noOwnUnsafe
end Go.Proofs.YtddpefbpiehgeaaDoor
