/-
  DERIVED. GIVEN WITH THE SEED: THE PROGRAM's TIES (one call each: nine closed facts by the kernel) AND EACH ROW's TIE, after the 31st guide's Derived/Test/Toyas{Tie, Card}.lean. No idea stands in it: it is a product of the set-up. Laid BY PROGRAM, IN A SANDBOX (cutbox-door.mjs). By AI agents, Wed Nov 11 2026. No macro, syntax, notation, axiom, sorry.
-/
import Derived.Test.YtjjdfccbkohlcaaDoorRows
import Derived.LaidByTextLater
import Derived.SevenTiedAt
import Derived.LaidSub
import Derived.LaidOnce
namespace Go.Proofs.YtjjdfccbkohlcaaDoor
open Go
set_option maxRecDepth 100000
theorem seatTie1 : Tryd.prog.laidByTextLater [("splicery/lex.signs", Rows.laid_splicery_lex_signs), ("splicery/lex.kinds", Rows.laid_splicery_lex_kinds), ("splicery/lex.keywords", Rows.laid_splicery_lex_keywords)] [.data, .funcs, .widerDeep] true :=
  Program.laidByTextLater_by_one 26 8 28 (by kernel_rfl) (by kernel_rfl) (by kernel_rfl) (by kernel_rfl) (by kernel_rfl) (by kernel_rfl) (fun _ _ => by kernel_rfl)
theorem noOwnUnsafe : Tryd.pinned.checked.prog.headLifts.contains "ownunsafe" = false := by kernel_rfl
theorem tie : Tryd.prog.laidByTextLater [("splicery/lex.signs", Rows.laid_splicery_lex_signs), ("splicery/lex.kinds", Rows.laid_splicery_lex_kinds), ("splicery/lex.keywords", Rows.laid_splicery_lex_keywords)] [.data, .funcs, .widerDeep] true :=
  Program.laidByTextLater.sub seatTie1 ["splicery/lex.signs", "splicery/lex.kinds", "splicery/lex.keywords"] (by kernel_rfl) (by kernel_rfl)
theorem lexScans_row_tie : Rows.lexScansRow.laidByTextAt .later Tryd.pinned [.data, .funcs, .widerDeep] true :=
  OpenClaim.laidByTextAt_later rfl rfl tie noOwnUnsafe
theorem lexJoins_row_tie : Rows.lexJoinsRow.laidByTextAt .later Tryd.pinned [.data, .funcs, .widerDeep] true :=
  OpenClaim.laidByTextAt_later rfl rfl tie noOwnUnsafe
theorem lexErrors_row_tie : Rows.lexErrorsRow.laidByTextAt .later Tryd.pinned [.data, .funcs, .widerDeep] true :=
  OpenClaim.laidByTextAt_later rfl rfl tie noOwnUnsafe
theorem lexLayouts_row_tie : Rows.lexLayoutsRow.laidByTextAt .later Tryd.pinned [.data, .funcs, .widerDeep] true :=
  OpenClaim.laidByTextAt_later rfl rfl tie noOwnUnsafe
theorem lexWords_row_tie : Rows.lexWordsRow.laidByTextAt .later Tryd.pinned [.data, .funcs, .widerDeep] true :=
  OpenClaim.laidByTextAt_later rfl rfl tie noOwnUnsafe
theorem lexLossless_row_tie : Rows.lexLosslessRow.laidByTextAt .later Tryd.pinned [.data, .funcs, .widerDeep] true :=
  OpenClaim.laidByTextAt_later rfl rfl tie noOwnUnsafe
theorem lexScansUpto_row_tie : Rows.lexScansUptoRow.laidByTextAt .later Tryd.pinned [.data, .funcs, .widerDeep] true :=
  OpenClaim.laidByTextAt_later rfl rfl tie noOwnUnsafe
theorem lexJoinsUpto_row_tie : Rows.lexJoinsUptoRow.laidByTextAt .later Tryd.pinned [.data, .funcs, .widerDeep] true :=
  OpenClaim.laidByTextAt_later rfl rfl tie noOwnUnsafe
theorem lexErrorsUpto_row_tie : Rows.lexErrorsUptoRow.laidByTextAt .later Tryd.pinned [.data, .funcs, .widerDeep] true :=
  OpenClaim.laidByTextAt_later rfl rfl tie noOwnUnsafe
theorem lexLayoutsUpto_row_tie : Rows.lexLayoutsUptoRow.laidByTextAt .later Tryd.pinned [.data, .funcs, .widerDeep] true :=
  OpenClaim.laidByTextAt_later rfl rfl tie noOwnUnsafe
theorem lexWordsUpto_row_tie : Rows.lexWordsUptoRow.laidByTextAt .later Tryd.pinned [.data, .funcs, .widerDeep] true :=
  OpenClaim.laidByTextAt_later rfl rfl tie noOwnUnsafe
theorem lexLosslessUpto_row_tie : Rows.lexLosslessUptoRow.laidByTextAt .later Tryd.pinned [.data, .funcs, .widerDeep] true :=
  OpenClaim.laidByTextAt_later rfl rfl tie noOwnUnsafe
end Go.Proofs.YtjjdfccbkohlcaaDoor
