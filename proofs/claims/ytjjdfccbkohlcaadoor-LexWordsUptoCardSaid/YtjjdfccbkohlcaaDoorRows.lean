/-
  NARROWER THAN 'FOR EVERY INPUT', by the rows' own cells (each row's printed sentence says how): LexScans: laid · LexJoins: laid · LexErrors: laid · LexLayouts: laid · LexWords: laid · LexLossless: laid.
  DERIVED. THE GIVEN ROWS OF THIS SEAT. 6 by the template 'for every input the law returns true; each argument reads behind the call as it read before'; 0 by the template 'total and deterministic' (their statements: YtjjdfccbkohlcaaDoorTotals.lean).
  GIVEN WITH THE SEED: the statements are not yours to turn. If you find one false, say at which input.
  Laid BY PROGRAM, IN A SANDBOX (cutbox-rows.mjs): the forced cells as the released guide's own fill.sh prints them over the translation 18e0fbfe9e647d3b… (all of the seat's roots in one cut). By AI agents, Wed Nov 11 2026. No macro, syntax, notation, axiom, sorry.
-/
import Derived.Test.YtjjdfccbkohlcaaDoorChecked
import GoSem.Claim
import GoSem.ClaimJoined
import GoSem.ClaimMapViews
import Derived.JoinedTies
import Derived.KernelRfl
namespace Go.Proofs.YtjjdfccbkohlcaaDoor
/- THE CELL 'sum', in the pinned program and in every row, IS THE sha256 OF THE DUMP (.gsa) THAT YtjjdfccbkohlcaaDoorProg.lean LOADS. Nothing in Lean hashes anything: it is a label: what it is worth is what the hold of that sum in a sandbox is worth. -/
noncomputable def Tryd.pinned : Pinned := { name := "ytjjdfccbkohlcaadoor", sum := "18e0fbfe9e647d3b30d1e9fc85591c4c22b035e41f85d0f796e78c11948dea49", checked := Tryd.checked }
namespace Rows
def none {H : Type} : Left H := { results := [], args := [] }

/- WHAT THE LISTED PACKAGE-LEVEL VARIABLES READ AS WHEN THE CALL BEGINS. Each datum BY PROGRAM (the guide's laid-datum.mjs) off the statement by which the dump's own 'gosem.cut.vars' lays the variable. In a bare row this is a premise. The card (YtjjdfccbkohlcaaDoorCards.lean) ties it to the program's text. -/
def laid_splicery_lex_signs {H : Type} : DataW H := .agg [.lit (.string [61, 61]), .lit (.string [45, 62]), .lit (.string [40]), .lit (.string [41]), .lit (.string [123]), .lit (.string [125]), .lit (.string [91]), .lit (.string [93]), .lit (.string [44]), .lit (.string [58]), .lit (.string [46]), .lit (.string [61]), .lit (.string [43]), .lit (.string [45]), .lit (.string [42]), .lit (.string [47]), .lit (.string [37]), .lit (.string [60])]
def laid_splicery_lex_kinds {H : Type} : DataW H := .iface "func table" (.agg [.agg [.iface "func" (.lit (.string [115, 112, 108, 105, 99, 101, 114, 121, 47, 108, 101, 120, 46, 108, 101, 116, 116, 101, 114])), .iface "func" (.lit (.string [115, 112, 108, 105, 99, 101, 114, 121, 47, 108, 101, 120, 46, 101, 105, 116, 104, 101, 114]))], .agg [.iface "func" (.lit (.string [115, 112, 108, 105, 99, 101, 114, 121, 47, 108, 101, 120, 46, 100, 105, 103, 105, 116])), .iface "func" (.lit (.string [115, 112, 108, 105, 99, 101, 114, 121, 47, 108, 101, 120, 46, 100, 105, 103, 105, 116]))]])
def laid_splicery_lex_keywords {H : Type} : DataW H := .agg [.lit (.string [109, 111, 100, 117, 108, 101]), .lit (.string [117, 115, 101]), .lit (.string [114, 101, 99]), .lit (.string [99, 97, 115, 101]), .lit (.string [102, 117, 110]), .lit (.string [111, 110]), .lit (.string [116, 101, 115, 116]), .lit (.string [99, 111, 110, 118]), .lit (.string [116, 114, 117, 101]), .lit (.string [102, 97, 108, 115, 101]), .lit (.string [110, 111, 116]), .lit (.string [97, 110, 100]), .lit (.string [111, 114]), .lit (.string [105, 102]), .lit (.string [116, 104, 101, 110]), .lit (.string [101, 108, 115, 101]), .lit (.string [108, 101, 116]), .lit (.string [105, 110]), .lit (.string [109, 97, 116, 99, 104]), .lit (.string [102, 111, 108, 100]), .lit (.string [111, 118, 101, 114]), .lit (.string [100, 111]), .lit (.string [108, 101, 110]), .lit (.string [106, 111, 105, 110]), .lit (.string [76, 105, 115, 116]), .lit (.string [73, 110, 116]), .lit (.string [66, 111, 111, 108])]

/-- 'splicerylaw05.LexScans': WHATEVER THE INPUT: true; the input reads as it did. -/
def lexScansSpec : ChangeSpec := { name := "lexScans", fn := fun _ => fun
  | [d1, d2, d3, d4] => { results := [.lit (.bool true)], args := [d1, d2, d3, d4] }
  | _ => none }
def lexScansRow : OpenClaim := { program := "ytjjdfccbkohlcaadoor", sum := "18e0fbfe9e647d3b30d1e9fc85591c4c22b035e41f85d0f796e78c11948dea49", func := "splicery/splicerylaw05.LexScans", spec := "lexScans", inPlace := ["internal/bytealg.IndexByteString"], unfollowed := true, recurses := true, named := ["splicery/lex.kinds", "splicery/lex.signs", "splicery/lex.keywords"], apart := false, laid := [("splicery/lex.signs", laid_splicery_lex_signs), ("splicery/lex.kinds", laid_splicery_lex_kinds), ("splicery/lex.keywords", laid_splicery_lex_keywords)] }
def LexScansSaid : Prop := lexScansRow.holds Tryd.pinned (OpenSpec.ofChange lexScansSpec)

/-- ITS FALSE NEIGHBOUR: 'it returns false'. Refute it at one input. -/
def lexScansWrong : ChangeSpec := { name := "lexScans", fn := fun _ => fun
  | [d1, d2, d3, d4] => { results := [.lit (.bool false)], args := [d1, d2, d3, d4] }
  | _ => none }
def LexScansWrongFalsely : Prop := lexScansRow.holds Tryd.pinned (OpenSpec.ofChange lexScansWrong)

/-- 'splicerylaw05.LexJoins': WHATEVER THE INPUT: true; the input reads as it did. -/
def lexJoinsSpec : ChangeSpec := { name := "lexJoins", fn := fun _ => fun
  | [d1, d2, d3] => { results := [.lit (.bool true)], args := [d1, d2, d3] }
  | _ => none }
def lexJoinsRow : OpenClaim := { program := "ytjjdfccbkohlcaadoor", sum := "18e0fbfe9e647d3b30d1e9fc85591c4c22b035e41f85d0f796e78c11948dea49", func := "splicery/splicerylaw05.LexJoins", spec := "lexJoins", inPlace := ["internal/bytealg.IndexByteString"], unfollowed := true, recurses := true, named := ["splicery/lex.kinds", "splicery/lex.signs", "splicery/lex.keywords"], apart := false, laid := [("splicery/lex.signs", laid_splicery_lex_signs), ("splicery/lex.kinds", laid_splicery_lex_kinds), ("splicery/lex.keywords", laid_splicery_lex_keywords)] }
def LexJoinsSaid : Prop := lexJoinsRow.holds Tryd.pinned (OpenSpec.ofChange lexJoinsSpec)

/-- ITS FALSE NEIGHBOUR: 'it returns false'. Refute it at one input. -/
def lexJoinsWrong : ChangeSpec := { name := "lexJoins", fn := fun _ => fun
  | [d1, d2, d3] => { results := [.lit (.bool false)], args := [d1, d2, d3] }
  | _ => none }
def LexJoinsWrongFalsely : Prop := lexJoinsRow.holds Tryd.pinned (OpenSpec.ofChange lexJoinsWrong)

/-- 'splicerylaw05.LexErrors': WHATEVER THE INPUT: true; the input reads as it did. -/
def lexErrorsSpec : ChangeSpec := { name := "lexErrors", fn := fun _ => fun
  | [d1, d2, d3] => { results := [.lit (.bool true)], args := [d1, d2, d3] }
  | _ => none }
def lexErrorsRow : OpenClaim := { program := "ytjjdfccbkohlcaadoor", sum := "18e0fbfe9e647d3b30d1e9fc85591c4c22b035e41f85d0f796e78c11948dea49", func := "splicery/splicerylaw05.LexErrors", spec := "lexErrors", inPlace := ["internal/bytealg.IndexByteString"], unfollowed := true, recurses := true, named := ["splicery/lex.kinds", "splicery/lex.signs", "splicery/lex.keywords"], apart := false, laid := [("splicery/lex.signs", laid_splicery_lex_signs), ("splicery/lex.kinds", laid_splicery_lex_kinds), ("splicery/lex.keywords", laid_splicery_lex_keywords)] }
def LexErrorsSaid : Prop := lexErrorsRow.holds Tryd.pinned (OpenSpec.ofChange lexErrorsSpec)

/-- ITS FALSE NEIGHBOUR: 'it returns false'. Refute it at one input. -/
def lexErrorsWrong : ChangeSpec := { name := "lexErrors", fn := fun _ => fun
  | [d1, d2, d3] => { results := [.lit (.bool false)], args := [d1, d2, d3] }
  | _ => none }
def LexErrorsWrongFalsely : Prop := lexErrorsRow.holds Tryd.pinned (OpenSpec.ofChange lexErrorsWrong)

/-- 'splicerylaw05.LexLayouts': WHATEVER THE INPUT: true; the input reads as it did. -/
def lexLayoutsSpec : ChangeSpec := { name := "lexLayouts", fn := fun _ => fun
  | [d1, d2, d3] => { results := [.lit (.bool true)], args := [d1, d2, d3] }
  | _ => none }
def lexLayoutsRow : OpenClaim := { program := "ytjjdfccbkohlcaadoor", sum := "18e0fbfe9e647d3b30d1e9fc85591c4c22b035e41f85d0f796e78c11948dea49", func := "splicery/splicerylaw05.LexLayouts", spec := "lexLayouts", inPlace := ["internal/abi.NoEscape", "internal/bytealg.IndexByteString"], unfollowed := true, recurses := true, named := ["splicery/lex.kinds", "splicery/lex.signs", "splicery/lex.keywords"], apart := false, laid := [("splicery/lex.signs", laid_splicery_lex_signs), ("splicery/lex.kinds", laid_splicery_lex_kinds), ("splicery/lex.keywords", laid_splicery_lex_keywords)] }
def LexLayoutsSaid : Prop := lexLayoutsRow.holds Tryd.pinned (OpenSpec.ofChange lexLayoutsSpec)

/-- ITS FALSE NEIGHBOUR: 'it returns false'. Refute it at one input. -/
def lexLayoutsWrong : ChangeSpec := { name := "lexLayouts", fn := fun _ => fun
  | [d1, d2, d3] => { results := [.lit (.bool false)], args := [d1, d2, d3] }
  | _ => none }
def LexLayoutsWrongFalsely : Prop := lexLayoutsRow.holds Tryd.pinned (OpenSpec.ofChange lexLayoutsWrong)

/-- 'splicerylaw05.LexWords': WHATEVER THE INPUT: true; the input reads as it did. -/
def lexWordsSpec : ChangeSpec := { name := "lexWords", fn := fun _ => fun
  | [d1, d2, d3] => { results := [.lit (.bool true)], args := [d1, d2, d3] }
  | _ => none }
def lexWordsRow : OpenClaim := { program := "ytjjdfccbkohlcaadoor", sum := "18e0fbfe9e647d3b30d1e9fc85591c4c22b035e41f85d0f796e78c11948dea49", func := "splicery/splicerylaw05.LexWords", spec := "lexWords", inPlace := ["internal/bytealg.IndexByteString", "internal/abi.NoEscape"], unfollowed := true, recurses := true, named := ["splicery/lex.keywords", "splicery/lex.kinds", "splicery/lex.signs"], apart := false, laid := [("splicery/lex.signs", laid_splicery_lex_signs), ("splicery/lex.kinds", laid_splicery_lex_kinds), ("splicery/lex.keywords", laid_splicery_lex_keywords)] }
def LexWordsSaid : Prop := lexWordsRow.holds Tryd.pinned (OpenSpec.ofChange lexWordsSpec)

/-- ITS FALSE NEIGHBOUR: 'it returns false'. Refute it at one input. -/
def lexWordsWrong : ChangeSpec := { name := "lexWords", fn := fun _ => fun
  | [d1, d2, d3] => { results := [.lit (.bool false)], args := [d1, d2, d3] }
  | _ => none }
def LexWordsWrongFalsely : Prop := lexWordsRow.holds Tryd.pinned (OpenSpec.ofChange lexWordsWrong)

/-- 'splicerylaw05.LexLossless': WHATEVER THE INPUT: true; the input reads as it did. -/
def lexLosslessSpec : ChangeSpec := { name := "lexLossless", fn := fun _ => fun
  | [d1, d2] => { results := [.lit (.bool true)], args := [d1, d2] }
  | _ => none }
def lexLosslessRow : OpenClaim := { program := "ytjjdfccbkohlcaadoor", sum := "18e0fbfe9e647d3b30d1e9fc85591c4c22b035e41f85d0f796e78c11948dea49", func := "splicery/splicerylaw05.LexLossless", spec := "lexLossless", inPlace := ["internal/bytealg.IndexByteString", "internal/abi.NoEscape"], unfollowed := true, recurses := true, named := ["splicery/lex.kinds", "splicery/lex.signs", "splicery/lex.keywords"], apart := false, laid := [("splicery/lex.signs", laid_splicery_lex_signs), ("splicery/lex.kinds", laid_splicery_lex_kinds), ("splicery/lex.keywords", laid_splicery_lex_keywords)] }
def LexLosslessSaid : Prop := lexLosslessRow.holds Tryd.pinned (OpenSpec.ofChange lexLosslessSpec)

/-- ITS FALSE NEIGHBOUR: 'it returns false'. Refute it at one input. -/
def lexLosslessWrong : ChangeSpec := { name := "lexLossless", fn := fun _ => fun
  | [d1, d2] => { results := [.lit (.bool false)], args := [d1, d2] }
  | _ => none }
def LexLosslessWrongFalsely : Prop := lexLosslessRow.holds Tryd.pinned (OpenSpec.ofChange lexLosslessWrong)

/- THE SECOND FORM. 'bulk': how many values and letters a reading holds, each counted each time it is reached (what is shared counts as often as it is met; a slice's spare places count too). A statement '..UptoSaid' is the law's where the arguments, and the package variables that the reading takes, are together of bulk at most 1048576: NARROWER than '..Said'. Prove '..Said' where nothing that the law and all that it calls make is longer than what came in: it says more and counts as full. Else prove '..UptoSaid'. A law counts once. -/
mutual
def uptoBulk {H : Type} : DataW H → Nat
  | .lit (.string bytes) => bytes.length + 1
  | .lit _ => 1
  | .nil => 1
  | .ptr d => uptoBulk d + 1
  | .slice elems spare => uptoBulkAll elems + uptoBulkAll spare + 1
  | .agg parts => uptoBulkAll parts + 1
  | .iface _ d => uptoBulk d + 1
  | .map entries => uptoBulkEntries entries + 1
  | .held _ => 1
def uptoBulkAll {H : Type} : List (DataW H) → Nat
  | [] => 0
  | d :: r => uptoBulk d + uptoBulkAll r
def uptoBulkEntries {H : Type} : List (Lit × DataW H) → Nat
  | [] => 0
  | x :: r => uptoBulkEntry x + uptoBulkEntries r
def uptoBulkEntry {H : Type} : Lit × DataW H → Nat
  | (.string bytes, d) => bytes.length + uptoBulk d + 1
  | (_, d) => uptoBulk d + 1
 end
def uptoSmall : (H : Type) → List (DataW H) → Bool := fun _ ds => decide (uptoBulkAll ds ≤ 1048576)
def OpenSpec.upto (s : _root_.Go.ChangeSpec) : _root_.Go.OpenSpec := { _root_.Go.OpenSpec.ofChange s with cond := some uptoSmall }

/-- 'splicerylaw05.LexScans', WHERE WHAT IT READS IS OF BULK AT MOST 1048576: true; the input reads as it did. -/
def lexScansUptoRow : OpenClaim := { program := "ytjjdfccbkohlcaadoor", sum := "18e0fbfe9e647d3b30d1e9fc85591c4c22b035e41f85d0f796e78c11948dea49", func := "splicery/splicerylaw05.LexScans", spec := "lexScans", inPlace := ["internal/bytealg.IndexByteString"], unfollowed := true, recurses := true, named := ["splicery/lex.kinds", "splicery/lex.signs", "splicery/lex.keywords"], apart := false, laid := [("splicery/lex.signs", laid_splicery_lex_signs), ("splicery/lex.kinds", laid_splicery_lex_kinds), ("splicery/lex.keywords", laid_splicery_lex_keywords)], narrowed := true }
def LexScansUptoSaid : Prop := lexScansUptoRow.holds Tryd.pinned (OpenSpec.upto lexScansSpec)

/-- 'splicerylaw05.LexJoins', WHERE WHAT IT READS IS OF BULK AT MOST 1048576: true; the input reads as it did. -/
def lexJoinsUptoRow : OpenClaim := { program := "ytjjdfccbkohlcaadoor", sum := "18e0fbfe9e647d3b30d1e9fc85591c4c22b035e41f85d0f796e78c11948dea49", func := "splicery/splicerylaw05.LexJoins", spec := "lexJoins", inPlace := ["internal/bytealg.IndexByteString"], unfollowed := true, recurses := true, named := ["splicery/lex.kinds", "splicery/lex.signs", "splicery/lex.keywords"], apart := false, laid := [("splicery/lex.signs", laid_splicery_lex_signs), ("splicery/lex.kinds", laid_splicery_lex_kinds), ("splicery/lex.keywords", laid_splicery_lex_keywords)], narrowed := true }
def LexJoinsUptoSaid : Prop := lexJoinsUptoRow.holds Tryd.pinned (OpenSpec.upto lexJoinsSpec)

/-- 'splicerylaw05.LexErrors', WHERE WHAT IT READS IS OF BULK AT MOST 1048576: true; the input reads as it did. -/
def lexErrorsUptoRow : OpenClaim := { program := "ytjjdfccbkohlcaadoor", sum := "18e0fbfe9e647d3b30d1e9fc85591c4c22b035e41f85d0f796e78c11948dea49", func := "splicery/splicerylaw05.LexErrors", spec := "lexErrors", inPlace := ["internal/bytealg.IndexByteString"], unfollowed := true, recurses := true, named := ["splicery/lex.kinds", "splicery/lex.signs", "splicery/lex.keywords"], apart := false, laid := [("splicery/lex.signs", laid_splicery_lex_signs), ("splicery/lex.kinds", laid_splicery_lex_kinds), ("splicery/lex.keywords", laid_splicery_lex_keywords)], narrowed := true }
def LexErrorsUptoSaid : Prop := lexErrorsUptoRow.holds Tryd.pinned (OpenSpec.upto lexErrorsSpec)

/-- 'splicerylaw05.LexLayouts', WHERE WHAT IT READS IS OF BULK AT MOST 1048576: true; the input reads as it did. -/
def lexLayoutsUptoRow : OpenClaim := { program := "ytjjdfccbkohlcaadoor", sum := "18e0fbfe9e647d3b30d1e9fc85591c4c22b035e41f85d0f796e78c11948dea49", func := "splicery/splicerylaw05.LexLayouts", spec := "lexLayouts", inPlace := ["internal/abi.NoEscape", "internal/bytealg.IndexByteString"], unfollowed := true, recurses := true, named := ["splicery/lex.kinds", "splicery/lex.signs", "splicery/lex.keywords"], apart := false, laid := [("splicery/lex.signs", laid_splicery_lex_signs), ("splicery/lex.kinds", laid_splicery_lex_kinds), ("splicery/lex.keywords", laid_splicery_lex_keywords)], narrowed := true }
def LexLayoutsUptoSaid : Prop := lexLayoutsUptoRow.holds Tryd.pinned (OpenSpec.upto lexLayoutsSpec)

/-- 'splicerylaw05.LexWords', WHERE WHAT IT READS IS OF BULK AT MOST 1048576: true; the input reads as it did. -/
def lexWordsUptoRow : OpenClaim := { program := "ytjjdfccbkohlcaadoor", sum := "18e0fbfe9e647d3b30d1e9fc85591c4c22b035e41f85d0f796e78c11948dea49", func := "splicery/splicerylaw05.LexWords", spec := "lexWords", inPlace := ["internal/bytealg.IndexByteString", "internal/abi.NoEscape"], unfollowed := true, recurses := true, named := ["splicery/lex.keywords", "splicery/lex.kinds", "splicery/lex.signs"], apart := false, laid := [("splicery/lex.signs", laid_splicery_lex_signs), ("splicery/lex.kinds", laid_splicery_lex_kinds), ("splicery/lex.keywords", laid_splicery_lex_keywords)], narrowed := true }
def LexWordsUptoSaid : Prop := lexWordsUptoRow.holds Tryd.pinned (OpenSpec.upto lexWordsSpec)

/-- 'splicerylaw05.LexLossless', WHERE WHAT IT READS IS OF BULK AT MOST 1048576: true; the input reads as it did. -/
def lexLosslessUptoRow : OpenClaim := { program := "ytjjdfccbkohlcaadoor", sum := "18e0fbfe9e647d3b30d1e9fc85591c4c22b035e41f85d0f796e78c11948dea49", func := "splicery/splicerylaw05.LexLossless", spec := "lexLossless", inPlace := ["internal/bytealg.IndexByteString", "internal/abi.NoEscape"], unfollowed := true, recurses := true, named := ["splicery/lex.kinds", "splicery/lex.signs", "splicery/lex.keywords"], apart := false, laid := [("splicery/lex.signs", laid_splicery_lex_signs), ("splicery/lex.kinds", laid_splicery_lex_kinds), ("splicery/lex.keywords", laid_splicery_lex_keywords)], narrowed := true }
def LexLosslessUptoSaid : Prop := lexLosslessUptoRow.holds Tryd.pinned (OpenSpec.upto lexLosslessSpec)

end Rows
end Go.Proofs.YtjjdfccbkohlcaaDoor
