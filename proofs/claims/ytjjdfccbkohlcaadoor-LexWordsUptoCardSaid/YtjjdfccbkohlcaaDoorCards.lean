/-
  DERIVED. GIVEN WITH THE SEED: THE CARDS: each row of YtjjdfccbkohlcaaDoorRows.lean that lists a variable, with what it lists TIED to the program's text (the seventh form; the later family's looks); each row that meets fmt, with fmt's text TOLD by the authors' own Lean function (tested against real Go, not proved from fmt's source: count such statements apart). THE CARD IS WHAT COUNTS. Prove the row's statement (the work); the ties are given (YtjjdfccbkohlcaaDoorTie.lean); close each card by the builder's one call (the guide's Derived/Test/ToyasCard.lean, 'card_holds'). Laid BY PROGRAM, IN A SANDBOX (cutbox-door.mjs). By AI agents, Wed Nov 11 2026. No macro, syntax, notation, axiom, sorry.
-/
import Derived.Test.YtjjdfccbkohlcaaDoorRows
import GoSem.ClaimSeven
namespace Go.Proofs.YtjjdfccbkohlcaaDoor
namespace Rows

/-- THE TIED CARD OF 'splicerylaw05.LexScans'. -/
def lexScansCard : Claim7 := { stood := { row := lexScansRow, standIns := [], harness := (true, "9300e464e59a5a0fe558c7f0ffdcf5130fa97302ee99ed3433fdadb0ada3c1c7"), looks := false }, kinds := [], alts := [], laidByText := true, laidKinds := [.data, .funcs, .widerDeep], laidTests := true, laidLooks := .later }
def LexScansCardSaid : Prop := Claim7.holds Tryd.pinned (.plain (OpenSpec.ofChange lexScansSpec)) lexScansCard

/-- THE TIED CARD OF 'splicerylaw05.LexJoins'. -/
def lexJoinsCard : Claim7 := { stood := { row := lexJoinsRow, standIns := [], harness := (true, "9300e464e59a5a0fe558c7f0ffdcf5130fa97302ee99ed3433fdadb0ada3c1c7"), looks := false }, kinds := [], alts := [], laidByText := true, laidKinds := [.data, .funcs, .widerDeep], laidTests := true, laidLooks := .later }
def LexJoinsCardSaid : Prop := Claim7.holds Tryd.pinned (.plain (OpenSpec.ofChange lexJoinsSpec)) lexJoinsCard

/-- THE TIED CARD OF 'splicerylaw05.LexErrors'. -/
def lexErrorsCard : Claim7 := { stood := { row := lexErrorsRow, standIns := [], harness := (true, "9300e464e59a5a0fe558c7f0ffdcf5130fa97302ee99ed3433fdadb0ada3c1c7"), looks := false }, kinds := [], alts := [], laidByText := true, laidKinds := [.data, .funcs, .widerDeep], laidTests := true, laidLooks := .later }
def LexErrorsCardSaid : Prop := Claim7.holds Tryd.pinned (.plain (OpenSpec.ofChange lexErrorsSpec)) lexErrorsCard

/-- THE TIED CARD OF 'splicerylaw05.LexLayouts'. -/
def lexLayoutsCard : Claim7 := { stood := { row := lexLayoutsRow, standIns := [], harness := (true, "9300e464e59a5a0fe558c7f0ffdcf5130fa97302ee99ed3433fdadb0ada3c1c7"), looks := false }, kinds := [], alts := [], laidByText := true, laidKinds := [.data, .funcs, .widerDeep], laidTests := true, laidLooks := .later }
def LexLayoutsCardSaid : Prop := Claim7.holds Tryd.pinned (.plain (OpenSpec.ofChange lexLayoutsSpec)) lexLayoutsCard

/-- THE TIED CARD OF 'splicerylaw05.LexWords'. -/
def lexWordsCard : Claim7 := { stood := { row := lexWordsRow, standIns := [], harness := (true, "9300e464e59a5a0fe558c7f0ffdcf5130fa97302ee99ed3433fdadb0ada3c1c7"), looks := false }, kinds := [], alts := [], laidByText := true, laidKinds := [.data, .funcs, .widerDeep], laidTests := true, laidLooks := .later }
def LexWordsCardSaid : Prop := Claim7.holds Tryd.pinned (.plain (OpenSpec.ofChange lexWordsSpec)) lexWordsCard

/-- THE TIED CARD OF 'splicerylaw05.LexLossless'. -/
def lexLosslessCard : Claim7 := { stood := { row := lexLosslessRow, standIns := [], harness := (true, "9300e464e59a5a0fe558c7f0ffdcf5130fa97302ee99ed3433fdadb0ada3c1c7"), looks := false }, kinds := [], alts := [], laidByText := true, laidKinds := [.data, .funcs, .widerDeep], laidTests := true, laidLooks := .later }
def LexLosslessCardSaid : Prop := Claim7.holds Tryd.pinned (.plain (OpenSpec.ofChange lexLosslessSpec)) lexLosslessCard

/-- THE SECOND FORM's CARD OF 'splicerylaw05.LexScans'. -/
def lexScansUptoCard : Claim7 := { stood := { row := lexScansUptoRow, standIns := [], harness := (true, "9300e464e59a5a0fe558c7f0ffdcf5130fa97302ee99ed3433fdadb0ada3c1c7"), looks := false }, kinds := [], alts := [], laidByText := true, laidKinds := [.data, .funcs, .widerDeep], laidTests := true, laidLooks := .later }
def LexScansUptoCardSaid : Prop := Claim7.holds Tryd.pinned (.plain (OpenSpec.upto lexScansSpec)) lexScansUptoCard

/-- THE SECOND FORM's CARD OF 'splicerylaw05.LexJoins'. -/
def lexJoinsUptoCard : Claim7 := { stood := { row := lexJoinsUptoRow, standIns := [], harness := (true, "9300e464e59a5a0fe558c7f0ffdcf5130fa97302ee99ed3433fdadb0ada3c1c7"), looks := false }, kinds := [], alts := [], laidByText := true, laidKinds := [.data, .funcs, .widerDeep], laidTests := true, laidLooks := .later }
def LexJoinsUptoCardSaid : Prop := Claim7.holds Tryd.pinned (.plain (OpenSpec.upto lexJoinsSpec)) lexJoinsUptoCard

/-- THE SECOND FORM's CARD OF 'splicerylaw05.LexErrors'. -/
def lexErrorsUptoCard : Claim7 := { stood := { row := lexErrorsUptoRow, standIns := [], harness := (true, "9300e464e59a5a0fe558c7f0ffdcf5130fa97302ee99ed3433fdadb0ada3c1c7"), looks := false }, kinds := [], alts := [], laidByText := true, laidKinds := [.data, .funcs, .widerDeep], laidTests := true, laidLooks := .later }
def LexErrorsUptoCardSaid : Prop := Claim7.holds Tryd.pinned (.plain (OpenSpec.upto lexErrorsSpec)) lexErrorsUptoCard

/-- THE SECOND FORM's CARD OF 'splicerylaw05.LexLayouts'. -/
def lexLayoutsUptoCard : Claim7 := { stood := { row := lexLayoutsUptoRow, standIns := [], harness := (true, "9300e464e59a5a0fe558c7f0ffdcf5130fa97302ee99ed3433fdadb0ada3c1c7"), looks := false }, kinds := [], alts := [], laidByText := true, laidKinds := [.data, .funcs, .widerDeep], laidTests := true, laidLooks := .later }
def LexLayoutsUptoCardSaid : Prop := Claim7.holds Tryd.pinned (.plain (OpenSpec.upto lexLayoutsSpec)) lexLayoutsUptoCard

/-- THE SECOND FORM's CARD OF 'splicerylaw05.LexWords'. -/
def lexWordsUptoCard : Claim7 := { stood := { row := lexWordsUptoRow, standIns := [], harness := (true, "9300e464e59a5a0fe558c7f0ffdcf5130fa97302ee99ed3433fdadb0ada3c1c7"), looks := false }, kinds := [], alts := [], laidByText := true, laidKinds := [.data, .funcs, .widerDeep], laidTests := true, laidLooks := .later }
def LexWordsUptoCardSaid : Prop := Claim7.holds Tryd.pinned (.plain (OpenSpec.upto lexWordsSpec)) lexWordsUptoCard

/-- THE SECOND FORM's CARD OF 'splicerylaw05.LexLossless'. -/
def lexLosslessUptoCard : Claim7 := { stood := { row := lexLosslessUptoRow, standIns := [], harness := (true, "9300e464e59a5a0fe558c7f0ffdcf5130fa97302ee99ed3433fdadb0ada3c1c7"), looks := false }, kinds := [], alts := [], laidByText := true, laidKinds := [.data, .funcs, .widerDeep], laidTests := true, laidLooks := .later }
def LexLosslessUptoCardSaid : Prop := Claim7.holds Tryd.pinned (.plain (OpenSpec.upto lexLosslessSpec)) lexLosslessUptoCard
end Rows
end Go.Proofs.YtjjdfccbkohlcaaDoor
