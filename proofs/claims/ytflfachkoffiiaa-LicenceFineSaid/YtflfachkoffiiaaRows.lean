/-
  No cell of these rows narrows 'for every input' (looked for: loops, veiled, ifaces, maps, wideKeys, modest, calm, conditions, laid).
  DERIVED. THE GIVEN ROWS OF THIS SEAT. 6 by the template 'for every input the law returns true; each argument reads behind the call as it read before'; 0 by the template 'total and deterministic' (their statements: YtflfachkoffiiaaTotals.lean).
  GIVEN WITH THE SEED: the statements are not yours to turn. If you find one false, say at which input.
  Laid BY PROGRAM, IN A SANDBOX (cutbox-rows.mjs): the forced cells as the released guide's own fill.sh prints them over the translation cfe110d42467e66a… (all of the seat's roots in one cut). By AI agents, Wed Nov 11 2026. No macro, syntax, notation, axiom, sorry.
-/
import Derived.Test.YtflfachkoffiiaaChecked
import GoSem.Claim
import GoSem.ClaimJoined
import GoSem.ClaimMapViews
import Derived.JoinedTies
import Derived.KernelRfl
namespace Go.Proofs.Ytflfachkoffiiaa
/- THE CELL 'sum', in the pinned program and in every row, IS THE sha256 OF THE DUMP (.gsa) THAT YtflfachkoffiiaaProg.lean LOADS. Nothing in Lean hashes anything: it is a label: what it is worth is what the hold of that sum in a sandbox is worth. -/
noncomputable def Try.pinned : Pinned := { name := "ytflfachkoffiiaa", sum := "cfe110d42467e66a9e80f4f396d7fbaaf2be78620683900b1a68bd839c902535", checked := Try.checked }
namespace Rows
def none {H : Type} : Left H := { results := [], args := [] }

/-- 'splicerylaw41.LicenceFine': WHATEVER THE INPUT: true; the input reads as it did. -/
def licenceFineSpec : ChangeSpec := { name := "licenceFine", fn := fun _ => fun
  | [d1, d2, d3, d4, d5, d6] => { results := [.lit (.bool true)], args := [d1, d2, d3, d4, d5, d6] }
  | _ => none }
def licenceFineRow : OpenClaim := { program := "ytflfachkoffiiaa", sum := "cfe110d42467e66a9e80f4f396d7fbaaf2be78620683900b1a68bd839c902535", func := "splicery/splicerylaw41.LicenceFine", spec := "licenceFine", inPlace := ["internal/bytealg.IndexByteString", "internal/bytealg.IndexString"], unfollowed := true, recurses := true, named := ["internal/bytealg.MaxLen"], apart := false }
def LicenceFineSaid : Prop := licenceFineRow.holds Try.pinned (OpenSpec.ofChange licenceFineSpec)

/-- ITS FALSE NEIGHBOUR: 'it returns false'. Refute it at one input. -/
def licenceFineWrong : ChangeSpec := { name := "licenceFine", fn := fun _ => fun
  | [d1, d2, d3, d4, d5, d6] => { results := [.lit (.bool false)], args := [d1, d2, d3, d4, d5, d6] }
  | _ => none }
def LicenceFineWrongFalsely : Prop := licenceFineRow.holds Try.pinned (OpenSpec.ofChange licenceFineWrong)

/-- 'splicerylaw41.LicenceCores': WHATEVER THE INPUT: true; the input reads as it did. -/
def licenceCoresSpec : ChangeSpec := { name := "licenceCores", fn := fun _ => fun
  | [d1, d2, d3, d4] => { results := [.lit (.bool true)], args := [d1, d2, d3, d4] }
  | _ => none }
def licenceCoresRow : OpenClaim := { program := "ytflfachkoffiiaa", sum := "cfe110d42467e66a9e80f4f396d7fbaaf2be78620683900b1a68bd839c902535", func := "splicery/splicerylaw41.LicenceCores", spec := "licenceCores", inPlace := ["internal/bytealg.IndexByteString", "internal/bytealg.IndexString"], unfollowed := true, recurses := true, named := ["internal/bytealg.MaxLen"], apart := false }
def LicenceCoresSaid : Prop := licenceCoresRow.holds Try.pinned (OpenSpec.ofChange licenceCoresSpec)

/-- ITS FALSE NEIGHBOUR: 'it returns false'. Refute it at one input. -/
def licenceCoresWrong : ChangeSpec := { name := "licenceCores", fn := fun _ => fun
  | [d1, d2, d3, d4] => { results := [.lit (.bool false)], args := [d1, d2, d3, d4] }
  | _ => none }
def LicenceCoresWrongFalsely : Prop := licenceCoresRow.holds Try.pinned (OpenSpec.ofChange licenceCoresWrong)

/-- 'splicerylaw41.LicenceChecks': WHATEVER THE INPUT: true; the input reads as it did. -/
def licenceChecksSpec : ChangeSpec := { name := "licenceChecks", fn := fun _ => fun
  | [d1, d2, d3, d4, d5] => { results := [.lit (.bool true)], args := [d1, d2, d3, d4, d5] }
  | _ => none }
def licenceChecksRow : OpenClaim := { program := "ytflfachkoffiiaa", sum := "cfe110d42467e66a9e80f4f396d7fbaaf2be78620683900b1a68bd839c902535", func := "splicery/splicerylaw41.LicenceChecks", spec := "licenceChecks", inPlace := ["internal/bytealg.IndexByteString", "internal/bytealg.IndexString"], unfollowed := true, recurses := true, named := ["internal/bytealg.MaxLen"], apart := false }
def LicenceChecksSaid : Prop := licenceChecksRow.holds Try.pinned (OpenSpec.ofChange licenceChecksSpec)

/-- ITS FALSE NEIGHBOUR: 'it returns false'. Refute it at one input. -/
def licenceChecksWrong : ChangeSpec := { name := "licenceChecks", fn := fun _ => fun
  | [d1, d2, d3, d4, d5] => { results := [.lit (.bool false)], args := [d1, d2, d3, d4, d5] }
  | _ => none }
def LicenceChecksWrongFalsely : Prop := licenceChecksRow.holds Try.pinned (OpenSpec.ofChange licenceChecksWrong)

/-- 'splicerylaw41.LicenceGreatest': WHATEVER THE INPUT: true; the input reads as it did. -/
def licenceGreatestSpec : ChangeSpec := { name := "licenceGreatest", fn := fun _ => fun
  | [d1, d2, d3, d4] => { results := [.lit (.bool true)], args := [d1, d2, d3, d4] }
  | _ => none }
def licenceGreatestRow : OpenClaim := { program := "ytflfachkoffiiaa", sum := "cfe110d42467e66a9e80f4f396d7fbaaf2be78620683900b1a68bd839c902535", func := "splicery/splicerylaw41.LicenceGreatest", spec := "licenceGreatest", inPlace := ["internal/bytealg.IndexByteString", "internal/bytealg.IndexString"], unfollowed := true, recurses := true, named := ["internal/bytealg.MaxLen"], apart := false }
def LicenceGreatestSaid : Prop := licenceGreatestRow.holds Try.pinned (OpenSpec.ofChange licenceGreatestSpec)

/-- ITS FALSE NEIGHBOUR: 'it returns false'. Refute it at one input. -/
def licenceGreatestWrong : ChangeSpec := { name := "licenceGreatest", fn := fun _ => fun
  | [d1, d2, d3, d4] => { results := [.lit (.bool false)], args := [d1, d2, d3, d4] }
  | _ => none }
def LicenceGreatestWrongFalsely : Prop := licenceGreatestRow.holds Try.pinned (OpenSpec.ofChange licenceGreatestWrong)

/-- 'splicerylaw41.LicenceSmallest': WHATEVER THE INPUT: true; the input reads as it did. -/
def licenceSmallestSpec : ChangeSpec := { name := "licenceSmallest", fn := fun _ => fun
  | [d1, d2, d3] => { results := [.lit (.bool true)], args := [d1, d2, d3] }
  | _ => none }
def licenceSmallestRow : OpenClaim := { program := "ytflfachkoffiiaa", sum := "cfe110d42467e66a9e80f4f396d7fbaaf2be78620683900b1a68bd839c902535", func := "splicery/splicerylaw41.LicenceSmallest", spec := "licenceSmallest", inPlace := ["internal/bytealg.IndexByteString", "internal/bytealg.IndexString"], unfollowed := true, recurses := true, named := ["internal/bytealg.MaxLen"], apart := false }
def LicenceSmallestSaid : Prop := licenceSmallestRow.holds Try.pinned (OpenSpec.ofChange licenceSmallestSpec)

/-- ITS FALSE NEIGHBOUR: 'it returns false'. Refute it at one input. -/
def licenceSmallestWrong : ChangeSpec := { name := "licenceSmallest", fn := fun _ => fun
  | [d1, d2, d3] => { results := [.lit (.bool false)], args := [d1, d2, d3] }
  | _ => none }
def LicenceSmallestWrongFalsely : Prop := licenceSmallestRow.holds Try.pinned (OpenSpec.ofChange licenceSmallestWrong)

/-- 'splicerylaw41.LicenceMore': WHATEVER THE INPUT: true; the input reads as it did. -/
def licenceMoreSpec : ChangeSpec := { name := "licenceMore", fn := fun _ => fun
  | [d1, d2, d3] => { results := [.lit (.bool true)], args := [d1, d2, d3] }
  | _ => none }
def licenceMoreRow : OpenClaim := { program := "ytflfachkoffiiaa", sum := "cfe110d42467e66a9e80f4f396d7fbaaf2be78620683900b1a68bd839c902535", func := "splicery/splicerylaw41.LicenceMore", spec := "licenceMore", inPlace := ["internal/bytealg.IndexByteString", "internal/bytealg.IndexString"], unfollowed := true, recurses := true, named := ["internal/bytealg.MaxLen"], apart := false }
def LicenceMoreSaid : Prop := licenceMoreRow.holds Try.pinned (OpenSpec.ofChange licenceMoreSpec)

/-- ITS FALSE NEIGHBOUR: 'it returns false'. Refute it at one input. -/
def licenceMoreWrong : ChangeSpec := { name := "licenceMore", fn := fun _ => fun
  | [d1, d2, d3] => { results := [.lit (.bool false)], args := [d1, d2, d3] }
  | _ => none }
def LicenceMoreWrongFalsely : Prop := licenceMoreRow.holds Try.pinned (OpenSpec.ofChange licenceMoreWrong)

/- THE SECOND FORM. 'bulk': how many values and letters a reading holds, each counted each time it is reached (what is shared counts as often as it is met; a slice's spare places count too). A statement '..UptoSaid' is the law's where the arguments, and the package variables that the reading takes, are together of bulk at most 1048576: NARROWER than '..Said'. Prove '..Said' where nothing that the law and all that it calls make is longer than what came in: it says more and counts as full. Else prove '..UptoSaid'. A law counts once. -/
mutual
def uptoBulk {H : Type} : DataW H → Nat
  | .lit (.string bytes) => bytes.length + 1
  | .lit _ => 1
  | .nil => 1
  | .ptr d => uptoBulk d + 1
  | .slice elems spare => uptoBulkAll elems + uptoBulkAll spare + 1
  | .agg parts => uptoBulkAll parts + 1
  | .iface _ d => uptoBulk d + 1
  | .map entries => uptoBulkEntries entries + 1
  | .held _ => 1
def uptoBulkAll {H : Type} : List (DataW H) → Nat
  | [] => 0
  | d :: r => uptoBulk d + uptoBulkAll r
def uptoBulkEntries {H : Type} : List (Lit × DataW H) → Nat
  | [] => 0
  | x :: r => uptoBulkEntry x + uptoBulkEntries r
def uptoBulkEntry {H : Type} : Lit × DataW H → Nat
  | (.string bytes, d) => bytes.length + uptoBulk d + 1
  | (_, d) => uptoBulk d + 1
 end
def uptoSmall : (H : Type) → List (DataW H) → Bool := fun _ ds => decide (uptoBulkAll ds ≤ 1048576)
def OpenSpec.upto (s : _root_.Go.ChangeSpec) : _root_.Go.OpenSpec := { _root_.Go.OpenSpec.ofChange s with cond := some uptoSmall }

/-- 'splicerylaw41.LicenceFine', WHERE WHAT IT READS IS OF BULK AT MOST 1048576: true; the input reads as it did. -/
def licenceFineUptoRow : OpenClaim := { program := "ytflfachkoffiiaa", sum := "cfe110d42467e66a9e80f4f396d7fbaaf2be78620683900b1a68bd839c902535", func := "splicery/splicerylaw41.LicenceFine", spec := "licenceFine", inPlace := ["internal/bytealg.IndexByteString", "internal/bytealg.IndexString"], unfollowed := true, recurses := true, named := ["internal/bytealg.MaxLen"], apart := false, narrowed := true }
def LicenceFineUptoSaid : Prop := licenceFineUptoRow.holds Try.pinned (OpenSpec.upto licenceFineSpec)

/-- 'splicerylaw41.LicenceCores', WHERE WHAT IT READS IS OF BULK AT MOST 1048576: true; the input reads as it did. -/
def licenceCoresUptoRow : OpenClaim := { program := "ytflfachkoffiiaa", sum := "cfe110d42467e66a9e80f4f396d7fbaaf2be78620683900b1a68bd839c902535", func := "splicery/splicerylaw41.LicenceCores", spec := "licenceCores", inPlace := ["internal/bytealg.IndexByteString", "internal/bytealg.IndexString"], unfollowed := true, recurses := true, named := ["internal/bytealg.MaxLen"], apart := false, narrowed := true }
def LicenceCoresUptoSaid : Prop := licenceCoresUptoRow.holds Try.pinned (OpenSpec.upto licenceCoresSpec)

/-- 'splicerylaw41.LicenceChecks', WHERE WHAT IT READS IS OF BULK AT MOST 1048576: true; the input reads as it did. -/
def licenceChecksUptoRow : OpenClaim := { program := "ytflfachkoffiiaa", sum := "cfe110d42467e66a9e80f4f396d7fbaaf2be78620683900b1a68bd839c902535", func := "splicery/splicerylaw41.LicenceChecks", spec := "licenceChecks", inPlace := ["internal/bytealg.IndexByteString", "internal/bytealg.IndexString"], unfollowed := true, recurses := true, named := ["internal/bytealg.MaxLen"], apart := false, narrowed := true }
def LicenceChecksUptoSaid : Prop := licenceChecksUptoRow.holds Try.pinned (OpenSpec.upto licenceChecksSpec)

/-- 'splicerylaw41.LicenceGreatest', WHERE WHAT IT READS IS OF BULK AT MOST 1048576: true; the input reads as it did. -/
def licenceGreatestUptoRow : OpenClaim := { program := "ytflfachkoffiiaa", sum := "cfe110d42467e66a9e80f4f396d7fbaaf2be78620683900b1a68bd839c902535", func := "splicery/splicerylaw41.LicenceGreatest", spec := "licenceGreatest", inPlace := ["internal/bytealg.IndexByteString", "internal/bytealg.IndexString"], unfollowed := true, recurses := true, named := ["internal/bytealg.MaxLen"], apart := false, narrowed := true }
def LicenceGreatestUptoSaid : Prop := licenceGreatestUptoRow.holds Try.pinned (OpenSpec.upto licenceGreatestSpec)

/-- 'splicerylaw41.LicenceSmallest', WHERE WHAT IT READS IS OF BULK AT MOST 1048576: true; the input reads as it did. -/
def licenceSmallestUptoRow : OpenClaim := { program := "ytflfachkoffiiaa", sum := "cfe110d42467e66a9e80f4f396d7fbaaf2be78620683900b1a68bd839c902535", func := "splicery/splicerylaw41.LicenceSmallest", spec := "licenceSmallest", inPlace := ["internal/bytealg.IndexByteString", "internal/bytealg.IndexString"], unfollowed := true, recurses := true, named := ["internal/bytealg.MaxLen"], apart := false, narrowed := true }
def LicenceSmallestUptoSaid : Prop := licenceSmallestUptoRow.holds Try.pinned (OpenSpec.upto licenceSmallestSpec)

/-- 'splicerylaw41.LicenceMore', WHERE WHAT IT READS IS OF BULK AT MOST 1048576: true; the input reads as it did. -/
def licenceMoreUptoRow : OpenClaim := { program := "ytflfachkoffiiaa", sum := "cfe110d42467e66a9e80f4f396d7fbaaf2be78620683900b1a68bd839c902535", func := "splicery/splicerylaw41.LicenceMore", spec := "licenceMore", inPlace := ["internal/bytealg.IndexByteString", "internal/bytealg.IndexString"], unfollowed := true, recurses := true, named := ["internal/bytealg.MaxLen"], apart := false, narrowed := true }
def LicenceMoreUptoSaid : Prop := licenceMoreUptoRow.holds Try.pinned (OpenSpec.upto licenceMoreSpec)

end Rows
end Go.Proofs.Ytflfachkoffiiaa
