/-
  No cell of these rows narrows 'for every input' (looked for: loops, veiled, ifaces, maps, wideKeys, modest, calm, conditions, laid).
  DERIVED. THE GIVEN ROWS OF THIS SEAT. 8 by the template 'for every input the law returns true; each argument reads behind the call as it read before'; 0 by the template 'total and deterministic' (their statements: YtpgndnoplmihiaaTotals.lean).
  GIVEN WITH THE SEED: the statements are not yours to turn. If you find one false, say at which input.
  Laid BY PROGRAM, IN A SANDBOX (cutbox-rows.mjs): the forced cells as the released guide's own fill.sh prints them over the translation 07890f00512eb8da… (all of the seat's roots in one cut). By AI agents, Wed Nov 11 2026. No macro, syntax, notation, axiom, sorry.
-/
import Derived.Test.YtpgndnoplmihiaaChecked
import GoSem.Claim
import GoSem.ClaimJoined
import GoSem.ClaimMapViews
import Derived.JoinedTies
import Derived.KernelRfl
namespace Go.Proofs.Ytpgndnoplmihiaa
/- THE CELL 'sum', in the pinned program and in every row, IS THE sha256 OF THE DUMP (.gsa) THAT YtpgndnoplmihiaaProg.lean LOADS. Nothing in Lean hashes anything: it is a label: what it is worth is what the hold of that sum in a sandbox is worth. -/
noncomputable def Try.pinned : Pinned := { name := "ytpgndnoplmihiaa", sum := "07890f00512eb8dadc24b87234d162ec2bd94ebece5d75b42bac132acdd96f2c", checked := Try.checked }
namespace Rows
def none {H : Type} : Left H := { results := [], args := [] }

/-- 'tidemarklaw8.IndexStamps': WHATEVER THE INPUT: true; the input reads as it did. -/
def indexStampsSpec : ChangeSpec := { name := "indexStamps", fn := fun _ => fun
  | [d] => { results := [.lit (.bool true)], args := [d] }
  | _ => none }
def indexStampsRow : OpenClaim := { program := "ytpgndnoplmihiaa", sum := "07890f00512eb8dadc24b87234d162ec2bd94ebece5d75b42bac132acdd96f2c", func := "tidemark/tidemarklaw8.IndexStamps", spec := "indexStamps", inPlace := ["slices.overlaps[tidemark/index.entry[tidemark/api.Stamp]]"], unfollowed := true, recurses := true, apart := false }
def IndexStampsSaid : Prop := indexStampsRow.holds Try.pinned (OpenSpec.ofChange indexStampsSpec)

/-- ITS FALSE NEIGHBOUR: 'it returns false'. Refute it at one input. -/
def indexStampsWrong : ChangeSpec := { name := "indexStamps", fn := fun _ => fun
  | [d] => { results := [.lit (.bool false)], args := [d] }
  | _ => none }
def IndexStampsWrongFalsely : Prop := indexStampsRow.holds Try.pinned (OpenSpec.ofChange indexStampsWrong)

/-- 'tidemarklaw8.IndexRanges': WHATEVER THE INPUT: true; the input reads as it did. -/
def indexRangesSpec : ChangeSpec := { name := "indexRanges", fn := fun _ => fun
  | [d] => { results := [.lit (.bool true)], args := [d] }
  | _ => none }
def indexRangesRow : OpenClaim := { program := "ytpgndnoplmihiaa", sum := "07890f00512eb8dadc24b87234d162ec2bd94ebece5d75b42bac132acdd96f2c", func := "tidemark/tidemarklaw8.IndexRanges", spec := "indexRanges", inPlace := ["slices.overlaps[tidemark/index.entry[int]]"], unfollowed := true, recurses := true, apart := false }
def IndexRangesSaid : Prop := indexRangesRow.holds Try.pinned (OpenSpec.ofChange indexRangesSpec)

/-- ITS FALSE NEIGHBOUR: 'it returns false'. Refute it at one input. -/
def indexRangesWrong : ChangeSpec := { name := "indexRanges", fn := fun _ => fun
  | [d] => { results := [.lit (.bool false)], args := [d] }
  | _ => none }
def IndexRangesWrongFalsely : Prop := indexRangesRow.holds Try.pinned (OpenSpec.ofChange indexRangesWrong)

/-- 'tidemarklaw8.IndexBacks': WHATEVER THE INPUT: true; the input reads as it did. -/
def indexBacksSpec : ChangeSpec := { name := "indexBacks", fn := fun _ => fun
  | [d] => { results := [.lit (.bool true)], args := [d] }
  | _ => none }
def indexBacksRow : OpenClaim := { program := "ytpgndnoplmihiaa", sum := "07890f00512eb8dadc24b87234d162ec2bd94ebece5d75b42bac132acdd96f2c", func := "tidemark/tidemarklaw8.IndexBacks", spec := "indexBacks", inPlace := ["slices.overlaps[tidemark/index.entry[int]]"], unfollowed := true, recurses := true, apart := false }
def IndexBacksSaid : Prop := indexBacksRow.holds Try.pinned (OpenSpec.ofChange indexBacksSpec)

/-- ITS FALSE NEIGHBOUR: 'it returns false'. Refute it at one input. -/
def indexBacksWrong : ChangeSpec := { name := "indexBacks", fn := fun _ => fun
  | [d] => { results := [.lit (.bool false)], args := [d] }
  | _ => none }
def IndexBacksWrongFalsely : Prop := indexBacksRow.holds Try.pinned (OpenSpec.ofChange indexBacksWrong)

/-- 'tidemarklaw8.IndexOrder': WHATEVER THE INPUT: true; the input reads as it did. -/
def indexOrderSpec : ChangeSpec := { name := "indexOrder", fn := fun _ => fun
  | [d] => { results := [.lit (.bool true)], args := [d] }
  | _ => none }
def indexOrderRow : OpenClaim := { program := "ytpgndnoplmihiaa", sum := "07890f00512eb8dadc24b87234d162ec2bd94ebece5d75b42bac132acdd96f2c", func := "tidemark/tidemarklaw8.IndexOrder", spec := "indexOrder", inPlace := ["slices.overlaps[tidemark/index.entry[int]]"], unfollowed := true, recurses := true, apart := false }
def IndexOrderSaid : Prop := indexOrderRow.holds Try.pinned (OpenSpec.ofChange indexOrderSpec)

/-- ITS FALSE NEIGHBOUR: 'it returns false'. Refute it at one input. -/
def indexOrderWrong : ChangeSpec := { name := "indexOrder", fn := fun _ => fun
  | [d] => { results := [.lit (.bool false)], args := [d] }
  | _ => none }
def IndexOrderWrongFalsely : Prop := indexOrderRow.holds Try.pinned (OpenSpec.ofChange indexOrderWrong)

/-- 'tidemarklaw8.IndexFolds': WHATEVER THE INPUT: true; the input reads as it did. -/
def indexFoldsSpec : ChangeSpec := { name := "indexFolds", fn := fun _ => fun
  | [d] => { results := [.lit (.bool true)], args := [d] }
  | _ => none }
def indexFoldsRow : OpenClaim := { program := "ytpgndnoplmihiaa", sum := "07890f00512eb8dadc24b87234d162ec2bd94ebece5d75b42bac132acdd96f2c", func := "tidemark/tidemarklaw8.IndexFolds", spec := "indexFolds", inPlace := ["slices.overlaps[tidemark/index.entry[int]]"], unfollowed := true, recurses := true, apart := false }
def IndexFoldsSaid : Prop := indexFoldsRow.holds Try.pinned (OpenSpec.ofChange indexFoldsSpec)

/-- ITS FALSE NEIGHBOUR: 'it returns false'. Refute it at one input. -/
def indexFoldsWrong : ChangeSpec := { name := "indexFolds", fn := fun _ => fun
  | [d] => { results := [.lit (.bool false)], args := [d] }
  | _ => none }
def IndexFoldsWrongFalsely : Prop := indexFoldsRow.holds Try.pinned (OpenSpec.ofChange indexFoldsWrong)

/-- 'tidemarklaw8.IndexFrozen': WHATEVER THE INPUT: true; the input reads as it did. -/
def indexFrozenSpec : ChangeSpec := { name := "indexFrozen", fn := fun _ => fun
  | [d] => { results := [.lit (.bool true)], args := [d] }
  | _ => none }
def indexFrozenRow : OpenClaim := { program := "ytpgndnoplmihiaa", sum := "07890f00512eb8dadc24b87234d162ec2bd94ebece5d75b42bac132acdd96f2c", func := "tidemark/tidemarklaw8.IndexFrozen", spec := "indexFrozen", inPlace := ["slices.overlaps[tidemark/index.entry[int]]"], unfollowed := true, recurses := true, apart := false }
def IndexFrozenSaid : Prop := indexFrozenRow.holds Try.pinned (OpenSpec.ofChange indexFrozenSpec)

/-- ITS FALSE NEIGHBOUR: 'it returns false'. Refute it at one input. -/
def indexFrozenWrong : ChangeSpec := { name := "indexFrozen", fn := fun _ => fun
  | [d] => { results := [.lit (.bool false)], args := [d] }
  | _ => none }
def IndexFrozenWrongFalsely : Prop := indexFrozenRow.holds Try.pinned (OpenSpec.ofChange indexFrozenWrong)

/-- 'tidemarklaw8.IndexPlays': WHATEVER THE INPUT: true; the input reads as it did. -/
def indexPlaysSpec : ChangeSpec := { name := "indexPlays", fn := fun _ => fun
  | [d] => { results := [.lit (.bool true)], args := [d] }
  | _ => none }
def indexPlaysRow : OpenClaim := { program := "ytpgndnoplmihiaa", sum := "07890f00512eb8dadc24b87234d162ec2bd94ebece5d75b42bac132acdd96f2c", func := "tidemark/tidemarklaw8.IndexPlays", spec := "indexPlays", inPlace := ["slices.overlaps[tidemark/index.entry[int]]"], unfollowed := true, recurses := true, apart := false }
def IndexPlaysSaid : Prop := indexPlaysRow.holds Try.pinned (OpenSpec.ofChange indexPlaysSpec)

/-- ITS FALSE NEIGHBOUR: 'it returns false'. Refute it at one input. -/
def indexPlaysWrong : ChangeSpec := { name := "indexPlays", fn := fun _ => fun
  | [d] => { results := [.lit (.bool false)], args := [d] }
  | _ => none }
def IndexPlaysWrongFalsely : Prop := indexPlaysRow.holds Try.pinned (OpenSpec.ofChange indexPlaysWrong)

/-- 'tidemarklaw8.IndexMirror': WHATEVER THE INPUT: true; the input reads as it did. -/
def indexMirrorSpec : ChangeSpec := { name := "indexMirror", fn := fun _ => fun
  | [d] => { results := [.lit (.bool true)], args := [d] }
  | _ => none }
def indexMirrorRow : OpenClaim := { program := "ytpgndnoplmihiaa", sum := "07890f00512eb8dadc24b87234d162ec2bd94ebece5d75b42bac132acdd96f2c", func := "tidemark/tidemarklaw8.IndexMirror", spec := "indexMirror", inPlace := ["slices.overlaps[tidemark/index.entry[int]]"], unfollowed := true, recurses := true, apart := false }
def IndexMirrorSaid : Prop := indexMirrorRow.holds Try.pinned (OpenSpec.ofChange indexMirrorSpec)

/-- ITS FALSE NEIGHBOUR: 'it returns false'. Refute it at one input. -/
def indexMirrorWrong : ChangeSpec := { name := "indexMirror", fn := fun _ => fun
  | [d] => { results := [.lit (.bool false)], args := [d] }
  | _ => none }
def IndexMirrorWrongFalsely : Prop := indexMirrorRow.holds Try.pinned (OpenSpec.ofChange indexMirrorWrong)

/- THE SECOND FORM. 'bulk': how many values and letters a reading holds, each counted each time it is reached (what is shared counts as often as it is met; a slice's spare places count too). A statement '..UptoSaid' is the law's where the arguments, and the package variables that the reading takes, are together of bulk at most 1048576: NARROWER than '..Said'. Prove '..Said' where nothing that the law and all that it calls make is longer than what came in: it says more and counts as full. Else prove '..UptoSaid'. A law counts once. -/
mutual
def uptoBulk {H : Type} : DataW H → Nat
  | .lit (.string bytes) => bytes.length + 1
  | .lit _ => 1
  | .nil => 1
  | .ptr d => uptoBulk d + 1
  | .slice elems spare => uptoBulkAll elems + uptoBulkAll spare + 1
  | .agg parts => uptoBulkAll parts + 1
  | .iface _ d => uptoBulk d + 1
  | .map entries => uptoBulkEntries entries + 1
  | .held _ => 1
def uptoBulkAll {H : Type} : List (DataW H) → Nat
  | [] => 0
  | d :: r => uptoBulk d + uptoBulkAll r
def uptoBulkEntries {H : Type} : List (Lit × DataW H) → Nat
  | [] => 0
  | x :: r => uptoBulkEntry x + uptoBulkEntries r
def uptoBulkEntry {H : Type} : Lit × DataW H → Nat
  | (.string bytes, d) => bytes.length + uptoBulk d + 1
  | (_, d) => uptoBulk d + 1
 end
def uptoSmall : (H : Type) → List (DataW H) → Bool := fun _ ds => decide (uptoBulkAll ds ≤ 1048576)
def OpenSpec.upto (s : _root_.Go.ChangeSpec) : _root_.Go.OpenSpec := { _root_.Go.OpenSpec.ofChange s with cond := some uptoSmall }

/-- 'tidemarklaw8.IndexStamps', WHERE WHAT IT READS IS OF BULK AT MOST 1048576: true; the input reads as it did. -/
def indexStampsUptoRow : OpenClaim := { program := "ytpgndnoplmihiaa", sum := "07890f00512eb8dadc24b87234d162ec2bd94ebece5d75b42bac132acdd96f2c", func := "tidemark/tidemarklaw8.IndexStamps", spec := "indexStamps", inPlace := ["slices.overlaps[tidemark/index.entry[tidemark/api.Stamp]]"], unfollowed := true, recurses := true, apart := false, narrowed := true }
def IndexStampsUptoSaid : Prop := indexStampsUptoRow.holds Try.pinned (OpenSpec.upto indexStampsSpec)

/-- 'tidemarklaw8.IndexRanges', WHERE WHAT IT READS IS OF BULK AT MOST 1048576: true; the input reads as it did. -/
def indexRangesUptoRow : OpenClaim := { program := "ytpgndnoplmihiaa", sum := "07890f00512eb8dadc24b87234d162ec2bd94ebece5d75b42bac132acdd96f2c", func := "tidemark/tidemarklaw8.IndexRanges", spec := "indexRanges", inPlace := ["slices.overlaps[tidemark/index.entry[int]]"], unfollowed := true, recurses := true, apart := false, narrowed := true }
def IndexRangesUptoSaid : Prop := indexRangesUptoRow.holds Try.pinned (OpenSpec.upto indexRangesSpec)

/-- 'tidemarklaw8.IndexBacks', WHERE WHAT IT READS IS OF BULK AT MOST 1048576: true; the input reads as it did. -/
def indexBacksUptoRow : OpenClaim := { program := "ytpgndnoplmihiaa", sum := "07890f00512eb8dadc24b87234d162ec2bd94ebece5d75b42bac132acdd96f2c", func := "tidemark/tidemarklaw8.IndexBacks", spec := "indexBacks", inPlace := ["slices.overlaps[tidemark/index.entry[int]]"], unfollowed := true, recurses := true, apart := false, narrowed := true }
def IndexBacksUptoSaid : Prop := indexBacksUptoRow.holds Try.pinned (OpenSpec.upto indexBacksSpec)

/-- 'tidemarklaw8.IndexOrder', WHERE WHAT IT READS IS OF BULK AT MOST 1048576: true; the input reads as it did. -/
def indexOrderUptoRow : OpenClaim := { program := "ytpgndnoplmihiaa", sum := "07890f00512eb8dadc24b87234d162ec2bd94ebece5d75b42bac132acdd96f2c", func := "tidemark/tidemarklaw8.IndexOrder", spec := "indexOrder", inPlace := ["slices.overlaps[tidemark/index.entry[int]]"], unfollowed := true, recurses := true, apart := false, narrowed := true }
def IndexOrderUptoSaid : Prop := indexOrderUptoRow.holds Try.pinned (OpenSpec.upto indexOrderSpec)

/-- 'tidemarklaw8.IndexFolds', WHERE WHAT IT READS IS OF BULK AT MOST 1048576: true; the input reads as it did. -/
def indexFoldsUptoRow : OpenClaim := { program := "ytpgndnoplmihiaa", sum := "07890f00512eb8dadc24b87234d162ec2bd94ebece5d75b42bac132acdd96f2c", func := "tidemark/tidemarklaw8.IndexFolds", spec := "indexFolds", inPlace := ["slices.overlaps[tidemark/index.entry[int]]"], unfollowed := true, recurses := true, apart := false, narrowed := true }
def IndexFoldsUptoSaid : Prop := indexFoldsUptoRow.holds Try.pinned (OpenSpec.upto indexFoldsSpec)

/-- 'tidemarklaw8.IndexFrozen', WHERE WHAT IT READS IS OF BULK AT MOST 1048576: true; the input reads as it did. -/
def indexFrozenUptoRow : OpenClaim := { program := "ytpgndnoplmihiaa", sum := "07890f00512eb8dadc24b87234d162ec2bd94ebece5d75b42bac132acdd96f2c", func := "tidemark/tidemarklaw8.IndexFrozen", spec := "indexFrozen", inPlace := ["slices.overlaps[tidemark/index.entry[int]]"], unfollowed := true, recurses := true, apart := false, narrowed := true }
def IndexFrozenUptoSaid : Prop := indexFrozenUptoRow.holds Try.pinned (OpenSpec.upto indexFrozenSpec)

/-- 'tidemarklaw8.IndexPlays', WHERE WHAT IT READS IS OF BULK AT MOST 1048576: true; the input reads as it did. -/
def indexPlaysUptoRow : OpenClaim := { program := "ytpgndnoplmihiaa", sum := "07890f00512eb8dadc24b87234d162ec2bd94ebece5d75b42bac132acdd96f2c", func := "tidemark/tidemarklaw8.IndexPlays", spec := "indexPlays", inPlace := ["slices.overlaps[tidemark/index.entry[int]]"], unfollowed := true, recurses := true, apart := false, narrowed := true }
def IndexPlaysUptoSaid : Prop := indexPlaysUptoRow.holds Try.pinned (OpenSpec.upto indexPlaysSpec)

/-- 'tidemarklaw8.IndexMirror', WHERE WHAT IT READS IS OF BULK AT MOST 1048576: true; the input reads as it did. -/
def indexMirrorUptoRow : OpenClaim := { program := "ytpgndnoplmihiaa", sum := "07890f00512eb8dadc24b87234d162ec2bd94ebece5d75b42bac132acdd96f2c", func := "tidemark/tidemarklaw8.IndexMirror", spec := "indexMirror", inPlace := ["slices.overlaps[tidemark/index.entry[int]]"], unfollowed := true, recurses := true, apart := false, narrowed := true }
def IndexMirrorUptoSaid : Prop := indexMirrorUptoRow.holds Try.pinned (OpenSpec.upto indexMirrorSpec)

end Rows
end Go.Proofs.Ytpgndnoplmihiaa
