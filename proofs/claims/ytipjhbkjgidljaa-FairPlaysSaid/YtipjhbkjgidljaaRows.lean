/-
  No cell of these rows narrows 'for every input' (looked for: loops, veiled, ifaces, maps, wideKeys, modest, calm, conditions, laid).
  DERIVED. THE GIVEN ROWS OF THIS SEAT. 5 by the template 'for every input the law returns true; each argument reads behind the call as it read before'; 0 by the template 'total and deterministic' (their statements: YtipjhbkjgidljaaTotals.lean).
  GIVEN WITH THE SEED: the statements are not yours to turn. If you find one false, say at which input.
  Laid BY PROGRAM, IN A SANDBOX (cutbox-rows.mjs): the forced cells as the released guide's own fill.sh prints them over the translation c0c513fea1852da6… (all of the seat's roots in one cut). By AI agents, Wed Nov 11 2026. No macro, syntax, notation, axiom, sorry.
-/
import Derived.Test.YtipjhbkjgidljaaChecked
import GoSem.Claim
import GoSem.ClaimJoined
import GoSem.ClaimMapViews
import Derived.JoinedTies
import Derived.KernelRfl
namespace Go.Proofs.Ytipjhbkjgidljaa
/- THE CELL 'sum', in the pinned program and in every row, IS THE sha256 OF THE DUMP (.gsa) THAT YtipjhbkjgidljaaProg.lean LOADS. Nothing in Lean hashes anything: it is a label: what it is worth is what the hold of that sum in a sandbox is worth. -/
noncomputable def Try.pinned : Pinned := { name := "ytipjhbkjgidljaa", sum := "c0c513fea1852da6c2193a53d58dff6a82919b2891681ce5c82bf9360d2dac77", checked := Try.checked }
namespace Rows
def none {H : Type} : Left H := { results := [], args := [] }

/-- 'patchbaylaw3.BucketSays': WHATEVER THE INPUT: true; the input reads as it did. -/
def bucketSaysSpec : ChangeSpec := { name := "bucketSays", fn := fun _ => fun
  | [d1, d2, d3] => { results := [.lit (.bool true)], args := [d1, d2, d3] }
  | _ => none }
def bucketSaysRow : OpenClaim := { program := "ytipjhbkjgidljaa", sum := "c0c513fea1852da6c2193a53d58dff6a82919b2891681ce5c82bf9360d2dac77", func := "patchbay/patchbaylaw3.BucketSays", spec := "bucketSays", apart := false }
def BucketSaysSaid : Prop := bucketSaysRow.holds Try.pinned (OpenSpec.ofChange bucketSaysSpec)

/-- ITS FALSE NEIGHBOUR: 'it returns false'. Refute it at one input. -/
def bucketSaysWrong : ChangeSpec := { name := "bucketSays", fn := fun _ => fun
  | [d1, d2, d3] => { results := [.lit (.bool false)], args := [d1, d2, d3] }
  | _ => none }
def BucketSaysWrongFalsely : Prop := bucketSaysRow.holds Try.pinned (OpenSpec.ofChange bucketSaysWrong)

/-- 'patchbaylaw3.RuleSays': WHATEVER THE INPUT: true; the input reads as it did. -/
def ruleSaysSpec : ChangeSpec := { name := "ruleSays", fn := fun _ => fun
  | [d1, d2] => { results := [.lit (.bool true)], args := [d1, d2] }
  | _ => none }
def ruleSaysRow : OpenClaim := { program := "ytipjhbkjgidljaa", sum := "c0c513fea1852da6c2193a53d58dff6a82919b2891681ce5c82bf9360d2dac77", func := "patchbay/patchbaylaw3.RuleSays", spec := "ruleSays", apart := false }
def RuleSaysSaid : Prop := ruleSaysRow.holds Try.pinned (OpenSpec.ofChange ruleSaysSpec)

/-- ITS FALSE NEIGHBOUR: 'it returns false'. Refute it at one input. -/
def ruleSaysWrong : ChangeSpec := { name := "ruleSays", fn := fun _ => fun
  | [d1, d2] => { results := [.lit (.bool false)], args := [d1, d2] }
  | _ => none }
def RuleSaysWrongFalsely : Prop := ruleSaysRow.holds Try.pinned (OpenSpec.ofChange ruleSaysWrong)

/-- 'patchbaylaw3.BucketShapes': WHATEVER THE INPUT: true; the input reads as it did. -/
def bucketShapesSpec : ChangeSpec := { name := "bucketShapes", fn := fun _ => fun
  | [d1, d2, d3] => { results := [.lit (.bool true)], args := [d1, d2, d3] }
  | _ => none }
def bucketShapesRow : OpenClaim := { program := "ytipjhbkjgidljaa", sum := "c0c513fea1852da6c2193a53d58dff6a82919b2891681ce5c82bf9360d2dac77", func := "patchbay/patchbaylaw3.BucketShapes", spec := "bucketShapes", apart := false }
def BucketShapesSaid : Prop := bucketShapesRow.holds Try.pinned (OpenSpec.ofChange bucketShapesSpec)

/-- ITS FALSE NEIGHBOUR: 'it returns false'. Refute it at one input. -/
def bucketShapesWrong : ChangeSpec := { name := "bucketShapes", fn := fun _ => fun
  | [d1, d2, d3] => { results := [.lit (.bool false)], args := [d1, d2, d3] }
  | _ => none }
def BucketShapesWrongFalsely : Prop := bucketShapesRow.holds Try.pinned (OpenSpec.ofChange bucketShapesWrong)

/-- 'patchbaylaw3.FairPlays': WHATEVER THE INPUT: true; the input reads as it did. -/
def fairPlaysSpec : ChangeSpec := { name := "fairPlays", fn := fun _ => fun
  | [d1, d2, d3, d4] => { results := [.lit (.bool true)], args := [d1, d2, d3, d4] }
  | _ => none }
def fairPlaysRow : OpenClaim := { program := "ytipjhbkjgidljaa", sum := "c0c513fea1852da6c2193a53d58dff6a82919b2891681ce5c82bf9360d2dac77", func := "patchbay/patchbaylaw3.FairPlays", spec := "fairPlays", unfollowed := true, recurses := true, apart := false }
def FairPlaysSaid : Prop := fairPlaysRow.holds Try.pinned (OpenSpec.ofChange fairPlaysSpec)

/-- ITS FALSE NEIGHBOUR: 'it returns false'. Refute it at one input. -/
def fairPlaysWrong : ChangeSpec := { name := "fairPlays", fn := fun _ => fun
  | [d1, d2, d3, d4] => { results := [.lit (.bool false)], args := [d1, d2, d3, d4] }
  | _ => none }
def FairPlaysWrongFalsely : Prop := fairPlaysRow.holds Try.pinned (OpenSpec.ofChange fairPlaysWrong)

/-- 'patchbaytop.TopFairness': WHATEVER THE INPUT: true; the input reads as it did. -/
def topFairnessSpec : ChangeSpec := { name := "topFairness", fn := fun _ => fun
  | [d1, d2, d3, d4, d5] => { results := [.lit (.bool true)], args := [d1, d2, d3, d4, d5] }
  | _ => none }
def topFairnessRow : OpenClaim := { program := "ytipjhbkjgidljaa", sum := "c0c513fea1852da6c2193a53d58dff6a82919b2891681ce5c82bf9360d2dac77", func := "patchbay/patchbaytop.TopFairness", spec := "topFairness", unfollowed := true, recurses := true, apart := false }
def TopFairnessSaid : Prop := topFairnessRow.holds Try.pinned (OpenSpec.ofChange topFairnessSpec)

/-- ITS FALSE NEIGHBOUR: 'it returns false'. Refute it at one input. -/
def topFairnessWrong : ChangeSpec := { name := "topFairness", fn := fun _ => fun
  | [d1, d2, d3, d4, d5] => { results := [.lit (.bool false)], args := [d1, d2, d3, d4, d5] }
  | _ => none }
def TopFairnessWrongFalsely : Prop := topFairnessRow.holds Try.pinned (OpenSpec.ofChange topFairnessWrong)

/- THE SECOND FORM. 'bulk': how many values and letters a reading holds, each counted each time it is reached (what is shared counts as often as it is met; a slice's spare places count too). A statement '..UptoSaid' is the law's where the arguments, and the package variables that the reading takes, are together of bulk at most 1048576: NARROWER than '..Said'. Prove '..Said' where nothing that the law and all that it calls make is longer than what came in: it says more and counts as full. Else prove '..UptoSaid'. A law counts once. -/
mutual
def uptoBulk {H : Type} : DataW H → Nat
  | .lit (.string bytes) => bytes.length + 1
  | .lit _ => 1
  | .nil => 1
  | .ptr d => uptoBulk d + 1
  | .slice elems spare => uptoBulkAll elems + uptoBulkAll spare + 1
  | .agg parts => uptoBulkAll parts + 1
  | .iface _ d => uptoBulk d + 1
  | .map entries => uptoBulkEntries entries + 1
  | .held _ => 1
def uptoBulkAll {H : Type} : List (DataW H) → Nat
  | [] => 0
  | d :: r => uptoBulk d + uptoBulkAll r
def uptoBulkEntries {H : Type} : List (Lit × DataW H) → Nat
  | [] => 0
  | x :: r => uptoBulkEntry x + uptoBulkEntries r
def uptoBulkEntry {H : Type} : Lit × DataW H → Nat
  | (.string bytes, d) => bytes.length + uptoBulk d + 1
  | (_, d) => uptoBulk d + 1
 end
def uptoSmall : (H : Type) → List (DataW H) → Bool := fun _ ds => decide (uptoBulkAll ds ≤ 1048576)
def OpenSpec.upto (s : _root_.Go.ChangeSpec) : _root_.Go.OpenSpec := { _root_.Go.OpenSpec.ofChange s with cond := some uptoSmall }

/-- 'patchbaylaw3.BucketSays', WHERE WHAT IT READS IS OF BULK AT MOST 1048576: true; the input reads as it did. -/
def bucketSaysUptoRow : OpenClaim := { program := "ytipjhbkjgidljaa", sum := "c0c513fea1852da6c2193a53d58dff6a82919b2891681ce5c82bf9360d2dac77", func := "patchbay/patchbaylaw3.BucketSays", spec := "bucketSays", apart := false, narrowed := true }
def BucketSaysUptoSaid : Prop := bucketSaysUptoRow.holds Try.pinned (OpenSpec.upto bucketSaysSpec)

/-- 'patchbaylaw3.RuleSays', WHERE WHAT IT READS IS OF BULK AT MOST 1048576: true; the input reads as it did. -/
def ruleSaysUptoRow : OpenClaim := { program := "ytipjhbkjgidljaa", sum := "c0c513fea1852da6c2193a53d58dff6a82919b2891681ce5c82bf9360d2dac77", func := "patchbay/patchbaylaw3.RuleSays", spec := "ruleSays", apart := false, narrowed := true }
def RuleSaysUptoSaid : Prop := ruleSaysUptoRow.holds Try.pinned (OpenSpec.upto ruleSaysSpec)

/-- 'patchbaylaw3.BucketShapes', WHERE WHAT IT READS IS OF BULK AT MOST 1048576: true; the input reads as it did. -/
def bucketShapesUptoRow : OpenClaim := { program := "ytipjhbkjgidljaa", sum := "c0c513fea1852da6c2193a53d58dff6a82919b2891681ce5c82bf9360d2dac77", func := "patchbay/patchbaylaw3.BucketShapes", spec := "bucketShapes", apart := false, narrowed := true }
def BucketShapesUptoSaid : Prop := bucketShapesUptoRow.holds Try.pinned (OpenSpec.upto bucketShapesSpec)

/-- 'patchbaylaw3.FairPlays', WHERE WHAT IT READS IS OF BULK AT MOST 1048576: true; the input reads as it did. -/
def fairPlaysUptoRow : OpenClaim := { program := "ytipjhbkjgidljaa", sum := "c0c513fea1852da6c2193a53d58dff6a82919b2891681ce5c82bf9360d2dac77", func := "patchbay/patchbaylaw3.FairPlays", spec := "fairPlays", unfollowed := true, recurses := true, apart := false, narrowed := true }
def FairPlaysUptoSaid : Prop := fairPlaysUptoRow.holds Try.pinned (OpenSpec.upto fairPlaysSpec)

/-- 'patchbaytop.TopFairness', WHERE WHAT IT READS IS OF BULK AT MOST 1048576: true; the input reads as it did. -/
def topFairnessUptoRow : OpenClaim := { program := "ytipjhbkjgidljaa", sum := "c0c513fea1852da6c2193a53d58dff6a82919b2891681ce5c82bf9360d2dac77", func := "patchbay/patchbaytop.TopFairness", spec := "topFairness", unfollowed := true, recurses := true, apart := false, narrowed := true }
def TopFairnessUptoSaid : Prop := topFairnessUptoRow.holds Try.pinned (OpenSpec.upto topFairnessSpec)

end Rows
end Go.Proofs.Ytipjhbkjgidljaa
