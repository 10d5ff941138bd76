/-
  No cell of these rows narrows 'for every input' (looked for: loops, veiled, ifaces, maps, wideKeys, modest, calm, conditions, laid).
  DERIVED. THE GIVEN ROWS OF THIS SEAT. 12 by the template 'for every input the law returns true; each argument reads behind the call as it read before'; 0 by the template 'total and deterministic' (their statements: YtfjjjnpokejneaaTotals.lean).
  GIVEN WITH THE SEED: the statements are not yours to turn. If you find one false, say at which input.
  Laid BY PROGRAM, IN A SANDBOX (cutbox-rows.mjs): the forced cells as the released guide's own fill.sh prints them over the translation 4666195886787a8c… (all of the seat's roots in one cut). By AI agents, Wed Nov 11 2026. No macro, syntax, notation, axiom, sorry.
-/
import Derived.Test.YtfjjjnpokejneaaChecked
import GoSem.Claim
import GoSem.ClaimJoined
import GoSem.ClaimMapViews
import Derived.JoinedTies
import Derived.KernelRfl
namespace Go.Proofs.Ytfjjjnpokejneaa
/- THE CELL 'sum', in the pinned program and in every row, IS THE sha256 OF THE DUMP (.gsa) THAT YtfjjjnpokejneaaProg.lean LOADS. Nothing in Lean hashes anything: it is a label: what it is worth is what the hold of that sum in a sandbox is worth. -/
noncomputable def Try.pinned : Pinned := { name := "ytfjjjnpokejneaa", sum := "4666195886787a8c95bb495c53f8ec9002ee0bcbe232f9aee99b9b4c04c0a28e", checked := Try.checked }
namespace Rows
def none {H : Type} : Left H := { results := [], args := [] }

/-- 'laws.FnFrameTextPart': WHATEVER THE INPUT: true; the input reads as it did. -/
def fnFrameTextPartSpec : ChangeSpec := { name := "fnFrameTextPart", fn := fun _ => fun
  | [d1, d2] => { results := [.lit (.bool true)], args := [d1, d2] }
  | _ => none }
def fnFrameTextPartRow : OpenClaim := { program := "ytfjjjnpokejneaa", sum := "4666195886787a8c95bb495c53f8ec9002ee0bcbe232f9aee99b9b4c04c0a28e", func := "loop.example/compressionlab/laws.FnFrameTextPart", spec := "fnFrameTextPart", unfollowed := true, recurses := true, apart := false }
def FnFrameTextPartSaid : Prop := fnFrameTextPartRow.holds Try.pinned (OpenSpec.ofChange fnFrameTextPartSpec)

/-- ITS FALSE NEIGHBOUR: 'it returns false'. Refute it at one input. -/
def fnFrameTextPartWrong : ChangeSpec := { name := "fnFrameTextPart", fn := fun _ => fun
  | [d1, d2] => { results := [.lit (.bool false)], args := [d1, d2] }
  | _ => none }
def FnFrameTextPartWrongFalsely : Prop := fnFrameTextPartRow.holds Try.pinned (OpenSpec.ofChange fnFrameTextPartWrong)

/-- 'laws.FnExactBlockAs': WHATEVER THE INPUT: true; the input reads as it did. -/
def fnExactBlockAsSpec : ChangeSpec := { name := "fnExactBlockAs", fn := fun _ => fun
  | [d1, d2] => { results := [.lit (.bool true)], args := [d1, d2] }
  | _ => none }
def fnExactBlockAsRow : OpenClaim := { program := "ytfjjjnpokejneaa", sum := "4666195886787a8c95bb495c53f8ec9002ee0bcbe232f9aee99b9b4c04c0a28e", func := "loop.example/compressionlab/laws.FnExactBlockAs", spec := "fnExactBlockAs", unfollowed := true, recurses := true, apart := false }
def FnExactBlockAsSaid : Prop := fnExactBlockAsRow.holds Try.pinned (OpenSpec.ofChange fnExactBlockAsSpec)

/-- ITS FALSE NEIGHBOUR: 'it returns false'. Refute it at one input. -/
def fnExactBlockAsWrong : ChangeSpec := { name := "fnExactBlockAs", fn := fun _ => fun
  | [d1, d2] => { results := [.lit (.bool false)], args := [d1, d2] }
  | _ => none }
def FnExactBlockAsWrongFalsely : Prop := fnExactBlockAsRow.holds Try.pinned (OpenSpec.ofChange fnExactBlockAsWrong)

/-- 'laws.FnExactBlockPack': WHATEVER THE INPUT: true; the input reads as it did. -/
def fnExactBlockPackSpec : ChangeSpec := { name := "fnExactBlockPack", fn := fun _ => fun
  | [d] => { results := [.lit (.bool true)], args := [d] }
  | _ => none }
def fnExactBlockPackRow : OpenClaim := { program := "ytfjjjnpokejneaa", sum := "4666195886787a8c95bb495c53f8ec9002ee0bcbe232f9aee99b9b4c04c0a28e", func := "loop.example/compressionlab/laws.FnExactBlockPack", spec := "fnExactBlockPack", unfollowed := true, recurses := true, apart := false }
def FnExactBlockPackSaid : Prop := fnExactBlockPackRow.holds Try.pinned (OpenSpec.ofChange fnExactBlockPackSpec)

/-- ITS FALSE NEIGHBOUR: 'it returns false'. Refute it at one input. -/
def fnExactBlockPackWrong : ChangeSpec := { name := "fnExactBlockPack", fn := fun _ => fun
  | [d] => { results := [.lit (.bool false)], args := [d] }
  | _ => none }
def FnExactBlockPackWrongFalsely : Prop := fnExactBlockPackRow.holds Try.pinned (OpenSpec.ofChange fnExactBlockPackWrong)

/-- 'laws.FnBlockBound': WHATEVER THE INPUT: true; the input reads as it did. -/
def fnBlockBoundSpec : ChangeSpec := { name := "fnBlockBound", fn := fun _ => fun
  | [d] => { results := [.lit (.bool true)], args := [d] }
  | _ => none }
def fnBlockBoundRow : OpenClaim := { program := "ytfjjjnpokejneaa", sum := "4666195886787a8c95bb495c53f8ec9002ee0bcbe232f9aee99b9b4c04c0a28e", func := "loop.example/compressionlab/laws.FnBlockBound", spec := "fnBlockBound", unfollowed := true, recurses := true, apart := false }
def FnBlockBoundSaid : Prop := fnBlockBoundRow.holds Try.pinned (OpenSpec.ofChange fnBlockBoundSpec)

/-- ITS FALSE NEIGHBOUR: 'it returns false'. Refute it at one input. -/
def fnBlockBoundWrong : ChangeSpec := { name := "fnBlockBound", fn := fun _ => fun
  | [d] => { results := [.lit (.bool false)], args := [d] }
  | _ => none }
def FnBlockBoundWrongFalsely : Prop := fnBlockBoundRow.holds Try.pinned (OpenSpec.ofChange fnBlockBoundWrong)

/-- 'laws.FnBlockEmpty': WHATEVER THE INPUT: true; the input reads as it did. -/
def fnBlockEmptySpec : ChangeSpec := { name := "fnBlockEmpty", fn := fun _ => fun
  | [d] => { results := [.lit (.bool true)], args := [d] }
  | _ => none }
def fnBlockEmptyRow : OpenClaim := { program := "ytfjjjnpokejneaa", sum := "4666195886787a8c95bb495c53f8ec9002ee0bcbe232f9aee99b9b4c04c0a28e", func := "loop.example/compressionlab/laws.FnBlockEmpty", spec := "fnBlockEmpty", unfollowed := true, recurses := true, apart := false }
def FnBlockEmptySaid : Prop := fnBlockEmptyRow.holds Try.pinned (OpenSpec.ofChange fnBlockEmptySpec)

/-- ITS FALSE NEIGHBOUR: 'it returns false'. Refute it at one input. -/
def fnBlockEmptyWrong : ChangeSpec := { name := "fnBlockEmpty", fn := fun _ => fun
  | [d] => { results := [.lit (.bool false)], args := [d] }
  | _ => none }
def FnBlockEmptyWrongFalsely : Prop := fnBlockEmptyRow.holds Try.pinned (OpenSpec.ofChange fnBlockEmptyWrong)

/-- 'laws.FnExactFramePack': WHATEVER THE INPUT: true; the input reads as it did. -/
def fnExactFramePackSpec : ChangeSpec := { name := "fnExactFramePack", fn := fun _ => fun
  | [d1, d2] => { results := [.lit (.bool true)], args := [d1, d2] }
  | _ => none }
def fnExactFramePackRow : OpenClaim := { program := "ytfjjjnpokejneaa", sum := "4666195886787a8c95bb495c53f8ec9002ee0bcbe232f9aee99b9b4c04c0a28e", func := "loop.example/compressionlab/laws.FnExactFramePack", spec := "fnExactFramePack", unfollowed := true, recurses := true, apart := false }
def FnExactFramePackSaid : Prop := fnExactFramePackRow.holds Try.pinned (OpenSpec.ofChange fnExactFramePackSpec)

/-- ITS FALSE NEIGHBOUR: 'it returns false'. Refute it at one input. -/
def fnExactFramePackWrong : ChangeSpec := { name := "fnExactFramePack", fn := fun _ => fun
  | [d1, d2] => { results := [.lit (.bool false)], args := [d1, d2] }
  | _ => none }
def FnExactFramePackWrongFalsely : Prop := fnExactFramePackRow.holds Try.pinned (OpenSpec.ofChange fnExactFramePackWrong)

/-- 'laws.FnBlockPack': WHATEVER THE INPUT: true; the input reads as it did. -/
def fnBlockPackSpec : ChangeSpec := { name := "fnBlockPack", fn := fun _ => fun
  | [d] => { results := [.lit (.bool true)], args := [d] }
  | _ => none }
def fnBlockPackRow : OpenClaim := { program := "ytfjjjnpokejneaa", sum := "4666195886787a8c95bb495c53f8ec9002ee0bcbe232f9aee99b9b4c04c0a28e", func := "loop.example/compressionlab/laws.FnBlockPack", spec := "fnBlockPack", unfollowed := true, recurses := true, apart := false }
def FnBlockPackSaid : Prop := fnBlockPackRow.holds Try.pinned (OpenSpec.ofChange fnBlockPackSpec)

/-- ITS FALSE NEIGHBOUR: 'it returns false'. Refute it at one input. -/
def fnBlockPackWrong : ChangeSpec := { name := "fnBlockPack", fn := fun _ => fun
  | [d] => { results := [.lit (.bool false)], args := [d] }
  | _ => none }
def FnBlockPackWrongFalsely : Prop := fnBlockPackRow.holds Try.pinned (OpenSpec.ofChange fnBlockPackWrong)

/-- 'laws.FnBlockAs': WHATEVER THE INPUT: true; the input reads as it did. -/
def fnBlockAsSpec : ChangeSpec := { name := "fnBlockAs", fn := fun _ => fun
  | [d] => { results := [.lit (.bool true)], args := [d] }
  | _ => none }
def fnBlockAsRow : OpenClaim := { program := "ytfjjjnpokejneaa", sum := "4666195886787a8c95bb495c53f8ec9002ee0bcbe232f9aee99b9b4c04c0a28e", func := "loop.example/compressionlab/laws.FnBlockAs", spec := "fnBlockAs", unfollowed := true, recurses := true, apart := false }
def FnBlockAsSaid : Prop := fnBlockAsRow.holds Try.pinned (OpenSpec.ofChange fnBlockAsSpec)

/-- ITS FALSE NEIGHBOUR: 'it returns false'. Refute it at one input. -/
def fnBlockAsWrong : ChangeSpec := { name := "fnBlockAs", fn := fun _ => fun
  | [d] => { results := [.lit (.bool false)], args := [d] }
  | _ => none }
def FnBlockAsWrongFalsely : Prop := fnBlockAsRow.holds Try.pinned (OpenSpec.ofChange fnBlockAsWrong)

/-- 'laws.FnExactBlockOpen': WHATEVER THE INPUT: true; the input reads as it did. -/
def fnExactBlockOpenSpec : ChangeSpec := { name := "fnExactBlockOpen", fn := fun _ => fun
  | [d] => { results := [.lit (.bool true)], args := [d] }
  | _ => none }
def fnExactBlockOpenRow : OpenClaim := { program := "ytfjjjnpokejneaa", sum := "4666195886787a8c95bb495c53f8ec9002ee0bcbe232f9aee99b9b4c04c0a28e", func := "loop.example/compressionlab/laws.FnExactBlockOpen", spec := "fnExactBlockOpen", unfollowed := true, recurses := true, apart := false }
def FnExactBlockOpenSaid : Prop := fnExactBlockOpenRow.holds Try.pinned (OpenSpec.ofChange fnExactBlockOpenSpec)

/-- ITS FALSE NEIGHBOUR: 'it returns false'. Refute it at one input. -/
def fnExactBlockOpenWrong : ChangeSpec := { name := "fnExactBlockOpen", fn := fun _ => fun
  | [d] => { results := [.lit (.bool false)], args := [d] }
  | _ => none }
def FnExactBlockOpenWrongFalsely : Prop := fnExactBlockOpenRow.holds Try.pinned (OpenSpec.ofChange fnExactBlockOpenWrong)

/-- 'laws.FnBlockOpen': WHATEVER THE INPUT: true; the input reads as it did. -/
def fnBlockOpenSpec : ChangeSpec := { name := "fnBlockOpen", fn := fun _ => fun
  | [d] => { results := [.lit (.bool true)], args := [d] }
  | _ => none }
def fnBlockOpenRow : OpenClaim := { program := "ytfjjjnpokejneaa", sum := "4666195886787a8c95bb495c53f8ec9002ee0bcbe232f9aee99b9b4c04c0a28e", func := "loop.example/compressionlab/laws.FnBlockOpen", spec := "fnBlockOpen", unfollowed := true, recurses := true, apart := false }
def FnBlockOpenSaid : Prop := fnBlockOpenRow.holds Try.pinned (OpenSpec.ofChange fnBlockOpenSpec)

/-- ITS FALSE NEIGHBOUR: 'it returns false'. Refute it at one input. -/
def fnBlockOpenWrong : ChangeSpec := { name := "fnBlockOpen", fn := fun _ => fun
  | [d] => { results := [.lit (.bool false)], args := [d] }
  | _ => none }
def FnBlockOpenWrongFalsely : Prop := fnBlockOpenRow.holds Try.pinned (OpenSpec.ofChange fnBlockOpenWrong)

/-- 'laws.FnBlockOpenMore': WHATEVER THE INPUT: true; the input reads as it did. -/
def fnBlockOpenMoreSpec : ChangeSpec := { name := "fnBlockOpenMore", fn := fun _ => fun
  | [d1, d2] => { results := [.lit (.bool true)], args := [d1, d2] }
  | _ => none }
def fnBlockOpenMoreRow : OpenClaim := { program := "ytfjjjnpokejneaa", sum := "4666195886787a8c95bb495c53f8ec9002ee0bcbe232f9aee99b9b4c04c0a28e", func := "loop.example/compressionlab/laws.FnBlockOpenMore", spec := "fnBlockOpenMore", unfollowed := true, recurses := true, apart := false }
def FnBlockOpenMoreSaid : Prop := fnBlockOpenMoreRow.holds Try.pinned (OpenSpec.ofChange fnBlockOpenMoreSpec)

/-- ITS FALSE NEIGHBOUR: 'it returns false'. Refute it at one input. -/
def fnBlockOpenMoreWrong : ChangeSpec := { name := "fnBlockOpenMore", fn := fun _ => fun
  | [d1, d2] => { results := [.lit (.bool false)], args := [d1, d2] }
  | _ => none }
def FnBlockOpenMoreWrongFalsely : Prop := fnBlockOpenMoreRow.holds Try.pinned (OpenSpec.ofChange fnBlockOpenMoreWrong)

/-- 'laws.FnExactBlockState': WHATEVER THE INPUT: true; the input reads as it did. -/
def fnExactBlockStateSpec : ChangeSpec := { name := "fnExactBlockState", fn := fun _ => fun
  | [d] => { results := [.lit (.bool true)], args := [d] }
  | _ => none }
def fnExactBlockStateRow : OpenClaim := { program := "ytfjjjnpokejneaa", sum := "4666195886787a8c95bb495c53f8ec9002ee0bcbe232f9aee99b9b4c04c0a28e", func := "loop.example/compressionlab/laws.FnExactBlockState", spec := "fnExactBlockState", unfollowed := true, recurses := true, apart := false }
def FnExactBlockStateSaid : Prop := fnExactBlockStateRow.holds Try.pinned (OpenSpec.ofChange fnExactBlockStateSpec)

/-- ITS FALSE NEIGHBOUR: 'it returns false'. Refute it at one input. -/
def fnExactBlockStateWrong : ChangeSpec := { name := "fnExactBlockState", fn := fun _ => fun
  | [d] => { results := [.lit (.bool false)], args := [d] }
  | _ => none }
def FnExactBlockStateWrongFalsely : Prop := fnExactBlockStateRow.holds Try.pinned (OpenSpec.ofChange fnExactBlockStateWrong)

/- THE SECOND FORM. 'bulk': how many values and letters a reading holds, each counted each time it is reached (what is shared counts as often as it is met; a slice's spare places count too). A statement '..UptoSaid' is the law's where the arguments, and the package variables that the reading takes, are together of bulk at most 1048576: NARROWER than '..Said'. Prove '..Said' where nothing that the law and all that it calls make is longer than what came in: it says more and counts as full. Else prove '..UptoSaid'. A law counts once. -/
mutual
def uptoBulk {H : Type} : DataW H → Nat
  | .lit (.string bytes) => bytes.length + 1
  | .lit _ => 1
  | .nil => 1
  | .ptr d => uptoBulk d + 1
  | .slice elems spare => uptoBulkAll elems + uptoBulkAll spare + 1
  | .agg parts => uptoBulkAll parts + 1
  | .iface _ d => uptoBulk d + 1
  | .map entries => uptoBulkEntries entries + 1
  | .held _ => 1
def uptoBulkAll {H : Type} : List (DataW H) → Nat
  | [] => 0
  | d :: r => uptoBulk d + uptoBulkAll r
def uptoBulkEntries {H : Type} : List (Lit × DataW H) → Nat
  | [] => 0
  | x :: r => uptoBulkEntry x + uptoBulkEntries r
def uptoBulkEntry {H : Type} : Lit × DataW H → Nat
  | (.string bytes, d) => bytes.length + uptoBulk d + 1
  | (_, d) => uptoBulk d + 1
 end
def uptoSmall : (H : Type) → List (DataW H) → Bool := fun _ ds => decide (uptoBulkAll ds ≤ 1048576)
def OpenSpec.upto (s : _root_.Go.ChangeSpec) : _root_.Go.OpenSpec := { _root_.Go.OpenSpec.ofChange s with cond := some uptoSmall }

/-- 'laws.FnFrameTextPart', WHERE WHAT IT READS IS OF BULK AT MOST 1048576: true; the input reads as it did. -/
def fnFrameTextPartUptoRow : OpenClaim := { program := "ytfjjjnpokejneaa", sum := "4666195886787a8c95bb495c53f8ec9002ee0bcbe232f9aee99b9b4c04c0a28e", func := "loop.example/compressionlab/laws.FnFrameTextPart", spec := "fnFrameTextPart", unfollowed := true, recurses := true, apart := false, narrowed := true }
def FnFrameTextPartUptoSaid : Prop := fnFrameTextPartUptoRow.holds Try.pinned (OpenSpec.upto fnFrameTextPartSpec)

/-- 'laws.FnExactBlockAs', WHERE WHAT IT READS IS OF BULK AT MOST 1048576: true; the input reads as it did. -/
def fnExactBlockAsUptoRow : OpenClaim := { program := "ytfjjjnpokejneaa", sum := "4666195886787a8c95bb495c53f8ec9002ee0bcbe232f9aee99b9b4c04c0a28e", func := "loop.example/compressionlab/laws.FnExactBlockAs", spec := "fnExactBlockAs", unfollowed := true, recurses := true, apart := false, narrowed := true }
def FnExactBlockAsUptoSaid : Prop := fnExactBlockAsUptoRow.holds Try.pinned (OpenSpec.upto fnExactBlockAsSpec)

/-- 'laws.FnExactBlockPack', WHERE WHAT IT READS IS OF BULK AT MOST 1048576: true; the input reads as it did. -/
def fnExactBlockPackUptoRow : OpenClaim := { program := "ytfjjjnpokejneaa", sum := "4666195886787a8c95bb495c53f8ec9002ee0bcbe232f9aee99b9b4c04c0a28e", func := "loop.example/compressionlab/laws.FnExactBlockPack", spec := "fnExactBlockPack", unfollowed := true, recurses := true, apart := false, narrowed := true }
def FnExactBlockPackUptoSaid : Prop := fnExactBlockPackUptoRow.holds Try.pinned (OpenSpec.upto fnExactBlockPackSpec)

/-- 'laws.FnBlockBound', WHERE WHAT IT READS IS OF BULK AT MOST 1048576: true; the input reads as it did. -/
def fnBlockBoundUptoRow : OpenClaim := { program := "ytfjjjnpokejneaa", sum := "4666195886787a8c95bb495c53f8ec9002ee0bcbe232f9aee99b9b4c04c0a28e", func := "loop.example/compressionlab/laws.FnBlockBound", spec := "fnBlockBound", unfollowed := true, recurses := true, apart := false, narrowed := true }
def FnBlockBoundUptoSaid : Prop := fnBlockBoundUptoRow.holds Try.pinned (OpenSpec.upto fnBlockBoundSpec)

/-- 'laws.FnBlockEmpty', WHERE WHAT IT READS IS OF BULK AT MOST 1048576: true; the input reads as it did. -/
def fnBlockEmptyUptoRow : OpenClaim := { program := "ytfjjjnpokejneaa", sum := "4666195886787a8c95bb495c53f8ec9002ee0bcbe232f9aee99b9b4c04c0a28e", func := "loop.example/compressionlab/laws.FnBlockEmpty", spec := "fnBlockEmpty", unfollowed := true, recurses := true, apart := false, narrowed := true }
def FnBlockEmptyUptoSaid : Prop := fnBlockEmptyUptoRow.holds Try.pinned (OpenSpec.upto fnBlockEmptySpec)

/-- 'laws.FnExactFramePack', WHERE WHAT IT READS IS OF BULK AT MOST 1048576: true; the input reads as it did. -/
def fnExactFramePackUptoRow : OpenClaim := { program := "ytfjjjnpokejneaa", sum := "4666195886787a8c95bb495c53f8ec9002ee0bcbe232f9aee99b9b4c04c0a28e", func := "loop.example/compressionlab/laws.FnExactFramePack", spec := "fnExactFramePack", unfollowed := true, recurses := true, apart := false, narrowed := true }
def FnExactFramePackUptoSaid : Prop := fnExactFramePackUptoRow.holds Try.pinned (OpenSpec.upto fnExactFramePackSpec)

/-- 'laws.FnBlockPack', WHERE WHAT IT READS IS OF BULK AT MOST 1048576: true; the input reads as it did. -/
def fnBlockPackUptoRow : OpenClaim := { program := "ytfjjjnpokejneaa", sum := "4666195886787a8c95bb495c53f8ec9002ee0bcbe232f9aee99b9b4c04c0a28e", func := "loop.example/compressionlab/laws.FnBlockPack", spec := "fnBlockPack", unfollowed := true, recurses := true, apart := false, narrowed := true }
def FnBlockPackUptoSaid : Prop := fnBlockPackUptoRow.holds Try.pinned (OpenSpec.upto fnBlockPackSpec)

/-- 'laws.FnBlockAs', WHERE WHAT IT READS IS OF BULK AT MOST 1048576: true; the input reads as it did. -/
def fnBlockAsUptoRow : OpenClaim := { program := "ytfjjjnpokejneaa", sum := "4666195886787a8c95bb495c53f8ec9002ee0bcbe232f9aee99b9b4c04c0a28e", func := "loop.example/compressionlab/laws.FnBlockAs", spec := "fnBlockAs", unfollowed := true, recurses := true, apart := false, narrowed := true }
def FnBlockAsUptoSaid : Prop := fnBlockAsUptoRow.holds Try.pinned (OpenSpec.upto fnBlockAsSpec)

/-- 'laws.FnExactBlockOpen', WHERE WHAT IT READS IS OF BULK AT MOST 1048576: true; the input reads as it did. -/
def fnExactBlockOpenUptoRow : OpenClaim := { program := "ytfjjjnpokejneaa", sum := "4666195886787a8c95bb495c53f8ec9002ee0bcbe232f9aee99b9b4c04c0a28e", func := "loop.example/compressionlab/laws.FnExactBlockOpen", spec := "fnExactBlockOpen", unfollowed := true, recurses := true, apart := false, narrowed := true }
def FnExactBlockOpenUptoSaid : Prop := fnExactBlockOpenUptoRow.holds Try.pinned (OpenSpec.upto fnExactBlockOpenSpec)

/-- 'laws.FnBlockOpen', WHERE WHAT IT READS IS OF BULK AT MOST 1048576: true; the input reads as it did. -/
def fnBlockOpenUptoRow : OpenClaim := { program := "ytfjjjnpokejneaa", sum := "4666195886787a8c95bb495c53f8ec9002ee0bcbe232f9aee99b9b4c04c0a28e", func := "loop.example/compressionlab/laws.FnBlockOpen", spec := "fnBlockOpen", unfollowed := true, recurses := true, apart := false, narrowed := true }
def FnBlockOpenUptoSaid : Prop := fnBlockOpenUptoRow.holds Try.pinned (OpenSpec.upto fnBlockOpenSpec)

/-- 'laws.FnBlockOpenMore', WHERE WHAT IT READS IS OF BULK AT MOST 1048576: true; the input reads as it did. -/
def fnBlockOpenMoreUptoRow : OpenClaim := { program := "ytfjjjnpokejneaa", sum := "4666195886787a8c95bb495c53f8ec9002ee0bcbe232f9aee99b9b4c04c0a28e", func := "loop.example/compressionlab/laws.FnBlockOpenMore", spec := "fnBlockOpenMore", unfollowed := true, recurses := true, apart := false, narrowed := true }
def FnBlockOpenMoreUptoSaid : Prop := fnBlockOpenMoreUptoRow.holds Try.pinned (OpenSpec.upto fnBlockOpenMoreSpec)

/-- 'laws.FnExactBlockState', WHERE WHAT IT READS IS OF BULK AT MOST 1048576: true; the input reads as it did. -/
def fnExactBlockStateUptoRow : OpenClaim := { program := "ytfjjjnpokejneaa", sum := "4666195886787a8c95bb495c53f8ec9002ee0bcbe232f9aee99b9b4c04c0a28e", func := "loop.example/compressionlab/laws.FnExactBlockState", spec := "fnExactBlockState", unfollowed := true, recurses := true, apart := false, narrowed := true }
def FnExactBlockStateUptoSaid : Prop := fnExactBlockStateUptoRow.holds Try.pinned (OpenSpec.upto fnExactBlockStateSpec)

end Rows
end Go.Proofs.Ytfjjjnpokejneaa
