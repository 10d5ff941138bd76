/-
  No cell of these rows narrows 'for every input' (looked for: loops, veiled, ifaces, maps, wideKeys, modest, calm, conditions, laid).
  DERIVED. THE GIVEN ROWS OF THIS SEAT. 12 by the template 'for every input the law returns true; each argument reads behind the call as it read before'; 0 by the template 'total and deterministic' (their statements: YtfdjlifemjlnmaaTotals.lean).
  GIVEN WITH THE SEED: the statements are not yours to turn. If you find one false, say at which input.
  Laid BY PROGRAM, IN A SANDBOX (cutbox-rows.mjs): the forced cells as the released guide's own fill.sh prints them over the translation c083d3d32841d405… (all of the seat's roots in one cut). By AI agents, Wed Nov 11 2026. No macro, syntax, notation, axiom, sorry.
-/
import Derived.Test.YtfdjlifemjlnmaaChecked
import GoSem.Claim
import GoSem.ClaimJoined
import GoSem.ClaimMapViews
import Derived.JoinedTies
import Derived.KernelRfl
namespace Go.Proofs.Ytfdjlifemjlnmaa
/- THE CELL 'sum', in the pinned program and in every row, IS THE sha256 OF THE DUMP (.gsa) THAT YtfdjlifemjlnmaaProg.lean LOADS. Nothing in Lean hashes anything: it is a label: what it is worth is what the hold of that sum in a sandbox is worth. -/
noncomputable def Try.pinned : Pinned := { name := "ytfdjlifemjlnmaa", sum := "c083d3d32841d405ae1b115b265f7a331f4c52f62e7f7b556184c92c266651b3", checked := Try.checked }
namespace Rows
def none {H : Type} : Left H := { results := [], args := [] }

/-- 'laws.FnFrameBound': WHATEVER THE INPUT: true; the input reads as it did. -/
def fnFrameBoundSpec : ChangeSpec := { name := "fnFrameBound", fn := fun _ => fun
  | [d] => { results := [.lit (.bool true)], args := [d] }
  | _ => none }
def fnFrameBoundRow : OpenClaim := { program := "ytfdjlifemjlnmaa", sum := "c083d3d32841d405ae1b115b265f7a331f4c52f62e7f7b556184c92c266651b3", func := "loop.example/compressionlab/laws.FnFrameBound", spec := "fnFrameBound", unfollowed := true, recurses := true, apart := false }
def FnFrameBoundSaid : Prop := fnFrameBoundRow.holds Try.pinned (OpenSpec.ofChange fnFrameBoundSpec)

/-- ITS FALSE NEIGHBOUR: 'it returns false'. Refute it at one input. -/
def fnFrameBoundWrong : ChangeSpec := { name := "fnFrameBound", fn := fun _ => fun
  | [d] => { results := [.lit (.bool false)], args := [d] }
  | _ => none }
def FnFrameBoundWrongFalsely : Prop := fnFrameBoundRow.holds Try.pinned (OpenSpec.ofChange fnFrameBoundWrong)

/-- 'laws.FnFrameNone': WHATEVER THE INPUT: true; the input reads as it did. -/
def fnFrameNoneSpec : ChangeSpec := { name := "fnFrameNone", fn := fun _ => fun
  | [d] => { results := [.lit (.bool true)], args := [d] }
  | _ => none }
def fnFrameNoneRow : OpenClaim := { program := "ytfdjlifemjlnmaa", sum := "c083d3d32841d405ae1b115b265f7a331f4c52f62e7f7b556184c92c266651b3", func := "loop.example/compressionlab/laws.FnFrameNone", spec := "fnFrameNone", unfollowed := true, recurses := true, apart := false }
def FnFrameNoneSaid : Prop := fnFrameNoneRow.holds Try.pinned (OpenSpec.ofChange fnFrameNoneSpec)

/-- ITS FALSE NEIGHBOUR: 'it returns false'. Refute it at one input. -/
def fnFrameNoneWrong : ChangeSpec := { name := "fnFrameNone", fn := fun _ => fun
  | [d] => { results := [.lit (.bool false)], args := [d] }
  | _ => none }
def FnFrameNoneWrongFalsely : Prop := fnFrameNoneRow.holds Try.pinned (OpenSpec.ofChange fnFrameNoneWrong)

/-- 'laws.FnFrameMost': WHATEVER THE INPUT: true; the input reads as it did. -/
def fnFrameMostSpec : ChangeSpec := { name := "fnFrameMost", fn := fun _ => fun
  | [d1, d2] => { results := [.lit (.bool true)], args := [d1, d2] }
  | _ => none }
def fnFrameMostRow : OpenClaim := { program := "ytfdjlifemjlnmaa", sum := "c083d3d32841d405ae1b115b265f7a331f4c52f62e7f7b556184c92c266651b3", func := "loop.example/compressionlab/laws.FnFrameMost", spec := "fnFrameMost", unfollowed := true, recurses := true, apart := false }
def FnFrameMostSaid : Prop := fnFrameMostRow.holds Try.pinned (OpenSpec.ofChange fnFrameMostSpec)

/-- ITS FALSE NEIGHBOUR: 'it returns false'. Refute it at one input. -/
def fnFrameMostWrong : ChangeSpec := { name := "fnFrameMost", fn := fun _ => fun
  | [d1, d2] => { results := [.lit (.bool false)], args := [d1, d2] }
  | _ => none }
def FnFrameMostWrongFalsely : Prop := fnFrameMostRow.holds Try.pinned (OpenSpec.ofChange fnFrameMostWrong)

/-- 'laws.FnFrameSizes': WHATEVER THE INPUT: true; the input reads as it did. -/
def fnFrameSizesSpec : ChangeSpec := { name := "fnFrameSizes", fn := fun _ => fun
  | [d1, d2] => { results := [.lit (.bool true)], args := [d1, d2] }
  | _ => none }
def fnFrameSizesRow : OpenClaim := { program := "ytfdjlifemjlnmaa", sum := "c083d3d32841d405ae1b115b265f7a331f4c52f62e7f7b556184c92c266651b3", func := "loop.example/compressionlab/laws.FnFrameSizes", spec := "fnFrameSizes", unfollowed := true, recurses := true, apart := false }
def FnFrameSizesSaid : Prop := fnFrameSizesRow.holds Try.pinned (OpenSpec.ofChange fnFrameSizesSpec)

/-- ITS FALSE NEIGHBOUR: 'it returns false'. Refute it at one input. -/
def fnFrameSizesWrong : ChangeSpec := { name := "fnFrameSizes", fn := fun _ => fun
  | [d1, d2] => { results := [.lit (.bool false)], args := [d1, d2] }
  | _ => none }
def FnFrameSizesWrongFalsely : Prop := fnFrameSizesRow.holds Try.pinned (OpenSpec.ofChange fnFrameSizesWrong)

/-- 'laws.FnFrameSumWrong': WHATEVER THE INPUT: true; the input reads as it did. -/
def fnFrameSumWrongSpec : ChangeSpec := { name := "fnFrameSumWrong", fn := fun _ => fun
  | [d1, d2] => { results := [.lit (.bool true)], args := [d1, d2] }
  | _ => none }
def fnFrameSumWrongRow : OpenClaim := { program := "ytfdjlifemjlnmaa", sum := "c083d3d32841d405ae1b115b265f7a331f4c52f62e7f7b556184c92c266651b3", func := "loop.example/compressionlab/laws.FnFrameSumWrong", spec := "fnFrameSumWrong", unfollowed := true, recurses := true, apart := false }
def FnFrameSumWrongSaid : Prop := fnFrameSumWrongRow.holds Try.pinned (OpenSpec.ofChange fnFrameSumWrongSpec)

/-- ITS FALSE NEIGHBOUR: 'it returns false'. Refute it at one input. -/
def fnFrameSumWrongWrong : ChangeSpec := { name := "fnFrameSumWrong", fn := fun _ => fun
  | [d1, d2] => { results := [.lit (.bool false)], args := [d1, d2] }
  | _ => none }
def FnFrameSumWrongWrongFalsely : Prop := fnFrameSumWrongRow.holds Try.pinned (OpenSpec.ofChange fnFrameSumWrongWrong)

/-- 'laws.FnFrame': WHATEVER THE INPUT: true; the input reads as it did. -/
def fnFrameSpec : ChangeSpec := { name := "fnFrame", fn := fun _ => fun
  | [d] => { results := [.lit (.bool true)], args := [d] }
  | _ => none }
def fnFrameRow : OpenClaim := { program := "ytfdjlifemjlnmaa", sum := "c083d3d32841d405ae1b115b265f7a331f4c52f62e7f7b556184c92c266651b3", func := "loop.example/compressionlab/laws.FnFrame", spec := "fnFrame", unfollowed := true, recurses := true, apart := false }
def FnFrameSaid : Prop := fnFrameRow.holds Try.pinned (OpenSpec.ofChange fnFrameSpec)

/-- ITS FALSE NEIGHBOUR: 'it returns false'. Refute it at one input. -/
def fnFrameWrong : ChangeSpec := { name := "fnFrame", fn := fun _ => fun
  | [d] => { results := [.lit (.bool false)], args := [d] }
  | _ => none }
def FnFrameWrongFalsely : Prop := fnFrameRow.holds Try.pinned (OpenSpec.ofChange fnFrameWrong)

/-- 'laws.FnExactFrameBlocks': WHATEVER THE INPUT: true; the input reads as it did. -/
def fnExactFrameBlocksSpec : ChangeSpec := { name := "fnExactFrameBlocks", fn := fun _ => fun
  | [d] => { results := [.lit (.bool true)], args := [d] }
  | _ => none }
def fnExactFrameBlocksRow : OpenClaim := { program := "ytfdjlifemjlnmaa", sum := "c083d3d32841d405ae1b115b265f7a331f4c52f62e7f7b556184c92c266651b3", func := "loop.example/compressionlab/laws.FnExactFrameBlocks", spec := "fnExactFrameBlocks", unfollowed := true, recurses := true, apart := false }
def FnExactFrameBlocksSaid : Prop := fnExactFrameBlocksRow.holds Try.pinned (OpenSpec.ofChange fnExactFrameBlocksSpec)

/-- ITS FALSE NEIGHBOUR: 'it returns false'. Refute it at one input. -/
def fnExactFrameBlocksWrong : ChangeSpec := { name := "fnExactFrameBlocks", fn := fun _ => fun
  | [d] => { results := [.lit (.bool false)], args := [d] }
  | _ => none }
def FnExactFrameBlocksWrongFalsely : Prop := fnExactFrameBlocksRow.holds Try.pinned (OpenSpec.ofChange fnExactFrameBlocksWrong)

/-- 'laws.FnExactFrameOpen': WHATEVER THE INPUT: true; the input reads as it did. -/
def fnExactFrameOpenSpec : ChangeSpec := { name := "fnExactFrameOpen", fn := fun _ => fun
  | [d1, d2] => { results := [.lit (.bool true)], args := [d1, d2] }
  | _ => none }
def fnExactFrameOpenRow : OpenClaim := { program := "ytfdjlifemjlnmaa", sum := "c083d3d32841d405ae1b115b265f7a331f4c52f62e7f7b556184c92c266651b3", func := "loop.example/compressionlab/laws.FnExactFrameOpen", spec := "fnExactFrameOpen", unfollowed := true, recurses := true, apart := false }
def FnExactFrameOpenSaid : Prop := fnExactFrameOpenRow.holds Try.pinned (OpenSpec.ofChange fnExactFrameOpenSpec)

/-- ITS FALSE NEIGHBOUR: 'it returns false'. Refute it at one input. -/
def fnExactFrameOpenWrong : ChangeSpec := { name := "fnExactFrameOpen", fn := fun _ => fun
  | [d1, d2] => { results := [.lit (.bool false)], args := [d1, d2] }
  | _ => none }
def FnExactFrameOpenWrongFalsely : Prop := fnExactFrameOpenRow.holds Try.pinned (OpenSpec.ofChange fnExactFrameOpenWrong)

/-- 'laws.FnFrameWhole': WHATEVER THE INPUT: true; the input reads as it did. -/
def fnFrameWholeSpec : ChangeSpec := { name := "fnFrameWhole", fn := fun _ => fun
  | [d1, d2] => { results := [.lit (.bool true)], args := [d1, d2] }
  | _ => none }
def fnFrameWholeRow : OpenClaim := { program := "ytfdjlifemjlnmaa", sum := "c083d3d32841d405ae1b115b265f7a331f4c52f62e7f7b556184c92c266651b3", func := "loop.example/compressionlab/laws.FnFrameWhole", spec := "fnFrameWhole", unfollowed := true, recurses := true, apart := false }
def FnFrameWholeSaid : Prop := fnFrameWholeRow.holds Try.pinned (OpenSpec.ofChange fnFrameWholeSpec)

/-- ITS FALSE NEIGHBOUR: 'it returns false'. Refute it at one input. -/
def fnFrameWholeWrong : ChangeSpec := { name := "fnFrameWhole", fn := fun _ => fun
  | [d1, d2] => { results := [.lit (.bool false)], args := [d1, d2] }
  | _ => none }
def FnFrameWholeWrongFalsely : Prop := fnFrameWholeRow.holds Try.pinned (OpenSpec.ofChange fnFrameWholeWrong)

/-- 'laws.FnFrameOpenMore': WHATEVER THE INPUT: true; the input reads as it did. -/
def fnFrameOpenMoreSpec : ChangeSpec := { name := "fnFrameOpenMore", fn := fun _ => fun
  | [d] => { results := [.lit (.bool true)], args := [d] }
  | _ => none }
def fnFrameOpenMoreRow : OpenClaim := { program := "ytfdjlifemjlnmaa", sum := "c083d3d32841d405ae1b115b265f7a331f4c52f62e7f7b556184c92c266651b3", func := "loop.example/compressionlab/laws.FnFrameOpenMore", spec := "fnFrameOpenMore", unfollowed := true, recurses := true, apart := false }
def FnFrameOpenMoreSaid : Prop := fnFrameOpenMoreRow.holds Try.pinned (OpenSpec.ofChange fnFrameOpenMoreSpec)

/-- ITS FALSE NEIGHBOUR: 'it returns false'. Refute it at one input. -/
def fnFrameOpenMoreWrong : ChangeSpec := { name := "fnFrameOpenMore", fn := fun _ => fun
  | [d] => { results := [.lit (.bool false)], args := [d] }
  | _ => none }
def FnFrameOpenMoreWrongFalsely : Prop := fnFrameOpenMoreRow.holds Try.pinned (OpenSpec.ofChange fnFrameOpenMoreWrong)

/-- 'laws.FnFrameOpen': WHATEVER THE INPUT: true; the input reads as it did. -/
def fnFrameOpenSpec : ChangeSpec := { name := "fnFrameOpen", fn := fun _ => fun
  | [d] => { results := [.lit (.bool true)], args := [d] }
  | _ => none }
def fnFrameOpenRow : OpenClaim := { program := "ytfdjlifemjlnmaa", sum := "c083d3d32841d405ae1b115b265f7a331f4c52f62e7f7b556184c92c266651b3", func := "loop.example/compressionlab/laws.FnFrameOpen", spec := "fnFrameOpen", unfollowed := true, recurses := true, apart := false }
def FnFrameOpenSaid : Prop := fnFrameOpenRow.holds Try.pinned (OpenSpec.ofChange fnFrameOpenSpec)

/-- ITS FALSE NEIGHBOUR: 'it returns false'. Refute it at one input. -/
def fnFrameOpenWrong : ChangeSpec := { name := "fnFrameOpen", fn := fun _ => fun
  | [d] => { results := [.lit (.bool false)], args := [d] }
  | _ => none }
def FnFrameOpenWrongFalsely : Prop := fnFrameOpenRow.holds Try.pinned (OpenSpec.ofChange fnFrameOpenWrong)

/-- 'laws.FnFrameCode': WHATEVER THE INPUT: true; the input reads as it did. -/
def fnFrameCodeSpec : ChangeSpec := { name := "fnFrameCode", fn := fun _ => fun
  | [d] => { results := [.lit (.bool true)], args := [d] }
  | _ => none }
def fnFrameCodeRow : OpenClaim := { program := "ytfdjlifemjlnmaa", sum := "c083d3d32841d405ae1b115b265f7a331f4c52f62e7f7b556184c92c266651b3", func := "loop.example/compressionlab/laws.FnFrameCode", spec := "fnFrameCode", unfollowed := true, recurses := true, apart := false }
def FnFrameCodeSaid : Prop := fnFrameCodeRow.holds Try.pinned (OpenSpec.ofChange fnFrameCodeSpec)

/-- ITS FALSE NEIGHBOUR: 'it returns false'. Refute it at one input. -/
def fnFrameCodeWrong : ChangeSpec := { name := "fnFrameCode", fn := fun _ => fun
  | [d] => { results := [.lit (.bool false)], args := [d] }
  | _ => none }
def FnFrameCodeWrongFalsely : Prop := fnFrameCodeRow.holds Try.pinned (OpenSpec.ofChange fnFrameCodeWrong)

/- THE SECOND FORM. 'bulk': how many values and letters a reading holds, each counted each time it is reached (what is shared counts as often as it is met; a slice's spare places count too). A statement '..UptoSaid' is the law's where the arguments, and the package variables that the reading takes, are together of bulk at most 1048576: NARROWER than '..Said'. Prove '..Said' where nothing that the law and all that it calls make is longer than what came in: it says more and counts as full. Else prove '..UptoSaid'. A law counts once. -/
mutual
def uptoBulk {H : Type} : DataW H → Nat
  | .lit (.string bytes) => bytes.length + 1
  | .lit _ => 1
  | .nil => 1
  | .ptr d => uptoBulk d + 1
  | .slice elems spare => uptoBulkAll elems + uptoBulkAll spare + 1
  | .agg parts => uptoBulkAll parts + 1
  | .iface _ d => uptoBulk d + 1
  | .map entries => uptoBulkEntries entries + 1
  | .held _ => 1
def uptoBulkAll {H : Type} : List (DataW H) → Nat
  | [] => 0
  | d :: r => uptoBulk d + uptoBulkAll r
def uptoBulkEntries {H : Type} : List (Lit × DataW H) → Nat
  | [] => 0
  | x :: r => uptoBulkEntry x + uptoBulkEntries r
def uptoBulkEntry {H : Type} : Lit × DataW H → Nat
  | (.string bytes, d) => bytes.length + uptoBulk d + 1
  | (_, d) => uptoBulk d + 1
 end
def uptoSmall : (H : Type) → List (DataW H) → Bool := fun _ ds => decide (uptoBulkAll ds ≤ 1048576)
def OpenSpec.upto (s : _root_.Go.ChangeSpec) : _root_.Go.OpenSpec := { _root_.Go.OpenSpec.ofChange s with cond := some uptoSmall }

/-- 'laws.FnFrameBound', WHERE WHAT IT READS IS OF BULK AT MOST 1048576: true; the input reads as it did. -/
def fnFrameBoundUptoRow : OpenClaim := { program := "ytfdjlifemjlnmaa", sum := "c083d3d32841d405ae1b115b265f7a331f4c52f62e7f7b556184c92c266651b3", func := "loop.example/compressionlab/laws.FnFrameBound", spec := "fnFrameBound", unfollowed := true, recurses := true, apart := false, narrowed := true }
def FnFrameBoundUptoSaid : Prop := fnFrameBoundUptoRow.holds Try.pinned (OpenSpec.upto fnFrameBoundSpec)

/-- 'laws.FnFrameNone', WHERE WHAT IT READS IS OF BULK AT MOST 1048576: true; the input reads as it did. -/
def fnFrameNoneUptoRow : OpenClaim := { program := "ytfdjlifemjlnmaa", sum := "c083d3d32841d405ae1b115b265f7a331f4c52f62e7f7b556184c92c266651b3", func := "loop.example/compressionlab/laws.FnFrameNone", spec := "fnFrameNone", unfollowed := true, recurses := true, apart := false, narrowed := true }
def FnFrameNoneUptoSaid : Prop := fnFrameNoneUptoRow.holds Try.pinned (OpenSpec.upto fnFrameNoneSpec)

/-- 'laws.FnFrameMost', WHERE WHAT IT READS IS OF BULK AT MOST 1048576: true; the input reads as it did. -/
def fnFrameMostUptoRow : OpenClaim := { program := "ytfdjlifemjlnmaa", sum := "c083d3d32841d405ae1b115b265f7a331f4c52f62e7f7b556184c92c266651b3", func := "loop.example/compressionlab/laws.FnFrameMost", spec := "fnFrameMost", unfollowed := true, recurses := true, apart := false, narrowed := true }
def FnFrameMostUptoSaid : Prop := fnFrameMostUptoRow.holds Try.pinned (OpenSpec.upto fnFrameMostSpec)

/-- 'laws.FnFrameSizes', WHERE WHAT IT READS IS OF BULK AT MOST 1048576: true; the input reads as it did. -/
def fnFrameSizesUptoRow : OpenClaim := { program := "ytfdjlifemjlnmaa", sum := "c083d3d32841d405ae1b115b265f7a331f4c52f62e7f7b556184c92c266651b3", func := "loop.example/compressionlab/laws.FnFrameSizes", spec := "fnFrameSizes", unfollowed := true, recurses := true, apart := false, narrowed := true }
def FnFrameSizesUptoSaid : Prop := fnFrameSizesUptoRow.holds Try.pinned (OpenSpec.upto fnFrameSizesSpec)

/-- 'laws.FnFrameSumWrong', WHERE WHAT IT READS IS OF BULK AT MOST 1048576: true; the input reads as it did. -/
def fnFrameSumWrongUptoRow : OpenClaim := { program := "ytfdjlifemjlnmaa", sum := "c083d3d32841d405ae1b115b265f7a331f4c52f62e7f7b556184c92c266651b3", func := "loop.example/compressionlab/laws.FnFrameSumWrong", spec := "fnFrameSumWrong", unfollowed := true, recurses := true, apart := false, narrowed := true }
def FnFrameSumWrongUptoSaid : Prop := fnFrameSumWrongUptoRow.holds Try.pinned (OpenSpec.upto fnFrameSumWrongSpec)

/-- 'laws.FnFrame', WHERE WHAT IT READS IS OF BULK AT MOST 1048576: true; the input reads as it did. -/
def fnFrameUptoRow : OpenClaim := { program := "ytfdjlifemjlnmaa", sum := "c083d3d32841d405ae1b115b265f7a331f4c52f62e7f7b556184c92c266651b3", func := "loop.example/compressionlab/laws.FnFrame", spec := "fnFrame", unfollowed := true, recurses := true, apart := false, narrowed := true }
def FnFrameUptoSaid : Prop := fnFrameUptoRow.holds Try.pinned (OpenSpec.upto fnFrameSpec)

/-- 'laws.FnExactFrameBlocks', WHERE WHAT IT READS IS OF BULK AT MOST 1048576: true; the input reads as it did. -/
def fnExactFrameBlocksUptoRow : OpenClaim := { program := "ytfdjlifemjlnmaa", sum := "c083d3d32841d405ae1b115b265f7a331f4c52f62e7f7b556184c92c266651b3", func := "loop.example/compressionlab/laws.FnExactFrameBlocks", spec := "fnExactFrameBlocks", unfollowed := true, recurses := true, apart := false, narrowed := true }
def FnExactFrameBlocksUptoSaid : Prop := fnExactFrameBlocksUptoRow.holds Try.pinned (OpenSpec.upto fnExactFrameBlocksSpec)

/-- 'laws.FnExactFrameOpen', WHERE WHAT IT READS IS OF BULK AT MOST 1048576: true; the input reads as it did. -/
def fnExactFrameOpenUptoRow : OpenClaim := { program := "ytfdjlifemjlnmaa", sum := "c083d3d32841d405ae1b115b265f7a331f4c52f62e7f7b556184c92c266651b3", func := "loop.example/compressionlab/laws.FnExactFrameOpen", spec := "fnExactFrameOpen", unfollowed := true, recurses := true, apart := false, narrowed := true }
def FnExactFrameOpenUptoSaid : Prop := fnExactFrameOpenUptoRow.holds Try.pinned (OpenSpec.upto fnExactFrameOpenSpec)

/-- 'laws.FnFrameWhole', WHERE WHAT IT READS IS OF BULK AT MOST 1048576: true; the input reads as it did. -/
def fnFrameWholeUptoRow : OpenClaim := { program := "ytfdjlifemjlnmaa", sum := "c083d3d32841d405ae1b115b265f7a331f4c52f62e7f7b556184c92c266651b3", func := "loop.example/compressionlab/laws.FnFrameWhole", spec := "fnFrameWhole", unfollowed := true, recurses := true, apart := false, narrowed := true }
def FnFrameWholeUptoSaid : Prop := fnFrameWholeUptoRow.holds Try.pinned (OpenSpec.upto fnFrameWholeSpec)

/-- 'laws.FnFrameOpenMore', WHERE WHAT IT READS IS OF BULK AT MOST 1048576: true; the input reads as it did. -/
def fnFrameOpenMoreUptoRow : OpenClaim := { program := "ytfdjlifemjlnmaa", sum := "c083d3d32841d405ae1b115b265f7a331f4c52f62e7f7b556184c92c266651b3", func := "loop.example/compressionlab/laws.FnFrameOpenMore", spec := "fnFrameOpenMore", unfollowed := true, recurses := true, apart := false, narrowed := true }
def FnFrameOpenMoreUptoSaid : Prop := fnFrameOpenMoreUptoRow.holds Try.pinned (OpenSpec.upto fnFrameOpenMoreSpec)

/-- 'laws.FnFrameOpen', WHERE WHAT IT READS IS OF BULK AT MOST 1048576: true; the input reads as it did. -/
def fnFrameOpenUptoRow : OpenClaim := { program := "ytfdjlifemjlnmaa", sum := "c083d3d32841d405ae1b115b265f7a331f4c52f62e7f7b556184c92c266651b3", func := "loop.example/compressionlab/laws.FnFrameOpen", spec := "fnFrameOpen", unfollowed := true, recurses := true, apart := false, narrowed := true }
def FnFrameOpenUptoSaid : Prop := fnFrameOpenUptoRow.holds Try.pinned (OpenSpec.upto fnFrameOpenSpec)

/-- 'laws.FnFrameCode', WHERE WHAT IT READS IS OF BULK AT MOST 1048576: true; the input reads as it did. -/
def fnFrameCodeUptoRow : OpenClaim := { program := "ytfdjlifemjlnmaa", sum := "c083d3d32841d405ae1b115b265f7a331f4c52f62e7f7b556184c92c266651b3", func := "loop.example/compressionlab/laws.FnFrameCode", spec := "fnFrameCode", unfollowed := true, recurses := true, apart := false, narrowed := true }
def FnFrameCodeUptoSaid : Prop := fnFrameCodeUptoRow.holds Try.pinned (OpenSpec.upto fnFrameCodeSpec)

end Rows
end Go.Proofs.Ytfdjlifemjlnmaa
