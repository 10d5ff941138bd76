/-
  No cell of these rows narrows 'for every input' (looked for: loops, veiled, ifaces, maps, wideKeys, modest, calm, conditions, laid).
  DERIVED. THE GIVEN ROWS OF THIS SEAT. 8 by the template 'for every input the law returns true; each argument reads behind the call as it read before'; 0 by the template 'total and deterministic' (their statements: YtamljhjbmeikiaaTotals.lean).
  GIVEN WITH THE SEED: the statements are not yours to turn. If you find one false, say at which input.
  Laid BY PROGRAM, IN A SANDBOX (cutbox-rows.mjs): the forced cells as the released guide's own fill.sh prints them over the translation 786bb65177163358… (all of the seat's roots in one cut). By AI agents, Wed Nov 11 2026. No macro, syntax, notation, axiom, sorry.
-/
import Derived.Test.YtamljhjbmeikiaaChecked
import GoSem.Claim
import GoSem.ClaimJoined
import GoSem.ClaimMapViews
import Derived.JoinedTies
import Derived.KernelRfl
namespace Go.Proofs.Ytamljhjbmeikiaa
/- THE CELL 'sum', in the pinned program and in every row, IS THE sha256 OF THE DUMP (.gsa) THAT YtamljhjbmeikiaaProg.lean LOADS. Nothing in Lean hashes anything: it is a label: what it is worth is what the hold of that sum in a sandbox is worth. -/
noncomputable def Try.pinned : Pinned := { name := "ytamljhjbmeikiaa", sum := "786bb6517716335836754398f5aacd3a0eae9a73825b8c1932925ebfa3be1ad3", checked := Try.checked }
namespace Rows
def none {H : Type} : Left H := { results := [], args := [] }

/-- 'laws.FnBlockTorn': WHATEVER THE INPUT: true; the input reads as it did. -/
def fnBlockTornSpec : ChangeSpec := { name := "fnBlockTorn", fn := fun _ => fun
  | [d1, d2] => { results := [.lit (.bool true)], args := [d1, d2] }
  | _ => none }
def fnBlockTornRow : OpenClaim := { program := "ytamljhjbmeikiaa", sum := "786bb6517716335836754398f5aacd3a0eae9a73825b8c1932925ebfa3be1ad3", func := "loop.example/compressionlab/laws.FnBlockTorn", spec := "fnBlockTorn", unfollowed := true, recurses := true, apart := false }
def FnBlockTornSaid : Prop := fnBlockTornRow.holds Try.pinned (OpenSpec.ofChange fnBlockTornSpec)

/-- ITS FALSE NEIGHBOUR: 'it returns false'. Refute it at one input. -/
def fnBlockTornWrong : ChangeSpec := { name := "fnBlockTorn", fn := fun _ => fun
  | [d1, d2] => { results := [.lit (.bool false)], args := [d1, d2] }
  | _ => none }
def FnBlockTornWrongFalsely : Prop := fnBlockTornRow.holds Try.pinned (OpenSpec.ofChange fnBlockTornWrong)

/-- 'laws.FnBlockStart': WHATEVER THE INPUT: true; the input reads as it did. -/
def fnBlockStartSpec : ChangeSpec := { name := "fnBlockStart", fn := fun _ => fun
  | [d1, d2] => { results := [.lit (.bool true)], args := [d1, d2] }
  | _ => none }
def fnBlockStartRow : OpenClaim := { program := "ytamljhjbmeikiaa", sum := "786bb6517716335836754398f5aacd3a0eae9a73825b8c1932925ebfa3be1ad3", func := "loop.example/compressionlab/laws.FnBlockStart", spec := "fnBlockStart", unfollowed := true, recurses := true, apart := false }
def FnBlockStartSaid : Prop := fnBlockStartRow.holds Try.pinned (OpenSpec.ofChange fnBlockStartSpec)

/-- ITS FALSE NEIGHBOUR: 'it returns false'. Refute it at one input. -/
def fnBlockStartWrong : ChangeSpec := { name := "fnBlockStart", fn := fun _ => fun
  | [d1, d2] => { results := [.lit (.bool false)], args := [d1, d2] }
  | _ => none }
def FnBlockStartWrongFalsely : Prop := fnBlockStartRow.holds Try.pinned (OpenSpec.ofChange fnBlockStartWrong)

/-- 'laws.FnBlockState': WHATEVER THE INPUT: true; the input reads as it did. -/
def fnBlockStateSpec : ChangeSpec := { name := "fnBlockState", fn := fun _ => fun
  | [d] => { results := [.lit (.bool true)], args := [d] }
  | _ => none }
def fnBlockStateRow : OpenClaim := { program := "ytamljhjbmeikiaa", sum := "786bb6517716335836754398f5aacd3a0eae9a73825b8c1932925ebfa3be1ad3", func := "loop.example/compressionlab/laws.FnBlockState", spec := "fnBlockState", unfollowed := true, recurses := true, apart := false }
def FnBlockStateSaid : Prop := fnBlockStateRow.holds Try.pinned (OpenSpec.ofChange fnBlockStateSpec)

/-- ITS FALSE NEIGHBOUR: 'it returns false'. Refute it at one input. -/
def fnBlockStateWrong : ChangeSpec := { name := "fnBlockState", fn := fun _ => fun
  | [d] => { results := [.lit (.bool false)], args := [d] }
  | _ => none }
def FnBlockStateWrongFalsely : Prop := fnBlockStateRow.holds Try.pinned (OpenSpec.ofChange fnBlockStateWrong)

/-- 'laws.FnBlockStateStay': WHATEVER THE INPUT: true; the input reads as it did. -/
def fnBlockStateStaySpec : ChangeSpec := { name := "fnBlockStateStay", fn := fun _ => fun
  | [d1, d2] => { results := [.lit (.bool true)], args := [d1, d2] }
  | _ => none }
def fnBlockStateStayRow : OpenClaim := { program := "ytamljhjbmeikiaa", sum := "786bb6517716335836754398f5aacd3a0eae9a73825b8c1932925ebfa3be1ad3", func := "loop.example/compressionlab/laws.FnBlockStateStay", spec := "fnBlockStateStay", unfollowed := true, recurses := true, apart := false }
def FnBlockStateStaySaid : Prop := fnBlockStateStayRow.holds Try.pinned (OpenSpec.ofChange fnBlockStateStaySpec)

/-- ITS FALSE NEIGHBOUR: 'it returns false'. Refute it at one input. -/
def fnBlockStateStayWrong : ChangeSpec := { name := "fnBlockStateStay", fn := fun _ => fun
  | [d1, d2] => { results := [.lit (.bool false)], args := [d1, d2] }
  | _ => none }
def FnBlockStateStayWrongFalsely : Prop := fnBlockStateStayRow.holds Try.pinned (OpenSpec.ofChange fnBlockStateStayWrong)

/-- 'laws.FnExactBudgetOpen': WHATEVER THE INPUT: true; the input reads as it did. -/
def fnExactBudgetOpenSpec : ChangeSpec := { name := "fnExactBudgetOpen", fn := fun _ => fun
  | [d1, d2] => { results := [.lit (.bool true)], args := [d1, d2] }
  | _ => none }
def fnExactBudgetOpenRow : OpenClaim := { program := "ytamljhjbmeikiaa", sum := "786bb6517716335836754398f5aacd3a0eae9a73825b8c1932925ebfa3be1ad3", func := "loop.example/compressionlab/laws.FnExactBudgetOpen", spec := "fnExactBudgetOpen", unfollowed := true, recurses := true, apart := false }
def FnExactBudgetOpenSaid : Prop := fnExactBudgetOpenRow.holds Try.pinned (OpenSpec.ofChange fnExactBudgetOpenSpec)

/-- ITS FALSE NEIGHBOUR: 'it returns false'. Refute it at one input. -/
def fnExactBudgetOpenWrong : ChangeSpec := { name := "fnExactBudgetOpen", fn := fun _ => fun
  | [d1, d2] => { results := [.lit (.bool false)], args := [d1, d2] }
  | _ => none }
def FnExactBudgetOpenWrongFalsely : Prop := fnExactBudgetOpenRow.holds Try.pinned (OpenSpec.ofChange fnExactBudgetOpenWrong)

/-- 'laws.FnExactStreamValid': WHATEVER THE INPUT: true; the input reads as it did. -/
def fnExactStreamValidSpec : ChangeSpec := { name := "fnExactStreamValid", fn := fun _ => fun
  | [d] => { results := [.lit (.bool true)], args := [d] }
  | _ => none }
def fnExactStreamValidRow : OpenClaim := { program := "ytamljhjbmeikiaa", sum := "786bb6517716335836754398f5aacd3a0eae9a73825b8c1932925ebfa3be1ad3", func := "loop.example/compressionlab/laws.FnExactStreamValid", spec := "fnExactStreamValid", unfollowed := true, recurses := true, apart := false }
def FnExactStreamValidSaid : Prop := fnExactStreamValidRow.holds Try.pinned (OpenSpec.ofChange fnExactStreamValidSpec)

/-- ITS FALSE NEIGHBOUR: 'it returns false'. Refute it at one input. -/
def fnExactStreamValidWrong : ChangeSpec := { name := "fnExactStreamValid", fn := fun _ => fun
  | [d] => { results := [.lit (.bool false)], args := [d] }
  | _ => none }
def FnExactStreamValidWrongFalsely : Prop := fnExactStreamValidRow.holds Try.pinned (OpenSpec.ofChange fnExactStreamValidWrong)

/-- 'laws.FnExactStreamEnd': WHATEVER THE INPUT: true; the input reads as it did. -/
def fnExactStreamEndSpec : ChangeSpec := { name := "fnExactStreamEnd", fn := fun _ => fun
  | [d] => { results := [.lit (.bool true)], args := [d] }
  | _ => none }
def fnExactStreamEndRow : OpenClaim := { program := "ytamljhjbmeikiaa", sum := "786bb6517716335836754398f5aacd3a0eae9a73825b8c1932925ebfa3be1ad3", func := "loop.example/compressionlab/laws.FnExactStreamEnd", spec := "fnExactStreamEnd", unfollowed := true, recurses := true, apart := false }
def FnExactStreamEndSaid : Prop := fnExactStreamEndRow.holds Try.pinned (OpenSpec.ofChange fnExactStreamEndSpec)

/-- ITS FALSE NEIGHBOUR: 'it returns false'. Refute it at one input. -/
def fnExactStreamEndWrong : ChangeSpec := { name := "fnExactStreamEnd", fn := fun _ => fun
  | [d] => { results := [.lit (.bool false)], args := [d] }
  | _ => none }
def FnExactStreamEndWrongFalsely : Prop := fnExactStreamEndRow.holds Try.pinned (OpenSpec.ofChange fnExactStreamEndWrong)

/-- 'laws.FnExactStreamAll': WHATEVER THE INPUT: true; the input reads as it did. -/
def fnExactStreamAllSpec : ChangeSpec := { name := "fnExactStreamAll", fn := fun _ => fun
  | [d] => { results := [.lit (.bool true)], args := [d] }
  | _ => none }
def fnExactStreamAllRow : OpenClaim := { program := "ytamljhjbmeikiaa", sum := "786bb6517716335836754398f5aacd3a0eae9a73825b8c1932925ebfa3be1ad3", func := "loop.example/compressionlab/laws.FnExactStreamAll", spec := "fnExactStreamAll", unfollowed := true, recurses := true, apart := false }
def FnExactStreamAllSaid : Prop := fnExactStreamAllRow.holds Try.pinned (OpenSpec.ofChange fnExactStreamAllSpec)

/-- ITS FALSE NEIGHBOUR: 'it returns false'. Refute it at one input. -/
def fnExactStreamAllWrong : ChangeSpec := { name := "fnExactStreamAll", fn := fun _ => fun
  | [d] => { results := [.lit (.bool false)], args := [d] }
  | _ => none }
def FnExactStreamAllWrongFalsely : Prop := fnExactStreamAllRow.holds Try.pinned (OpenSpec.ofChange fnExactStreamAllWrong)

/- THE SECOND FORM. 'bulk': how many values and letters a reading holds, each counted each time it is reached (what is shared counts as often as it is met; a slice's spare places count too). A statement '..UptoSaid' is the law's where the arguments, and the package variables that the reading takes, are together of bulk at most 1048576: NARROWER than '..Said'. Prove '..Said' where nothing that the law and all that it calls make is longer than what came in: it says more and counts as full. Else prove '..UptoSaid'. A law counts once. -/
mutual
def uptoBulk {H : Type} : DataW H → Nat
  | .lit (.string bytes) => bytes.length + 1
  | .lit _ => 1
  | .nil => 1
  | .ptr d => uptoBulk d + 1
  | .slice elems spare => uptoBulkAll elems + uptoBulkAll spare + 1
  | .agg parts => uptoBulkAll parts + 1
  | .iface _ d => uptoBulk d + 1
  | .map entries => uptoBulkEntries entries + 1
  | .held _ => 1
def uptoBulkAll {H : Type} : List (DataW H) → Nat
  | [] => 0
  | d :: r => uptoBulk d + uptoBulkAll r
def uptoBulkEntries {H : Type} : List (Lit × DataW H) → Nat
  | [] => 0
  | x :: r => uptoBulkEntry x + uptoBulkEntries r
def uptoBulkEntry {H : Type} : Lit × DataW H → Nat
  | (.string bytes, d) => bytes.length + uptoBulk d + 1
  | (_, d) => uptoBulk d + 1
 end
def uptoSmall : (H : Type) → List (DataW H) → Bool := fun _ ds => decide (uptoBulkAll ds ≤ 1048576)
def OpenSpec.upto (s : _root_.Go.ChangeSpec) : _root_.Go.OpenSpec := { _root_.Go.OpenSpec.ofChange s with cond := some uptoSmall }

/-- 'laws.FnBlockTorn', WHERE WHAT IT READS IS OF BULK AT MOST 1048576: true; the input reads as it did. -/
def fnBlockTornUptoRow : OpenClaim := { program := "ytamljhjbmeikiaa", sum := "786bb6517716335836754398f5aacd3a0eae9a73825b8c1932925ebfa3be1ad3", func := "loop.example/compressionlab/laws.FnBlockTorn", spec := "fnBlockTorn", unfollowed := true, recurses := true, apart := false, narrowed := true }
def FnBlockTornUptoSaid : Prop := fnBlockTornUptoRow.holds Try.pinned (OpenSpec.upto fnBlockTornSpec)

/-- 'laws.FnBlockStart', WHERE WHAT IT READS IS OF BULK AT MOST 1048576: true; the input reads as it did. -/
def fnBlockStartUptoRow : OpenClaim := { program := "ytamljhjbmeikiaa", sum := "786bb6517716335836754398f5aacd3a0eae9a73825b8c1932925ebfa3be1ad3", func := "loop.example/compressionlab/laws.FnBlockStart", spec := "fnBlockStart", unfollowed := true, recurses := true, apart := false, narrowed := true }
def FnBlockStartUptoSaid : Prop := fnBlockStartUptoRow.holds Try.pinned (OpenSpec.upto fnBlockStartSpec)

/-- 'laws.FnBlockState', WHERE WHAT IT READS IS OF BULK AT MOST 1048576: true; the input reads as it did. -/
def fnBlockStateUptoRow : OpenClaim := { program := "ytamljhjbmeikiaa", sum := "786bb6517716335836754398f5aacd3a0eae9a73825b8c1932925ebfa3be1ad3", func := "loop.example/compressionlab/laws.FnBlockState", spec := "fnBlockState", unfollowed := true, recurses := true, apart := false, narrowed := true }
def FnBlockStateUptoSaid : Prop := fnBlockStateUptoRow.holds Try.pinned (OpenSpec.upto fnBlockStateSpec)

/-- 'laws.FnBlockStateStay', WHERE WHAT IT READS IS OF BULK AT MOST 1048576: true; the input reads as it did. -/
def fnBlockStateStayUptoRow : OpenClaim := { program := "ytamljhjbmeikiaa", sum := "786bb6517716335836754398f5aacd3a0eae9a73825b8c1932925ebfa3be1ad3", func := "loop.example/compressionlab/laws.FnBlockStateStay", spec := "fnBlockStateStay", unfollowed := true, recurses := true, apart := false, narrowed := true }
def FnBlockStateStayUptoSaid : Prop := fnBlockStateStayUptoRow.holds Try.pinned (OpenSpec.upto fnBlockStateStaySpec)

/-- 'laws.FnExactBudgetOpen', WHERE WHAT IT READS IS OF BULK AT MOST 1048576: true; the input reads as it did. -/
def fnExactBudgetOpenUptoRow : OpenClaim := { program := "ytamljhjbmeikiaa", sum := "786bb6517716335836754398f5aacd3a0eae9a73825b8c1932925ebfa3be1ad3", func := "loop.example/compressionlab/laws.FnExactBudgetOpen", spec := "fnExactBudgetOpen", unfollowed := true, recurses := true, apart := false, narrowed := true }
def FnExactBudgetOpenUptoSaid : Prop := fnExactBudgetOpenUptoRow.holds Try.pinned (OpenSpec.upto fnExactBudgetOpenSpec)

/-- 'laws.FnExactStreamValid', WHERE WHAT IT READS IS OF BULK AT MOST 1048576: true; the input reads as it did. -/
def fnExactStreamValidUptoRow : OpenClaim := { program := "ytamljhjbmeikiaa", sum := "786bb6517716335836754398f5aacd3a0eae9a73825b8c1932925ebfa3be1ad3", func := "loop.example/compressionlab/laws.FnExactStreamValid", spec := "fnExactStreamValid", unfollowed := true, recurses := true, apart := false, narrowed := true }
def FnExactStreamValidUptoSaid : Prop := fnExactStreamValidUptoRow.holds Try.pinned (OpenSpec.upto fnExactStreamValidSpec)

/-- 'laws.FnExactStreamEnd', WHERE WHAT IT READS IS OF BULK AT MOST 1048576: true; the input reads as it did. -/
def fnExactStreamEndUptoRow : OpenClaim := { program := "ytamljhjbmeikiaa", sum := "786bb6517716335836754398f5aacd3a0eae9a73825b8c1932925ebfa3be1ad3", func := "loop.example/compressionlab/laws.FnExactStreamEnd", spec := "fnExactStreamEnd", unfollowed := true, recurses := true, apart := false, narrowed := true }
def FnExactStreamEndUptoSaid : Prop := fnExactStreamEndUptoRow.holds Try.pinned (OpenSpec.upto fnExactStreamEndSpec)

/-- 'laws.FnExactStreamAll', WHERE WHAT IT READS IS OF BULK AT MOST 1048576: true; the input reads as it did. -/
def fnExactStreamAllUptoRow : OpenClaim := { program := "ytamljhjbmeikiaa", sum := "786bb6517716335836754398f5aacd3a0eae9a73825b8c1932925ebfa3be1ad3", func := "loop.example/compressionlab/laws.FnExactStreamAll", spec := "fnExactStreamAll", unfollowed := true, recurses := true, apart := false, narrowed := true }
def FnExactStreamAllUptoSaid : Prop := fnExactStreamAllUptoRow.holds Try.pinned (OpenSpec.upto fnExactStreamAllSpec)

end Rows
end Go.Proofs.Ytamljhjbmeikiaa
