/-
  No cell of these rows narrows 'for every input' (looked for: loops, veiled, ifaces, maps, wideKeys, modest, calm, conditions, laid).
  DERIVED. THE GIVEN ROWS OF THIS SEAT. 10 by the template 'for every input the law returns true; each argument reads behind the call as it read before'; 0 by the template 'total and deterministic' (their statements: YtiaheikoifnbaaaTotals.lean).
  GIVEN WITH THE SEED: the statements are not yours to turn. If you find one false, say at which input.
  Laid BY PROGRAM, IN A SANDBOX (cutbox-rows.mjs): the forced cells as the released guide's own fill.sh prints them over the translation f7267f7843e2cced… (all of the seat's roots in one cut). By AI agents, Wed Nov 11 2026. No macro, syntax, notation, axiom, sorry.
-/
import Derived.Test.YtiaheikoifnbaaaChecked
import GoSem.Claim
import GoSem.ClaimJoined
import GoSem.ClaimMapViews
import Derived.JoinedTies
import Derived.KernelRfl
namespace Go.Proofs.Ytiaheikoifnbaaa
/- THE CELL 'sum', in the pinned program and in every row, IS THE sha256 OF THE DUMP (.gsa) THAT YtiaheikoifnbaaaProg.lean LOADS. Nothing in Lean hashes anything: it is a label: what it is worth is what the hold of that sum in a sandbox is worth. -/
noncomputable def Try.pinned : Pinned := { name := "ytiaheikoifnbaaa", sum := "f7267f7843e2cceddeabf5c66c59e16ea5ac29e1d30350d93dce10be535ca9aa", checked := Try.checked }
namespace Rows
def none {H : Type} : Left H := { results := [], args := [] }

/-- 'laws.FnExactRotationsOf': WHATEVER THE INPUT: true; the input reads as it did. -/
def fnExactRotationsOfSpec : ChangeSpec := { name := "fnExactRotationsOf", fn := fun _ => fun
  | [d] => { results := [.lit (.bool true)], args := [d] }
  | _ => none }
def fnExactRotationsOfRow : OpenClaim := { program := "ytiaheikoifnbaaa", sum := "f7267f7843e2cceddeabf5c66c59e16ea5ac29e1d30350d93dce10be535ca9aa", func := "loop.example/compressionlab/laws.FnExactRotationsOf", spec := "fnExactRotationsOf", apart := false }
def FnExactRotationsOfSaid : Prop := fnExactRotationsOfRow.holds Try.pinned (OpenSpec.ofChange fnExactRotationsOfSpec)

/-- ITS FALSE NEIGHBOUR: 'it returns false'. Refute it at one input. -/
def fnExactRotationsOfWrong : ChangeSpec := { name := "fnExactRotationsOf", fn := fun _ => fun
  | [d] => { results := [.lit (.bool false)], args := [d] }
  | _ => none }
def FnExactRotationsOfWrongFalsely : Prop := fnExactRotationsOfRow.holds Try.pinned (OpenSpec.ofChange fnExactRotationsOfWrong)

/-- 'laws.FnExactTurnOf': WHATEVER THE INPUT: true; the input reads as it did. -/
def fnExactTurnOfSpec : ChangeSpec := { name := "fnExactTurnOf", fn := fun _ => fun
  | [d] => { results := [.lit (.bool true)], args := [d] }
  | _ => none }
def fnExactTurnOfRow : OpenClaim := { program := "ytiaheikoifnbaaa", sum := "f7267f7843e2cceddeabf5c66c59e16ea5ac29e1d30350d93dce10be535ca9aa", func := "loop.example/compressionlab/laws.FnExactTurnOf", spec := "fnExactTurnOf", apart := false }
def FnExactTurnOfSaid : Prop := fnExactTurnOfRow.holds Try.pinned (OpenSpec.ofChange fnExactTurnOfSpec)

/-- ITS FALSE NEIGHBOUR: 'it returns false'. Refute it at one input. -/
def fnExactTurnOfWrong : ChangeSpec := { name := "fnExactTurnOf", fn := fun _ => fun
  | [d] => { results := [.lit (.bool false)], args := [d] }
  | _ => none }
def FnExactTurnOfWrongFalsely : Prop := fnExactTurnOfRow.holds Try.pinned (OpenSpec.ofChange fnExactTurnOfWrong)

/-- 'laws.FnRotations': WHATEVER THE INPUT: true; the input reads as it did. -/
def fnRotationsSpec : ChangeSpec := { name := "fnRotations", fn := fun _ => fun
  | [d] => { results := [.lit (.bool true)], args := [d] }
  | _ => none }
def fnRotationsRow : OpenClaim := { program := "ytiaheikoifnbaaa", sum := "f7267f7843e2cceddeabf5c66c59e16ea5ac29e1d30350d93dce10be535ca9aa", func := "loop.example/compressionlab/laws.FnRotations", spec := "fnRotations", apart := false }
def FnRotationsSaid : Prop := fnRotationsRow.holds Try.pinned (OpenSpec.ofChange fnRotationsSpec)

/-- ITS FALSE NEIGHBOUR: 'it returns false'. Refute it at one input. -/
def fnRotationsWrong : ChangeSpec := { name := "fnRotations", fn := fun _ => fun
  | [d] => { results := [.lit (.bool false)], args := [d] }
  | _ => none }
def FnRotationsWrongFalsely : Prop := fnRotationsRow.holds Try.pinned (OpenSpec.ofChange fnRotationsWrong)

/-- 'laws.FnTurnPlace': WHATEVER THE INPUT: true; the input reads as it did. -/
def fnTurnPlaceSpec : ChangeSpec := { name := "fnTurnPlace", fn := fun _ => fun
  | [d] => { results := [.lit (.bool true)], args := [d] }
  | _ => none }
def fnTurnPlaceRow : OpenClaim := { program := "ytiaheikoifnbaaa", sum := "f7267f7843e2cceddeabf5c66c59e16ea5ac29e1d30350d93dce10be535ca9aa", func := "loop.example/compressionlab/laws.FnTurnPlace", spec := "fnTurnPlace", apart := false }
def FnTurnPlaceSaid : Prop := fnTurnPlaceRow.holds Try.pinned (OpenSpec.ofChange fnTurnPlaceSpec)

/-- ITS FALSE NEIGHBOUR: 'it returns false'. Refute it at one input. -/
def fnTurnPlaceWrong : ChangeSpec := { name := "fnTurnPlace", fn := fun _ => fun
  | [d] => { results := [.lit (.bool false)], args := [d] }
  | _ => none }
def FnTurnPlaceWrongFalsely : Prop := fnTurnPlaceRow.holds Try.pinned (OpenSpec.ofChange fnTurnPlaceWrong)

/-- 'laws.FnTurnRotate': WHATEVER THE INPUT: true; the input reads as it did. -/
def fnTurnRotateSpec : ChangeSpec := { name := "fnTurnRotate", fn := fun _ => fun
  | [d1, d2] => { results := [.lit (.bool true)], args := [d1, d2] }
  | _ => none }
def fnTurnRotateRow : OpenClaim := { program := "ytiaheikoifnbaaa", sum := "f7267f7843e2cceddeabf5c66c59e16ea5ac29e1d30350d93dce10be535ca9aa", func := "loop.example/compressionlab/laws.FnTurnRotate", spec := "fnTurnRotate", apart := false }
def FnTurnRotateSaid : Prop := fnTurnRotateRow.holds Try.pinned (OpenSpec.ofChange fnTurnRotateSpec)

/-- ITS FALSE NEIGHBOUR: 'it returns false'. Refute it at one input. -/
def fnTurnRotateWrong : ChangeSpec := { name := "fnTurnRotate", fn := fun _ => fun
  | [d1, d2] => { results := [.lit (.bool false)], args := [d1, d2] }
  | _ => none }
def FnTurnRotateWrongFalsely : Prop := fnTurnRotateRow.holds Try.pinned (OpenSpec.ofChange fnTurnRotateWrong)

/-- 'laws.FnTurnRun': WHATEVER THE INPUT: true; the input reads as it did. -/
def fnTurnRunSpec : ChangeSpec := { name := "fnTurnRun", fn := fun _ => fun
  | [d1, d2] => { results := [.lit (.bool true)], args := [d1, d2] }
  | _ => none }
def fnTurnRunRow : OpenClaim := { program := "ytiaheikoifnbaaa", sum := "f7267f7843e2cceddeabf5c66c59e16ea5ac29e1d30350d93dce10be535ca9aa", func := "loop.example/compressionlab/laws.FnTurnRun", spec := "fnTurnRun", apart := false }
def FnTurnRunSaid : Prop := fnTurnRunRow.holds Try.pinned (OpenSpec.ofChange fnTurnRunSpec)

/-- ITS FALSE NEIGHBOUR: 'it returns false'. Refute it at one input. -/
def fnTurnRunWrong : ChangeSpec := { name := "fnTurnRun", fn := fun _ => fun
  | [d1, d2] => { results := [.lit (.bool false)], args := [d1, d2] }
  | _ => none }
def FnTurnRunWrongFalsely : Prop := fnTurnRunRow.holds Try.pinned (OpenSpec.ofChange fnTurnRunWrong)

/-- 'laws.FnTurnCounts': WHATEVER THE INPUT: true; the input reads as it did. -/
def fnTurnCountsSpec : ChangeSpec := { name := "fnTurnCounts", fn := fun _ => fun
  | [d] => { results := [.lit (.bool true)], args := [d] }
  | _ => none }
def fnTurnCountsRow : OpenClaim := { program := "ytiaheikoifnbaaa", sum := "f7267f7843e2cceddeabf5c66c59e16ea5ac29e1d30350d93dce10be535ca9aa", func := "loop.example/compressionlab/laws.FnTurnCounts", spec := "fnTurnCounts", apart := false }
def FnTurnCountsSaid : Prop := fnTurnCountsRow.holds Try.pinned (OpenSpec.ofChange fnTurnCountsSpec)

/-- ITS FALSE NEIGHBOUR: 'it returns false'. Refute it at one input. -/
def fnTurnCountsWrong : ChangeSpec := { name := "fnTurnCounts", fn := fun _ => fun
  | [d] => { results := [.lit (.bool false)], args := [d] }
  | _ => none }
def FnTurnCountsWrongFalsely : Prop := fnTurnCountsRow.holds Try.pinned (OpenSpec.ofChange fnTurnCountsWrong)

/-- 'laws.FnTurn': WHATEVER THE INPUT: true; the input reads as it did. -/
def fnTurnSpec : ChangeSpec := { name := "fnTurn", fn := fun _ => fun
  | [d] => { results := [.lit (.bool true)], args := [d] }
  | _ => none }
def fnTurnRow : OpenClaim := { program := "ytiaheikoifnbaaa", sum := "f7267f7843e2cceddeabf5c66c59e16ea5ac29e1d30350d93dce10be535ca9aa", func := "loop.example/compressionlab/laws.FnTurn", spec := "fnTurn", apart := false }
def FnTurnSaid : Prop := fnTurnRow.holds Try.pinned (OpenSpec.ofChange fnTurnSpec)

/-- ITS FALSE NEIGHBOUR: 'it returns false'. Refute it at one input. -/
def fnTurnWrong : ChangeSpec := { name := "fnTurn", fn := fun _ => fun
  | [d] => { results := [.lit (.bool false)], args := [d] }
  | _ => none }
def FnTurnWrongFalsely : Prop := fnTurnRow.holds Try.pinned (OpenSpec.ofChange fnTurnWrong)

/-- 'laws.FnExactTurnBack': WHATEVER THE INPUT: true; the input reads as it did. -/
def fnExactTurnBackSpec : ChangeSpec := { name := "fnExactTurnBack", fn := fun _ => fun
  | [d1, d2] => { results := [.lit (.bool true)], args := [d1, d2] }
  | _ => none }
def fnExactTurnBackRow : OpenClaim := { program := "ytiaheikoifnbaaa", sum := "f7267f7843e2cceddeabf5c66c59e16ea5ac29e1d30350d93dce10be535ca9aa", func := "loop.example/compressionlab/laws.FnExactTurnBack", spec := "fnExactTurnBack", apart := false }
def FnExactTurnBackSaid : Prop := fnExactTurnBackRow.holds Try.pinned (OpenSpec.ofChange fnExactTurnBackSpec)

/-- ITS FALSE NEIGHBOUR: 'it returns false'. Refute it at one input. -/
def fnExactTurnBackWrong : ChangeSpec := { name := "fnExactTurnBack", fn := fun _ => fun
  | [d1, d2] => { results := [.lit (.bool false)], args := [d1, d2] }
  | _ => none }
def FnExactTurnBackWrongFalsely : Prop := fnExactTurnBackRow.holds Try.pinned (OpenSpec.ofChange fnExactTurnBackWrong)

/-- 'laws.FnTurnBack': WHATEVER THE INPUT: true; the input reads as it did. -/
def fnTurnBackSpec : ChangeSpec := { name := "fnTurnBack", fn := fun _ => fun
  | [d] => { results := [.lit (.bool true)], args := [d] }
  | _ => none }
def fnTurnBackRow : OpenClaim := { program := "ytiaheikoifnbaaa", sum := "f7267f7843e2cceddeabf5c66c59e16ea5ac29e1d30350d93dce10be535ca9aa", func := "loop.example/compressionlab/laws.FnTurnBack", spec := "fnTurnBack", apart := false }
def FnTurnBackSaid : Prop := fnTurnBackRow.holds Try.pinned (OpenSpec.ofChange fnTurnBackSpec)

/-- ITS FALSE NEIGHBOUR: 'it returns false'. Refute it at one input. -/
def fnTurnBackWrong : ChangeSpec := { name := "fnTurnBack", fn := fun _ => fun
  | [d] => { results := [.lit (.bool false)], args := [d] }
  | _ => none }
def FnTurnBackWrongFalsely : Prop := fnTurnBackRow.holds Try.pinned (OpenSpec.ofChange fnTurnBackWrong)

/- THE SECOND FORM. 'bulk': how many values and letters a reading holds, each counted each time it is reached (what is shared counts as often as it is met; a slice's spare places count too). A statement '..UptoSaid' is the law's where the arguments, and the package variables that the reading takes, are together of bulk at most 1048576: NARROWER than '..Said'. Prove '..Said' where nothing that the law and all that it calls make is longer than what came in: it says more and counts as full. Else prove '..UptoSaid'. A law counts once. -/
mutual
def uptoBulk {H : Type} : DataW H → Nat
  | .lit (.string bytes) => bytes.length + 1
  | .lit _ => 1
  | .nil => 1
  | .ptr d => uptoBulk d + 1
  | .slice elems spare => uptoBulkAll elems + uptoBulkAll spare + 1
  | .agg parts => uptoBulkAll parts + 1
  | .iface _ d => uptoBulk d + 1
  | .map entries => uptoBulkEntries entries + 1
  | .held _ => 1
def uptoBulkAll {H : Type} : List (DataW H) → Nat
  | [] => 0
  | d :: r => uptoBulk d + uptoBulkAll r
def uptoBulkEntries {H : Type} : List (Lit × DataW H) → Nat
  | [] => 0
  | x :: r => uptoBulkEntry x + uptoBulkEntries r
def uptoBulkEntry {H : Type} : Lit × DataW H → Nat
  | (.string bytes, d) => bytes.length + uptoBulk d + 1
  | (_, d) => uptoBulk d + 1
 end
def uptoSmall : (H : Type) → List (DataW H) → Bool := fun _ ds => decide (uptoBulkAll ds ≤ 1048576)
def OpenSpec.upto (s : _root_.Go.ChangeSpec) : _root_.Go.OpenSpec := { _root_.Go.OpenSpec.ofChange s with cond := some uptoSmall }

/-- 'laws.FnExactRotationsOf', WHERE WHAT IT READS IS OF BULK AT MOST 1048576: true; the input reads as it did. -/
def fnExactRotationsOfUptoRow : OpenClaim := { program := "ytiaheikoifnbaaa", sum := "f7267f7843e2cceddeabf5c66c59e16ea5ac29e1d30350d93dce10be535ca9aa", func := "loop.example/compressionlab/laws.FnExactRotationsOf", spec := "fnExactRotationsOf", apart := false, narrowed := true }
def FnExactRotationsOfUptoSaid : Prop := fnExactRotationsOfUptoRow.holds Try.pinned (OpenSpec.upto fnExactRotationsOfSpec)

/-- 'laws.FnExactTurnOf', WHERE WHAT IT READS IS OF BULK AT MOST 1048576: true; the input reads as it did. -/
def fnExactTurnOfUptoRow : OpenClaim := { program := "ytiaheikoifnbaaa", sum := "f7267f7843e2cceddeabf5c66c59e16ea5ac29e1d30350d93dce10be535ca9aa", func := "loop.example/compressionlab/laws.FnExactTurnOf", spec := "fnExactTurnOf", apart := false, narrowed := true }
def FnExactTurnOfUptoSaid : Prop := fnExactTurnOfUptoRow.holds Try.pinned (OpenSpec.upto fnExactTurnOfSpec)

/-- 'laws.FnRotations', WHERE WHAT IT READS IS OF BULK AT MOST 1048576: true; the input reads as it did. -/
def fnRotationsUptoRow : OpenClaim := { program := "ytiaheikoifnbaaa", sum := "f7267f7843e2cceddeabf5c66c59e16ea5ac29e1d30350d93dce10be535ca9aa", func := "loop.example/compressionlab/laws.FnRotations", spec := "fnRotations", apart := false, narrowed := true }
def FnRotationsUptoSaid : Prop := fnRotationsUptoRow.holds Try.pinned (OpenSpec.upto fnRotationsSpec)

/-- 'laws.FnTurnPlace', WHERE WHAT IT READS IS OF BULK AT MOST 1048576: true; the input reads as it did. -/
def fnTurnPlaceUptoRow : OpenClaim := { program := "ytiaheikoifnbaaa", sum := "f7267f7843e2cceddeabf5c66c59e16ea5ac29e1d30350d93dce10be535ca9aa", func := "loop.example/compressionlab/laws.FnTurnPlace", spec := "fnTurnPlace", apart := false, narrowed := true }
def FnTurnPlaceUptoSaid : Prop := fnTurnPlaceUptoRow.holds Try.pinned (OpenSpec.upto fnTurnPlaceSpec)

/-- 'laws.FnTurnRotate', WHERE WHAT IT READS IS OF BULK AT MOST 1048576: true; the input reads as it did. -/
def fnTurnRotateUptoRow : OpenClaim := { program := "ytiaheikoifnbaaa", sum := "f7267f7843e2cceddeabf5c66c59e16ea5ac29e1d30350d93dce10be535ca9aa", func := "loop.example/compressionlab/laws.FnTurnRotate", spec := "fnTurnRotate", apart := false, narrowed := true }
def FnTurnRotateUptoSaid : Prop := fnTurnRotateUptoRow.holds Try.pinned (OpenSpec.upto fnTurnRotateSpec)

/-- 'laws.FnTurnRun', WHERE WHAT IT READS IS OF BULK AT MOST 1048576: true; the input reads as it did. -/
def fnTurnRunUptoRow : OpenClaim := { program := "ytiaheikoifnbaaa", sum := "f7267f7843e2cceddeabf5c66c59e16ea5ac29e1d30350d93dce10be535ca9aa", func := "loop.example/compressionlab/laws.FnTurnRun", spec := "fnTurnRun", apart := false, narrowed := true }
def FnTurnRunUptoSaid : Prop := fnTurnRunUptoRow.holds Try.pinned (OpenSpec.upto fnTurnRunSpec)

/-- 'laws.FnTurnCounts', WHERE WHAT IT READS IS OF BULK AT MOST 1048576: true; the input reads as it did. -/
def fnTurnCountsUptoRow : OpenClaim := { program := "ytiaheikoifnbaaa", sum := "f7267f7843e2cceddeabf5c66c59e16ea5ac29e1d30350d93dce10be535ca9aa", func := "loop.example/compressionlab/laws.FnTurnCounts", spec := "fnTurnCounts", apart := false, narrowed := true }
def FnTurnCountsUptoSaid : Prop := fnTurnCountsUptoRow.holds Try.pinned (OpenSpec.upto fnTurnCountsSpec)

/-- 'laws.FnTurn', WHERE WHAT IT READS IS OF BULK AT MOST 1048576: true; the input reads as it did. -/
def fnTurnUptoRow : OpenClaim := { program := "ytiaheikoifnbaaa", sum := "f7267f7843e2cceddeabf5c66c59e16ea5ac29e1d30350d93dce10be535ca9aa", func := "loop.example/compressionlab/laws.FnTurn", spec := "fnTurn", apart := false, narrowed := true }
def FnTurnUptoSaid : Prop := fnTurnUptoRow.holds Try.pinned (OpenSpec.upto fnTurnSpec)

/-- 'laws.FnExactTurnBack', WHERE WHAT IT READS IS OF BULK AT MOST 1048576: true; the input reads as it did. -/
def fnExactTurnBackUptoRow : OpenClaim := { program := "ytiaheikoifnbaaa", sum := "f7267f7843e2cceddeabf5c66c59e16ea5ac29e1d30350d93dce10be535ca9aa", func := "loop.example/compressionlab/laws.FnExactTurnBack", spec := "fnExactTurnBack", apart := false, narrowed := true }
def FnExactTurnBackUptoSaid : Prop := fnExactTurnBackUptoRow.holds Try.pinned (OpenSpec.upto fnExactTurnBackSpec)

/-- 'laws.FnTurnBack', WHERE WHAT IT READS IS OF BULK AT MOST 1048576: true; the input reads as it did. -/
def fnTurnBackUptoRow : OpenClaim := { program := "ytiaheikoifnbaaa", sum := "f7267f7843e2cceddeabf5c66c59e16ea5ac29e1d30350d93dce10be535ca9aa", func := "loop.example/compressionlab/laws.FnTurnBack", spec := "fnTurnBack", apart := false, narrowed := true }
def FnTurnBackUptoSaid : Prop := fnTurnBackUptoRow.holds Try.pinned (OpenSpec.upto fnTurnBackSpec)

end Rows
end Go.Proofs.Ytiaheikoifnbaaa
