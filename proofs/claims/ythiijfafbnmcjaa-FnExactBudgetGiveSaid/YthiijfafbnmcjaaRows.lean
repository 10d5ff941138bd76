/-
  No cell of these rows narrows 'for every input' (looked for: loops, veiled, ifaces, maps, wideKeys, modest, calm, conditions, laid).
  DERIVED. THE GIVEN ROWS OF THIS SEAT. 5 by the template 'for every input the law returns true; each argument reads behind the call as it read before'; 0 by the template 'total and deterministic' (their statements: YthiijfafbnmcjaaTotals.lean).
  GIVEN WITH THE SEED: the statements are not yours to turn. If you find one false, say at which input.
  Laid BY PROGRAM, IN A SANDBOX (cutbox-rows.mjs): the forced cells as the released guide's own fill.sh prints them over the translation 8b20806bb3b9781a… (all of the seat's roots in one cut). By AI agents, Wed Nov 11 2026. No macro, syntax, notation, axiom, sorry.
-/
import Derived.Test.YthiijfafbnmcjaaChecked
import GoSem.Claim
import GoSem.ClaimJoined
import GoSem.ClaimMapViews
import Derived.JoinedTies
import Derived.KernelRfl
namespace Go.Proofs.Ythiijfafbnmcjaa
/- THE CELL 'sum', in the pinned program and in every row, IS THE sha256 OF THE DUMP (.gsa) THAT YthiijfafbnmcjaaProg.lean LOADS. Nothing in Lean hashes anything: it is a label: what it is worth is what the hold of that sum in a sandbox is worth. -/
noncomputable def Try.pinned : Pinned := { name := "ythiijfafbnmcjaa", sum := "8b20806bb3b9781a8ee6ea81e23bf8d8e0470a1d2fbf2db0f76ace8f3b19c583", checked := Try.checked }
namespace Rows
def none {H : Type} : Left H := { results := [], args := [] }

/-- 'laws.FnExactBudgetNew': WHATEVER THE INPUT: true; the input reads as it did. -/
def fnExactBudgetNewSpec : ChangeSpec := { name := "fnExactBudgetNew", fn := fun _ => fun
  | [d] => { results := [.lit (.bool true)], args := [d] }
  | _ => none }
def fnExactBudgetNewRow : OpenClaim := { program := "ythiijfafbnmcjaa", sum := "8b20806bb3b9781a8ee6ea81e23bf8d8e0470a1d2fbf2db0f76ace8f3b19c583", func := "loop.example/compressionlab/laws.FnExactBudgetNew", spec := "fnExactBudgetNew", apart := false }
def FnExactBudgetNewSaid : Prop := fnExactBudgetNewRow.holds Try.pinned (OpenSpec.ofChange fnExactBudgetNewSpec)

/-- ITS FALSE NEIGHBOUR: 'it returns false'. Refute it at one input. -/
def fnExactBudgetNewWrong : ChangeSpec := { name := "fnExactBudgetNew", fn := fun _ => fun
  | [d] => { results := [.lit (.bool false)], args := [d] }
  | _ => none }
def FnExactBudgetNewWrongFalsely : Prop := fnExactBudgetNewRow.holds Try.pinned (OpenSpec.ofChange fnExactBudgetNewWrong)

/-- 'laws.FnExactTextValid': WHATEVER THE INPUT: true; the input reads as it did. -/
def fnExactTextValidSpec : ChangeSpec := { name := "fnExactTextValid", fn := fun _ => fun
  | [d] => { results := [.lit (.bool true)], args := [d] }
  | _ => none }
def fnExactTextValidRow : OpenClaim := { program := "ythiijfafbnmcjaa", sum := "8b20806bb3b9781a8ee6ea81e23bf8d8e0470a1d2fbf2db0f76ace8f3b19c583", func := "loop.example/compressionlab/laws.FnExactTextValid", spec := "fnExactTextValid", apart := false }
def FnExactTextValidSaid : Prop := fnExactTextValidRow.holds Try.pinned (OpenSpec.ofChange fnExactTextValidSpec)

/-- ITS FALSE NEIGHBOUR: 'it returns false'. Refute it at one input. -/
def fnExactTextValidWrong : ChangeSpec := { name := "fnExactTextValid", fn := fun _ => fun
  | [d] => { results := [.lit (.bool false)], args := [d] }
  | _ => none }
def FnExactTextValidWrongFalsely : Prop := fnExactTextValidRow.holds Try.pinned (OpenSpec.ofChange fnExactTextValidWrong)

/-- 'laws.FnExactBudgetGive': WHATEVER THE INPUT: true; the input reads as it did. -/
def fnExactBudgetGiveSpec : ChangeSpec := { name := "fnExactBudgetGive", fn := fun _ => fun
  | [d1, d2] => { results := [.lit (.bool true)], args := [d1, d2] }
  | _ => none }
def fnExactBudgetGiveRow : OpenClaim := { program := "ythiijfafbnmcjaa", sum := "8b20806bb3b9781a8ee6ea81e23bf8d8e0470a1d2fbf2db0f76ace8f3b19c583", func := "loop.example/compressionlab/laws.FnExactBudgetGive", spec := "fnExactBudgetGive", apart := false }
def FnExactBudgetGiveSaid : Prop := fnExactBudgetGiveRow.holds Try.pinned (OpenSpec.ofChange fnExactBudgetGiveSpec)

/-- ITS FALSE NEIGHBOUR: 'it returns false'. Refute it at one input. -/
def fnExactBudgetGiveWrong : ChangeSpec := { name := "fnExactBudgetGive", fn := fun _ => fun
  | [d1, d2] => { results := [.lit (.bool false)], args := [d1, d2] }
  | _ => none }
def FnExactBudgetGiveWrongFalsely : Prop := fnExactBudgetGiveRow.holds Try.pinned (OpenSpec.ofChange fnExactBudgetGiveWrong)

/-- 'laws.FnExactBudgetTake': WHATEVER THE INPUT: true; the input reads as it did. -/
def fnExactBudgetTakeSpec : ChangeSpec := { name := "fnExactBudgetTake", fn := fun _ => fun
  | [d1, d2] => { results := [.lit (.bool true)], args := [d1, d2] }
  | _ => none }
def fnExactBudgetTakeRow : OpenClaim := { program := "ythiijfafbnmcjaa", sum := "8b20806bb3b9781a8ee6ea81e23bf8d8e0470a1d2fbf2db0f76ace8f3b19c583", func := "loop.example/compressionlab/laws.FnExactBudgetTake", spec := "fnExactBudgetTake", apart := false }
def FnExactBudgetTakeSaid : Prop := fnExactBudgetTakeRow.holds Try.pinned (OpenSpec.ofChange fnExactBudgetTakeSpec)

/-- ITS FALSE NEIGHBOUR: 'it returns false'. Refute it at one input. -/
def fnExactBudgetTakeWrong : ChangeSpec := { name := "fnExactBudgetTake", fn := fun _ => fun
  | [d1, d2] => { results := [.lit (.bool false)], args := [d1, d2] }
  | _ => none }
def FnExactBudgetTakeWrongFalsely : Prop := fnExactBudgetTakeRow.holds Try.pinned (OpenSpec.ofChange fnExactBudgetTakeWrong)

/-- 'laws.FnBudgetNew': WHATEVER THE INPUT: true; the input reads as it did. -/
def fnBudgetNewSpec : ChangeSpec := { name := "fnBudgetNew", fn := fun _ => fun
  | [d] => { results := [.lit (.bool true)], args := [d] }
  | _ => none }
def fnBudgetNewRow : OpenClaim := { program := "ythiijfafbnmcjaa", sum := "8b20806bb3b9781a8ee6ea81e23bf8d8e0470a1d2fbf2db0f76ace8f3b19c583", func := "loop.example/compressionlab/laws.FnBudgetNew", spec := "fnBudgetNew", apart := false }
def FnBudgetNewSaid : Prop := fnBudgetNewRow.holds Try.pinned (OpenSpec.ofChange fnBudgetNewSpec)

/-- ITS FALSE NEIGHBOUR: 'it returns false'. Refute it at one input. -/
def fnBudgetNewWrong : ChangeSpec := { name := "fnBudgetNew", fn := fun _ => fun
  | [d] => { results := [.lit (.bool false)], args := [d] }
  | _ => none }
def FnBudgetNewWrongFalsely : Prop := fnBudgetNewRow.holds Try.pinned (OpenSpec.ofChange fnBudgetNewWrong)

/- THE SECOND FORM. 'bulk': how many values and letters a reading holds, each counted each time it is reached (what is shared counts as often as it is met; a slice's spare places count too). A statement '..UptoSaid' is the law's where the arguments, and the package variables that the reading takes, are together of bulk at most 1048576: NARROWER than '..Said'. Prove '..Said' where nothing that the law and all that it calls make is longer than what came in: it says more and counts as full. Else prove '..UptoSaid'. A law counts once. -/
mutual
def uptoBulk {H : Type} : DataW H → Nat
  | .lit (.string bytes) => bytes.length + 1
  | .lit _ => 1
  | .nil => 1
  | .ptr d => uptoBulk d + 1
  | .slice elems spare => uptoBulkAll elems + uptoBulkAll spare + 1
  | .agg parts => uptoBulkAll parts + 1
  | .iface _ d => uptoBulk d + 1
  | .map entries => uptoBulkEntries entries + 1
  | .held _ => 1
def uptoBulkAll {H : Type} : List (DataW H) → Nat
  | [] => 0
  | d :: r => uptoBulk d + uptoBulkAll r
def uptoBulkEntries {H : Type} : List (Lit × DataW H) → Nat
  | [] => 0
  | x :: r => uptoBulkEntry x + uptoBulkEntries r
def uptoBulkEntry {H : Type} : Lit × DataW H → Nat
  | (.string bytes, d) => bytes.length + uptoBulk d + 1
  | (_, d) => uptoBulk d + 1
 end
def uptoSmall : (H : Type) → List (DataW H) → Bool := fun _ ds => decide (uptoBulkAll ds ≤ 1048576)
def OpenSpec.upto (s : _root_.Go.ChangeSpec) : _root_.Go.OpenSpec := { _root_.Go.OpenSpec.ofChange s with cond := some uptoSmall }

/-- 'laws.FnExactBudgetNew', WHERE WHAT IT READS IS OF BULK AT MOST 1048576: true; the input reads as it did. -/
def fnExactBudgetNewUptoRow : OpenClaim := { program := "ythiijfafbnmcjaa", sum := "8b20806bb3b9781a8ee6ea81e23bf8d8e0470a1d2fbf2db0f76ace8f3b19c583", func := "loop.example/compressionlab/laws.FnExactBudgetNew", spec := "fnExactBudgetNew", apart := false, narrowed := true }
def FnExactBudgetNewUptoSaid : Prop := fnExactBudgetNewUptoRow.holds Try.pinned (OpenSpec.upto fnExactBudgetNewSpec)

/-- 'laws.FnExactTextValid', WHERE WHAT IT READS IS OF BULK AT MOST 1048576: true; the input reads as it did. -/
def fnExactTextValidUptoRow : OpenClaim := { program := "ythiijfafbnmcjaa", sum := "8b20806bb3b9781a8ee6ea81e23bf8d8e0470a1d2fbf2db0f76ace8f3b19c583", func := "loop.example/compressionlab/laws.FnExactTextValid", spec := "fnExactTextValid", apart := false, narrowed := true }
def FnExactTextValidUptoSaid : Prop := fnExactTextValidUptoRow.holds Try.pinned (OpenSpec.upto fnExactTextValidSpec)

/-- 'laws.FnExactBudgetGive', WHERE WHAT IT READS IS OF BULK AT MOST 1048576: true; the input reads as it did. -/
def fnExactBudgetGiveUptoRow : OpenClaim := { program := "ythiijfafbnmcjaa", sum := "8b20806bb3b9781a8ee6ea81e23bf8d8e0470a1d2fbf2db0f76ace8f3b19c583", func := "loop.example/compressionlab/laws.FnExactBudgetGive", spec := "fnExactBudgetGive", apart := false, narrowed := true }
def FnExactBudgetGiveUptoSaid : Prop := fnExactBudgetGiveUptoRow.holds Try.pinned (OpenSpec.upto fnExactBudgetGiveSpec)

/-- 'laws.FnExactBudgetTake', WHERE WHAT IT READS IS OF BULK AT MOST 1048576: true; the input reads as it did. -/
def fnExactBudgetTakeUptoRow : OpenClaim := { program := "ythiijfafbnmcjaa", sum := "8b20806bb3b9781a8ee6ea81e23bf8d8e0470a1d2fbf2db0f76ace8f3b19c583", func := "loop.example/compressionlab/laws.FnExactBudgetTake", spec := "fnExactBudgetTake", apart := false, narrowed := true }
def FnExactBudgetTakeUptoSaid : Prop := fnExactBudgetTakeUptoRow.holds Try.pinned (OpenSpec.upto fnExactBudgetTakeSpec)

/-- 'laws.FnBudgetNew', WHERE WHAT IT READS IS OF BULK AT MOST 1048576: true; the input reads as it did. -/
def fnBudgetNewUptoRow : OpenClaim := { program := "ythiijfafbnmcjaa", sum := "8b20806bb3b9781a8ee6ea81e23bf8d8e0470a1d2fbf2db0f76ace8f3b19c583", func := "loop.example/compressionlab/laws.FnBudgetNew", spec := "fnBudgetNew", apart := false, narrowed := true }
def FnBudgetNewUptoSaid : Prop := fnBudgetNewUptoRow.holds Try.pinned (OpenSpec.upto fnBudgetNewSpec)

end Rows
end Go.Proofs.Ythiijfafbnmcjaa
