/-
  No cell of these rows narrows 'for every input' (looked for: loops, veiled, ifaces, maps, wideKeys, modest, calm, conditions, laid).
  DERIVED. THE GIVEN ROWS OF THIS SEAT. 3 by the template 'for every input the law returns true; each argument reads behind the call as it read before'; 0 by the template 'total and deterministic' (their statements: YtamljhjbmeikiaaGreatTotals.lean).
  GIVEN WITH THE SEED: the statements are not yours to turn. If you find one false, say at which input.
  Laid BY PROGRAM, IN A SANDBOX (cutbox-rows.mjs): the forced cells as the released guide's own fill.sh prints them over the translation a67bfd68d9753a67… (all of the seat's roots in one cut). By AI agents, Wed Nov 11 2026. No macro, syntax, notation, axiom, sorry.
-/
import Derived.Test.YtamljhjbmeikiaaGreatChecked
import GoSem.Claim
import GoSem.ClaimJoined
import GoSem.ClaimMapViews
import Derived.JoinedTies
import Derived.KernelRfl
namespace Go.Proofs.YtamljhjbmeikiaaGreat
/- THE CELL 'sum', in the pinned program and in every row, IS THE sha256 OF THE DUMP (.gsa) THAT YtamljhjbmeikiaaGreatProg.lean LOADS. Nothing in Lean hashes anything: it is a label: what it is worth is what the hold of that sum in a sandbox is worth. -/
noncomputable def Tryz.pinned : Pinned := { name := "ytamljhjbmeikiaagreat", sum := "a67bfd68d9753a67fa568c40231c05ca4ff9d982d37a3a99795ed9c4c186fc92", checked := Tryz.checked }
namespace Rows
def none {H : Type} : Left H := { results := [], args := [] }

/-- 'laws.FnBudgetOpen': WHATEVER THE INPUT: true; the input reads as it did. -/
def fnBudgetOpenSpec : ChangeSpec := { name := "fnBudgetOpen", fn := fun _ => fun
  | [d] => { results := [.lit (.bool true)], args := [d] }
  | _ => none }
def fnBudgetOpenRow : OpenClaim := { program := "ytamljhjbmeikiaagreat", sum := "a67bfd68d9753a67fa568c40231c05ca4ff9d982d37a3a99795ed9c4c186fc92", func := "loop.example/compressionlab/laws.FnBudgetOpen", spec := "fnBudgetOpen", unfollowed := true, recurses := true, apart := false }
def FnBudgetOpenSaid : Prop := fnBudgetOpenRow.holds Tryz.pinned (OpenSpec.ofChange fnBudgetOpenSpec)

/-- ITS FALSE NEIGHBOUR: 'it returns false'. Refute it at one input. -/
def fnBudgetOpenWrong : ChangeSpec := { name := "fnBudgetOpen", fn := fun _ => fun
  | [d] => { results := [.lit (.bool false)], args := [d] }
  | _ => none }
def FnBudgetOpenWrongFalsely : Prop := fnBudgetOpenRow.holds Tryz.pinned (OpenSpec.ofChange fnBudgetOpenWrong)

/-- 'laws.FnBudgetOpenMore': WHATEVER THE INPUT: true; the input reads as it did. -/
def fnBudgetOpenMoreSpec : ChangeSpec := { name := "fnBudgetOpenMore", fn := fun _ => fun
  | [d] => { results := [.lit (.bool true)], args := [d] }
  | _ => none }
def fnBudgetOpenMoreRow : OpenClaim := { program := "ytamljhjbmeikiaagreat", sum := "a67bfd68d9753a67fa568c40231c05ca4ff9d982d37a3a99795ed9c4c186fc92", func := "loop.example/compressionlab/laws.FnBudgetOpenMore", spec := "fnBudgetOpenMore", unfollowed := true, recurses := true, apart := false }
def FnBudgetOpenMoreSaid : Prop := fnBudgetOpenMoreRow.holds Tryz.pinned (OpenSpec.ofChange fnBudgetOpenMoreSpec)

/-- ITS FALSE NEIGHBOUR: 'it returns false'. Refute it at one input. -/
def fnBudgetOpenMoreWrong : ChangeSpec := { name := "fnBudgetOpenMore", fn := fun _ => fun
  | [d] => { results := [.lit (.bool false)], args := [d] }
  | _ => none }
def FnBudgetOpenMoreWrongFalsely : Prop := fnBudgetOpenMoreRow.holds Tryz.pinned (OpenSpec.ofChange fnBudgetOpenMoreWrong)

/-- 'laws.FnBudgetOpenNone': WHATEVER THE INPUT: true; the input reads as it did. -/
def fnBudgetOpenNoneSpec : ChangeSpec := { name := "fnBudgetOpenNone", fn := fun _ => fun
  | [d] => { results := [.lit (.bool true)], args := [d] }
  | _ => none }
def fnBudgetOpenNoneRow : OpenClaim := { program := "ytamljhjbmeikiaagreat", sum := "a67bfd68d9753a67fa568c40231c05ca4ff9d982d37a3a99795ed9c4c186fc92", func := "loop.example/compressionlab/laws.FnBudgetOpenNone", spec := "fnBudgetOpenNone", unfollowed := true, recurses := true, apart := false }
def FnBudgetOpenNoneSaid : Prop := fnBudgetOpenNoneRow.holds Tryz.pinned (OpenSpec.ofChange fnBudgetOpenNoneSpec)

/-- ITS FALSE NEIGHBOUR: 'it returns false'. Refute it at one input. -/
def fnBudgetOpenNoneWrong : ChangeSpec := { name := "fnBudgetOpenNone", fn := fun _ => fun
  | [d] => { results := [.lit (.bool false)], args := [d] }
  | _ => none }
def FnBudgetOpenNoneWrongFalsely : Prop := fnBudgetOpenNoneRow.holds Tryz.pinned (OpenSpec.ofChange fnBudgetOpenNoneWrong)

/- THE SECOND FORM. 'bulk': how many values and letters a reading holds, each counted each time it is reached (what is shared counts as often as it is met; a slice's spare places count too). A statement '..UptoSaid' is the law's where the arguments, and the package variables that the reading takes, are together of bulk at most 1048576: NARROWER than '..Said'. Prove '..Said' where nothing that the law and all that it calls make is longer than what came in: it says more and counts as full. Else prove '..UptoSaid'. A law counts once. -/
mutual
def uptoBulk {H : Type} : DataW H → Nat
  | .lit (.string bytes) => bytes.length + 1
  | .lit _ => 1
  | .nil => 1
  | .ptr d => uptoBulk d + 1
  | .slice elems spare => uptoBulkAll elems + uptoBulkAll spare + 1
  | .agg parts => uptoBulkAll parts + 1
  | .iface _ d => uptoBulk d + 1
  | .map entries => uptoBulkEntries entries + 1
  | .held _ => 1
def uptoBulkAll {H : Type} : List (DataW H) → Nat
  | [] => 0
  | d :: r => uptoBulk d + uptoBulkAll r
def uptoBulkEntries {H : Type} : List (Lit × DataW H) → Nat
  | [] => 0
  | x :: r => uptoBulkEntry x + uptoBulkEntries r
def uptoBulkEntry {H : Type} : Lit × DataW H → Nat
  | (.string bytes, d) => bytes.length + uptoBulk d + 1
  | (_, d) => uptoBulk d + 1
 end
def uptoSmall : (H : Type) → List (DataW H) → Bool := fun _ ds => decide (uptoBulkAll ds ≤ 1048576)
def OpenSpec.upto (s : _root_.Go.ChangeSpec) : _root_.Go.OpenSpec := { _root_.Go.OpenSpec.ofChange s with cond := some uptoSmall }

/-- 'laws.FnBudgetOpen', WHERE WHAT IT READS IS OF BULK AT MOST 1048576: true; the input reads as it did. -/
def fnBudgetOpenUptoRow : OpenClaim := { program := "ytamljhjbmeikiaagreat", sum := "a67bfd68d9753a67fa568c40231c05ca4ff9d982d37a3a99795ed9c4c186fc92", func := "loop.example/compressionlab/laws.FnBudgetOpen", spec := "fnBudgetOpen", unfollowed := true, recurses := true, apart := false, narrowed := true }
def FnBudgetOpenUptoSaid : Prop := fnBudgetOpenUptoRow.holds Tryz.pinned (OpenSpec.upto fnBudgetOpenSpec)

/-- 'laws.FnBudgetOpenMore', WHERE WHAT IT READS IS OF BULK AT MOST 1048576: true; the input reads as it did. -/
def fnBudgetOpenMoreUptoRow : OpenClaim := { program := "ytamljhjbmeikiaagreat", sum := "a67bfd68d9753a67fa568c40231c05ca4ff9d982d37a3a99795ed9c4c186fc92", func := "loop.example/compressionlab/laws.FnBudgetOpenMore", spec := "fnBudgetOpenMore", unfollowed := true, recurses := true, apart := false, narrowed := true }
def FnBudgetOpenMoreUptoSaid : Prop := fnBudgetOpenMoreUptoRow.holds Tryz.pinned (OpenSpec.upto fnBudgetOpenMoreSpec)

/-- 'laws.FnBudgetOpenNone', WHERE WHAT IT READS IS OF BULK AT MOST 1048576: true; the input reads as it did. -/
def fnBudgetOpenNoneUptoRow : OpenClaim := { program := "ytamljhjbmeikiaagreat", sum := "a67bfd68d9753a67fa568c40231c05ca4ff9d982d37a3a99795ed9c4c186fc92", func := "loop.example/compressionlab/laws.FnBudgetOpenNone", spec := "fnBudgetOpenNone", unfollowed := true, recurses := true, apart := false, narrowed := true }
def FnBudgetOpenNoneUptoSaid : Prop := fnBudgetOpenNoneUptoRow.holds Tryz.pinned (OpenSpec.upto fnBudgetOpenNoneSpec)

end Rows
end Go.Proofs.YtamljhjbmeikiaaGreat
