/-
  No cell of these rows narrows 'for every input' (looked for: loops, veiled, ifaces, maps, wideKeys, modest, calm, conditions, laid).
  DERIVED. THE GIVEN ROWS OF THIS SEAT. 13 by the template 'for every input the law returns true; each argument reads behind the call as it read before'; 0 by the template 'total and deterministic' (their statements: YtadjjcjhlndpkaaTotals.lean).
  GIVEN WITH THE SEED: the statements are not yours to turn. If you find one false, say at which input.
  Laid BY PROGRAM, IN A SANDBOX (cutbox-rows.mjs): the forced cells as the released guide's own fill.sh prints them over the translation dd20bf01dac91d89… (all of the seat's roots in one cut). By AI agents, Wed Nov 11 2026. No macro, syntax, notation, axiom, sorry.
-/
import Derived.Test.YtadjjcjhlndpkaaChecked
import GoSem.Claim
import GoSem.ClaimJoined
import GoSem.ClaimMapViews
import Derived.JoinedTies
import Derived.KernelRfl
namespace Go.Proofs.Ytadjjcjhlndpkaa
/- THE CELL 'sum', in the pinned program and in every row, IS THE sha256 OF THE DUMP (.gsa) THAT YtadjjcjhlndpkaaProg.lean LOADS. Nothing in Lean hashes anything: it is a label: what it is worth is what the hold of that sum in a sandbox is worth. -/
noncomputable def Try.pinned : Pinned := { name := "ytadjjcjhlndpkaa", sum := "dd20bf01dac91d89325ecd042856035efd885e73e001c04c1a88ee18d4281240", checked := Try.checked }
namespace Rows
def none {H : Type} : Left H := { results := [], args := [] }

/-- 'laws.FnExactTagOf': WHATEVER THE INPUT: true; the input reads as it did. -/
def fnExactTagOfSpec : ChangeSpec := { name := "fnExactTagOf", fn := fun _ => fun
  | [d1, d2] => { results := [.lit (.bool true)], args := [d1, d2] }
  | _ => none }
def fnExactTagOfRow : OpenClaim := { program := "ytadjjcjhlndpkaa", sum := "dd20bf01dac91d89325ecd042856035efd885e73e001c04c1a88ee18d4281240", func := "loop.example/compressionlab/laws.FnExactTagOf", spec := "fnExactTagOf", apart := false }
def FnExactTagOfSaid : Prop := fnExactTagOfRow.holds Try.pinned (OpenSpec.ofChange fnExactTagOfSpec)

/-- ITS FALSE NEIGHBOUR: 'it returns false'. Refute it at one input. -/
def fnExactTagOfWrong : ChangeSpec := { name := "fnExactTagOf", fn := fun _ => fun
  | [d1, d2] => { results := [.lit (.bool false)], args := [d1, d2] }
  | _ => none }
def FnExactTagOfWrongFalsely : Prop := fnExactTagOfRow.holds Try.pinned (OpenSpec.ofChange fnExactTagOfWrong)

/-- 'laws.FnBudgetGive': WHATEVER THE INPUT: true; the input reads as it did. -/
def fnBudgetGiveSpec : ChangeSpec := { name := "fnBudgetGive", fn := fun _ => fun
  | [d] => { results := [.lit (.bool true)], args := [d] }
  | _ => none }
def fnBudgetGiveRow : OpenClaim := { program := "ytadjjcjhlndpkaa", sum := "dd20bf01dac91d89325ecd042856035efd885e73e001c04c1a88ee18d4281240", func := "loop.example/compressionlab/laws.FnBudgetGive", spec := "fnBudgetGive", apart := false }
def FnBudgetGiveSaid : Prop := fnBudgetGiveRow.holds Try.pinned (OpenSpec.ofChange fnBudgetGiveSpec)

/-- ITS FALSE NEIGHBOUR: 'it returns false'. Refute it at one input. -/
def fnBudgetGiveWrong : ChangeSpec := { name := "fnBudgetGive", fn := fun _ => fun
  | [d] => { results := [.lit (.bool false)], args := [d] }
  | _ => none }
def FnBudgetGiveWrongFalsely : Prop := fnBudgetGiveRow.holds Try.pinned (OpenSpec.ofChange fnBudgetGiveWrong)

/-- 'laws.FnBudgetTake': WHATEVER THE INPUT: true; the input reads as it did. -/
def fnBudgetTakeSpec : ChangeSpec := { name := "fnBudgetTake", fn := fun _ => fun
  | [d] => { results := [.lit (.bool true)], args := [d] }
  | _ => none }
def fnBudgetTakeRow : OpenClaim := { program := "ytadjjcjhlndpkaa", sum := "dd20bf01dac91d89325ecd042856035efd885e73e001c04c1a88ee18d4281240", func := "loop.example/compressionlab/laws.FnBudgetTake", spec := "fnBudgetTake", apart := false }
def FnBudgetTakeSaid : Prop := fnBudgetTakeRow.holds Try.pinned (OpenSpec.ofChange fnBudgetTakeSpec)

/-- ITS FALSE NEIGHBOUR: 'it returns false'. Refute it at one input. -/
def fnBudgetTakeWrong : ChangeSpec := { name := "fnBudgetTake", fn := fun _ => fun
  | [d] => { results := [.lit (.bool false)], args := [d] }
  | _ => none }
def FnBudgetTakeWrongFalsely : Prop := fnBudgetTakeRow.holds Try.pinned (OpenSpec.ofChange fnBudgetTakeWrong)

/-- 'laws.FnBudgetTwo': WHATEVER THE INPUT: true; the input reads as it did. -/
def fnBudgetTwoSpec : ChangeSpec := { name := "fnBudgetTwo", fn := fun _ => fun
  | [d1, d2] => { results := [.lit (.bool true)], args := [d1, d2] }
  | _ => none }
def fnBudgetTwoRow : OpenClaim := { program := "ytadjjcjhlndpkaa", sum := "dd20bf01dac91d89325ecd042856035efd885e73e001c04c1a88ee18d4281240", func := "loop.example/compressionlab/laws.FnBudgetTwo", spec := "fnBudgetTwo", apart := false }
def FnBudgetTwoSaid : Prop := fnBudgetTwoRow.holds Try.pinned (OpenSpec.ofChange fnBudgetTwoSpec)

/-- ITS FALSE NEIGHBOUR: 'it returns false'. Refute it at one input. -/
def fnBudgetTwoWrong : ChangeSpec := { name := "fnBudgetTwo", fn := fun _ => fun
  | [d1, d2] => { results := [.lit (.bool false)], args := [d1, d2] }
  | _ => none }
def FnBudgetTwoWrongFalsely : Prop := fnBudgetTwoRow.holds Try.pinned (OpenSpec.ofChange fnBudgetTwoWrong)

/-- 'laws.FnTag': WHATEVER THE INPUT: true; the input reads as it did. -/
def fnTagSpec : ChangeSpec := { name := "fnTag", fn := fun _ => fun
  | [d1, d2] => { results := [.lit (.bool true)], args := [d1, d2] }
  | _ => none }
def fnTagRow : OpenClaim := { program := "ytadjjcjhlndpkaa", sum := "dd20bf01dac91d89325ecd042856035efd885e73e001c04c1a88ee18d4281240", func := "loop.example/compressionlab/laws.FnTag", spec := "fnTag", apart := false }
def FnTagSaid : Prop := fnTagRow.holds Try.pinned (OpenSpec.ofChange fnTagSpec)

/-- ITS FALSE NEIGHBOUR: 'it returns false'. Refute it at one input. -/
def fnTagWrong : ChangeSpec := { name := "fnTag", fn := fun _ => fun
  | [d1, d2] => { results := [.lit (.bool false)], args := [d1, d2] }
  | _ => none }
def FnTagWrongFalsely : Prop := fnTagRow.holds Try.pinned (OpenSpec.ofChange fnTagWrong)

/-- 'laws.FnTagKey': WHATEVER THE INPUT: true; the input reads as it did. -/
def fnTagKeySpec : ChangeSpec := { name := "fnTagKey", fn := fun _ => fun
  | [d] => { results := [.lit (.bool true)], args := [d] }
  | _ => none }
def fnTagKeyRow : OpenClaim := { program := "ytadjjcjhlndpkaa", sum := "dd20bf01dac91d89325ecd042856035efd885e73e001c04c1a88ee18d4281240", func := "loop.example/compressionlab/laws.FnTagKey", spec := "fnTagKey", apart := false }
def FnTagKeySaid : Prop := fnTagKeyRow.holds Try.pinned (OpenSpec.ofChange fnTagKeySpec)

/-- ITS FALSE NEIGHBOUR: 'it returns false'. Refute it at one input. -/
def fnTagKeyWrong : ChangeSpec := { name := "fnTagKey", fn := fun _ => fun
  | [d] => { results := [.lit (.bool false)], args := [d] }
  | _ => none }
def FnTagKeyWrongFalsely : Prop := fnTagKeyRow.holds Try.pinned (OpenSpec.ofChange fnTagKeyWrong)

/-- 'laws.FnTagNone': WHATEVER THE INPUT: true; the input reads as it did. -/
def fnTagNoneSpec : ChangeSpec := { name := "fnTagNone", fn := fun _ => fun
  | [d] => { results := [.lit (.bool true)], args := [d] }
  | _ => none }
def fnTagNoneRow : OpenClaim := { program := "ytadjjcjhlndpkaa", sum := "dd20bf01dac91d89325ecd042856035efd885e73e001c04c1a88ee18d4281240", func := "loop.example/compressionlab/laws.FnTagNone", spec := "fnTagNone", apart := false }
def FnTagNoneSaid : Prop := fnTagNoneRow.holds Try.pinned (OpenSpec.ofChange fnTagNoneSpec)

/-- ITS FALSE NEIGHBOUR: 'it returns false'. Refute it at one input. -/
def fnTagNoneWrong : ChangeSpec := { name := "fnTagNone", fn := fun _ => fun
  | [d] => { results := [.lit (.bool false)], args := [d] }
  | _ => none }
def FnTagNoneWrongFalsely : Prop := fnTagNoneRow.holds Try.pinned (OpenSpec.ofChange fnTagNoneWrong)

/-- 'laws.FnBudgetBack': WHATEVER THE INPUT: true; the input reads as it did. -/
def fnBudgetBackSpec : ChangeSpec := { name := "fnBudgetBack", fn := fun _ => fun
  | [d] => { results := [.lit (.bool true)], args := [d] }
  | _ => none }
def fnBudgetBackRow : OpenClaim := { program := "ytadjjcjhlndpkaa", sum := "dd20bf01dac91d89325ecd042856035efd885e73e001c04c1a88ee18d4281240", func := "loop.example/compressionlab/laws.FnBudgetBack", spec := "fnBudgetBack", apart := false }
def FnBudgetBackSaid : Prop := fnBudgetBackRow.holds Try.pinned (OpenSpec.ofChange fnBudgetBackSpec)

/-- ITS FALSE NEIGHBOUR: 'it returns false'. Refute it at one input. -/
def fnBudgetBackWrong : ChangeSpec := { name := "fnBudgetBack", fn := fun _ => fun
  | [d] => { results := [.lit (.bool false)], args := [d] }
  | _ => none }
def FnBudgetBackWrongFalsely : Prop := fnBudgetBackRow.holds Try.pinned (OpenSpec.ofChange fnBudgetBackWrong)

/-- 'laws.FnExactSealPut': WHATEVER THE INPUT: true; the input reads as it did. -/
def fnExactSealPutSpec : ChangeSpec := { name := "fnExactSealPut", fn := fun _ => fun
  | [d1, d2] => { results := [.lit (.bool true)], args := [d1, d2] }
  | _ => none }
def fnExactSealPutRow : OpenClaim := { program := "ytadjjcjhlndpkaa", sum := "dd20bf01dac91d89325ecd042856035efd885e73e001c04c1a88ee18d4281240", func := "loop.example/compressionlab/laws.FnExactSealPut", spec := "fnExactSealPut", apart := false }
def FnExactSealPutSaid : Prop := fnExactSealPutRow.holds Try.pinned (OpenSpec.ofChange fnExactSealPutSpec)

/-- ITS FALSE NEIGHBOUR: 'it returns false'. Refute it at one input. -/
def fnExactSealPutWrong : ChangeSpec := { name := "fnExactSealPut", fn := fun _ => fun
  | [d1, d2] => { results := [.lit (.bool false)], args := [d1, d2] }
  | _ => none }
def FnExactSealPutWrongFalsely : Prop := fnExactSealPutRow.holds Try.pinned (OpenSpec.ofChange fnExactSealPutWrong)

/-- 'laws.FnExactSealOpen': WHATEVER THE INPUT: true; the input reads as it did. -/
def fnExactSealOpenSpec : ChangeSpec := { name := "fnExactSealOpen", fn := fun _ => fun
  | [d1, d2] => { results := [.lit (.bool true)], args := [d1, d2] }
  | _ => none }
def fnExactSealOpenRow : OpenClaim := { program := "ytadjjcjhlndpkaa", sum := "dd20bf01dac91d89325ecd042856035efd885e73e001c04c1a88ee18d4281240", func := "loop.example/compressionlab/laws.FnExactSealOpen", spec := "fnExactSealOpen", apart := false }
def FnExactSealOpenSaid : Prop := fnExactSealOpenRow.holds Try.pinned (OpenSpec.ofChange fnExactSealOpenSpec)

/-- ITS FALSE NEIGHBOUR: 'it returns false'. Refute it at one input. -/
def fnExactSealOpenWrong : ChangeSpec := { name := "fnExactSealOpen", fn := fun _ => fun
  | [d1, d2] => { results := [.lit (.bool false)], args := [d1, d2] }
  | _ => none }
def FnExactSealOpenWrongFalsely : Prop := fnExactSealOpenRow.holds Try.pinned (OpenSpec.ofChange fnExactSealOpenWrong)

/-- 'laws.FnSeal': WHATEVER THE INPUT: true; the input reads as it did. -/
def fnSealSpec : ChangeSpec := { name := "fnSeal", fn := fun _ => fun
  | [d] => { results := [.lit (.bool true)], args := [d] }
  | _ => none }
def fnSealRow : OpenClaim := { program := "ytadjjcjhlndpkaa", sum := "dd20bf01dac91d89325ecd042856035efd885e73e001c04c1a88ee18d4281240", func := "loop.example/compressionlab/laws.FnSeal", spec := "fnSeal", apart := false }
def FnSealSaid : Prop := fnSealRow.holds Try.pinned (OpenSpec.ofChange fnSealSpec)

/-- ITS FALSE NEIGHBOUR: 'it returns false'. Refute it at one input. -/
def fnSealWrong : ChangeSpec := { name := "fnSeal", fn := fun _ => fun
  | [d] => { results := [.lit (.bool false)], args := [d] }
  | _ => none }
def FnSealWrongFalsely : Prop := fnSealRow.holds Try.pinned (OpenSpec.ofChange fnSealWrong)

/-- 'laws.FnSealDamage': WHATEVER THE INPUT: true; the input reads as it did. -/
def fnSealDamageSpec : ChangeSpec := { name := "fnSealDamage", fn := fun _ => fun
  | [d1, d2] => { results := [.lit (.bool true)], args := [d1, d2] }
  | _ => none }
def fnSealDamageRow : OpenClaim := { program := "ytadjjcjhlndpkaa", sum := "dd20bf01dac91d89325ecd042856035efd885e73e001c04c1a88ee18d4281240", func := "loop.example/compressionlab/laws.FnSealDamage", spec := "fnSealDamage", apart := false }
def FnSealDamageSaid : Prop := fnSealDamageRow.holds Try.pinned (OpenSpec.ofChange fnSealDamageSpec)

/-- ITS FALSE NEIGHBOUR: 'it returns false'. Refute it at one input. -/
def fnSealDamageWrong : ChangeSpec := { name := "fnSealDamage", fn := fun _ => fun
  | [d1, d2] => { results := [.lit (.bool false)], args := [d1, d2] }
  | _ => none }
def FnSealDamageWrongFalsely : Prop := fnSealDamageRow.holds Try.pinned (OpenSpec.ofChange fnSealDamageWrong)

/-- 'laws.FnSealOpen': WHATEVER THE INPUT: true; the input reads as it did. -/
def fnSealOpenSpec : ChangeSpec := { name := "fnSealOpen", fn := fun _ => fun
  | [d] => { results := [.lit (.bool true)], args := [d] }
  | _ => none }
def fnSealOpenRow : OpenClaim := { program := "ytadjjcjhlndpkaa", sum := "dd20bf01dac91d89325ecd042856035efd885e73e001c04c1a88ee18d4281240", func := "loop.example/compressionlab/laws.FnSealOpen", spec := "fnSealOpen", apart := false }
def FnSealOpenSaid : Prop := fnSealOpenRow.holds Try.pinned (OpenSpec.ofChange fnSealOpenSpec)

/-- ITS FALSE NEIGHBOUR: 'it returns false'. Refute it at one input. -/
def fnSealOpenWrong : ChangeSpec := { name := "fnSealOpen", fn := fun _ => fun
  | [d] => { results := [.lit (.bool false)], args := [d] }
  | _ => none }
def FnSealOpenWrongFalsely : Prop := fnSealOpenRow.holds Try.pinned (OpenSpec.ofChange fnSealOpenWrong)

/- THE SECOND FORM. 'bulk': how many values and letters a reading holds, each counted each time it is reached (what is shared counts as often as it is met; a slice's spare places count too). A statement '..UptoSaid' is the law's where the arguments, and the package variables that the reading takes, are together of bulk at most 1048576: NARROWER than '..Said'. Prove '..Said' where nothing that the law and all that it calls make is longer than what came in: it says more and counts as full. Else prove '..UptoSaid'. A law counts once. -/
mutual
def uptoBulk {H : Type} : DataW H → Nat
  | .lit (.string bytes) => bytes.length + 1
  | .lit _ => 1
  | .nil => 1
  | .ptr d => uptoBulk d + 1
  | .slice elems spare => uptoBulkAll elems + uptoBulkAll spare + 1
  | .agg parts => uptoBulkAll parts + 1
  | .iface _ d => uptoBulk d + 1
  | .map entries => uptoBulkEntries entries + 1
  | .held _ => 1
def uptoBulkAll {H : Type} : List (DataW H) → Nat
  | [] => 0
  | d :: r => uptoBulk d + uptoBulkAll r
def uptoBulkEntries {H : Type} : List (Lit × DataW H) → Nat
  | [] => 0
  | x :: r => uptoBulkEntry x + uptoBulkEntries r
def uptoBulkEntry {H : Type} : Lit × DataW H → Nat
  | (.string bytes, d) => bytes.length + uptoBulk d + 1
  | (_, d) => uptoBulk d + 1
 end
def uptoSmall : (H : Type) → List (DataW H) → Bool := fun _ ds => decide (uptoBulkAll ds ≤ 1048576)
def OpenSpec.upto (s : _root_.Go.ChangeSpec) : _root_.Go.OpenSpec := { _root_.Go.OpenSpec.ofChange s with cond := some uptoSmall }

/-- 'laws.FnExactTagOf', WHERE WHAT IT READS IS OF BULK AT MOST 1048576: true; the input reads as it did. -/
def fnExactTagOfUptoRow : OpenClaim := { program := "ytadjjcjhlndpkaa", sum := "dd20bf01dac91d89325ecd042856035efd885e73e001c04c1a88ee18d4281240", func := "loop.example/compressionlab/laws.FnExactTagOf", spec := "fnExactTagOf", apart := false, narrowed := true }
def FnExactTagOfUptoSaid : Prop := fnExactTagOfUptoRow.holds Try.pinned (OpenSpec.upto fnExactTagOfSpec)

/-- 'laws.FnBudgetGive', WHERE WHAT IT READS IS OF BULK AT MOST 1048576: true; the input reads as it did. -/
def fnBudgetGiveUptoRow : OpenClaim := { program := "ytadjjcjhlndpkaa", sum := "dd20bf01dac91d89325ecd042856035efd885e73e001c04c1a88ee18d4281240", func := "loop.example/compressionlab/laws.FnBudgetGive", spec := "fnBudgetGive", apart := false, narrowed := true }
def FnBudgetGiveUptoSaid : Prop := fnBudgetGiveUptoRow.holds Try.pinned (OpenSpec.upto fnBudgetGiveSpec)

/-- 'laws.FnBudgetTake', WHERE WHAT IT READS IS OF BULK AT MOST 1048576: true; the input reads as it did. -/
def fnBudgetTakeUptoRow : OpenClaim := { program := "ytadjjcjhlndpkaa", sum := "dd20bf01dac91d89325ecd042856035efd885e73e001c04c1a88ee18d4281240", func := "loop.example/compressionlab/laws.FnBudgetTake", spec := "fnBudgetTake", apart := false, narrowed := true }
def FnBudgetTakeUptoSaid : Prop := fnBudgetTakeUptoRow.holds Try.pinned (OpenSpec.upto fnBudgetTakeSpec)

/-- 'laws.FnBudgetTwo', WHERE WHAT IT READS IS OF BULK AT MOST 1048576: true; the input reads as it did. -/
def fnBudgetTwoUptoRow : OpenClaim := { program := "ytadjjcjhlndpkaa", sum := "dd20bf01dac91d89325ecd042856035efd885e73e001c04c1a88ee18d4281240", func := "loop.example/compressionlab/laws.FnBudgetTwo", spec := "fnBudgetTwo", apart := false, narrowed := true }
def FnBudgetTwoUptoSaid : Prop := fnBudgetTwoUptoRow.holds Try.pinned (OpenSpec.upto fnBudgetTwoSpec)

/-- 'laws.FnTag', WHERE WHAT IT READS IS OF BULK AT MOST 1048576: true; the input reads as it did. -/
def fnTagUptoRow : OpenClaim := { program := "ytadjjcjhlndpkaa", sum := "dd20bf01dac91d89325ecd042856035efd885e73e001c04c1a88ee18d4281240", func := "loop.example/compressionlab/laws.FnTag", spec := "fnTag", apart := false, narrowed := true }
def FnTagUptoSaid : Prop := fnTagUptoRow.holds Try.pinned (OpenSpec.upto fnTagSpec)

/-- 'laws.FnTagKey', WHERE WHAT IT READS IS OF BULK AT MOST 1048576: true; the input reads as it did. -/
def fnTagKeyUptoRow : OpenClaim := { program := "ytadjjcjhlndpkaa", sum := "dd20bf01dac91d89325ecd042856035efd885e73e001c04c1a88ee18d4281240", func := "loop.example/compressionlab/laws.FnTagKey", spec := "fnTagKey", apart := false, narrowed := true }
def FnTagKeyUptoSaid : Prop := fnTagKeyUptoRow.holds Try.pinned (OpenSpec.upto fnTagKeySpec)

/-- 'laws.FnTagNone', WHERE WHAT IT READS IS OF BULK AT MOST 1048576: true; the input reads as it did. -/
def fnTagNoneUptoRow : OpenClaim := { program := "ytadjjcjhlndpkaa", sum := "dd20bf01dac91d89325ecd042856035efd885e73e001c04c1a88ee18d4281240", func := "loop.example/compressionlab/laws.FnTagNone", spec := "fnTagNone", apart := false, narrowed := true }
def FnTagNoneUptoSaid : Prop := fnTagNoneUptoRow.holds Try.pinned (OpenSpec.upto fnTagNoneSpec)

/-- 'laws.FnBudgetBack', WHERE WHAT IT READS IS OF BULK AT MOST 1048576: true; the input reads as it did. -/
def fnBudgetBackUptoRow : OpenClaim := { program := "ytadjjcjhlndpkaa", sum := "dd20bf01dac91d89325ecd042856035efd885e73e001c04c1a88ee18d4281240", func := "loop.example/compressionlab/laws.FnBudgetBack", spec := "fnBudgetBack", apart := false, narrowed := true }
def FnBudgetBackUptoSaid : Prop := fnBudgetBackUptoRow.holds Try.pinned (OpenSpec.upto fnBudgetBackSpec)

/-- 'laws.FnExactSealPut', WHERE WHAT IT READS IS OF BULK AT MOST 1048576: true; the input reads as it did. -/
def fnExactSealPutUptoRow : OpenClaim := { program := "ytadjjcjhlndpkaa", sum := "dd20bf01dac91d89325ecd042856035efd885e73e001c04c1a88ee18d4281240", func := "loop.example/compressionlab/laws.FnExactSealPut", spec := "fnExactSealPut", apart := false, narrowed := true }
def FnExactSealPutUptoSaid : Prop := fnExactSealPutUptoRow.holds Try.pinned (OpenSpec.upto fnExactSealPutSpec)

/-- 'laws.FnExactSealOpen', WHERE WHAT IT READS IS OF BULK AT MOST 1048576: true; the input reads as it did. -/
def fnExactSealOpenUptoRow : OpenClaim := { program := "ytadjjcjhlndpkaa", sum := "dd20bf01dac91d89325ecd042856035efd885e73e001c04c1a88ee18d4281240", func := "loop.example/compressionlab/laws.FnExactSealOpen", spec := "fnExactSealOpen", apart := false, narrowed := true }
def FnExactSealOpenUptoSaid : Prop := fnExactSealOpenUptoRow.holds Try.pinned (OpenSpec.upto fnExactSealOpenSpec)

/-- 'laws.FnSeal', WHERE WHAT IT READS IS OF BULK AT MOST 1048576: true; the input reads as it did. -/
def fnSealUptoRow : OpenClaim := { program := "ytadjjcjhlndpkaa", sum := "dd20bf01dac91d89325ecd042856035efd885e73e001c04c1a88ee18d4281240", func := "loop.example/compressionlab/laws.FnSeal", spec := "fnSeal", apart := false, narrowed := true }
def FnSealUptoSaid : Prop := fnSealUptoRow.holds Try.pinned (OpenSpec.upto fnSealSpec)

/-- 'laws.FnSealDamage', WHERE WHAT IT READS IS OF BULK AT MOST 1048576: true; the input reads as it did. -/
def fnSealDamageUptoRow : OpenClaim := { program := "ytadjjcjhlndpkaa", sum := "dd20bf01dac91d89325ecd042856035efd885e73e001c04c1a88ee18d4281240", func := "loop.example/compressionlab/laws.FnSealDamage", spec := "fnSealDamage", apart := false, narrowed := true }
def FnSealDamageUptoSaid : Prop := fnSealDamageUptoRow.holds Try.pinned (OpenSpec.upto fnSealDamageSpec)

/-- 'laws.FnSealOpen', WHERE WHAT IT READS IS OF BULK AT MOST 1048576: true; the input reads as it did. -/
def fnSealOpenUptoRow : OpenClaim := { program := "ytadjjcjhlndpkaa", sum := "dd20bf01dac91d89325ecd042856035efd885e73e001c04c1a88ee18d4281240", func := "loop.example/compressionlab/laws.FnSealOpen", spec := "fnSealOpen", apart := false, narrowed := true }
def FnSealOpenUptoSaid : Prop := fnSealOpenUptoRow.holds Try.pinned (OpenSpec.upto fnSealOpenSpec)

end Rows
end Go.Proofs.Ytadjjcjhlndpkaa
