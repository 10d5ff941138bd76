/- Regions that draw their order, whose calls may make memory but answer one value: every world that extends the one ahead of the region. No condition. -/
import Derived.Test.YtadjjcjhlndpkaaMem
import Derived.Deep.QuietTactic
import Derived.BigQuiet
namespace Go.Proofs.Ytadjjcjhlndpkaa
open Go Go.RowKit

/-- The worlds that have all that W has. -/
structure Ext (W : World) where
  val : World
  bel : Below W.heap.size W val
instance (W : World) : Nonempty (Ext W) := ⟨⟨W, Below.refl _ _⟩⟩
theorem wp_region_ext {P : Program} {id : Nat} {Q : Exit → Act → World → Prop} {a : Act} {w : World} {l : List Oper} (hm : P.follows .mixedOrders = true) (hB : Region.lexB .any l.toArray = true)
    (h : wpQuiet P l.toArray (fun w' => ∃ s : Ext w, w' = s.val) (fun a' => ∀ w', (∃ s : Ext w, w' = s.val) → Q .normal a' w') l a) : (Code.region id l.toArray true).wp P Q a w :=
  wp_region_quiet (C := fun w' => ∃ s : Ext w, w' = s.val) hm hB ⟨⟨_, (Below.refl _ _).drew⟩, rfl⟩ (by simpa using h)
section
variable {P : Program} {f : FuncId} {args : Array Value} {W : World} {s : Ext W}
theorem ext_PNb {n : Int} (h : Calls P f args s.val (PNb s.val n)) : Calls P f args s.val fun e w'' => e = .returned (.int .i64 n) ∧ ∃ s' : Ext W, w'' = s'.val :=
  h.mono fun e w'' ⟨m, hm, he, hb⟩ => ⟨by rw [he, hm.out], ⟨w'', below_on s.bel hb⟩, rfl⟩
theorem ext_PN {n : Int} (h : Calls P f args s.val (PN s.val n)) : Calls P f args s.val fun e w'' => e = .returned (.int .i64 n) ∧ ∃ s' : Ext W, w'' = s'.val :=
  h.mono fun e w'' ⟨m, hm, he, hb⟩ => ⟨by rw [he, hm.out], s, hb.symm⟩
theorem ext_PBb {b : Bool} (h : Calls P f args s.val (PBb s.val b)) : Calls P f args s.val fun e w'' => e = .returned (.bool b) ∧ ∃ s' : Ext W, w'' = s'.val :=
  h.mono fun e w'' ⟨m, hm, he, hb⟩ => ⟨by rw [he, hm.out], ⟨w'', below_on s.bel hb⟩, rfl⟩
theorem ext_PB {b : Bool} (h : Calls P f args s.val (PB s.val b)) : Calls P f args s.val fun e w'' => e = .returned (.bool b) ∧ ∃ s' : Ext W, w'' = s'.val :=
  h.mono fun e w'' ⟨m, hm, he, hb⟩ => ⟨by rw [he, hm.out], s, hb.symm⟩
end
end Go.Proofs.Ytadjjcjhlndpkaa
