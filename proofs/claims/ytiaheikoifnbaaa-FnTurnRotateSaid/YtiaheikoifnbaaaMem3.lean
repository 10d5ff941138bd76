/- Parts of slices that are read; an append whose length is spelled otherwise. No condition. -/
import Derived.Test.YtiaheikoifnbaaaMem2
import Derived.Deep.RegionLaw
namespace Go.Proofs.Ytiaheikoifnbaaa
open Go Go.RowKit

theorem RI.cutAt {w : World} {A : Option Addr} {c : Nat} {xs : List Int} (h : RI w A c xs) {k : Nat} (hk : k ≤ xs.length) : RI w (if c = k then A else A.map (·.add k)) (c - k) (xs.drop k) := by
  have h1 := RG.cut (k := k) h hk
  unfold RI
  rw [List.length_drop]
  simpa [ints, List.map_drop] using h1
theorem RI.takeAt {w : World} {A : Option Addr} {c : Nat} {xs : List Int} (h : RI w A c xs) {k : Nat} (hk : k ≤ xs.length) : RI w A c (xs.take k) := by
  have h1 := RG.take_ (k := k) h hk
  unfold RI
  rw [List.length_take, Nat.min_eq_left hk]
  simpa [ints, List.map_take] using h1
section
variable {P : Program} {w : World} {ops : Array Oper} {rest : List Oper} {o : Oper} {a : Act} {Q : Exit → Act → World → Prop}
/-- 'append(xs, ys...)' of ints in a region that draws its order; the lengths may be spelled otherwise. -/
theorem stp_app2 {T : TypeId} (hS : SlT P T 3 1 8 (.int .i64 0)) {E : Prop} {K : Act → World → Prop} (hgd : o.guard = none) (s x : Operand)
    (hop : o.op = .call { callee := .builtin .append, args := #[s, x], argTypes := #[T, T] })
    {base c n : Nat} {A : Option Addr} (xs : List Int) (hs : a.eval s = .slice A n c) (hn : n = xs.length) (ho : OI w base A c xs)
    {B : Option Addr} {d m : Nat} (ys : List Int) (hx : a.eval x = .slice B m d) (hm : m = ys.length) (hr : RI w B d ys) (hl : xs.length + ys.length ≤ 17592186044416) (hbase : base ≤ w.heap.size)
    (h : ∀ A' c' w' zs, Hid (zs = xs ++ ys) → OI w' base A' c' zs → w.grownBy w' (blk A) → (blk A' = blk A ∨ blk A' = some w.heap.size) → K (a.put o.dst (.slice A' zs.length c')) w') :
    if Region.wanted o (yielded ops a.tmps) = true then Oper.wp P o a w K Q else E := by
  subst hn hm
  exact stp_app hS hgd s x hop hs ho hx hr hl hbase h
/-- The same outside such a region. -/
theorem wpl_app2 {T : TypeId} (hS : SlT P T 3 1 8 (.int .i64 0)) (hgd : o.guard = none) (s x : Operand)
    (hop : o.op = .call { callee := .builtin .append, args := #[s, x], argTypes := #[T, T] })
    {base c n : Nat} {A : Option Addr} (xs : List Int) (hs : a.eval s = .slice A n c) (hn : n = xs.length) (ho : OI w base A c xs)
    {B : Option Addr} {d m : Nat} (ys : List Int) (hx : a.eval x = .slice B m d) (hm : m = ys.length) (hr : RI w B d ys) (hl : xs.length + ys.length ≤ 17592186044416) (hbase : base ≤ w.heap.size)
    (h : ∀ A' c' w' zs, Hid (zs = xs ++ ys) → OI w' base A' c' zs → w.grownBy w' (blk A) → (blk A' = blk A ∨ blk A' = some w.heap.size) → wpList P ops Q rest (a.put o.dst (.slice A' zs.length c')) w') : wpList P ops Q (o :: rest) a w := by
  subst hn hm
  exact wpl_app hS hgd s x hop hs ho hx hr hl hbase h
end
end Go.Proofs.Ytiaheikoifnbaaa
