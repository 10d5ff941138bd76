/- Draws: the reader's block, boxes of the call's own. No condition. -/
import Derived.Test.YtiaheikoifnbaaaCPk
import Derived.Deep.RegionHeld3
import Derived.Deep.RegionWith
import Derived.Deep.CutRange
namespace Go.Proofs.Ytiaheikoifnbaaa
open Go Go.RowKit

/-- A box of the call's own, made by it. -/
def BX (w : World) (b : Nat) (vs : Array Value) (T : TypeId) : Prop := w.heap[b]? = some (.cells vs T (0, 0))
section
variable {w w' : World} {b : Nat} {vs : Array Value} {T : TypeId}
theorem BX.lt (h : BX w b vs T) : b < w.heap.size := (Array.getElem?_eq_some_iff.1 h).1
theorem BX.new (w : World) (vs : Array Value) (T : TypeId) : BX (w.alloc (.cells vs T)) w.heap.size vs T := heap_alloc_new w _
theorem BX.below (h : BX w b vs T) (hb : Below w.heap.size w w') : BX w' b vs T := (hb.block b h.lt).trans h
theorem BX.past (h : BX w b vs T) {g : Nat} (hg : w.grownBy w' (some g)) (hne : g ≠ b) : BX w' b vs T := (hg.block b h.lt (fun e => by injection e; omega)).trans h
theorem BX.alloc (h : BX w b vs T) (o : Obj) : BX (w.alloc o) b vs T := h.below (below_new _ _)
theorem BX.drew (h : BX w b vs T) : BX w.drew b vs T := h
theorem BX.cell (h : BX w b vs T) (i : Nat) : w.cell? ⟨b, i, none⟩ = vs[i]? := cell_of_row w b i _ _ _ h
theorem BX.frozen (h : BX w b vs T) (i : Nat) : w.frozen? ⟨b, i, none⟩ = false := frozen_of_row w b i _ _ h
theorem BX.set (h : BX w b vs T) (i : Nat) (v : Value) : BX (w.setCell ⟨b, i, none⟩ v) b (vs.setIfInBounds i v) T := heap_setCell_same w b i vs T v h
theorem BX.other (h : BX w b vs T) {a : Addr} (v : Value) (hne : b ≠ a.block) : BX (w.setCell a v) b vs T := (heap_setCell_other w a b v hne).trans h
end

/-- The reader at block g, p numbers drawn; of what was there in w0 only its block has turned. -/
structure DS (w0 w : World) (g p : Nat) : Prop where
  rd : Rd w g p
  gb : w0.grownBy w (some g)
section
variable {w0 w w' : World} {g p : Nat}
theorem DS.below (h : DS w0 w g p) (hb : Below w.heap.size w w') : DS w0 w' g p := ⟨h.rd.below hb, gb_below h.gb hb⟩
theorem DS.new (h : DS w0 w g p) (o : Obj) : DS w0 (w.alloc o) g p := h.below (below_new _ _)
theorem DS.drew (h : DS w0 w g p) : DS w0 w.drew g p := h.below (Below.drew (Below.refl _ _))
theorem DS.own (h : DS w0 w g p) {base c : Nat} {A : Option Addr} {xs : List Int} (ho : OI w base A c xs) (hg : w.grownBy w' (blk A)) (h1 : g < base) (h2 : w0.heap.size ≤ base) : DS w0 w' g p :=
  ⟨h.rd.grown hg fun r hr => by have := (OI.lt ho hr).1; omega, gb_own h.gb hg fun r hr => by have := (OI.lt ho hr).1; omega⟩
theorem DS.refl (h : Rd w g p) : DS w w g p := ⟨h, gb_refl _ _⟩
/-- A struct of one's own is written. -/
theorem DS.setCell (h : DS w0 w g p) {a : Addr} (v : Value) (h1 : g < a.block) (h2 : w0.heap.size ≤ a.block) : DS w0 (w.setCell a v) g p := by
  have hg : w.grownBy (w.setCell a v) (some a.block) := ⟨rfl, rfl, rfl, by simp [World.setCell], fun k _ hk => heap_setCell_other w a k v (fun e => hk (by simp [e]))⟩
  exact ⟨h.rd.grown hg fun r hr => by injection hr; omega, gb_own h.gb hg fun r hr => by injection hr; omega⟩
theorem DS.trans {w1 : World} {q : Nat} (h : DS w0 w g p) (k : DS w w1 g q) : DS w0 w1 g q := ⟨k.rd, gb_trans h.gb k.gb⟩
end
def PD (w0 w : World) (g p : Nat) (n : Int) (e : Ending) (w' : World) : Prop := ∃ m, 0 ≤ m ∧ m ≤ n - 1 ∧ e = .returned (.int .i64 m) ∧ DS w0 w' g (p + 1) ∧ w.grownBy w' (some g)
theorem gb_setCell (w : World) (a : Addr) (v : Value) : w.grownBy (w.setCell a v) (some a.block) :=
  ⟨rfl, rfl, rfl, by simp [World.setCell], fun k _ hk => heap_setCell_other w a k v (fun e => hk (by simp [e]))⟩
theorem OI.setOther {w : World} {base c : Nat} {A : Option Addr} {xs : List Int} (h : OI w base A c xs) (a : Addr) (v : Value) (hb : a.block < base) : OI (w.setCell a v) base A c xs := OI.past h (gb_setCell w a v) hb
theorem DS.fin {w0 w1 w : World} {g p : Nat} (h : DS w1 w g p) (hb : Below w0.heap.size w0 w1) (hg : w0.heap.size ≤ g) : Below w0.heap.size w0 w := below_gb (gb_trans (gb_of hb (some g)) h.gb) hg
theorem below_set2 {w w' : World} {u v : Value} (h : Below w.heap.size w w') : Below w.heap.size w ((w'.setCell ⟨w.heap.size, 0, none⟩ u).setCell ⟨w.heap.size, 1, none⟩ v) :=
  below_gb (gb_trans (gb_trans (gb_of h (some w.heap.size)) (gb_setCell w' ⟨w.heap.size, 0, none⟩ _)) (gb_setCell _ ⟨w.heap.size, 1, none⟩ _)) (Nat.le_refl _)
theorem BX.set3 {w : World} {b : Nat} {x y z : Value} {T : TypeId} (h : BX w b #[x, y, z] T) (u v t : Value) : BX (((w.setCell ⟨b, 0, none⟩ u).setCell ⟨b, 1, none⟩ v).setCell ⟨b, 2, none⟩ t) b #[u, v, t] T := by
  simpa using ((h.set 0 u).set 1 v).set 2 t
theorem BX.other3 {w : World} {b c : Nat} {vs : Array Value} {T : TypeId} (h : BX w c vs T) (u v t : Value) (hne : c ≠ b) : BX (((w.setCell ⟨b, 0, none⟩ u).setCell ⟨b, 1, none⟩ v).setCell ⟨b, 2, none⟩ t) c vs T :=
  ((h.other (a := ⟨b, 0, none⟩) u hne).other (a := ⟨b, 1, none⟩) v hne).other (a := ⟨b, 2, none⟩) t hne
theorem DS.set3 {w0 w : World} {g p b : Nat} (h : DS w0 w g p) (u v t : Value) (h1 : g < b) (h2 : w0.heap.size ≤ b) : DS w0 (((w.setCell ⟨b, 0, none⟩ u).setCell ⟨b, 1, none⟩ v).setCell ⟨b, 2, none⟩ t) g p :=
  ((h.setCell (a := ⟨b, 0, none⟩) u h1 h2).setCell (a := ⟨b, 1, none⟩) v h1 h2).setCell (a := ⟨b, 2, none⟩) t h1 h2
theorem pick_ds {w0 w : World} {g p : Nat} (h : DS w0 w g p) (n : Int) (hp : p ≤ 1000000) (hn : 1 ≤ n) (hn' : n ≤ 1000000) :
    Calls Try.prog 43 #[.pointer (some ⟨g, 0, none⟩), .int .i64 n] w (PD w0 w g p n) :=
  (pick_any g p n w h.rd hp hn hn').mono fun _ _ ⟨m, h0, h1, he, hR, hg⟩ => ⟨m, h0, h1, he, ⟨hR, gb_trans h.gb hg⟩, hg⟩

end Go.Proofs.Ytiaheikoifnbaaa
