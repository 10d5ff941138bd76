/- Contracts: the reference's tag; lengths of seals. No condition. -/
import Derived.Test.YtadjjcjhlndpkaaCTg3
namespace Go.Proofs.Ytadjjcjhlndpkaa
open Go Go.RowKit

theorem sealPut_len {a b : Int} {xs : List Int} (h : xs.length ≤ 1048576) : ((sealPut a b xs).getD []).length ≤ 100000000 := by
  unfold sealPut
  split <;> simp
  omega
theorem sealOpen_len {a b : Int} {xs : List Int} (h : xs.length ≤ 1048576) : ((sealOpen a b xs).getD []).length ≤ 100000000 := by
  unfold sealOpen
  split
  · simp
  · split <;> simp
    omega

theorem sTagOf_any (a b : Int) (A : Option Addr) (c : Nat) (xs : List Int) (w : World) (hr : RI w A c xs) :
    Calls Try.prog 16 #[.agg #[.int .i64 a, .int .i64 b], .slice A xs.length c] w (PNb w (tagOf a b xs)) := by
  have hrw := hr.below (below_new w (.cells #[.int .i64 a, .int .i64 b] 26))
  go_enter Try.func16, Try.ntmps16
  go_wp2_with fail
  refine (l31Ok_any _ _ _ _ _ _ hrw).mono ?_
  rintro e w1 ⟨ok, hok, rfl, hb1⟩
  have kb0 : w1.cell? ⟨w.heap.size, 0, none⟩ = some (.int .i64 a) := (hb1.cell (by simp)).trans (by simp)
  have kb1 : w1.cell? ⟨w.heap.size, 1, none⟩ = some (.int .i64 b) := (hb1.cell (by simp)).trans (by simp)
  cases ok
  · go_wp2_with fail
    go_ret
    exact ⟨_, hid (by simp [tagOf, hok.out.symm]), rfl, below_on (below_new _ _) hb1⟩
  · go_wp2_with fail
    refine (l31Tag_any _ _ _ _ _ _ (hrw.below hb1) hok.out.symm).mono ?_
    rintro e w2 ⟨t, ht, rfl, hb2⟩
    go_wp2_with fail
    go_ret
    exact ⟨_, hid (by rw [ht.out]; simp [tagOf, hok.out.symm]), rfl, below_on (below_on (below_new _ _) hb1) hb2⟩
end Go.Proofs.Ytadjjcjhlndpkaa
