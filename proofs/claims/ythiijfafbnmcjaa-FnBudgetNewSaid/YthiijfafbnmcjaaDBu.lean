/- Budgets are drawn: what is drawn is of no matter, only that it is drawn. No condition. -/
import Derived.Test.YthiijfafbnmcjaaCPk
import Derived.Test.YthiijfafbnmcjaaCBu
namespace Go.Proofs.Ythiijfafbnmcjaa
open Go Go.RowKit

theorem DrawBudgetNew_any (A : Option Addr) (c : Nat) (bs : List Int) (w : World) (hr : RY w A c bs) :
    Calls Try.prog 20 #[.slice A bs.length c] w fun e w' => ∃ n, e = .returned (.int .i64 n) ∧ Below w.heap.size w w' := by
  go_enter Try.func20, Try.ntmps20
  go_wp2_with fail
  refine (l6Open_any _ _ _ _ hr).mono ?_
  rintro e w1 ⟨g, rfl, hg, hR1, hb1⟩
  go_wp2_with fail
  refine (pick_any _ _ _ _ hR1 (by omega) (by omega) (by omega)).mono ?_
  rintro e w2 ⟨m, hm0, hm1, rfl, hR2, hg2⟩
  by_cases hm : m = 0
  · subst hm
    go_wp2_with fail
    have ho := OI.litI w2 w2.heap.size [-1, 0, 9999, 10000] (Nat.le_refl _) (by simp)
    refine (pick_any _ _ _ _ (hR2.below (below_new _ _)) (by omega) (by omega) (by omega)).mono ?_
    rintro e w3 ⟨m3, hm30, hm31, rfl, hR3, hg3⟩
    have ho3 := OI.past ho hg3 hR2.lt
    go_wp2_with (refine wpl_idx (xs := [-1, 0, 9999, 10000]) intT rfl _ _ rfl rfl rfl ho3.ri hm30 (by simp; omega) ?_; intro q v hv hc _)
    go_ret
    exact ⟨_, rfl, below_gb (gb_trans (gb_below (gb_trans (gb_of hb1 (some g)) hg2) (below_new _ _)) hg3) hg⟩
  · have hq : (m == 0) = false := by simp [hm]
    clear hm
    go_wp2_with fail
    refine (pick_any _ _ _ _ hR2 (by omega) (by omega) (by omega)).mono ?_
    rintro e w3 ⟨m3, hm30, hm31, rfl, hR3, hg3⟩
    go_wp2_with fail
    refine (pick_any _ _ _ _ hR3 (by omega) (by omega) (by omega)).mono ?_
    rintro e w4 ⟨m4, hm40, hm41, rfl, hR4, hg4⟩
    go_wp2_with fail
    go_ret
    exact ⟨_, rfl, below_gb (gb_trans (gb_trans (gb_trans (gb_of hb1 (some g)) hg2) hg3) hg4) hg⟩
end Go.Proofs.Ythiijfafbnmcjaa
