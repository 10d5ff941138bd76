/- Contracts: lists' symbols. No condition. -/
import Derived.Test.YtiaheikoifnbaaaC1
import Derived.Test.YtiaheikoifnbaaaPlRt
namespace Go.Proofs.Ytiaheikoifnbaaa
open Go Go.RowKit

theorem ListValid_any (A : Option Addr) (c : Nat) (xs : List Int) (w : World) (hr : RI w A c xs) : Calls Try.prog 31 #[.slice A xs.length c] w (PB w (listOk xs)) := by
  by_cases h : xs.length ≤ 40
  · go_enter Try.func31, Try.ntmps31
    go_wp2_with fail
    refine (every_any _ _ _ _ _ _ hr).mono ?_
    rintro e w' ⟨b, hb1, rfl, rfl⟩
    go_wp2_with fail
    go_ret
    exact ⟨_, hid (by simp [listOk, h, hb1.out]), rfl, rfl⟩
  · have h' : 40 < xs.length := by omega
    go_enter Try.func31, Try.ntmps31
    go_wp2_with fail
    go_ret
    exact ⟨_, hid (by simp [listOk, h]), rfl, rfl⟩

theorem sListValid_any (A : Option Addr) (c : Nat) (xs : List Int) (w : World) (hr : RI w A c xs) : Calls Try.prog 23 #[.slice A xs.length c] w (PB w (listOk xs)) := by
  have hbig := hr.big
  have hcap := hr.cap
  unfold maxLen at hbig
  go_enter Try.func23, Try.ntmps23
  go_wp2_with fail
  go_loop [3] (fun i => ∃ k : Nat, k ≤ xs.length ∧ i = .int .i64 k ∧ Hid ((xs.take k).all (inB 0 7) = true)) (fun i => xs.length - (intOf i).toNat)
  case atStart => exact ⟨0, by omega, rfl, by simp [Hid]⟩
  case round =>
    obtain ⟨k, hk, rfl, hh⟩ := hrel
    by_cases hlt : k < xs.length
    · obtain ⟨ad, x, rfl, HX, hc⟩ := hr.get hlt
      go_wp2_with (go_at_call 35; refine (l6In_any _ _ _ _).mono ?_; rintro e w' ⟨b, hb1, rfl, rfl⟩; cases b)
      · go_ret
        exact ⟨_, hid (by simp only [listOk, all_no HX.out hb1.out.symm, Bool.and_false]), rfl, rfl⟩
      · go_round
        case rel => exact ⟨k + 1, by omega, by go_num, hid (all_snoc HX.out hh.out hb1.out.symm)⟩
        case measure => simp [intOf]; omega
    · by_cases h40 : xs.length ≤ 40
      · go_wp2
        go_ret
        exact ⟨_, hid (by simp only [listOk, all_done (by omega) hh.out, Bool.and_true]; simp; omega), rfl, rfl⟩
      · have h41 : 40 < xs.length := by omega
        go_wp2
        go_ret
        exact ⟨_, hid (by simp only [listOk, all_done (by omega) hh.out, Bool.and_true]; simp; omega), rfl, rfl⟩
theorem listOk_iff {xs : List Int} : listOk xs = true ↔ xs.length ≤ 40 ∧ ∀ x ∈ xs, 0 ≤ x ∧ x ≤ 7 := by
  simp [listOk, inB_true]

end Go.Proofs.Ytiaheikoifnbaaa
