/- Contracts: texts' symbols. No condition. -/
import Derived.Test.YthiijfafbnmcjaaC1
namespace Go.Proofs.Ythiijfafbnmcjaa
open Go Go.RowKit

def txtOk (xs : List Int) : Bool := decide (xs.length ≤ 120) && xs.all (inB 0 7)

theorem TextValid_any (A : Option Addr) (c : Nat) (xs : List Int) (w : World) (hr : RI w A c xs) : Calls Try.prog 13 #[.slice A xs.length c] w (PB w (txtOk xs)) := by
  by_cases h : xs.length ≤ 120
  · go_enter Try.func13, Try.ntmps13
    go_wp2_with fail
    refine (every_any _ _ _ _ _ _ hr).mono ?_
    rintro e w' ⟨b, hb1, rfl, rfl⟩
    go_wp2_with fail
    go_ret
    exact ⟨_, hid (by simp [txtOk, h, hb1.out]), rfl, rfl⟩
  · have h' : 120 < xs.length := by omega
    go_enter Try.func13, Try.ntmps13
    go_wp2_with fail
    go_ret
    exact ⟨_, hid (by simp [txtOk, h]), rfl, rfl⟩

theorem l22Symbols_any (A : Option Addr) (c : Nat) (xs : List Int) (w : World) (hr : RI w A c xs) : Calls Try.prog 23 #[.slice A xs.length c] w (PB w (xs.all (inB 0 7))) := by
  have hbig := hr.big
  have hcap := hr.cap
  unfold maxLen at hbig
  go_enter Try.func23, Try.ntmps23
  go_wp2_with fail
  go_loop [3] (fun i => ∃ k : Nat, k ≤ xs.length ∧ i = .int .i64 k ∧ Hid ((xs.take k).all (inB 0 7) = true)) (fun i => xs.length - (intOf i).toNat)
  case atStart => exact ⟨0, by omega, rfl, by simp [Hid]⟩
  case round =>
    obtain ⟨k, hk, rfl, hh⟩ := hrel
    by_cases hlt : k < xs.length
    · obtain ⟨ad, x, rfl, HX, hc⟩ := hr.get hlt
      go_wp2_with (go_at_call 21; refine (l6In_any _ _ _ _).mono ?_; rintro e w' ⟨b, hb1, rfl, rfl⟩; cases b)
      · go_ret
        exact ⟨_, hid (all_no HX.out hb1.out.symm).symm, rfl, rfl⟩
      · go_round
        case rel => exact ⟨k + 1, by omega, by go_num, hid (all_snoc HX.out hh.out hb1.out.symm)⟩
        case measure => simp [intOf]; omega
    · go_wp2
      go_ret
      exact ⟨_, hid (all_done (by omega) hh.out).symm, rfl, rfl⟩

theorem sTextValid_any (A : Option Addr) (c : Nat) (xs : List Int) (w : World) (hr : RI w A c xs) : Calls Try.prog 11 #[.slice A xs.length c] w (PB w (txtOk xs)) := by
  by_cases h : xs.length ≤ 120
  · go_enter Try.func11, Try.ntmps11
    go_wp2_with fail
    refine (l22Symbols_any _ _ _ _ hr).mono ?_
    rintro e w' ⟨b, hb1, rfl, rfl⟩
    cases b
    all_goals go_wp2_with fail
    all_goals go_ret
    all_goals exact ⟨_, hid (by simp [txtOk, h, hb1.out.symm] <;> omega), rfl, rfl⟩
  · have h' : 120 < xs.length := by omega
    go_enter Try.func11, Try.ntmps11
    go_wp2_with fail
    refine (l22Symbols_any _ _ _ _ hr).mono ?_
    rintro e w' ⟨b, hb1, rfl, rfl⟩
    cases b
    all_goals go_wp2_with fail
    all_goals go_ret
    all_goals exact ⟨_, hid (by simp [txtOk, h] <;> omega), rfl, rfl⟩

end Go.Proofs.Ythiijfafbnmcjaa
