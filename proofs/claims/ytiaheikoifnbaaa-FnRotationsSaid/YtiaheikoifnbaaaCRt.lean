/- Contracts: which rotation comes first; the rotations in order. No condition. -/
import Derived.Test.YtiaheikoifnbaaaCLs
import Derived.Test.YtiaheikoifnbaaaMem2
import Derived.Deep.QuietTactic
namespace Go.Proofs.Ytiaheikoifnbaaa
open Go Go.RowKit

theorem l16Less_any (A : Option Addr) (c : Nat) (xs : List Int) (a b : Nat) (w : World) (hr : RI w A c xs) (hn : xs.length ≤ 1000000) (ha : a ≤ 1000000) (hb : b ≤ 1000000) :
    Calls Try.prog 44 #[.slice A xs.length c, .int .i64 a, .int .i64 b] w (PB w (rotLt xs a b)) := by
  go_enter Try.func44, Try.ntmps44
  go_wp2_with fail
  go_loop [7] (fun i => ∃ k : Nat, k ≤ xs.length ∧ i = .int .i64 k ∧ Hid (preEq xs a b k)) (fun i => xs.length - (intOf i).toNat)
  case atStart => exact ⟨0, by omega, rfl, hid (preEq_zero _ _ _)⟩
  case round =>
    obtain ⟨k, hk, rfl, hh⟩ := hrel
    by_cases hlt : k < xs.length
    · have hL : 0 < xs.length := by omega
      obtain ⟨ad, x, rfl, HX, hc⟩ := hr.get (k := (a + k) % xs.length) (Nat.mod_lt _ hL)
      obtain ⟨ad', y, he, HY, hc'⟩ := hr.get (k := (b + k) % xs.length) (Nat.mod_lt _ hL)
      injection he with he
      subst he
      have hx := rat_at HX.out
      have hy := rat_at HY.out
      have HD := hid (fun e => rotLt_diff (a := a) (b := b) hlt hh.out e)
      rw [hx, hy] at HD
      have HS := hid (fun e => preEq_snoc hh.out e)
      rw [hx, hy] at HS
      clear HX HY hx hy
      have hL0 : ¬ xs.length = 0 := by omega
      have e0 : 0 ≤ ((a : Int) + (k : Int)) % (xs.length : Int) := Int.emod_nonneg _ (by omega)
      have e1 : ((a : Int) + (k : Int)) % (xs.length : Int) < (xs.length : Int) := Int.emod_lt_of_pos _ (by omega)
      have e2 : (((a : Int) + (k : Int)) % (xs.length : Int)).toNat = (a + k) % xs.length := by rw [← Int.natCast_add, ← Int.natCast_emod, Int.toNat_natCast]
      have f0 : 0 ≤ ((b : Int) + (k : Int)) % (xs.length : Int) := Int.emod_nonneg _ (by omega)
      have f1 : ((b : Int) + (k : Int)) % (xs.length : Int) < (xs.length : Int) := Int.emod_lt_of_pos _ (by omega)
      have f2 : (((b : Int) + (k : Int)) % (xs.length : Int)).toNat = (b + k) % xs.length := by rw [← Int.natCast_add, ← Int.natCast_emod, Int.toNat_natCast]
      by_cases hxy : x = y
      · have hq : (x != y) = false := by simp [hxy]
        have HXY := hid hxy
        clear hxy
        go_wp2_with fail
        go_round
        case rel => exact ⟨k + 1, by omega, by go_num, hid (HS.out HXY.out)⟩
        case measure => simp [intOf]; omega
      · have hq : (x != y) = true := by simp [hxy]
        have HXY := hid hxy
        clear hxy
        go_wp2_with fail
        go_ret
        exact ⟨_, hid (HD.out HXY.out).symm, rfl, rfl⟩
    · go_wp2_with fail
      go_ret
      have e : k = xs.length := by omega
      subst e
      exact ⟨_, hid (rotLt_same hh.out).symm, rfl, rfl⟩
theorem rotationBefore_any (A : Option Addr) (c : Nat) (xs : List Int) (a b : Nat) (w : World) (hr : RI w A c xs) (hn : xs.length ≤ 1000000) (ha : a ≤ 1000000) (hb : b ≤ 1000000) :
    Calls Try.prog 32 #[.slice A xs.length c, .int .i64 a, .int .i64 b] w (PBb w (rotLt xs a b)) := by
  go_enter Try.func32, Try.ntmps32
  go_wp2_with fail
  go_loopw [14] (fun i wr => ∃ k : Nat, k ≤ xs.length ∧ i = .int .i64 k ∧ Hid (preEq xs a b k) ∧ Below w.heap.size w wr) (fun i _ => xs.length - (intOf i).toNat)
  case atStart => exact ⟨0, by omega, rfl, hid (preEq_zero _ _ _), Below.refl _ _⟩
  case round =>
    obtain ⟨k, hk, rfl, hh, hbw⟩ := hrel
    by_cases hlt : k < xs.length
    · have hL : 0 < xs.length := by omega
      obtain ⟨ad, x, rfl, HX, hc⟩ := (hr.below hbw).get (k := (a + k) % xs.length) (Nat.mod_lt _ hL)
      obtain ⟨ad', y, he, HY, hc'⟩ := (hr.below hbw).get (k := (b + k) % xs.length) (Nat.mod_lt _ hL)
      injection he with he
      subst he
      have hx := rat_at HX.out
      have hy := rat_at HY.out
      have HD := hid (fun e => rotLt_diff (a := a) (b := b) hlt hh.out e)
      rw [hx, hy] at HD
      have HS := hid (fun e => preEq_snoc hh.out e)
      rw [hx, hy] at HS
      clear HX HY hx hy
      have hL0 : ¬ xs.length = 0 := by omega
      have e0 : 0 ≤ ((a : Int) + (k : Int)) % (xs.length : Int) := Int.emod_nonneg _ (by omega)
      have e1 : ((a : Int) + (k : Int)) % (xs.length : Int) < (xs.length : Int) := Int.emod_lt_of_pos _ (by omega)
      have e2 : (((a : Int) + (k : Int)) % (xs.length : Int)).toNat = (a + k) % xs.length := by rw [← Int.natCast_add, ← Int.natCast_emod, Int.toNat_natCast]
      have f0 : 0 ≤ ((b : Int) + (k : Int)) % (xs.length : Int) := Int.emod_nonneg _ (by omega)
      have f1 : ((b : Int) + (k : Int)) % (xs.length : Int) < (xs.length : Int) := Int.emod_lt_of_pos _ (by omega)
      have f2 : (((b : Int) + (k : Int)) % (xs.length : Int)).toNat = (b + k) % xs.length := by rw [← Int.natCast_add, ← Int.natCast_emod, Int.toNat_natCast]
      go_wp2_with fail
      go_quiet (fail)
      by_cases hxy : x = y
      · have hq : (x != y) = false := by simp [hxy]
        have HXY := hid hxy
        clear hxy
        go_wp2_with fail
        go_roundw
        case rel => exact ⟨k + 1, by omega, by go_num, hid (HS.out HXY.out), below_drewN hbw _⟩
        case measure => simp [intOf]; omega
      · have hq : (x != y) = true := by simp [hxy]
        have HXY := hid hxy
        clear hxy
        go_wp2_with fail
        go_ret
        exact ⟨_, hid (HD.out HXY.out).symm, rfl, below_drewN hbw _⟩
    · go_wp2_with fail
      go_ret
      have e : k = xs.length := by omega
      subst e
      exact ⟨_, hid (rotLt_same hh.out).symm, rfl, hbw⟩
end Go.Proofs.Ytiaheikoifnbaaa
