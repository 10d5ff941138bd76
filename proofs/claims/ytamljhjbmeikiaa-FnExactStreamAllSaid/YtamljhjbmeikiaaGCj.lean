/- Joined texts: contracts and plain facts that the laws share. No condition. -/
import Derived.Test.YtamljhjbmeikiaaGPb
import Derived.Test.YtamljhjbmeikiaaGCa
import Derived.Test.YtamljhjbmeikiaaGMa
import Derived.Deep.RegionWith
import Derived.Deep.CutRange
/- Contracts: numbers as bytes, two sums. No condition. -/
namespace Go.Proofs.Ytamljhjbmeikiaa
open Go Go.RowKit
def PNNB (w : World) (f : Int × Int × Bool) (e : Ending) (w' : World) : Prop :=
  ∃ a b ok, Hid (a = f.1) ∧ Hid (b = f.2.1) ∧ Hid (ok = f.2.2) ∧ e = .returned (.tuple #[.int .i64 a, .int .i64 b, .bool ok]) ∧ w = w'
theorem PNNB_of {w : World} {f : Int × Int × Bool} {a b : Int} {ok : Bool} (h : f = (a, b, ok)) : PNNB w f (.returned (.tuple #[.int .i64 a, .int .i64 b, .bool ok])) w := by
  subst h; exact ⟨a, b, ok, hid rfl, hid rfl, hid rfl, rfl, rfl⟩
set_option maxHeartbeats 1000000 in
theorem VarPut_any (n : Int) (w : World) : Calls Try.prog 111 #[.int .i64 n] w (PL w (varL n)) := by
  have hoe := OI.empty w w.heap.size (Nat.le_refl _)
  have hbe := below_new w (.cells #[] 3)
  go_enter Try.func111, Try.ntmps111
  go_wp2_with fail
  refine (within_or _ _ _ _).mono ?_
  rintro e w' (⟨hb1, h1, h2, rfl, rfl⟩ | ⟨hb1, rfl, rfl⟩)
  rotate_left
  · have HF : Hid (varL n = []) := by unfold Hid varL; rw [if_neg (by rw [hb1.out]; decide)]
    go_wp2_with fail
    go_ret
    exact ⟨_, _, [], hid HF.out.symm, hoe, rfl, hbe⟩
  obtain ⟨N, rfl⟩ := Int.eq_ofNat_of_zero_le h1
  have HF : Hid (varL (N : Int) = varR N) := by unfold Hid varL; rw [if_pos hb1.out, Int.toNat_natCast]
  have hN : N ≤ 2097151 := by omega
  have HN3 := hid (varR_len hN).2
  clear h1 h2 hb1
  go_wp2_with fail
  go_loopw [0, 3] (fun t v wr => ∃ (m : Nat) (A' : Option Addr) (c' : Nat) (ys : List Int), t = .int .i64 m ∧ m ≤ 2097151 ∧ v = .slice A' ys.length c' ∧ Hid (ys ++ varR m = varR N) ∧ ys.length ≤ 3 ∧ OI wr w.heap.size A' c' ys ∧ Below w.heap.size w wr) (fun t _ _ => (intOf t).toNat)
  case atStart => exact ⟨N, _, _, [], rfl, by omega, rfl, hid rfl, by simp, hoe, hbe⟩
  case round =>
    clear hoe hbe
    obtain ⟨m, A', c', ys, rfl, hm, rfl, hys, hyl, ho, hbw⟩ := hrel
    obtain ⟨wo, rfl⟩ : ∃ wo : World, wo = wr := ⟨_, rfl⟩
    have hwz := hbw.size
    have hm0 : (0 : Int) ≤ (m : Int) := by omega
    by_cases hlt : m < 128
    · have hg : ¬ (m : Int) ≥ 128 := by omega
      have HV : Hid (varR N = ys ++ [(m : Int)]) := by unfold Hid; rw [← hys.out, varR_end hlt]
      clear hys
      go_wp2_with (at_builtin; refine wpl_app (ys := [(m : Int)]) intT rfl _ _ rfl rfl (ho.alloc _) rfl (RI.one wo (m : Int)) (by simp; omega) (by simp; omega) ?_; intro A3 c3 w3 us hu ho3 hg3 hat3; clear hat3)
      have hbw3 := OI.belowOwn (below_on hbw (below_new _ _)) (ho.alloc _) hg3 (Nat.le_refl _)
      go_ret
      exact ⟨_, _, us, by unfold Hid; rw [hu.out, HF.out, HV.out], ho3, rfl, hbw3⟩
    · have hg : (m : Int) ≥ 128 := by omega
      obtain ⟨x, hx⟩ : ∃ x : Int, x = (m : Int) % 128 + 128 := ⟨_, rfl⟩
      obtain ⟨d, hd⟩ : ∃ d : Nat, (d : Int) = (m : Int) / 128 := ⟨m / 128, by omega⟩
      have hdm : d < m := by omega
      have hd2 : d ≤ 2097151 := by omega
      have HV : Hid (varR N = ys ++ [x] ++ varR d) := by
        unfold Hid
        rw [← hys.out, varR_go (by omega), show m / 128 = d by omega, show (128 + (m % 128 : Nat) : Int) = x by omega]
        simp
      clear hys
      go_upto_region 6 with (at_builtin; rw [← hx]; refine wpl_app (ys := [x]) intT rfl _ _ rfl rfl (ho.alloc _) rfl (RI.one wo x) (by simp; omega) (by simp; omega) ?_; intro A3 c3 w3 us hu ho3 hg3 hat3; clear hat3)
      have hbw3 := OI.belowOwn (below_on hbw (below_new _ _)) (ho.alloc _) hg3 (Nat.le_refl _)
      have HU : Hid (us ++ varR d = varR N) := by unfold Hid; rw [HV.out, hu.out]
      have hul : us.length ≤ 3 := by have h := HN3.out; rw [← HU.out, List.length_append] at h; omega
      clear ho hu hg3 hx
      go_wp2_with fail
      rw [← hd]
      clear hd
      go_roundw
      case rel => exact ⟨d, A3, c3, us, rfl, hd2, rfl, HU, hul, ho3, hbw3⟩
      case measure => simp [intOf]; omega
set_option maxHeartbeats 1000000 in
theorem sVarPut_any (n : Int) (w : World) : Calls Try.prog 87 #[.int .i64 n] w (PL w (varL n)) := by
  have hoe := OI.empty w w.heap.size (Nat.le_refl _)
  have hbe := below_new w (.cells #[] 3)
  go_enter Try.func87, Try.ntmps87
  go_wp2_with fail
  refine (l6In_or _ _ _ _).mono ?_
  rintro e w' (⟨hb1, h1, h2, rfl, rfl⟩ | ⟨hb1, rfl, rfl⟩)
  rotate_left
  · have HF : Hid (varL n = []) := by unfold Hid varL; rw [if_neg (by rw [hb1.out]; decide)]
    go_wp2_with fail
    go_ret
    exact ⟨_, _, [], hid HF.out.symm, hoe, rfl, hbe⟩
  obtain ⟨N, rfl⟩ := Int.eq_ofNat_of_zero_le h1
  have HF : Hid (varL (N : Int) = varR N) := by unfold Hid varL; rw [if_pos hb1.out, Int.toNat_natCast]
  have hN : N ≤ 2097151 := by omega
  have HN3 := hid (varR_len hN).2
  clear h1 h2 hb1
  go_wp2_with fail
  go_loopw [0, 3] (fun t v wr => ∃ (m : Nat) (A' : Option Addr) (c' : Nat) (ys : List Int), t = .int .i64 m ∧ m ≤ 2097151 ∧ v = .slice A' ys.length c' ∧ Hid (ys ++ varR m = varR N) ∧ ys.length ≤ 3 ∧ OI wr w.heap.size A' c' ys ∧ Below w.heap.size w wr) (fun t _ _ => (intOf t).toNat)
  case atStart => exact ⟨N, _, _, [], rfl, by omega, rfl, hid rfl, by simp, hoe, hbe⟩
  case round =>
    clear hoe hbe
    obtain ⟨m, A', c', ys, rfl, hm, rfl, hys, hyl, ho, hbw⟩ := hrel
    obtain ⟨wo, rfl⟩ : ∃ wo : World, wo = wr := ⟨_, rfl⟩
    have hwz := hbw.size
    have hm0 : (0 : Int) ≤ (m : Int) := by omega
    by_cases hlt : m < 128
    · have hg : ¬ (m : Int) > 127 := by omega
      have HV : Hid (varR N = ys ++ [(m : Int)]) := by unfold Hid; rw [← hys.out, varR_end hlt]
      clear hys
      go_wp2_with (at_builtin; refine wpl_app (ys := [(m : Int)]) intT rfl _ _ rfl rfl (ho.alloc _) rfl (RI.one wo (m : Int)) (by simp; omega) (by simp; omega) ?_; intro A3 c3 w3 us hu ho3 hg3 hat3; clear hat3)
      have hbw3 := OI.belowOwn (below_on hbw (below_new _ _)) (ho.alloc _) hg3 (Nat.le_refl _)
      go_ret
      exact ⟨_, _, us, by unfold Hid; rw [hu.out, HF.out, HV.out], ho3, rfl, hbw3⟩
    · have hg : (m : Int) > 127 := by omega
      obtain ⟨x, hx⟩ : ∃ x : Int, x = 128 + (m : Int) % 128 := ⟨_, rfl⟩
      obtain ⟨d, hd⟩ : ∃ d : Nat, (d : Int) = (m : Int) / 128 := ⟨m / 128, by omega⟩
      have hdm : d < m := by omega
      have hd2 : d ≤ 2097151 := by omega
      have HV : Hid (varR N = ys ++ [x] ++ varR d) := by
        unfold Hid
        rw [← hys.out, varR_go (by omega), show m / 128 = d by omega, show (128 + (m % 128 : Nat) : Int) = x by omega]
        simp
      clear hys
      go_upto_region 6 with (at_builtin; rw [← hx]; refine wpl_app (ys := [x]) intT rfl _ _ rfl rfl (ho.alloc _) rfl (RI.one wo x) (by simp; omega) (by simp; omega) ?_; intro A3 c3 w3 us hu ho3 hg3 hat3; clear hat3)
      have hbw3 := OI.belowOwn (below_on hbw (below_new _ _)) (ho.alloc _) hg3 (Nat.le_refl _)
      have HU : Hid (us ++ varR d = varR N) := by unfold Hid; rw [HV.out, hu.out]
      have hul : us.length ≤ 3 := by have h := HN3.out; rw [← HU.out, List.length_append] at h; omega
      clear ho hu hg3 hx
      go_wp2_with fail
      rw [← hd]
      clear hd
      go_roundw
      case rel => exact ⟨d, A3, c3, us, rfl, hd2, rfl, HU, hul, ho3, hbw3⟩
      case measure => simp [intOf]; omega
end Go.Proofs.Ytamljhjbmeikiaa
