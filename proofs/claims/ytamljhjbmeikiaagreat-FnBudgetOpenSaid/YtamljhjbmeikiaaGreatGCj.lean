/- Joined texts: contracts and plain facts that the laws share. No condition. -/
import Derived.Test.YtamljhjbmeikiaaGreatGPb
import Derived.Test.YtamljhjbmeikiaaGreatGCa
import Derived.Test.YtamljhjbmeikiaaGreatGMa
import Derived.Deep.RegionWith
import Derived.Deep.CutRange
import Derived.Test.YtamljhjbmeikiaaGreatGCf
/- Contracts: numbers as bytes, two sums. No condition. -/
namespace Go.Proofs.YtamljhjbmeikiaaGreat
open Go Go.RowKit
def PNNB (w : World) (f : Int × Int × Bool) (e : Ending) (w' : World) : Prop :=
  ∃ a b ok, Hid (a = f.1) ∧ Hid (b = f.2.1) ∧ Hid (ok = f.2.2) ∧ e = .returned (.tuple #[.int .i64 a, .int .i64 b, .bool ok]) ∧ w = w'
theorem PNNB_of {w : World} {f : Int × Int × Bool} {a b : Int} {ok : Bool} (h : f = (a, b, ok)) : PNNB w f (.returned (.tuple #[.int .i64 a, .int .i64 b, .bool ok])) w := by
  subst h; exact ⟨a, b, ok, hid rfl, hid rfl, hid rfl, rfl, rfl⟩
set_option maxHeartbeats 1000000 in
theorem VarPut_any (n : Int) (w : World) : Calls Tryz.prog 47 #[.int .i64 n] w (PL w (varL n)) := by
  have hoe := OI.empty w w.heap.size (Nat.le_refl _)
  have hbe := below_new w (.cells #[] 3)
  go_enter Tryz.func47, Tryz.ntmps47
  go_wp2_with fail
  refine (within_or _ _ _ _).mono ?_
  rintro e w' (⟨hb1, h1, h2, rfl, rfl⟩ | ⟨hb1, rfl, rfl⟩)
  rotate_left
  · have HF : Hid (varL n = []) := by unfold Hid varL; rw [if_neg (by rw [hb1.out]; decide)]
    go_wp2_with fail
    go_ret
    exact ⟨_, _, [], hid HF.out.symm, hoe, rfl, hbe⟩
  obtain ⟨N, rfl⟩ := Int.eq_ofNat_of_zero_le h1
  have HF : Hid (varL (N : Int) = varR N) := by unfold Hid varL; rw [if_pos hb1.out, Int.toNat_natCast]
  have hN : N ≤ 2097151 := by omega
  have HN3 := hid (varR_len hN).2
  clear h1 h2 hb1
  go_wp2_with fail
  go_loopw [0, 3] (fun t v wr => ∃ (m : Nat) (A' : Option Addr) (c' : Nat) (ys : List Int), t = .int .i64 m ∧ m ≤ 2097151 ∧ v = .slice A' ys.length c' ∧ Hid (ys ++ varR m = varR N) ∧ ys.length ≤ 3 ∧ OI wr w.heap.size A' c' ys ∧ Below w.heap.size w wr) (fun t _ _ => (intOf t).toNat)
  case atStart => exact ⟨N, _, _, [], rfl, by omega, rfl, hid rfl, by simp, hoe, hbe⟩
  case round =>
    clear hoe hbe
    obtain ⟨m, A', c', ys, rfl, hm, rfl, hys, hyl, ho, hbw⟩ := hrel
    obtain ⟨wo, rfl⟩ : ∃ wo : World, wo = wr := ⟨_, rfl⟩
    have hwz := hbw.size
    have hm0 : (0 : Int) ≤ (m : Int) := by omega
    by_cases hlt : m < 128
    · have hg : ¬ (m : Int) ≥ 128 := by omega
      have HV : Hid (varR N = ys ++ [(m : Int)]) := by unfold Hid; rw [← hys.out, varR_end hlt]
      clear hys
      go_wp2_with (at_builtin; refine wpl_app (ys := [(m : Int)]) intT rfl _ _ rfl rfl (ho.alloc _) rfl (RI.one wo (m : Int)) (by simp; omega) (by simp; omega) ?_; intro A3 c3 w3 us hu ho3 hg3 hat3; clear hat3)
      have hbw3 := OI.belowOwn (below_on hbw (below_new _ _)) (ho.alloc _) hg3 (Nat.le_refl _)
      go_ret
      exact ⟨_, _, us, by unfold Hid; rw [hu.out, HF.out, HV.out], ho3, rfl, hbw3⟩
    · have hg : (m : Int) ≥ 128 := by omega
      obtain ⟨x, hx⟩ : ∃ x : Int, x = (m : Int) % 128 + 128 := ⟨_, rfl⟩
      obtain ⟨d, hd⟩ : ∃ d : Nat, (d : Int) = (m : Int) / 128 := ⟨m / 128, by omega⟩
      have hdm : d < m := by omega
      have hd2 : d ≤ 2097151 := by omega
      have HV : Hid (varR N = ys ++ [x] ++ varR d) := by
        unfold Hid
        rw [← hys.out, varR_go (by omega), show m / 128 = d by omega, show (128 + (m % 128 : Nat) : Int) = x by omega]
        simp
      clear hys
      go_upto_region 6 with (at_builtin; rw [← hx]; refine wpl_app (ys := [x]) intT rfl _ _ rfl rfl (ho.alloc _) rfl (RI.one wo x) (by simp; omega) (by simp; omega) ?_; intro A3 c3 w3 us hu ho3 hg3 hat3; clear hat3)
      have hbw3 := OI.belowOwn (below_on hbw (below_new _ _)) (ho.alloc _) hg3 (Nat.le_refl _)
      have HU : Hid (us ++ varR d = varR N) := by unfold Hid; rw [HV.out, hu.out]
      have hul : us.length ≤ 3 := by have h := HN3.out; rw [← HU.out, List.length_append] at h; omega
      clear ho hu hg3 hx
      go_wp2_with fail
      rw [← hd]
      clear hd
      go_roundw
      case rel => exact ⟨d, A3, c3, us, rfl, hd2, rfl, HU, hul, ho3, hbw3⟩
      case measure => simp [intOf]; omega
set_option maxHeartbeats 1000000 in
theorem sVarPut_any (n : Int) (w : World) : Calls Tryz.prog 39 #[.int .i64 n] w (PL w (varL n)) := by
  have hoe := OI.empty w w.heap.size (Nat.le_refl _)
  have hbe := below_new w (.cells #[] 3)
  go_enter Tryz.func39, Tryz.ntmps39
  go_wp2_with fail
  refine (l6In_or _ _ _ _).mono ?_
  rintro e w' (⟨hb1, h1, h2, rfl, rfl⟩ | ⟨hb1, rfl, rfl⟩)
  rotate_left
  · have HF : Hid (varL n = []) := by unfold Hid varL; rw [if_neg (by rw [hb1.out]; decide)]
    go_wp2_with fail
    go_ret
    exact ⟨_, _, [], hid HF.out.symm, hoe, rfl, hbe⟩
  obtain ⟨N, rfl⟩ := Int.eq_ofNat_of_zero_le h1
  have HF : Hid (varL (N : Int) = varR N) := by unfold Hid varL; rw [if_pos hb1.out, Int.toNat_natCast]
  have hN : N ≤ 2097151 := by omega
  have HN3 := hid (varR_len hN).2
  clear h1 h2 hb1
  go_wp2_with fail
  go_loopw [0, 3] (fun t v wr => ∃ (m : Nat) (A' : Option Addr) (c' : Nat) (ys : List Int), t = .int .i64 m ∧ m ≤ 2097151 ∧ v = .slice A' ys.length c' ∧ Hid (ys ++ varR m = varR N) ∧ ys.length ≤ 3 ∧ OI wr w.heap.size A' c' ys ∧ Below w.heap.size w wr) (fun t _ _ => (intOf t).toNat)
  case atStart => exact ⟨N, _, _, [], rfl, by omega, rfl, hid rfl, by simp, hoe, hbe⟩
  case round =>
    clear hoe hbe
    obtain ⟨m, A', c', ys, rfl, hm, rfl, hys, hyl, ho, hbw⟩ := hrel
    obtain ⟨wo, rfl⟩ : ∃ wo : World, wo = wr := ⟨_, rfl⟩
    have hwz := hbw.size
    have hm0 : (0 : Int) ≤ (m : Int) := by omega
    by_cases hlt : m < 128
    · have hg : ¬ (m : Int) > 127 := by omega
      have HV : Hid (varR N = ys ++ [(m : Int)]) := by unfold Hid; rw [← hys.out, varR_end hlt]
      clear hys
      go_wp2_with (at_builtin; refine wpl_app (ys := [(m : Int)]) intT rfl _ _ rfl rfl (ho.alloc _) rfl (RI.one wo (m : Int)) (by simp; omega) (by simp; omega) ?_; intro A3 c3 w3 us hu ho3 hg3 hat3; clear hat3)
      have hbw3 := OI.belowOwn (below_on hbw (below_new _ _)) (ho.alloc _) hg3 (Nat.le_refl _)
      go_ret
      exact ⟨_, _, us, by unfold Hid; rw [hu.out, HF.out, HV.out], ho3, rfl, hbw3⟩
    · have hg : (m : Int) > 127 := by omega
      obtain ⟨x, hx⟩ : ∃ x : Int, x = 128 + (m : Int) % 128 := ⟨_, rfl⟩
      obtain ⟨d, hd⟩ : ∃ d : Nat, (d : Int) = (m : Int) / 128 := ⟨m / 128, by omega⟩
      have hdm : d < m := by omega
      have hd2 : d ≤ 2097151 := by omega
      have HV : Hid (varR N = ys ++ [x] ++ varR d) := by
        unfold Hid
        rw [← hys.out, varR_go (by omega), show m / 128 = d by omega, show (128 + (m % 128 : Nat) : Int) = x by omega]
        simp
      clear hys
      go_upto_region 6 with (at_builtin; rw [← hx]; refine wpl_app (ys := [x]) intT rfl _ _ rfl rfl (ho.alloc _) rfl (RI.one wo x) (by simp; omega) (by simp; omega) ?_; intro A3 c3 w3 us hu ho3 hg3 hat3; clear hat3)
      have hbw3 := OI.belowOwn (below_on hbw (below_new _ _)) (ho.alloc _) hg3 (Nat.le_refl _)
      have HU : Hid (us ++ varR d = varR N) := by unfold Hid; rw [HV.out, hu.out]
      have hul : us.length ≤ 3 := by have h := HN3.out; rw [← HU.out, List.length_append] at h; omega
      clear ho hu hg3 hx
      go_wp2_with fail
      rw [← hd]
      clear hd
      go_roundw
      case rel => exact ⟨d, A3, c3, us, rfl, hd2, rfl, HU, hul, ho3, hbw3⟩
      case measure => simp [intOf]; omega
set_option maxHeartbeats 1000000 in
theorem PairOf_any (A : Option Addr) (c : Nat) (xs : List Int) (w : World) (hr : RI w A c xs) : Calls Tryz.prog 23 #[.slice A xs.length c] w (PNNB w (pairF xs)) := by
  go_enter Tryz.func23, Tryz.ntmps23
  go_wp2_with fail
  refine (bytesOk_any _ _ _ _ hr).mono ?_
  rintro e w' ⟨b, hb, rfl, rfl⟩
  by_cases hok : byOk xs = true
  rotate_left
  · obtain rfl : b = false := hb.out.trans (by simpa using hok)
    have HF : Hid (pairF xs = (0, 0, false)) := by unfold Hid pairF; rw [if_neg (fun h => hok h.1)]
    clear hok
    go_wp2_with fail
    go_ret3
    exact PNNB_of HF.out
  obtain rfl : b = true := hb.out.trans hok
  clear hb
  by_cases h4 : xs.length ≤ 400
  rotate_left
  · have HF : Hid (pairF xs = (0, 0, false)) := by unfold Hid pairF; rw [if_neg (fun h => h4 h.2)]
    have hg : (xs.length : Int) > 400 := by omega
    clear hok
    go_wp2_with fail
    go_ret3
    exact PNNB_of HF.out
  have HF : Hid (pairF xs = ((pairS xs).1, (pairS xs).2, true)) := by unfold Hid pairF; rw [if_pos ⟨hok, h4⟩]
  have hg : ¬ (xs.length : Int) > 400 := by omega
  have HB : Hid (∀ x ∈ xs, 0 ≤ x ∧ x ≤ 255) := hid (byOk_all.1 hok)
  clear hok
  go_wp2_with fail
  go_loop [5, 6, 19] (fun u v i => ∃ (k : Nat) (a b : Int), k ≤ xs.length ∧ i = .int .i64 k ∧ u = .int .i64 a ∧ v = .int .i64 b ∧ Hid (pairS (xs.take k) = (a, b))) (fun _ _ i => xs.length - (intOf i).toNat)
  case atStart => exact ⟨0, 1, 0, by omega, rfl, rfl, rfl, hid rfl⟩
  case round =>
    obtain ⟨k, a, b, hk, rfl, rfl, rfl, hS⟩ := hrel
    have hbd := pairS_bd (xs.take k)
    rw [hS.out] at hbd
    obtain ⟨ha0, ha1, hb0, hb1⟩ := hbd
    simp only at ha0 ha1 hb0 hb1
    by_cases hlt : k < xs.length
    · have hgk : (k : Int) < (xs.length : Int) := by omega
      obtain ⟨ad, x, rfl, HX, hcx⟩ := hr.get hlt
      obtain ⟨hx0, hx1⟩ := HB.out x (List.mem_of_getElem? HX.out)
      obtain ⟨y, hy⟩ : ∃ y : Int, y = (a + x) % 251 := ⟨_, rfl⟩
      have hy0 : 0 ≤ y := by omega
      have hy1 : y ≤ 250 := by omega
      have HS : Hid (pairS (xs.take (k + 1)) = (y, (b + y) % 251)) := by unfold Hid; rw [take_snoc' HX.out, pairS_snoc, hS.out, hy]; rfl
      go_upto_region 8 with fail
      rw [← hy]
      clear hy
      go_wp2_with fail
      go_round
      case rel => exact ⟨k + 1, y, _, by omega, by go_num, rfl, rfl, HS⟩
      case measure => simp [intOf]; omega
    · have hgk : ¬ (k : Int) < (xs.length : Int) := by omega
      have HP : Hid (pairF xs = (a, b, true)) := by unfold Hid; rw [HF.out, ← List.take_of_length_le (show xs.length ≤ k by omega), hS.out]
      go_wp2_with fail
      go_ret3
      exact PNNB_of HP.out
set_option maxHeartbeats 1000000 in
theorem sPairOf_any (A : Option Addr) (c : Nat) (xs : List Int) (w : World) (hr : RI w A c xs) : Calls Tryz.prog 44 #[.slice A xs.length c] w (PNNB w (pairF xs)) := by
  go_enter Tryz.func44, Tryz.ntmps44
  go_wp2_with fail
  refine (l1Bytes_any _ _ _ _ hr).mono ?_
  rintro e w' ⟨b, hb, rfl, rfl⟩
  by_cases hok : byOk xs = true
  rotate_left
  · obtain rfl : b = false := hb.out.trans (by simpa using hok)
    have HF : Hid (pairF xs = (0, 0, false)) := by unfold Hid pairF; rw [if_neg (fun h => hok h.1)]
    clear hok
    go_wp2_with fail
    go_ret3
    exact PNNB_of HF.out
  obtain rfl : b = true := hb.out.trans hok
  clear hb
  by_cases h4 : xs.length ≤ 400
  rotate_left
  · have HF : Hid (pairF xs = (0, 0, false)) := by unfold Hid pairF; rw [if_neg (fun h => h4 h.2)]
    have hg : (xs.length : Int) > 400 := by omega
    clear hok
    go_wp2_with fail
    go_ret3
    exact PNNB_of HF.out
  have HF : Hid (pairF xs = ((pairS xs).1, (pairS xs).2, true)) := by unfold Hid pairF; rw [if_pos ⟨hok, h4⟩]
  have hg : ¬ (xs.length : Int) > 400 := by omega
  have HB : Hid (∀ x ∈ xs, 0 ≤ x ∧ x ≤ 255) := hid (byOk_all.1 hok)
  clear hok
  go_wp2_with fail
  go_loop [5, 6, 7] (fun u v i => ∃ (k : Nat) (a b : Int), k ≤ xs.length ∧ i = .int .i64 k ∧ u = .int .i64 a ∧ v = .int .i64 b ∧ Hid (pairS (xs.take k) = (a, b))) (fun _ _ i => xs.length - (intOf i).toNat)
  case atStart => exact ⟨0, 1, 0, by omega, rfl, rfl, rfl, hid rfl⟩
  case round =>
    obtain ⟨k, a, b, hk, rfl, rfl, rfl, hS⟩ := hrel
    have hbd := pairS_bd (xs.take k)
    rw [hS.out] at hbd
    obtain ⟨ha0, ha1, hb0, hb1⟩ := hbd
    simp only at ha0 ha1 hb0 hb1
    by_cases hlt : k < xs.length
    · have hgk : (k : Int) < (xs.length : Int) := by omega
      obtain ⟨ad, x, rfl, HX, hcx⟩ := hr.get hlt
      obtain ⟨hx0, hx1⟩ := HB.out x (List.mem_of_getElem? HX.out)
      obtain ⟨y, hy⟩ : ∃ y : Int, y = (a + x) % 251 := ⟨_, rfl⟩
      have hy0 : 0 ≤ y := by omega
      have hy1 : y ≤ 250 := by omega
      have HS : Hid (pairS (xs.take (k + 1)) = (y, (b + y) % 251)) := by unfold Hid; rw [take_snoc' HX.out, pairS_snoc, hS.out, hy]; rfl
      go_upto_region 9 with fail
      rw [← hy]
      clear hy
      go_wp2_with fail
      go_round
      case rel => exact ⟨k + 1, y, _, by omega, by go_num, rfl, rfl, HS⟩
      case measure => simp [intOf]; omega
    · have hgk : ¬ (k : Int) < (xs.length : Int) := by omega
      have HP : Hid (pairF xs = (a, b, true)) := by unfold Hid; rw [HF.out, ← List.take_of_length_le (show xs.length ≤ k by omega), hS.out]
      go_wp2_with fail
      go_ret3
      exact PNNB_of HP.out
end Go.Proofs.YtamljhjbmeikiaaGreat
/- Contracts: a text is packed as a frame. No condition. -/
namespace Go.Proofs.YtamljhjbmeikiaaGreat
open Go Go.RowKit
theorem PLB_noE {w w1 : World} {f : Option (List Int)} (hf : f = none) (hb : Below w.heap.size w w1) : PLB w f (.returned (.tuple #[.slice (some ⟨w1.heap.size, 0, none⟩) 0 0, .bool false])) (w1.alloc (.cells #[] 3)) := by
  subst hf
  exact ⟨_, _, [], false, hid rfl, hid rfl, OI.empty w1 _ hb.size, rfl, below_on hb (below_new _ _)⟩
theorem PLB_yes {w w1 : World} {f : Option (List Int)} {A : Option Addr} {c : Nat} {ys : List Int} (hf : f = some ys) (ho : OI w1 w.heap.size A c ys) (hb : Below w.heap.size w w1) : PLB w f (.returned (.tuple #[.slice A ys.length c, .bool true])) w1 := by
  subst hf
  exact ⟨_, _, ys, true, hid rfl, hid rfl, ho, rfl, hb⟩
theorem sBlockPack_len (A : Option Addr) (c n : Nat) (xs : List Int) (w : World) (hn : n = xs.length) (hr : RI w A c xs) : Calls Tryz.prog 43 #[.slice A n c] w (PL w (packF xs)) := by subst hn; exact sBlockPack_any _ _ _ _ hr
theorem varL_nat {m : Nat} (h : m ≤ 2097151) : varL (m : Int) = varR m := by unfold varL; rw [if_pos (inB_true.2 ⟨by omega, by omega⟩), Int.toNat_natCast]
theorem blksL_le {s : Nat} {xs : List Int} (h : xs.length ≤ 120) : (blksL s xs).length ≤ 360 := by have := blksL_len (s := s) _ xs (Nat.le_refl _); omega
theorem chunks_le' {s : Nat} {xs : List Int} (h : xs.length ≤ 120) : (chunks s xs).length ≤ 120 := by have := chunks_le (s := s) _ xs (Nat.le_refl _); omega
set_option maxRecDepth 100000 in
set_option maxHeartbeats 2000000 in
theorem sFramePack_any (A : Option Addr) (c : Nat) (xs : List Int) (n : Int) (w : World) (hr : RI w A c xs) : Calls Tryz.prog 29 #[.slice A xs.length c, .int .i64 n] w (PLB w (frameF xs n)) := by
  go_enter Tryz.func29, Tryz.ntmps29
  go_wp2_with fail
  refine (sTextValid_any _ _ _ _ hr).mono ?_
  rintro e w' ⟨b, hb, rfl, rfl⟩
  by_cases hok : txOk xs = true
  rotate_left
  · obtain rfl : b = false := hb.out.trans (show txOk xs = false by simpa using hok)
    have HF : Hid (frameF xs n = none) := by unfold Hid frameF; rw [if_neg (fun h => hok h.1)]
    clear hok
    go_wp2_with fail
    go_ret2
    exact PLB_noE HF.out (Below.refl _ _)
  obtain rfl : b = true := hb.out.trans hok
  have HOK := hid hok
  have hxl := (txOk_iff.1 hok).1
  have hcap := hr.cap
  clear hok hb
  go_wp2_with fail
  refine (l6In_or _ _ _ _).mono ?_
  rintro e w' (⟨hb1, h1, h2, rfl, rfl⟩ | ⟨hb1, rfl, rfl⟩)
  rotate_left
  · have HF : Hid (frameF xs n = none) := by unfold Hid frameF; rw [if_neg (fun h => by have := h.2; rw [hb1.out] at this; cases this)]
    go_wp2_with fail
    go_ret2
    exact PLB_noE HF.out (Below.refl _ _)
  obtain ⟨s, rfl⟩ := Int.eq_ofNat_of_zero_le (show 0 ≤ n by omega)
  have HF : Hid (frameF xs (s : Int) = some (frameB s xs)) := by unfold Hid frameF; rw [if_pos ⟨HOK.out, hb1.out⟩, Int.toNat_natCast]
  have hs1 : 1 ≤ s := by omega
  have hs40 : s ≤ 40 := by omega
  have HPF : Hid (pairF xs = ((pairS xs).1, (pairS xs).2, true)) := hid (pairF_tx HOK.out)
  clear h1 h2 hb1
  obtain ⟨K, hK⟩ : ∃ K, K = (chunks s xs).length := ⟨_, rfl⟩
  have hK2 : K ≤ 120 := by rw [hK]; exact chunks_le' hxl
  have HKD : Hid (K = (xs.length + s - 1) / s) := by unfold Hid; rw [hK]; exact chunks_len (by omega) _ xs (Nat.le_refl _)
  have HK := hid hK
  clear hK
  have hdiv : ((xs.length : Int) + (s : Int) - 1).tdiv (s : Int) = (K : Int) := by
    rw [show (xs.length : Int) + (s : Int) - 1 = ((xs.length + s - 1 : Nat) : Int) by omega, HKD.out]
    rfl
  have hs0 : ¬ (s : Int) = 0 := by omega
  have hwk : IntKind.i64.wrap (K : Int) = (K : Int) := IntWalk.i64_in _ (by omega)
  have hlitw := OI.litI w w.heap.size [90] (Nat.le_refl _) (by simp)
  have hbe := below_new w (.cells (ints [90]).toArray 3)
  have HBL := hid (blksL_le (s := s) hxl)
  go_wp2_with fail
  refine (sVarPut_any _ _).mono ?_
  rintro _ w2 ⟨A2, c2, vs, hvs, ho2, rfl, hb2⟩
  have HV : Hid (vs = varR K) := by unfold Hid; rw [hvs.out, varL_nat (by omega)]
  have hvl : vs.length ≤ 3 := by rw [HV.out]; exact (varR_len (by omega)).2
  have hl2 := hlitw.below hb2
  have hbw2 := below_on hbe hb2
  go_wp2_with (at_builtin; refine wpl_app (xs := [90]) (ys := vs) intT rfl _ _ rfl rfl hl2 rfl ho2.ri (by simp; omega) (by have := hb2.size; simp at this; omega) ?_; intro A3 c3 w3 us hu ho3 hg3 hat3; clear hat3)
  have hbw3 := OI.belowOwn hbw2 hl2 hg3 (Nat.le_refl _)
  have hul : us.length ≤ 4 := by rw [hu.out]; simp; omega
  have HU0 : Hid (us ++ blksL s (xs.drop 0) = [90] ++ varR K ++ blksL s xs) := by unfold Hid; rw [hu.out, HV.out, List.drop_zero]
  have HL0 : Hid (([90] ++ varR K ++ blksL s xs).length ≤ 364) := by unfold Hid; rw [← HU0.out, List.length_append, List.drop_zero]; have := HBL.out; omega
  have hul9 : us.length ≤ 364 := by omega
  clear hu hvs HV hvl hl2 hbw2 hbe hlitw ho2 hb2 hg3 HKD hdiv hul
  go_loopw [6, 7] (fun v t wr => ∃ (a : Nat) (A' : Option Addr) (c' : Nat) (ys : List Int), a ≤ 160 ∧ t = .int .i64 a ∧ v = .slice A' ys.length c' ∧ Hid (ys ++ blksL s (xs.drop a) = [90] ++ varR K ++ blksL s xs) ∧ ys.length ≤ 364 ∧ OI wr w.heap.size A' c' ys ∧ Below w.heap.size w wr) (fun _ t _ => 200 - (intOf t).toNat)
  case atStart => exact ⟨0, _, _, us, by omega, rfl, rfl, HU0, hul9, ho3, hbw3⟩
  case round =>
    clear ho3 hbw3 HU0 hul9
    obtain ⟨a, A', c', ys, ha, rfl, rfl, hys, hyl, ho, hbw⟩ := hrel
    obtain ⟨wo, rfl⟩ : ∃ wo : World, wo = wr := ⟨_, rfl⟩
    have hwz := hbw.size
    by_cases hlt : a < xs.length
    · have hg : (a : Int) < (xs.length : Int) := by omega
      obtain ⟨z, hz⟩ : ∃ z, z = min (a + s) xs.length := ⟨_, rfl⟩
      have hT : (if (xs.length : Int) < (a : Int) + (s : Int) then (xs.length : Int) else (a : Int) + (s : Int)) = (z : Int) := by split <;> omega
      have HCH : Hid ((xs.take z).drop a = (xs.drop a).take s) := by
        unfold Hid
        rw [List.drop_take, List.take_eq_take_iff, List.length_drop]
        omega
      have HBK : Hid (blksL s (xs.drop a) = packF ((xs.drop a).take s) ++ blksL s (xs.drop (a + s))) := hid (blksL_at (by omega) hlt)
      have HCK : Hid ((chunks s (xs.drop a)).length = 1 + (chunks s (xs.drop (a + s))).length) := by unfold Hid; rw [chunks_at (by omega) hlt, List.length_cons]; omega
      have haz : a ≤ z := by omega
      have hzl : z ≤ xs.length := by omega
      have has : a + s ≤ 160 := by omega
      have hwa : IntKind.i64.wrap ((a : Int) + (s : Int)) = (a : Int) + (s : Int) := IntWalk.i64_in _ (by omega)
      clear hz
      have hrz := RI.cutAt (RI.takeAt (hr.below hbw) (k := z) hzl) (k := a) (by rw [List.length_take]; omega)
      rw [if_neg (show ¬ c = a by omega)] at hrz
      have HZL : Hid (z - a = ((xs.take z).drop a).length) := by unfold Hid; rw [List.length_drop, List.length_take]; omega
      go_wp2_with fail
      refine (sBlockPack_len _ _ _ _ _ HZL.out hrz).mono ?_
      rintro _ w2 ⟨A2, c2, ps, hps, ho2, rfl, hb2⟩
      have hpl : ps.length ≤ 42 := by have := packF_le ((xs.take z).drop a); rw [hps.out]; have := HZL.out; omega
      go_wp2_with (at_builtin; refine wpl_app (ys := ps) intT rfl _ _ rfl rfl (ho.below hb2) rfl ho2.ri (by omega) (by have := hb2.size; omega) ?_; intro A4 c4 w4 us hu ho4 hg4 hat4; clear hat4)
      have hbw4 := OI.belowOwn (below_on hbw hb2) (ho.below hb2) hg4 (Nat.le_refl _)
      have HU : Hid (us ++ blksL s (xs.drop (a + s)) = [90] ++ varR K ++ blksL s xs) := by unfold Hid; rw [← hys.out, HBK.out, hu.out, hps.out, HCH.out, List.append_assoc]
      have hul : us.length ≤ 364 := by have h := HL0.out; rw [← HU.out, List.length_append] at h; omega
      clear ho ho2 hu hps hrz hg4 hT hys
      go_roundw
      case rel => exact ⟨a + s, A4, c4, us, by omega, by go_num, rfl, HU, hul, ho4, hbw4⟩
      case measure => simp [intOf]; omega
    · have hg : ¬ (a : Int) < (xs.length : Int) := by omega
      have HN : Hid ((xs.drop a).length = 0) := by unfold Hid; rw [List.length_drop]; omega
      have HY : Hid (ys = [90] ++ varR K ++ blksL s xs) := by unfold Hid; rw [← hys.out, blksL_nil HN.out, List.append_nil]
      clear hys
      go_wp2_with fail
      refine (sPairOf_any _ _ _ _ (hr.below hbw)).mono ?_
      rintro e w' ⟨pa, pb, pok, hpa, hpb, hpok, rfl, rfl⟩
      rw [HPF.out] at hpa hpb
      clear hpok
      go_wp2_with (at_builtin; refine wpl_app (xs := ys) (ys := [pa, pb]) intT rfl _ _ rfl rfl (ho.alloc _) rfl (RI.two wo pa pb) (by simp; omega) (by simp; omega) ?_; intro A5 c5 w5 rs hrs ho5 hg5 hat5; clear hat5)
      have hbw5 := OI.belowOwn (below_on hbw (below_new _ _)) (ho.alloc _) hg5 (Nat.le_refl _)
      have HR : Hid (frameF xs (s : Int) = some rs) := by
        unfold Hid
        rw [HF.out, hrs.out, HY.out, HK.out, hpa.out, hpb.out]
        rfl
      go_ret2
      exact PLB_yes HR.out ho5 hbw5
end Go.Proofs.YtamljhjbmeikiaaGreat
/- A frame is short. No condition. -/
namespace Go.Proofs.YtamljhjbmeikiaaGreat
open Go Go.RowKit
theorem frameB_len {s : Nat} {xs : List Int} (h : xs.length ≤ 120) : (frameB s xs).length ≤ 366 := by
  have h1 := blksL_le (s := s) h
  have h2 := (varR_len (n := (chunks s xs).length) (by have := chunks_le' (s := s) h; omega)).2
  unfold frameB
  rw [List.length_append, List.length_append, List.length_append]
  simp only [List.length_cons, List.length_nil]
  omega
theorem fr_lenD (xs : List Int) (n : Int) : ((frameF xs n).getD []).length ≤ 100000000 := by
  unfold frameF
  split
  · rename_i h
    have := frameB_len (s := n.toNat) (txOk_iff.1 h.1).1
    simp only [Option.getD_some]
    omega
  · simp
end Go.Proofs.YtamljhjbmeikiaaGreat
