/- Joined texts: contracts and plain facts that the laws share. No condition. -/
import Derived.Test.YtamljhjbmeikiaaGCg
import Derived.Test.YtamljhjbmeikiaaGCe
import Derived.Test.YtamljhjbmeikiaaGCa
import Derived.Test.YtamljhjbmeikiaaGCf
/- Contracts: the reference reads runs and tokens of a block. No condition. -/
namespace Go.Proofs.Ytamljhjbmeikiaa
open Go Go.RowKit
theorem drop2_at {bs : List Int} {j : Nat} {x : Int} (h : bs[2 + j]? = some x) : (bs.drop 2).getD j 0 = x := getD_hid (by rw [List.getElem?_drop]; exact h)
set_option maxRecDepth 100000 in
set_option maxHeartbeats 2000000 in
theorem l21OpenRuns_any (A : Option Addr) (c : Nat) (bs : List Int) (w : World) (hr : RI w A c bs) (hok : byOk bs = true) (h2 : 2 ≤ bs.length) (hw : bs.getD 0 0 = 1) : Calls Try.prog 80 #[.slice A bs.length c] w (PLB w (inS bs)) := by
  obtain ⟨_, y, _, hy⟩ := two_of h2
  obtain ⟨hy0, hy1⟩ := byOk_at hok hy
  obtain ⟨n, rfl⟩ := Int.eq_ofNat_of_zero_le hy0
  have hn : n ≤ 255 := by omega
  obtain ⟨ad, _, rfl, HY, _⟩ := hr.get (k := 1) (by omega)
  obtain rfl := Option.some.inj (hy.symm.trans HY.out)
  have hcap := hr.cap
  have hbig := hr.big
  unfold maxLen at hbig
  have HI : Hid (inS bs = joinL (pairsOf (bs.drop 2) (min n ((bs.length - 2) / 2)))) := by
    unfold Hid inS
    rw [if_pos hw, getD_hid hy, List.length_drop]
    rfl
  have e1 : ad.add 1 = ⟨ad.block, ad.off + 1, none⟩ := by simp [Addr.add]
  have hlb1 : (1 : Int) < (bs.length : Int) := by omega
  clear hy hy0 hy1 hok hw
  go_enter Try.func80, Try.ntmps80
  have hoe := OS.empty eRun w w.heap.size 77 (Nat.le_refl _)
  have hbe := below_new w (.cells #[] 77)
  go_wp2_with fail
  go_loopw [4, 5] (fun v t wr => ∃ (k : Nat) (A' : Option Addr) (c' : Nat) (ps : List (Int × Int)), k ≤ n ∧ 2 * k ≤ bs.length - 2 ∧ t = .int .i64 k ∧ v = .slice A' ps.length c' ∧ Hid (ps = pairsOf (bs.drop 2) k) ∧ ps.length ≤ k ∧ OS eRun wr w.heap.size 77 A' c' ps ∧ Below w.heap.size w wr) (fun _ t _ => n - (intOf t).toNat)
  case atStart => exact ⟨0, _, _, [], by omega, by omega, rfl, rfl, hid rfl, by simp, hoe, hbe⟩
  case round =>
    clear hoe hbe
    obtain ⟨k, A', c', ps, hk, hk2, rfl, rfl, hps, hpl, ho, hbw⟩ := hrel
    obtain ⟨wo, rfl⟩ : ∃ wo : World, wo = wr := ⟨_, rfl⟩
    have hwz := hbw.size
    have hcy := RI.cellAt (hr.below hbw) HY.out
    rw [e1] at hcy
    have hw1 : IntKind.i64.wrap (2 * (k : Int)) = 2 * (k : Int) := IntWalk.i64_in _ (by omega)
    have hw3 : IntKind.i64.wrap (3 + 2 * (k : Int)) = 3 + 2 * (k : Int) := IntWalk.i64_in _ (by omega)
    by_cases hlt : k < n
    · have hlI : (k : Int) < (n : Int) := by omega
      by_cases hin : 3 + 2 * k < bs.length
      · have hg : 3 + 2 * (k : Int) < (bs.length : Int) := by omega
        obtain ⟨s, hs⟩ : ∃ s, bs[2 + 2 * k]? = some s := ⟨_, List.getElem?_eq_getElem (by omega)⟩
        obtain ⟨m, hm⟩ : ∃ m, bs[3 + 2 * k]? = some m := ⟨_, List.getElem?_eq_getElem (by omega)⟩
        have hcs := RI.cellAt (hr.below hbw) hs
        have hcm := RI.cellAt (hr.below hbw) hm
        have hi0 : (0 : Int) ≤ 2 + 2 * (k : Int) := by omega
        have hi1 : 2 + 2 * (k : Int) < (bs.length : Int) := by omega
        have hi2 : (0 : Int) ≤ 3 + 2 * (k : Int) := by omega
        have hi4 : (2 + 2 * (k : Int)).toNat = 2 + 2 * k := by omega
        have hi5 : (3 + 2 * (k : Int)).toNat = 3 + 2 * k := by omega
        have hw2 : IntKind.i64.wrap (2 + 2 * (k : Int)) = 2 + 2 * (k : Int) := IntWalk.i64_in _ (by omega)
        have HP : Hid (pairsOf (bs.drop 2) (k + 1) = ps ++ [(s, m)]) := by unfold Hid; rw [pairs_snoc, drop2_at hs, drop2_at (j := 2 * k + 1) (by rw [show 2 + (2 * k + 1) = 3 + 2 * k by omega]; exact hm), hps.out]
        have hone := (OS.one eRun wo wo.heap.size 77 (s, m) #[.int .i64 s, .int .i64 m] rfl (Nat.le_refl _)).drew
        clear hs hm
        go_wp2_with fail
        go_region_law (first | (refine stp_appS2 runT rfl _ _ rfl ps rfl rfl (OS.alloc ho (.cells #[.int .i64 s, .int .i64 m] 77)).drew [(s, m)] rfl rfl hone.rs (by simp; omega) (by omega) (by simp; omega) ?_; intro A3 c3 w3 us hu ho3 hg3 hat3; clear hat3))
        all_goals
          have hU : Hid (us = pairsOf (bs.drop 2) (k + 1)) := by unfold Hid; rw [hu.out, HP.out]
          have hul : us.length ≤ k + 1 := by rw [hu.out]; simp; omega
          have hbw3 := OS.belowOwn (below_drewN (below_on hbw (below_new wo _)) 1) (OS.alloc ho (.cells #[.int .i64 s, .int .i64 m] 77)).drew hg3 (Nat.le_refl _)
          clear hcm hcs hone ho hu hbw
          go_wp2_with fail
          go_roundw
          case rel => exact ⟨k + 1, A3, c3, us, by omega, by omega, by go_num, rfl, hU, hul, ho3, hbw3⟩
          case measure => simp [intOf]; omega
      · have hg : ¬ 3 + 2 * (k : Int) < (bs.length : Int) := by omega
        have HF : Hid (inS bs = joinL ps) := by unfold Hid; rw [HI.out, hps.out, show min n ((bs.length - 2) / 2) = k by omega]
        go_wp2_with fail
        refine (sRunsJoin_any _ _ _ _ ho.rs).mono ?_
        rintro _ w2 ⟨A2, c2, ys, b, hys, hb, ho2, rfl, hb2⟩
        go_wp2_with fail
        go_ret2
        exact ⟨A2, c2, ys, b, hid (by rw [hys.out, HF.out]), hid (by rw [hb.out, HF.out]), ho2.mono hwz, rfl, below_on hbw hb2⟩
    · have hlI : ¬ (k : Int) < (n : Int) := by omega
      have HF : Hid (inS bs = joinL ps) := by unfold Hid; rw [HI.out, hps.out, show min n ((bs.length - 2) / 2) = k by omega]
      go_wp2_with fail
      refine (sRunsJoin_any _ _ _ _ ho.rs).mono ?_
      rintro _ w2 ⟨A2, c2, ys, b, hys, hb, ho2, rfl, hb2⟩
      go_wp2_with fail
      go_ret2
      exact ⟨A2, c2, ys, b, hid (by rw [hys.out, HF.out]), hid (by rw [hb.out, HF.out]), ho2.mono hwz, rfl, below_on hbw hb2⟩
set_option maxRecDepth 100000 in
set_option maxHeartbeats 2000000 in
theorem l21OpenTokens_any (A : Option Addr) (c : Nat) (bs : List Int) (w : World) (hr : RI w A c bs) (hok : byOk bs = true) (h2 : 2 ≤ bs.length) (hw : bs.getD 0 0 = 3) : Calls Try.prog 82 #[.slice A bs.length c] w (PLB w (inS bs)) := by
  obtain ⟨_, y, _, hy⟩ := two_of h2
  obtain ⟨hy0, hy1⟩ := byOk_at hok hy
  obtain ⟨n, rfl⟩ := Int.eq_ofNat_of_zero_le hy0
  have hn : n ≤ 255 := by omega
  obtain ⟨ad, _, rfl, HY, _⟩ := hr.get (k := 1) (by omega)
  obtain rfl := Option.some.inj (hy.symm.trans HY.out)
  have hcap := hr.cap
  have hbig := hr.big
  unfold maxLen at hbig
  have HB : Hid (∀ x ∈ bs, 0 ≤ x ∧ x ≤ 255) := hid fun x hx => byOk_all.1 hok x hx
  have HI : Hid (inS bs = expL (((bs.drop 2).take n).map byteTok)) := by
    unfold Hid inS
    rw [if_neg (by rw [hw]; decide), if_neg (by rw [hw]; decide), if_pos hw, getD_hid hy]
    rfl
  have e1 : ad.add 1 = ⟨ad.block, ad.off + 1, none⟩ := by simp [Addr.add]
  have hlb1 : (1 : Int) < (bs.length : Int) := by omega
  clear hy hy0 hy1 hok hw
  go_enter Try.func82, Try.ntmps82
  have hoe := OS.empty eTok w w.heap.size 82 (Nat.le_refl _)
  have hbe := below_new w (.cells #[] 82)
  go_wp2_with fail
  go_loopw [4, 5] (fun v t wr => ∃ (k : Nat) (A' : Option Addr) (c' : Nat) (ts : List (Int × Int × Int)), k ≤ n ∧ k ≤ bs.length - 2 ∧ t = .int .i64 k ∧ v = .slice A' ts.length c' ∧ Hid (ts = ((bs.drop 2).take k).map byteTok) ∧ ts.length ≤ k ∧ OS eTok wr w.heap.size 82 A' c' ts ∧ Below w.heap.size w wr) (fun _ t _ => n - (intOf t).toNat)
  case atStart => exact ⟨0, _, _, [], by omega, by omega, rfl, rfl, hid rfl, by simp, hoe, hbe⟩
  case round =>
    clear hoe hbe
    obtain ⟨k, A', c', ts, hk, hk2, rfl, rfl, hts, htl, ho, hbw⟩ := hrel
    obtain ⟨wo, rfl⟩ : ∃ wo : World, wo = wr := ⟨_, rfl⟩
    have hwz := hbw.size
    have hcy := RI.cellAt (hr.below hbw) HY.out
    rw [e1] at hcy
    have hw2 : IntKind.i64.wrap (2 + (k : Int)) = 2 + (k : Int) := IntWalk.i64_in _ (by omega)
    by_cases hlt : k < n
    · have hlI : (k : Int) < (n : Int) := by omega
      by_cases hin : 2 + k < bs.length
      · have hg : 2 + (k : Int) < (bs.length : Int) := by omega
        obtain ⟨v, hs⟩ : ∃ s, bs[2 + k]? = some s := ⟨_, List.getElem?_eq_getElem (by omega)⟩
        have hcv := RI.cellAt (hr.below hbw) hs
        have hi0 : (0 : Int) ≤ 2 + (k : Int) := by omega
        have hi4 : (2 + (k : Int)).toNat = 2 + k := by omega
        have hv := HB.out v (List.mem_of_getElem? hs)
        have HV : Hid ((bs.drop 2)[k]? = some v) := by unfold Hid; rw [List.getElem?_drop]; exact hs
        clear hs
        by_cases hv8 : v < 128
        · have HT : Hid (byteTok v = (v, 0, 0)) := hid (if_pos hv8)
          go_wp2_with (at_builtin; refine wpl_appS (F := eTok) (ys := [(v, 0, 0)]) tokT rfl _ _ rfl rfl (ho.alloc _) rfl (OS.one eTok wo wo.heap.size 82 (v, 0, 0) _ rfl (Nat.le_refl _)).rs (by simp; omega) (by omega) (by simp; omega) ?_; intro A3 c3 w3 us hu ho3 hg3 hat3; clear hat3)
          have hbw3 := OS.belowOwn (below_on hbw (below_new _ _)) (ho.alloc _) hg3 (Nat.le_refl _)
          have HU : Hid (us = ((bs.drop 2).take (k + 1)).map byteTok) := by unfold Hid; rw [hu.out, hts.out, take_snoc' HV.out, List.map_append, List.map_singleton, HT.out]
          have hul : us.length ≤ k + 1 := by rw [hu.out]; simp; omega
          clear ho hbw hg3 hu hts hcv
          go_roundw
          case rel => exact ⟨k + 1, A3, c3, us, by omega, by omega, by go_num, rfl, HU, hul, ho3, hbw3⟩
          case measure => simp [intOf]; omega
        · have HT : Hid (byteTok v = (0, v % 16 + 1, (v - 128) / 16 + 2)) := by unfold Hid byteTok; rw [if_neg hv8]
          go_wp2_with (at_builtin; refine wpl_appS (F := eTok) (ys := [(0, v % 16 + 1, (v - 128) / 16 + 2)]) tokT rfl _ _ rfl rfl (ho.alloc _) rfl (OS.one eTok wo wo.heap.size 82 (0, v % 16 + 1, (v - 128) / 16 + 2) _ rfl (Nat.le_refl _)).rs (by simp; omega) (by omega) (by simp; omega) ?_; intro A3 c3 w3 us hu ho3 hg3 hat3; clear hat3)
          have hbw3 := OS.belowOwn (below_on hbw (below_new _ _)) (ho.alloc _) hg3 (Nat.le_refl _)
          have HU : Hid (us = ((bs.drop 2).take (k + 1)).map byteTok) := by unfold Hid; rw [hu.out, hts.out, take_snoc' HV.out, List.map_append, List.map_singleton, HT.out]
          have hul : us.length ≤ k + 1 := by rw [hu.out]; simp; omega
          clear ho hbw hg3 hu hts hcv
          go_roundw
          case rel => exact ⟨k + 1, A3, c3, us, by omega, by omega, by go_num, rfl, HU, hul, ho3, hbw3⟩
          case measure => simp [intOf]; omega
      · have hg : ¬ 2 + (k : Int) < (bs.length : Int) := by omega
        have HF : Hid (inS bs = expL ts) := by unfold Hid; rw [HI.out, hts.out, List.take_eq_take_iff.2 (show min n (bs.drop 2).length = min k (bs.drop 2).length by rw [List.length_drop]; omega)]
        go_wp2_with fail
        refine (sTokensExpand_any _ _ _ _ ho.rs).mono ?_
        rintro _ w2 ⟨A2, c2, ys, b, hys, hb, ho2, rfl, hb2⟩
        go_wp2_with fail
        go_ret2
        exact ⟨A2, c2, ys, b, hid (by rw [hys.out, HF.out]), hid (by rw [hb.out, HF.out]), ho2.mono hwz, rfl, below_on hbw hb2⟩
    · have hlI : ¬ (k : Int) < (n : Int) := by omega
      have HF : Hid (inS bs = expL ts) := by unfold Hid; rw [HI.out, hts.out, List.take_eq_take_iff.2 (show min n (bs.drop 2).length = min k (bs.drop 2).length by rw [List.length_drop]; omega)]
      go_wp2_with fail
      refine (sTokensExpand_any _ _ _ _ ho.rs).mono ?_
      rintro _ w2 ⟨A2, c2, ys, b, hys, hb, ho2, rfl, hb2⟩
      go_wp2_with fail
      go_ret2
      exact ⟨A2, c2, ys, b, hid (by rw [hys.out, HF.out]), hid (by rw [hb.out, HF.out]), ho2.mono hwz, rfl, below_on hbw hb2⟩
end Go.Proofs.Ytamljhjbmeikiaa
/- Contracts: the reference reads a block with codes. No condition. -/
namespace Go.Proofs.Ytamljhjbmeikiaa
open Go Go.RowKit
theorem PLB_dec {w w0 w1 : World} {f : Option (List Int)} {g : Option (List Int × Nat)} {A : Option Addr} {c a : Nat} {ys : List Int} {b : Bool} (hf : f = g.map Prod.fst) (hb : b = g.isSome) (hys : b = true → g = some (ys, a)) (hno : b = false → ys = []) (ho : OI w1 w0.heap.size A c ys) (hs : w.heap.size ≤ w0.heap.size) (hbw : Below w.heap.size w w1) : PLB w f (.returned (.tuple #[.slice A ys.length c, .bool b])) w1 := by
  refine ⟨A, c, ys, b, ?_, ?_, ho.mono hs, rfl, hbw⟩
  · unfold Hid
    cases b with
    | true => rw [hf, hys rfl]; rfl
    | false =>
      rw [hno rfl, hf]
      cases g with
      | none => rfl
      | some x => cases hb
  · unfold Hid; rw [hb, hf]; simp
set_option maxRecDepth 100000 in
set_option maxHeartbeats 2000000 in
theorem l21OpenPrefix_any (A : Option Addr) (c : Nat) (bs : List Int) (w : World) (hr : RI w A c bs) (hok : byOk bs = true) (h2 : 2 ≤ bs.length) (hw : bs.getD 0 0 = 2) : Calls Try.prog 81 #[.slice A bs.length c] w (PLB w (inS bs)) := by
  obtain ⟨_, y, _, hy⟩ := two_of h2
  obtain ⟨hy0, hy1⟩ := byOk_at hok hy
  obtain ⟨n, rfl⟩ := Int.eq_ofNat_of_zero_le hy0
  have hn : n ≤ 255 := by omega
  obtain ⟨ad, _, rfl, HY, _⟩ := hr.get (k := 1) (by omega)
  obtain rfl := Option.some.inj (hy.symm.trans HY.out)
  have hcap := hr.cap
  have hbig := hr.big
  unfold maxLen at hbig
  have HB : Hid (∀ x ∈ bs, 0 ≤ x ∧ x ≤ 255) := hid fun x hx => byOk_all.1 hok x hx
  have HI : Hid (inS bs = (decL (bitsAt bs 75) (lensAt bs) (n : Int)).map Prod.fst) := by
    unfold Hid inS
    rw [if_neg (by rw [hw]; decide), if_pos hw, getD_hid hy]
  have e1 : ad.add 1 = ⟨ad.block, ad.off + 1, none⟩ := by simp [Addr.add]
  have hlb1 : (1 : Int) < (bs.length : Int) := by omega
  clear hy hy0 hy1 hok hw
  go_enter Try.func81, Try.ntmps81
  have hoe := OI.empty w w.heap.size (Nat.le_refl _)
  have hbe := below_new w (.cells #[] 3)
  go_wp2_with fail
  go_loopw [4, 5] (fun v t wr => ∃ (k : Nat) (A' : Option Addr) (c' : Nat) (ys : List Int), k ≤ 4 ∧ k ≤ bs.length - 2 ∧ t = .int .i64 (2 + (k : Int)) ∧ v = .slice A' ys.length c' ∧ Hid (ys = halves ((bs.drop 2).take k)) ∧ ys.length ≤ 2 * k ∧ OI wr w.heap.size A' c' ys ∧ Below w.heap.size w wr) (fun _ t _ => 6 - (intOf t).toNat)
  case atStart => exact ⟨0, _, _, [], by omega, by omega, rfl, rfl, hid rfl, by simp, hoe, hbe⟩
  case round =>
    clear hoe hbe
    obtain ⟨k, A', c', ys, hk, hk2, rfl, rfl, hys, hyl, ho, hbw⟩ := hrel
    obtain ⟨wo, rfl⟩ : ∃ wo : World, wo = wr := ⟨_, rfl⟩
    have hwz := hbw.size
    by_cases hlt : k < 4 ∧ 2 + k < bs.length
    · have hlI : 2 + (k : Int) < 6 := by omega
      have hg : 2 + (k : Int) < (bs.length : Int) := by omega
      obtain ⟨x, hs⟩ : ∃ s, bs[2 + k]? = some s := ⟨_, List.getElem?_eq_getElem (by omega)⟩
      have hcx := RI.cellAt (hr.below hbw) hs
      have hx := HB.out x (List.mem_of_getElem? hs)
      obtain ⟨hx0, hx1⟩ := hx
      have hi0 : (0 : Int) ≤ 2 + (k : Int) := by omega
      have hi4 : (2 + (k : Int)).toNat = 2 + k := by omega
      have hw2 : IntKind.i64.wrap (2 + (k : Int) + 1) = 2 + (k : Int) + 1 := IntWalk.i64_in _ (by omega)
      have HX : Hid ((bs.drop 2)[k]? = some x) := by unfold Hid; rw [List.getElem?_drop]; exact hs
      have hq1 : IntKind.i64.wrap (x.tdiv 16) = x / 16 := by rw [Int.tdiv_eq_ediv_of_nonneg hx0]; exact IntWalk.i64_in _ (by omega)
      have hq2 : x.tmod 16 = x % 16 := Int.tmod_eq_emod_of_nonneg hx0
      clear hs
      go_wp2_with fail
      go_region_law (first | (refine stp_app2 intT rfl _ _ rfl ys rfl rfl (ho.alloc (.cells #[.int .i64 (x / 16), .int .i64 (x % 16)] 3)).drew [x / 16, x % 16] rfl rfl (RI.two wo (x / 16) (x % 16)).drew (by simp; omega) (by simp; omega) ?_; intro A3 c3 w3 us hu ho3 hg3 hat3; clear hat3))
      all_goals
        have hbw3 := OI.belowOwn (below_drewN (below_on hbw (below_new wo _)) 1) (ho.alloc (.cells #[.int .i64 (x / 16), .int .i64 (x % 16)] 3)).drew hg3 (Nat.le_refl _)
        have HU : Hid (us = halves ((bs.drop 2).take (k + 1))) := by unfold Hid; rw [hu.out, hys.out, take_snoc' HX.out, halves_snoc]
        have hul : us.length ≤ 2 * (k + 1) := by rw [hu.out]; simp; omega
        clear hcx ho hu hys hbw hq1 hq2
        go_wp2_with fail
        go_roundw
        case rel => exact ⟨k + 1, A3, c3, us, by omega, by omega, by go_num, rfl, HU, hul, ho3, hbw3⟩
        case measure => simp [intOf]; omega
    · have HL : Hid (ys = lensAt bs) := by unfold Hid lensAt; rw [hys.out, List.take_eq_take_iff.2 (show min k (bs.drop 2).length = min 4 (bs.drop 2).length by rw [List.length_drop]; omega)]
      have hbe := below_on hbw (below_new wo (.cells #[] 3))
      have hoe := OI.empty wo w.heap.size hbw.size
      have hk1 := ho.alloc (.cells #[] 3)
      have hd1 : ∀ b, blk (some (⟨wo.heap.size, 0, none⟩ : Addr)) = some b → blk A' ≠ some b := fun b hb hb' => by have := (OI.lt ho hb').2; simp [blk] at hb; omega
      clear ho hys
      have hbr : (2 + (k : Int) < 6 ∧ ¬ 2 + (k : Int) < (bs.length : Int)) ∨ ¬ 2 + (k : Int) < 6 := by omega
      clear hbw hyl hwz
      rcases hbr with ⟨hlI, hg⟩ | hlI
      · go_wp2_with fail
        go_loopw [6, 7] (fun v t wr => ∃ (q : Nat) (B : Option Addr) (cB : Nat) (fb : List Int), q ≤ 75 ∧ q ≤ bs.length - 6 ∧ t = .int .i64 (6 + (q : Int)) ∧ v = .slice B fb.length cB ∧ Hid (fb = bytesBits ((bs.drop 6).take q)) ∧ fb.length = 8 * q ∧ OI wr w.heap.size B cB fb ∧ OI wr w.heap.size A' c' ys ∧ (∀ b, blk B = some b → blk A' ≠ some b) ∧ Below w.heap.size w wr) (fun _ t _ => 82 - (intOf t).toNat)
        case atStart => exact ⟨0, _, _, [], by omega, by omega, rfl, rfl, hid rfl, rfl, hoe, hk1, hd1, hbe⟩
        case round =>
          clear hoe hk1 hd1 hbe
          obtain ⟨q, B, cB, fb, hq, hq2, rfl, rfl, hfb, hfl, ho, hkc, hdis, hbw2⟩ := hrel
          obtain ⟨wo, rfl⟩ : ∃ wo : World, wo = wr := ⟨_, rfl⟩
          have hwz2 := hbw2.size
          have HDIS := hid hdis
          have HFL := hid hfl
          have hf6 : fb.length ≤ 600 := by omega
          clear hdis hfl
          have hwr : IntKind.i64.wrap ((fb.length : Int) + 8) = (fb.length : Int) + 8 := IntWalk.i64_in _ (by omega)
          have hgA : ¬ 6 + (q : Int) < (bs.length : Int) := by omega
          have HF : Hid (inS bs = (decL fb ys (n : Int)).map Prod.fst) := by
            unfold Hid
            rw [HI.out, HL.out, hfb.out]
            unfold bitsAt
            rw [List.take_eq_take_iff.2 (show min 75 (bs.drop 6).length = min q (bs.drop 6).length by rw [List.length_drop]; omega)]
          have hcy := RI.cellAt (hr.below hbw2) HY.out
          rw [e1] at hcy
          go_wp2_with fail
          refine (sPrefixDecode_any _ _ _ _ fb ys (n : Int) _ ho.ri hkc.ri).mono ?_
          rintro _ w4 ⟨A4, c4, vs, pa, b, hb, hys4, hno, ho4, rfl, hb4⟩
          go_wp2_with fail
          go_ret2
          exact PLB_dec HF.out hb.out hys4.out hno.out ho4 hwz2 (below_on hbw2 hb4)
      · go_wp2_with fail
        go_loopw [6, 7] (fun v t wr => ∃ (q : Nat) (B : Option Addr) (cB : Nat) (fb : List Int), q ≤ 75 ∧ q ≤ bs.length - 6 ∧ t = .int .i64 (6 + (q : Int)) ∧ v = .slice B fb.length cB ∧ Hid (fb = bytesBits ((bs.drop 6).take q)) ∧ fb.length = 8 * q ∧ OI wr w.heap.size B cB fb ∧ OI wr w.heap.size A' c' ys ∧ (∀ b, blk B = some b → blk A' ≠ some b) ∧ Below w.heap.size w wr) (fun _ t _ => 82 - (intOf t).toNat)
        case atStart => exact ⟨0, _, _, [], by omega, by omega, rfl, rfl, hid rfl, rfl, hoe, hk1, hd1, hbe⟩
        case round =>
          clear hoe hk1 hd1 hbe
          obtain ⟨q, B, cB, fb, hq, hq2, rfl, rfl, hfb, hfl, ho, hkc, hdis, hbw2⟩ := hrel
          obtain ⟨wo, rfl⟩ : ∃ wo : World, wo = wr := ⟨_, rfl⟩
          have hwz2 := hbw2.size
          have HDIS := hid hdis
          have HFL := hid hfl
          have hf6 : fb.length ≤ 600 := by omega
          clear hdis hfl
          have hwr : IntKind.i64.wrap ((fb.length : Int) + 8) = (fb.length : Int) + 8 := IntWalk.i64_in _ (by omega)
          by_cases hlt1 : 6 + q < bs.length
          · have hgA : 6 + (q : Int) < (bs.length : Int) := by omega
            by_cases hlt2 : q < 75
            · have hgB : (fb.length : Int) + 8 ≤ 600 := by have := HFL.out; omega
              obtain ⟨x, hs⟩ : ∃ s, bs[6 + q]? = some s := ⟨_, List.getElem?_eq_getElem (by omega)⟩
              have hcx := RI.cellAt (hr.below hbw2) hs
              have hx := HB.out x (List.mem_of_getElem? hs)
              have HX : Hid ((bs.drop 6)[q]? = some x) := by unfold Hid; rw [List.getElem?_drop]; exact hs
              obtain ⟨hx0, hx1⟩ := hx
              obtain ⟨m, rfl⟩ := Int.eq_ofNat_of_zero_le hx0
              have hi0 : (0 : Int) ≤ 6 + (q : Int) := by omega
              have hi4 : (6 + (q : Int)).toNat = 6 + q := by omega
              clear hs
              go_wp2_with fail
              refine (l1Put_any m 8 _ (by omega) (by omega)).mono ?_
              rintro _ w2 ⟨A2, c2, zs, hzs, ho2, rfl, hb2⟩
              have HZL : Hid (zs.length = 8) := by unfold Hid; rw [hzs.out, bitsF_length]
              have hz8 : zs.length ≤ 8 := by have := HZL.out; omega
              go_wp2_with (at_builtin; refine wpl_app (ys := zs) intT rfl _ _ rfl rfl (ho.below hb2) rfl ho2.ri (by omega) (by have := hb2.size; omega) ?_; intro A3 c3 w3 us hu ho3 hg3 hat3; have hat4 := hid hat3; clear hat3)
              have hbw3 := OI.belowOwn (below_on hbw2 hb2) (ho.below hb2) hg3 (Nat.le_refl _)
              have hk3 := (hkc.below hb2).grown hg3 (fun g hg e => HDIS.out g e hg)
              have hd3 : ∀ b, blk A3 = some b → blk A' ≠ some b := fun b h1 h2 => by
                have h3 := (OI.lt hkc h2).2
                have h4 := hb2.size
                rcases hat4.out with h | h
                · exact HDIS.out b (h ▸ h1) h2
                · rw [h] at h1; injection h1 with h1; omega
              have HU : Hid (us = bytesBits ((bs.drop 6).take (q + 1))) := by unfold Hid; rw [hu.out, hfb.out, hzs.out, take_snoc' HX.out, bytesBits_snoc]; rfl
              have hul : us.length = 8 * (q + 1) := by rw [hu.out, List.length_append, HZL.out, HFL.out]; omega
              clear ho hkc hbw2 hg3 hu hfb hcx
              go_roundw
              case rel => exact ⟨q + 1, A3, c3, us, by omega, by omega, by go_num, rfl, HU, hul, ho3, hk3, hd3, hbw3⟩
              case measure => simp [intOf]; omega
            · have hgB : ¬ (fb.length : Int) + 8 ≤ 600 := by have := HFL.out; omega
              have HF : Hid (inS bs = (decL fb ys (n : Int)).map Prod.fst) := by
                unfold Hid
                rw [HI.out, HL.out, hfb.out]
                unfold bitsAt
                rw [List.take_eq_take_iff.2 (show min 75 (bs.drop 6).length = min q (bs.drop 6).length by rw [List.length_drop]; omega)]
              have hcy := RI.cellAt (hr.below hbw2) HY.out
              rw [e1] at hcy
              go_wp2_with fail
              refine (sPrefixDecode_any _ _ _ _ fb ys (n : Int) _ ho.ri hkc.ri).mono ?_
              rintro _ w4 ⟨A4, c4, vs, pa, b, hb, hys4, hno, ho4, rfl, hb4⟩
              go_wp2_with fail
              go_ret2
              exact PLB_dec HF.out hb.out hys4.out hno.out ho4 hwz2 (below_on hbw2 hb4)
          · have hgA : ¬ 6 + (q : Int) < (bs.length : Int) := by omega
            have HF : Hid (inS bs = (decL fb ys (n : Int)).map Prod.fst) := by
              unfold Hid
              rw [HI.out, HL.out, hfb.out]
              unfold bitsAt
              rw [List.take_eq_take_iff.2 (show min 75 (bs.drop 6).length = min q (bs.drop 6).length by rw [List.length_drop]; omega)]
            have hcy := RI.cellAt (hr.below hbw2) HY.out
            rw [e1] at hcy
            go_wp2_with fail
            refine (sPrefixDecode_any _ _ _ _ fb ys (n : Int) _ ho.ri hkc.ri).mono ?_
            rintro _ w4 ⟨A4, c4, vs, pa, b, hb, hys4, hno, ho4, rfl, hb4⟩
            go_wp2_with fail
            go_ret2
            exact PLB_dec HF.out hb.out hys4.out hno.out ho4 hwz2 (below_on hbw2 hb4)
end Go.Proofs.Ytamljhjbmeikiaa
/- Contracts: the reference opens a block. No condition. -/
namespace Go.Proofs.Ytamljhjbmeikiaa
open Go Go.RowKit
/-- What the reading answers: an own list, and whether it is one. -/
def POpen (w : World) (f : Option (List Int)) (e : Ending) (w' : World) : Prop :=
  ∃ A c ys b, Hid (b = f.isSome) ∧ Hid (b = true → f = some ys) ∧ OI w' w.heap.size A c ys ∧ e = .returned (.tuple #[.slice A ys.length c, .bool b]) ∧ Below w.heap.size w w'
theorem POpen_PLB {w w0 w1 : World} {f : Option (List Int)} {A : Option Addr} {c : Nat} {ys : List Int} {b : Bool} (hys : ys = f.getD []) (hb : b = f.isSome) (ho : OI w1 w0.heap.size A c ys) (hs : w.heap.size ≤ w0.heap.size) (hbw : Below w.heap.size w w1) : POpen w f (.returned (.tuple #[.slice A ys.length c, .bool b])) w1 := by
  refine ⟨A, c, ys, b, hb, hid (fun h => ?_), ho.mono hs, rfl, hbw⟩
  cases f with
  | none => rw [hb] at h; cases h
  | some l => rw [hys]; rfl
set_option maxRecDepth 100000 in
set_option maxHeartbeats 2000000 in
theorem l21Open_any (A : Option Addr) (c : Nat) (bs : List Int) (w : World) (hr : RI w A c bs) (hok : byOk bs = true) (h2 : 2 ≤ bs.length) : Calls Try.prog 45 #[.slice A bs.length c] w (POpen w (inS bs)) := by
  obtain ⟨x, y, hx, hy⟩ := two_of h2
  obtain ⟨hy0, hy1⟩ := byOk_at hok hy
  obtain ⟨n, rfl⟩ := Int.eq_ofNat_of_zero_le hy0
  have hn : n ≤ 255 := by omega
  obtain ⟨ad, _, rfl, HX, hcx⟩ := hr.get (k := 0) (by omega)
  obtain rfl := Option.some.inj (hx.symm.trans HX.out)
  rw [add0] at hcx
  have HXD : Hid (bs.getD 0 0 = x) := hid (getD_hid hx)
  have HYD : Hid (bs.getD 1 0 = (n : Int)) := hid (getD_hid hy)
  have HY := hid hy
  have HOK := hid hok
  have hcap := hr.cap
  have hbig := hr.big
  unfold maxLen at hbig
  have hlb0 : (0 : Int) < (bs.length : Int) := by omega
  have hlb1 : (1 : Int) < (bs.length : Int) := by omega
  clear hx hy hy0 hy1 hok
  by_cases q1 : x = 1
  · subst q1
    go_enter Try.func45, Try.ntmps45
    go_wp2_with fail
    refine (l21OpenRuns_any _ _ _ _ hr HOK.out h2 HXD.out).mono ?_
    rintro _ w1 ⟨A1, c1, ys, b, hys, hb, ho1, rfl, hb1⟩
    go_wp2_with fail
    go_ret2
    exact POpen_PLB (w0 := w) hys.out hb.out ho1 (Nat.le_refl _) hb1
  by_cases q2 : x = 2
  · subst q2
    go_enter Try.func45, Try.ntmps45
    go_wp2_with fail
    refine (l21OpenPrefix_any _ _ _ _ hr HOK.out h2 HXD.out).mono ?_
    rintro _ w1 ⟨A1, c1, ys, b, hys, hb, ho1, rfl, hb1⟩
    go_wp2_with fail
    go_ret2
    exact POpen_PLB (w0 := w) hys.out hb.out ho1 (Nat.le_refl _) hb1
  by_cases q3 : x = 3
  · subst q3
    go_enter Try.func45, Try.ntmps45
    go_wp2_with fail
    refine (l21OpenTokens_any _ _ _ _ hr HOK.out h2 HXD.out).mono ?_
    rintro _ w1 ⟨A1, c1, ys, b, hys, hb, ho1, rfl, hb1⟩
    go_wp2_with fail
    go_ret2
    exact POpen_PLB (w0 := w) hys.out hb.out ho1 (Nat.le_refl _) hb1
  have HI : Hid (inS bs = if x = 0 then some ((bs.drop 2).take n) else none) := by
    unfold Hid inS
    rw [HXD.out, HYD.out, if_neg q1, if_neg q2, if_neg q3]
    rfl
  have hcy := RI.cellAt (hr.alloc (.cells #[] 3)) HY.out
  have hcx1 := RI.cellAt (hr.alloc (.cells #[] 3)) HX.out
  rw [add0] at hcx1
  have e1 : ad.add 1 = ⟨ad.block, ad.off + 1, none⟩ := by simp [Addr.add]
  rw [e1] at hcy
  have hcy0 := RI.cellAt hr HY.out
  rw [e1] at hcy0
  obtain ⟨m, hm⟩ : ∃ m, m = min n (bs.length - 2) := ⟨_, rfl⟩
  have hrz := RI.takeAt (RI.cutAt hr (k := 2) h2) (k := m) (by rw [List.length_drop]; omega)
  have HTK : Hid ((bs.drop 2).take m = (bs.drop 2).take n) := by unfold Hid; rw [List.take_eq_take_iff, List.length_drop]; omega
  have hT : (if (bs.length : Int) < 2 + (n : Int) then (bs.length : Int) else 2 + (n : Int)) = 2 + (m : Int) := by split <;> omega
  have hw1 : IntKind.i64.wrap (2 + (n : Int)) = 2 + (n : Int) := IntWalk.i64_in _ (by omega)
  have hoe := OI.empty w w.heap.size (Nat.le_refl _)
  have hmn : m ≤ bs.length - 2 := by omega
  have hlb9 : 0 < bs.length := by omega
  clear hm
  obtain ⟨zs, hzs⟩ : ∃ zs, zs = (bs.drop 2).take m := ⟨_, rfl⟩
  have hzl : zs.length = m := by rw [hzs, List.length_take, List.length_drop]; omega
  rw [← hzs] at hrz HTK
  clear hzs
  subst hzl
  have hs0 : (0 : Int) ≤ 2 + (zs.length : Int) := by omega
  have hs1 : 2 + (zs.length : Int) ≤ (c : Int) := by omega
  have hs2 : (2 : Int) ≤ max (2 + (zs.length : Int)) 0 := by omega
  have hs3 : (2 + (zs.length : Int)).toNat - 2 = zs.length := by omega
  go_enter Try.func45, Try.ntmps45
  go_wp2_with fail
  go_region_law (first | (refine stp_app2 intT rfl _ _ rfl [] rfl rfl hoe.drew zs rfl rfl (hrz.alloc (.cells #[] 3)).drew (by simp; omega) (by simp) ?_; intro A3 c3 w3 us hu ho3 hg3 hat3; clear hat3; have hbw3 := OI.belowOwn (below_drewN (below_new w (.cells #[] 3)) 1) hoe.drew hg3 (Nat.le_refl _); have hcx3 := RI.cellAt (hr.below hbw3) HX.out; rw [add0] at hcx3))
  all_goals
    have HU : Hid (us = (bs.drop 2).take n) := by unfold Hid; rw [hu.out, List.nil_append, HTK.out]
    clear hcx1 hcy hcy0 hcx hcx3 hoe hrz hs0 hs1 hs2 hs3 hg3 hu
    by_cases q0 : x = 0
    · subst q0
      have HF : Hid (inS bs = some us) := by unfold Hid; rw [HI.out, if_pos rfl, HU.out]
      go_wp2_with fail
      all_goals
        go_ret2
        exact ⟨A3, c3, us, true, by simp [Hid, HF.out], hid (fun _ => HF.out), ho3, rfl, hbw3⟩
    · have HF : Hid (inS bs = none) := by unfold Hid; rw [HI.out, if_neg q0]
      have hq0 : (x == 0) = false := by rw [beq_eq_false_iff_ne]; exact q0
      go_wp2_with fail
      all_goals
        go_ret2
        exact ⟨A3, c3, us, _, by simp [Hid, HF.out], hid (fun h => absurd h (by simp)), ho3, rfl, hbw3⟩
end Go.Proofs.Ytamljhjbmeikiaa
/- Contracts: the reference opens a block; how many bytes it has. No condition. -/
namespace Go.Proofs.Ytamljhjbmeikiaa
open Go Go.RowKit
/-- How many bytes a block has. -/
def szW (f : Option (List Int × Nat)) : Int :=
  match f with
  | some (_, n) => n
  | none => -1
theorem PNb_szN {w w1 : World} {f : Option (List Int × Nat)} (hf : f = none) (hb : Below w.heap.size w w1) : PNb w (szW f) (.returned (.int .i64 (-1))) w1 := by
  subst hf; exact ⟨-1, hid rfl, rfl, hb⟩
theorem PNb_szS {w w1 : World} {f : Option (List Int × Nat)} {l : List Int} {n : Nat} (hf : f = some (l, n)) (hb : Below w.heap.size w w1) : PNb w (szW f) (.returned (.int .i64 n)) w1 := by
  subst hf; exact ⟨n, hid rfl, rfl, hb⟩
theorem l2Same_len (A B : Option Addr) (c d n : Nat) (xs ys : List Int) (w : World) (hn : n = ys.length) (hr : RI w A c xs) (hs : RI w B d ys) :
    Calls Try.prog 79 #[.slice A xs.length c, .slice B n d] w (PBb w (decide (xs = ys))) := by
  subst hn; exact l2Same_any A B c d xs ys w hr hs
set_option maxRecDepth 100000 in
set_option maxHeartbeats 2000000 in
theorem l21Size_any (A : Option Addr) (c : Nat) (bs : List Int) (w : World) (hr : RI w A c bs) (hok : byOk bs = true) (h2 : 2 ≤ bs.length) : Calls Try.prog 44 #[.slice A bs.length c] w (PNb w (szW (opS bs))) := by
  have HOK := hid hok
  clear hok
  go_enter Try.func44, Try.ntmps44
  go_wp2_with fail
  refine (l21Open_any _ _ _ _ hr HOK.out h2).mono ?_
  rintro _ w1 ⟨A1, c1, ys, b, hb, hys, ho1, rfl, hb1⟩
  obtain ⟨x, _, hx, _⟩ := two_of h2
  obtain ⟨ad, x', rfl, HX, hcx⟩ := (hr.below hb1).get (k := 0) (by omega)
  obtain rfl := Option.some.inj (hx.symm.trans HX.out)
  rw [add0] at hcx
  have HX0 : Hid (bs.getD 0 0 = x) := hid (getD_hid hx)
  have hl0 : (0 : Int) < (bs.length : Int) := by omega
  have hr1 := ho1.ri
  clear hx ho1
  cases b with
  | false =>
    have HF : Hid (opS bs = none) := hid (opW_none (Option.not_isSome_iff_eq_none.1 (by rw [← hb.out]; decide)))
    clear hr1 hcx
    go_wp2_with fail
    go_ret
    exact PNb_szN HF.out hb1
  | true =>
    have HY : Hid (inS bs = some ys) := hid (hys.out rfl)
    clear hb hys
    go_wp2_with fail
    refine (sBlockAs_any _ _ _ _ _ hr1).mono ?_
    rintro _ w2 ⟨A2, c2, zs, b, hzs, hb2', ho2, rfl, hb2⟩
    cases b with
    | false =>
      have HF : Hid (opS bs = none) := hid (opW_as HY.out (by rw [HX0.out]; exact Option.not_isSome_iff_eq_none.1 (by rw [← hb2'.out]; decide)))
      clear hr1 hcx ho2
      go_wp2_with fail
      go_ret
      exact PNb_szN HF.out (below_on hb1 hb2)
    | true =>
      have HA : Hid (asL ys (bs.getD 0 0) = some zs) := hid (by rw [HX0.out]; exact asL_at rfl hzs.out hb2'.out)
      by_cases hl : bs.length < zs.length
      · have hg2 : (zs.length : Int) > (bs.length : Int) := by omega
        have HF : Hid (opS bs = none) := hid (opW_cut HY.out HA.out (fun h => by omega))
        clear hr1 hcx ho2
        go_wp2_with fail
        go_ret
        exact PNb_szN HF.out (below_on hb1 hb2)
      · have hg2 : ¬ (zs.length : Int) > (bs.length : Int) := by omega
        have hbc : (zs.length : Int) ≤ (c : Int) := by have := hr.cap; omega
        have hrt := (RI.takeAt hr (k := zs.length) (by omega)).below (below_on hb1 hb2)
        have HTL : Hid (zs.length = (bs.take zs.length).length) := by unfold Hid; rw [List.length_take]; omega
        clear hcx
        go_wp2_with fail
        refine (l2Same_len _ _ _ _ _ _ _ _ HTL.out ho2.ri hrt).mono ?_
        rintro e w9 ⟨b, hb, rfl, hb9⟩
        cases b with
        | false =>
          have HF : Hid (opS bs = none) := hid (opW_cut HY.out HA.out (fun h => by have := hb.out; simp [← h.2] at this))
          clear hr1 ho2 hrt
          go_wp2_with fail
          go_ret
          exact PNb_szN HF.out (below_on (below_on hb1 hb2) hb9)
        | true =>
          have HF : Hid (opS bs = some (ys, zs.length)) := hid (opW_yes ⟨HOK.out, h2⟩ HY.out HA.out ⟨by omega, by simpa using hb.out⟩)
          clear hrt hr1 ho2
          go_wp2_with fail
          go_ret
          exact PNb_szS HF.out (below_on (below_on hb1 hb2) hb9)
set_option maxRecDepth 100000 in
set_option maxHeartbeats 2000000 in
theorem sBlockOpen_any (A : Option Addr) (c : Nat) (bs : List Int) (w : World) (hr : RI w A c bs) : Calls Try.prog 13 #[.slice A bs.length c] w (PLNB w (opR (opF bs))) := by
  go_enter Try.func13, Try.ntmps13
  go_wp2_with fail
  refine (l1Bytes_any _ _ _ _ hr).mono ?_
  rintro e w' ⟨b, hb, rfl, rfl⟩
  by_cases hok : byOk bs = true
  rotate_left
  · obtain rfl : b = false := hb.out.trans (by simpa using hok)
    have HF : Hid (opF bs = none) := hid (opW_no (fun h => hok h.1))
    clear hok
    go_wp2_with fail
    go_ret3
    exact PLNB_opN HF.out (Below.refl _ _)
  obtain rfl : b = true := hb.out.trans hok
  by_cases h2 : 2 ≤ bs.length
  rotate_left
  · have hg : (bs.length : Int) < 2 := by omega
    have HF : Hid (opF bs = none) := hid (opW_no (fun h => h2 h.2))
    clear hok
    go_wp2_with fail
    go_ret3
    exact PLNB_opN HF.out (Below.refl _ _)
  have hg : ¬ (bs.length : Int) < 2 := by omega
  have HOK := hid hok
  have HSF : Hid (opS bs = opF bs) := hid (opS_opF bs)
  clear hok hb
  go_wp2_with fail
  refine (l21Size_any _ _ _ _ hr HOK.out h2).mono ?_
  rintro _ w1 ⟨m, hm, rfl, hb1⟩
  cases hF : opF bs with
  | none =>
    obtain rfl : m = -1 := by rw [hm.out, HSF.out, hF]; rfl
    have HF := hid hF
    clear hF
    rw [← HF.out]
    go_wp2_with fail
    go_ret3
    exact PLNB_opN HF.out hb1
  | some r =>
    obtain ⟨l, n⟩ := r
    obtain rfl : m = (n : Int) := by rw [hm.out, HSF.out, hF]; rfl
    have HF := hid hF
    clear hF hm
    rw [← HF.out]
    have hn0 : ¬ (n : Int) < 0 := by omega
    go_wp2_with fail
    refine (l21Open_any _ _ _ _ (hr.below hb1) HOK.out h2).mono ?_
    rintro _ w2 ⟨A2, c2, ys, b, hb, hys, ho2, rfl, hb2⟩
    have HI : Hid (inS bs = some l) := hid (isB_in (opF_iff.1 HF.out)).2
    obtain rfl : b = true := by rw [hb.out, HI.out]; rfl
    obtain rfl : ys = l := by have := hys.out rfl; rw [HI.out] at this; exact (Option.some.inj this).symm
    clear hb hys
    go_wp2_with fail
    refine (l21Size_any _ _ _ _ (hr.below (below_on hb1 hb2)) HOK.out h2).mono ?_
    rintro _ w3 ⟨m, hm, rfl, hb3⟩
    obtain rfl : m = (n : Int) := by rw [hm.out, HSF.out, HF.out]; rfl
    go_wp2_with fail
    go_ret3
    exact PLNB_opS HF.out ((ho2.mono hb1.size).below hb3) (below_on (below_on hb1 hb2) hb3)
end Go.Proofs.Ytamljhjbmeikiaa
