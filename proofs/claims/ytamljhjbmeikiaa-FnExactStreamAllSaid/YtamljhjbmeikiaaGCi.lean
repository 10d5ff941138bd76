/- Joined texts: contracts and plain facts that the laws share. No condition. -/
import Derived.Test.YtamljhjbmeikiaaGCh
import Derived.Test.YtamljhjbmeikiaaGCe
/- Contracts: how many bytes a block needs in the reference; its state. No condition. -/
namespace Go.Proofs.Ytamljhjbmeikiaa
open Go Go.RowKit
/-- How many bytes are needed. -/
def ndW (f : Option Nat) : Int :=
  match f with
  | some n => n
  | none => -1
theorem PNb_ndN {w w1 : World} {f : Option Nat} (hf : f = none) (hb : Below w.heap.size w w1) : PNb w (ndW f) (.returned (.int .i64 (-1))) w1 := by
  subst hf; exact ⟨-1, hid rfl, rfl, hb⟩
theorem PNb_ndS {w w1 : World} {f : Option Nat} {n : Nat} {i : Int} (hf : f = some n) (hi : i = n) (hb : Below w.heap.size w w1) : PNb w (ndW f) (.returned (.int .i64 i)) w1 := by
  subst hf; subst hi; exact ⟨n, hid rfl, rfl, hb⟩
set_option maxHeartbeats 1000000 in
theorem l21NeedPrefix_few (A : Option Addr) (c n : Nat) (bs : List Int) (w : World) (hr : RI w A c bs) (h2 : 2 ≤ bs.length) (hy : bs.getD 1 0 = (n : Int)) (h : n = 0 ∨ bs.length < 6) (f : Option Nat) (hf : f = if n = 0 then none else some 6) : Calls Try.prog 85 #[.slice A bs.length c] w (PNb w (ndW f)) := by
  obtain ⟨ad, y, rfl, HY, hcy⟩ := hr.get (k := 1) (by omega)
  obtain rfl : y = (n : Int) := (getD_hid HY.out).symm.trans hy
  have e1 : ad.add 1 = ⟨ad.block, ad.off + 1, none⟩ := by simp [Addr.add]
  rw [e1] at hcy
  have hlb1 : (1 : Int) < (bs.length : Int) := by omega
  clear hy
  by_cases hn : n = 0
  · have HF : Hid (f = none) := by unfold Hid; rw [hf, if_pos hn]
    have hq : ((n : Int) == 0) = true := by simp [hn]
    clear hf hn h
    go_enter Try.func85, Try.ntmps85
    go_wp2_with fail
    go_ret
    exact PNb_ndN HF.out (Below.refl _ _)
  · have HF : Hid (f = some 6) := by unfold Hid; rw [hf, if_neg hn]
    have hq : ((n : Int) == 0) = false := by rw [beq_eq_false_iff_ne]; omega
    have hg : (bs.length : Int) < 6 := by omega
    clear hf hn h
    go_enter Try.func85, Try.ntmps85
    go_wp2_with fail
    go_ret
    exact PNb_ndS HF.out rfl (Below.refl _ _)
set_option maxRecDepth 100000 in
set_option maxHeartbeats 4000000 in
theorem l21NeedPrefix_any (A : Option Addr) (c n : Nat) (bs : List Int) (w : World) (hr : RI w A c bs) (hok : byOk bs = true) (h6 : 6 ≤ bs.length) (hy : bs.getD 1 0 = (n : Int)) (h0 : 0 < n) (hn : n ≤ 40) : Calls Try.prog 85 #[.slice A bs.length c] w (PNb w (ndW (needP 75 bs))) := by
  obtain ⟨ad, y, rfl, HY, hcy⟩ := hr.get (k := 1) (by omega)
  obtain rfl : y = (n : Int) := (getD_hid HY.out).symm.trans hy
  have HYD := hid hy
  have e1 : ad.add 1 = ⟨ad.block, ad.off + 1, none⟩ := by simp [Addr.add]
  rw [e1] at hcy
  have hcap := hr.cap
  have hbig := hr.big
  unfold maxLen at hbig
  have HB : Hid (∀ x ∈ bs, 0 ≤ x ∧ x ≤ 255) := hid fun x hx => byOk_all.1 hok x hx
  have hlb1 : (1 : Int) < (bs.length : Int) := by omega
  have hg6 : ¬ (bs.length : Int) < 6 := by omega
  have hq : ((n : Int) == 0) = false := by rw [beq_eq_false_iff_ne]; omega
  clear hy hok
  go_enter Try.func85, Try.ntmps85
  have hoe := OI.empty w w.heap.size (Nat.le_refl _)
  have hbe := below_new w (.cells #[] 3)
  go_wp2_with fail
  go_loopw [3, 4] (fun v t wr => ∃ (k : Nat) (A' : Option Addr) (c' : Nat) (ys : List Int), k ≤ 4 ∧ t = .int .i64 (2 + (k : Int)) ∧ v = .slice A' ys.length c' ∧ Hid (ys = halves ((bs.drop 2).take k)) ∧ ys.length ≤ 2 * k ∧ OI wr w.heap.size A' c' ys ∧ Below w.heap.size w wr) (fun _ t _ => 6 - (intOf t).toNat)
  case atStart => exact ⟨0, _, _, [], by omega, rfl, rfl, hid rfl, by simp, hoe, hbe⟩
  case round =>
    clear hoe hbe hcy
    obtain ⟨k, A', c', ys, hk, rfl, rfl, hys, hyl, ho, hbw⟩ := hrel
    obtain ⟨wo, rfl⟩ : ∃ wo : World, wo = wr := ⟨_, rfl⟩
    have hwz := hbw.size
    by_cases hlt : k < 4
    · have hlI : 2 + (k : Int) < 6 := by omega
      have hg : 2 + (k : Int) < (bs.length : Int) := by omega
      obtain ⟨x, hs⟩ : ∃ s, bs[2 + k]? = some s := ⟨_, List.getElem?_eq_getElem (by omega)⟩
      have hcx := RI.cellAt (hr.below hbw) hs
      have hx := HB.out x (List.mem_of_getElem? hs)
      obtain ⟨hx0, hx1⟩ := hx
      have hi0 : (0 : Int) ≤ 2 + (k : Int) := by omega
      have hi4 : (2 + (k : Int)).toNat = 2 + k := by omega
      have hw2 : IntKind.i64.wrap (2 + (k : Int) + 1) = 2 + (k : Int) + 1 := IntWalk.i64_in _ (by omega)
      have HX : Hid ((bs.drop 2)[k]? = some x) := by unfold Hid; rw [List.getElem?_drop]; exact hs
      have hq1 : IntKind.i64.wrap (x.tdiv 16) = x / 16 := by rw [Int.tdiv_eq_ediv_of_nonneg hx0]; exact IntWalk.i64_in _ (by omega)
      have hq2 : x.tmod 16 = x % 16 := Int.tmod_eq_emod_of_nonneg hx0
      clear hs
      go_wp2_with fail
      go_region_law (first | (refine stp_app2 intT rfl _ _ rfl ys rfl rfl (ho.alloc (.cells #[.int .i64 (x / 16), .int .i64 (x % 16)] 3)).drew [x / 16, x % 16] rfl rfl (RI.two wo (x / 16) (x % 16)).drew (by simp; omega) (by simp; omega) ?_; intro A3 c3 w3 us hu ho3 hg3 hat3; clear hat3))
      all_goals
        have hbw3 := OI.belowOwn (below_drewN (below_on hbw (below_new wo _)) 1) (ho.alloc (.cells #[.int .i64 (x / 16), .int .i64 (x % 16)] 3)).drew hg3 (Nat.le_refl _)
        have HU : Hid (us = halves ((bs.drop 2).take (k + 1))) := by unfold Hid; rw [hu.out, hys.out, take_snoc' HX.out, halves_snoc]
        have hul : us.length ≤ 2 * (k + 1) := by rw [hu.out]; simp; omega
        clear hcx ho hu hys hbw hq1 hq2
        go_wp2_with fail
        go_roundw
        case rel => exact ⟨k + 1, A3, c3, us, by omega, by go_num, rfl, HU, hul, ho3, hbw3⟩
        case measure => simp [intOf]; omega
    · have HL : Hid (ys = lensAt bs) := by unfold Hid lensAt; rw [hys.out, show k = 4 by omega]
      have hlI : ¬ 2 + (k : Int) < 6 := by omega
      have hrL0 := ho.ri
      clear ho hys
      go_wp2_with fail
      refine (sLengthsValid_any _ _ _ _ hrL0).mono ?_
      rintro e w' ⟨b, hb, rfl, rfl⟩
      by_cases hv : lenVal ys = true
      rotate_left
      · obtain rfl : b = false := hb.out.trans (by simpa using hv)
        have HN : Hid (needP 75 bs = none) := by unfold Hid needP; rw [← HL.out, if_neg hv]
        clear hv hb
        go_wp2_with fail
        go_ret
        exact PNb_ndN HN.out hbw
      obtain rfl : b = true := hb.out.trans hv
      have HV := hid hv
      obtain ⟨h8, hall⟩ := lenVal_ok hv
      have H8 := hid h8
      have HALL := hid hall
      have hl1 : ys.length ≤ 8 := by omega
      have hl2 : 8 ≤ ys.length := by omega
      clear hv hb h8 hall
      go_wp2_with fail
      refine (sCodesOf_any _ _ _ _ hrL0 HV.out).mono ?_
      rintro _ w1 ⟨A1, c1, cs, hcs, ho1, rfl, hb1⟩
      have HCS : Hid (cs = codesL ys) := hid hcs.out
      have hc8 : cs.length = 8 := by rw [hcs.out]; simp [codesL]
      have HC8 := hid hc8
      have hrL := hrL0.below hb1
      have hrC := ho1.ri
      have hbw1 := below_on hbw hb1
      have hwz1 := hbw1.size
      clear hc8 hcs hrL0 ho1 hb1 hbw
      have hoe := OI.empty w1 w1.heap.size (Nat.le_refl _)
      have hbe := below_new w1 (.cells #[] 3)
      go_wp2_with fail
      go_loopw [6, 7] (fun v t wr => ∃ (q : Nat) (B : Option Addr) (cB : Nat) (fb : List Int), q ≤ 75 ∧ q ≤ bs.length - 6 ∧ t = .int .i64 (6 + (q : Int)) ∧ v = .slice B fb.length cB ∧ Hid (fb = bytesBits ((bs.drop 6).take q)) ∧ Hid (fb.length = 8 * q) ∧ fb.length ≤ 600 ∧ OI wr w1.heap.size B cB fb ∧ Below w1.heap.size w1 wr) (fun _ t _ => 82 - (intOf t).toNat)
      case atStart => exact ⟨0, _, _, [], by omega, by omega, rfl, rfl, hid rfl, hid rfl, by simp, hoe, hbe⟩
      case round =>
        clear hoe hbe
        obtain ⟨q, B, cB, fb, hq75, hq6, rfl, rfl, hfb, HFL, hf6, ho, hbw2⟩ := hrel
        obtain ⟨wo, rfl⟩ : ∃ wo : World, wo = wr := ⟨_, rfl⟩
        have hwz2 := hbw2.size
        have hwr : IntKind.i64.wrap ((fb.length : Int) + 8) = (fb.length : Int) + 8 := IntWalk.i64_in _ (by omega)
        by_cases hlt1 : 6 + q < bs.length
        · have hgA : 6 + (q : Int) < (bs.length : Int) := by omega
          by_cases hlt2 : q < 75
          · have hgB : (fb.length : Int) + 8 ≤ 600 := by have := HFL.out; omega
            obtain ⟨x, hs⟩ : ∃ s, bs[6 + q]? = some s := ⟨_, List.getElem?_eq_getElem (by omega)⟩
            have hcx := RI.cellAt (hr.below (below_on hbw1 hbw2)) hs
            have hx := HB.out x (List.mem_of_getElem? hs)
            have HX : Hid ((bs.drop 6)[q]? = some x) := by unfold Hid; rw [List.getElem?_drop]; exact hs
            obtain ⟨hx0, hx1⟩ := hx
            obtain ⟨m, rfl⟩ := Int.eq_ofNat_of_zero_le hx0
            have hi0 : (0 : Int) ≤ 6 + (q : Int) := by omega
            have hi4 : (6 + (q : Int)).toNat = 6 + q := by omega
            clear hs
            go_wp2_with fail
            refine (l1Put_any m 8 _ (by omega) (by omega)).mono ?_
            rintro _ w2 ⟨A2, c2, zs, hzs, ho2, rfl, hb2⟩
            have HZL : Hid (zs.length = 8) := by unfold Hid; rw [hzs.out, bitsF_length]
            have hz8 : zs.length ≤ 8 := by have := HZL.out; omega
            go_wp2_with (at_builtin; refine wpl_app (ys := zs) intT rfl _ _ rfl rfl (ho.below hb2) rfl ho2.ri (by omega) (by have := hb2.size; omega) ?_; intro A3 c3 w3 us hu ho3 hg3 hat3; clear hat3)
            have hbw3 := OI.belowOwn (below_on hbw2 hb2) (ho.below hb2) hg3 (Nat.le_refl _)
            have HU : Hid (us = bytesBits ((bs.drop 6).take (q + 1))) := by unfold Hid; rw [hu.out, hfb.out, hzs.out, take_snoc' HX.out, bytesBits_snoc]; rfl
            have HUL : Hid (us.length = 8 * (q + 1)) := by unfold Hid; rw [hu.out, List.length_append, HZL.out, HFL.out]; omega
            have hul : us.length ≤ 600 := by have := HUL.out; omega
            clear ho hbw2 hg3 hu hfb hcx
            go_roundw
            case rel => exact ⟨q + 1, A3, c3, us, by omega, by omega, by go_num, rfl, HU, HUL, hul, ho3, hbw3⟩
            case measure => simp [intOf]; omega
          · have hgB : ¬ (fb.length : Int) + 8 ≤ 600 := by have := HFL.out; omega
            have HFB : Hid (fb = bitsAt bs 75) := by unfold Hid bitsAt; rw [hfb.out, List.take_eq_take_iff.2 (show min q (bs.drop 6).length = min 75 (bs.drop 6).length by rw [List.length_drop]; omega)]
            have HBK : Hid (bitOk fb = true) := hid (bitOk_iff.2 ⟨hf6, by rw [hfb.out]; exact bytesBits_bit⟩)
            have HP : Hid (needP 75 bs = if (runA fb ys n).2 = true then some (6 + ((runA fb ys n).1 + 7) / 8) else if fb.length < (runA fb ys n).1 + 8 then some (bs.length + 1) else none) := by
              unfold Hid needP
              rw [← HL.out, ← HFB.out, if_pos HV.out, HYD.out, Int.toNat_natCast]
            have HFBL : Hid (fb.length = 8 * min 75 (bs.length - 6)) := by unfold Hid; rw [HFB.out]; unfold bitsAt; rw [bytesBits_length, List.length_take, List.length_drop]
            have hrF := ho.ri
            have hbw3 := below_on hbw1 hbw2
            clear ho hfb
            go_wp2_with fail
            go_loopw [8, 9] (fun u t wr => ∃ k a : Nat, k ≤ n ∧ a ≤ fb.length ∧ t = .int .i64 k ∧ u = .int .i64 a ∧ Hid (runA fb ys k = (a, true)) ∧ Below wo.heap.size wo wr) (fun _ t _ => n - (intOf t).toNat)
            case atStart => exact ⟨0, 0, by omega, by omega, rfl, rfl, hid rfl, Below.refl _ _⟩
            case round =>
              obtain ⟨k, a, hk, ha, rfl, rfl, hR, hbx⟩ := hrel
              obtain ⟨wp, rfl⟩ : ∃ wo : World, wo = wr := ⟨_, rfl⟩
              have hcy := RI.cellAt (hr.below (below_on hbw3 hbx)) HY.out
              rw [e1] at hcy
              by_cases hlt : k < n
              · have hkN : (k : Int) < (n : Int) := by omega
                go_wp2_with fail
                refine (l12Symbol_any _ _ _ _ _ _ fb ys cs a _ (hrF.below hbx) ((hrL.below hbw2).below hbx) ((hrC.below hbw2).below hbx) HBK.out ha HC8.out H8.out HALL.out).mono ?_
                rintro e w4 ⟨m, hm, rfl, hb4⟩
                have HM : Hid (m = symF fb a ys (codesL ys)) := by unfold Hid; rw [hm.out, HCS.out]
                have hbx4 := below_on hbx hb4
                clear hm hcy
                rcases symF_cases fb a ys (codesL ys) with h1 | ⟨s, hs8, h1⟩
                · obtain rfl : m = -1 := HM.out.trans h1
                  have HR : Hid (runA fb ys n = (a, false)) := hid (runA_stop hR.out h1 hlt)
                  by_cases h8 : fb.length < a + 8
                  · have hg8 : ¬ (a : Int) + 8 ≤ (fb.length : Int) := by omega
                    have hbl : bs.length < 47 := by have h9 := runA_le (bits := fb) HV.out k; rw [hR.out] at h9; have h10 := HFBL.out; simp only at h9; omega
                    have hadd : IntKind.i64.wrap ((bs.length : Int) + 1) = (bs.length : Int) + 1 := IntWalk.i64_in _ (by omega)
                    have HN2 : Hid (needP 75 bs = some (bs.length + 1)) := by unfold Hid; rw [HP.out, HR.out, if_neg (by simp), if_pos h8]
                    clear h1
                    first
                      | (exfalso; omega)
                      | (go_wp2_with fail
                         go_ret
                         exact PNb_ndS HN2.out (by omega) (below_on hbw3 hbx4))
                  · have hg8 : (a : Int) + 8 ≤ (fb.length : Int) := by omega
                    have HN2 : Hid (needP 75 bs = none) := by unfold Hid; rw [HP.out, HR.out, if_neg (by simp), if_neg h8]
                    clear h1
                    go_wp2_with fail
                    go_ret
                    exact PNb_ndN HN2.out (below_on hbw3 hbx4)
                · obtain rfl : m = (s : Int) := HM.out.trans h1
                  have HR := hid (runA_step hR.out h1)
                  have hin := (symF_len h1).2
                  obtain ⟨l, hl⟩ : ∃ l, l = len8 ys s := ⟨_, rfl⟩
                  rw [← hl] at HR hin
                  obtain ⟨adl, z, rfl, HZL, hcz⟩ := ((hrL.below hbw2).below hbx4).get (k := s) (by omega)
                  obtain rfl : z = (l : Int) := by
                    have := len8_at HZL.out (HALL.out z (List.mem_of_getElem? HZL.out)).1
                    omega
                  have h0s : (0 : Int) ≤ (s : Int) := by omega
                  have h1s : (s : Int) < (ys.length : Int) := by omega
                  have hs0 : ¬ (s : Int) < 0 := by omega
                  clear h1 hl
                  go_wp2_with fail
                  go_roundw
                  case rel => exact ⟨k + 1, a + l, by omega, by omega, by go_num, by go_num, HR, hbx4⟩
                  case measure => simp [intOf]; omega
              · have hkN : ¬ (k : Int) < (n : Int) := by omega
                have HN2 : Hid (needP 75 bs = some (6 + (a + 7) / 8)) := by unfold Hid; rw [HP.out, show n = k by omega, hR.out, if_pos rfl]
                go_wp2_with fail
                go_ret
                exact PNb_ndS HN2.out (by omega) (below_on hbw3 hbx)
        · have hgA : ¬ 6 + (q : Int) < (bs.length : Int) := by omega
          have HFB : Hid (fb = bitsAt bs 75) := by unfold Hid bitsAt; rw [hfb.out, List.take_eq_take_iff.2 (show min q (bs.drop 6).length = min 75 (bs.drop 6).length by rw [List.length_drop]; omega)]
          have HBK : Hid (bitOk fb = true) := hid (bitOk_iff.2 ⟨hf6, by rw [hfb.out]; exact bytesBits_bit⟩)
          have HP : Hid (needP 75 bs = if (runA fb ys n).2 = true then some (6 + ((runA fb ys n).1 + 7) / 8) else if fb.length < (runA fb ys n).1 + 8 then some (bs.length + 1) else none) := by
            unfold Hid needP
            rw [← HL.out, ← HFB.out, if_pos HV.out, HYD.out, Int.toNat_natCast]
          have HFBL : Hid (fb.length = 8 * min 75 (bs.length - 6)) := by unfold Hid; rw [HFB.out]; unfold bitsAt; rw [bytesBits_length, List.length_take, List.length_drop]
          have hrF := ho.ri
          have hbw3 := below_on hbw1 hbw2
          clear ho hfb
          go_wp2_with fail
          go_loopw [8, 9] (fun u t wr => ∃ k a : Nat, k ≤ n ∧ a ≤ fb.length ∧ t = .int .i64 k ∧ u = .int .i64 a ∧ Hid (runA fb ys k = (a, true)) ∧ Below wo.heap.size wo wr) (fun _ t _ => n - (intOf t).toNat)
          case atStart => exact ⟨0, 0, by omega, by omega, rfl, rfl, hid rfl, Below.refl _ _⟩
          case round =>
            obtain ⟨k, a, hk, ha, rfl, rfl, hR, hbx⟩ := hrel
            obtain ⟨wp, rfl⟩ : ∃ wo : World, wo = wr := ⟨_, rfl⟩
            have hcy := RI.cellAt (hr.below (below_on hbw3 hbx)) HY.out
            rw [e1] at hcy
            by_cases hlt : k < n
            · have hkN : (k : Int) < (n : Int) := by omega
              go_wp2_with fail
              refine (l12Symbol_any _ _ _ _ _ _ fb ys cs a _ (hrF.below hbx) ((hrL.below hbw2).below hbx) ((hrC.below hbw2).below hbx) HBK.out ha HC8.out H8.out HALL.out).mono ?_
              rintro e w4 ⟨m, hm, rfl, hb4⟩
              have HM : Hid (m = symF fb a ys (codesL ys)) := by unfold Hid; rw [hm.out, HCS.out]
              have hbx4 := below_on hbx hb4
              clear hm hcy
              rcases symF_cases fb a ys (codesL ys) with h1 | ⟨s, hs8, h1⟩
              · obtain rfl : m = -1 := HM.out.trans h1
                have HR : Hid (runA fb ys n = (a, false)) := hid (runA_stop hR.out h1 hlt)
                by_cases h8 : fb.length < a + 8
                · have hg8 : ¬ (a : Int) + 8 ≤ (fb.length : Int) := by omega
                  have hbl : bs.length < 47 := by have h9 := runA_le (bits := fb) HV.out k; rw [hR.out] at h9; have h10 := HFBL.out; simp only at h9; omega
                  have hadd : IntKind.i64.wrap ((bs.length : Int) + 1) = (bs.length : Int) + 1 := IntWalk.i64_in _ (by omega)
                  have HN2 : Hid (needP 75 bs = some (bs.length + 1)) := by unfold Hid; rw [HP.out, HR.out, if_neg (by simp), if_pos h8]
                  clear h1
                  first
                    | (exfalso; omega)
                    | (go_wp2_with fail
                       go_ret
                       exact PNb_ndS HN2.out (by omega) (below_on hbw3 hbx4))
                · have hg8 : (a : Int) + 8 ≤ (fb.length : Int) := by omega
                  have HN2 : Hid (needP 75 bs = none) := by unfold Hid; rw [HP.out, HR.out, if_neg (by simp), if_neg h8]
                  clear h1
                  go_wp2_with fail
                  go_ret
                  exact PNb_ndN HN2.out (below_on hbw3 hbx4)
              · obtain rfl : m = (s : Int) := HM.out.trans h1
                have HR := hid (runA_step hR.out h1)
                have hin := (symF_len h1).2
                obtain ⟨l, hl⟩ : ∃ l, l = len8 ys s := ⟨_, rfl⟩
                rw [← hl] at HR hin
                obtain ⟨adl, z, rfl, HZL, hcz⟩ := ((hrL.below hbw2).below hbx4).get (k := s) (by omega)
                obtain rfl : z = (l : Int) := by
                  have := len8_at HZL.out (HALL.out z (List.mem_of_getElem? HZL.out)).1
                  omega
                have h0s : (0 : Int) ≤ (s : Int) := by omega
                have h1s : (s : Int) < (ys.length : Int) := by omega
                have hs0 : ¬ (s : Int) < 0 := by omega
                clear h1 hl
                go_wp2_with fail
                go_roundw
                case rel => exact ⟨k + 1, a + l, by omega, by omega, by go_num, by go_num, HR, hbx4⟩
                case measure => simp [intOf]; omega
            · have hkN : ¬ (k : Int) < (n : Int) := by omega
              have HN2 : Hid (needP 75 bs = some (6 + (a + 7) / 8)) := by unfold Hid; rw [HP.out, show n = k by omega, hR.out, if_pos rfl]
              go_wp2_with fail
              go_ret
              exact PNb_ndS HN2.out (by omega) (below_on hbw3 hbx)
end Go.Proofs.Ytamljhjbmeikiaa
/- Contracts: a block's state in the reference. No condition. -/
namespace Go.Proofs.Ytamljhjbmeikiaa
open Go Go.RowKit
def needS (bs : List Int) : Int := if bs.length = 0 then 1 else ndW (needW 75 bs)
theorem PNb_nsN {w w1 : World} {bs : List Int} (h0 : 0 < bs.length) (hf : needW 75 bs = none) (hb : Below w.heap.size w w1) : PNb w (needS bs) (.returned (.int .i64 (-1))) w1 := by
  unfold needS; rw [if_neg (by omega)]; exact PNb_ndN hf hb
theorem PNb_nsS {w w1 : World} {bs : List Int} {n : Nat} {i : Int} (h0 : 0 < bs.length) (hf : needW 75 bs = some n) (hi : i = n) (hb : Below w.heap.size w w1) : PNb w (needS bs) (.returned (.int .i64 i)) w1 := by
  unfold needS; rw [if_neg (by omega)]; exact PNb_ndS hf hi hb
set_option maxHeartbeats 2000000 in
theorem l21Need_any (A : Option Addr) (c : Nat) (bs : List Int) (w : World) (hr : RI w A c bs) (hok : byOk bs = true) : Calls Try.prog 48 #[.slice A bs.length c] w (PNb w (needS bs)) := by
  by_cases h0 : bs.length = 0
  · have HF : Hid (needS bs = 1) := by unfold Hid needS; rw [if_pos h0]
    have hq : ((bs.length : Int) == 0) = true := by simp [h0]
    clear h0
    go_enter Try.func48, Try.ntmps48
    go_wp2_with fail
    go_ret
    exact ⟨1, hid HF.out.symm, rfl, Below.refl _ _⟩
  have hq0 : ((bs.length : Int) == 0) = false := by rw [beq_eq_false_iff_ne]; omega
  obtain ⟨ad, x, rfl, HX, hcx⟩ := hr.get (k := 0) (by omega)
  rw [add0] at hcx
  have hx := getD_hid HX.out
  obtain ⟨hx0, _⟩ := byOk_at hok HX.out
  have hl0 : (0 : Int) < (bs.length : Int) := by omega
  have H0 : 0 < bs.length := by omega
  by_cases h3 : 3 < x
  · have HF : Hid (needW 75 bs = none) := by unfold Hid needW; rw [if_neg h0, if_pos (by rw [hx]; exact h3)]
    have hg : x > 3 := h3
    clear h0 hx
    go_enter Try.func48, Try.ntmps48
    go_wp2_with fail
    go_ret
    exact PNb_nsN H0 HF.out (Below.refl _ _)
  have hg3 : ¬ x > 3 := h3
  by_cases h1 : bs.length < 2
  · have HF : Hid (needW 75 bs = some 2) := by unfold Hid needW; rw [if_neg h0, if_neg (by rw [hx]; exact h3), if_pos h1]
    have hq1 : ((bs.length : Int) == 1) = true := by rw [beq_iff_eq]; omega
    clear h0 hx
    go_enter Try.func48, Try.ntmps48
    go_wp2_with fail
    go_ret
    exact PNb_nsS H0 HF.out rfl (Below.refl _ _)
  have hq1 : ((bs.length : Int) == 1) = false := by rw [beq_eq_false_iff_ne]; omega
  have hl1 : (1 : Int) < (bs.length : Int) := by omega
  obtain ⟨ad', y, he, HY, hcy⟩ := hr.get (k := 1) (by omega)
  obtain rfl := Option.some.inj he
  clear he
  obtain ⟨hy0, hy1⟩ := byOk_at hok HY.out
  obtain ⟨n, rfl⟩ := Int.eq_ofNat_of_zero_le hy0
  have hy := getD_hid HY.out
  have e1 : ad.add 1 = ⟨ad.block, ad.off + 1, none⟩ := by simp [Addr.add]
  rw [e1] at hcy
  have HN : Hid (needW 75 bs = if 40 < (n : Int) ∨ (x = 2 ∧ (n : Int) = 0) then none else if x = 1 then some (2 + 2 * n) else if x = 2 then if bs.length < 6 then some 6 else needP 75 bs else some (2 + n)) := by
    unfold Hid needW
    rw [if_neg h0, hx, if_neg h3, if_neg h1, hy, Int.toNat_natCast]
  have HOK := hid hok
  have HYD := hid hy
  have hn : n ≤ 255 := by omega
  clear hy hx hok h0 hy0 hy1
  by_cases h40 : 40 < n
  · have HF : Hid (needW 75 bs = none) := by unfold Hid; rw [HN.out, if_pos (.inl (by omega))]
    have hg40 : (n : Int) > 40 := by omega
    go_enter Try.func48, Try.ntmps48
    go_wp2_with fail
    go_ret
    exact PNb_nsN H0 HF.out (Below.refl _ _)
  have hg40 : ¬ (n : Int) > 40 := by omega
  by_cases k1 : x = 1
  · subst k1
    have HF : Hid (needW 75 bs = some (2 + 2 * n)) := by unfold Hid; rw [HN.out, if_neg (by omega), if_pos rfl]
    go_enter Try.func48, Try.ntmps48
    go_wp2_with fail
    go_ret
    exact PNb_nsS H0 HF.out (by omega) (Below.refl _ _)
  by_cases k2 : x = 2
  · subst k2
    by_cases hz : n = 0 ∨ bs.length < 6
    · have HF : Hid (needW 75 bs = if n = 0 then none else some 6) := by
        unfold Hid
        rw [HN.out]
        by_cases hn0 : n = 0
        · rw [if_pos (.inr ⟨rfl, by omega⟩), if_pos hn0]
        · rw [if_neg (by omega), if_neg (by decide), if_pos rfl, if_pos (by omega), if_neg hn0]
      have HZ := hid hz
      clear hz
      go_enter Try.func48, Try.ntmps48
      go_wp2_with fail
      refine (l21NeedPrefix_few _ _ n _ _ hr (by omega) HYD.out HZ.out _ HF.out).mono ?_
      rintro _ w1 ⟨m, hm, rfl, hb1⟩
      go_wp2_with fail
      go_ret
      exact ⟨m, by unfold Hid needS; rw [if_neg (by omega)]; exact hm.out, rfl, hb1⟩
    · have HF : Hid (needW 75 bs = needP 75 bs) := by unfold Hid; rw [HN.out, if_neg (by omega), if_neg (by decide), if_pos rfl, if_neg (by omega)]
      have hn1 : 0 < n := by omega
      have h6 : 6 ≤ bs.length := by omega
      clear hz
      go_enter Try.func48, Try.ntmps48
      go_wp2_with fail
      refine (l21NeedPrefix_any _ _ n _ _ hr HOK.out h6 HYD.out hn1 (by omega)).mono ?_
      rintro _ w1 ⟨m, hm, rfl, hb1⟩
      go_wp2_with fail
      go_ret
      exact ⟨m, by unfold Hid needS; rw [if_neg (by omega), HF.out]; exact hm.out, rfl, hb1⟩
  have HF : Hid (needW 75 bs = some (2 + n)) := by unfold Hid; rw [HN.out, if_neg (by omega), if_neg k1, if_neg k2]
  have kq1 : (x == 1) = false := by rw [beq_eq_false_iff_ne]; exact k1
  have kq2 : (x == 2) = false := by rw [beq_eq_false_iff_ne]; exact k2
  clear k1 k2
  go_enter Try.func48, Try.ntmps48
  go_wp2_with fail
  go_ret
  exact PNb_nsS H0 HF.out (by omega) (Below.refl _ _)
theorem stF_need {bs : List Int} (hok : byOk bs = true) : stF bs = if needS bs < 0 then 2 else if (bs.length : Int) < needS bs then 0 else if (opF bs).isSome = true then 1 else 2 := by
  unfold stF needS
  rw [if_pos hok, ← needW_same]
  by_cases h0 : bs.length = 0
  · have : needW 75 bs = some 2 := by unfold needW; rw [if_pos h0]
    rw [this, if_pos h0]
    simp only
    rw [if_pos (by omega), if_neg (by decide), if_pos (by omega)]
  · rw [if_neg h0]
    cases needW 75 bs with
    | none => rfl
    | some n =>
      have e : ndW (some n) = (n : Int) := rfl
      generalize ndW (some n) = z at e ⊢
      subst e
      show (if bs.length < n then (0 : Int) else if (opF bs).isSome = true then 1 else 2) = _
      rw [if_neg (show ¬ (n : Int) < 0 by omega)]
      by_cases h : bs.length < n
      · rw [if_pos h, if_pos (show (bs.length : Int) < (n : Int) by omega)]
      · rw [if_neg h, if_neg (show ¬ (bs.length : Int) < (n : Int) by omega)]
set_option maxHeartbeats 1000000 in
theorem sBlockState_any (A : Option Addr) (c : Nat) (bs : List Int) (w : World) (hr : RI w A c bs) : Calls Try.prog 17 #[.slice A bs.length c] w (PNb w (stF bs)) := by
  go_enter Try.func17, Try.ntmps17
  go_wp2_with fail
  refine (l1Bytes_any _ _ _ _ hr).mono ?_
  rintro e w' ⟨b, hb, rfl, rfl⟩
  by_cases hok : byOk bs = true
  rotate_left
  · obtain rfl : b = false := hb.out.trans (by simpa using hok)
    have HF : Hid (stF bs = 2) := by unfold Hid stF; rw [if_neg hok]
    clear hok
    go_wp2_with fail
    go_ret
    exact ⟨2, hid HF.out.symm, rfl, Below.refl _ _⟩
  obtain rfl : b = true := hb.out.trans hok
  have HOK := hid hok
  have HS := hid (stF_need hok)
  clear hok hb
  go_wp2_with fail
  refine (l21Need_any _ _ _ _ hr HOK.out).mono ?_
  rintro _ w1 ⟨m, hm, rfl, hb1⟩
  by_cases hm0 : m < 0
  · have HF : Hid (stF bs = 2) := by unfold Hid; rw [HS.out, ← hm.out, if_pos hm0]
    go_wp2_with fail
    go_ret
    exact ⟨2, hid HF.out.symm, rfl, hb1⟩
  by_cases hlt : (bs.length : Int) < m
  · have hg : m > (bs.length : Int) := hlt
    have HF : Hid (stF bs = 0) := by unfold Hid; rw [HS.out, ← hm.out, if_neg hm0, if_pos hlt]
    go_wp2_with fail
    go_ret
    exact ⟨0, hid HF.out.symm, rfl, hb1⟩
  have hg : ¬ m > (bs.length : Int) := hlt
  have HF : Hid (stF bs = if (opF bs).isSome = true then 1 else 2) := by unfold Hid; rw [HS.out, ← hm.out, if_neg hm0, if_neg hlt]
  clear hlt
  go_wp2_with fail
  refine (sBlockOpen_any _ _ _ _ (hr.below hb1)).mono ?_
  rintro _ w2 ⟨A2, c2, ys, k, b, _, _, hb, _, rfl, hb2⟩
  cases b with
  | false =>
    have HF2 : Hid (stF bs = 2) := by
      unfold Hid; rw [HF.out]
      cases ho : opF bs with
      | none => rfl
      | some r => have := hb.out; rw [ho] at this; cases this
    go_wp2_with fail
    go_ret
    exact ⟨2, hid HF2.out.symm, rfl, below_on hb1 hb2⟩
  | true =>
    have HF2 : Hid (stF bs = 1) := by
      unfold Hid; rw [HF.out]
      cases ho : opF bs with
      | none => have := hb.out; rw [ho] at this; cases this
      | some r => rfl
    go_wp2_with fail
    go_ret
    exact ⟨1, hid HF2.out.symm, rfl, below_on hb1 hb2⟩
end Go.Proofs.Ytamljhjbmeikiaa
