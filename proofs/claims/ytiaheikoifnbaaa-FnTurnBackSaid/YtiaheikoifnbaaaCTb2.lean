/- Contracts: the program turns lists back. No condition. -/
import Derived.Test.YtiaheikoifnbaaaCTb
namespace Go.Proofs.Ytiaheikoifnbaaa
open Go Go.RowKit

def stK (L : List Int) (k : Nat) : List Int := (List.range 8).map fun s => ((begs L s + (grp L k s).length : Nat) : Int)
def toK (L : List Int) (k : Nat) : List Int := ((List.range k).map fun i => ((lfN L i : Nat) : Int)) ++ List.replicate (L.length - k) 0
def bk (X : List Int) (j : Nat) : List Int := List.replicate j 0 ++ X.drop j
theorem begs_succ (L : List Int) (s : Nat) : begs L (s + 1) = begs L s + (grp L L.length s).length := by
  unfold begs; rw [List.range_succ, List.flatMap_append, List.length_append]; simp
theorem begs_sum (L : List Int) : ∀ s, s ≤ 8 → ((countsL L).take s).sum = ((begs L s : Nat) : Int)
  | 0, _ => by simp [begs]
  | s + 1, h => by
    have h1 := sum_snoc (cs := countsL L) (countsK_at (L := L) (k := L.length) (s := s) (by omega))
    rw [h1, begs_sum L s (by omega), begs_succ]; simp
theorem stK_zero (L : List Int) : startsL (countsL L) = stK L 0 := by
  unfold startsL stK
  rw [show (countsL L).length = 8 from countsK_length _ _]
  refine List.map_congr_left fun s hs => ?_
  have := List.mem_range.1 hs
  rw [begs_sum L s (by omega)]; simp [grp]
theorem stK_at {L : List Int} {k s : Nat} (h : s < 8) : (stK L k)[s]? = some ((begs L s + (grp L k s).length : Nat) : Int) := by simp [stK, h]
theorem stK_snoc {L : List Int} {k s : Nat} (h : L[k]? = some (s : Int)) (hs : s < 8) : (stK L k).set s (((begs L s + (grp L k s).length : Nat) : Int) + 1) = stK L (k + 1) := by
  refine tab_set hs ?_ fun t ht => ?_
  · rw [grp_succ h, if_pos rfl]; simp; omega
  · rw [grp_succ h, if_neg (by omega)]
theorem stK_length (L : List Int) (k : Nat) : (stK L k).length = 8 := by simp [stK]
theorem lfN_is {L : List Int} {k s : Nat} (h : L[k]? = some (s : Int)) : lfN L k = begs L s + (grp L k s).length := by
  unfold lfN; rw [List.getD_eq_getElem?_getD, h]; rfl
theorem toK_length {L : List Int} {k : Nat} (h : k ≤ L.length) : (toK L k).length = L.length := by simp [toK]; omega
theorem toK_snoc {L : List Int} {k : Nat} (h : k < L.length) : (toK L k).set k ((lfN L k : Nat) : Int) = toK L (k + 1) := by
  unfold toK
  rw [List.set_append_right _ _ (by simp), List.range_succ, List.map_append, List.append_assoc]
  simp only [List.length_map, List.length_range, Nat.sub_self]
  rw [show L.length - k = (L.length - (k + 1)) + 1 by omega, List.replicate_succ]
  simp
theorem toK_at {L : List Int} {i : Nat} (h : i < L.length) : (toK L L.length)[i]? = some ((lfN L i : Nat) : Int) := by simp [toK, h]
theorem bk_length {X : List Int} {j : Nat} (h : j ≤ X.length) : (bk X j).length = X.length := by simp [bk]; omega
theorem bk_set {X : List Int} {j : Nat} {x : Int} (h : X[j]? = some x) : (bk X (j + 1)).set j x = bk X j := by
  obtain ⟨hlt, he⟩ := List.getElem?_eq_some_iff.1 h
  unfold bk
  rw [List.set_append_left _ _ (by simp), List.drop_eq_getElem_cons hlt, he, List.replicate_succ', List.set_append_right _ _ (by simp)]
  simp
theorem bk_zero (X : List Int) : bk X 0 = X := by simp [bk]
theorem bk_all (X : List Int) : bk X X.length = List.replicate X.length 0 := by simp [bk]
theorem outI_length (L : List Int) (a : Nat) : (outI L a).length = L.length := by simp [outI]
theorem outI_at {L : List Int} {a j : Nat} (hj : j < L.length) {x : Int} (hx : L[rowI L a (L.length - (j + 1))]? = some x) : (outI L a)[j]? = some x := by
  unfold outI
  rw [List.getElem?_map, List.getElem?_range hj, Option.map_some, List.getD_eq_getElem?_getD, show L.length - 1 - j = L.length - (j + 1) by omega, hx]
  rfl
theorem rowI_step (L : List Int) (a : Nat) {j : Nat} (hj : j < L.length) : rowI L a (L.length - j) = lfN L (rowI L a (L.length - (j + 1))) := by
  rw [show L.length - j = (L.length - (j + 1)) + 1 by omega]; rfl
set_option maxRecDepth 100000 in
set_option maxHeartbeats 2000000 in
theorem TurnBack_any (A : Option Addr) (c : Nat) (xs : List Int) (a : Int) (w : World) (hr : RI w A c xs) :
    Calls Try.prog 27 #[.slice A xs.length c, .int .i64 a] w (PLB w (tbI xs a)) := by
  go_enter Try.func27, Try.ntmps27
  go_upto_region 2 with fail
  go_cut [29] from 17 to 97 (fun v wx => v = .bool (!(listOk xs && atOk xs a)) ∧ w = wx)
  case first =>
    go_wp2_with fail
    refine (ListValid_any _ _ _ _ hr).mono ?_
    rintro _ w' ⟨b, hb, rfl, rfl⟩
    cases b
    · go_wp2_with fail
      go_meet
      exact ⟨by rw [← hb.out]; rfl, rfl⟩
    have hn := (listOk_iff.1 hb.out.symm).1
    by_cases h0 : xs.length = 0
    · obtain rfl := List.eq_nil_of_length_eq_zero h0
      clear h0
      go_wp2_with fail
      refine (within_any _ _ _ _).mono ?_
      rintro _ w' ⟨b, hb2, rfl, rfl⟩
      have HB : Hid (b = atOk [] a) := hid (by rw [hb2.out]; rfl)
      clear hb2
      cases b
      all_goals
        go_wp2_with fail
        go_meet
        exact ⟨by rw [← hb.out, ← HB.out]; rfl, rfl⟩
    · have h1 : (1 : Int) ≤ (xs.length : Int) := by omega
      have h1' : 1 ≤ xs.length := by omega
      clear h0
      go_wp2_with fail
      refine (within_any _ _ _ _).mono ?_
      rintro _ w' ⟨b, hb2, rfl, rfl⟩
      have HB : Hid (b = atOk xs a) := hid (by rw [hb2.out]; unfold atOk; congr 1; omega)
      clear hb2
      cases b
      all_goals
        go_wp2_with fail
        go_meet
        exact ⟨by rw [← hb.out, ← HB.out]; rfl, rfl⟩
  case rest =>
    obtain ⟨rfl, rfl⟩ := hcut
    cases hb : (listOk xs && atOk xs a)
    · go_wp2_with fail
      go_ret2
      exact PLB_none (tb_bad hb) (Below.refl _ _)
    obtain ⟨hL, ha⟩ := Bool.and_eq_true_iff.1 hb
    have HL := hid hL
    have HA := hid ha
    have hn := (listOk_iff.1 hL).1
    obtain ⟨N, rfl, hN⟩ := atOk_nat ha
    have HN := hid hN
    clear hb hL ha hN
    go_wp2_with fail
    refine (countsOf_any _ _ _ _ hr (allSym_of HL.out) (by omega)).mono ?_
    rintro _ w1 ⟨A1, c1, cs, hcs, ho1, rfl, hb1⟩
    have hbd : ∀ x ∈ cs, 0 ≤ x ∧ x ≤ 1000000 := by
      rw [hcs.out]
      intro x hx
      obtain ⟨s, _, rfl⟩ := List.mem_map.1 hx
      have := grp_le xs xs.length s
      omega
    have hc8 : cs.length ≤ 8 := by rw [hcs.out]; exact Nat.le_of_eq (countsK_length _ _)
    go_wp2_with fail
    refine (startsOf_any _ _ _ _ ho1.ri hbd (by omega)).mono ?_
    rintro _ w2 ⟨A2, c2, ss, hss, ho2, rfl, hb2⟩
    rw [hcs.out, stK_zero] at hss
    have hbw2 := below_on hb1 hb2
    have hs12 := hb1.size
    have hs2 := hb2.size
    have e8 : ss.length = 8 := by rw [hss.out, stK_length]
    have hA2 : ∀ b, blk A2 = some b → b < w2.heap.size := fun b hb => (OI.lt ho2 hb).2
    have ho2' := ho2.mono (base' := w.heap.size) (by omega)
    obtain ⟨ad2, y2, rfl, _, hcc⟩ := ho2.ri.get (k := 0) (by omega)
    clear hcc hbd hc8 hcs ho1 ho2
    go_upto_region 6 with (refine wpl_make intT rfl _ _ rfl xs.length rfl rfl rfl rfl (by omega) w2.heap.size (Nat.le_refl _) ?_; intro A3 w3 zs hz hz1 hz2 ho3 hg3 hb3)
    have e9 : zs.length = xs.length := by omega
    rw [e9]
    clear e8
    have ho23 := OI.grown ho2' hg3 (fun _ _ h => by cases h)
    have hb23 : Below w2.heap.size w2 w3 := (Below.refl _ _).grown hg3 (Nat.le_refl _) (by simp)
    have hbw3 := below_on hbw2 hb23
    go_wp2_with fail
    go_loopw [38] (fun i wr => ∃ (k : Nat) (ss ts : List Int), k ≤ xs.length ∧ i = .int .i64 k ∧ Hid (ss = stK xs k) ∧ Hid (ts = toK xs k) ∧ OI wr w.heap.size (some ad2) c2 ss ∧ OI wr w2.heap.size A3 xs.length ts ∧ Below w.heap.size w wr) (fun i _ => xs.length - (intOf i).toNat)
    case atStart => exact ⟨0, ss, zs, by omega, rfl, hss, hid (by rw [hz.out]; simp [toK]), ho23, ho3, hbw3⟩
    case round =>
      clear hss ho23 ho3 hbw3 hz hz1 hz2 ho2'
      obtain ⟨k, ss, ts, hk, rfl, hss, hts, hos, hot, hbw⟩ := hrel
      by_cases hlt : k < xs.length
      · obtain ⟨ad, x, rfl, HX, hc⟩ := (hr.below hbw).get hlt
        obtain ⟨hx0, hx1⟩ := listOk_at HL.out HX.out
        obtain ⟨s, rfl⟩ := Int.eq_ofNat_of_zero_le hx0
        have hs8 : s < 8 := by omega
        clear hx0 hx1
        have hqs : ss[s]? = some ((begs xs s + (grp xs k s).length : Nat) : Int) := by rw [hss.out, stK_at hs8]
        have hlf := lfN_lt HL.out hlt
        have hle := lfN_is HX.out
        rw [← hle] at hqs
        have HS : Hid (ss.set s (((lfN xs k : Nat) : Int) + 1) = stK xs (k + 1)) := by unfold Hid; rw [hss.out, hle, stK_snoc HX.out hs8]
        have HT : Hid (ts.set k ((lfN xs k : Nat) : Int) = toK xs (k + 1)) := by unfold Hid; rw [hts.out, toK_snoc hlt]
        have htl : k < ts.length := by rw [hts.out, toK_length (by omega)]; exact hlt
        clear HX hle
        generalize lfN xs k = q at *
        have hcs := hos.ri.cellAt hqs
        obtain ⟨ad3, y3, rfl, _, hc3⟩ := hot.ri.get (k := k) htl
        obtain ⟨hs1, hs2', hs3⟩ := hot.store k (q : Int)
        have hos1 := OI.grown hos hs2' (fun g hg e => by have := hA2 g hg; have := (OI.lt hot e).1; omega)
        have hcs1 := hos1.ri.cellAt hqs
        obtain ⟨ht1, ht2, ht3⟩ := hos1.store s ((q : Int) + 1)
        have hot1 := OI.grown hs1 ht2 (fun g hg e => by have := hA2 g e; have := (OI.lt hot hg).1; omega)
        have hbw1 := OI.belowOwn hbw hot hs2' (by omega)
        have hbw2' := OI.belowOwn hbw1 hos1 ht2 (Nat.le_refl _)
        go_wp2_with fail
        go_roundw
        case rel => exact ⟨k + 1, _, _, by omega, by go_num, HS, HT, ht1, hot1, hbw2'⟩
        case measure => simp [intOf]; omega
      · have e : k = xs.length := by omega
        have HK := hid e
        clear e
        have htl : ts.length = xs.length := by rw [hts.out, toK_length hk]
        go_upto_region 13 with (refine wpl_make intT rfl _ _ rfl xs.length rfl rfl rfl rfl (by omega) wr.heap.size (Nat.le_refl _) ?_; intro A5 w5 us hu hu1 hu2 ho5 hg5 hb5)
        have e10 : us.length = xs.length := by omega
        rw [e10]
        have hot5 := OI.grown hot hg5 (fun _ _ h => by cases h)
        have hb55 : Below wr.heap.size wr w5 := (Below.refl _ _).grown hg5 (Nat.le_refl _) (by simp)
        have hbw5 := below_on hbw hb55
        have hA3 : ∀ b, blk A3 = some b → b < wr.heap.size := fun b hb => (OI.lt hot hb).2
        have hwr := hbw.size
        obtain ⟨w4, rfl⟩ : ∃ w4 : World, w4 = wr := ⟨_, rfl⟩
        clear hos hot
        go_wp2_with fail
        go_loopw [12, 13] (fun t row wi => ∃ (j : Nat) (os : List Int), j ≤ xs.length ∧ t = .int .i64 ((j : Int) - 1) ∧ row = .int .i64 ((rowI xs N (xs.length - j) : Nat) : Int) ∧ Hid (os = bk (outI xs N) j) ∧ OI wi w4.heap.size A5 xs.length os ∧ OI wi w2.heap.size A3 xs.length ts ∧ Below w.heap.size w wi) (fun t _ _ => ((intOf t) + 1).toNat)
        case atStart => exact ⟨xs.length, us, by omega, rfl, by simp [rowI], hid (by rw [hu.out]; have := bk_all (outI xs N); rw [outI_length] at this; exact this.symm), ho5, hot5, hbw5⟩
        case round =>
          clear hbw hbw5 hot5 ho5 hu hu1 hu2
          obtain ⟨j, os, hj, rfl, rfl, hos, hoo, hot, hbw⟩ := hrel
          cases j with
          | succ j =>
            have hNl := HN.out (by omega)
            have hrl := rowI_lt HL.out hNl (xs.length - (j + 1))
            obtain ⟨ad, x, rfl, HX, hc⟩ := (hr.below hbw).get hrl
            have HO := hid (outI_at (a := N) (j := j) (by omega) HX.out)
            have HB := hid (bk_set HO.out)
            have HR := hid (rowI_step xs N (j := j) (by omega))
            have hol : os.length = xs.length := by rw [hos.out, bk_length (by rw [outI_length]; omega), outI_length]
            have htq : ts[rowI xs N (xs.length - (j + 1))]? = some ((lfN xs (rowI xs N (xs.length - (j + 1))) : Nat) : Int) := by rw [hts.out, HK.out, toK_at hrl]
            rw [← HR.out] at htq
            clear HX
            obtain ⟨ad5, y5, rfl, _, hc5⟩ := hoo.ri.get (k := j) (by omega)
            obtain ⟨ad3, y3, rfl, _, hc33⟩ := hot.ri.get (k := 0) (by omega)
            clear hc33
            obtain ⟨hs1, hs2', hs3⟩ := hoo.store j x
            have hot1 := OI.grown hot hs2' (fun g hg e => by have := hA3 g hg; have := (OI.lt hoo e).1; omega)
            have hct := hot1.ri.cellAt htq
            have hbw1 := OI.belowOwn hbw hoo hs2' (by omega)
            generalize hR1 : rowI xs N (xs.length - (j + 1)) = R1 at *
            generalize hR2 : rowI xs N (xs.length - j) = R2 at *
            have HR2 := hid hR2
            clear hR1 hR2
            rw [show (((j + 1 : Nat) : Int) - 1) = (j : Int) by omega]
            go_wp2_with fail
            go_roundw
            case rel => exact ⟨j, _, by omega, by go_num, by rw [HR2.out], hid (by rw [hos.out, HB.out]), hs1, hot1, hbw1⟩
            case measure => simp [intOf]
          | zero =>
            have HO : Hid (os = outI xs N) := by unfold Hid; rw [hos.out, bk_zero]
            have HOK : Hid (listOk os = true) := by unfold Hid; rw [HO.out]; exact outI_ok HL.out HN.out
            have hol : os.length = xs.length := by rw [HO.out, outI_length]
            have hcall := TurnOf_any A5 xs.length os wr hoo.ri
            rw [hol] at hcall
            have e0 : (((0 : Nat) : Int) - 1) = -1 := by omega
            rw [e0]
            clear e0
            go_wp2_with fail
            refine hcall.mono ?_
            rintro _ w6 ⟨A6, c6, vs, at6, ok6, hvs, hat, hok, hov, rfl, hb6⟩
            rw [turn_there HOK.out] at hvs hat hok
            obtain rfl : ok6 = true := hok.out
            have hoo6 := hoo.below hb6
            have hbw6 := below_on hbw hb6
            have hr6 := hr.below hbw6
            by_cases hat6 : at6 = (N : Int)
            · subst hat6
              go_wp2_with fail
              refine (alike_any _ _ _ _ _ _ _ hov.ri hr6).mono ?_
              rintro _ w7 ⟨q, hq, rfl, hb7⟩
              have hbw7 := below_on hbw6 hb7
              cases q
              · have hne : turnOf (outI xs N) ≠ (xs, (N : Int), true) := fun h => by
                  rw [← HO.out, turn_there HOK.out, ← hvs.out] at h
                  injection h with h1 h2
                  have := hq.out
                  rw [decide_eq_true h1] at this
                  cases this
                have HNE := hid hne
                clear hne
                go_wp2_with fail
                go_ret2
                exact PLB_none (tbI_no HNE.out) hbw7
              · have hyes : tbI xs (N : Int) = some os := tb_yes HL.out HA.out (by
                  rw [turn_there HOK.out, ← hvs.out, ← hat.out, of_decide_eq_true hq.out.symm])
                have HY := hid hyes
                clear hyes
                have hfin := PLB_some HY.out ((hoo6.below hb7).mono (base' := w.heap.size) (by omega)) hbw7
                rw [hol] at hfin
                have HFIN := hid hfin
                clear hfin
                go_wp2_with fail
                go_ret2
                exact HFIN.out
            · have hq6 : (at6 != (N : Int)) = true := by simp [hat6]
              have hne : turnOf (outI xs N) ≠ (xs, (N : Int), true) := fun h => by
                rw [← HO.out, turn_there HOK.out] at h
                injection h with h1 h2
                injection h2 with h2 _
                exact hat6 (hat.out.trans h2)
              have HNE := hid hne
              clear hne hat6
              go_wp2_with fail
              go_ret2
              exact PLB_none (tbI_no HNE.out) hbw6
end Go.Proofs.Ytiaheikoifnbaaa
