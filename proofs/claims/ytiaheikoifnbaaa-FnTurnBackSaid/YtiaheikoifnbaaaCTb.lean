/- Contracts: lists are turned back. No condition. -/
import Derived.Test.YtiaheikoifnbaaaCSm
import Derived.Test.YtiaheikoifnbaaaCRt4
import Derived.Deep.CutRange
namespace Go.Proofs.Ytiaheikoifnbaaa
open Go Go.RowKit

theorem nints_snoc (ps : List Nat) (i : Nat) : nints (ps ++ [i]) = nints ps ++ [(i : Int)] := by simp [nints]
theorem grp_cnt_le (L : List Int) (i s : Nat) : (grp L i s).length ≤ i := grp_le L i s
theorem nextP_len (L : List Int) : ∀ s i, i ≤ L.length → (nextP L s i).length ≤ (s + 1) * L.length
  | 0, i, hi => by have := grp_le L i 0; simp [nextP]; omega
  | s + 1, i, hi => by
    have h1 := nextP_len L s L.length (Nat.le_refl _)
    have h2 := grp_le L i (s + 1)
    rw [nextP_next] at h1
    have h3 : nextP L (s + 1) 0 = (List.range (s + 1)).flatMap fun t => grp L L.length t := by simp [nextP, grp]
    unfold nextP
    rw [List.length_append, ← h3, Nat.add_mul]
    omega
theorem l16Next_any (A : Option Addr) (c : Nat) (xs : List Int) (w : World) (hr : RI w A c xs) (hn : xs.length ≤ 1000000) :
    Calls Try.prog 41 #[.slice A xs.length c] w (PL w (nints (nextL xs))) := by
  go_enter Try.func41, Try.ntmps41
  go_wp2_with fail
  go_loopw [3, 4] (fun v i wr => ∃ (s : Nat) (A' : Option Addr) (c' : Nat) (ys : List Int), s ≤ 8 ∧ i = .int .i64 s ∧ v = .slice A' ys.length c' ∧ Hid (ys = nints (nextP xs s 0)) ∧ OI wr w.heap.size A' c' ys ∧ Below w.heap.size w wr) (fun _ i _ => 8 - (intOf i).toNat)
  case atStart => exact ⟨0, _, _, [], by omega, rfl, rfl, hid rfl, OI.empty w w.heap.size (Nat.le_refl _), below_new _ _⟩
  case round =>
    obtain ⟨s, A', c', ys, hs, rfl, rfl, hys, ho, hbw⟩ := hrel
    obtain ⟨wo, rfl⟩ : ∃ wo : World, wo = wr := ⟨_, rfl⟩
    by_cases hlt : s < 8
    · have hlt' : (s : Int) < 8 := by omega
      go_wp2_with fail
      go_loopw [3, 5] (fun v i wr => ∃ (k : Nat) (A' : Option Addr) (c' : Nat) (ys : List Int), k ≤ xs.length ∧ i = .int .i64 k ∧ v = .slice A' ys.length c' ∧ Hid (ys = nints (nextP xs s k)) ∧ OI wr w.heap.size A' c' ys ∧ Below w.heap.size w wr) (fun _ i _ => xs.length - (intOf i).toNat)
      case atStart => exact ⟨0, _, _, ys, by omega, rfl, rfl, hys, ho, hbw⟩
      case round =>
        clear hys ho hbw
        obtain ⟨k, A', c', ys, hk, rfl, rfl, hys, ho, hbw⟩ := hrel
        by_cases hlk : k < xs.length
        · obtain ⟨ad, x, rfl, HX, hc⟩ := (hr.below hbw).get hlk
          have hly : ys.length ≤ 9000000 := by
            rw [hys.out, nints_length]
            have := nextP_len xs s k hk
            have h2 : (s + 1) * xs.length ≤ 9 * 1000000 := Nat.mul_le_mul (by omega) hn
            omega
          have hwz := hbw.size
          by_cases hxs : x = (s : Int)
          · subst hxs
            have HN := hid (nextP_yes HX.out rfl)
            clear HX
            go_wp2_with (at_builtin; refine wpl_app (ys := [(k : Int)]) intT rfl _ _ rfl rfl (ho.alloc _) rfl (RI.one wr (k : Int)) (by simp; omega) (by simp; omega) ?_; intro A3 c3 w3 zs hzs ho3 hg3 hat3)
            go_roundw
            case rel => exact ⟨k + 1, A3, c3, zs, by omega, by go_num, rfl, hid (by rw [hzs.out, hys.out, HN.out, nints_snoc]), ho3, OI.belowOwn (below_on hbw (below_new _ _)) (ho.alloc _) hg3 (Nat.le_refl _)⟩
            case measure => simp [intOf]; omega
          · have HN := hid (nextP_no HX.out hxs)
            have hq : (x == (s : Int)) = false := by simp [hxs]
            clear hxs HX
            go_wp2_with fail
            go_roundw
            case rel => exact ⟨k + 1, A', c', ys, by omega, by go_num, rfl, hid (by rw [hys.out, HN.out]), ho, hbw⟩
            case measure => simp [intOf]; omega
        · have e : k = xs.length := by omega
          have HK := hid e
          clear e
          go_wp2_with fail
          go_roundw
          case rel => exact ⟨s + 1, A', c', ys, by omega, by go_num, rfl, hid (by rw [hys.out, HK.out, nextP_next]), ho, hbw⟩
          case measure => simp [intOf]; omega
    · go_wp2_with fail
      go_ret
      have e : s = 8 := by omega
      subst e
      exact ⟨_, _, ys, hid (by rw [hys.out, nextP_end]), ho, rfl, hbw⟩

theorem outS_at {L : List Int} {a k : Nat} (hk : k < L.length) {x : Int} (hx : L[rowS L a (k + 1)]? = some x) : (outS L a).take (k + 1) = (outS L a).take k ++ [x] := by
  refine take_snoc' ?_
  unfold outS
  rw [List.getElem?_map, List.getElem?_range hk, Option.map_some, List.getD_eq_getElem?_getD, hx]
  rfl
theorem rowS_step {L : List Int} (h : listOk L = true) {a k : Nat} (ha : a < L.length) : (nints (nextL L))[rowS L a k]? = some ((rowS L a (k + 1) : Nat) : Int) := by
  have hr := rowS_lt h ha k
  rw [nints, List.getElem?_map, rowS]
  simp [nextL_length h, hr]
theorem atOk_nat {L : List Int} {a : Int} (h : atOk L a = true) : ∃ N : Nat, a = (N : Int) ∧ (0 < L.length → N < L.length) := by
  unfold atOk at h
  rw [inB_true] at h
  exact ⟨a.toNat, by omega, fun _ => by omega⟩
theorem outS_ok {L : List Int} (h : listOk L = true) {a : Nat} (ha : 0 < L.length → a < L.length) : listOk (outS L a) = true :=
  outOk_of h fun k hk => rowS_lt h (ha (by omega)) (k + 1)
theorem outI_ok {L : List Int} (h : listOk L = true) {a : Nat} (ha : 0 < L.length → a < L.length) : listOk (outI L a) = true :=
  outOk_of h fun k hk => rowI_lt h (ha (by omega)) (L.length - 1 - k)
theorem tb_bad {L : List Int} {a : Int} (h : (listOk L && atOk L a) = false) : tbI L a = none := by
  unfold tbI
  rw [if_neg]
  rintro ⟨h1, h2, _⟩
  rw [h1, h2] at h
  cases h
theorem tb_yes {L l : List Int} {N : Nat} (h1 : listOk L = true) (h2 : atOk L (N : Int) = true) (h3 : turnOf l = (L, (N : Int), true)) : tbI L (N : Int) = some l := by
  have e := backI_of h3
  unfold tbI
  rw [e, if_pos ⟨h1, h2, h3⟩]
theorem tbS_no {L : List Int} {N : Nat} (h : turnOf (outS L N) ≠ (L, (N : Int), true)) : tbI L (N : Int) = none := by
  rw [← tb_same]
  unfold tbS
  rw [Int.toNat_natCast, if_neg fun q => h q.2.2]
theorem tbI_no {L : List Int} {N : Nat} (h : turnOf (outI L N) ≠ (L, (N : Int), true)) : tbI L (N : Int) = none := by
  unfold tbI
  rw [Int.toNat_natCast, if_neg fun q => h q.2.2]
set_option maxHeartbeats 1000000 in
theorem sTurnBack_any (A : Option Addr) (c : Nat) (xs : List Int) (a : Int) (w : World) (hr : RI w A c xs) :
    Calls Try.prog 28 #[.slice A xs.length c, .int .i64 a] w (PLB w (tbI xs a)) := by
  have hr0 := hr.alloc (.cells #[] 3)
  have hoe := OI.empty w w.heap.size (Nat.le_refl _)
  go_enter Try.func28, Try.ntmps28
  go_upto_region 2 with fail
  go_cut [25] from 13 to 63 (fun v wx => v = .bool (!(listOk xs && atOk xs a)) ∧ w.alloc (.cells #[] 3) = wx)
  case first =>
    go_wp2_with fail
    refine (sListValid_any _ _ _ _ hr0).mono ?_
    rintro _ w' ⟨b, hb, rfl, rfl⟩
    cases b
    · go_wp2_with fail
      go_meet
      exact ⟨by rw [← hb.out]; rfl, rfl⟩
    have hn := (listOk_iff.1 hb.out.symm).1
    by_cases h0 : xs.length = 0
    · obtain rfl := List.eq_nil_of_length_eq_zero h0
      clear h0
      go_wp2_with fail
      refine (l6In_any _ _ _ _).mono ?_
      rintro _ w' ⟨b, hb2, rfl, rfl⟩
      have HB : Hid (b = atOk [] a) := hid (by rw [hb2.out]; rfl)
      clear hb2
      cases b
      all_goals
        go_wp2_with fail
        go_meet
        exact ⟨by rw [← hb.out, ← HB.out]; rfl, rfl⟩
    · have h1 : (1 : Int) ≤ (xs.length : Int) := by omega
      have h1' : 1 ≤ xs.length := by omega
      clear h0
      go_wp2_with fail
      refine (l6In_any _ _ _ _).mono ?_
      rintro _ w' ⟨b, hb2, rfl, rfl⟩
      have HB : Hid (b = atOk xs a) := hid (by rw [hb2.out]; unfold atOk; congr 1; omega)
      clear hb2
      cases b
      all_goals
        go_wp2_with fail
        go_meet
        exact ⟨by rw [← hb.out, ← HB.out]; rfl, rfl⟩
  case rest =>
    obtain ⟨rfl, rfl⟩ := hcut
    cases hb : (listOk xs && atOk xs a)
    · go_wp2_with fail
      go_ret2
      exact PLB_none (tb_bad hb) (Below.refl _ _)
    obtain ⟨hL, ha⟩ := Bool.and_eq_true_iff.1 hb
    have HL := hid hL
    have HA := hid ha
    have hn := (listOk_iff.1 hL).1
    obtain ⟨N, rfl, hN⟩ := atOk_nat ha
    have HN := hid hN
    clear hb hL ha hN
    go_wp2_with fail
    refine (l16Next_any _ _ _ _ hr0 (by omega)).mono ?_
    rintro _ w1 ⟨A1, c1, ns, hns, ho1, rfl, hb1⟩
    have hnl : ns.length ≤ xs.length ∧ xs.length ≤ ns.length := by rw [hns.out, nints_length, nextL_length HL.out]; omega
    obtain ⟨hnl1, hnl2⟩ := hnl
    have hoe1 := hoe.below hb1
    have hbw1 := below_on (below_new w _) hb1
    simp at ho1
    have hs1 := hb1.size
    simp at hs1
    clear hr0 hoe
    go_wp2_with fail
    go_loopw [6, 8, 9] (fun v row i wr => ∃ (k : Nat) (A' : Option Addr) (c' : Nat) (ys : List Int), k ≤ xs.length ∧ i = .int .i64 k ∧ v = .slice A' ys.length c' ∧ row = .int .i64 ((rowS xs N k : Nat) : Int) ∧ Hid (ys = (outS xs N).take k) ∧ ys.length ≤ k ∧ OI wr w.heap.size A' c' ys ∧ OI wr w.heap.size A1 c1 ns ∧ (∀ b, blk A' = some b → blk A1 ≠ some b) ∧ Below w.heap.size w wr) (fun _ _ i _ => xs.length - (intOf i).toNat)
    case atStart => exact ⟨0, _, _, [], by omega, rfl, rfl, rfl, hid rfl, by simp, hoe1, ho1.mono (by omega), fun b hb hb' => by have := (OI.lt ho1 hb').1; simp [blk] at hb; omega, hbw1⟩
    case round =>
      obtain ⟨k, A', c', ys, hk, rfl, rfl, rfl, hys, hl1, ho, hoo, hdis, hbw⟩ := hrel
      by_cases hlt : k < xs.length
      · have hNl := HN.out (by omega)
        have hr1 := rowS_lt HL.out hNl k
        have hr2 := rowS_lt HL.out hNl (k + 1)
        obtain ⟨ad, y, rfl, HY, hc⟩ := hoo.ri.get (k := rowS xs N k) (by omega)
        obtain rfl : ((rowS xs N (k + 1) : Nat) : Int) = y := Option.some.inj ((rowS_step HL.out hNl).symm.trans (hns.out ▸ HY.out))
        obtain ⟨ad2, x, rfl, HX, hcx⟩ := (hr.below hbw).get hr2
        have HT := hid (outS_at hlt HX.out)
        clear HX HY
        generalize hR2 : rowS xs N (k + 1) = R2 at *
        have HR2 := hid hR2
        clear hR2
        generalize rowS xs N k = R1 at *
        have hwz := hbw.size
        go_wp2_with (at_builtin; refine wpl_app (ys := [x]) intT rfl _ _ rfl rfl (ho.alloc _) rfl (RI.one wr x) (by simp; omega) (by simp; omega) ?_; intro A3 c3 w3 zs hzs ho3 hg3 hat3; have hoo3 := OI.grown (hoo.alloc (.cells #[.int .i64 x] 3)) hg3 (fun g hg' e' => hdis g e' hg'))
        go_roundw
        case rel => exact ⟨k + 1, A3, c3, zs, by omega, by go_num, rfl, by rw [HR2.out], hid (by rw [hzs.out, hys.out, HT.out]), by rw [hzs.out]; simp; omega, ho3, hoo3, fun b hb hb' => by have := (OI.lt hoo hb').2; rcases hat3 with h | h; exact hdis b (h ▸ hb) hb'; rw [h] at hb; simp at hb; omega, OI.belowOwn (below_on hbw (below_new _ _)) (ho.alloc _) hg3 (Nat.le_refl _)⟩
        case measure => simp [intOf]; omega
      · have e : k = xs.length := by omega
        have HK := hid e
        have HO : Hid (ys = outS xs N) := by
          unfold Hid
          rw [hys.out, e, List.take_of_length_le (by simp [outS])]
        have HOK : Hid (listOk ys = true) := by unfold Hid; rw [HO.out]; exact outS_ok HL.out HN.out
        clear e
        go_wp2_with fail
        refine (sTurnOf_any _ _ _ _ ho.ri).mono ?_
        rintro _ w4 ⟨A4, c4, zs, at4, ok4, hzs, hat, hok, hoz, rfl, hb4⟩
        rw [turn_there HOK.out] at hzs hat hok
        have ho4 := ho.below hb4
        have hr4 := hr.below (below_on hbw hb4)
        have hbw4 := below_on hbw hb4
        by_cases hat4 : at4 = (N : Int)
        · subst hat4
          go_wp2_with fail
          refine (l2Same_any _ _ _ _ _ _ _ hoz.ri hr4).mono ?_
          rintro _ w5 ⟨q, hq, rfl, hb5⟩
          have hbw5 := below_on hbw4 hb5
          cases q
          · have hne : turnOf (outS xs N) ≠ (xs, (N : Int), true) := fun h => by
              rw [← HO.out, turn_there HOK.out, ← hzs.out] at h
              injection h with h1 h2
              have := hq.out
              rw [decide_eq_true h1] at this
              cases this
            go_wp2_with fail
            go_ret2
            exact PLB_none (tbS_no hne) hbw5
          · have hyes : tbI xs (N : Int) = some ys := tb_yes HL.out HA.out (by
              rw [turn_there HOK.out, ← hzs.out, ← hat.out, of_decide_eq_true hq.out.symm])
            go_wp2_with fail
            go_ret2
            exact PLB_some hyes (ho4.below hb5) hbw5
        · have hq4 : (at4 != (N : Int)) = true := by simp [hat4]
          have hne : turnOf (outS xs N) ≠ (xs, (N : Int), true) := fun h => by
            rw [← HO.out, turn_there HOK.out] at h
            injection h with h1 h2
            injection h2 with h2 _
            exact hat4 (hat.out.trans h2)
          have HNE := hid hne
          clear hne hat4
          go_wp2_with fail
          go_ret2
          exact PLB_none (tbS_no HNE.out) hbw4
end Go.Proofs.Ytiaheikoifnbaaa
