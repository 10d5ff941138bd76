/- Joined texts: contracts and plain facts that the laws share. No condition. -/
import Derived.Test.YtamljhjbmeikiaaGreatGMa
import Derived.Test.YtamljhjbmeikiaaGreatGCj
/- Lists are drawn. No condition. -/
namespace Go.Proofs.YtamljhjbmeikiaaGreat
open Go Go.RowKit

/-- What a list is drawn as. -/
def PDL (w : World) (g n q0 : Nat) (e : Ending) (w' : World) : Prop :=
  ∃ A c ys q, e = .returned (.slice A ys.length c) ∧ OI w' w.heap.size A c ys ∧ ys.length ≤ n ∧ q ≤ q0 ∧ DS w w' g q
set_option maxRecDepth 100000 in
set_option maxHeartbeats 4000000 in
theorem l91List_any (g p : Nat) (w : World) (hR : Rd w g p) (hp : p ≤ 900000) :
    Calls Tryz.prog 45 #[.pointer (some ⟨g, 0, none⟩)] w (PDL w g 1000 (p + 400)) := by
  have hlt := hR.lt
  have D0 := (DS.refl hR).new (.cells #[] 3)
  have ho0 := OI.empty w w.heap.size (Nat.le_refl _)
  go_enter Tryz.func45, Tryz.ntmps45
  go_wp2_with fail
  refine (pick_ds D0 _ (by omega) (by omega) (by omega)).mono ?_
  rintro e w1 ⟨m1, hm10, hm11, rfl, D1, hg1⟩
  have ho1 := OI.past ho0 hg1 hlt
  go_wp2_with fail
  refine (pick_ds D1 _ (by omega) (by omega) (by omega)).mono ?_
  rintro e w2 ⟨m2, hm20, hm21, rfl, D2, hg2⟩
  have ho2 := OI.past ho1 hg2 hlt
  clear D0 D1 ho0 ho1 hg1 hg2 hR
  go_upto_if 16 with fail
  go_cut [4] from 11 to 102 (fun v wx => ∃ n : Int, v = .int .i64 n ∧ 0 ≤ n ∧ n ≤ 40 ∧ w2 = wx)
  case first =>
    by_cases hm : m2 = 0
    · subst hm
      go_wp2_with fail
      go_meet
      exact ⟨40, rfl, by omega, by omega, rfl⟩
    · have hq : (m2 == 0) = false := by simp [hm]
      clear hm
      go_wp2_with fail
      go_meet
      exact ⟨m1, rfl, by omega, by omega, rfl⟩
  case rest =>
    obtain ⟨n, rfl, hn0, hn1, rfl⟩ := hcut
    go_wp2_with fail
    refine (pick_ds D2 _ (by omega) (by omega) (by omega)).mono ?_
    rintro e w3 ⟨m3, hm30, hm31, rfl, D3, hg3⟩
    have ho3 := OI.past ho2 hg3 hlt
    clear D2 ho2 hg3
    obtain ⟨kd, hkd⟩ : ∃ kd, kd = 1 + m3 := ⟨_, rfl⟩
    have hkd0 : 1 ≤ kd := by omega
    have hkd1 : kd ≤ 8 := by omega
    go_upto_region 6 with fail
    rw [← hkd]
    clear hkd hm30 hm31
    go_wp2_with fail
    go_loopw [3, 6] (fun v i wr => ∃ (k : Nat) (A : Option Addr) (c : Nat) (ys : List Int) (q : Nat), (k : Int) ≤ n ∧ i = .int .i64 k ∧ v = .slice A ys.length c ∧ ys.length ≤ 9 * k ∧ OI wr w.heap.size A c ys ∧ q ≤ p + 4 + 4 * k ∧ DS w wr g q) (fun _ i _ => 40 - (intOf i).toNat)
    case atStart => exact ⟨0, _, _, [], _, by omega, rfl, rfl, by simp, ho3, by omega, D3⟩
    case round =>
      obtain ⟨k, A, c, ys, q, hk, rfl, rfl, hl, ho, hq, D⟩ := hrel
      obtain ⟨wo, rfl⟩ : ∃ wo : World, wo = wr := ⟨_, rfl⟩
      by_cases hlt2 : (k : Int) < n
      · go_wp2_with fail
        refine (pick_ds D _ (by omega) (by omega) (by omega)).mono ?_
        rintro e w4 ⟨m, hm0, hm1, rfl, D4, hg4⟩
        have ho4 := OI.past ho hg4 hlt
        by_cases hm : m = 0
        · subst hm
          go_wp2_with fail
          refine (pick_ds D4 _ (by omega) (by omega) (by omega)).mono ?_
          rintro e w5 ⟨a5, ha50, ha51, rfl, D5, hg5⟩
          have ho5 := OI.past ho4 hg5 hlt
          obtain ⟨K, hK⟩ : ∃ K : Nat, (K : Int) = 1 + a5 := ⟨(1 + a5).toNat, by omega⟩
          go_upto_region 13 with fail
          rw [← hK]
          have hK6 : K ≤ 6 := by omega
          clear hK ha50 ha51
          go_wp2_with fail
          refine (pick_ds D5 _ (by omega) (by omega) (by omega)).mono ?_
          rintro e w6 ⟨s6, hs60, hs61, rfl, D6, hg6⟩
          have ho6 := OI.past ho5 hg6 hlt
          clear D D4 D5 ho ho4 ho5 hg4 hg5 hg6
          go_wp2_with fail
          go_loopw [3, 9] (fun v j wi => ∃ (J : Nat) (A2 : Option Addr) (c2 : Nat) (zs : List Int), J ≤ K ∧ j = .int .i64 J ∧ v = .slice A2 zs.length c2 ∧ zs.length ≤ ys.length + J ∧ OI wi w.heap.size A2 c2 zs ∧ DS w wi g (q + 1 + 1 + 1)) (fun _ j _ => K - (intOf j).toNat)
          case atStart => exact ⟨0, _, _, ys, by omega, rfl, rfl, by omega, ho6, D6⟩
          case round =>
            obtain ⟨J, A2, c2, zs, hJ, rfl, rfl, hlz, hoz, Dz⟩ := hrel
            by_cases hJK : J < K
            · have hwz := Dz.gb.size
              go_wp2_with (at_builtin; refine wpl_app (ys := [s6]) intT rfl _ _ rfl rfl (hoz.alloc _) rfl (RI.one wr s6) (by simp; omega) (by simp; omega) ?_; intro A3 c3 w7 us hu ho7 hg7 hat7)
              have D7 := (Dz.new _).own (hoz.alloc _) hg7 hlt (Nat.le_refl _)
              have hlu : us.length ≤ zs.length + 1 := by rw [hu.out]; simp
              go_roundw
              case rel => exact ⟨J + 1, A3, c3, us, by omega, by go_num, rfl, by omega, ho7, D7⟩
              case measure => simp [intOf]; omega
            · go_wp2_with fail
              go_roundw
              case rel => exact ⟨k + 1, A2, c2, zs, _, by omega, by go_num, rfl, by omega, hoz, by omega, Dz⟩
              case measure => simp [intOf]; omega
        have q0 : (m == 0) = false := by simp [hm]
        clear hm
        by_cases hm : m = 1
        · subst hm
          by_cases h1 : (1 : Int) < (ys.length : Int)
          · go_wp2_with fail
            refine (pick_ds D4 _ (by omega) (by omega) (by omega)).mono ?_
            rintro e w5 ⟨a5, ha50, ha51, rfl, D5, hg5⟩
            have ho5 := OI.past ho4 hg5 hlt
            obtain ⟨K, rfl⟩ := Int.eq_ofNat_of_zero_le ha50
            have hK : K + 1 < ys.length := by omega
            clear ha50 ha51
            go_wp2_with fail
            refine (pick_ds D5 _ (by omega) (by omega) (by omega)).mono ?_
            rintro e w6 ⟨a6, ha60, ha61, rfl, D6, hg6⟩
            have ho6 := OI.past ho5 hg6 hlt
            clear D D4 D5 ho ho4 ho5 hg4 hg5 hg6
            have hw6 := D6.gb.size
            obtain ⟨M, rfl⟩ := Int.eq_ofNat_of_zero_le ha60
            clear ha60
            by_cases hmin : (ys.length : Int) < (K : Int) + 2 + (M : Int)
            · go_wp2_with (first | (refine wpl_cutI intT rfl _ _ _ rfl rfl ho6.ri K (ys.length) ⟨_, _, rfl, rfl⟩ ⟨_, _, rfl, rfl⟩ (by omega) (by omega) ?_; intro A3 c3 zs hz hr3 hb3 hlz1 hlz2) | (at_builtin; refine wpl_app (ys := zs) intT rfl _ _ rfl rfl ho6 rfl hr3 (by omega) (by omega) ?_; intro A4 c4 w7 us hu ho7 hg7 hat7))
              have D7 := D6.own ho6 hg7 hlt (Nat.le_refl _)
              have hlu : us.length ≤ ys.length + zs.length := by rw [hu.out]; simp
              go_roundw
              case rel => exact ⟨k + 1, A4, c4, us, _, by omega, by go_num, rfl, by omega, ho7, by omega, D7⟩
              case measure => simp [intOf]; omega
            · have hmin' : (K : Int) + 2 + (M : Int) ≤ (ys.length : Int) := by omega
              clear hmin
              go_wp2_with (first | (refine wpl_cutI intT rfl _ _ _ rfl rfl ho6.ri K (K + 2 + M) ⟨_, _, rfl, rfl⟩ ⟨_, _, rfl, by simp⟩ (by omega) (by omega) ?_; intro A3 c3 zs hz hr3 hb3 hlz1 hlz2) | (at_builtin; refine wpl_app (ys := zs) intT rfl _ _ rfl rfl ho6 rfl hr3 (by omega) (by omega) ?_; intro A4 c4 w7 us hu ho7 hg7 hat7))
              have D7 := D6.own ho6 hg7 hlt (Nat.le_refl _)
              have hlu : us.length ≤ ys.length + zs.length := by rw [hu.out]; simp
              go_roundw
              case rel => exact ⟨k + 1, A4, c4, us, _, by omega, by go_num, rfl, by omega, ho7, by omega, D7⟩
              case measure => simp [intOf]; omega
          · have h2 : (ys.length : Int) ≤ 1 := by omega
            clear h1
            go_wp2_with fail
            go_roundw
            case rel => exact ⟨k + 1, A, c, ys, _, by omega, by go_num, rfl, by omega, ho4, by omega, D4⟩
            case measure => simp [intOf]; omega
        have q1 : (m == 1) = false := by simp [hm]
        clear hm
        go_wp2_with fail
        refine (pick_ds D4 _ (by omega) (by omega) (by omega)).mono ?_
        rintro e w5 ⟨s5, hs50, hs51, rfl, D5, hg5⟩
        have ho5 := OI.past ho4 hg5 hlt
        have hw5 := D5.gb.size
        go_wp2_with (at_builtin; refine wpl_app (ys := [s5]) intT rfl _ _ rfl rfl (ho5.alloc _) rfl (RI.one w5 s5) (by simp; omega) (by simp; omega) ?_; intro A3 c3 w7 us hu ho7 hg7 hat7)
        have D7 := (D5.new _).own (ho5.alloc _) hg7 hlt (Nat.le_refl _)
        have hlu : us.length ≤ ys.length + 1 := by rw [hu.out]; simp
        go_roundw
        case rel => exact ⟨k + 1, A3, c3, us, _, by omega, by go_num, rfl, by omega, ho7, by omega, D7⟩
        case measure => simp [intOf]; omega
      · by_cases h40 : (40 : Int) < (ys.length : Int)
        · go_wp2_with fail
          refine (pick_ds D _ (by omega) (by omega) (by omega)).mono ?_
          rintro e w8 ⟨m8, hm80, hm81, rfl, D8, hg8⟩
          have ho8 := OI.past ho hg8 hlt
          by_cases hm : 0 < m8
          · go_upto_region 24 with (refine wpl_takeO intT rfl _ _ rfl rfl ho8 40 ⟨_, _, rfl, rfl⟩ (by omega) ?_; intro ts hts ho9 hlt1 hlt9)
            clear ho ho8
            obtain ⟨ys, rfl⟩ : ∃ ys, ys = ts := ⟨_, rfl⟩
            have hoT := ho9
            have DT := D8
            clear ho9 D8
            by_cases h0 : ys.length = 0
            · obtain rfl := List.eq_nil_of_length_eq_zero h0
              clear h0
              go_wp2_with fail
              go_ret
              exact ⟨_, _, [], _, rfl, hoT, by simp, by omega, DT⟩
            have hpos : (0 : Int) < (ys.length : Int) := by omega
            have H0 := hid h0
            clear h0
            go_wp2_with fail
            refine (pick_ds DT _ (by omega) (by omega) (by omega)).mono ?_
            rintro e wa ⟨ma, hma0, hma1, rfl, Da, hga⟩
            have hoa := OI.past hoT hga hlt
            by_cases hm : ma = 0
            · subst hm
              go_wp2_with fail
              refine (pick_ds Da _ (by omega) (by omega) (by omega)).mono ?_
              rintro e wb ⟨mb, hmb0, hmb1, rfl, Db, hgb⟩
              have hob := OI.past hoa hgb hlt
              obtain ⟨M, rfl⟩ := Int.eq_ofNat_of_zero_le hmb0
              have hM : M < ys.length := by omega
              go_wp2_with fail
              have hlit := OI.litI wb wb.heap.size [-1, 8] (Nat.le_refl _) (by simp)
              refine (pick_ds (Db.new _) _ (by omega) (by omega) (by omega)).mono ?_
              rintro e wd ⟨md, hmd0, hmd1, rfl, Dd, hgd⟩
              have hld := OI.past hlit hgd Db.rd.lt
              have hod := OI.past (hob.alloc (.cells #[.int .i64 (-1), .int .i64 8] 3)) hgd hlt
              obtain ⟨ad, y, hAd, hy, hcy⟩ := hod.ri.get hM
              subst hAd
              have hfr := (hod.store M 0).2.2
              go_wp2_with (first | (refine wpl_idx (xs := [-1, 8]) intT rfl _ _ rfl rfl rfl hld.ri hmd0 (by simp; omega) ?_; intro q1 v1 hv1 hc1 _))
              have ho5 := hod.store M v1
              have D5 := Dd.own hod ho5.2.1 hlt (Nat.le_refl _)
              go_ret
              exact ⟨some ad, _, ys.set M v1, _, ret_slice List.length_set.symm, ho5.1, by rw [List.length_set]; omega, by omega, D5⟩
            · have hq : (ma == 0) = false := by simp [hm]
              clear hm
              go_wp2_with fail
              go_ret
              exact ⟨_, _, ys, _, rfl, hoa, by omega, by omega, Da⟩
          · have hm' : ¬ (0 : Int) < m8 := hm
            clear hm
            obtain rfl : m8 = 0 := by omega
            clear hm'
            go_upto_region 24 with fail
            have hoT := ho8
            have DT := D8
            clear ho8 D8
            by_cases h0 : ys.length = 0
            · obtain rfl := List.eq_nil_of_length_eq_zero h0
              clear h0
              go_wp2_with fail
              go_ret
              exact ⟨_, _, [], _, rfl, hoT, by simp, by omega, DT⟩
            have hpos : (0 : Int) < (ys.length : Int) := by omega
            have H0 := hid h0
            clear h0
            go_wp2_with fail
            refine (pick_ds DT _ (by omega) (by omega) (by omega)).mono ?_
            rintro e wa ⟨ma, hma0, hma1, rfl, Da, hga⟩
            have hoa := OI.past hoT hga hlt
            by_cases hm : ma = 0
            · subst hm
              go_wp2_with fail
              refine (pick_ds Da _ (by omega) (by omega) (by omega)).mono ?_
              rintro e wb ⟨mb, hmb0, hmb1, rfl, Db, hgb⟩
              have hob := OI.past hoa hgb hlt
              obtain ⟨M, rfl⟩ := Int.eq_ofNat_of_zero_le hmb0
              have hM : M < ys.length := by omega
              go_wp2_with fail
              have hlit := OI.litI wb wb.heap.size [-1, 8] (Nat.le_refl _) (by simp)
              refine (pick_ds (Db.new _) _ (by omega) (by omega) (by omega)).mono ?_
              rintro e wd ⟨md, hmd0, hmd1, rfl, Dd, hgd⟩
              have hld := OI.past hlit hgd Db.rd.lt
              have hod := OI.past (hob.alloc (.cells #[.int .i64 (-1), .int .i64 8] 3)) hgd hlt
              obtain ⟨ad, y, hAd, hy, hcy⟩ := hod.ri.get hM
              subst hAd
              have hfr := (hod.store M 0).2.2
              go_wp2_with (first | (refine wpl_idx (xs := [-1, 8]) intT rfl _ _ rfl rfl rfl hld.ri hmd0 (by simp; omega) ?_; intro q1 v1 hv1 hc1 _))
              have ho5 := hod.store M v1
              have D5 := Dd.own hod ho5.2.1 hlt (Nat.le_refl _)
              go_ret
              exact ⟨some ad, _, ys.set M v1, _, ret_slice List.length_set.symm, ho5.1, by rw [List.length_set]; omega, by omega, D5⟩
            · have hq : (ma == 0) = false := by simp [hm]
              clear hm
              go_wp2_with fail
              go_ret
              exact ⟨_, _, ys, _, rfl, hoa, by omega, by omega, Da⟩
        · have h41 : (ys.length : Int) ≤ 40 := by omega
          clear h40
          go_upto_region 24 with fail
          have hoT := ho
          have DT := D
          clear ho D
          by_cases h0 : ys.length = 0
          · obtain rfl := List.eq_nil_of_length_eq_zero h0
            clear h0
            go_wp2_with fail
            go_ret
            exact ⟨_, _, [], _, rfl, hoT, by simp, by omega, DT⟩
          have hpos : (0 : Int) < (ys.length : Int) := by omega
          have H0 := hid h0
          clear h0
          go_wp2_with fail
          refine (pick_ds DT _ (by omega) (by omega) (by omega)).mono ?_
          rintro e wa ⟨ma, hma0, hma1, rfl, Da, hga⟩
          have hoa := OI.past hoT hga hlt
          by_cases hm : ma = 0
          · subst hm
            go_wp2_with fail
            refine (pick_ds Da _ (by omega) (by omega) (by omega)).mono ?_
            rintro e wb ⟨mb, hmb0, hmb1, rfl, Db, hgb⟩
            have hob := OI.past hoa hgb hlt
            obtain ⟨M, rfl⟩ := Int.eq_ofNat_of_zero_le hmb0
            have hM : M < ys.length := by omega
            go_wp2_with fail
            have hlit := OI.litI wb wb.heap.size [-1, 8] (Nat.le_refl _) (by simp)
            refine (pick_ds (Db.new _) _ (by omega) (by omega) (by omega)).mono ?_
            rintro e wd ⟨md, hmd0, hmd1, rfl, Dd, hgd⟩
            have hld := OI.past hlit hgd Db.rd.lt
            have hod := OI.past (hob.alloc (.cells #[.int .i64 (-1), .int .i64 8] 3)) hgd hlt
            obtain ⟨ad, y, hAd, hy, hcy⟩ := hod.ri.get hM
            subst hAd
            have hfr := (hod.store M 0).2.2
            go_wp2_with (first | (refine wpl_idx (xs := [-1, 8]) intT rfl _ _ rfl rfl rfl hld.ri hmd0 (by simp; omega) ?_; intro q1 v1 hv1 hc1 _))
            have ho5 := hod.store M v1
            have D5 := Dd.own hod ho5.2.1 hlt (Nat.le_refl _)
            go_ret
            exact ⟨some ad, _, ys.set M v1, _, ret_slice List.length_set.symm, ho5.1, by rw [List.length_set]; omega, by omega, D5⟩
          · have hq : (ma == 0) = false := by simp [hm]
            clear hm
            go_wp2_with fail
            go_ret
            exact ⟨_, _, ys, _, rfl, hoa, by omega, by omega, Da⟩
end Go.Proofs.YtamljhjbmeikiaaGreat
/- Damaged bytes are drawn; what a draw answers. No condition. -/
namespace Go.Proofs.YtamljhjbmeikiaaGreat
open Go Go.RowKit
/-- What a list is drawn as, out of a code; the same with a number. -/
def PDrL (w : World) (n : Nat) (e : Ending) (w' : World) : Prop :=
  ∃ A c ys, e = .returned (.slice A ys.length c) ∧ OI w' w.heap.size A c ys ∧ ys.length ≤ n ∧ Below w.heap.size w w'
def PDrLN (w : World) (n : Nat) (e : Ending) (w' : World) : Prop :=
  ∃ A c ys m, e = .returned (.tuple #[.slice A ys.length c, .int .i64 m]) ∧ OI w' w.heap.size A c ys ∧ ys.length ≤ n ∧ Below w.heap.size w w'
theorem l92Damage_any (g p : Nat) (A : Option Addr) (c : Nat) (xs : List Int) (w : World) (base : Nat) (hR : Rd w g p) (hp : p ≤ 900000) (hr : OI w base A c xs) (hgb : g < base) (hbw : base ≤ w.heap.size) (hn : xs.length ≤ 900000) :
    Calls Tryz.prog 31 #[.pointer (some ⟨g, 0, none⟩), .slice A xs.length c] w fun e w' => ∃ A' c' ys q, e = .returned (.slice A' ys.length c') ∧ OI w' base A' c' ys ∧ ys.length ≤ xs.length + 1 ∧ q ≤ p + 4 ∧ DS w w' g q := by
  have hlt := hR.lt
  by_cases h0 : xs.length = 0
  · obtain rfl := List.eq_nil_of_length_eq_zero h0
    clear h0
    go_enter Tryz.func31, Tryz.ntmps31
    go_wp2_with fail
    go_ret
    exact ⟨_, _, [], p, rfl, hr, by simp, by omega, DS.refl hR⟩
  have hpos : 0 < (xs.length : Int) := by omega
  have hposN : 0 < xs.length := by omega
  have H0 := hid h0
  clear h0
  go_enter Tryz.func31, Tryz.ntmps31
  go_wp2_with fail
  refine (pick_ds (DS.refl hR) _ (by omega) (by omega) (by omega)).mono ?_
  rintro e w1 ⟨k, hk0, hk1, rfl, D1, hg1⟩
  have ho1 := OI.past hr hg1 hgb
  obtain ⟨K, rfl⟩ := Int.eq_ofNat_of_zero_le hk0
  have hK : K < xs.length := by omega
  go_wp2_with fail
  refine (pick_ds D1 _ (by omega) (by omega) (by omega)).mono ?_
  rintro e w2 ⟨m, hm0, hm1, rfl, D2, hg2⟩
  have ho2 := OI.past ho1 hg2 hgb
  have hs2 := D2.rd.lt
  have hw2 := D2.gb.size
  by_cases hm : m = 0
  · subst hm
    go_wp2_with (first | (refine wpl_cutI intT rfl _ _ _ rfl rfl (ho2.ri.alloc _) 0 K rfl ⟨_, _, rfl, rfl⟩ (by omega) (by omega) ?_; intro A3 c3 zs hz hr3 hb3 hlz1 hlz2) | (refine wpl_app (xs := []) intT rfl _ _ rfl rfl (OI.empty w2 w2.heap.size (Nat.le_refl _)) rfl hr3 (by simp; omega) (by simp) ?_; intro A4 c4 w4 us hu ho4 hg4 hat4))
    obtain ⟨hlu, hlu2⟩ : us.length ≤ zs.length ∧ zs.length ≤ us.length := by rw [hu.out]; simp
    have D4 := (D2.new _).own (OI.empty w2 w2.heap.size (Nat.le_refl _)) hg4 hs2 hw2
    go_ret
    exact ⟨_, _, us, _, rfl, ho4.mono (by omega), by omega, by omega, D4⟩
  have q0 : (m == 0) = false := by simp [hm]
  clear hm
  by_cases hm : m = 1
  · subst hm
    go_wp2_with (first | (refine wpl_app (xs := []) intT rfl _ _ rfl rfl (OI.empty w2 w2.heap.size (Nat.le_refl _)) rfl (ho2.ri.alloc _) (by simp; omega) (by simp) ?_; intro A4 c4 w4 us hu ho4 hg4 hat4))
    obtain ⟨hlu, hlu2⟩ : us.length ≤ xs.length ∧ xs.length ≤ us.length := by rw [hu.out]; simp
    have D4 := (D2.new _).own (OI.empty w2 w2.heap.size (Nat.le_refl _)) hg4 hs2 hw2
    have hKu : K < us.length := by omega
    refine (pick_ds D4 _ (by omega) (by omega) (by omega)).mono ?_
    rintro e w5 ⟨m5, hm50, hm51, rfl, D5, hg5⟩
    have ho5 := OI.past ho4 hg5 hs2
    obtain ⟨ad, y, rfl, hy, hcy⟩ := ho5.ri.get hKu
    have hfr := (ho5.store K 0).2.2
    go_wp2_with fail
    have ho6 := ho5.store K (m5 - 1)
    have D6 := D5.own ho5 ho6.2.1 hs2 hw2
    go_ret
    exact ⟨some ad, c4, us.set K (m5 - 1), _, ret_slice List.length_set.symm, ho6.1.mono (by omega), by rw [List.length_set]; omega, by omega, D6⟩
  have q1 : (m == 1) = false := by simp [hm]
  clear hm
  by_cases hm : m = 2
  · subst hm
    go_wp2_with (first | (refine wpl_app (xs := []) intT rfl _ _ rfl rfl (OI.empty w2 w2.heap.size (Nat.le_refl _)) rfl (ho2.ri.alloc _) (by simp; omega) (by simp) ?_; intro A4 c4 w4 us hu ho4 hg4 hat4))
    obtain ⟨hlu, hlu2⟩ : us.length ≤ xs.length ∧ xs.length ≤ us.length := by rw [hu.out]; simp
    have D4 := (D2.new _).own (OI.empty w2 w2.heap.size (Nat.le_refl _)) hg4 hs2 hw2
    have hs4 := D4.gb.size
    refine (pick_ds D4 _ (by omega) (by omega) (by omega)).mono ?_
    rintro e w5 ⟨m5, hm50, hm51, rfl, D5, hg5⟩
    have ho5 := OI.past ho4 hg5 hs2
    have hs5 := hg5.size
    have hs45 := hg4.size
    simp at hs45
    go_wp2_with (at_builtin; refine wpl_app (ys := [m5]) intT rfl _ _ rfl rfl (ho5.alloc _) rfl (RI.one w5 m5) (by simp; omega) (by simp; omega) ?_; intro A6 c6 w6 vs hv ho6 hg6 hat6)
    obtain ⟨hlv, hlv2⟩ : vs.length ≤ us.length + 1 ∧ us.length + 1 ≤ vs.length := by rw [hv.out]; simp
    have D6 := (D5.new _).own (ho5.alloc _) hg6 hs2 hw2
    go_ret
    exact ⟨_, _, vs, _, rfl, ho6.mono (by omega), by omega, by omega, D6⟩
  have q2 : (m == 2) = false := by simp [hm]
  clear hm
  go_wp2_with fail
  go_ret
  exact ⟨_, _, xs, _, rfl, ho2, by omega, by omega, D2⟩
end Go.Proofs.YtamljhjbmeikiaaGreat
/- Lists, ways, blocks and texts are drawn. No condition. -/
namespace Go.Proofs.YtamljhjbmeikiaaGreat
open Go Go.RowKit
theorem asL_getD_len (xs : List Int) (way : Int) : ((asL xs way).getD []).length ≤ 1000 := by
  cases h : asL xs way with
  | none => simp
  | some b => have := asL_len h; simp only [Option.getD_some]; omega
set_option maxRecDepth 100000 in
set_option maxHeartbeats 1000000 in
theorem l92Text_any (g p : Nat) (w : World) (hR : Rd w g p) (hp : p ≤ 800000) :
    Calls Tryz.prog 30 #[.pointer (some ⟨g, 0, none⟩)] w (PDL w g 10000 (p + 4000)) := by
  have hlt := hR.lt
  have D0 := (DS.refl hR).new (.cells #[] 3)
  have ho0 := OI.empty w w.heap.size (Nat.le_refl _)
  go_enter Tryz.func30, Tryz.ntmps30
  go_wp2_with fail
  refine (pick_ds D0 _ (by omega) (by omega) (by omega)).mono ?_
  rintro e w1 ⟨n, hn0, hn1, rfl, D1, hg1⟩
  have ho1 := OI.past ho0 hg1 hlt
  clear D0 ho0 hg1 hR
  go_wp2_with fail
  go_loopw [3, 5] (fun v i wr => ∃ (k : Nat) (A : Option Addr) (c : Nat) (ys : List Int) (q : Nat), (k : Int) ≤ n ∧ i = .int .i64 k ∧ v = .slice A ys.length c ∧ ys.length ≤ 1000 * k ∧ OI wr w.heap.size A c ys ∧ q ≤ p + 1 + 500 * k ∧ DS w wr g q) (fun _ i _ => 40 - (intOf i).toNat)
  case atStart => exact ⟨0, _, _, [], _, by omega, rfl, rfl, by simp, ho1, by omega, D1⟩
  case round =>
    clear D1 ho1
    obtain ⟨k, A, c, ys, q, hk, rfl, rfl, hl, ho, hq, D⟩ := hrel
    obtain ⟨wo, rfl⟩ : ∃ wo : World, wo = wr := ⟨_, rfl⟩
    have hwo := D.gb.size
    by_cases hlt2 : (k : Int) < n
    · go_wp2_with fail
      refine (l91List_any g q _ D.rd (by omega)).mono ?_
      rintro e w4 ⟨A4, c4, zs, q4, rfl, ho4, hl4, hq4, D4⟩
      have ho5 := OI.past ho D4.gb hlt
      have hw4 := D4.gb.size
      go_wp2_with (at_builtin; refine wpl_app (ys := zs) intT rfl _ _ rfl rfl ho5 rfl ho4.ri (by omega) (by omega) ?_; intro A6 c6 w6 us hu ho6 hg6 hat6; clear hat6)
      have D6 := (D.trans D4).own ho5 hg6 hlt (Nat.le_refl _)
      have hlu : us.length ≤ ys.length + zs.length := by rw [hu.out]; simp
      have hq5 : q4 ≤ p + 1 + 500 * (k + 1) := by omega
      go_roundw
      case rel => exact ⟨k + 1, A6, c6, us, q4, by omega, by go_num, rfl, by omega, ho6, hq5, D6⟩
      case measure => simp [intOf]; omega
    · go_wp2_with fail
      refine (pick_ds D _ (by omega) (by omega) (by omega)).mono ?_
      rintro e w4 ⟨m, hm0, hm1, rfl, D4, hg4⟩
      have ho4 := OI.past ho hg4 hlt
      by_cases hm : m = 0
      · subst hm
        go_wp2_with fail
        refine (pick_ds D4 _ (by omega) (by omega) (by omega)).mono ?_
        rintro e w5 ⟨m5, hm50, hm51, rfl, D5, hg5⟩
        obtain ⟨M, hM⟩ : ∃ M : Nat, (M : Int) = 119 + m5 := ⟨(119 + m5).toNat, by omega⟩
        have hM2 : M ≤ 130 := by omega
        have hw5 := D5.gb.size
        go_wp2_with (rw [← hM]; refine wpl_make intT rfl _ _ rfl M rfl rfl (by omega) (by omega) (by omega) w5.heap.size (Nat.le_refl _) ?_; intro A6 w6 zs hz hz1 hz2 ho6 hg6 hb6)
        go_ret
        exact ⟨_, _, zs, _, ret_slice (by omega), ho6.mono hw5, by omega, by omega, D5.below ((Below.refl _ _).grown hg6 (Nat.le_refl _) (by simp))⟩
      · have hq0 : (m == 0) = false := by simp [hm]
        clear hm
        go_wp2_with fail
        go_ret
        exact ⟨_, _, ys, _, rfl, ho4, by omega, by omega, D4⟩
end Go.Proofs.YtamljhjbmeikiaaGreat
/- Frames and texts with a size are drawn. No condition. -/
namespace Go.Proofs.YtamljhjbmeikiaaGreat
open Go Go.RowKit
/-- A list and a number between two others. -/
def PDrLNb (w : World) (n : Nat) (lo hi : Int) (e : Ending) (w' : World) : Prop :=
  ∃ A c ys m, e = .returned (.tuple #[.slice A ys.length c, .int .i64 m]) ∧ OI w' w.heap.size A c ys ∧ ys.length ≤ n ∧ lo ≤ m ∧ m ≤ hi ∧ Below w.heap.size w w'
theorem frameF_len (xs : List Int) (n : Int) : ((frameF xs n).getD []).length ≤ 366 := by
  unfold frameF
  split
  · rename_i h
    have := frameB_len (s := n.toNat) (txOk_iff.1 h.1).1
    simp only [Option.getD_some]
    omega
  · simp
theorem l92Frame_any (g p : Nat) (w : World) (hR : Rd w g p) (hp : p ≤ 700000) :
    Calls Tryz.prog 14 #[.pointer (some ⟨g, 0, none⟩)] w (PDL w g 367 (p + 5000)) := by
  have hlt := hR.lt
  go_enter Tryz.func14, Tryz.ntmps14
  go_wp2_with fail
  refine (l92Text_any g p w hR (by omega)).mono ?_
  rintro e w1 ⟨A, c, ys, q, rfl, ho, hl, hq, D⟩
  go_wp2_with fail
  refine (pick_ds D _ (by omega) (by omega) (by omega)).mono ?_
  rintro e w2 ⟨m, hm0, hm1, rfl, D2, hg2⟩
  have ho2 := OI.past ho hg2 hlt
  have hw2 := D2.gb.size
  go_wp2_with fail
  refine (sFramePack_any _ _ _ _ _ ho2.ri).mono ?_
  rintro e w3 ⟨A3, c3, zs, b, hzs, hb, hoz, rfl, hb3⟩
  have D3 := D2.below hb3
  have hw3 := hb3.size
  have hzl : zs.length ≤ 366 := by rw [hzs.out]; exact frameF_len _ _
  clear hzs hb
  go_wp2_with fail
  refine (l92Damage_any g _ _ _ zs _ w2.heap.size D3.rd (by omega) hoz (by have := D2.rd.lt; omega) hw3 (by omega)).mono ?_
  rintro e w4 ⟨A4, c4, us, q4, rfl, ho4, hl4, hq4, D4⟩
  have hq5 : q4 ≤ p + 5000 := by omega
  go_wp2_with fail
  go_ret
  exact ⟨_, _, us, _, rfl, ho4.mono hw2, by omega, hq5, D3.trans D4⟩
end Go.Proofs.YtamljhjbmeikiaaGreat
