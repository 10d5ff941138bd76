/- Joined texts: contracts and plain facts that the laws share. No condition. -/
import Derived.Test.YtamljhjbmeikiaaGMa
import Derived.Test.YtamljhjbmeikiaaGPa
import Derived.Deep.RegionHeld3
import Derived.Deep.QuietTactic
import Derived.Deep.CutRange
import Derived.StillTailTactics
/- Contracts: bytes, clones, tags, seals. No condition. -/
namespace Go.Proofs.Ytamljhjbmeikiaa
open Go Go.RowKit

theorem bytesOk_any (A : Option Addr) (c : Nat) (xs : List Int) (w : World) (hr : RI w A c xs) : Calls Try.prog 38 #[.slice A xs.length c] w (PB w (byOk xs)) := by
  go_enter Try.func38, Try.ntmps38
  go_wp2_with fail
  refine (every_any _ _ _ _ _ _ hr).mono ?_
  rintro e w' ⟨b, hb1, rfl, rfl⟩
  go_wp2_with fail
  go_ret
  exact ⟨_, hb1, rfl, rfl⟩

theorem cloned_any (A : Option Addr) (c : Nat) (xs : List Int) (w : World) (hr : RI w A c xs) (hn : xs.length ≤ 17592186044416) : Calls Try.prog 42 #[.slice A xs.length c] w (PL w xs) := by
  go_enter Try.func42, Try.ntmps42
  go_wp2_with (at_builtin; refine wpl_app (xs := []) intT rfl _ _ rfl rfl (OI.empty w w.heap.size (Nat.le_refl _)) rfl (hr.alloc _) (by simpa using hn) (by simp) ?_; intro A1 c1 w1 zs hz ho hg hat)
  go_ret
  exact ⟨A1, c1, zs, hz, ho, rfl, below_grown (below_new _ _) (OI.empty w w.heap.size (Nat.le_refl _)) hg (Nat.le_refl _) (by simp)⟩

theorem l1Bytes_any (A : Option Addr) (c : Nat) (xs : List Int) (w : World) (hr : RI w A c xs) : Calls Try.prog 43 #[.slice A xs.length c] w (PB w (byOk xs)) := by
  have hbig := hr.big
  have hcap := hr.cap
  unfold maxLen at hbig
  go_enter Try.func43, Try.ntmps43
  go_wp2_with fail
  go_loop [3] (fun i => ∃ k : Nat, k ≤ xs.length ∧ i = .int .i64 k ∧ Hid ((xs.take k).all (inB 0 255) = true)) (fun i => xs.length - (intOf i).toNat)
  case atStart => exact ⟨0, by omega, rfl, by simp [Hid]⟩
  case round =>
    obtain ⟨k, hk, rfl, hh⟩ := hrel
    by_cases hlt : k < xs.length
    · obtain ⟨ad, x, rfl, HX, hc⟩ := hr.get hlt
      go_wp2_with (go_at_call 78; refine (l6In_any _ _ _ _).mono ?_; rintro e w' ⟨b, hb1, rfl, rfl⟩; cases b)
      · go_ret
        exact ⟨_, hid (all_no HX.out hb1.out.symm).symm, rfl, rfl⟩
      · go_round
        case rel => exact ⟨k + 1, by omega, by go_num, hid (all_snoc HX.out hh.out hb1.out.symm)⟩
        case measure => simp [intOf]; omega
    · go_wp2
      go_ret
      exact ⟨_, hid (all_done (by omega) hh.out).symm, rfl, rfl⟩

theorem tag_any_no1 {A B : Int} {bs : List Int} (h : inB 2 250 A = false) : tagOf A B bs = -1 := by simp [tagOf, tagOk, h]
theorem tag_any_no2 {A B : Int} {bs : List Int} (h : inB 1 250 B = false) : tagOf A B bs = -1 := by simp [tagOf, tagOk, h]
theorem tag_any_no3 {A B : Int} {bs : List Int} (h : byOk bs = false) : tagOf A B bs = -1 := by simp [tagOf, tagOk, h]
theorem tag_any_no4 {A B : Int} {bs : List Int} (h : ¬ bs.length ≤ 400) : tagOf A B bs = -1 := by simp [tagOf, tagOk, h]
end Go.Proofs.Ytamljhjbmeikiaa
/- Contracts: lists that are alike; counts and their sums. No condition. -/
namespace Go.Proofs.Ytamljhjbmeikiaa
open Go Go.RowKit

theorem alike_any (A B : Option Addr) (c d : Nat) (xs ys : List Int) (w : World) (hr : RI w A c xs) (hs : RI w B d ys) :
    Calls Try.prog 41 #[.slice A xs.length c, .slice B ys.length d] w (PBb w (decide (xs = ys))) := by
  have hbig := hr.big
  have hcap := hr.cap
  unfold maxLen at hbig
  by_cases hl : xs.length = ys.length
  · have hne : ((xs.length : Int) != (ys.length : Int)) = false := by simp [hl]
    have HL := hid hl
    clear hl
    go_enter Try.func41, Try.ntmps41
    go_wp2_with fail
    go_loopw [13] (fun i wr => ∃ k : Nat, k ≤ xs.length ∧ i = .int .i64 k ∧ Hid (xs.take k = ys.take k) ∧ Below w.heap.size w wr) (fun i _ => xs.length - (intOf i).toNat)
    case atStart => exact ⟨0, by omega, rfl, hid (by simp), Below.refl _ _⟩
    case round =>
      obtain ⟨k, hk, rfl, hh, hbw⟩ := hrel
      by_cases hlt : k < xs.length
      · obtain ⟨ad, x, rfl, HX, hc⟩ := (hr.below hbw).get hlt
        have hlt2 : k < ys.length := by have := HL.out; omega
        obtain ⟨ad2, y, rfl, HY, hc2⟩ := (hs.below hbw).get hlt2
        go_wp2_with fail
        go_quiet (fail)
        by_cases hxy : x = y
        · have hq : (x != y) = false := by simp [hxy]
          have HXY := hid hxy
          clear hxy
          go_wp2_with fail
          go_roundw
          case rel => exact ⟨k + 1, by omega, by go_num, hid (eq_snoc HX.out HY.out hh.out HXY.out), below_drewN hbw _⟩
          case measure => simp [intOf]; omega
        · have hq : (x != y) = true := by simp [hxy]
          have HXY := hid hxy
          clear hxy
          go_wp2_with fail
          go_ret
          refine ⟨_, ?_, rfl, below_drewN hbw _⟩
          exact hid (decide_eq_false (eq_no HX.out HY.out HXY.out)).symm
      · go_wp2
        go_ret
        refine ⟨_, ?_, rfl, hbw⟩
        have hl := HL.out
        exact hid (decide_eq_true (eq_done (by omega) (by omega) hh.out)).symm
  · have hne : ((xs.length : Int) != (ys.length : Int)) = true := by simp; omega
    have HL := hid hl
    clear hl
    go_enter Try.func41, Try.ntmps41
    go_wp2_with fail
    go_ret
    refine ⟨_, ?_, rfl, Below.refl _ _⟩
    exact hid (by simp; intro h; exact HL.out (by rw [h]))
theorem l2Same_any (A B : Option Addr) (c d : Nat) (xs ys : List Int) (w : World) (hr : RI w A c xs) (hs : RI w B d ys) :
    Calls Try.prog 79 #[.slice A xs.length c, .slice B ys.length d] w (PBb w (decide (xs = ys))) := by
  have hbig := hr.big
  have hcap := hr.cap
  unfold maxLen at hbig
  by_cases hl : xs.length = ys.length
  · have hne : ((xs.length : Int) != (ys.length : Int)) = false := by simp [hl]
    have HL := hid hl
    clear hl
    go_enter Try.func79, Try.ntmps79
    go_wp2_with fail
    go_loopw [5] (fun i wr => ∃ k : Nat, k ≤ xs.length ∧ i = .int .i64 k ∧ Hid (xs.take k = ys.take k) ∧ Below w.heap.size w wr) (fun i _ => xs.length - (intOf i).toNat)
    case atStart => exact ⟨0, by omega, rfl, hid (by simp), Below.refl _ _⟩
    case round =>
      obtain ⟨k, hk, rfl, hh, hbw⟩ := hrel
      by_cases hlt : k < xs.length
      · obtain ⟨ad, x, rfl, HX, hc⟩ := (hr.below hbw).get hlt
        have hlt2 : k < ys.length := by have := HL.out; omega
        obtain ⟨ad2, y, rfl, HY, hc2⟩ := (hs.below hbw).get hlt2
        go_wp2_with fail
        go_quiet (fail)
        by_cases hxy : x = y
        · have hq : (x != y) = false := by simp [hxy]
          have HXY := hid hxy
          clear hxy
          go_wp2_with fail
          go_roundw
          case rel => exact ⟨k + 1, by omega, by go_num, hid (eq_snoc HX.out HY.out hh.out HXY.out), below_drewN hbw _⟩
          case measure => simp [intOf]; omega
        · have hq : (x != y) = true := by simp [hxy]
          have HXY := hid hxy
          clear hxy
          go_wp2_with fail
          go_ret
          refine ⟨_, ?_, rfl, below_drewN hbw _⟩
          exact hid (decide_eq_false (eq_no HX.out HY.out HXY.out)).symm
      · go_wp2
        go_ret
        refine ⟨_, ?_, rfl, hbw⟩
        have hl := HL.out
        exact hid (decide_eq_true (eq_done (by omega) (by omega) hh.out)).symm
  · have hne : ((xs.length : Int) != (ys.length : Int)) = true := by simp; omega
    have HL := hid hl
    clear hl
    go_enter Try.func79, Try.ntmps79
    go_wp2_with fail
    go_ret
    refine ⟨_, ?_, rfl, Below.refl _ _⟩
    exact hid (by simp; intro h; exact HL.out (by rw [h]))
theorem countsOf_any (A : Option Addr) (c : Nat) (xs : List Int) (w : World) (hr : RI w A c xs) (hs : allSym xs) (hn : xs.length ≤ 1000000) :
    Calls Try.prog 74 #[.slice A xs.length c] w (PL w (countsL xs)) := by
  have HS := hid hs
  clear hs
  go_enter Try.func74, Try.ntmps74
  go_wp2_with (refine wpl_make intT rfl _ _ rfl 8 rfl rfl rfl rfl (by omega) w.heap.size (Nat.le_refl _) ?_; intro A1 w1 zs hz hz1 hz2 ho1 hg1 hb1)
  have e8 : zs.length = 8 := by omega
  rw [e8]
  clear e8
  go_loopw [9] (fun i wr => ∃ (k : Nat) (cs : List Int), k ≤ xs.length ∧ i = .int .i64 k ∧ Hid (cs = countsK xs k) ∧ OI wr w.heap.size A1 8 cs ∧ Below w.heap.size w wr) (fun i _ => xs.length - (intOf i).toNat)
  case atStart => exact ⟨0, zs, by omega, rfl, hid (by rw [hz.out, countsK_zero]), ho1, (Below.refl _ _).grown hg1 (Nat.le_refl _) (by simp)⟩
  case round =>
    obtain ⟨k, cs, hk, rfl, hcs, ho, hbw⟩ := hrel
    by_cases hlt : k < xs.length
    · obtain ⟨ad, x, rfl, HX, hc⟩ := (hr.below hbw).get hlt
      obtain ⟨hx0, hx1⟩ := HS.out k x HX.out
      obtain ⟨s, rfl⟩ := Int.eq_ofNat_of_zero_le hx0
      have hs8 : s < 8 := by omega
      clear hx0 hx1
      obtain ⟨ad2, y, rfl, HY, hc2⟩ := ho.ri.get (k := s) (by rw [hcs.out, countsK_length]; exact hs8)
      obtain rfl : ((grp xs k s).length : Int) = y := by have := HY.out; rw [hcs.out, countsK_at hs8] at this; exact Option.some.inj this
      have hle := grp_le xs k s
      have HN := hid (countsK_snoc HX.out hs8)
      clear HX HY
      generalize (grp xs k s).length = q at *
      obtain ⟨hs1, hs2, hs3⟩ := ho.store s ((q : Int) + 1)
      go_wp2_with fail
      go_roundw
      case rel => exact ⟨k + 1, _, by omega, by go_num, hid (by rw [hcs.out, HN.out]), hs1, OI.belowOwn hbw ho hs2 (Nat.le_refl _)⟩
      case measure => simp [intOf]; omega
    · go_wp2_with fail
      go_ret
      have e : k = xs.length := by omega
      subst e
      have hl : cs.length = 8 := by rw [hcs.out, countsK_length]
      exact ⟨_, _, cs, hcs, ho, ret_slice (by omega), hbw⟩
end Go.Proofs.Ytamljhjbmeikiaa
/- Contracts: bits and numbers. No condition. -/
namespace Go.Proofs.Ytamljhjbmeikiaa
open Go Go.RowKit
theorem bitsOk_any (A : Option Addr) (c : Nat) (xs : List Int) (w : World) (hr : RI w A c xs) : Calls Try.prog 94 #[.slice A xs.length c] w (PB w (bitOk xs)) := by
  by_cases h : xs.length ≤ 600
  · go_enter Try.func94, Try.ntmps94
    go_wp2_with fail
    refine (every_any _ _ _ _ _ _ hr).mono ?_
    rintro e w' ⟨b, hb1, rfl, rfl⟩
    go_wp2_with fail
    go_ret
    exact ⟨_, hid (by simp [bitOk, h, hb1.out]), rfl, rfl⟩
  · have h' : 600 < xs.length := by omega
    go_enter Try.func94, Try.ntmps94
    go_wp2_with fail
    go_ret
    exact ⟨_, hid (by simp [bitOk, h]), rfl, rfl⟩
theorem l1Bits_any (A : Option Addr) (c : Nat) (xs : List Int) (w : World) (hr : RI w A c xs) : Calls Try.prog 116 #[.slice A xs.length c] w (PB w (bitOk xs)) := by
  have hbig := hr.big
  have hcap := hr.cap
  unfold maxLen at hbig
  go_enter Try.func116, Try.ntmps116
  go_wp2_with fail
  go_loop [3] (fun i => ∃ k : Nat, k ≤ xs.length ∧ i = .int .i64 k ∧ Hid ((xs.take k).all (inB 0 1) = true)) (fun i => xs.length - (intOf i).toNat)
  case atStart => exact ⟨0, by omega, rfl, by simp [Hid]⟩
  case round =>
    obtain ⟨k, hk, rfl, hh⟩ := hrel
    by_cases hlt : k < xs.length
    · obtain ⟨ad, x, rfl, HX, hc⟩ := hr.get hlt
      go_wp2_with (go_at_call 78; refine (l6In_any _ _ _ _).mono ?_; rintro e w' ⟨b, hb1, rfl, rfl⟩; cases b)
      · go_ret
        exact ⟨_, hid (by simp only [bitOk, all_no HX.out hb1.out.symm, Bool.and_false]), rfl, rfl⟩
      · go_round
        case rel => exact ⟨k + 1, by omega, by go_num, hid (all_snoc HX.out hh.out hb1.out.symm)⟩
        case measure => simp [intOf]; omega
    · by_cases h40 : xs.length ≤ 600
      · go_wp2
        go_ret
        exact ⟨_, hid (by simp only [bitOk, all_done (by omega) hh.out, Bool.and_true]; simp; omega), rfl, rfl⟩
      · have h41 : 600 < xs.length := by omega
        go_wp2
        go_ret
        exact ⟨_, hid (by simp only [bitOk, all_done (by omega) hh.out, Bool.and_true]; simp; omega), rfl, rfl⟩
theorem l1Power_any (n : Nat) (w : World) (hn : n ≤ 16) : Calls Try.prog 120 #[.int .i64 n] w (PN w ((2 : Int) ^ n)) := by
  go_enter Try.func120, Try.ntmps120
  go_wp2_with fail
  go_loop [3, 4] (fun p i => ∃ (k : Nat) (q : Int), k ≤ n ∧ i = .int .i64 k ∧ p = .int .i64 q ∧ Hid (q = (2 : Int) ^ k)) (fun _ i => n - (intOf i).toNat)
  case atStart => exact ⟨0, 1, by omega, rfl, rfl, hid rfl⟩
  case round =>
    obtain ⟨k, q, hk, rfl, rfl, hq⟩ := hrel
    have hb := ipow_bd (w := k) (by omega)
    have hq0 : 0 ≤ q ∧ q ≤ 65536 := by have := hq.out; omega
    obtain ⟨hq1, hq2⟩ := hq0
    clear hb
    by_cases hlt : k < n
    · go_wp2_with fail
      go_round
      case rel => exact ⟨k + 1, 2 * q, by omega, by go_num, rfl, hid (by rw [hq.out, Int.pow_succ]; omega)⟩
      case measure => simp [intOf]; omega
    · have HK : Hid (k = n) := by unfold Hid; omega
      go_wp2_with fail
      go_ret
      exact ⟨q, hid (by rw [hq.out, HK.out]), rfl, rfl⟩
theorem l1Get_any (A : Option Addr) (c : Nat) (xs : List Int) (w : World) (hr : RI w A c xs) (hn : xs.length ≤ 16) (hb : ∀ x ∈ xs, 0 ≤ x ∧ x ≤ 1) : Calls Try.prog 121 #[.slice A xs.length c] w (PN w (numF xs)) := by
  have HB := hid hb
  clear hb
  go_enter Try.func121, Try.ntmps121
  go_wp2_with fail
  go_loop [3, 4] (fun p i => ∃ (k : Nat) (q : Int), k ≤ xs.length ∧ i = .int .i64 k ∧ p = .int .i64 q ∧ Hid (q = numF (xs.take k))) (fun _ i => xs.length - (intOf i).toNat)
  case atStart => exact ⟨0, 0, by omega, rfl, rfl, hid rfl⟩
  case round =>
    obtain ⟨k, q, hk, rfl, rfl, hq⟩ := hrel
    have hq0 : 0 ≤ q ∧ q < 65536 := by
      have h1 := numF_bd (xs.take k) (fun x hx => HB.out x (List.mem_of_mem_take hx))
      rw [← hq.out] at h1
      have h2 : (2 : Int) ^ (xs.take k).length ≤ 65536 := (ipow_bd (by simp; omega)).2
      omega
    obtain ⟨hq1, hq2⟩ := hq0
    by_cases hlt : k < xs.length
    · obtain ⟨ad, x, rfl, HX, hc⟩ := hr.get hlt
      obtain ⟨hx0, hx1⟩ := HB.out x (List.mem_of_getElem? HX.out)
      go_wp2_with fail
      go_round
      case rel => exact ⟨k + 1, 2 * q + x, by omega, by go_num, rfl, hid (by rw [hq.out, take_snoc' HX.out, numF_snoc])⟩
      case measure => simp [intOf]; omega
    · have HK : Hid (xs.take k = xs) := by unfold Hid; exact List.take_of_length_le (by omega)
      go_wp2_with fail
      go_ret
      exact ⟨q, hid (by rw [hq.out, HK.out]), rfl, rfl⟩
theorem l1Put_any (n width : Nat) (w : World) (hn : n ≤ 1000000) (hw : width ≤ 16) : Calls Try.prog 103 #[.int .i64 n, .int .i64 width] w (PL w (bitsF n width)) := by
  go_enter Try.func103, Try.ntmps103
  go_upto_region 2 with (refine wpl_make intT rfl _ _ rfl width rfl rfl (by simp) (by simp) (by omega) w.heap.size (Nat.le_refl _) ?_; intro A1 w1 zs hz hz1 hz2 ho1 hg1 hb1)
  have e1 : zs.length = width := by omega
  rw [e1]
  have hbw1 : Below w.heap.size w w1 := (Below.refl _ _).grown hg1 (Nat.le_refl _) (by simp)
  clear e1 hz1 hz2 hb1 hg1
  go_wp2_with fail
  go_loopw [0, 6] (fun v t wr => ∃ (m j : Nat) (os : List Int), m ≤ n ∧ j ≤ width ∧ v = .int .i64 m ∧ t = .int .i64 ((j : Int) - 1) ∧ (∃ ys, Hid (os = List.replicate j 0 ++ ys ∧ bitsF n width = bitsF m j ++ ys)) ∧ os.length ≤ width ∧ width ≤ os.length ∧ OI wr w.heap.size A1 width os ∧ Below w.heap.size w wr) (fun _ t _ => ((intOf t) + 1).toNat)
  case atStart => exact ⟨n, width, zs, by omega, by omega, rfl, rfl, ⟨[], hid ⟨by rw [hz.out]; simp, by simp⟩⟩, by rw [hz.out]; simp, by rw [hz.out]; simp, ho1, hbw1⟩
  case round =>
    clear hz ho1 hbw1
    obtain ⟨m, j, os, hm, hj, rfl, rfl, ⟨ys, hos⟩, hl1, hl2, ho, hbw⟩ := hrel
    cases j with
    | zero =>
      have e0 : (((0 : Nat) : Int) - 1) = -1 := by omega
      rw [e0]
      clear e0
      have hol : os.length = width := by omega
      have HO : Hid (os = bitsF n width) := by unfold Hid; rw [hos.out.1, hos.out.2]; simp [bitsF]
      go_wp2_with fail
      go_ret
      exact ⟨_, _, os, HO, ho, ret_slice hol.symm, hbw⟩
    | succ j =>
      obtain ⟨ad1, y1, rfl, -, k0⟩ := ho.ri.get (k := j) (by omega)
      obtain ⟨hs1, hs2, hs3⟩ := ho.store j ((m % 2 : Nat) : Int)
      have hbw2 := OI.belowOwn hbw ho hs2 (Nat.le_refl _)
      have HN : Hid (os.set j ((m % 2 : Nat) : Int) = List.replicate j 0 ++ (((m % 2 : Nat) : Int) :: ys) ∧ bitsF n width = bitsF (m / 2) j ++ (((m % 2 : Nat) : Int) :: ys)) := by
        unfold Hid
        obtain ⟨h1, h2⟩ := hos.out
        refine ⟨by rw [h1, tail_set], ?_⟩
        rw [h2, bitsF, List.append_assoc]; rfl
      have hjl : j < os.length := by omega
      have hl3 : (os.set j ((m % 2 : Nat) : Int)).length = os.length := List.length_set
      rw [show (((j + 1 : Nat) : Int) - 1) = (j : Int) by omega]
      clear ho hbw hs2 hos
      go_wp2_with fail
      go_roundw
      case rel => exact ⟨m / 2, j, _, by omega, by omega, by go_num, by go_num, ⟨_, HN⟩, by omega, by omega, hs1, hbw2⟩
      case measure => simp [intOf]
end Go.Proofs.Ytamljhjbmeikiaa
/- Contracts: bytes as bits, bits that are put. No condition. -/
namespace Go.Proofs.Ytamljhjbmeikiaa
open Go Go.RowKit
set_option maxHeartbeats 1000000 in
theorem BytesBits_any (A : Option Addr) (c : Nat) (bs : List Int) (w : World) (hr : RI w A c bs) (hok : byOk bs = true) (h8 : bs.length ≤ 75) : Calls Try.prog 95 #[.slice A bs.length c] w (PLB w (some (bytesBits bs))) := by
  have HOK := hid hok
  clear hok
  go_enter Try.func95, Try.ntmps95
  go_wp2_with fail
  refine (bytesOk_any _ _ _ _ hr).mono ?_
  rintro e w' ⟨b3, hb3, rfl, rfl⟩
  obtain rfl : b3 = true := hb3.out.trans HOK.out
  clear hb3
  go_wp2_with fail
  have hoe := OI.empty w w.heap.size (Nat.le_refl _)
  have hbe := below_new w (.cells #[] 3)
  go_loopw [4, 21] (fun v t wr => ∃ (k : Nat) (A' : Option Addr) (c' : Nat) (ys : List Int), k ≤ bs.length ∧ t = .int .i64 k ∧ v = .slice A' ys.length c' ∧ Hid (ys = bytesBits (bs.take k)) ∧ ys.length ≤ 8 * k ∧ OI wr w.heap.size A' c' ys ∧ Below w.heap.size w wr) (fun _ t _ => bs.length - (intOf t).toNat)
  case atStart => exact ⟨0, _, _, [], by omega, rfl, rfl, hid rfl, by simp, hoe, hbe⟩
  case round =>
    clear hoe hbe
    obtain ⟨k, A', c', ys, hk, rfl, rfl, hys, hl, ho, hbw⟩ := hrel
    obtain ⟨wo, rfl⟩ : ∃ wo : World, wo = wr := ⟨_, rfl⟩
    by_cases hlt : k < bs.length
    · obtain ⟨ad, x, rfl, HX, hc⟩ := (hr.below hbw).get hlt
      obtain ⟨hx0, hx1⟩ := byOk_at HOK.out HX.out
      obtain ⟨m, rfl⟩ : ∃ m : Nat, x = (m : Int) := ⟨x.toNat, by omega⟩
      have hm : m < 256 := by omega
      clear hx0 hx1
      go_wp2_with fail
      go_loopw [4, 7] (fun v t wi => ∃ (j : Nat) (A' : Option Addr) (c' : Nat) (zs : List Int), j ≤ 8 ∧ t = .int .i64 ((j : Int) - 1) ∧ v = .slice A' zs.length c' ∧ Hid (zs ++ bitsF m j = ys ++ bitsF m 8) ∧ zs.length + j ≤ 8 * (k + 1) ∧ OI wi w.heap.size A' c' zs ∧ Below w.heap.size w wi) (fun _ t _ => ((intOf t) + 1).toNat)
      case atStart => exact ⟨8, A', c', ys, by omega, rfl, rfl, hid rfl, by omega, ho, hbw⟩
      case round =>
        clear hc ho hbw
        obtain ⟨j, A', c', zs, hj, rfl, rfl, hzs, hl2, ho, hbw⟩ := hrel
        obtain ⟨wi, rfl⟩ : ∃ wi : World, wi = wr := ⟨_, rfl⟩
        have hwz := hbw.size
        cases j with
        | zero =>
          have e0 : (((0 : Nat) : Int) - 1) = -1 := by omega
          rw [e0]
          clear e0
          have HZ : Hid (zs = bytesBits (bs.take (k + 1))) := by
            unfold Hid
            have h := hzs.out
            rw [bitsF, List.append_nil] at h
            rw [take_snoc' HX.out, bytesBits_snoc, ← hys.out, h]
            rfl
          go_wp2_with fail
          go_roundw
          case rel => exact ⟨k + 1, A', c', zs, by omega, by go_num, rfl, HZ, by omega, ho, hbw⟩
          case measure => simp [intOf]; omega
        | succ j =>
          have hb := shr_and m j (by omega)
          have HN : Hid ((zs ++ [((m / 2 ^ j % 2 : Nat) : Int)]) ++ bitsF m j = ys ++ bitsF m 8) := by
            unfold Hid
            rw [List.append_assoc, ← hzs.out, bitsF_head]; rfl
          rw [show (((j + 1 : Nat) : Int) - 1) = (j : Int) by omega]
          obtain ⟨q, hq⟩ : ∃ q : Int, q = ((m / 2 ^ j % 2 : Nat) : Int) := ⟨_, rfl⟩
          rw [← hq] at hb HN
          clear hq
          go_wp2_with (at_builtin; refine wpl_app (ys := [q]) intT rfl _ _ rfl rfl (ho.alloc _) rfl (RI.one wi q) (by simp; omega) (by simp; omega) ?_; intro A3 c3 w3 us hu ho3 hg3 hat3; clear hat3)
          have hbw3 := OI.belowOwn (below_on hbw (below_new _ _)) (ho.alloc _) hg3 (Nat.le_refl _)
          go_roundw
          case rel => exact ⟨j, A3, c3, us, by omega, by go_num, rfl, hid (by rw [hu.out]; exact HN.out), by rw [hu.out]; simp; omega, ho3, hbw3⟩
          case measure => simp [intOf]
    · have HK : Hid (ys = bytesBits bs) := by unfold Hid; rw [hys.out, List.take_of_length_le (by omega)]
      go_wp2_with fail
      go_ret2
      exact PLB_some (by rw [HK.out]) ho hbw
set_option maxHeartbeats 1000000 in
theorem BitsPut_any (A : Option Addr) (c : Nat) (xs : List Int) (n width : Nat) (w : World) (hr : RI w A c xs) (hok : bitOk xs = true) (hw : width ≤ 16) (hn : n < 2 ^ width) (hl : xs.length + width ≤ 600) : Calls Try.prog 99 #[.slice A xs.length c, .int .i64 n, .int .i64 width] w (PLB w (some (xs ++ bitsF n width))) := by
  have HOK := hid hok
  have hp := ipow_bd hw
  have hn2 : (n : Int) < (2 : Int) ^ width := by
    have e : (2 : Int) ^ width = ((2 ^ width : Nat) : Int) := by simp
    omega
  obtain ⟨P2, hP2⟩ : ∃ p : Int, p = (2 : Int) ^ width := ⟨_, rfl⟩
  have HP2 := hid hP2
  rw [← hP2] at hp hn2
  obtain ⟨hp1, hp2⟩ := hp
  clear hok hn hP2
  go_enter Try.func99, Try.ntmps99
  go_wp2_with fail
  refine (bitsOk_any _ _ _ _ hr).mono ?_
  rintro e w' ⟨b3, hb3, rfl, rfl⟩
  obtain rfl : b3 = true := hb3.out.trans HOK.out
  clear hb3
  go_wp2_with fail
  refine (within_any _ _ _ _).mono ?_
  rintro e w' ⟨b3, hb3, rfl, rfl⟩
  obtain rfl : b3 = true := hb3.out.trans (by rw [inB_true]; omega)
  clear hb3
  go_wp2_with fail
  refine (within_any _ _ _ _).mono ?_
  rintro e w' ⟨b3, hb3, rfl, rfl⟩
  have e1 : wrap64 ((2 : Int) ^ width) = P2 := by rw [← HP2.out]; unfold wrap64; omega
  have e2 : wrap64 (P2 - 1) = P2 - 1 := by unfold wrap64; omega
  obtain rfl : b3 = true := hb3.out.trans (by rw [e1, e2, inB_true]; omega)
  clear hb3 e1 e2
  go_wp2_with fail
  refine (cloned_any _ _ _ _ hr (by omega)).mono ?_
  rintro _ w1 ⟨A1, c1, ys, hys, ho1, rfl, hb1⟩
  obtain rfl := hys.out
  clear hys
  go_wp2_with fail
  go_loopw [8, 9] (fun v t wi => ∃ (j : Nat) (A' : Option Addr) (c' : Nat) (zs : List Int), j ≤ width ∧ t = .int .i64 ((j : Int) - 1) ∧ v = .slice A' zs.length c' ∧ Hid (zs ++ bitsF n j = ys ++ bitsF n width) ∧ zs.length + j ≤ 600 ∧ OI wi w.heap.size A' c' zs ∧ Below w.heap.size w wi) (fun _ t _ => ((intOf t) + 1).toNat)
  case atStart => exact ⟨width, A1, c1, ys, by omega, rfl, rfl, hid rfl, by omega, ho1, hb1⟩
  case round =>
    clear ho1 hb1
    obtain ⟨j, A', c', zs, hj, rfl, rfl, hzs, hl2, ho, hbw⟩ := hrel
    obtain ⟨wi, rfl⟩ : ∃ wi : World, wi = wr := ⟨_, rfl⟩
    have hwz := hbw.size
    cases j with
    | zero =>
      have e0 : (((0 : Nat) : Int) - 1) = -1 := by omega
      rw [e0]
      clear e0
      have HZ : Hid (zs = ys ++ bitsF n width) := by
        unfold Hid
        have h := hzs.out
        rw [bitsF, List.append_nil] at h
        exact h
      go_wp2_with fail
      go_ret2
      exact PLB_some (by rw [HZ.out]) ho hbw
    | succ j =>
      have hb := shr_and n j (by omega)
      have HN : Hid ((zs ++ [((n / 2 ^ j % 2 : Nat) : Int)]) ++ bitsF n j = ys ++ bitsF n width) := by
        unfold Hid
        rw [List.append_assoc, ← hzs.out, bitsF_head]; rfl
      rw [show (((j + 1 : Nat) : Int) - 1) = (j : Int) by omega]
      obtain ⟨q, hq⟩ : ∃ q : Int, q = ((n / 2 ^ j % 2 : Nat) : Int) := ⟨_, rfl⟩
      rw [← hq] at hb HN
      clear hq
      go_wp2_with (at_builtin; refine wpl_app (ys := [q]) intT rfl _ _ rfl rfl (ho.alloc _) rfl (RI.one wi q) (by simp; omega) (by simp; omega) ?_; intro A3 c3 w3 us hu ho3 hg3 hat3; clear hat3)
      have hbw3 := OI.belowOwn (below_on hbw (below_new _ _)) (ho.alloc _) hg3 (Nat.le_refl _)
      go_roundw
      case rel => exact ⟨j, A3, c3, us, by omega, by go_num, rfl, hid (by rw [hu.out]; exact HN.out), by rw [hu.out]; simp; omega, ho3, hbw3⟩
      case measure => simp [intOf]
/-- What 'BitsGet' answers, its bits being valid. -/
def PGet (w : World) (xs : List Int) (a width : Nat) (e : Ending) (w' : World) : Prop := ∃ (b : Bool) (n : Int), Hid (b = decide (a + width ≤ xs.length)) ∧ Hid (b = true → n = numF ((xs.drop a).take width)) ∧ e = .returned (.tuple #[.int .i64 n, .bool b]) ∧ w = w'
set_option maxHeartbeats 1000000 in
theorem BitsGet_any (A : Option Addr) (c : Nat) (xs : List Int) (a width : Nat) (w : World) (hr : RI w A c xs) (hok : bitOk xs = true) (hw : width ≤ 16) (ha : a ≤ xs.length) :
    Calls Try.prog 107 #[.slice A xs.length c, .int .i64 a, .int .i64 width] w (PGet w xs a width) := by
  have HOK := hid hok
  obtain ⟨hl6, hbit⟩ := bitOk_iff.1 hok
  have HBIT := hid hbit
  clear hok hbit
  go_enter Try.func107, Try.ntmps107
  go_wp2_with fail
  refine (bitsOk_any _ _ _ _ hr).mono ?_
  rintro e w' ⟨b3, hb3, rfl, rfl⟩
  obtain rfl : b3 = true := hb3.out.trans HOK.out
  clear hb3
  go_wp2_with fail
  refine (within_any _ _ _ _).mono ?_
  rintro e w' ⟨b3, hb3, rfl, rfl⟩
  obtain rfl : b3 = true := hb3.out.trans (by rw [inB_true]; omega)
  clear hb3
  go_wp2_with fail
  refine (within_any _ _ _ _).mono ?_
  rintro e w' ⟨b3, hb3, rfl, rfl⟩
  obtain rfl : b3 = true := hb3.out.trans (by rw [inB_true]; omega)
  clear hb3
  by_cases hle : a + width ≤ xs.length
  rotate_left
  · have hgt : (xs.length : Int) - (a : Int) < (width : Int) := by omega
    go_wp2_with fail
    go_ret2
    exact ⟨false, 0, hid (by simp [hle]), hid (fun h => absurd h (by decide)), rfl, rfl⟩
  · have hgt : ¬ (xs.length : Int) - (a : Int) < (width : Int) := by omega
    go_wp2_with (refine wpl_cutI intT rfl _ _ _ rfl rfl hr a (a + width) ⟨_, _, rfl, rfl⟩ ⟨_, _, rfl, by simp⟩ (by omega) (by omega) ?_; intro A3 c3 zs hz hr3 hb3 hlz1 hlz2)
    have HZ : Hid (zs = (xs.drop a).take width) := by unfold Hid; rw [hz.out, List.drop_take, Nat.add_sub_cancel_left]
    have HBZ : Hid (∀ x ∈ zs, 0 ≤ x ∧ x ≤ 1) := hid fun x hx => HBIT.out x (by rw [hz.out] at hx; exact List.mem_of_mem_take (List.mem_of_mem_drop hx))
    have hzl : zs.length ≤ 16 := by omega
    clear hz hb3 hlz1 hlz2
    go_loop [8, 41] (fun p i => ∃ (k : Nat) (q : Nat), k ≤ zs.length ∧ i = .int .i64 k ∧ p = .int .i64 q ∧ Hid ((q : Int) = numF (zs.take k))) (fun _ i => zs.length - (intOf i).toNat)
    case atStart => exact ⟨0, 0, by omega, rfl, rfl, hid rfl⟩
    case round =>
      obtain ⟨k, q, hk, rfl, rfl, hq⟩ := hrel
      have hq0 : (q : Int) < 65536 := by
        have h1 := numF_bd (zs.take k) (fun x hx => HBZ.out x (List.mem_of_mem_take hx))
        rw [← hq.out] at h1
        have h2 : (2 : Int) ^ (zs.take k).length ≤ 65536 := (ipow_bd (by simp; omega)).2
        omega
      by_cases hlt : k < zs.length
      · obtain ⟨ad, x, rfl, HX, hc⟩ := hr3.get hlt
        obtain ⟨hx0, hx1⟩ := HBZ.out x (List.mem_of_getElem? HX.out)
        have hor := or_one q x hx0 hx1 (by omega)
        go_wp2_with fail
        go_round
        case rel => exact ⟨k + 1, 2 * q + x.toNat, by omega, by go_num, by rw [show 2 * (q : Int) + x = ((2 * q + x.toNat : Nat) : Int) by omega], hid (by rw [take_snoc' HX.out, numF_snoc, ← hq.out]; omega)⟩
        case measure => simp [intOf]; omega
      · have HK : Hid (zs.take k = zs) := by unfold Hid; exact List.take_of_length_le (by omega)
        go_wp2_with fail
        go_ret2
        exact ⟨true, q, hid (by simp [hle]), hid (fun _ => by rw [hq.out, HK.out, HZ.out]), rfl, rfl⟩
end Go.Proofs.Ytamljhjbmeikiaa
/- Contracts: bits as bytes. No condition. -/
namespace Go.Proofs.Ytamljhjbmeikiaa
open Go Go.RowKit
/-- A slice's length. -/
def lenOfV : Value → Nat
  | .slice _ n _ => n
  | _ => 0
set_option maxRecDepth 100000 in
set_option maxHeartbeats 1000000 in
theorem BitsBytes_any (A : Option Addr) (c : Nat) (bs : List Int) (w : World) (hr : RI w A c bs) (hok : bitOk bs = true) : Calls Try.prog 76 #[.slice A bs.length c] w (PLB w (some (bytesOf bs))) := by
  have HOK := hid hok
  obtain ⟨hl6, hbit⟩ := bitOk_iff.1 hok
  have HBIT := hid hbit
  clear hok hbit
  obtain ⟨m, hm⟩ : ∃ m, m = (bs.length + 7) / 8 := ⟨_, rfl⟩
  have HM := hid hm
  have hm1 : m ≤ 80 := by omega
  go_enter Try.func76, Try.ntmps76
  go_wp2_with fail
  refine (bitsOk_any _ _ _ _ hr).mono ?_
  rintro e w' ⟨b3, hb3, rfl, rfl⟩
  obtain rfl : b3 = true := hb3.out.trans HOK.out
  clear hb3
  go_upto_region 4 with (refine wpl_make intT rfl _ _ rfl m rfl rfl (by omega) (by omega) (by omega) w.heap.size (Nat.le_refl _) ?_; intro A1 w1 zs hz hz1 hz2 ho1 hg1 hb1)
  have e1 : zs.length = m := by omega
  rw [e1]
  have hbw1 : Below w.heap.size w w1 := (Below.refl _ _).grown hg1 (Nat.le_refl _) (by simp)
  have HZ0 : Hid (zs.length = m ∧ ∀ i, i < m → zs[i]? = some (byteV (bs.take 0) i)) := hid ⟨e1, fun i hi => by rw [hz.out, List.take_zero, byteV_nil]; simp [hi]⟩
  clear e1 hz1 hz2 hb1 hg1 hz hm
  go_wp2_with fail
  go_loopw [18] (fun t wr => ∃ (k : Nat) (os : List Int), k ≤ bs.length ∧ t = .int .i64 k ∧ Hid (os.length = m ∧ ∀ i, i < m → os[i]? = some (byteV (bs.take k) i)) ∧ OI wr w.heap.size A1 m os ∧ Below w.heap.size w wr) (fun t _ => bs.length - (intOf t).toNat)
  case atStart => exact ⟨0, zs, by omega, rfl, HZ0, ho1, hbw1⟩
  case round =>
    clear HZ0 ho1 hbw1
    obtain ⟨k, os, hk, rfl, hos, ho, hbw⟩ := hrel
    obtain ⟨wo, rfl⟩ : ∃ wo : World, wo = wr := ⟨_, rfl⟩
    by_cases hlt : k < bs.length
    · obtain ⟨ad, x, rfl, HX, hc⟩ := (hr.below hbw).get hlt
      obtain ⟨hx0, hx1⟩ := HBIT.out x (List.mem_of_getElem? HX.out)
      have hq : k / 8 < m := by have := HM.out; omega
      have hlk : (bs.take k).length = k := by rw [List.length_take]; omega
      have hbits : ∀ y ∈ bs.take k, 0 ≤ y ∧ y ≤ 1 := fun y hy => HBIT.out y (List.mem_of_mem_take hy)
      have hst := byteV_here hbits ⟨hx0, hx1⟩
      rw [← take_snoc' HX.out, hlk] at hst
      obtain ⟨hv0, hv1⟩ := byteV_bd hbits (k / 8)
      have hg := hos.out.2 _ hq
      obtain ⟨v, hv⟩ : ∃ v, v = byteV (bs.take k) (k / 8) := ⟨_, rfl⟩
      obtain ⟨u, hu⟩ : ∃ u, u = byteV (bs.take (k + 1)) (k / 8) := ⟨_, rfl⟩
      rw [← hv] at hst hv0 hv1 hg
      rw [← hu] at hst
      have hol : k / 8 < os.length := by rw [hos.out.1]; exact hq
      obtain ⟨ad1, y1, rfl, -, -⟩ := ho.ri.get hol
      have k0 := ho.drew.ri.cellAt hg
      have k0' := ho.ri.cellAt hg
      obtain ⟨hs1, hs2, hs3⟩ := ho.drew.store (k / 8) u
      have hbw2 := OI.belowOwn (below_on hbw (Below.drew (Below.refl _ _))) ho.drew hs2 (Nat.le_refl _)
      have HN : Hid ((os.set (k / 8) u).length = m ∧ ∀ i, i < m → (os.set (k / 8) u)[i]? = some (byteV (bs.take (k + 1)) i)) := hid ⟨by rw [List.length_set]; exact hos.out.1, fun i hi => by
        by_cases hik : i = k / 8
        · subst hik
          rw [← hu]
          simp [hol]
        · rw [List.getElem?_set_ne (by omega), hos.out.2 i hi, take_snoc' HX.out, byteV_other (by rw [hlk]; exact hik)]⟩
      have HLO := hid hos.out.1
      clear hu hv hlk hg hbits hs2 ho hbw hos hol
      have hi0 : IntKind.i64.wrap ((k : Int) / 8) = (k : Int) / 8 := IntWalk.i64_in _ (by omega)
      have hi9 : (k : Int).tmod 8 = (k : Int) % 8 := Int.tmod_eq_emod_of_nonneg (by omega)
      have hi1 : (k : Int) / 8 < (m : Int) := by omega
      have hi2 : (0 : Int) ≤ (k : Int) / 8 := by omega
      have hi3 : ((k : Int) / 8).toNat = k / 8 := by omega
      have hi4 : (7 - (k : Int) % 8).toNat = 7 - k % 8 := by omega
      have hi5 : (0 : Int) ≤ 7 - (k : Int) % 8 := by omega
      have hi6 : 7 - (k : Int) % 8 ≤ 64 := by omega
      have hi7 : IntKind.i64.wrap (7 - (k : Int) % 8) = 7 - (k : Int) % 8 := IntWalk.i64_in _ (by omega)
      have hi8 : IntKind.i64.wrap (x * 2 ^ (7 - k % 8)) = x * 2 ^ (7 - k % 8) := IntWalk.i64_in _ (by
        have h1 := ipow_bd (w := 7 - k % 8) (by omega)
        have h2 : x * 2 ^ (7 - k % 8) ≤ 1 * 65536 := Int.mul_le_mul hx1 h1.2 (by omega) (by omega)
        have h3 : 0 ≤ x * 2 ^ (7 - k % 8) := Int.mul_nonneg hx0 (by omega)
        omega)
      go_wp2_with fail
      go_still_tail 12, (by kernel_rfl)
      change wpList _ _ _ _ _ wo.drew
      go_wp2_with fail
      go_roundw
      case rel => exact ⟨k + 1, _, by omega, by go_num, HN, hs1, hbw2⟩
      case measure => simp [intOf]; omega
    · have HK : Hid (os = bytesOf bs) := by
        unfold Hid
        apply List.ext_getElem?
        intro i
        obtain ⟨h1, h2⟩ := hos.out
        rw [List.take_of_length_le (by omega)] at h2
        by_cases hi : i < m
        · rw [h2 i hi]; unfold bytesOf; rw [← HM.out]; simp [hi]
        · rw [List.getElem?_eq_none (by omega), List.getElem?_eq_none (by rw [bytesOf_length, ← HM.out]; omega)]
      have hol : os.length = m := hos.out.1
      have HOL := hid hol
      clear hol hos
      go_wp2_with fail
      go_ret2
      rw [← HM.out, ← HOL.out]
      rw [← HOL.out] at ho
      exact PLB_some (by rw [HK.out]) ho hbw
set_option maxHeartbeats 1000000 in
theorem sBitsBytes_any (A : Option Addr) (c : Nat) (bs : List Int) (w : World) (hr : RI w A c bs) (hok : bitOk bs = true) : Calls Try.prog 126 #[.slice A bs.length c] w (PLB w (some (bytesOf bs))) := by
  have HOK := hid hok
  obtain ⟨hl6, hbit⟩ := bitOk_iff.1 hok
  have HBIT := hid hbit
  clear hok hbit
  obtain ⟨m, hm⟩ : ∃ m, m = (bs.length + 7) / 8 := ⟨_, rfl⟩
  have HM := hid hm
  have hm1 : m ≤ 80 := by omega
  have hm2 : bs.length ≤ 8 * m := by omega
  have hm3 : 8 * m ≤ bs.length + 7 := by omega
  clear hm
  go_enter Try.func126, Try.ntmps126
  go_wp2_with fail
  refine (l1Bits_any _ _ _ _ hr).mono ?_
  rintro e w' ⟨b3, hb3, rfl, rfl⟩
  obtain rfl : b3 = true := hb3.out.trans HOK.out
  clear hb3
  go_wp2_with (at_builtin; refine wpl_app (xs := []) intT rfl _ _ rfl rfl (OI.empty w w.heap.size (Nat.le_refl _)) rfl (hr.alloc _) (by simp; omega) (by simp) ?_; intro A1 c1 w1 zs hz ho1 hg1 hat1; clear hat1)
  have hbw1 : Below w.heap.size w w1 := below_grown (below_new _ _) (OI.empty w w.heap.size (Nat.le_refl _)) hg1 (Nat.le_refl _) (by simp)
  have HZ0 : Hid (zs = bs ++ List.replicate 0 0) := by unfold Hid; rw [hz.out]; simp
  clear hz hg1
  have hzl : zs.length ≤ 8 * m := by rw [HZ0.out]; simp; omega
  go_loopw [4] (fun v wr => ∃ (j : Nat) (A' : Option Addr) (c' : Nat) (zs : List Int), v = .slice A' zs.length c' ∧ Hid (zs = bs ++ List.replicate j 0) ∧ zs.length ≤ 8 * m ∧ OI wr w.heap.size A' c' zs ∧ Below w.heap.size w wr) (fun v _ => 8 * m - (lenOfV v))
  case atStart => exact ⟨0, A1, c1, zs, rfl, HZ0, hzl, ho1, hbw1⟩
  case round =>
    clear HZ0 ho1 hbw1 hzl
    obtain ⟨j, A', c', zs, rfl, hz, hzl, ho, hbw⟩ := hrel
    obtain ⟨wo, rfl⟩ : ∃ wo : World, wo = wr := ⟨_, rfl⟩
    have hwz := hbw.size
    by_cases h8 : zs.length % 8 = 0
    · have hq : (((zs.length : Int) % 8) != 0) = false := by simp; omega
      have HP : Hid ((bs ++ List.replicate j 0).length = 8 * ((bs.length + 7) / 8)) := by
        unfold Hid
        rw [← hz.out, ← HM.out]
        have : bs.length ≤ zs.length := by rw [hz.out]; simp
        omega
      have hzm1 : zs.length ≤ 8 * m := by omega
      have hzm2 : 8 * m ≤ zs.length := by rw [hz.out, HP.out, ← HM.out]; omega
      have HZB : Hid (∀ x ∈ zs, 0 ≤ x ∧ x ≤ 1) := hid fun x hx => by
        rw [hz.out] at hx
        rcases List.mem_append.1 hx with hx | hx
        · exact HBIT.out x hx
        · rw [List.eq_of_mem_replicate hx]; omega
      clear hzl h8
      go_wp2_with fail
      have hoe := OI.empty wo wo.heap.size (Nat.le_refl _)
      have hbe := below_on hbw (below_new wo (.cells #[] 3))
      have hra := ho.alloc (.cells #[] 3)
      have hsA : wo.heap.size ≤ (wo.alloc (.cells #[] 3)).heap.size := by simp
      have HLT : ∀ g, blk A' = some g → g < wo.heap.size := fun g hg => (OI.lt ho hg).2
      clear ho hbw
      generalize wo.alloc (.cells #[] 3) = wA at *
      go_loopw [5, 6] (fun v t wr => ∃ (k : Nat) (A3 : Option Addr) (c3 : Nat) (ys : List Int), k ≤ m ∧ t = .int .i64 (8 * (k : Int)) ∧ v = .slice A3 ys.length c3 ∧ Hid (ys = (List.range k).map (byteV bs)) ∧ ys.length ≤ k ∧ OI wr wo.heap.size A3 c3 ys ∧ OI wr w.heap.size A' c' zs ∧ wo.heap.size ≤ wr.heap.size ∧ Below w.heap.size w wr) (fun _ t _ => 8 * m - (intOf t).toNat)
      case atStart => exact ⟨0, _, _, [], by omega, by go_num, rfl, hid rfl, by simp, hoe, hra, hsA, hbe⟩
      case round =>
        clear hoe hbe hra hsA
        obtain ⟨k, A3, c3, ys, hk, rfl, rfl, hys, hyl, ho, hra, hws, hbw⟩ := hrel
        obtain ⟨wi, rfl⟩ : ∃ wi : World, wi = wr := ⟨_, rfl⟩
        have hwi := hbw.size
        by_cases hlt : k < m
        · go_wp2_with (refine wpl_cutI intT rfl _ _ _ rfl rfl hra.ri (8 * k) (8 * k + 8) ⟨_, _, rfl, by omega⟩ ⟨_, _, rfl, by omega⟩ (by omega) (by omega) ?_; intro A4 c4 us hu hr4 hb4 hlz1 hlz2)
          refine (l1Get_any _ _ _ _ hr4 (by omega) (fun x hx => HZB.out x (by rw [hu.out] at hx; exact List.mem_of_mem_take (List.mem_of_mem_drop hx)))).mono ?_
          rintro _ _ ⟨q, hq, rfl, rfl⟩
          have HQ : Hid (q = byteV bs k) := by
            unfold Hid
            rw [hq.out, hu.out, hz.out]
            exact byteV_pad bs j k HP.out (by rw [← HM.out]; exact hlt)
          clear hq hu hb4 hr4 hlz1 hlz2
          go_wp2_with (at_builtin; refine wpl_app (ys := [q]) intT rfl _ _ rfl rfl (ho.alloc _) rfl (RI.one wi q) (by simp; omega) (by simp; omega) ?_; intro A5 c5 w5 vs hv ho5 hg5 hat5; clear hat5)
          have hsz5 := hg5.size
          simp at hsz5
          have hra5 := (hra.alloc (.cells #[.int .i64 q] 3)).grown hg5 (fun g hg e => by have h1 := (OI.lt ho e).1; have h2 := HLT g hg; omega)
          have hbw5 := (OI.belowOwn (below_on hbw (below_new _ _)) (ho.alloc _) hg5 hwz)
          go_roundw
          case rel => exact ⟨k + 1, A5, c5, vs, by omega, by go_num, rfl, hid (by rw [hv.out, hys.out, HQ.out, List.range_succ, List.map_append]; rfl), by rw [hv.out]; simp; omega, ho5, hra5, by omega, hbw5⟩
          case measure => simp [intOf]; omega
        · have HK : Hid (ys = bytesOf bs) := by
            unfold Hid
            rw [hys.out]; unfold bytesOf
            rw [← HM.out, show k = m by omega]
          go_wp2_with fail
          go_ret2
          exact PLB_some (by rw [HK.out]) (ho.mono hwz) hbw
    · have hq : (((zs.length : Int) % 8) != 0) = true := by simp; omega
      go_wp2_with (at_builtin; refine wpl_app (ys := [0]) intT rfl _ _ rfl rfl (ho.alloc _) rfl (RI.one wo 0) (by simp; omega) (by simp; omega) ?_; intro A5 c5 w5 vs hv ho5 hg5 hat5; clear hat5)
      have hbw5 := OI.belowOwn (below_on hbw (below_new _ _)) (ho.alloc _) hg5 (Nat.le_refl _)
      have hvl : vs.length = zs.length + 1 := by rw [hv.out]; simp
      have hvl1 : vs.length ≤ zs.length + 1 := by omega
      have hvl2 : zs.length + 1 ≤ vs.length := by omega
      clear hvl
      go_roundw
      case rel => exact ⟨j + 1, A5, c5, vs, rfl, hid (by rw [hv.out, hz.out, List.append_assoc, List.replicate_succ']), by omega, ho5, hbw5⟩
      case measure => simp only [lenOfV]; omega
end Go.Proofs.Ytamljhjbmeikiaa
/- Contracts: lengths of codes. No condition. -/
namespace Go.Proofs.Ytamljhjbmeikiaa
open Go Go.RowKit
theorem lengthsIn_any (A : Option Addr) (c : Nat) (xs : List Int) (w : World) (hr : RI w A c xs) : Calls Try.prog 128 #[.slice A xs.length c] w (PB w (lenOk xs)) := by
  by_cases h : xs.length = 8
  · have hq : ((xs.length : Int) == 8) = true := by simp; omega
    have H8 := hid h
    clear h
    go_enter Try.func128, Try.ntmps128
    go_wp2_with fail
    refine (every_any _ _ _ _ _ _ hr).mono ?_
    rintro e w' ⟨b, hb1, rfl, rfl⟩
    go_wp2_with fail
    go_ret
    exact ⟨_, hid (by simp [lenOk, H8.out, hb1.out]), rfl, rfl⟩
  · have hq : ((xs.length : Int) == 8) = false := by simp; omega
    have H8 := hid h
    clear h
    go_enter Try.func128, Try.ntmps128
    go_wp2_with fail
    go_ret
    exact ⟨_, hid (by simp [lenOk, H8.out]), rfl, rfl⟩
theorem LengthsKraft_any (A : Option Addr) (c : Nat) (xs : List Int) (w : World) (hr : RI w A c xs) : Calls Try.prog 118 #[.slice A xs.length c] w (PN w (kraft xs)) := by
  go_enter Try.func118, Try.ntmps118
  go_wp2_with fail
  refine (lengthsIn_any _ _ _ _ hr).mono ?_
  rintro e w' ⟨b, hb, rfl, rfl⟩
  cases b
  · go_wp2_with fail
    go_ret
    exact ⟨_, hid (by simp [kraft, hb.out.symm]), rfl, rfl⟩
  obtain ⟨h8, hall⟩ := lenOk_iff.1 hb.out.symm
  have HALL := hid hall
  have hl8 : xs.length ≤ 8 := by omega
  clear h8 hall
  go_wp2_with fail
  go_loop [3, 11] (fun p i => ∃ (k : Nat) (q : Int), k ≤ xs.length ∧ i = .int .i64 k ∧ p = .int .i64 q ∧ 0 ≤ q ∧ q ≤ 256 * (k : Int) ∧ Hid (q = krF (xs.take k))) (fun _ i => xs.length - (intOf i).toNat)
  case atStart => exact ⟨0, 0, by omega, rfl, rfl, by omega, by omega, hid rfl⟩
  case round =>
    obtain ⟨k, q, hk, rfl, rfl, hq0, hq1, hq⟩ := hrel
    by_cases hlt : k < xs.length
    · obtain ⟨ad, x, rfl, HX, hc⟩ := hr.get hlt
      obtain ⟨hx0, hx1⟩ := HALL.out x (List.mem_of_getElem? HX.out)
      obtain ⟨hs0, hs1⟩ := krStep_bd q x hx0 hx1
      have HS : Hid (krStep q x = krF (xs.take (k + 1))) := by unfold Hid; rw [krF_take HX.out, ← hq.out]
      obtain ⟨u, hu⟩ : ∃ u, u = krStep q x := ⟨_, rfl⟩
      rw [← hu] at hs0 hs1 HS
      by_cases hp : 0 < x
      · have e1 : (256 : Int) / 2 ^ x.toNat = u - q := by
          rw [shr_len _ (by omega), hu]
          unfold krStep
          rw [if_pos hp, show 8 - x.toNat = (8 - x).toNat by omega]
          omega
        have e2 : q + (u - q) = u := by omega
        clear hu
        go_wp2_with fail
        go_round
        case rel => exact ⟨k + 1, u, by omega, by go_num, rfl, by omega, by omega, HS⟩
        case measure => simp [intOf]; omega
      · have HU : Hid (u = q) := by unfold Hid; rw [hu]; unfold krStep; rw [if_neg hp]
        clear hu
        go_wp2_with fail
        go_round
        case rel => exact ⟨k + 1, q, by omega, by go_num, rfl, by omega, by omega, hid (by rw [← HS.out, HU.out])⟩
        case measure => simp [intOf]; omega
    · have HK : Hid (xs.take k = xs) := by unfold Hid; exact List.take_of_length_le (by omega)
      go_wp2_with fail
      go_ret
      exact ⟨q, hid (by rw [hq.out, HK.out]; simp [kraft, hb.out.symm]), rfl, rfl⟩
theorem LengthsValid_any (A : Option Addr) (c : Nat) (xs : List Int) (w : World) (hr : RI w A c xs) : Calls Try.prog 106 #[.slice A xs.length c] w (PB w (lenVal xs)) := by
  go_enter Try.func106, Try.ntmps106
  go_wp2_with fail
  refine (LengthsKraft_any _ _ _ _ hr).mono ?_
  rintro e w' ⟨n, hn, rfl, rfl⟩
  have hc : n ≤ 0 ∨ (0 < n ∧ n ≤ 256) ∨ (0 < n ∧ 256 < n) := by omega
  rcases hc with hc | ⟨hc, hc2⟩ | ⟨hc, hc2⟩
  all_goals
    have HC := hid hc
    go_wp2_with fail
    go_ret
    refine ⟨_, hid ?_, rfl, rfl⟩
    unfold lenVal
    rw [← hn.out]
    have := HC.out
    simp
    try omega
theorem sLengthsKraft_any (A : Option Addr) (c : Nat) (xs : List Int) (w : World) (hr : RI w A c xs) : Calls Try.prog 119 #[.slice A xs.length c] w (PN w (kraft xs)) := by
  by_cases h8 : xs.length = 8
  rotate_left
  · have hq : ((xs.length : Int) != 8) = true := by simp; omega
    have H8 := hid h8
    clear h8
    go_enter Try.func119, Try.ntmps119
    go_wp2_with fail
    go_ret
    exact ⟨_, hid (by simp [kraft, lenOk, H8.out]), rfl, rfl⟩
  have hq8 : ((xs.length : Int) != 8) = false := by simp; omega
  have H8 := hid h8
  have hl8 : xs.length ≤ 8 := by omega
  clear h8
  go_enter Try.func119, Try.ntmps119
  go_wp2_with fail
  go_loop [3, 4] (fun p i => ∃ (k : Nat) (q : Int), k ≤ xs.length ∧ i = .int .i64 k ∧ p = .int .i64 q ∧ 0 ≤ q ∧ q ≤ 256 * (k : Int) ∧ Hid (q = krF (xs.take k)) ∧ Hid ((xs.take k).all (inB 0 8) = true)) (fun _ i => xs.length - (intOf i).toNat)
  case atStart => exact ⟨0, 0, by omega, rfl, rfl, by omega, by omega, hid rfl, by simp [Hid]⟩
  case round =>
    obtain ⟨k, q, hk, rfl, rfl, hq0, hq1, hq, hh⟩ := hrel
    by_cases hlt : k < xs.length
    · obtain ⟨ad, x, rfl, HX, hc⟩ := hr.get hlt
      go_wp2_with fail
      refine (l6In_any _ _ _ _).mono ?_
      rintro e w' ⟨b, hb1, rfl, rfl⟩
      cases b
      · go_wp2_with fail
        go_ret
        exact ⟨_, hid (by unfold kraft lenOk; rw [all_no HX.out hb1.out.symm, Bool.and_false]; rfl), rfl, rfl⟩
      have HA := hid (all_snoc HX.out hh.out hb1.out.symm)
      obtain ⟨hx0, hx1⟩ := inB_true.1 hb1.out.symm
      clear hb1
      obtain ⟨hs0, hs1⟩ := krStep_bd q x hx0 hx1
      have HS : Hid (krStep q x = krF (xs.take (k + 1))) := by unfold Hid; rw [krF_take HX.out, ← hq.out]
      obtain ⟨u, hu⟩ : ∃ u, u = krStep q x := ⟨_, rfl⟩
      rw [← hu] at hs0 hs1 HS
      by_cases hp : 0 < x
      · have e1 : Hid (q + 2 ^ (8 - x).toNat = u) := by
          unfold Hid
          rw [hu]
          unfold krStep
          rw [if_pos hp]
        obtain ⟨m, hm⟩ : ∃ m : Nat, 8 - x = (m : Int) := ⟨(8 - x).toNat, by omega⟩
        have hm8 : m ≤ 8 := by omega
        have HM := hid hm
        clear hu hm
        go_wp2_with fail
        rw [HM.out]
        refine (l1Power_any m _ (by omega)).mono ?_
        rintro e w' ⟨n, hn, rfl, rfl⟩
        have e2 : q + n = u := by
          have := e1.out
          rw [HM.out] at this
          rw [hn.out]
          simpa using this
        clear hn
        go_wp2_with fail
        go_round
        case rel => exact ⟨k + 1, u, by omega, by go_num, rfl, by omega, by omega, HS, HA⟩
        case measure => simp [intOf]; omega
      · have HU : Hid (u = q) := by unfold Hid; rw [hu]; unfold krStep; rw [if_neg hp]
        clear hu
        go_wp2_with fail
        go_round
        case rel => exact ⟨k + 1, q, by omega, by go_num, rfl, by omega, by omega, hid (by rw [← HS.out, HU.out]), HA⟩
        case measure => simp [intOf]; omega
    · have HK : Hid (xs.take k = xs) := by unfold Hid; exact List.take_of_length_le (by omega)
      go_wp2_with fail
      go_ret
      exact ⟨q, hid (by rw [hq.out, HK.out]; have := hh.out; rw [HK.out] at this; simp [kraft, lenOk, H8.out, this]), rfl, rfl⟩
theorem sLengthsValid_any (A : Option Addr) (c : Nat) (xs : List Int) (w : World) (hr : RI w A c xs) : Calls Try.prog 108 #[.slice A xs.length c] w (PB w (lenVal xs)) := by
  go_enter Try.func108, Try.ntmps108
  go_wp2_with fail
  refine (sLengthsKraft_any _ _ _ _ hr).mono ?_
  rintro e w' ⟨n, hn, rfl, rfl⟩
  go_wp2_with fail
  refine (l1Power_any 8 _ (by omega)).mono ?_
  rintro e w' ⟨p, hp, rfl, rfl⟩
  go_wp2_with fail
  refine (l6In_any _ _ _ _).mono ?_
  rintro e w' ⟨b, hb, rfl, rfl⟩
  go_wp2_with fail
  go_ret
  exact ⟨b, hid (by rw [hb.out, hp.out, hn.out]; rfl), rfl, rfl⟩
end Go.Proofs.Ytamljhjbmeikiaa
/- Contracts: counts and their sums. No condition. -/
namespace Go.Proofs.Ytamljhjbmeikiaa
open Go Go.RowKit
set_option maxRecDepth 100000 in
theorem l3Counts_any (A : Option Addr) (c : Nat) (xs : List Int) (w : World) (hr : RI w A c xs) (hs : allSym xs) (hn : xs.length ≤ 1000000) :
    Calls Try.prog 124 #[.slice A xs.length c] w (PL w (countsL xs)) := by
  have HS := hid hs
  clear hs
  go_enter Try.func124, Try.ntmps124
  go_upto_region 2 with (refine wpl_make intT rfl _ _ rfl 8 rfl rfl rfl rfl (by omega) w.heap.size (Nat.le_refl _) ?_; intro A1 w1 zs hz hz1 hz2 ho1 hg1 hb1)
  have e8 : zs.length = 8 := by omega
  rw [e8]
  clear e8
  go_wp2_with fail
  go_loopw [4] (fun i wr => ∃ (k : Nat) (cs : List Int), k ≤ xs.length ∧ i = .int .i64 k ∧ Hid (cs = countsK xs k) ∧ OI wr w.heap.size A1 8 cs ∧ Below w.heap.size w wr) (fun i _ => xs.length - (intOf i).toNat)
  case atStart => exact ⟨0, zs, by omega, rfl, hid (by rw [hz.out, countsK_zero]), ho1, (Below.refl _ _).grown hg1 (Nat.le_refl _) (by simp)⟩
  case round =>
    clear ho1 hg1 hb1 hz hz1 hz2
    obtain ⟨k, cs, hk, rfl, hcs, ho, hbw⟩ := hrel
    obtain ⟨wo, rfl⟩ : ∃ wo : World, wo = wr := ⟨_, rfl⟩
    by_cases hlt : k < xs.length
    · obtain ⟨ad, x, rfl, HX, hc⟩ := (hr.below hbw).get hlt
      obtain ⟨hx0, hx1⟩ := HS.out k x HX.out
      obtain ⟨s, rfl⟩ := Int.eq_ofNat_of_zero_le hx0
      have hs8 : s < 8 := by omega
      clear hx0 hx1
      obtain ⟨ad2, y, rfl, HY, hc2⟩ := ho.ri.get (k := s) (by rw [hcs.out, countsK_length]; exact hs8)
      obtain rfl : ((grp xs k s).length : Int) = y := by have := HY.out; rw [hcs.out, countsK_at hs8] at this; exact Option.some.inj this
      have hle := grp_le xs k s
      have HN := hid (countsK_snoc HX.out hs8)
      have hc3 := ho.drew.ri.cellAt HY.out
      clear HX HY
      generalize (grp xs k s).length = q at *
      obtain ⟨hs1, hs2, hs3⟩ := ho.drew.store s ((q : Int) + 1)
      have hbw2 := OI.belowOwn (below_on hbw (Below.drew (Below.refl _ _))) ho.drew hs2 (Nat.le_refl _)
      have hi1 : (0 : Int) ≤ (s : Int) := by omega
      have hi2 : (s : Int) < 8 := by omega
      have hi3 : (0 : Int) ≤ (k : Int) := by omega
      have hi4 : (k : Int) < (xs.length : Int) := by omega
      have hi5 : IntKind.i64.wrap ((q : Int) + 1) = (q : Int) + 1 := IntWalk.i64_in _ (by omega)
      clear ho hbw hs2
      go_wp2_with fail
      go_still_tail 14, (by kernel_rfl)
      change wpList _ _ _ _ _ wo.drew
      go_wp2_with fail
      go_roundw
      case rel => exact ⟨k + 1, _, by omega, by go_num, hid (by rw [hcs.out, HN.out]), hs1, hbw2⟩
      case measure => simp [intOf]; omega
    · have e : k = xs.length := by omega
      subst e
      have hl : cs.length = 8 := by rw [hcs.out, countsK_length]
      have HL := hid hl
      clear hl
      go_wp2_with fail
      go_ret
      exact ⟨_, _, cs, hcs, ho, ret_slice HL.out.symm, hbw⟩
theorem l3Sum_any (A : Option Addr) (c : Nat) (xs : List Int) (w : World) (hr : RI w A c xs) (hn : xs.length ≤ 1000) (hb : ∀ x ∈ xs, 0 ≤ x ∧ x ≤ 1000000) : Calls Try.prog 130 #[.slice A xs.length c] w (PN w (sumL xs)) := by
  have HB := hid hb
  clear hb
  go_enter Try.func130, Try.ntmps130
  go_wp2_with fail
  go_loop [3, 4] (fun p i => ∃ (k : Nat) (q : Int), k ≤ xs.length ∧ i = .int .i64 k ∧ p = .int .i64 q ∧ 0 ≤ q ∧ q ≤ 1000000 * (k : Int) ∧ Hid (q = sumL (xs.take k))) (fun _ i => xs.length - (intOf i).toNat)
  case atStart => exact ⟨0, 0, by omega, rfl, rfl, by omega, by omega, hid rfl⟩
  case round =>
    obtain ⟨k, q, hk, rfl, rfl, hq0, hq1, hq⟩ := hrel
    by_cases hlt : k < xs.length
    · obtain ⟨ad, x, rfl, HX, hc⟩ := hr.get hlt
      obtain ⟨hx0, hx1⟩ := HB.out x (List.mem_of_getElem? HX.out)
      go_wp2_with fail
      go_round
      case rel => exact ⟨k + 1, q + x, by omega, by go_num, rfl, by omega, by omega, hid (by rw [sumL_take HX.out, hq.out])⟩
      case measure => simp [intOf]; omega
    · have HK : Hid (xs.take k = xs) := by unfold Hid; exact List.take_of_length_le (by omega)
      go_wp2_with fail
      go_ret
      exact ⟨q, hid (by rw [hq.out, HK.out]), rfl, rfl⟩
theorem total_any (A : Option Addr) (c : Nat) (xs : List Int) (w : World) (hr : RI w A c xs) (hn : xs.length ≤ 1000) (hb : ∀ x ∈ xs, 0 ≤ x ∧ x ≤ 1000000) : Calls Try.prog 97 #[.slice A xs.length c] w (PN w (sumL xs)) := by
  have HB := hid hb
  clear hb
  go_enter Try.func97, Try.ntmps97
  go_wp2_with fail
  go_loop [3, 8] (fun p i => ∃ (k : Nat) (q : Int), k ≤ xs.length ∧ i = .int .i64 k ∧ p = .int .i64 q ∧ 0 ≤ q ∧ q ≤ 1000000 * (k : Int) ∧ Hid (q = sumL (xs.take k))) (fun _ i => xs.length - (intOf i).toNat)
  case atStart => exact ⟨0, 0, by omega, rfl, rfl, by omega, by omega, hid rfl⟩
  case round =>
    obtain ⟨k, q, hk, rfl, rfl, hq0, hq1, hq⟩ := hrel
    by_cases hlt : k < xs.length
    · obtain ⟨ad, x, rfl, HX, hc⟩ := hr.get hlt
      obtain ⟨hx0, hx1⟩ := HB.out x (List.mem_of_getElem? HX.out)
      go_wp2_with fail
      go_round
      case rel => exact ⟨k + 1, q + x, by omega, by go_num, rfl, by omega, by omega, hid (by rw [sumL_take HX.out, hq.out])⟩
      case measure => simp [intOf]; omega
    · have HK : Hid (xs.take k = xs) := by unfold Hid; exact List.take_of_length_le (by omega)
      go_wp2_with fail
      go_ret
      exact ⟨q, hid (by rw [hq.out, HK.out]), rfl, rfl⟩
end Go.Proofs.Ytamljhjbmeikiaa
