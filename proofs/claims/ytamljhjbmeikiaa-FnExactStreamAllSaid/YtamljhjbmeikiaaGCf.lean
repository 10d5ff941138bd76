/- Joined texts: contracts and plain facts that the laws share. No condition. -/
import Derived.Test.YtamljhjbmeikiaaGCe
import Derived.Test.YtamljhjbmeikiaaGCb
import Derived.Test.YtamljhjbmeikiaaGCa
/- Contracts: a list as a block: stored, as runs. No condition. -/
namespace Go.Proofs.Ytamljhjbmeikiaa
open Go Go.RowKit
theorem asL_bad {xs : List Int} {way : Int} (h : listOk xs = false) : asL xs way = none := by unfold asL; rw [h]; rfl
theorem ri_two1 (w : World) (o : Obj) (x y : Int) : RI ((w.alloc o).alloc (.cells #[.int .i64 x, .int .i64 y] 3)) (some ⟨w.heap.size + 1, 0, none⟩) 2 [x, y] := by
  have h := RI.two (w.alloc o) x y
  have hs : (w.alloc o).heap.size = w.heap.size + 1 := by simp
  rw [hs] at h
  exact h
theorem flatR_snoc (rs : List (Int × Int)) (r : Int × Int) : flatR (rs ++ [r]) = flatR rs ++ [r.1, r.2] := by simp [flatR]
theorem asL_runs {xs : List Int} (h : listOk xs = true) : asL xs 1 = some ([1, ((runsL xs).length : Int)] ++ flatR (runsL xs)) := by unfold asL asB; rw [if_pos h, if_neg (by decide), if_pos rfl]
set_option maxRecDepth 100000 in
set_option maxHeartbeats 1000000 in
theorem BlockAs_w0 (A : Option Addr) (c : Nat) (xs : List Int) (w : World) (hr : RI w A c xs) (hok : listOk xs = true) : Calls Try.prog 40 #[.slice A xs.length c, .int .i64 0] w (PLB w (asL xs 0)) := by
  have h40 : xs.length ≤ 40 := (listOk_iff.1 hok).1
  have HF : Hid (asL xs 0 = some ([0, (xs.length : Int)] ++ xs)) := hid (asL_zero hok)
  have ho0 := OI.one w w.heap.size 0 (Nat.le_refl _)
  have hb0 := below_new w (.cells #[.int .i64 0] 3)
  go_enter Try.func40, Try.ntmps40
  go_wp2_with fail
  refine (ListValid_any _ _ _ _ hr).mono ?_
  rintro e w' ⟨b1, hb1, rfl, rfl⟩
  obtain rfl : b1 = true := hb1.out.trans hok
  clear hb1
  go_wp2_with (first | (at_builtin; refine wpl_app (xs := us) (ys := xs) intT rfl _ _ rfl rfl ho1 rfl hr1 (by have := congrArg List.length hu.out; simp at this; omega) (by omega) ?_; intro A2 c2 w2 vs hv ho2 hg2 hat2; clear hat2) | (at_builtin; refine wpl_app (xs := [0]) (ys := [(xs.length : Int)]) intT rfl _ _ rfl rfl (ho0.alloc _) rfl (ri_one1 w (.cells #[.int .i64 0] 3) (xs.length : Int)) (by simp) (by simp; omega) ?_; intro A1 c1 w1 us hu ho1 hg1 hat1; clear hat1; have hbw1 := OI.belowOwn (below_on hb0 (below_new _ _)) (ho0.alloc _) hg1 (Nat.le_refl _); have hr1 := hr.below hbw1; have hsz1 := hbw1.size))
  have hbw2 := OI.belowOwn hbw1 ho1 hg2 (Nat.le_refl _)
  go_ret2
  exact PLB_some (by rw [HF.out, hv.out, hu.out]; rfl) ho2 hbw2
set_option maxHeartbeats 1000000 in
theorem BlockAs_no (A : Option Addr) (c : Nat) (xs : List Int) (way : Int) (w : World) (hr : RI w A c xs) (hok : listOk xs = false) : Calls Try.prog 40 #[.slice A xs.length c, .int .i64 way] w (PLB w (asL xs way)) := by
  have HF : Hid (asL xs way = none) := hid (asL_bad hok)
  go_enter Try.func40, Try.ntmps40
  go_wp2_with fail
  refine (ListValid_any _ _ _ _ hr).mono ?_
  rintro e w' ⟨b1, hb1, rfl, rfl⟩
  obtain rfl : b1 = false := hb1.out.trans hok
  clear hb1
  go_wp2_with fail
  go_ret2
  exact PLB_none HF.out (Below.refl _ _)
set_option maxHeartbeats 1000000 in
theorem BlockAs_other (A : Option Addr) (c : Nat) (xs : List Int) (way : Int) (w : World) (hr : RI w A c xs) (hok : listOk xs = true) (h0 : way ≠ 0) (h1 : way ≠ 1) (h2 : way ≠ 2) (h3 : way ≠ 3) : Calls Try.prog 40 #[.slice A xs.length c, .int .i64 way] w (PLB w (asL xs way)) := by
  have HF : Hid (asL xs way = none) := by unfold Hid asL asB; rw [if_pos hok, if_neg h0, if_neg h1, if_neg h2, if_neg h3]
  have q0 : (way == 0) = false := by simp [h0]
  have q1 : (way == 1) = false := by simp [h1]
  have q2 : (way == 2) = false := by simp [h2]
  have q3 : (way == 3) = false := by simp [h3]
  clear h0 h1 h2 h3
  go_enter Try.func40, Try.ntmps40
  go_wp2_with fail
  refine (ListValid_any _ _ _ _ hr).mono ?_
  rintro e w' ⟨b1, hb1, rfl, rfl⟩
  obtain rfl : b1 = true := hb1.out.trans hok
  clear hb1
  go_wp2_with fail
  go_ret2
  have hb := below_new w (.cells #[.int .i64 way] 3)
  have := PLB_none (g := w.heap.size + 1) HF.out hb (by simp)
  exact this
set_option maxHeartbeats 1000000 in
theorem BlockAs_w1 (A : Option Addr) (c : Nat) (xs : List Int) (w : World) (hr : RI w A c xs) (hok : listOk xs = true) : Calls Try.prog 40 #[.slice A xs.length c, .int .i64 1] w (PLB w (asL xs 1)) := by
  have h40 : xs.length ≤ 40 := (listOk_iff.1 hok).1
  have HF := hid (asL_runs hok)
  have HRL := hid (runs_length xs)
  have hrf : runsF xs = runsL xs := by unfold runsF; rw [if_pos hok]
  have HRF := hid hrf
  have ho0 := OI.one w w.heap.size 1 (Nat.le_refl _)
  have hb0 := below_new w (.cells #[.int .i64 1] 3)
  clear hrf
  go_enter Try.func40, Try.ntmps40
  go_wp2_with fail
  refine (ListValid_any _ _ _ _ hr).mono ?_
  rintro e w' ⟨b1, hb1, rfl, rfl⟩
  obtain rfl : b1 = true := hb1.out.trans hok
  clear hb1
  go_wp2_with fail
  refine (RunsOf_any _ _ _ _ (hr.below hb0)).mono ?_
  rintro _ w1 ⟨A1, c1, rs, hrs, hor, rfl, hb1⟩
  have HRS : Hid (rs = runsL xs) := hid (hrs.out.trans HRF.out)
  have hrl : rs.length ≤ 40 := by rw [HRS.out]; have := HRL.out; omega
  have ho1 := ho0.below hb1
  have hbw1 := below_on hb0 hb1
  have hsz := hbw1.size
  have HA1 : Hid (∀ b, blk A1 = some b → w.heap.size + 1 ≤ b ∧ b < w1.heap.size) := hid fun b hb => by have := OS.lt hor hb; simp at this; omega
  clear hrs ho0 hb1
  go_wp2_with (at_builtin; refine wpl_app (xs := [1]) (ys := [(rs.length : Int)]) intT rfl _ _ rfl rfl (ho1.alloc _) rfl (RI.one w1 (rs.length : Int)) (by simp) (by simp; omega) ?_; intro A2 c2 w2 us hu ho2 hg2 hat2; have hat3 := hid hat2; clear hat2)
  have hbw2 := OI.belowOwn (below_on hbw1 (below_new _ _)) (ho1.alloc _) hg2 (Nat.le_refl _)
  have hor2 := ((OS.alloc hor (.cells #[.int .i64 (rs.length : Int)] 3)).grown hg2 (fun g hg e => by have := (HA1.out g hg).1; simp [blk] at e; omega)).mono (show w.heap.size ≤ (w.alloc (.cells #[.int .i64 1] 3)).heap.size from hb0.size)
  have HU : Hid (us = [1, (rs.length : Int)]) := hid hu.out
  have hul : us.length = 2 := by rw [hu.out]; rfl
  have HD : Hid (∀ b, blk A2 = some b → blk A1 ≠ some b) := hid fun b h1 h2 => by
    have h3 := HA1.out b h2
    rcases hat3.out with h | h
    · rw [h] at h1; simp [blk] at h1; omega
    · rw [h] at h1; injection h1 with h1; simp at h1; omega
  clear hu hg2 ho1 hbw1 hor hat3
  go_loopw [6, 48] (fun v t wr => ∃ (k : Nat) (A' : Option Addr) (c' : Nat) (ys : List Int), k ≤ rs.length ∧ t = .int .i64 k ∧ v = .slice A' ys.length c' ∧ Hid (ys = [1, (rs.length : Int)] ++ flatR (rs.take k)) ∧ ys.length ≤ 2 + 2 * k ∧ OI wr w.heap.size A' c' ys ∧ OS eRun wr w.heap.size 77 A1 c1 rs ∧ (∀ b, blk A' = some b → blk A1 ≠ some b) ∧ Below w.heap.size w wr) (fun _ t _ => rs.length - (intOf t).toNat)
  case atStart => exact ⟨0, A2, c2, us, by omega, rfl, rfl, HU, by omega, ho2, hor2, HD.out, hbw2⟩
  case round =>
    clear ho2 hor2 HD hbw2 HU hul
    obtain ⟨k, A', c', ys, hk, rfl, rfl, hys, hyl, ho, hor, hdis, hbw⟩ := hrel
    obtain ⟨wo, rfl⟩ : ∃ wo : World, wo = wr := ⟨_, rfl⟩
    have HDIS := hid hdis
    have hwz := hbw.size
    clear hdis
    by_cases hlt : k < rs.length
    · obtain ⟨⟨s, m⟩, hrk⟩ : ∃ r, rs[k]? = some r := ⟨_, List.getElem?_eq_getElem hlt⟩
      obtain ⟨ad, rfl, hadb⟩ := RS.addr hor.rs hrk (by decide)
      obtain ⟨r0, r1⟩ := runAt hor.rs hrk
      have HRK := hid hrk
      have hB := BX.new wo #[.int .i64 s, .int .i64 m] 77
      have q0 := hB.cell 0
      have q1 := hB.cell 1
      simp at q0 q1
      simp only at r0 r1
      clear hrk
      go_wp2_with (at_builtin; refine wpl_app (ys := [s, m]) intT rfl _ _ rfl rfl ((ho.alloc _).alloc _) rfl (ri_two1 wo (.cells #[.int .i64 s, .int .i64 m] 77) s m) (by simp; omega) (by simp; omega) ?_; intro A3 c3 w3 us hu ho3 hg3 hat3; have hat4 := hid hat3; clear hat3)
      have hbw3 := OI.belowOwn (below_on (below_on hbw (below_new _ _)) (below_new _ _)) ((ho.alloc _).alloc _) hg3 (Nat.le_refl _)
      have hor3 := (OS.alloc (OS.alloc hor (.cells #[.int .i64 s, .int .i64 m] 77)) (.cells #[.int .i64 s, .int .i64 m] 3)).grown hg3 (fun g hg e => HDIS.out g e hg)
      have HU : Hid (us = [1, (rs.length : Int)] ++ flatR (rs.take (k + 1))) := by unfold Hid; rw [hu.out, hys.out, take_snoc' HRK.out, flatR_snoc, List.append_assoc]
      have hul : us.length ≤ 2 + 2 * (k + 1) := by rw [hu.out]; simp; omega
      have hd3 : ∀ b, blk A3 = some b → blk (some ad) ≠ some b := fun b h1 h2 => by
        have h3 := (OS.lt hor h2).2
        rcases hat4.out with h | h
        · exact HDIS.out b (h ▸ h1) h2
        · rw [h] at h1; injection h1 with h1; simp at h1; omega
      clear ho hor hbw hg3 hu hys
      go_roundw
      case rel => exact ⟨k + 1, A3, c3, us, by omega, by go_num, rfl, HU, hul, ho3, hor3, hd3, hbw3⟩
      case measure => simp [intOf]; omega
    · have HK : Hid (asL xs 1 = some ys) := by unfold Hid; rw [HF.out, hys.out, List.take_of_length_le (by omega), HRS.out]
      go_wp2_with fail
      go_ret2
      exact PLB_some HK.out ho hbw
end Go.Proofs.Ytamljhjbmeikiaa
/- Contracts: a list as a block: with codes, as tokens. No condition. -/
namespace Go.Proofs.Ytamljhjbmeikiaa
open Go Go.RowKit
theorem asL_toks {xs : List Int} (h : listOk xs = true) : asL xs 3 = some ([3, ((parseL xs).length : Int)] ++ (parseL xs).map tokByte) := by unfold asL asB; rw [if_pos h, if_neg (by decide), if_neg (by decide), if_neg (by decide), if_pos rfl]
theorem asL_codes {xs : List Int} (h : listOk xs = true) (hn : ¬ xs.length = 0) : asL xs 2 = some ([2, (xs.length : Int)] ++ (packL (lensOf xs) ++ bytesOf (encL (lensOf xs) xs))) := by unfold asL asB; rw [if_pos h, if_neg (by decide), if_neg (by decide), if_pos rfl, if_neg hn]
theorem asL_codes_no {xs : List Int} (h : listOk xs = true) (hn : xs.length = 0) : asL xs 2 = none := by unfold asL asB; rw [if_pos h, if_neg (by decide), if_neg (by decide), if_pos rfl, if_pos hn]
theorem cnt_counts {xs : List Int} (h : listOk xs = true) : cntOk (countsL xs) = true := by
  have h40 : xs.length ≤ 40 := (listOk_iff.1 h).1
  unfold cntOk
  simp only [Bool.and_eq_true, decide_eq_true_eq, List.all_eq_true]
  refine ⟨countsK_length _ _, fun x hx => ?_⟩
  obtain ⟨s, hs, rfl⟩ := List.mem_map.1 hx
  rw [inB_true]
  have := grp_le xs xs.length s
  omega
theorem used_counts {xs : List Int} (h : listOk xs = true) (hn : ¬ xs.length = 0) : used (countsL xs) ≠ [] := by
  cases xs with
  | nil => exact absurd rfl hn
  | cons x l =>
    have hx := listOk_at h (k := 0) (x := x) rfl
    refine List.ne_nil_of_mem (a := x.toNat) (used_mem.2 ⟨by omega, ?_⟩)
    have h2 := countsK_at (L := x :: l) (k := (x :: l).length) (s := x.toNat) (by omega)
    unfold countsL
    rw [List.getD_eq_getElem?_getD, h2]
    have := grp_pos (xs := x :: l) (x := x) (by simp) hx.1
    simp only [Option.getD_some]
    omega
theorem enc_lens {xs : List Int} (h : listOk xs = true) (hn : ¬ xs.length = 0) : encOk (lensOf xs) xs := by
  have hne : xs ≠ [] := fun e => hn (by rw [e]; rfl)
  obtain ⟨h1, h2⟩ := lens_ok h hne
  exact ⟨h1, h, fun x hx => (h2 x hx).2.2⟩
theorem parse_sym {xs : List Int} {k : Nat} {t : Int × Int × Int} (h : (parseL xs)[k]? = some t) (ho : listOk xs = true) : (t.2.2 = 0 ∧ t.2.1 = 0 ∧ 0 ≤ t.1 ∧ t.1 ≤ 7) ∨ (2 ≤ t.2.2 ∧ t.2.2 ≤ 9 ∧ 1 ≤ t.2.1 ∧ t.2.1 ≤ 16) := by
  obtain ⟨p, hp, rfl⟩ := parse_mem _ _ t (List.mem_of_getElem? h)
  rcases tok_is xs p with h | ⟨b, n, h, h1, h2, h3, h4, h5⟩
  · have hb := listOk_at ho (getD_at hp)
    rw [h]; exact .inl ⟨rfl, rfl, hb⟩
  · have h6 := mlen_le xs p b
    rw [h]; refine .inr ?_; simp only; omega
set_option maxHeartbeats 2000000 in
theorem BlockAs_w3 (A : Option Addr) (c : Nat) (xs : List Int) (w : World) (hr : RI w A c xs) (hok : listOk xs = true) : Calls Try.prog 40 #[.slice A xs.length c, .int .i64 3] w (PLB w (asL xs 3)) := by
  have h40 : xs.length ≤ 40 := (listOk_iff.1 hok).1
  have HF := hid (asL_toks hok)
  have HPL : Hid ((parseL xs).length ≤ 40) := by unfold Hid; have := parse_length (xs := xs) xs.length 0; unfold parseL; omega
  have HRF : Hid (parseB xs = parseL xs) := by unfold Hid parseB; rw [if_pos hok]
  have HOK := hid hok
  have ho0 := OI.one w w.heap.size 3 (Nat.le_refl _)
  have hb0 := below_new w (.cells #[.int .i64 3] 3)
  go_enter Try.func40, Try.ntmps40
  go_wp2_with fail
  refine (ListValid_any _ _ _ _ hr).mono ?_
  rintro e w' ⟨b1, hb1, rfl, rfl⟩
  obtain rfl : b1 = true := hb1.out.trans hok
  clear hb1 hok
  go_wp2_with fail
  refine (ParseBest_any _ _ _ _ (hr.below hb0)).mono ?_
  rintro _ w1 ⟨A1, c1, ts, hts, hor, rfl, hb1⟩
  have HTS : Hid (ts = parseL xs) := hid (hts.out.trans HRF.out)
  have htl : ts.length ≤ 40 := by rw [HTS.out]; exact HPL.out
  have ho1 := ho0.below hb1
  have hbw1 := below_on hb0 hb1
  have hsz := hbw1.size
  have HA1 : Hid (∀ b, blk A1 = some b → w.heap.size + 1 ≤ b ∧ b < w1.heap.size) := hid fun b hb => by have := OS.lt hor hb; simp at this; omega
  clear hts ho0 hb1
  go_wp2_with (at_builtin; refine wpl_app (xs := [3]) (ys := [(ts.length : Int)]) intT rfl _ _ rfl rfl (ho1.alloc _) rfl (RI.one w1 (ts.length : Int)) (by simp) (by simp; omega) ?_; intro A2 c2 w2 us hu ho2 hg2 hat2; have hat3 := hid hat2; clear hat2)
  have hbw2 := OI.belowOwn (below_on hbw1 (below_new _ _)) (ho1.alloc _) hg2 (Nat.le_refl _)
  have hor2 := ((OS.alloc hor (.cells #[.int .i64 (ts.length : Int)] 3)).grown hg2 (fun g hg e => by have := (HA1.out g hg).1; simp [blk] at e; omega)).mono (show w.heap.size ≤ (w.alloc (.cells #[.int .i64 3] 3)).heap.size from hb0.size)
  have HU : Hid (us = [3, (ts.length : Int)]) := hid hu.out
  have hul : us.length = 2 := by rw [hu.out]; rfl
  have HD : Hid (∀ b, blk A2 = some b → blk A1 ≠ some b) := hid fun b h1 h2 => by
    have h3 := HA1.out b h2
    rcases hat3.out with h | h
    · rw [h] at h1; simp [blk] at h1; omega
    · rw [h] at h1; injection h1 with h1; simp at h1; omega
  clear hu hg2 ho1 hbw1 hor hat3
  go_loopw [6, 120] (fun v t wr => ∃ (k : Nat) (A' : Option Addr) (c' : Nat) (ys : List Int), k ≤ ts.length ∧ t = .int .i64 k ∧ v = .slice A' ys.length c' ∧ Hid (ys = [3, (ts.length : Int)] ++ (ts.take k).map tokByte) ∧ ys.length ≤ 2 + k ∧ OI wr w.heap.size A' c' ys ∧ OS eTok wr w.heap.size 82 A1 c1 ts ∧ (∀ b, blk A' = some b → blk A1 ≠ some b) ∧ Below w.heap.size w wr) (fun _ t _ => ts.length - (intOf t).toNat)
  case atStart => exact ⟨0, A2, c2, us, by omega, rfl, rfl, HU, by omega, ho2, hor2, HD.out, hbw2⟩
  case round =>
    clear ho2 hor2 HD hbw2 HU hul
    obtain ⟨k, A', c', ys, hk, rfl, rfl, hys, hyl, ho, hor, hdis, hbw⟩ := hrel
    obtain ⟨wo, rfl⟩ : ∃ wo : World, wo = wr := ⟨_, rfl⟩
    have HDIS := hid hdis
    have hwz := hbw.size
    clear hdis
    by_cases hlt : k < ts.length
    · obtain ⟨⟨s, b, m⟩, hrk⟩ : ∃ r, ts[k]? = some r := ⟨_, List.getElem?_eq_getElem hlt⟩
      obtain ⟨ad, rfl, hadb⟩ := RS.addr hor.rs hrk (by decide)
      obtain ⟨r0, r1, r2⟩ := tokCells hor.rs hrk
      have hcase := parse_sym (HTS.out ▸ hrk) HOK.out
      have HRK := hid hrk
      have hB := BX.new wo #[.int .i64 s, .int .i64 b, .int .i64 m] 82
      have q0 := hB.cell 0
      have q1 := hB.cell 1
      have q2 := hB.cell 2
      simp at q0 q1 q2
      simp only at r0 r1 r2 hcase
      clear hrk
      rcases hcase with ⟨rfl, rfl, hs0, hs7⟩ | ⟨hm2, hm9, hb1, hb16⟩
      · have HT : Hid (tokByte (s, 0, 0) = s) := hid (if_pos rfl)
        go_wp2_with (at_builtin; refine wpl_app (ys := [s]) intT rfl _ _ rfl rfl ((ho.alloc _).alloc _) rfl (ri_one1 wo (.cells #[.int .i64 s, .int .i64 0, .int .i64 0] 82) s) (by simp; omega) (by simp; omega) ?_; intro A3 c3 w3 us hu ho3 hg3 hat3; have hat4 := hid hat3; clear hat3)
        have hbw3 := OI.belowOwn (below_on (below_on hbw (below_new _ _)) (below_new _ _)) ((ho.alloc _).alloc _) hg3 (Nat.le_refl _)
        have hor3 := (OS.alloc (OS.alloc hor (.cells #[.int .i64 s, .int .i64 0, .int .i64 0] 82)) (.cells #[.int .i64 s] 3)).grown hg3 (fun g hg e => HDIS.out g e hg)
        have HU : Hid (us = [3, (ts.length : Int)] ++ (ts.take (k + 1)).map tokByte) := by unfold Hid; rw [hu.out, hys.out, take_snoc' HRK.out, List.map_append, List.append_assoc, List.map_singleton, HT.out]
        have hul : us.length ≤ 2 + (k + 1) := by rw [hu.out]; simp; omega
        have hd3 : ∀ b, blk A3 = some b → blk (some ad) ≠ some b := fun b h1 h2 => by
          have h3 := (OS.lt hor h2).2
          rcases hat4.out with h | h
          · exact HDIS.out b (h ▸ h1) h2
          · rw [h] at h1; injection h1 with h1; simp at h1; omega
        clear ho hor hbw hg3 hu hys
        go_roundw
        case rel => exact ⟨k + 1, A3, c3, us, by omega, by go_num, rfl, HU, hul, ho3, hor3, hd3, hbw3⟩
        case measure => simp [intOf]; omega
      · have hqm : (m == 0) = false := by rw [beq_eq_false_iff_ne]; omega
        obtain ⟨v, hv⟩ : ∃ v, v = 128 + 16 * (m - 2) + b - 1 := ⟨_, rfl⟩
        have HT : Hid (tokByte (s, b, m) = v) := by unfold Hid tokByte; rw [if_neg (by simp only; omega), hv]
        have hv2 : 128 + 16 * (m - 2) + b - 1 = v := hv.symm
        clear hv
        go_wp2_with (at_builtin; refine wpl_app (ys := [v]) intT rfl _ _ rfl rfl ((ho.alloc _).alloc _) rfl (ri_one1 wo (.cells #[.int .i64 s, .int .i64 b, .int .i64 m] 82) v) (by simp; omega) (by simp; omega) ?_; intro A3 c3 w3 us hu ho3 hg3 hat3; have hat4 := hid hat3; clear hat3)
        have hbw3 := OI.belowOwn (below_on (below_on hbw (below_new _ _)) (below_new _ _)) ((ho.alloc _).alloc _) hg3 (Nat.le_refl _)
        have hor3 := (OS.alloc (OS.alloc hor (.cells #[.int .i64 s, .int .i64 b, .int .i64 m] 82)) (.cells #[.int .i64 v] 3)).grown hg3 (fun g hg e => HDIS.out g e hg)
        have HU : Hid (us = [3, (ts.length : Int)] ++ (ts.take (k + 1)).map tokByte) := by unfold Hid; rw [hu.out, hys.out, take_snoc' HRK.out, List.map_append, List.append_assoc, List.map_singleton, HT.out]
        have hul : us.length ≤ 2 + (k + 1) := by rw [hu.out]; simp; omega
        have hd3 : ∀ b, blk A3 = some b → blk (some ad) ≠ some b := fun b h1 h2 => by
          have h3 := (OS.lt hor h2).2
          rcases hat4.out with h | h
          · exact HDIS.out b (h ▸ h1) h2
          · rw [h] at h1; injection h1 with h1; simp at h1; omega
        clear ho hor hbw hg3 hu hys hv2
        go_roundw
        case rel => exact ⟨k + 1, A3, c3, us, by omega, by go_num, rfl, HU, hul, ho3, hor3, hd3, hbw3⟩
        case measure => simp [intOf]; omega
    · have HK : Hid (asL xs 3 = some ys) := by unfold Hid; rw [HF.out, hys.out, List.take_of_length_le (by omega), HTS.out]
      go_wp2_with fail
      go_ret2
      exact PLB_some HK.out ho hbw
end Go.Proofs.Ytamljhjbmeikiaa
/- Contracts: a list as a block with codes; all ways. No condition. -/
namespace Go.Proofs.Ytamljhjbmeikiaa
open Go Go.RowKit
theorem pack_at (ls : List Int) {j : Nat} (h : j < 4) : (packL ls)[j]? = some (16 * ls.getD (2 * j) 0 + ls.getD (2 * j + 1) 0) := by
  have : j = 0 ∨ j = 1 ∨ j = 2 ∨ j = 3 := by omega
  rcases this with rfl | rfl | rfl | rfl <;> rfl
set_option maxRecDepth 100000 in
set_option maxHeartbeats 2000000 in
theorem BlockAs_w2 (A : Option Addr) (c : Nat) (xs : List Int) (w : World) (hr : RI w A c xs) (hok : listOk xs = true) : Calls Try.prog 40 #[.slice A xs.length c, .int .i64 2] w (PLB w (asL xs 2)) := by
  have h40 : xs.length ≤ 40 := (listOk_iff.1 hok).1
  have HOK := hid hok
  have ho0 := OI.one w w.heap.size 2 (Nat.le_refl _)
  have hb0 := below_new w (.cells #[.int .i64 2] 3)
  by_cases hn : xs.length = 0
  · have HF := hid (asL_codes_no hok hn)
    have hq : ((xs.length : Int) == 0) = true := by rw [beq_iff_eq]; omega
    clear hok hn
    go_enter Try.func40, Try.ntmps40
    go_wp2_with fail
    refine (ListValid_any _ _ _ _ hr).mono ?_
    rintro e w' ⟨b1, hb1, rfl, rfl⟩
    obtain rfl : b1 = true := hb1.out.trans HOK.out
    clear hb1
    go_wp2_with fail
    go_ret2
    exact PLB_none (g := w.heap.size + 1) HF.out hb0 (by simp)
  have HF := hid (asL_codes hok hn)
  have HEN := hid (enc_lens hok hn)
  have HCN := hid (cnt_counts hok)
  have HUS := hid (used_counts hok hn)
  have hq : ((xs.length : Int) == 0) = false := by rw [beq_eq_false_iff_ne]; omega
  have HR := hid hr
  clear hok hn
  go_enter Try.func40, Try.ntmps40
  go_wp2_with fail
  refine (ListValid_any _ _ _ _ hr).mono ?_
  rintro e w' ⟨b1, hb1, rfl, rfl⟩
  obtain rfl : b1 = true := hb1.out.trans HOK.out
  clear hb1
  go_wp2_with fail
  refine (countsOf_any _ _ _ _ (hr.below hb0) (allSym_of HOK.out) (by omega)).mono ?_
  rintro _ w1 ⟨A1, c1, cs, hcs, ho1, rfl, hb1⟩
  have HCS : Hid (cs = countsL xs) := hcs
  have hbw1 := below_on hb0 hb1
  have ho01 := ho0.below hb1
  have HW1 : Hid (w.heap.size + 1 ≤ w1.heap.size) := by unfold Hid; have := hb1.size; simp at this; omega
  clear hcs ho0
  go_wp2_with fail
  refine (LengthsOf_any _ _ _ _ ho1.ri (by rw [HCS.out]; exact HCN.out) (by rw [HCS.out]; exact HUS.out)).mono ?_
  rintro _ w2 ⟨A2, c2, ls, b2, hls, hbb2, ho2, rfl, hb2⟩
  obtain rfl : b2 = true := hbb2.out
  have HLS : Hid (ls = lensOf xs) := by unfold Hid; rw [hls.out, HCS.out]; rfl
  have hbw2 := below_on hbw1 hb2
  have ho02 := ho01.below hb2
  clear hls hbb2 ho1 ho01 hb1
  go_wp2_with fail
  refine (PrefixEncode_any _ _ _ _ xs ls _ (hr.below hbw2) ho2.ri (by rw [HLS.out]; exact HEN.out)).mono ?_
  rintro _ w3 ⟨A3, c3, bs, b3, hbs, hbb3, ho3, rfl, hb3⟩
  obtain rfl : b3 = true := hbb3.out
  have HBS : Hid (bs = encL (lensOf xs) xs) := by unfold Hid; rw [hbs.out, HLS.out]; rfl
  have HBK : Hid (bitOk bs = true ∧ bs.length ≤ 320) := by
    unfold Hid
    have := encOk_bits HEN.out xs.length
    rw [List.take_length] at this
    rwa [HBS.out]
  have hbw3 := below_on hbw2 hb3
  have ho03 := ho02.below hb3
  have ho23 := ho2.below hb3
  clear hbs hbb3 ho02 ho2
  go_wp2_with fail
  refine (BitsBytes_any _ _ _ _ ho3.ri HBK.out.1).mono ?_
  rintro _ w4 ⟨A4, c4, ys, b4, hys, hbb4, ho4, rfl, hb4⟩
  obtain rfl : b4 = true := hbb4.out
  have HYS : Hid (ys = bytesOf (encL (lensOf xs) xs)) := by unfold Hid; rw [hys.out, HBS.out]; rfl
  have hyl : ys.length ≤ 40 := by rw [hys.out]; exact bytesOf_le (by have := HBK.out.2; omega)
  have hbw4 := below_on hbw3 hb4
  have ho04 := ho03.below hb4
  have ho24 := ho23.below hb4
  have hwz := hbw4.size
  have HD2 : Hid (∀ b, blk A2 = some b → w.heap.size + 1 ≤ b ∧ b < w4.heap.size) := hid fun b hb => by
    have h1 := OI.lt ho24 hb; have h2 := HW1.out
    omega
  have HD4 : Hid (∀ b, blk A4 = some b → w.heap.size + 1 ≤ b ∧ b < w4.heap.size) := hid fun b hb => by
    have h1 := OI.lt ho4 hb; have h2 := HW1.out; have := hb2.size; have := hb3.size
    omega
  have ho24' := ho24.mono (show w.heap.size ≤ w1.heap.size by have := HW1.out; omega)
  have ho4' := ho4.mono (show w.heap.size ≤ w3.heap.size from hbw3.size)
  have hl8 : ls.length = 8 := by rw [HLS.out]; exact (lenVal_ok HEN.out.1).1
  have HLB : Hid (∀ x ∈ ls, 0 ≤ x ∧ x ≤ 8) := by unfold Hid; rw [HLS.out]; exact (lenVal_ok HEN.out.1).2
  have hl8a : ls.length ≤ 8 := by omega
  have hl8b : 8 ≤ ls.length := by omega
  clear hys hbb4 ho03 ho23 ho24 ho4 hb4 hb2 hb3 ho3 hbw1 hbw2 hbw3 hl8 hr
  go_wp2_with (at_builtin; refine wpl_app (xs := [2]) (ys := [(xs.length : Int)]) intT rfl _ _ rfl rfl (ho04.alloc _) rfl (RI.one w4 (xs.length : Int)) (by simp) (by simp; omega) ?_; intro A5 c5 w5 us hu ho5 hg5 hat5; have hat6 := hid hat5; clear hat5)
  have hbw5 := OI.belowOwn (below_on hbw4 (below_new _ _)) (ho04.alloc _) hg5 (Nat.le_refl _)
  have hk2 := (ho24'.alloc (.cells #[.int .i64 (xs.length : Int)] 3)).grown hg5 (fun g hg e => by have := (HD2.out g hg).1; simp [blk] at e; omega)
  have hk4 := (ho4'.alloc (.cells #[.int .i64 (xs.length : Int)] 3)).grown hg5 (fun g hg e => by have := (HD4.out g hg).1; simp [blk] at e; omega)
  have HU : Hid (us = [2, (xs.length : Int)] ++ (packL ls).take 0) := by unfold Hid; rw [hu.out]; rfl
  have hul : us.length = 2 := by rw [hu.out]; rfl
  have HD : Hid (∀ b, blk A5 = some b → blk A2 ≠ some b ∧ blk A4 ≠ some b) := hid fun b h1 => by
    have h3 := HD2.out b
    have h4 := HD4.out b
    have h5 : b = w.heap.size ∨ b = w4.heap.size + 1 := by
      rcases hat6.out with h | h
      · rw [h] at h1; simp [blk] at h1; omega
      · rw [h] at h1; injection h1 with h1; simp at h1; omega
    exact ⟨fun h => by have := h3 h; omega, fun h => by have := h4 h; omega⟩
  clear hu hg5 ho04 hbw4 hat6 ho24' ho4' HD2 HD4
  go_loopw [6, 16] (fun v t wr => ∃ (i j : Nat) (A' : Option Addr) (c' : Nat) (zs : List Int), i = 2 * j ∧ j ≤ 4 ∧ t = .int .i64 i ∧ v = .slice A' zs.length c' ∧ Hid (zs = [2, (xs.length : Int)] ++ (packL ls).take j) ∧ zs.length ≤ 2 + j ∧ OI wr w.heap.size A' c' zs ∧ OI wr w.heap.size A2 c2 ls ∧ OI wr w.heap.size A4 c4 ys ∧ (∀ b, blk A' = some b → blk A2 ≠ some b ∧ blk A4 ≠ some b) ∧ Below w.heap.size w wr) (fun _ t _ => 8 - (intOf t).toNat)
  case atStart => exact ⟨0, 0, A5, c5, us, rfl, by omega, rfl, rfl, HU, by omega, ho5, hk2, hk4, HD.out, hbw5⟩
  case round =>
    clear ho5 hk2 hk4 HD hbw5 HU hul
    obtain ⟨i, j, A', c', zs, hij, hj, rfl, rfl, hzs, hzl, ho, hk2, hk4, hdis, hbw⟩ := hrel
    obtain ⟨wo, rfl⟩ : ∃ wo : World, wo = wr := ⟨_, rfl⟩
    have HDIS := hid hdis
    have hwz := hbw.size
    have HIJ := hid hij
    clear hdis
    by_cases hlt : i < 8
    · have hiI : (i : Int) < 8 := by omega
      obtain ⟨ad, x, rfl, HX, hcx⟩ := hk2.ri.get (k := i) (by omega)
      obtain ⟨ad', y, he, HY, hcy⟩ := hk2.ri.get (k := i + 1) (by omega)
      injection he with he
      subst he
      obtain ⟨hx0, hx8⟩ := HLB.out x (List.mem_of_getElem? HX.out)
      obtain ⟨hy0, hy8⟩ := HLB.out y (List.mem_of_getElem? HY.out)
      have hi0 : (0 : Int) ≤ (i : Int) := by omega
      have hi1 : (i : Int) < (ls.length : Int) := by omega
      have hi2 : (0 : Int) ≤ (i : Int) + 1 := by omega
      have hi3 : (i : Int) + 1 < (ls.length : Int) := by omega
      have hi4 : ((i : Int) + 1).toNat = i + 1 := by omega
      have hw0 : IntKind.i64.wrap ((i : Int) + 1) = (i : Int) + 1 := IntWalk.i64_in _ (by omega)
      have hw1 : IntKind.i64.wrap (16 * x) = 16 * x := IntWalk.i64_in _ (by omega)
      have hw2 : IntKind.i64.wrap (16 * x + y) = 16 * x + y := IntWalk.i64_in _ (by omega)
      have HP : Hid ((packL ls)[j]? = some (16 * x + y)) := by
        unfold Hid
        rw [pack_at ls (by omega), ← HIJ.out, getD_hid HX.out, getD_hid HY.out]
      obtain ⟨v, hv⟩ : ∃ v, v = 16 * x + y := ⟨_, rfl⟩
      have hv2 : 16 * x + y = v := hv.symm
      rw [hv2] at HP
      have hw3 : IntKind.i64.wrap v = v := IntWalk.i64_in _ (by omega)
      have kx : wo.drew.cell? (ad.add i) = some (.int .i64 x) := by simpa using hcx
      have ky : wo.cell? ⟨ad.block, ad.off + (i + 1), none⟩ = some (.int .i64 y) := by rw [show (⟨ad.block, ad.off + (i + 1), none⟩ : Addr) = ad.add (i + 1) by simp [Addr.add]]; exact hcy
      clear hcy
      clear hij hv HX HY
      go_wp2_with fail
      go_region_law (first | (refine stp_app2 intT rfl _ _ rfl zs rfl rfl (ho.alloc (.cells #[.int .i64 v] 3)).drew [v] rfl rfl (RI.one wo v).drew (by simp; omega) (by simp; omega) ?_; intro A3 c3 w3 us hu ho3 hg3 hat3; have hat4 := hid hat3; clear hat3))
      all_goals
        have hbw3 := OI.belowOwn (below_on hbw (below_new wo (.cells #[.int .i64 v] 3))).drew (ho.alloc (.cells #[.int .i64 v] 3)).drew hg3 (Nat.le_refl _)
        have hk23 := (hk2.alloc (.cells #[.int .i64 v] 3)).drew.grown hg3 (fun g hg e => (HDIS.out g e).1 hg)
        have hk43 := (hk4.alloc (.cells #[.int .i64 v] 3)).drew.grown hg3 (fun g hg e => (HDIS.out g e).2 hg)
        have HU : Hid (us = [2, (xs.length : Int)] ++ (packL ls).take (j + 1)) := by unfold Hid; rw [hu.out, hzs.out, take_snoc' HP.out, List.append_assoc]
        have hul : us.length ≤ 2 + (j + 1) := by rw [hu.out]; simp; omega
        have hd3 : ∀ b, blk A3 = some b → blk (some ad) ≠ some b ∧ blk A4 ≠ some b := fun b h1 => by
          rcases hat4.out with h | h
          · exact HDIS.out b (h ▸ h1)
          · rw [h] at h1; injection h1 with h1; simp at h1
            exact ⟨fun h2 => by have := (OI.lt hk2 h2).2; omega, fun h2 => by have := (OI.lt hk4 h2).2; omega⟩
        clear ho hk2 hk4 hbw hg3 hu hzs hv2
        go_wp2_with fail
        go_roundw
        case rel => exact ⟨i + 2, j + 1, A3, c3, us, by have := HIJ.out; omega, by have := HIJ.out; omega, by go_num, rfl, HU, hul, ho3, hk23, hk43, hd3, hbw3⟩
        case measure => simp [intOf]; omega
    · have hiI : ¬ (i : Int) < 8 := by omega
      have HZ : Hid (zs = [2, (xs.length : Int)] ++ packL ls) := by
        unfold Hid
        rw [hzs.out, show j = 4 by omega]; rfl
      have hzl6 : zs.length = 6 := by rw [HZ.out]; rfl
      clear hzs hij
      go_wp2_with (at_builtin; refine wpl_app (ys := ys) intT rfl _ _ rfl rfl ho rfl hk4.ri (by omega) (by omega) ?_; intro A3 c3 w3 us hu ho3 hg3 hat3; clear hat3)
      have hbw3 := OI.belowOwn hbw ho hg3 (Nat.le_refl _)
      go_ret2
      exact PLB_some (by rw [HF.out, hu.out, HZ.out, HYS.out, HLS.out, List.append_assoc]) ho3 hbw3
theorem BlockAs_any (A : Option Addr) (c : Nat) (xs : List Int) (way : Int) (w : World) (hr : RI w A c xs) : Calls Try.prog 40 #[.slice A xs.length c, .int .i64 way] w (PLB w (asL xs way)) := by
  cases hok : listOk xs
  · exact BlockAs_no A c xs way w hr hok
  by_cases h0 : way = 0
  · subst h0; exact BlockAs_w0 A c xs w hr hok
  by_cases h1 : way = 1
  · subst h1; exact BlockAs_w1 A c xs w hr hok
  by_cases h2 : way = 2
  · subst h2; exact BlockAs_w2 A c xs w hr hok
  by_cases h3 : way = 3
  · subst h3; exact BlockAs_w3 A c xs w hr hok
  exact BlockAs_other A c xs way w hr hok h0 h1 h2 h3
end Go.Proofs.Ytamljhjbmeikiaa
/- Contracts: the shortest block of the program. No condition. -/
namespace Go.Proofs.Ytamljhjbmeikiaa
open Go Go.RowKit
/-- The best of the first k ways, as the program keeps it. -/
def packI (xs : List Int) : Nat → List Int
  | 0 => []
  | k + 1 => match asL xs (k : Int) with
    | none => packI xs k
    | some b => if (packI xs k).length = 0 ∨ b.length < (packI xs k).length then b else packI xs k
theorem packI_none {xs : List Int} {k : Nat} (h : asL xs (k : Int) = none) : packI xs (k + 1) = packI xs k := by rw [packI, h]
theorem packI_some {xs b : List Int} {k : Nat} (h : asL xs (k : Int) = some b) : packI xs (k + 1) = if (packI xs k).length = 0 ∨ b.length < (packI xs k).length then b else packI xs k := by rw [packI, h]
theorem packI_pick {xs : List Int} {k : Nat} (hok : listOk xs = true) (h : (packI xs k).length ≠ 0) : packI xs (k + 1) = pickB (packI xs k) (asB xs (k : Int)) := by
  rw [packI, asL_asB hok]
  cases asB xs (k : Int) with
  | none => rfl
  | some b =>
    simp only [pickB]
    by_cases hb : b.length < (packI xs k).length
    · rw [if_pos (.inr hb), if_pos hb]
    · rw [if_neg (fun q => by rcases q with q | q; exact h q; exact hb q), if_neg hb]
theorem packI_len {xs : List Int} {k : Nat} (h : (packI xs k).length ≠ 0) : (packI xs (k + 1)).length ≠ 0 := by
  rw [packI]
  cases ha : asL xs (k : Int) with
  | none => exact h
  | some b =>
    have := (in_as ha []).2.2.2
    simp only
    split
    · omega
    · exact h
theorem packI_end (xs : List Int) : packI xs 4 = packF xs := by
  unfold packF
  cases hok : listOk xs
  · have h : ∀ k, packI xs k = [] := by
      intro k
      induction k with
      | zero => rfl
      | succ k ih => rw [packI_none (asL_bad hok), ih]
    rw [h]
    rfl
  · rw [if_pos rfl]
    have h1 : packI xs 1 = [0, (xs.length : Int)] ++ xs := by
      rw [packI_some (b := [0, (xs.length : Int)] ++ xs) (asL_zero hok), if_pos (.inl rfl)]
    have l1 : (packI xs 1).length ≠ 0 := by rw [h1]; simp
    have l2 := packI_len l1
    have l3 := packI_len l2
    rw [packI_pick hok l3, packI_pick hok l2, packI_pick hok l1, h1]
    rfl
theorem asL_len {xs b : List Int} {way : Int} (h : asL xs way = some b) : b.length ≤ 200 := by
  obtain ⟨hok, hb⟩ := asL_ok h
  have h40 : xs.length ≤ 40 := (listOk_iff.1 hok).1
  unfold asB at hb
  by_cases w0 : way = 0
  · rw [if_pos w0] at hb; injection hb with hb; subst hb; simp; omega
  rw [if_neg w0] at hb
  by_cases w1 : way = 1
  · rw [if_pos w1] at hb; injection hb with hb; subst hb
    have := runs_length xs
    rw [List.length_append, flatR_length]; simp; omega
  rw [if_neg w1] at hb
  by_cases w2 : way = 2
  · rw [if_pos w2] at hb
    by_cases hn : xs.length = 0
    · rw [if_pos hn] at hb; cases hb
    · rw [if_neg hn] at hb; injection hb with hb; subst hb
      have h1 := (encOk_bits (enc_lens hok hn) xs.length).2
      rw [List.take_length] at h1
      have h2 := bytesOf_le (n := 40) (bs := encL (lensOf xs) xs) (by omega)
      simp [packL]; omega
  rw [if_neg w2] at hb
  by_cases w3 : way = 3
  · rw [if_pos w3] at hb; injection hb with hb; subst hb
    have := parse_length (xs := xs) xs.length 0
    simp; unfold parseL; omega
  rw [if_neg w3] at hb; cases hb
theorem packI_le (xs : List Int) : ∀ k, (packI xs k).length ≤ 200
  | 0 => by simp [packI]
  | k + 1 => by
    rw [packI]
    cases ha : asL xs (k : Int) with
    | none => exact packI_le xs k
    | some b =>
      simp only
      split
      · exact asL_len ha
      · exact packI_le xs k
end Go.Proofs.Ytamljhjbmeikiaa
/- Contracts: a list as a block, of the reference. No condition. -/
namespace Go.Proofs.Ytamljhjbmeikiaa
open Go Go.RowKit
set_option maxRecDepth 100000 in
set_option maxHeartbeats 1000000 in
theorem l21Runs_any (A : Option Addr) (c : Nat) (xs : List Int) (w : World) (hr : RI w A c xs) (h40 : xs.length ≤ 40) : Calls Try.prog 112 #[.slice A xs.length c] w (PL w ([1, ((runsL xs).length : Int)] ++ flatR (runsL xs))) := by
  have HRL := hid (runs_length xs)
  go_enter Try.func112, Try.ntmps112
  go_wp2_with fail
  refine (l4Runs_any _ _ _ _ hr (by omega)).mono ?_
  rintro _ w1 ⟨A1, c1, rs, HRS, hor, rfl, hb1⟩
  have hrl : rs.length ≤ 40 := by rw [HRS.out]; have := HRL.out; omega
  have hsz := hb1.size
  have ho2 := OI.litI w1 w.heap.size [1, (rs.length : Int)] hsz (by simp)
  have hor2 := OS.alloc hor (.cells #[.int .i64 1, .int .i64 (rs.length : Int)] 3)
  have hbw2 := below_on hb1 (below_new w1 (.cells #[.int .i64 1, .int .i64 (rs.length : Int)] 3))
  have HD : Hid (∀ b, blk (some ⟨w1.heap.size, 0, none⟩ : Option Addr) = some b → blk A1 ≠ some b) := hid fun b h1 h2 => by
    have h3 := (OS.lt hor h2).2
    simp [blk] at h1; omega
  clear hor hb1
  go_wp2_with fail
  go_loopw [4, 5] (fun v t wr => ∃ (k : Nat) (A' : Option Addr) (c' : Nat) (ys : List Int), k ≤ rs.length ∧ t = .int .i64 k ∧ v = .slice A' ys.length c' ∧ Hid (ys = [1, (rs.length : Int)] ++ flatR (rs.take k)) ∧ ys.length ≤ 2 + 2 * k ∧ OI wr w.heap.size A' c' ys ∧ OS eRun wr w.heap.size 77 A1 c1 rs ∧ (∀ b, blk A' = some b → blk A1 ≠ some b) ∧ Below w.heap.size w wr) (fun _ t _ => rs.length - (intOf t).toNat)
  case atStart => exact ⟨0, _, _, [1, (rs.length : Int)], by omega, rfl, rfl, hid rfl, by simp, ho2, hor2, HD.out, hbw2⟩
  case round =>
    clear ho2 hor2 HD hbw2
    obtain ⟨k, A', c', ys, hk, rfl, rfl, hys, hyl, ho, hor, hdis, hbw⟩ := hrel
    obtain ⟨wo, rfl⟩ : ∃ wo : World, wo = wr := ⟨_, rfl⟩
    have HDIS := hid hdis
    have hwz := hbw.size
    clear hdis
    by_cases hlt : k < rs.length
    · obtain ⟨⟨s, m⟩, hrk⟩ : ∃ r, rs[k]? = some r := ⟨_, List.getElem?_eq_getElem hlt⟩
      obtain ⟨ad, rfl, hadb⟩ := RS.addr hor.rs hrk (by decide)
      obtain ⟨r0, r1⟩ := runAt hor.rs hrk
      have HRK := hid hrk
      have hk0 : (0 : Int) ≤ (k : Int) := by omega
      have hk1 : (k : Int) < (rs.length : Int) := by omega
      simp only at r0 r1
      clear hrk
      go_wp2_with fail
      go_region_law (first | (refine stp_app2 intT rfl _ _ rfl ys rfl rfl (ho.alloc (.cells #[.int .i64 s, .int .i64 m] 3)).drew [s, m] rfl rfl (RI.two wo s m).drew (by simp; omega) (by simp; omega) ?_; intro A3 c3 w3 us hu ho3 hg3 hat3; have hat4 := hid hat3; clear hat3))
      all_goals
        have hbw3 := OI.belowOwn (below_on hbw (below_new wo (.cells #[.int .i64 s, .int .i64 m] 3))).drew (ho.alloc (.cells #[.int .i64 s, .int .i64 m] 3)).drew hg3 (Nat.le_refl _)
        have hor3 := (OS.alloc hor (.cells #[.int .i64 s, .int .i64 m] 3)).drew.grown hg3 (fun g hg e => HDIS.out g e hg)
        have HU : Hid (us = [1, (rs.length : Int)] ++ flatR (rs.take (k + 1))) := by unfold Hid; rw [hu.out, hys.out, take_snoc' HRK.out, flatR_snoc, List.append_assoc]
        have hul : us.length ≤ 2 + 2 * (k + 1) := by rw [hu.out]; simp; omega
        have hd3 : ∀ b, blk A3 = some b → blk (some ad) ≠ some b := fun b h1 h2 => by
          have h3 := (OS.lt hor h2).2
          rcases hat4.out with h | h
          · exact HDIS.out b (h ▸ h1) h2
          · rw [h] at h1; injection h1 with h1; simp at h1; omega
        clear ho hor hbw hg3 hu hys
        go_wp2_with fail
        go_roundw
        case rel => exact ⟨k + 1, A3, c3, us, by omega, by go_num, rfl, HU, hul, ho3, hor3, hd3, hbw3⟩
        case measure => simp [intOf]; omega
    · have HK : Hid (ys = [1, ((runsL xs).length : Int)] ++ flatR (runsL xs)) := by unfold Hid; rw [hys.out, List.take_of_length_le (by omega), HRS.out]
      go_wp2_with fail
      go_ret
      exact ⟨_, _, ys, HK, ho, rfl, hbw⟩
set_option maxHeartbeats 2000000 in
theorem l21Tokens_any (A : Option Addr) (c : Nat) (xs : List Int) (w : World) (hr : RI w A c xs) (hok : listOk xs = true) : Calls Try.prog 114 #[.slice A xs.length c] w (PL w ([3, ((parseL xs).length : Int)] ++ (parseL xs).map tokByte)) := by
  have h40 : xs.length ≤ 40 := (listOk_iff.1 hok).1
  have HPL : Hid ((parseL xs).length ≤ 40) := by unfold Hid; have := parse_length (xs := xs) xs.length 0; unfold parseL; omega
  have HRF : Hid (parseB xs = parseL xs) := by unfold Hid parseB; rw [if_pos hok]
  have HOK := hid hok
  clear hok
  go_enter Try.func114, Try.ntmps114
  go_wp2_with fail
  refine (sParseBest_any _ _ _ _ hr).mono ?_
  rintro _ w1 ⟨A1, c1, ts, hts, hor, rfl, hb1⟩
  have HTS : Hid (ts = parseL xs) := hid (hts.out.trans HRF.out)
  have htl : ts.length ≤ 40 := by rw [HTS.out]; exact HPL.out
  have hsz := hb1.size
  have ho2 := OI.litI w1 w.heap.size [3, (ts.length : Int)] hsz (by simp)
  have hor2 := OS.alloc hor (.cells #[.int .i64 3, .int .i64 (ts.length : Int)] 3)
  have hbw2 := below_on hb1 (below_new w1 (.cells #[.int .i64 3, .int .i64 (ts.length : Int)] 3))
  have HD : Hid (∀ b, blk (some ⟨w1.heap.size, 0, none⟩ : Option Addr) = some b → blk A1 ≠ some b) := hid fun b h1 h2 => by
    have h3 := (OS.lt hor h2).2
    simp [blk] at h1; omega
  clear hts hor hb1
  go_wp2_with fail
  go_loopw [4, 5] (fun v t wr => ∃ (k : Nat) (A' : Option Addr) (c' : Nat) (ys : List Int), k ≤ ts.length ∧ t = .int .i64 k ∧ v = .slice A' ys.length c' ∧ Hid (ys = [3, (ts.length : Int)] ++ (ts.take k).map tokByte) ∧ ys.length ≤ 2 + k ∧ OI wr w.heap.size A' c' ys ∧ OS eTok wr w.heap.size 82 A1 c1 ts ∧ (∀ b, blk A' = some b → blk A1 ≠ some b) ∧ Below w.heap.size w wr) (fun _ t _ => ts.length - (intOf t).toNat)
  case atStart => exact ⟨0, _, _, [3, (ts.length : Int)], by omega, rfl, rfl, hid rfl, by simp, ho2, hor2, HD.out, hbw2⟩
  case round =>
    clear ho2 hor2 HD hbw2
    obtain ⟨k, A', c', ys, hk, rfl, rfl, hys, hyl, ho, hor, hdis, hbw⟩ := hrel
    obtain ⟨wo, rfl⟩ : ∃ wo : World, wo = wr := ⟨_, rfl⟩
    have HDIS := hid hdis
    have hwz := hbw.size
    clear hdis
    by_cases hlt : k < ts.length
    · obtain ⟨⟨s, b, m⟩, hrk⟩ : ∃ r, ts[k]? = some r := ⟨_, List.getElem?_eq_getElem hlt⟩
      obtain ⟨ad, rfl, hadb⟩ := RS.addr hor.rs hrk (by decide)
      obtain ⟨r0, r1, r2⟩ := tokCells hor.rs hrk
      have hcase := parse_sym (HTS.out ▸ hrk) HOK.out
      have HRK := hid hrk
      have hB := BX.new wo #[.int .i64 s, .int .i64 b, .int .i64 m] 82
      have q0 := hB.cell 0
      have q1 := hB.cell 1
      have q2 := hB.cell 2
      simp at q0 q1 q2
      simp only at r0 r1 r2 hcase
      clear hrk
      rcases hcase with ⟨rfl, rfl, hs0, hs7⟩ | ⟨hm2, hm9, hb1, hb16⟩
      · have HT : Hid (tokByte (s, 0, 0) = s) := hid (if_pos rfl)
        go_wp2_with (at_builtin; refine wpl_app (ys := [s]) intT rfl _ _ rfl rfl ((ho.alloc _).alloc _) rfl (ri_one1 wo (.cells #[.int .i64 s, .int .i64 0, .int .i64 0] 82) s) (by simp; omega) (by simp; omega) ?_; intro A3 c3 w3 us hu ho3 hg3 hat3; have hat4 := hid hat3; clear hat3)
        have hbw3 := OI.belowOwn (below_on (below_on hbw (below_new _ _)) (below_new _ _)) ((ho.alloc _).alloc _) hg3 (Nat.le_refl _)
        have hor3 := (OS.alloc (OS.alloc hor (.cells #[.int .i64 s, .int .i64 0, .int .i64 0] 82)) (.cells #[.int .i64 s] 3)).grown hg3 (fun g hg e => HDIS.out g e hg)
        have HU : Hid (us = [3, (ts.length : Int)] ++ (ts.take (k + 1)).map tokByte) := by unfold Hid; rw [hu.out, hys.out, take_snoc' HRK.out, List.map_append, List.append_assoc, List.map_singleton, HT.out]
        have hul : us.length ≤ 2 + (k + 1) := by rw [hu.out]; simp; omega
        have hd3 : ∀ b, blk A3 = some b → blk (some ad) ≠ some b := fun b h1 h2 => by
          have h3 := (OS.lt hor h2).2
          rcases hat4.out with h | h
          · exact HDIS.out b (h ▸ h1) h2
          · rw [h] at h1; injection h1 with h1; simp at h1; omega
        clear ho hor hbw hg3 hu hys
        go_roundw
        case rel => exact ⟨k + 1, A3, c3, us, by omega, by go_num, rfl, HU, hul, ho3, hor3, hd3, hbw3⟩
        case measure => simp [intOf]; omega
      · have hqm : (b == 0) = false := by rw [beq_eq_false_iff_ne]; omega
        obtain ⟨v, hv⟩ : ∃ v, v = 128 + 16 * (m - 2) + b - 1 := ⟨_, rfl⟩
        have HT : Hid (tokByte (s, b, m) = v) := by unfold Hid tokByte; rw [if_neg (by simp only; omega), hv]
        have hv2 : 128 + 16 * (m - 2) + b - 1 = v := hv.symm
        clear hv
        go_wp2_with (at_builtin; refine wpl_app (ys := [v]) intT rfl _ _ rfl rfl ((ho.alloc _).alloc _) rfl (ri_one1 wo (.cells #[.int .i64 s, .int .i64 b, .int .i64 m] 82) v) (by simp; omega) (by simp; omega) ?_; intro A3 c3 w3 us hu ho3 hg3 hat3; have hat4 := hid hat3; clear hat3)
        have hbw3 := OI.belowOwn (below_on (below_on hbw (below_new _ _)) (below_new _ _)) ((ho.alloc _).alloc _) hg3 (Nat.le_refl _)
        have hor3 := (OS.alloc (OS.alloc hor (.cells #[.int .i64 s, .int .i64 b, .int .i64 m] 82)) (.cells #[.int .i64 v] 3)).grown hg3 (fun g hg e => HDIS.out g e hg)
        have HU : Hid (us = [3, (ts.length : Int)] ++ (ts.take (k + 1)).map tokByte) := by unfold Hid; rw [hu.out, hys.out, take_snoc' HRK.out, List.map_append, List.append_assoc, List.map_singleton, HT.out]
        have hul : us.length ≤ 2 + (k + 1) := by rw [hu.out]; simp; omega
        have hd3 : ∀ b, blk A3 = some b → blk (some ad) ≠ some b := fun b h1 h2 => by
          have h3 := (OS.lt hor h2).2
          rcases hat4.out with h | h
          · exact HDIS.out b (h ▸ h1) h2
          · rw [h] at h1; injection h1 with h1; simp at h1; omega
        clear ho hor hbw hg3 hu hys hv2
        go_roundw
        case rel => exact ⟨k + 1, A3, c3, us, by omega, by go_num, rfl, HU, hul, ho3, hor3, hd3, hbw3⟩
        case measure => simp [intOf]; omega
    · have HK : Hid (ys = [3, ((parseL xs).length : Int)] ++ (parseL xs).map tokByte) := by unfold Hid; rw [hys.out, List.take_of_length_le (by omega), HTS.out]
      go_wp2_with fail
      go_ret
      exact ⟨_, _, ys, HK, ho, rfl, hbw⟩
set_option maxRecDepth 100000 in
set_option maxHeartbeats 2000000 in
theorem l21Prefix_any (A : Option Addr) (c : Nat) (xs : List Int) (w : World) (hr : RI w A c xs) (hok : listOk xs = true) (hn : ¬ xs.length = 0) : Calls Try.prog 113 #[.slice A xs.length c] w (PL w ([2, (xs.length : Int)] ++ (packL (lensOf xs) ++ bytesOf (encL (lensOf xs) xs)))) := by
  have h40 : xs.length ≤ 40 := (listOk_iff.1 hok).1
  have HOK := hid hok
  have HEN := hid (enc_lens hok hn)
  have HCN := hid (cnt_counts hok)
  have HUS := hid (used_counts hok hn)
  have HR := hid hr
  clear hok hn
  go_enter Try.func113, Try.ntmps113
  go_wp2_with fail
  refine (l3Counts_any _ _ _ _ hr (allSym_of HOK.out) (by omega)).mono ?_
  rintro _ w1 ⟨A1, c1, cs, HCS, ho1, rfl, hb1⟩
  go_wp2_with fail
  refine (sLengthsOf_any _ _ _ _ ho1.ri (by rw [HCS.out]; exact HCN.out) (by rw [HCS.out]; exact HUS.out)).mono ?_
  rintro _ w2 ⟨A2, c2, ls, b2, hls, hbb2, ho2, rfl, hb2⟩
  obtain rfl : b2 = true := hbb2.out
  have HLS : Hid (ls = lensOf xs) := by unfold Hid; rw [hls.out, HCS.out]; rfl
  have hbw2 := below_on hb1 hb2
  have hwz := hbw2.size
  have hl8 : ls.length = 8 := by rw [HLS.out]; exact (lenVal_ok HEN.out.1).1
  have HLB : Hid (∀ x ∈ ls, 0 ≤ x ∧ x ≤ 8) := by unfold Hid; rw [HLS.out]; exact (lenVal_ok HEN.out.1).2
  have hl8a : ls.length ≤ 8 := by omega
  have hl8b : 8 ≤ ls.length := by omega
  have ho5 := OI.litI w2 w.heap.size [2, (xs.length : Int)] hwz (by simp)
  have hk2 := (ho2.mono (show w.heap.size ≤ w1.heap.size from hb1.size)).alloc (.cells #[.int .i64 2, .int .i64 (xs.length : Int)] 3)
  have hbw5 := below_on hbw2 (below_new w2 (.cells #[.int .i64 2, .int .i64 (xs.length : Int)] 3))
  have HD : Hid (∀ b, blk (some ⟨w2.heap.size, 0, none⟩ : Option Addr) = some b → blk A2 ≠ some b) := hid fun b h1 h2 => by
    have h3 := (OI.lt ho2 h2).2
    simp [blk] at h1; omega
  clear hls hbb2 ho1 ho2 hb1 hb2 hbw2 hl8 hr
  go_wp2_with fail
  go_loopw [5, 6] (fun v t wr => ∃ (i j : Nat) (A' : Option Addr) (c' : Nat) (zs : List Int), i = 2 * j ∧ j ≤ 4 ∧ t = .int .i64 i ∧ v = .slice A' zs.length c' ∧ Hid (zs = [2, (xs.length : Int)] ++ (packL ls).take j) ∧ zs.length ≤ 2 + j ∧ OI wr w.heap.size A' c' zs ∧ OI wr w.heap.size A2 c2 ls ∧ (∀ b, blk A' = some b → blk A2 ≠ some b) ∧ Below w.heap.size w wr) (fun _ t _ => 8 - (intOf t).toNat)
  case atStart => exact ⟨0, 0, _, _, [2, (xs.length : Int)], rfl, by omega, rfl, rfl, hid rfl, by simp, ho5, hk2, HD.out, hbw5⟩
  case round =>
    clear ho5 hk2 HD hbw5
    obtain ⟨i, j, A', c', zs, hij, hj, rfl, rfl, hzs, hzl, ho, hk2, hdis, hbw⟩ := hrel
    obtain ⟨wo, rfl⟩ : ∃ wo : World, wo = wr := ⟨_, rfl⟩
    have HDIS := hid hdis
    have hwz := hbw.size
    have HIJ := hid hij
    clear hdis
    by_cases hlt : i < 8
    · have hiI : (i : Int) < 8 := by omega
      obtain ⟨ad, x, rfl, HX, hcx⟩ := hk2.ri.get (k := i) (by omega)
      obtain ⟨ad', y, he, HY, hcy⟩ := hk2.ri.get (k := i + 1) (by omega)
      injection he with he
      subst he
      obtain ⟨hx0, hx8⟩ := HLB.out x (List.mem_of_getElem? HX.out)
      obtain ⟨hy0, hy8⟩ := HLB.out y (List.mem_of_getElem? HY.out)
      have hi0 : (0 : Int) ≤ (i : Int) := by omega
      have hi1 : (i : Int) < (ls.length : Int) := by omega
      have hi2 : (0 : Int) ≤ (i : Int) + 1 := by omega
      have hi3 : (i : Int) + 1 < (ls.length : Int) := by omega
      have hi4 : ((i : Int) + 1).toNat = i + 1 := by omega
      have hw0 : IntKind.i64.wrap ((i : Int) + 1) = (i : Int) + 1 := IntWalk.i64_in _ (by omega)
      have hw1 : IntKind.i64.wrap (16 * x) = 16 * x := IntWalk.i64_in _ (by omega)
      have hw2 : IntKind.i64.wrap (16 * x + y) = 16 * x + y := IntWalk.i64_in _ (by omega)
      have HP : Hid ((packL ls)[j]? = some (16 * x + y)) := by
        unfold Hid
        rw [pack_at ls (by omega), ← HIJ.out, getD_hid HX.out, getD_hid HY.out]
      obtain ⟨v, hv⟩ : ∃ v, v = 16 * x + y := ⟨_, rfl⟩
      have hv2 : 16 * x + y = v := hv.symm
      rw [hv2] at HP
      have hw3 : IntKind.i64.wrap v = v := IntWalk.i64_in _ (by omega)
      have kx : wo.drew.cell? (ad.add i) = some (.int .i64 x) := by simpa using hcx
      have ky : wo.cell? ⟨ad.block, ad.off + (i + 1), none⟩ = some (.int .i64 y) := by rw [show (⟨ad.block, ad.off + (i + 1), none⟩ : Addr) = ad.add (i + 1) by simp [Addr.add]]; exact hcy
      clear hcy
      clear hij hv HX HY
      go_wp2_with fail
      go_region_law (first | (refine stp_app2 intT rfl _ _ rfl zs rfl rfl (ho.alloc (.cells #[.int .i64 v] 3)).drew [v] rfl rfl (RI.one wo v).drew (by simp; omega) (by simp; omega) ?_; intro A3 c3 w3 us hu ho3 hg3 hat3; have hat4 := hid hat3; clear hat3))
      all_goals
        have hbw3 := OI.belowOwn (below_on hbw (below_new wo (.cells #[.int .i64 v] 3))).drew (ho.alloc (.cells #[.int .i64 v] 3)).drew hg3 (Nat.le_refl _)
        have hk23 := (hk2.alloc (.cells #[.int .i64 v] 3)).drew.grown hg3 (fun g hg e => HDIS.out g e hg)
        have HU : Hid (us = [2, (xs.length : Int)] ++ (packL ls).take (j + 1)) := by unfold Hid; rw [hu.out, hzs.out, take_snoc' HP.out, List.append_assoc]
        have hul : us.length ≤ 2 + (j + 1) := by rw [hu.out]; simp; omega
        have hd3 : ∀ b, blk A3 = some b → blk (some ad) ≠ some b := fun b h1 h2 => by
          have h3 := (OI.lt hk2 h2).2
          rcases hat4.out with h | h
          · exact HDIS.out b (h ▸ h1) h2
          · rw [h] at h1; injection h1 with h1; simp at h1; omega
        clear ho hk2 hbw hg3 hu hzs hv2
        go_wp2_with fail
        go_roundw
        case rel => exact ⟨i + 2, j + 1, A3, c3, us, by have := HIJ.out; omega, by have := HIJ.out; omega, by go_num, rfl, HU, hul, ho3, hk23, hd3, hbw3⟩
        case measure => simp [intOf]; omega
    · have hiI : ¬ (i : Int) < 8 := by omega
      have HZ : Hid (zs = [2, (xs.length : Int)] ++ packL ls) := by
        unfold Hid
        rw [hzs.out, show j = 4 by omega]; rfl
      have hzl6 : zs.length = 6 := by rw [HZ.out]; rfl
      clear hzs hij
      go_wp2_with fail
      refine (sPrefixEncode_any _ _ _ _ xs ls _ (HR.out.below hbw) hk2.ri (by rw [HLS.out]; exact HEN.out)).mono ?_
      rintro _ w3 ⟨A3, c3, bs, b3, hbs, hbb3, ho3, rfl, hb3⟩
      obtain rfl : b3 = true := hbb3.out
      have HBS : Hid (bs = encL (lensOf xs) xs) := by unfold Hid; rw [hbs.out, HLS.out]; rfl
      have HBK : Hid (bitOk bs = true ∧ bs.length ≤ 320) := by
        unfold Hid
        have := encOk_bits HEN.out xs.length
        rw [List.take_length] at this
        rwa [HBS.out]
      have hbw3 := below_on hbw hb3
      have ho13 := ho.below hb3
      clear hbs hbb3 ho hk2 hbw hb3
      go_wp2_with fail
      refine (sBitsBytes_any _ _ _ _ ho3.ri HBK.out.1).mono ?_
      rintro _ w4 ⟨A4, c4, ys, b4, hys, hbb4, ho4, rfl, hb4⟩
      obtain rfl : b4 = true := hbb4.out
      have HYS : Hid (ys = bytesOf (encL (lensOf xs) xs)) := by unfold Hid; rw [hys.out, HBS.out]; rfl
      have hyl : ys.length ≤ 40 := by rw [hys.out]; exact bytesOf_le (by have := HBK.out.2; omega)
      have hbw4 := below_on hbw3 hb4
      have ho14 := ho13.below hb4
      have hsz4 := hbw4.size
      clear hys hbb4 ho3 ho13 hbw3 hb4
      go_wp2_with (at_builtin; refine wpl_app2 intT rfl _ _ rfl zs rfl hzl6.symm ho14 ys rfl rfl ho4.ri (by omega) (by omega) ?_; intro A5 c5 w5 us hu ho5 hg5 hat5; clear hat5)
      have hbw5 := OI.belowOwn hbw4 ho14 hg5 (Nat.le_refl _)
      go_ret
      exact ⟨_, _, us, hid (by rw [hu.out, HZ.out, HYS.out, HLS.out, List.append_assoc]; rfl), ho5, rfl, hbw5⟩
end Go.Proofs.Ytamljhjbmeikiaa
/- Contracts: a list as a block in any way, the shortest block, of the reference. No condition. -/
namespace Go.Proofs.Ytamljhjbmeikiaa
open Go Go.RowKit
set_option maxRecDepth 100000 in
set_option maxHeartbeats 1000000 in
theorem l21As_any (A : Option Addr) (c : Nat) (xs b : List Int) (way : Int) (w : World) (hr : RI w A c xs) (h : asL xs way = some b) : Calls Try.prog 93 #[.slice A xs.length c, .int .i64 way] w (PL w b) := by
  obtain ⟨hok, hb⟩ := asL_ok h
  have h40 : xs.length ≤ 40 := (listOk_iff.1 hok).1
  unfold asB at hb
  by_cases w1 : way = 1
  · subst w1
    rw [if_neg (by decide), if_pos rfl] at hb
    obtain rfl := Option.some.inj hb
    clear hb h
    go_enter Try.func93, Try.ntmps93
    go_wp2_with fail
    refine (l21Runs_any _ _ _ _ hr h40).mono ?_
    rintro _ w1 ⟨A1, c1, ys, hys, ho1, rfl, hb1⟩
    go_wp2_with fail
    go_ret
    exact ⟨_, _, ys, hys, ho1, rfl, hb1⟩
  by_cases w2 : way = 2
  · subst w2
    rw [if_neg (by decide), if_neg (by decide), if_pos rfl] at hb
    by_cases hn : xs.length = 0
    · rw [if_pos hn] at hb; cases hb
    rw [if_neg hn] at hb
    obtain rfl := Option.some.inj hb
    clear hb h
    have HN := hid hn
    clear hn
    go_enter Try.func93, Try.ntmps93
    go_wp2_with fail
    refine (l21Prefix_any _ _ _ _ hr hok HN.out).mono ?_
    rintro _ w1 ⟨A1, c1, ys, hys, ho1, rfl, hb1⟩
    go_wp2_with fail
    go_ret
    exact ⟨_, _, ys, hys, ho1, rfl, hb1⟩
  by_cases w3 : way = 3
  · subst w3
    rw [if_neg (by decide), if_neg (by decide), if_neg (by decide), if_pos rfl] at hb
    obtain rfl := Option.some.inj hb
    clear hb h
    go_enter Try.func93, Try.ntmps93
    go_wp2_with fail
    refine (l21Tokens_any _ _ _ _ hr hok).mono ?_
    rintro _ w1 ⟨A1, c1, ys, hys, ho1, rfl, hb1⟩
    go_wp2_with fail
    go_ret
    exact ⟨_, _, ys, hys, ho1, rfl, hb1⟩
  by_cases w0 : way = 0
  rotate_left
  · rw [if_neg w0, if_neg w1, if_neg w2, if_neg w3] at hb; cases hb
  subst w0
  rw [if_pos rfl] at hb
  have HB : Hid (b = [0, (xs.length : Int)] ++ xs) := hid (Option.some.inj hb).symm
  have ho0 := OI.litI w w.heap.size [0, (xs.length : Int)] (Nat.le_refl _) (by simp)
  have hr0 := hr.alloc (.cells #[.int .i64 0, .int .i64 (xs.length : Int)] 3)
  have hb0 := below_new w (.cells #[.int .i64 0, .int .i64 (xs.length : Int)] 3)
  clear hb h w1 w2 w3
  go_enter Try.func93, Try.ntmps93
  go_wp2_with (at_builtin; refine wpl_app2 intT rfl _ _ rfl [0, (xs.length : Int)] rfl rfl ho0 xs rfl rfl hr0 (by simp; omega) (by simp) ?_; intro A5 c5 w5 us hu ho5 hg5 hat5; clear hat5)
  have hbw5 := OI.belowOwn hb0 ho0 hg5 (Nat.le_refl _)
  go_ret
  exact ⟨_, _, us, hid (by rw [hu.out, HB.out]), ho5, rfl, hbw5⟩
set_option maxRecDepth 100000 in
set_option maxHeartbeats 1000000 in
theorem sBlockAs_any (A : Option Addr) (c : Nat) (xs : List Int) (way : Int) (w : World) (hr : RI w A c xs) : Calls Try.prog 63 #[.slice A xs.length c, .int .i64 way] w (PLB w (asL xs way)) := by
  cases ha : asL xs way with
  | some b =>
    obtain ⟨hok, hb⟩ := asL_ok ha
    have HA := hid ha
    have hway : inB 0 3 way = true := by
      rw [inB_true]
      unfold asB at hb
      by_cases w0 : way = 0
      · omega
      by_cases w1 : way = 1
      · omega
      by_cases w2 : way = 2
      · omega
      by_cases w3 : way = 3
      · omega
      rw [if_neg w0, if_neg w1, if_neg w2, if_neg w3] at hb
      cases hb
    have HW := hid hway
    have HOK := hid hok
    have hcase : (way = 2 ∧ ¬ xs.length = 0) ∨ ¬ way = 2 := by
      by_cases w2 : way = 2
      · refine .inl ⟨w2, fun hn => ?_⟩
        rw [w2, asL_codes_no hok hn] at ha; cases ha
      · exact .inr w2
    clear ha hb hok hway
    rcases hcase with ⟨w2, hn⟩ | w2
    · have hq : (way == 2) = true := by simp [w2]
      have hq2 : ((xs.length : Int) == 0) = false := by rw [beq_eq_false_iff_ne]; omega
      clear w2 hn
      go_enter Try.func63, Try.ntmps63
      go_wp2_with fail
      refine (sListValid_any _ _ _ _ hr).mono ?_
      rintro e w' ⟨b1, hb1, rfl, rfl⟩
      obtain rfl : b1 = true := hb1.out.trans HOK.out
      clear hb1
      go_wp2_with fail
      refine (l6In_any _ _ _ _).mono ?_
      rintro e w' ⟨b1, hb1, rfl, rfl⟩
      obtain rfl : b1 = true := hb1.out.trans HW.out
      clear hb1
      go_wp2_with fail
      refine (l21As_any _ _ _ b _ _ hr HA.out).mono ?_
      rintro _ w1 ⟨A1, c1, ys, hys, ho1, rfl, hb1⟩
      go_wp2_with fail
      go_ret2
      exact PLB_some (by rw [hys.out]) ho1 hb1
    · have hq : (way == 2) = false := by simp [w2]
      clear w2
      go_enter Try.func63, Try.ntmps63
      go_wp2_with fail
      refine (sListValid_any _ _ _ _ hr).mono ?_
      rintro e w' ⟨b1, hb1, rfl, rfl⟩
      obtain rfl : b1 = true := hb1.out.trans HOK.out
      clear hb1
      go_wp2_with fail
      refine (l6In_any _ _ _ _).mono ?_
      rintro e w' ⟨b1, hb1, rfl, rfl⟩
      obtain rfl : b1 = true := hb1.out.trans HW.out
      clear hb1
      go_wp2_with fail
      refine (l21As_any _ _ _ b _ _ hr HA.out).mono ?_
      rintro _ w1 ⟨A1, c1, ys, hys, ho1, rfl, hb1⟩
      go_wp2_with fail
      go_ret2
      exact PLB_some (by rw [hys.out]) ho1 hb1
  | none =>
    have HA : Hid ((none : Option (List Int)) = none) := hid rfl
    cases hok : listOk xs
    · have HOK := hid hok
      clear hok ha
      go_enter Try.func63, Try.ntmps63
      go_wp2_with fail
      refine (sListValid_any _ _ _ _ hr).mono ?_
      rintro e w' ⟨b1, hb1, rfl, rfl⟩
      obtain rfl : b1 = false := hb1.out.trans HOK.out
      clear hb1
      go_wp2_with fail
      go_ret2
      exact PLB_none rfl (Below.refl _ _)
    · have HOK := hid hok
      cases hw : inB 0 3 way
      · have HW := hid hw
        clear hok ha hw
        go_enter Try.func63, Try.ntmps63
        go_wp2_with fail
        refine (sListValid_any _ _ _ _ hr).mono ?_
        rintro e w' ⟨b1, hb1, rfl, rfl⟩
        obtain rfl : b1 = true := hb1.out.trans HOK.out
        clear hb1
        go_wp2_with fail
        refine (l6In_any _ _ _ _).mono ?_
        rintro e w' ⟨b1, hb1, rfl, rfl⟩
        obtain rfl : b1 = false := hb1.out.trans HW.out
        clear hb1
        go_wp2_with fail
        go_ret2
        exact PLB_none rfl (Below.refl _ _)
      · have HW := hid hw
        have hww := inB_true.1 hw
        have hcase : way = 2 ∧ xs.length = 0 := by
          unfold asL asB at ha
          rw [if_pos hok] at ha
          by_cases w0 : way = 0
          · rw [if_pos w0] at ha; cases ha
          rw [if_neg w0] at ha
          by_cases w1 : way = 1
          · rw [if_pos w1] at ha; cases ha
          rw [if_neg w1] at ha
          by_cases w2 : way = 2
          · rw [if_pos w2] at ha
            by_cases hn : xs.length = 0
            · exact ⟨w2, hn⟩
            · rw [if_neg hn] at ha; cases ha
          rw [if_neg w2, if_pos (by omega)] at ha; cases ha
        obtain ⟨w2, hn⟩ := hcase
        have hq : (way == 2) = true := by simp [w2]
        have hq2 : ((xs.length : Int) == 0) = true := by rw [beq_iff_eq]; omega
        clear w2 hn hok ha hw hww
        go_enter Try.func63, Try.ntmps63
        go_wp2_with fail
        refine (sListValid_any _ _ _ _ hr).mono ?_
        rintro e w' ⟨b1, hb1, rfl, rfl⟩
        obtain rfl : b1 = true := hb1.out.trans HOK.out
        clear hb1
        go_wp2_with fail
        refine (l6In_any _ _ _ _).mono ?_
        rintro e w' ⟨b1, hb1, rfl, rfl⟩
        obtain rfl : b1 = true := hb1.out.trans HW.out
        clear hb1
        go_wp2_with fail
        go_ret2
        exact PLB_none rfl (Below.refl _ _)
/-- The best of the first ways, as the reference keeps it. -/
def packS (xs : List Int) : Nat → List Int
  | 0 => (asL xs 0).getD []
  | k + 1 => match asL xs ((k + 1 : Nat) : Int) with
    | none => packS xs k
    | some b => if b.length < (packS xs k).length then b else packS xs k
theorem packS_end (xs : List Int) : packS xs 3 = packF xs := by
  unfold packF
  cases hok : listOk xs
  · have h : ∀ k, packS xs k = [] := by
      intro k
      induction k with
      | zero => simp [packS, asL_bad hok]
      | succ k ih => rw [packS, asL_bad hok, ih]
    rw [h]; rfl
  · rw [if_pos rfl]
    have hp : ∀ k, packS xs (k + 1) = pickB (packS xs k) (asB xs ((k + 1 : Nat) : Int)) := fun k => by
      rw [packS, asL_asB hok]
      cases asB xs ((k + 1 : Nat) : Int) <;> rfl
    have h0 : packS xs 0 = [0, (xs.length : Int)] ++ xs := by rw [packS, asL_zero hok]; rfl
    rw [hp, hp, hp, h0]; rfl
theorem packS_some {xs b : List Int} {k : Nat} (h : asL xs ((k + 1 : Nat) : Int) = some b) : packS xs (k + 1) = if b.length < (packS xs k).length then b else packS xs k := by rw [packS, h]
theorem packS_none {xs : List Int} {k : Nat} (h : asL xs ((k + 1 : Nat) : Int) = none) : packS xs (k + 1) = packS xs k := by rw [packS, h]
set_option maxHeartbeats 1000000 in
theorem sBlockPack_any (A : Option Addr) (c : Nat) (xs : List Int) (w : World) (hr : RI w A c xs) : Calls Try.prog 64 #[.slice A xs.length c] w (PL w (packF xs)) := by
  go_enter Try.func64, Try.ntmps64
  go_wp2_with fail
  refine (sBlockAs_any _ _ _ _ _ hr).mono ?_
  rintro _ w1 ⟨A0, c0, y0, b0, hy0, hb0, ho0, rfl, hbw0⟩
  have HY : Hid (y0 = packS xs 0) := hy0
  clear hy0 hb0
  go_wp2_with fail
  go_loopw [3, 5] (fun v t wr => ∃ (k : Nat) (A' : Option Addr) (c' : Nat) (ys : List Int), k ≤ 3 ∧ t = .int .i64 ((k : Int) + 1) ∧ v = .slice A' ys.length c' ∧ Hid (ys = packS xs k) ∧ OI wr w.heap.size A' c' ys ∧ Below w.heap.size w wr) (fun _ t _ => 5 - (intOf t).toNat)
  case atStart => exact ⟨0, A0, c0, y0, by omega, rfl, rfl, HY, ho0, hbw0⟩
  case round =>
    clear ho0 hbw0 HY
    obtain ⟨k, A', c', ys, hk, rfl, rfl, hys, ho, hbw⟩ := hrel
    obtain ⟨wo, rfl⟩ : ∃ wo : World, wo = wr := ⟨_, rfl⟩
    by_cases hlt : k < 3
    · have hkI : (k : Int) + 1 ≤ 3 := by omega
      have ek : ((k + 1 : Nat) : Int) = (k : Int) + 1 := by omega
      go_wp2_with fail
      refine (sBlockAs_any _ _ xs ((k : Int) + 1) _ (hr.below hbw)).mono ?_
      rintro _ w1 ⟨A1, c1, b, bb, hb, hbb, ho1, rfl, hb1⟩
      have hbw1 := below_on hbw hb1
      have ho2 := ho.below hb1
      have ho3 := ho1.mono (show w.heap.size ≤ wo.heap.size from hbw.size)
      rw [← ek] at hb hbb
      clear ek
      cases ha : asL xs ((k + 1 : Nat) : Int) with
      | none =>
        obtain rfl : bb = false := by rw [hbb.out, ha]; rfl
        have HN : Hid (ys = packS xs (k + 1)) := by unfold Hid; rw [packS_none ha]; exact hys.out
        clear ha ho1 ho3 ho hbw hb1 hb hbb
        go_wp2_with fail
        go_roundw
        case rel => exact ⟨k + 1, A', c', ys, by omega, by go_num, rfl, HN, ho2, hbw1⟩
        case measure => simp [intOf]; omega
      | some b' =>
        obtain rfl : bb = true := by rw [hbb.out, ha]; rfl
        obtain rfl : b = b' := by rw [hb.out, ha]; rfl
        have HS := hid (packS_some ha)
        clear hb hbb ho1 ho hbw hb1
        by_cases hc2 : b.length < ys.length
        · have hcI : (b.length : Int) < (ys.length : Int) := by omega
          have HN : Hid (b = packS xs (k + 1)) := by unfold Hid; rw [HS.out, if_pos (by rw [← hys.out]; exact hc2)]
          clear ha
          go_wp2_with fail
          go_roundw
          case rel => exact ⟨k + 1, A1, c1, b, by omega, by go_num, rfl, HN, ho3, hbw1⟩
          case measure => simp [intOf]; omega
        · have hcI : ¬ (b.length : Int) < (ys.length : Int) := by omega
          have HN : Hid (ys = packS xs (k + 1)) := by
            unfold Hid
            rw [HS.out, if_neg (by rw [← hys.out]; omega)]; exact hys.out
          clear ha
          go_wp2_with fail
          go_roundw
          case rel => exact ⟨k + 1, A', c', ys, by omega, by go_num, rfl, HN, ho2, hbw1⟩
          case measure => simp [intOf]; omega
    · have hkI : ¬ (k : Int) + 1 ≤ 3 := by omega
      have HF : Hid (ys = packF xs) := by unfold Hid; rw [hys.out, show k = 3 by omega, packS_end]
      go_wp2_with fail
      go_ret
      exact ⟨_, _, ys, HF, ho, rfl, hbw⟩
end Go.Proofs.Ytamljhjbmeikiaa
/- Blocks are short. No condition. -/
namespace Go.Proofs.Ytamljhjbmeikiaa
open Go Go.RowKit
theorem as_lenD (xs : List Int) (way : Int) : ((asL xs way).getD []).length ≤ 100000000 := by
  cases h : asL xs way with
  | none => simp
  | some b => have := asL_len h; simp only [Option.getD_some]; omega
theorem pack_lenD (xs : List Int) : (packF xs).length ≤ 100000000 := by
  rw [← packI_end]
  have := packI_le xs 4
  omega
end Go.Proofs.Ytamljhjbmeikiaa
