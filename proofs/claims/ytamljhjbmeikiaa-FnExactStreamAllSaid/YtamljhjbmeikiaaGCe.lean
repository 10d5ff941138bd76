/- Joined texts: contracts and plain facts that the laws share. No condition. -/
import Derived.Test.YtamljhjbmeikiaaGCd
import Derived.Test.YtamljhjbmeikiaaGPb
import Derived.Test.YtamljhjbmeikiaaGPa
import Derived.Test.YtamljhjbmeikiaaGMa
/- Contracts: codes are written. No condition. -/
namespace Go.Proofs.Ytamljhjbmeikiaa
open Go Go.RowKit
theorem listOk_sym {xs : List Int} (h : listOk xs = true) {k : Nat} {x : Int} (hx : xs[k]? = some x) : 0 ≤ x ∧ x ≤ 7 := listOk_at h hx
/-- What the encoding of a list asks: each symbol has a code. -/
def encOk (ls xs : List Int) : Prop := lenVal ls = true ∧ listOk xs = true ∧ ∀ x ∈ xs, 0 < len8 ls x.toNat
theorem encOk_bits {ls xs : List Int} (h : encOk ls xs) (k : Nat) : bitOk (encL ls (xs.take k)) = true ∧ (encL ls (xs.take k)).length ≤ 320 := by
  have h40 : xs.length ≤ 40 := (listOk_iff.1 h.2.1).1
  have hl := encL_len (lenVal_bd h.1).1 (xs.take k)
  have ht : (xs.take k).length ≤ 40 := by rw [List.length_take]; omega
  exact ⟨bitOk_iff.2 ⟨by omega, encL_bit⟩, by omega⟩
set_option maxHeartbeats 1000000 in
theorem PrefixEncode_any (A B : Option Addr) (ca cb : Nat) (xs ls : List Int) (w : World) (hr : RI w A ca xs) (hs : RI w B cb ls) (hok : encOk ls xs) :
    Calls Try.prog 75 #[.slice A xs.length ca, .slice B ls.length cb] w (PLB w (some (encL ls xs))) := by
  have HOK := hid hok
  have h8 : ls.length = 8 := (lenVal_ok hok.1).1
  have hl1 : ls.length ≤ 8 := by omega
  have hl2 : 8 ≤ ls.length := by omega
  have h40 : xs.length ≤ 40 := (listOk_iff.1 hok.2.1).1
  have HC : Hid (codesV ls = codesL ls) := by unfold Hid codesV; rw [if_pos hok.1]
  clear hok h8
  go_enter Try.func75, Try.ntmps75
  go_wp2_with fail
  refine (CodesOf_any _ _ _ _ hs).mono ?_
  rintro _ w1 ⟨A1, c1, cs, hcs, ho1, rfl, hb1⟩
  have HCS : Hid (cs = codesL ls) := hid (hcs.out.trans HC.out)
  have hc8 : cs.length = 8 := by rw [HCS.out]; simp [codesL]
  have hc1 : cs.length ≤ 8 := by omega
  have hc2 : 8 ≤ cs.length := by omega
  have hq : ((cs.length : Int) == 0) = false := by rw [beq_eq_false_iff_ne]; omega
  have hr1 := hr.below hb1
  clear hcs hc8
  go_wp2_with fail
  refine (ListValid_any _ _ _ _ hr1).mono ?_
  rintro e w' ⟨b3, hb3, rfl, rfl⟩
  obtain rfl : b3 = true := hb3.out.trans HOK.out.2.1
  clear hb3
  go_wp2_with fail
  have hoe := OI.empty w1 w.heap.size hb1.size
  have hbe := below_on hb1 (below_new w1 (.cells #[] 3))
  have hk1 := ho1.alloc (.cells #[] 3)
  go_loopw [7, 26] (fun v t wr => ∃ (k : Nat) (A' : Option Addr) (c' : Nat) (ys : List Int), k ≤ xs.length ∧ t = .int .i64 k ∧ v = .slice A' ys.length c' ∧ Hid (ys = encL ls (xs.take k)) ∧ OI wr w.heap.size A' c' ys ∧ OI wr w.heap.size A1 c1 cs ∧ Below w.heap.size w wr) (fun _ t _ => xs.length - (intOf t).toNat)
  case atStart => exact ⟨0, _, _, [], by omega, rfl, rfl, hid rfl, hoe, hk1, hbe⟩
  case round =>
    clear hoe hbe hk1 ho1
    obtain ⟨k, A', c', ys, hk, rfl, rfl, hys, ho, hkc, hbw⟩ := hrel
    obtain ⟨wo, rfl⟩ : ∃ wo : World, wo = wr := ⟨_, rfl⟩
    by_cases hlt : k < xs.length
    · obtain ⟨ad, x, rfl, HX, hc⟩ := (hr.below hbw).get hlt
      obtain ⟨hx0, hx7⟩ := listOk_sym HOK.out.2.1 HX.out
      obtain ⟨s, rfl⟩ := Int.eq_ofNat_of_zero_le hx0
      have hs8 : s < 8 := by omega
      have HL0 : Hid (0 < len8 ls s) := by
        unfold Hid
        have := HOK.out.2.2 _ (List.mem_of_getElem? HX.out)
        simpa using this
      obtain ⟨adc, y, rfl, HY, hcy⟩ := hkc.ri.get (k := s) (by omega)
      obtain ⟨adl, l, rfl, HL, hcl⟩ := (hs.below hbw).get (k := s) (by omega)
      obtain ⟨n, hn⟩ : ∃ n, n = codeAt ls (len8 ls s) s := ⟨_, rfl⟩
      obtain ⟨m, hm⟩ : ∃ m, m = len8 ls s := ⟨_, rfl⟩
      obtain rfl : y = (n : Int) := by
        have h1 := codesL_at (ls := ls) hs8
        rw [if_pos HL0.out, ← HCS.out, getD_hid HY.out, ← hn] at h1
        exact h1
      obtain rfl : l = (m : Int) := by
        have := len8_at HL.out ((lenVal_ok HOK.out.1).2 l (List.mem_of_getElem? HL.out)).1
        omega
      have hm8 : m ≤ 8 := by rw [hm]; exact (lenVal_bd HOK.out.1).1 s
      have hlt2 : n < 2 ^ m := by rw [hn, hm]; exact code_lt HOK.out.1 hs8 HL0.out
      have HB : Hid (bitOk ys = true ∧ ys.length ≤ 320) := by unfold Hid; rw [hys.out]; exact encOk_bits HOK.out k
      have HN : Hid (encL ls (xs.take (k + 1)) = ys ++ bitsF n m) := by
        unfold Hid
        rw [take_snoc' HX.out, encL_snoc, ← hys.out, hn, hm]
        rfl
      have HLT := hid hlt2
      have h0s : (0 : Int) ≤ (s : Int) := by omega
      have h1s : (s : Int) < (cs.length : Int) := by omega
      have h2s : (s : Int) < (ls.length : Int) := by omega
      have hn0 : ¬ (n : Int) < 0 := by omega
      have hod := ho.drew
      clear hn hm hlt2 HX HY HL hx0 hx7
      go_wp2_with fail
      go_region_law (first | (go_simp; go_at_call 99; refine (BitsPut_any _ _ _ n m _ hod.ri HB.out.1 (by omega) HLT.out (by have := HB.out.2; omega)).mono ?_; rintro _ w2 ⟨A2, c2, zs, bb, hzs, hbb, ho2, rfl, hb2⟩))
      all_goals
        obtain rfl : bb = true := hbb.out
        have HZ : Hid (zs = encL ls (xs.take (k + 1))) := by unfold Hid; rw [HN.out]; exact hzs.out
        have ho3 := ho2.mono (show w.heap.size ≤ wo.drew.heap.size from hbw.size)
        have hk3 := (hkc.drew).below hb2
        have hbw3 := below_on (hbw.drew) hb2
        clear hzs hbb ho2 ho hkc hbw hb2 hod hys HN
        go_wp2_with fail
        go_roundw
        case rel => exact ⟨k + 1, A2, c2, zs, by omega, by go_num, rfl, HZ, ho3, hk3, hbw3⟩
        case measure => simp [intOf]; omega
    · have HK : Hid (ys = encL ls xs) := by unfold Hid; rw [hys.out, List.take_of_length_le (by omega)]
      go_wp2_with fail
      go_ret2
      exact PLB_some (by rw [HK.out]) ho hbw
set_option maxRecDepth 100000 in
set_option maxHeartbeats 1000000 in
theorem sPrefixEncode_any (A B : Option Addr) (ca cb : Nat) (xs ls : List Int) (w : World) (hr : RI w A ca xs) (hs : RI w B cb ls) (hok : encOk ls xs) :
    Calls Try.prog 125 #[.slice A xs.length ca, .slice B ls.length cb] w (PLB w (some (encL ls xs))) := by
  have HOK := hid hok
  have h8 : ls.length = 8 := (lenVal_ok hok.1).1
  have hl1 : ls.length ≤ 8 := by omega
  have hl2 : 8 ≤ ls.length := by omega
  have h40 : xs.length ≤ 40 := (listOk_iff.1 hok.2.1).1
  clear hok h8
  go_enter Try.func125, Try.ntmps125
  go_wp2_with fail
  refine (sListValid_any _ _ _ _ (hr.alloc _)).mono ?_
  rintro e w' ⟨b3, hb3, rfl, rfl⟩
  obtain rfl : b3 = true := hb3.out.trans HOK.out.2.1
  clear hb3
  go_wp2_with fail
  refine (sLengthsValid_any _ _ _ _ (hs.alloc _)).mono ?_
  rintro e w' ⟨b3, hb3, rfl, rfl⟩
  obtain rfl : b3 = true := hb3.out.trans HOK.out.1
  clear hb3
  have hbe0 := below_new w (.cells #[] 3)
  have hoe0 := OI.empty w w.heap.size (Nat.le_refl _)
  go_wp2_with fail
  refine (sCodesOf_any _ _ _ _ (hs.alloc _) HOK.out.1).mono ?_
  rintro _ w1 ⟨A1, c1, cs, HCS, ho1, rfl, hb1⟩
  have hc8 : cs.length = 8 := by rw [HCS.out]; simp [codesL]
  have hc1 : cs.length ≤ 8 := by omega
  have hc2 : 8 ≤ cs.length := by omega
  have hoe := hoe0.below hb1
  have hbe := below_on hbe0 hb1
  have hk1 := ho1.mono (show w.heap.size ≤ (w.alloc (.cells #[] 3)).heap.size from hbe0.size)
  have HD1 : Hid (∀ b, blk A1 = some b → w.heap.size + 1 ≤ b) := hid fun b hb => by have := (OI.lt ho1 hb).1; simp at this; omega
  clear hc8 hoe0 hbe0 ho1 hb1
  go_wp2_with fail
  go_loopw [6, 8] (fun v t wr => ∃ (k : Nat) (A' : Option Addr) (c' : Nat) (ys : List Int), k ≤ xs.length ∧ t = .int .i64 k ∧ v = .slice A' ys.length c' ∧ Hid (ys = encL ls (xs.take k)) ∧ OI wr w.heap.size A' c' ys ∧ OI wr w.heap.size A1 c1 cs ∧ (∀ b, blk A' = some b → blk A1 ≠ some b) ∧ Below w.heap.size w wr) (fun _ t _ => xs.length - (intOf t).toNat)
  case atStart => exact ⟨0, _, _, [], by omega, rfl, rfl, hid rfl, hoe, hk1, fun b hb hb' => by have := HD1.out b hb'; simp [blk] at hb; omega, hbe⟩
  case round =>
    clear hoe hbe hk1
    obtain ⟨k, A', c', ys, hk, rfl, rfl, hys, ho, hkc, hdis, hbw⟩ := hrel
    obtain ⟨wo, rfl⟩ : ∃ wo : World, wo = wr := ⟨_, rfl⟩
    have hwz := hbw.size
    have HDIS := hid hdis
    clear hdis
    by_cases hlt : k < xs.length
    · obtain ⟨ad, x, rfl, HX, hc⟩ := (hr.below hbw).get hlt
      obtain ⟨hx0, hx7⟩ := listOk_sym HOK.out.2.1 HX.out
      obtain ⟨s, rfl⟩ := Int.eq_ofNat_of_zero_le hx0
      have hs8 : s < 8 := by omega
      have HL0 : Hid (0 < len8 ls s) := by
        unfold Hid
        have := HOK.out.2.2 _ (List.mem_of_getElem? HX.out)
        simpa using this
      obtain ⟨adc, y, rfl, HY, hcy⟩ := hkc.ri.get (k := s) (by omega)
      obtain ⟨adl, l, rfl, HL, hcl⟩ := (hs.below hbw).get (k := s) (by omega)
      obtain ⟨n, hn⟩ : ∃ n, n = codeAt ls (len8 ls s) s := ⟨_, rfl⟩
      obtain ⟨m, hm⟩ : ∃ m, m = len8 ls s := ⟨_, rfl⟩
      obtain rfl : y = (n : Int) := by
        have h1 := codesL_at (ls := ls) hs8
        rw [if_pos HL0.out, ← HCS.out, getD_hid HY.out, ← hn] at h1
        exact h1
      obtain rfl : l = (m : Int) := by
        have := len8_at HL.out ((lenVal_ok HOK.out.1).2 l (List.mem_of_getElem? HL.out)).1
        omega
      have hm8 : m ≤ 8 := by rw [hm]; exact (lenVal_bd HOK.out.1).1 s
      have hlt2 : n < 2 ^ m := by rw [hn, hm]; exact code_lt HOK.out.1 hs8 HL0.out
      have hn9 : n ≤ 1000000 := by
        have : 2 ^ m ≤ 2 ^ 8 := Nat.pow_le_pow_right (by omega) hm8
        omega
      have HB : Hid (ys.length ≤ 320) := by unfold Hid; rw [hys.out]; exact (encOk_bits HOK.out k).2
      have HN : Hid (encL ls (xs.take (k + 1)) = ys ++ bitsF n m) := by
        unfold Hid
        rw [take_snoc' HX.out, encL_snoc, ← hys.out, hn, hm]
        rfl
      have h0s : (0 : Int) ≤ (s : Int) := by omega
      have h1s : (s : Int) < (cs.length : Int) := by omega
      have h2s : (s : Int) < (ls.length : Int) := by omega
      have hn0 : ¬ (n : Int) < 0 := by omega
      have h0k : (0 : Int) ≤ (k : Int) := by omega
      have h1k : (k : Int) < (xs.length : Int) := by omega
      clear hn hm hlt2 HX HY HL hx0 hx7
      go_wp2_with fail
      go_region_law (first | (refine stp_app2 intT rfl _ _ rfl ys rfl rfl (ho.drew.below hb2) zs rfl rfl ho2.ri (by have := HB.out; have := congrArg List.length hzs.out; rw [bitsF_length] at this; omega) (by have := hb2.size; simp at this; omega) ?_; intro A3 c3 w3 us hu ho3 hg3 hat3; have hat4 := hid hat3; clear hat3) | (go_simp; go_at_call 103; refine (l1Put_any n m _ hn9 (by omega)).mono ?_; rintro _ w2 ⟨A2, c2, zs, hzs, ho2, rfl, hb2⟩))
      all_goals
        have HZ : Hid (us = encL ls (xs.take (k + 1))) := by unfold Hid; rw [HN.out, hu.out, hzs.out]
        have hkc2 := hkc.drew.below hb2
        have hk3 := hkc2.grown hg3 (fun g hg e => HDIS.out g e hg)
        have hbw3 := OI.belowOwn (below_on (hbw.drew) hb2) (ho.drew.below hb2) hg3 (Nat.le_refl _)
        have hd3 : ∀ b, blk A3 = some b → blk (some adc) ≠ some b := fun b h1 h2 => by
          have h3 := (OI.lt hkc2 h2).2
          rcases hat4.out with h | h
          · exact HDIS.out b (h ▸ h1) h2
          · rw [h] at h1; injection h1 with h1; omega
        clear hzs ho2 ho hkc hkc2 hbw hb2 hys HN hu hg3
        go_wp2_with fail
        go_roundw
        case rel => exact ⟨k + 1, A3, c3, us, by omega, by go_num, rfl, HZ, ho3, hk3, hd3, hbw3⟩
        case measure => simp [intOf]; omega
    · have HK : Hid (ys = encL ls xs) := by unfold Hid; rw [hys.out, List.take_of_length_le (by omega)]
      have HB : ys.length ≤ 320 := by rw [hys.out]; exact (encOk_bits HOK.out k).2
      clear hys
      go_wp2_with fail
      go_ret2
      exact PLB_some (by rw [HK.out]) ho hbw
end Go.Proofs.Ytamljhjbmeikiaa
/- Contracts: codes are read. No condition. -/
namespace Go.Proofs.Ytamljhjbmeikiaa
open Go Go.RowKit
theorem decR_none {bits ls : List Int} {k : Nat} (h : decR bits ls k = none) : ∀ m, decR bits ls (k + m) = none
  | 0 => h
  | m + 1 => by rw [← Nat.add_assoc, decR, decR_none h m]; rfl
theorem decR_stop {bits ls : List Int} {k n a : Nat} {o : List Int} (h : decR bits ls k = some (o, a)) (hs : symF bits a ls (codesL ls) < 0) (hn : k < n) : decR bits ls n = none := by
  obtain ⟨m, rfl⟩ : ∃ m, n = k + 1 + m := ⟨n - (k + 1), by omega⟩
  refine decR_none ?_ m
  rw [decR, h]
  simp only [decStep]
  rw [if_pos hs]
theorem decR_go {bits ls : List Int} {k a s : Nat} {o : List Int} (h : decR bits ls k = some (o, a)) (hs : symF bits a ls (codesL ls) = s) : decR bits ls (k + 1) = some (o ++ [(s : Int)], a + len8 ls s) := by
  rw [decR, h]
  simp only [decStep]
  rw [if_neg (by omega), hs]
  rfl
theorem symF_cases (bits : List Int) (a : Nat) (ls cs : List Int) : symF bits a ls cs = -1 ∨ ∃ s : Nat, s < 8 ∧ symF bits a ls cs = s := by
  rcases symF_or bits a ls cs with h | ⟨s, h1, h2, _⟩
  · exact .inl h
  · exact .inr ⟨s, h1, h2⟩
/-- What a decoder answers. -/
def PDec (w : World) (f : Option (List Int × Nat)) (e : Ending) (w' : World) : Prop :=
  ∃ A c ys a b, Hid (b = f.isSome) ∧ Hid (b = true → f = some (ys, a)) ∧ Hid (b = false → ys = []) ∧ OI w' w.heap.size A c ys ∧ e = .returned (.tuple #[.slice A ys.length c, .int .i64 (a : Nat), .bool b]) ∧ Below w.heap.size w w'
theorem PDec_none {w w1 : World} {f : Option (List Int × Nat)} (hf : f = none) (hb : Below w.heap.size w w1) : PDec w f (.returned (.tuple #[.slice (some ⟨w1.heap.size, 0, none⟩) 0 0, .int .i64 0, .bool false])) (w1.alloc (.cells #[] 3)) :=
  ⟨_, _, [], 0, false, by simp [Hid, hf], hid (fun h => absurd h (by decide)), hid (fun _ => rfl), OI.empty w1 _ hb.size, rfl, below_on hb (below_new _ _)⟩
theorem PDec_some {w w1 : World} {f : Option (List Int × Nat)} {A : Option Addr} {c a : Nat} {ys : List Int} (hf : f = some (ys, a)) (ho : OI w1 w.heap.size A c ys) (hb : Below w.heap.size w w1) :
    PDec w f (.returned (.tuple #[.slice A ys.length c, .int .i64 (a : Nat), .bool true])) w1 :=
  ⟨A, c, ys, a, true, by simp [Hid, hf], hid (fun _ => hf), hid (fun h => absurd h (by decide)), ho, rfl, hb⟩
set_option maxHeartbeats 1000000 in
theorem PrefixDecode_any (A B : Option Addr) (ca cb : Nat) (bits ls : List Int) (n : Int) (w : World) (hr : RI w A ca bits) (hs : RI w B cb ls) :
    Calls Try.prog 67 #[.slice A bits.length ca, .slice B ls.length cb, .int .i64 n] w (PDec w (decL bits ls n)) := by
  go_enter Try.func67, Try.ntmps67
  go_wp2_with fail
  refine (CodesOf_any _ _ _ _ hs).mono ?_
  rintro _ w1 ⟨A1, c1, cs, hcs, ho1, rfl, hb1⟩
  have hr1 := hr.below hb1
  go_wp2_with fail
  refine (bitsOk_any _ _ _ _ hr1).mono ?_
  rintro e w' ⟨b1, hB1, rfl, rfl⟩
  cases b1
  · have HF : Hid (decL bits ls n = none) := by unfold Hid decL; rw [if_neg (by rw [← hB1.out]; simp)]
    go_wp2_with fail
    go_ret3
    exact PDec_none HF.out hb1
  have hbk := hB1.out.symm
  have hl6 := (bitOk_iff.1 hbk).1
  have HBK := hid hbk
  clear hbk hB1
  by_cases hv : lenVal ls = true
  rotate_left
  · obtain rfl : cs = [] := by rw [hcs.out]; unfold codesV; rw [if_neg hv]
    have HF : Hid (decL bits ls n = none) := by unfold Hid decL; rw [if_neg (by simp [hv])]
    have hq : ((([] : List Int).length : Int) == 0) = true := by simp
    clear hv
    go_wp2_with fail
    go_ret3
    exact PDec_none HF.out hb1
  have HCS : Hid (cs = codesL ls) := by unfold Hid; rw [hcs.out]; unfold codesV; rw [if_pos hv]
  obtain ⟨h8, hall⟩ := lenVal_ok hv
  have hc8 : cs.length = 8 := by rw [HCS.out]; simp [codesL]
  have HC8 := hid hc8
  have H8 := hid h8
  have hc1 : cs.length ≤ 8 := by omega
  have hc2 : 8 ≤ cs.length := by omega
  have hl1 : ls.length ≤ 8 := by omega
  have hl2 : 8 ≤ ls.length := by omega
  have hq : ((cs.length : Int) == 0) = false := by rw [beq_eq_false_iff_ne]; omega
  have HV := hid hv
  have HALL := hid hall
  clear hv h8 hall hc8 hcs
  go_wp2_with fail
  refine (within_or _ _ _ _).mono ?_
  rintro e w' (⟨HI, hn0, hn40, rfl, rfl⟩ | ⟨HI, rfl, rfl⟩)
  rotate_left
  · have HF : Hid (decL bits ls n = none) := by unfold Hid decL; rw [if_neg (by rw [HI.out]; simp)]
    go_wp2_with fail
    go_ret3
    exact PDec_none HF.out hb1
  obtain ⟨N, rfl⟩ := Int.eq_ofNat_of_zero_le hn0
  have HF : Hid (decL bits ls (N : Int) = decR bits ls N) := by unfold Hid decL; rw [if_pos ⟨HBK.out, HV.out, HI.out⟩]; rfl
  have hN : N ≤ 40 := by omega
  clear hn0 hn40
  go_wp2_with fail
  have hoe := OI.empty w1 w.heap.size hb1.size
  have hbe := below_on hb1 (below_new w1 (.cells #[] 3))
  have hk1 := ho1.alloc (.cells #[] 3)
  go_loopw [10, 11, 31] (fun v u t wr => ∃ (k a : Nat) (A' : Option Addr) (c' : Nat) (ys : List Int), k ≤ N ∧ a ≤ bits.length ∧ t = .int .i64 k ∧ u = .int .i64 a ∧ v = .slice A' ys.length c' ∧ Hid (decR bits ls k = some (ys, a)) ∧ ys.length ≤ k ∧ OI wr w.heap.size A' c' ys ∧ OI wr w.heap.size A1 c1 cs ∧ (∀ b, blk A' = some b → blk A1 ≠ some b) ∧ Below w.heap.size w wr) (fun _ _ t _ => N - (intOf t).toNat)
  case atStart => exact ⟨0, 0, _, _, [], by omega, by omega, rfl, rfl, rfl, hid rfl, by simp, hoe, hk1, fun b hb hb' => by have := (OI.lt ho1 hb').2; simp [blk] at hb; omega, hbe⟩
  case round =>
    clear hoe hbe hk1 ho1
    obtain ⟨k, a, A', c', ys, hk, ha, rfl, rfl, rfl, hD, hyl, ho, hkc, hdis, hbw⟩ := hrel
    obtain ⟨wo, rfl⟩ : ∃ wo : World, wo = wr := ⟨_, rfl⟩
    have hwz := hbw.size
    have HDIS := hid hdis
    clear hdis
    by_cases hlt : k < N
    · have hkN : (k : Int) < (N : Int) := by omega
      go_wp2_with fail
      refine (symbolAt_any _ _ _ _ _ _ bits ls cs a _ (hr.below hbw) (hs.below hbw) hkc.ri HBK.out ha HC8.out H8.out HALL.out).mono ?_
      rintro e w' ⟨m, hm, rfl, rfl⟩
      have HM : Hid (m = symF bits a ls (codesL ls)) := by unfold Hid; rw [hm.out, HCS.out]
      clear hm
      rcases symF_cases bits a ls (codesL ls) with h1 | ⟨s, hs8, h1⟩
      · obtain rfl : m = -1 := HM.out.trans h1
        have HN : Hid (decL bits ls (N : Int) = none) := by unfold Hid; rw [HF.out]; exact decR_stop hD.out (by omega) hlt
        clear h1
        go_wp2_with fail
        go_ret3
        exact PDec_none HN.out hbw
      · obtain rfl : m = (s : Int) := HM.out.trans h1
        have HN := hid (decR_go hD.out h1)
        have hin := (symF_len h1).2
        obtain ⟨l, hl⟩ : ∃ l, l = len8 ls s := ⟨_, rfl⟩
        rw [← hl] at HN hin
        obtain ⟨adl, y, rfl, HY, hcy⟩ := (hs.below hbw).get (k := s) (by omega)
        obtain rfl : y = (l : Int) := by
          have := len8_at HY.out (HALL.out y (List.mem_of_getElem? HY.out)).1
          omega
        have h0s : (0 : Int) ≤ (s : Int) := by omega
        have h1s : (s : Int) < (ls.length : Int) := by omega
        have hs0 : ¬ (s : Int) < 0 := by omega
        have HYY := HY
        clear h1 hl HY
        go_upto_region 12 with (at_builtin; refine wpl_app (ys := [(s : Int)]) intT rfl _ _ rfl rfl (ho.alloc _) rfl (RI.one wo (s : Int)) (by simp; omega) (by simp; omega) ?_; intro A3 c3 w3 us hu ho3 hg3 hat3; have hat4 := hid hat3; clear hat3)
        have hbw3 := OI.belowOwn (below_on hbw (below_new _ _)) (ho.alloc _) hg3 (Nat.le_refl _)
        have hk3 := (hkc.alloc (.cells #[.int .i64 (s : Int)] 3)).grown hg3 (fun g hg e => HDIS.out g e hg)
        have hcl3 := (hs.below hbw3).cellAt HYY.out
        have hd3 : ∀ b, blk A3 = some b → blk A1 ≠ some b := fun b h1 h2 => by
          have h3 := (OI.lt hkc h2).2
          rcases hat4.out with h | h
          · exact HDIS.out b (h ▸ h1) h2
          · rw [h] at h1; injection h1 with h1; simp at h1; omega
        have hul : us.length ≤ k + 1 := by rw [hu.out]; simp; omega
        have HU : Hid (decR bits ls (k + 1) = some (us, a + l)) := by unfold Hid; rw [HN.out, hu.out]
        clear ho hkc hbw hg3 HN hu hD hyl
        go_wp2_with fail
        go_roundw
        case rel => exact ⟨k + 1, a + l, A3, c3, us, by omega, by omega, by go_num, by go_num, rfl, HU, hul, ho3, hk3, hd3, hbw3⟩
        case measure => simp [intOf]; omega
    · have hkN : ¬ (k : Int) < (N : Int) := by omega
      have HD : Hid (decL bits ls (N : Int) = some (ys, a)) := by unfold Hid; rw [HF.out, show N = k by omega]; exact hD.out
      go_wp2_with fail
      go_ret3
      exact PDec_some HD.out ho hbw
set_option maxRecDepth 100000 in
set_option maxHeartbeats 2000000 in
theorem l12Symbol_any (A B C : Option Addr) (ca cb cc : Nat) (bits ls cs : List Int) (a : Nat) (w : World) (hr : RI w A ca bits) (hl : RI w B cb ls) (hc : RI w C cc cs) (hok : bitOk bits = true) (ha : a ≤ bits.length) (h8 : cs.length = 8) (hl8 : ls.length = 8) (hb : ∀ x ∈ ls, 0 ≤ x ∧ x ≤ 8) :
    Calls Try.prog 110 #[.slice A bits.length ca, .int .i64 a, .slice B ls.length cb, .slice C cs.length cc] w (PNb w (symF bits a ls cs)) := by
  have HOK := hid hok
  have hl6 := (bitOk_iff.1 hok).1
  have HB := hid hb
  have HBIT := hid (bitOk_iff.1 hok).2
  have hcap := hr.cap
  have hc1 : cs.length ≤ 8 := by omega
  have hc2 : 8 ≤ cs.length := by omega
  have hl1 : 8 ≤ ls.length := by omega
  clear hok hb h8 hl8
  go_enter Try.func110, Try.ntmps110
  go_wp2_with fail
  go_loopw [9] (fun i wr => ∃ k : Nat, k ≤ 8 ∧ i = .int .i64 k ∧ Hid (symN bits a ls cs k) ∧ Below w.heap.size w wr) (fun i _ => 8 - (intOf i).toNat)
  case atStart => exact ⟨0, by omega, rfl, hid (fun j hj => by omega), Below.refl _ _⟩
  case round =>
    obtain ⟨k, hk, rfl, hn, hbw⟩ := hrel
    obtain ⟨wo, rfl⟩ : ∃ wo : World, wo = wr := ⟨_, rfl⟩
    by_cases hlt : k < 8
    · obtain ⟨adc, x, rfl, HX, hcx⟩ := (hc.below hbw).get (k := k) (by omega)
      obtain ⟨adl, l, rfl, HL, hcl⟩ := (hl.below hbw).get (k := k) (by omega)
      obtain ⟨hl0, hl9⟩ := HB.out l (List.mem_of_getElem? HL.out)
      have hL := len8_at HL.out hl0
      obtain ⟨m, hm⟩ : ∃ m, m = len8 ls k := ⟨_, rfl⟩
      rw [← hm] at hL
      subst hL
      have HM := hid hm
      have hkc : (k : Int) < (cs.length : Int) := by omega
      have hkl : (k : Int) < (ls.length : Int) := by omega
      have hP : Hid (symP bits a ls cs k = (decide (0 ≤ x) && (decide (a + m ≤ bits.length) && decide (numF ((bits.drop a).take m) = x)))) := by
        unfold Hid symP
        rw [List.getD_eq_getElem?_getD, HX.out, ← HM.out]; rfl
      have kcx : ∀ s : Ext wo, s.val.cell? (adc.add k) = some (.int .i64 x) := fun s => RI.cellAt ((hc.below hbw).below s.bel) HX.out
      have kcl : ∀ s : Ext wo, s.val.cell? (adl.add k) = some (.int .i64 (m : Int)) := fun s => RI.cellAt ((hl.below hbw).below s.bel) HL.out
      clear hm HL
      by_cases hx : 0 ≤ x
      · have hd1 : decide (x ≥ 0) = true := by simp [hx]
        by_cases hle : a + m ≤ bits.length
        · have hd2 : decide ((a : Int) + (m : Int) ≤ (bits.length : Int)) = true := by simp; omega
          have hi0 : (0 : Int) ≤ (a : Int) := by omega
          have hi1 : (a : Int) ≤ (a : Int) + (m : Int) := by omega
          have hi2 : (a : Int) + (m : Int) ≤ (ca : Int) := by omega
          have hi3 : (0 : Int) ≤ (a : Int) + (m : Int) := by omega
          obtain ⟨v, hv⟩ : ∃ v, v = numF ((bits.drop a).take m) := ⟨_, rfl⟩
          have hget : ∀ s : Ext wo, Calls Try.prog 121 #[.slice (if ca = a then A else Option.map (fun x => x.add a) A) m (ca - a)] s.val (PN s.val v) := fun s => by
            have hri := RI.cutAt (RI.takeAt ((hr.below hbw).below s.bel) (k := a + m) hle) (k := a) (by rw [List.length_take]; omega)
            have hlz : ((bits.take (a + m)).drop a).length = m := by rw [List.length_drop, List.length_take]; omega
            have he : (bits.take (a + m)).drop a = (bits.drop a).take m := by rw [List.drop_take, Nat.add_sub_cancel_left]
            have h1 := l1Get_any _ _ _ s.val hri (by omega) (fun y hy => HBIT.out y (List.mem_of_mem_take (List.mem_of_mem_drop hy)))
            rw [hlz, he, ← hv] at h1
            exact h1
          by_cases hvx : v = x
          · have hd3 : (v == x) = true := by simp [hvx]
            have HP : Hid (symP bits a ls cs k = true) := by unfold Hid; rw [hP.out, ← hv]; simp [hx, hle, hvx]
            clear hvx hv
            go_wp2_with fail
            refine wp_region_ext (by kernel_rfl) (by kernel_rfl) ?_; (repeat (go_big_quiet_step (first | (go_at_call 121; exact ext_PN (hget _))))); refine wpQuiet_nil ?_; intro _ hw_; obtain ⟨sx, hw2_⟩ := hw_; subst hw2_
            generalize (if ca = a then A else _) = D1
            go_wp2_with fail
            go_ret
            exact ⟨k, hid (symF_yes hlt hn.out HP.out).symm, rfl, below_on hbw sx.bel⟩
          · have hd3 : (v == x) = false := by simp [hvx]
            have HP : Hid (symP bits a ls cs k = false) := by unfold Hid; rw [hP.out, ← hv]; simp [hx, hle, hvx]
            have HN := hid (symN_snoc hn.out HP.out)
            clear hvx hv
            go_wp2_with fail
            refine wp_region_ext (by kernel_rfl) (by kernel_rfl) ?_; (repeat (go_big_quiet_step (first | (go_at_call 121; exact ext_PN (hget _))))); refine wpQuiet_nil ?_; intro _ hw_; obtain ⟨sx, hw2_⟩ := hw_; subst hw2_
            generalize (if ca = a then A else _) = D1
            go_wp2_with fail
            go_roundw
            case rel => exact ⟨k + 1, by omega, by go_num, HN, below_on hbw sx.bel⟩
            case measure => simp [intOf]; omega
        · have hd2 : decide ((a : Int) + (m : Int) ≤ (bits.length : Int)) = false := by simp; omega
          have HP : Hid (symP bits a ls cs k = false) := by unfold Hid; rw [hP.out]; simp [hle]
          have HN := hid (symN_snoc hn.out HP.out)
          go_wp2_with fail
          refine wp_region_ext (by kernel_rfl) (by kernel_rfl) ?_; (repeat (go_big_quiet_step (fail))); refine wpQuiet_nil ?_; intro _ hw_; obtain ⟨sx, hw2_⟩ := hw_; subst hw2_
          go_wp2_with fail
          go_roundw
          case rel => exact ⟨k + 1, by omega, by go_num, HN, below_on hbw sx.bel⟩
          case measure => simp [intOf]; omega
      · have HP : Hid (symP bits a ls cs k = false) := by unfold Hid; rw [hP.out]; simp; omega
        have HN := hid (symN_snoc hn.out HP.out)
        have hd1 : decide (x ≥ 0) = false := by simp; omega
        go_wp2_with fail
        refine wp_region_ext (by kernel_rfl) (by kernel_rfl) ?_; (repeat (go_big_quiet_step (fail))); refine wpQuiet_nil ?_; intro _ hw_; obtain ⟨sx, hw2_⟩ := hw_; subst hw2_
        go_wp2_with fail
        go_roundw
        case rel => exact ⟨k + 1, by omega, by go_num, HN, below_on hbw sx.bel⟩
        case measure => simp [intOf]; omega
    · have HK : Hid (k = 8) := by unfold Hid; omega
      have hkc : ¬ (k : Int) < (cs.length : Int) := by omega
      go_wp2_with fail
      go_ret
      exact ⟨-1, hid (symF_no (by rw [← HK.out]; exact hn.out)).symm, rfl, hbw⟩
set_option maxHeartbeats 1000000 in
theorem sPrefixDecode_any (A B : Option Addr) (ca cb : Nat) (bits ls : List Int) (n : Int) (w : World) (hr : RI w A ca bits) (hs : RI w B cb ls) :
    Calls Try.prog 104 #[.slice A bits.length ca, .slice B ls.length cb, .int .i64 n] w (PDec w (decL bits ls n)) := by
  have hbe0 := below_new w (.cells #[] 3)
  have hoe0 := OI.empty w w.heap.size (Nat.le_refl _)
  have hne : ∀ f : Option (List Int × Nat), f = none → PDec w f (.returned (.tuple #[.slice (some ⟨w.heap.size, 0, none⟩) 0 0, .int .i64 0, .bool false])) (w.alloc (.cells #[] 3)) := fun f hf => PDec_none hf (Below.refl _ _)
  go_enter Try.func104, Try.ntmps104
  go_wp2_with fail
  refine (l1Bits_any _ _ _ _ (hr.alloc _)).mono ?_
  rintro e w' ⟨b1, hB1, rfl, rfl⟩
  cases b1
  · have HF : Hid (decL bits ls n = none) := by unfold Hid decL; rw [if_neg (by rw [← hB1.out]; simp)]
    go_wp2_with fail
    go_ret3
    exact hne _ HF.out
  have hbk := hB1.out.symm
  have hl6 := (bitOk_iff.1 hbk).1
  have HBK := hid hbk
  clear hbk hB1
  go_wp2_with fail
  refine (sLengthsValid_any _ _ _ _ (hs.alloc _)).mono ?_
  rintro e w' ⟨b1, hB1, rfl, rfl⟩
  cases b1
  · have HF : Hid (decL bits ls n = none) := by unfold Hid decL; rw [if_neg (by rw [← hB1.out]; simp)]
    go_wp2_with fail
    go_ret3
    exact hne _ HF.out
  have hv := hB1.out.symm
  obtain ⟨h8, hall⟩ := lenVal_ok hv
  have H8 := hid h8
  have hl1 : ls.length ≤ 8 := by omega
  have hl2 : 8 ≤ ls.length := by omega
  have HV := hid hv
  have HALL := hid hall
  clear hv h8 hall hB1
  go_wp2_with fail
  refine (l6In_or _ _ _ _).mono ?_
  rintro e w' (⟨HI, hn0, hn40, rfl, rfl⟩ | ⟨HI, rfl, rfl⟩)
  rotate_left
  · have HF : Hid (decL bits ls n = none) := by unfold Hid decL; rw [if_neg (by rw [HI.out]; simp)]
    go_wp2_with fail
    go_ret3
    exact hne _ HF.out
  obtain ⟨N, rfl⟩ := Int.eq_ofNat_of_zero_le hn0
  have HF : Hid (decL bits ls (N : Int) = decR bits ls N) := by unfold Hid decL; rw [if_pos ⟨HBK.out, HV.out, HI.out⟩]; rfl
  have hN : N ≤ 40 := by omega
  clear hn0 hn40
  go_wp2_with fail
  refine (sCodesOf_any _ _ _ _ (hs.alloc _) HV.out).mono ?_
  rintro _ w1 ⟨A1, c1, cs, HCS, ho1, rfl, hb1⟩
  have hc8 : cs.length = 8 := by rw [HCS.out]; simp [codesL]
  have HC8 := hid hc8
  have hc1 : cs.length ≤ 8 := by omega
  have hc2 : 8 ≤ cs.length := by omega
  have hoe := hoe0.below hb1
  have hbe := below_on hbe0 hb1
  have hk1 := ho1.mono (show w.heap.size ≤ (w.alloc (.cells #[] 3)).heap.size from hbe0.size)
  have HD1 : Hid (∀ b, blk A1 = some b → w.heap.size + 1 ≤ b) := hid fun b hb => by have := (OI.lt ho1 hb).1; simp at this; omega
  clear hc8 hoe0 hbe0 ho1 hb1 hne
  go_wp2_with fail
  go_loopw [9, 11, 12] (fun v u t wr => ∃ (k a : Nat) (A' : Option Addr) (c' : Nat) (ys : List Int), k ≤ N ∧ a ≤ bits.length ∧ t = .int .i64 k ∧ u = .int .i64 a ∧ v = .slice A' ys.length c' ∧ Hid (decR bits ls k = some (ys, a)) ∧ ys.length ≤ k ∧ OI wr w.heap.size A' c' ys ∧ OI wr w.heap.size A1 c1 cs ∧ (∀ b, blk A' = some b → blk A1 ≠ some b) ∧ Below w.heap.size w wr) (fun _ _ t _ => N - (intOf t).toNat)
  case atStart => exact ⟨0, 0, _, _, [], by omega, by omega, rfl, rfl, rfl, hid rfl, by simp, hoe, hk1, fun b hb hb' => by have := HD1.out b hb'; simp [blk] at hb; omega, hbe⟩
  case round =>
    clear hoe hbe hk1
    obtain ⟨k, a, A', c', ys, hk, ha, rfl, rfl, rfl, hD, hyl, ho, hkc, hdis, hbw⟩ := hrel
    obtain ⟨wp, rfl⟩ : ∃ wo : World, wo = wr := ⟨_, rfl⟩
    have HDIS := hid hdis
    clear hdis
    by_cases hlt : k < N
    · have hkN : (k : Int) < (N : Int) := by omega
      go_wp2_with fail
      refine (l12Symbol_any _ _ _ _ _ _ bits ls cs a _ (hr.below hbw) (hs.below hbw) hkc.ri HBK.out ha HC8.out H8.out HALL.out).mono ?_
      rintro e wo ⟨m, hm, rfl, hbo⟩
      have HM : Hid (m = symF bits a ls (codesL ls)) := by unfold Hid; rw [hm.out, HCS.out]
      have ho := ho.below hbo
      have hkc := hkc.below hbo
      have hbw := below_on hbw hbo
      have hwz := hbw.size
      clear hm hbo
      rcases symF_cases bits a ls (codesL ls) with h1 | ⟨s, hs8, h1⟩
      · obtain rfl : m = -1 := HM.out.trans h1
        have HN : Hid (decL bits ls (N : Int) = none) := by unfold Hid; rw [HF.out]; exact decR_stop hD.out (by omega) hlt
        clear h1
        go_wp2_with fail
        go_ret3
        exact PDec_none HN.out hbw
      · obtain rfl : m = (s : Int) := HM.out.trans h1
        have HN := hid (decR_go hD.out h1)
        have hin := (symF_len h1).2
        obtain ⟨l, hl⟩ : ∃ l, l = len8 ls s := ⟨_, rfl⟩
        rw [← hl] at HN hin
        obtain ⟨adl, y, rfl, HY, hcy⟩ := (hs.below hbw).get (k := s) (by omega)
        obtain rfl : y = (l : Int) := by
          have := len8_at HY.out (HALL.out y (List.mem_of_getElem? HY.out)).1
          omega
        have h0s : (0 : Int) ≤ (s : Int) := by omega
        have h1s : (s : Int) < (ls.length : Int) := by omega
        have hs0 : ¬ (s : Int) < 0 := by omega
        have HYY := HY
        clear h1 hl HY
        go_upto_region 13 with (at_builtin; refine wpl_app (ys := [(s : Int)]) intT rfl _ _ rfl rfl (ho.alloc _) rfl (RI.one wo (s : Int)) (by simp; omega) (by simp; omega) ?_; intro A3 c3 w3 us hu ho3 hg3 hat3; have hat4 := hid hat3; clear hat3)
        have hbw3 := OI.belowOwn (below_on hbw (below_new _ _)) (ho.alloc _) hg3 (Nat.le_refl _)
        have hk3 := (hkc.alloc (.cells #[.int .i64 (s : Int)] 3)).grown hg3 (fun g hg e => HDIS.out g e hg)
        have hcl3 := (hs.below hbw3).cellAt HYY.out
        have hd3 : ∀ b, blk A3 = some b → blk A1 ≠ some b := fun b h1 h2 => by
          have h3 := (OI.lt hkc h2).2
          rcases hat4.out with h | h
          · exact HDIS.out b (h ▸ h1) h2
          · rw [h] at h1; injection h1 with h1; simp at h1; omega
        have hul : us.length ≤ k + 1 := by rw [hu.out]; simp; omega
        have HU : Hid (decR bits ls (k + 1) = some (us, a + l)) := by unfold Hid; rw [HN.out, hu.out]
        clear ho hkc hbw hg3 HN hu hD hyl
        go_wp2_with fail
        go_roundw
        case rel => exact ⟨k + 1, a + l, A3, c3, us, by omega, by omega, by go_num, by go_num, rfl, HU, hul, ho3, hk3, hd3, hbw3⟩
        case measure => simp [intOf]; omega
    · have hkN : ¬ (k : Int) < (N : Int) := by omega
      have HD : Hid (decL bits ls (N : Int) = some (ys, a)) := by unfold Hid; rw [HF.out, show N = k by omega]; exact hD.out
      go_wp2_with fail
      go_ret3
      exact PDec_some HD.out ho hbw
end Go.Proofs.Ytamljhjbmeikiaa
/- Contracts: runs are joined. No condition. -/
namespace Go.Proofs.Ytamljhjbmeikiaa
open Go Go.RowKit
theorem runAt {w : World} {c : Nat} {ad : Addr} {rs : List (Int × Int)} (h : RS eRun w (some ad) c rs) {k : Nat} {r : Int × Int} (hm : rs[k]? = some r) :
    w.cell? (ad.add (k * 2)) = some (.int .i64 r.1) ∧ w.cell? ⟨(ad.add (k * 2)).block, (ad.add (k * 2)).off + 1, none⟩ = some (.int .i64 r.2) := by
  obtain ⟨ad', e, _, hc⟩ := RS.at_ h hm (by decide)
  injection e with e
  subst e
  have c0 := hc 0 (by decide)
  have c1 := hc 1 (by decide)
  have e1 : ad.add (k * eRun.sz + 1) = ⟨(ad.add (k * 2)).block, (ad.add (k * 2)).off + 1, none⟩ := add_field ad (k * 2) (by decide)
  rw [e1] at c1
  exact ⟨c0, c1⟩
theorem RS.addr {α : Type} {F : Enc α} {w : World} {c : Nat} {A : Option Addr} {xs : List α} (h : RS F w A c xs) {k : Nat} {x : α} (hx : xs[k]? = some x) (hp : 0 < F.sz) : ∃ ad, A = Option.some ad ∧ ad.block < w.heap.size := by
  obtain ⟨ad, e, h, _⟩ := RS.at_ h hx hp
  exact ⟨ad, e, h⟩
/-- What the joining of the first k runs has made. -/
def joinI (rs : List (Int × Int)) (k : Nat) (o : List Int) : Prop := joinL (rs.take k) = some o ∧ (o.getLast? = (rs.take k).getLast?.map Prod.fst)
theorem joinI_zero (rs : List (Int × Int)) : joinI rs 0 [] := ⟨rfl, rfl⟩
theorem joinI_len {rs : List (Int × Int)} {k : Nat} {o : List Int} (h : joinI rs k o) : o.length ≤ 40 := join_len h.1
theorem joinI_no {rs : List (Int × Int)} {k : Nat} {o : List Int} {r : Int × Int} (h : joinI rs k o) (hr : rs[k]? = some r) (hn : joinOk o r = false) : joinL rs = none := by
  refine joinL_take (k := k + 1) ?_
  rw [take_snoc' hr, joinL_snoc, h.1]
  simp only [joinStep, hn]
  rfl
theorem joinI_yes {rs : List (Int × Int)} {k : Nat} {o : List Int} {r : Int × Int} (h : joinI rs k o) (hr : rs[k]? = some r) (hn : joinOk o r = true) : joinI rs (k + 1) (o ++ List.replicate r.2.toNat r.1) := by
  have h0 : 0 < r.2.toNat := by
    unfold joinOk at hn
    simp only [Bool.and_eq_true, inB_true] at hn
    omega
  refine ⟨?_, ?_⟩
  · rw [take_snoc' hr, joinL_snoc, h.1]
    simp only [joinStep, hn, if_true]
  · rw [last_rep h0, take_snoc' hr]; simp
theorem joinI_end {rs : List (Int × Int)} {k : Nat} {o : List Int} (h : joinI rs k o) (hk : rs.length ≤ k) : joinL rs = some o := by
  have := h.1
  rwa [List.take_of_length_le hk] at this
theorem joinI_first {rs : List (Int × Int)} {o : List Int} (h : joinI rs 0 o) (r : Int × Int) : joinOk o r = (inB 0 7 r.1 && inB 1 (40 - (o.length : Int)) r.2) := by
  have e : o = [] := by have := h.1; simp [joinL] at this; exact this
  subst e
  unfold joinOk
  simp
theorem joinI_next {rs : List (Int × Int)} {j : Nat} {o : List Int} {q : Int × Int} (h : joinI rs (j + 1) o) (hq : rs[j]? = some q) (r : Int × Int) : joinOk o r = (inB 0 7 r.1 && (inB 1 (40 - (o.length : Int)) r.2 && !(q.1 == r.1))) := by
  have e := h.2
  rw [take_snoc' hq] at e
  simp at e
  unfold joinOk
  rw [e]
  congr 2
  by_cases h : q.1 = r.1 <;> simp [h]
set_option maxHeartbeats 2000000 in
theorem RunsJoin_any (A : Option Addr) (c : Nat) (rs : List (Int × Int)) (w : World) (hr : RS eRun w A c rs) : Calls Try.prog 66 #[.slice A rs.length c] w (PLB w (joinL rs)) := by
  have hbig := hr.big
  have hcap := hr.cap
  unfold maxLen at hbig
  go_enter Try.func66, Try.ntmps66
  go_wp2_with fail
  have hoe := OI.empty w w.heap.size (Nat.le_refl _)
  have hbe := below_new w (.cells #[] 3)
  go_loopw [4, 10] (fun v t wr => ∃ (k : Nat) (A' : Option Addr) (c' : Nat) (o : List Int), k ≤ rs.length ∧ t = .int .i64 k ∧ v = .slice A' o.length c' ∧ Hid (joinI rs k o) ∧ o.length ≤ 40 ∧ OI wr w.heap.size A' c' o ∧ Below w.heap.size w wr) (fun _ t _ => rs.length - (intOf t).toNat)
  case atStart => exact ⟨0, _, _, [], by omega, rfl, rfl, hid (joinI_zero rs), by simp, hoe, hbe⟩
  case round =>
    clear hoe hbe
    obtain ⟨k, A', c', o, hk, rfl, rfl, hI, hol, ho, hbw⟩ := hrel
    obtain ⟨wo, rfl⟩ : ∃ wo : World, wo = wr := ⟨_, rfl⟩
    have hwz := hbw.size
    by_cases hlt : k < rs.length
    · obtain ⟨⟨s, m⟩, hrk⟩ : ∃ r, rs[k]? = some r := ⟨_, List.getElem?_eq_getElem hlt⟩
      obtain ⟨ad, rfl, hadb⟩ := RS.addr hr hrk (by decide)
      obtain ⟨r0, r1⟩ := runAt (hr.below hbw) hrk
      have HRK := hid hrk
      have HBN : Hid (∀ b, blk A' = some b → b ≠ wo.heap.size) := hid fun b hb e => by have := (OI.lt ho hb).2; omega
      have hB := BX.new wo #[.int .i64 s, .int .i64 m] 77
      have hoa := ho.alloc (.cells #[.int .i64 s, .int .i64 m] 77)
      have hbwa := below_on hbw (below_new wo (.cells #[.int .i64 s, .int .i64 m] 77))
      have kb0 : ∀ sx : Ext (wo.alloc (.cells #[.int .i64 s, .int .i64 m] 77)), sx.val.cell? ⟨wo.heap.size, 0, none⟩ = some (.int .i64 s) := fun sx => by simpa using (hB.below sx.bel).cell 0
      have kb1 : ∀ sx : Ext (wo.alloc (.cells #[.int .i64 s, .int .i64 m] 77)), sx.val.cell? ⟨wo.heap.size, 1, none⟩ = some (.int .i64 m) := fun sx => by simpa using (hB.below sx.bel).cell 1
      have hw1 : ∀ sx : Ext (wo.alloc (.cells #[.int .i64 s, .int .i64 m] 77)), Calls Try.prog 89 #[.int .i64 s, .int .i64 0, .int .i64 7] sx.val (PB sx.val (inB 0 7 s)) := fun sx => within_any _ _ _ _
      have hw2 : ∀ sx : Ext (wo.alloc (.cells #[.int .i64 s, .int .i64 m] 77)), Calls Try.prog 89 #[.int .i64 m, .int .i64 1, .int .i64 (40 - (o.length : Int))] sx.val (PB sx.val (inB 1 (40 - (o.length : Int)) m)) := fun sx => within_any _ _ _ _
      clear hrk
      cases hb1 : inB 0 7 s
      · rw [hb1] at hw1
        have HF : Hid (joinL rs = none) := hid (joinI_no hI.out HRK.out (by unfold joinOk; rw [hb1]; rfl))
        clear hb1 hw2
        go_wp2_with fail
        refine wp_region_ext (by kernel_rfl) (by kernel_rfl) ?_; (repeat (go_big_quiet_step (first | (go_at_call 89; with_reducible exact ext_PB (hw1 _))))); refine wpQuiet_nil ?_; intro _ hw_; obtain ⟨sx, hw2_⟩ := hw_; subst hw2_
        have hbx := below_on hbwa sx.bel
        go_wp2_with fail
        go_ret2
        exact PLB_none HF.out hbx
      · rw [hb1] at hw1
        cases hb2 : inB 1 (40 - (o.length : Int)) m
        · rw [hb2] at hw2
          have HF : Hid (joinL rs = none) := hid (joinI_no hI.out HRK.out (by unfold joinOk; rw [hb1, hb2]; rfl))
          clear hb1 hb2
          go_wp2_with fail
          refine wp_region_ext (by kernel_rfl) (by kernel_rfl) ?_; (repeat (go_big_quiet_step (first | (go_at_call 89; with_reducible exact ext_PB (hw2 _)) | (go_at_call 89; with_reducible exact ext_PB (hw1 _))))); refine wpQuiet_nil ?_; intro _ hw_; obtain ⟨sx, hw2_⟩ := hw_; subst hw2_
          have hbx := below_on hbwa sx.bel
          go_wp2_with fail
          go_ret2
          exact PLB_none HF.out hbx
        · rw [hb2] at hw2
          have hm := inB_true.1 hb2
          obtain ⟨M, rfl⟩ : ∃ M : Nat, m = (M : Int) := ⟨m.toNat, by omega⟩
          have hM1 : 1 ≤ M := by omega
          have hM2 : M + o.length ≤ 40 := by omega
          have hcase : Hid (k = 0) ∨ ∃ j q, Hid (k = j + 1 ∧ rs[j]? = some q) := by
            cases k with
            | zero => exact .inl rfl
            | succ j => exact .inr ⟨j, rs[j]'(by omega), rfl, List.getElem?_eq_getElem (by omega)⟩
          rcases hcase with h0 | ⟨j, q, hjq⟩
          · have hg : decide (0 < k) = false := by simp [h0.out]
            have HJ : Hid (joinOk o (s, (M : Int)) = true) := by
              unfold Hid
              have := hI.out
              rw [h0.out] at this
              rw [joinI_first this, hb1, hb2]; rfl
            have HN := hid (joinI_yes hI.out HRK.out HJ.out)
            clear hb1 hb2 hm h0 HJ
            go_wp2_with fail
            refine wp_region_ext (by kernel_rfl) (by kernel_rfl) ?_; (repeat (go_big_quiet_step (first | (go_at_call 89; with_reducible exact ext_PB (hw2 _)) | (go_at_call 89; with_reducible exact ext_PB (hw1 _))))); refine wpQuiet_nil ?_; intro _ hw_; obtain ⟨sx, hw2_⟩ := hw_; subst hw2_
            have hbx := below_on hbwa sx.bel
            have hox := hoa.below sx.bel
            have hBx := hB.below sx.bel
            have hxz := sx.bel.size
            have q0 := hBx.cell 0
            have q1 := hBx.cell 1
            simp at q0 q1 hxz
            generalize sx.val = w5 at *
            go_wp2_with fail
            go_loopw [4, 46] (fun v t wr => ∃ (j : Nat) (A2 : Option Addr) (c2 : Nat) (ys : List Int), j ≤ M ∧ t = .int .i64 j ∧ v = .slice A2 ys.length c2 ∧ Hid (ys = o ++ List.replicate j s) ∧ ys.length ≤ o.length + j ∧ OI wr w.heap.size A2 c2 ys ∧ BX wr wo.heap.size #[.int .i64 s, .int .i64 (M : Int)] 77 ∧ (∀ b, blk A2 = some b → b ≠ wo.heap.size) ∧ Below w.heap.size w wr) (fun _ t _ => M - (intOf t).toNat)
            case atStart => exact ⟨0, A', c', o, by omega, rfl, rfl, hid (by simp), by omega, hox, hBx, HBN.out, hbx⟩
            case round =>
              clear hox hBx hbx q0 q1 hxz
              obtain ⟨j, A2, c2, ys, hj, rfl, rfl, hys, hyl, ho2, hB2, hbn2, hbw2⟩ := hrel
              obtain ⟨w6, rfl⟩ : ∃ w6 : World, w6 = wr := ⟨_, rfl⟩
              have HBN2 := hid hbn2
              have hwz2 := hbw2.size
              clear hbn2
              by_cases hjM : j < M
              · have hjI : (j : Int) < (M : Int) := by omega
                have b0 := hB2.cell 0
                simp at b0
                go_wp2_with (at_builtin; refine wpl_app (ys := [s]) intT rfl _ _ rfl rfl (ho2.alloc _) rfl (RI.one w6 s) (by simp; omega) (by simp; omega) ?_; intro A3 c3 w3 us hu ho3 hg3 hat3; have hat4 := hid hat3; clear hat3)
                have hbw3 := OI.belowOwn (below_on hbw2 (below_new _ _)) (ho2.alloc _) hg3 (Nat.le_refl _)
                have hB3 := (hB2.alloc (.cells #[.int .i64 s] 3)).keepRow hg3 (fun e => HBN2.out _ e rfl)
                have hbn3 : ∀ b, blk A3 = some b → b ≠ wo.heap.size := fun b h1 e => by
                  rcases hat4.out with h | h
                  · exact HBN2.out b (h ▸ h1) e
                  · have := hB2.lt; rw [h] at h1; injection h1 with h1; simp at h1; omega
                have HU : Hid (us = o ++ List.replicate (j + 1) s) := by unfold Hid; rw [hu.out, hys.out, List.replicate_succ', List.append_assoc]
                have hul : us.length ≤ o.length + (j + 1) := by rw [hu.out]; simp; omega
                clear ho2 hB2 hbw2 hg3 hu hys hyl
                go_roundw
                case rel => exact ⟨j + 1, A3, c3, us, by omega, by go_num, rfl, HU, hul, ho3, hB3, hbn3, hbw3⟩
                case measure => simp [intOf]; omega
              · have hjI : ¬ (j : Int) < (M : Int) := by omega
                have HYN : Hid (joinI rs (k + 1) ys) := by
                  unfold Hid
                  have h1 := HN.out
                  have e : ys = o ++ List.replicate M s := by rw [hys.out, show j = M by omega]
                  rw [e]
                  exact h1
                have hyl40 : ys.length ≤ 40 := joinI_len HYN.out
                go_wp2_with fail
                go_roundw
                case rel => exact ⟨k + 1, A2, c2, ys, by omega, by go_num, rfl, HYN, hyl40, ho2, hbw2⟩
                case measure => simp [intOf]; omega
          · obtain ⟨hkj, hqj⟩ := hjq.out
            obtain ⟨d0, _⟩ := runAt (hr.below hbw) hqj
            have kq : ∀ sx : Ext (wo.alloc (.cells #[.int .i64 s, .int .i64 (M : Int)] 77)), sx.val.cell? (ad.add (j * 2)) = some (.int .i64 q.1) := fun sx => (runAt (hr.below (below_on hbwa sx.bel)) hqj).1
            have HQ := hid hqj
            have hg : decide (0 < k) = true := by simp; omega
            have hj1 : ((k : Int) - 1).toNat = j := by omega
            have hj2 : 0 ≤ (k : Int) - 1 := by omega
            have hj3 : 1 ≤ (k : Int) := by omega
            have hj4 : j < rs.length := by omega
            have hj5 : (k : Int) - 1 < (rs.length : Int) := by omega
            have HKJ := hid hkj
            by_cases hqs : q.1 = s
            · have hd : (q.1 == s) = true := by simp [hqs]
              have HF : Hid (joinL rs = none) := hid (joinI_no hI.out HRK.out (by
                have h1 := hI.out
                rw [HKJ.out] at h1
                rw [joinI_next h1 HQ.out]
                simp [hqs]))
              clear hqs hb1 hb2 hm hjq hkj hqj
              go_wp2_with fail
              refine wp_region_ext (by kernel_rfl) (by kernel_rfl) ?_; (repeat (go_big_quiet_step (first | (go_at_call 89; with_reducible exact ext_PB (hw2 _)) | (go_at_call 89; with_reducible exact ext_PB (hw1 _))))); refine wpQuiet_nil ?_; intro _ hw_; obtain ⟨sx, hw2_⟩ := hw_; subst hw2_
              have hbx := below_on hbwa sx.bel
              go_wp2_with fail
              go_ret2
              exact PLB_none HF.out hbx
            · have hd : (q.1 == s) = false := by simp [hqs]
              have HJ : Hid (joinOk o (s, (M : Int)) = true) := by
                unfold Hid
                have h1 := hI.out
                rw [HKJ.out] at h1
                rw [joinI_next h1 HQ.out, hb1, hb2]
                simp [hqs]
              have HN := hid (joinI_yes hI.out HRK.out HJ.out)
              clear hqs hb1 hb2 hm hjq hkj hqj HJ
              go_wp2_with fail
              refine wp_region_ext (by kernel_rfl) (by kernel_rfl) ?_; (repeat (go_big_quiet_step (first | (go_at_call 89; with_reducible exact ext_PB (hw2 _)) | (go_at_call 89; with_reducible exact ext_PB (hw1 _))))); refine wpQuiet_nil ?_; intro _ hw_; obtain ⟨sx, hw2_⟩ := hw_; subst hw2_
              have hbx := below_on hbwa sx.bel
              have hox := hoa.below sx.bel
              have hBx := hB.below sx.bel
              have hxz := sx.bel.size
              have q0 := hBx.cell 0
              have q1 := hBx.cell 1
              simp at q0 q1 hxz
              generalize sx.val = w5 at *
              go_wp2_with fail
              go_loopw [4, 46] (fun v t wr => ∃ (j : Nat) (A2 : Option Addr) (c2 : Nat) (ys : List Int), j ≤ M ∧ t = .int .i64 j ∧ v = .slice A2 ys.length c2 ∧ Hid (ys = o ++ List.replicate j s) ∧ ys.length ≤ o.length + j ∧ OI wr w.heap.size A2 c2 ys ∧ BX wr wo.heap.size #[.int .i64 s, .int .i64 (M : Int)] 77 ∧ (∀ b, blk A2 = some b → b ≠ wo.heap.size) ∧ Below w.heap.size w wr) (fun _ t _ => M - (intOf t).toNat)
              case atStart => exact ⟨0, A', c', o, by omega, rfl, rfl, hid (by simp), by omega, hox, hBx, HBN.out, hbx⟩
              case round =>
                clear hox hBx hbx q0 q1 hxz
                obtain ⟨j, A2, c2, ys, hj, rfl, rfl, hys, hyl, ho2, hB2, hbn2, hbw2⟩ := hrel
                obtain ⟨w6, rfl⟩ : ∃ w6 : World, w6 = wr := ⟨_, rfl⟩
                have HBN2 := hid hbn2
                have hwz2 := hbw2.size
                clear hbn2
                by_cases hjM : j < M
                · have hjI : (j : Int) < (M : Int) := by omega
                  have b0 := hB2.cell 0
                  simp at b0
                  go_wp2_with (at_builtin; refine wpl_app (ys := [s]) intT rfl _ _ rfl rfl (ho2.alloc _) rfl (RI.one w6 s) (by simp; omega) (by simp; omega) ?_; intro A3 c3 w3 us hu ho3 hg3 hat3; have hat4 := hid hat3; clear hat3)
                  have hbw3 := OI.belowOwn (below_on hbw2 (below_new _ _)) (ho2.alloc _) hg3 (Nat.le_refl _)
                  have hB3 := (hB2.alloc (.cells #[.int .i64 s] 3)).keepRow hg3 (fun e => HBN2.out _ e rfl)
                  have hbn3 : ∀ b, blk A3 = some b → b ≠ wo.heap.size := fun b h1 e => by
                    rcases hat4.out with h | h
                    · exact HBN2.out b (h ▸ h1) e
                    · have := hB2.lt; rw [h] at h1; injection h1 with h1; simp at h1; omega
                  have HU : Hid (us = o ++ List.replicate (j + 1) s) := by unfold Hid; rw [hu.out, hys.out, List.replicate_succ', List.append_assoc]
                  have hul : us.length ≤ o.length + (j + 1) := by rw [hu.out]; simp; omega
                  clear ho2 hB2 hbw2 hg3 hu hys hyl
                  go_roundw
                  case rel => exact ⟨j + 1, A3, c3, us, by omega, by go_num, rfl, HU, hul, ho3, hB3, hbn3, hbw3⟩
                  case measure => simp [intOf]; omega
                · have hjI : ¬ (j : Int) < (M : Int) := by omega
                  have HYN : Hid (joinI rs (k + 1) ys) := by
                    unfold Hid
                    have h1 := HN.out
                    have e : ys = o ++ List.replicate M s := by rw [hys.out, show j = M by omega]
                    rw [e]
                    exact h1
                  have hyl40 : ys.length ≤ 40 := joinI_len HYN.out
                  go_wp2_with fail
                  go_roundw
                  case rel => exact ⟨k + 1, A2, c2, ys, by omega, by go_num, rfl, HYN, hyl40, ho2, hbw2⟩
                  case measure => simp [intOf]; omega
    · have HF : Hid (joinL rs = some o) := hid (joinI_end hI.out (by omega))
      go_wp2_with fail
      go_ret2
      exact PLB_some HF.out ho hbw
end Go.Proofs.Ytamljhjbmeikiaa
/- Contracts: runs are joined by the reference. No condition. -/
namespace Go.Proofs.Ytamljhjbmeikiaa
open Go Go.RowKit
set_option maxHeartbeats 2000000 in
theorem sRunsJoin_any (A : Option Addr) (c : Nat) (rs : List (Int × Int)) (w : World) (hr : RS eRun w A c rs) : Calls Try.prog 102 #[.slice A rs.length c] w (PLB w (joinL rs)) := by
  have hbig := hr.big
  have hcap := hr.cap
  unfold maxLen at hbig
  go_enter Try.func102, Try.ntmps102
  go_wp2_with fail
  have hoe := OI.empty w w.heap.size (Nat.le_refl _)
  have hbe := below_new w (.cells #[] 3)
  go_loopw [4, 5] (fun v t wr => ∃ (k : Nat) (A' : Option Addr) (c' : Nat) (o : List Int), k ≤ rs.length ∧ t = .int .i64 k ∧ v = .slice A' o.length c' ∧ Hid (joinI rs k o) ∧ o.length ≤ 40 ∧ OI wr w.heap.size A' c' o ∧ Below w.heap.size w wr) (fun _ t _ => rs.length - (intOf t).toNat)
  case atStart => exact ⟨0, _, _, [], by omega, rfl, rfl, hid (joinI_zero rs), by simp, hoe, hbe⟩
  case round =>
    clear hoe hbe
    obtain ⟨k, A', c', o, hk, rfl, rfl, hI, hol, ho, hbw⟩ := hrel
    obtain ⟨wo, rfl⟩ : ∃ wo : World, wo = wr := ⟨_, rfl⟩
    have hwz := hbw.size
    by_cases hlt : k < rs.length
    · obtain ⟨⟨s, m⟩, hrk⟩ : ∃ r, rs[k]? = some r := ⟨_, List.getElem?_eq_getElem hlt⟩
      obtain ⟨ad, rfl, hadb⟩ := RS.addr hr hrk (by decide)
      obtain ⟨r0, r1⟩ := runAt (hr.below hbw) hrk
      have HRK := hid hrk
      have hbwa := hbw
      have hoa := ho
      have kb0 : ∀ sx : Ext wo, sx.val.cell? (ad.add (k * 2)) = some (.int .i64 s) := fun sx => (runAt (hr.below (below_on hbw sx.bel)) HRK.out).1
      have kb1 : ∀ sx : Ext wo, sx.val.cell? ⟨(ad.add (k * 2)).block, (ad.add (k * 2)).off + 1, none⟩ = some (.int .i64 m) := fun sx => (runAt (hr.below (below_on hbw sx.bel)) HRK.out).2
      have hw1 : ∀ sx : Ext wo, Calls Try.prog 78 #[.int .i64 s, .int .i64 0, .int .i64 7] sx.val (PB sx.val (inB 0 7 s)) := fun sx => l6In_any _ _ _ _
      have hw2 : ∀ sx : Ext wo, Calls Try.prog 78 #[.int .i64 m, .int .i64 1, .int .i64 (40 - (o.length : Int))] sx.val (PB sx.val (inB 1 (40 - (o.length : Int)) m)) := fun sx => l6In_any _ _ _ _
      clear hrk
      cases hb1 : inB 0 7 s
      · rw [hb1] at hw1
        have HF : Hid (joinL rs = none) := hid (joinI_no hI.out HRK.out (by unfold joinOk; rw [hb1]; rfl))
        clear hb1 hw2
        go_wp2_with fail
        refine wp_region_ext (by kernel_rfl) (by kernel_rfl) ?_; (repeat (go_big_quiet_step (first | (go_at_call 78; with_reducible exact ext_PB (hw1 _))))); refine wpQuiet_nil ?_; intro _ hw_; obtain ⟨sx, hw2_⟩ := hw_; subst hw2_
        have hbx := below_on hbwa sx.bel
        go_wp2_with fail
        go_ret2
        exact PLB_none HF.out hbx
      · rw [hb1] at hw1
        cases hb2 : inB 1 (40 - (o.length : Int)) m
        · rw [hb2] at hw2
          have HF : Hid (joinL rs = none) := hid (joinI_no hI.out HRK.out (by unfold joinOk; rw [hb1, hb2]; rfl))
          clear hb1 hb2
          go_wp2_with fail
          refine wp_region_ext (by kernel_rfl) (by kernel_rfl) ?_; (repeat (go_big_quiet_step (first | (go_at_call 78; with_reducible exact ext_PB (hw2 _)) | (go_at_call 78; with_reducible exact ext_PB (hw1 _))))); refine wpQuiet_nil ?_; intro _ hw_; obtain ⟨sx, hw2_⟩ := hw_; subst hw2_
          have hbx := below_on hbwa sx.bel
          go_wp2_with fail
          go_ret2
          exact PLB_none HF.out hbx
        · rw [hb2] at hw2
          have hm := inB_true.1 hb2
          obtain ⟨M, rfl⟩ : ∃ M : Nat, m = (M : Int) := ⟨m.toNat, by omega⟩
          have hM1 : 1 ≤ M := by omega
          have hM2 : M + o.length ≤ 40 := by omega
          have hcase : Hid (k = 0) ∨ ∃ j q, Hid (k = j + 1 ∧ rs[j]? = some q) := by
            cases k with
            | zero => exact .inl rfl
            | succ j => exact .inr ⟨j, rs[j]'(by omega), rfl, List.getElem?_eq_getElem (by omega)⟩
          rcases hcase with h0 | ⟨j, q, hjq⟩
          · have hg : decide (0 < k) = false := by simp [h0.out]
            have HJ : Hid (joinOk o (s, (M : Int)) = true) := by
              unfold Hid
              have := hI.out
              rw [h0.out] at this
              rw [joinI_first this, hb1, hb2]; rfl
            have HN := hid (joinI_yes hI.out HRK.out HJ.out)
            clear hb1 hb2 hm h0 HJ
            go_wp2_with fail
            refine wp_region_ext (by kernel_rfl) (by kernel_rfl) ?_; (repeat (go_big_quiet_step (first | (go_at_call 78; with_reducible exact ext_PB (hw2 _)) | (go_at_call 78; with_reducible exact ext_PB (hw1 _))))); refine wpQuiet_nil ?_; intro _ hw_; obtain ⟨sx, hw2_⟩ := hw_; subst hw2_
            have hbx := below_on hbwa sx.bel
            have hox := hoa.below sx.bel
            have hxz := sx.bel.size
            skip
            generalize sx.val = w5 at *
            go_wp2_with fail
            go_loopw [4, 6] (fun v t wr => ∃ (j : Nat) (A2 : Option Addr) (c2 : Nat) (ys : List Int), j ≤ M ∧ t = .int .i64 j ∧ v = .slice A2 ys.length c2 ∧ Hid (ys = o ++ List.replicate j s) ∧ ys.length ≤ o.length + j ∧ OI wr w.heap.size A2 c2 ys ∧ Below w.heap.size w wr) (fun _ t _ => M - (intOf t).toNat)
            case atStart => exact ⟨0, A', c', o, by omega, rfl, rfl, hid (by simp), by omega, hox, hbx⟩
            case round =>
              clear hox hbx hxz
              obtain ⟨j, A2, c2, ys, hj, rfl, rfl, hys, hyl, ho2, hbw2⟩ := hrel
              obtain ⟨w6, rfl⟩ : ∃ w6 : World, w6 = wr := ⟨_, rfl⟩
              have hwz2 := hbw2.size
              by_cases hjM : j < M
              · have hjI : (j : Int) < (M : Int) := by omega
                obtain ⟨e0, e1⟩ := runAt (hr.below hbw2) HRK.out
                go_wp2_with (at_builtin; refine wpl_app (ys := [s]) intT rfl _ _ rfl rfl (ho2.alloc _) rfl (RI.one w6 s) (by simp; omega) (by simp; omega) ?_; intro A3 c3 w3 us hu ho3 hg3 hat3; clear hat3)
                have hbw3 := OI.belowOwn (below_on hbw2 (below_new _ _)) (ho2.alloc _) hg3 (Nat.le_refl _)
                have HU : Hid (us = o ++ List.replicate (j + 1) s) := by unfold Hid; rw [hu.out, hys.out, List.replicate_succ', List.append_assoc]
                have hul : us.length ≤ o.length + (j + 1) := by rw [hu.out]; simp; omega
                clear ho2 hbw2 hg3 hu hys hyl
                go_roundw
                case rel => exact ⟨j + 1, A3, c3, us, by omega, by go_num, rfl, HU, hul, ho3, hbw3⟩
                case measure => simp [intOf]; omega
              · have hjI : ¬ (j : Int) < (M : Int) := by omega
                obtain ⟨e0, e1⟩ := runAt (hr.below hbw2) HRK.out
                have HYN : Hid (joinI rs (k + 1) ys) := by
                  unfold Hid
                  have h1 := HN.out
                  have e : ys = o ++ List.replicate M s := by rw [hys.out, show j = M by omega]
                  rw [e]
                  exact h1
                have hyl40 : ys.length ≤ 40 := joinI_len HYN.out
                go_wp2_with fail
                go_roundw
                case rel => exact ⟨k + 1, A2, c2, ys, by omega, by go_num, rfl, HYN, hyl40, ho2, hbw2⟩
                case measure => simp [intOf]; omega
          · obtain ⟨hkj, hqj⟩ := hjq.out
            obtain ⟨d0, _⟩ := runAt (hr.below hbw) hqj
            have kq : ∀ sx : Ext wo, sx.val.cell? (ad.add (j * 2)) = some (.int .i64 q.1) := fun sx => (runAt (hr.below (below_on hbwa sx.bel)) hqj).1
            have HQ := hid hqj
            have hg : decide (0 < k) = true := by simp; omega
            have hj1 : ((k : Int) - 1).toNat = j := by omega
            have hj2 : 0 ≤ (k : Int) - 1 := by omega
            have hj3 : 1 ≤ (k : Int) := by omega
            have hj4 : j < rs.length := by omega
            have hj5 : (k : Int) - 1 < (rs.length : Int) := by omega
            have HKJ := hid hkj
            by_cases hqs : q.1 = s
            · have hd : (q.1 == s) = true := by simp [hqs]
              have HF : Hid (joinL rs = none) := hid (joinI_no hI.out HRK.out (by
                have h1 := hI.out
                rw [HKJ.out] at h1
                rw [joinI_next h1 HQ.out]
                simp [hqs]))
              clear hqs hb1 hb2 hm hjq hkj hqj
              go_wp2_with fail
              refine wp_region_ext (by kernel_rfl) (by kernel_rfl) ?_; (repeat (go_big_quiet_step (first | (go_at_call 78; with_reducible exact ext_PB (hw2 _)) | (go_at_call 78; with_reducible exact ext_PB (hw1 _))))); refine wpQuiet_nil ?_; intro _ hw_; obtain ⟨sx, hw2_⟩ := hw_; subst hw2_
              have hbx := below_on hbwa sx.bel
              go_wp2_with fail
              go_ret2
              exact PLB_none HF.out hbx
            · have hd : (q.1 == s) = false := by simp [hqs]
              have HJ : Hid (joinOk o (s, (M : Int)) = true) := by
                unfold Hid
                have h1 := hI.out
                rw [HKJ.out] at h1
                rw [joinI_next h1 HQ.out, hb1, hb2]
                simp [hqs]
              have HN := hid (joinI_yes hI.out HRK.out HJ.out)
              clear hqs hb1 hb2 hm hjq hkj hqj HJ
              go_wp2_with fail
              refine wp_region_ext (by kernel_rfl) (by kernel_rfl) ?_; (repeat (go_big_quiet_step (first | (go_at_call 78; with_reducible exact ext_PB (hw2 _)) | (go_at_call 78; with_reducible exact ext_PB (hw1 _))))); refine wpQuiet_nil ?_; intro _ hw_; obtain ⟨sx, hw2_⟩ := hw_; subst hw2_
              have hbx := below_on hbwa sx.bel
              have hox := hoa.below sx.bel
              have hxz := sx.bel.size
              skip
              generalize sx.val = w5 at *
              go_wp2_with fail
              go_loopw [4, 6] (fun v t wr => ∃ (j : Nat) (A2 : Option Addr) (c2 : Nat) (ys : List Int), j ≤ M ∧ t = .int .i64 j ∧ v = .slice A2 ys.length c2 ∧ Hid (ys = o ++ List.replicate j s) ∧ ys.length ≤ o.length + j ∧ OI wr w.heap.size A2 c2 ys ∧ Below w.heap.size w wr) (fun _ t _ => M - (intOf t).toNat)
              case atStart => exact ⟨0, A', c', o, by omega, rfl, rfl, hid (by simp), by omega, hox, hbx⟩
              case round =>
                clear hox hbx hxz
                obtain ⟨j, A2, c2, ys, hj, rfl, rfl, hys, hyl, ho2, hbw2⟩ := hrel
                obtain ⟨w6, rfl⟩ : ∃ w6 : World, w6 = wr := ⟨_, rfl⟩
                have hwz2 := hbw2.size
                by_cases hjM : j < M
                · have hjI : (j : Int) < (M : Int) := by omega
                  obtain ⟨e0, e1⟩ := runAt (hr.below hbw2) HRK.out
                  go_wp2_with (at_builtin; refine wpl_app (ys := [s]) intT rfl _ _ rfl rfl (ho2.alloc _) rfl (RI.one w6 s) (by simp; omega) (by simp; omega) ?_; intro A3 c3 w3 us hu ho3 hg3 hat3; clear hat3)
                  have hbw3 := OI.belowOwn (below_on hbw2 (below_new _ _)) (ho2.alloc _) hg3 (Nat.le_refl _)
                  have HU : Hid (us = o ++ List.replicate (j + 1) s) := by unfold Hid; rw [hu.out, hys.out, List.replicate_succ', List.append_assoc]
                  have hul : us.length ≤ o.length + (j + 1) := by rw [hu.out]; simp; omega
                  clear ho2 hbw2 hg3 hu hys hyl
                  go_roundw
                  case rel => exact ⟨j + 1, A3, c3, us, by omega, by go_num, rfl, HU, hul, ho3, hbw3⟩
                  case measure => simp [intOf]; omega
                · have hjI : ¬ (j : Int) < (M : Int) := by omega
                  obtain ⟨e0, e1⟩ := runAt (hr.below hbw2) HRK.out
                  have HYN : Hid (joinI rs (k + 1) ys) := by
                    unfold Hid
                    have h1 := HN.out
                    have e : ys = o ++ List.replicate M s := by rw [hys.out, show j = M by omega]
                    rw [e]
                    exact h1
                  have hyl40 : ys.length ≤ 40 := joinI_len HYN.out
                  go_wp2_with fail
                  go_roundw
                  case rel => exact ⟨k + 1, A2, c2, ys, by omega, by go_num, rfl, HYN, hyl40, ho2, hbw2⟩
                  case measure => simp [intOf]; omega
    · have HF : Hid (joinL rs = some o) := hid (joinI_end hI.out (by omega))
      go_wp2_with fail
      go_ret2
      exact PLB_some HF.out ho hbw
end Go.Proofs.Ytamljhjbmeikiaa
/- Contracts: tokens are expanded. No condition. -/
namespace Go.Proofs.Ytamljhjbmeikiaa
open Go Go.RowKit
theorem ri_one1 (w : World) (o : Obj) (x : Int) : RI ((w.alloc o).alloc (.cells #[.int .i64 x] 3)) (some ⟨w.heap.size + 1, 0, none⟩) 1 [x] := by
  have h := RI.one (w.alloc o) x
  have hs : (w.alloc o).heap.size = w.heap.size + 1 := by simp
  rw [hs] at h
  exact h
theorem tokCells {w : World} {c : Nat} {ad : Addr} {ts : List (Int × Int × Int)} (h : RS eTok w (some ad) c ts) {k : Nat} {t : Int × Int × Int} (ht : ts[k]? = some t) :
    w.cell? (ad.add (k * 3)) = some (.int .i64 t.1) ∧ w.cell? ⟨(ad.add (k * 3)).block, (ad.add (k * 3)).off + 1, none⟩ = some (.int .i64 t.2.1) ∧ w.cell? ⟨(ad.add (k * 3)).block, (ad.add (k * 3)).off + 2, none⟩ = some (.int .i64 t.2.2) := by
  obtain ⟨ad', e, _, hc⟩ := RS.at_ h ht (by decide)
  injection e with e
  subst e
  have c0 := hc 0 (by decide)
  have c1 := hc 1 (by decide)
  have c2 := hc 2 (by decide)
  have e1 : ad.add (k * eTok.sz + 1) = ⟨(ad.add (k * 3)).block, (ad.add (k * 3)).off + 1, none⟩ := add_field ad (k * 3) (by decide)
  have e2 : ad.add (k * eTok.sz + 2) = ⟨(ad.add (k * 3)).block, (ad.add (k * 3)).off + 2, none⟩ := add_field ad (k * 3) (by decide)
  rw [e1] at c1
  rw [e2] at c2
  exact ⟨c0, c1, c2⟩
theorem exp_no {ts : List (Int × Int × Int)} {k : Nat} {o : List Int} {t : Int × Int × Int} (h : expL (ts.take k) = some o) (hr : ts[k]? = some t) (hn : tokOk t o.length = false) : expL ts = none := by
  refine expL_take (k := k + 1) ?_
  rw [take_snoc' hr, expL_snoc, h]
  simp only [expStep, hn]
  rfl
theorem exp_yes {ts : List (Int × Int × Int)} {k : Nat} {o : List Int} {t : Int × Int × Int} (h : expL (ts.take k) = some o) (hr : ts[k]? = some t) (hn : tokOk t o.length = true) : expL (ts.take (k + 1)) = some (if t.2.1 = 0 then o ++ [t.1] else cpy o t.2.1.toNat t.2.2.toNat) := by
  rw [take_snoc' hr, expL_snoc, h]
  simp only [expStep, hn, if_true]
theorem exp_end {ts : List (Int × Int × Int)} {k : Nat} {o : List Int} (h : expL (ts.take k) = some o) (hk : ts.length ≤ k) : expL ts = some o := by
  rwa [List.take_of_length_le hk] at h
theorem tok_sym_ok {s : Int} {n : Nat} : tokOk (s, 0, 0) n = (inB 0 7 s && decide (n < 40)) := by unfold tokOk; simp
theorem tok_match_ok {s b m : Int} {n : Nat} (hb : b ≠ 0) : tokOk (s, b, m) n = (decide (s = 0) && (inB 1 (min 16 (n : Int)) b && (inB 2 9 m && decide ((n : Int) + m ≤ 40)))) := by unfold tokOk; rw [if_neg hb]
set_option maxHeartbeats 2000000 in
theorem TokensExpand_any (A : Option Addr) (c : Nat) (ts : List (Int × Int × Int)) (w : World) (hr : RS eTok w A c ts) : Calls Try.prog 70 #[.slice A ts.length c] w (PLB w (expL ts)) := by
  have hbig := hr.big
  have hcap := hr.cap
  unfold maxLen at hbig
  go_enter Try.func70, Try.ntmps70
  go_wp2_with fail
  have hoe := OI.empty w w.heap.size (Nat.le_refl _)
  have hbe := below_new w (.cells #[] 3)
  go_loopw [4, 10] (fun v t wr => ∃ (k : Nat) (A' : Option Addr) (c' : Nat) (o : List Int), k ≤ ts.length ∧ t = .int .i64 k ∧ v = .slice A' o.length c' ∧ Hid (expL (ts.take k) = some o) ∧ o.length ≤ 40 ∧ OI wr w.heap.size A' c' o ∧ Below w.heap.size w wr) (fun _ t _ => ts.length - (intOf t).toNat)
  case atStart => exact ⟨0, _, _, [], by omega, rfl, rfl, hid rfl, by simp, hoe, hbe⟩
  case round =>
    clear hoe hbe
    obtain ⟨k, A', c', o, hk, rfl, rfl, hI, hol, ho, hbw⟩ := hrel
    obtain ⟨wo, rfl⟩ : ∃ wo : World, wo = wr := ⟨_, rfl⟩
    have hwz := hbw.size
    by_cases hlt : k < ts.length
    · obtain ⟨⟨s, b, m⟩, hrk⟩ : ∃ r, ts[k]? = some r := ⟨_, List.getElem?_eq_getElem hlt⟩
      obtain ⟨ad, rfl, hadb⟩ := RS.addr hr hrk (by decide)
      obtain ⟨r0, r1, r2⟩ := tokCells (hr.below hbw) hrk
      have HRK := hid hrk
      have HBN : Hid (∀ b, blk A' = some b → b ≠ wo.heap.size) := hid fun b hb e => by have := (OI.lt ho hb).2; omega
      have hB := BX.new wo #[.int .i64 s, .int .i64 b, .int .i64 m] 82
      have hoa := ho.alloc (.cells #[.int .i64 s, .int .i64 b, .int .i64 m] 82)
      have hbwa := below_on hbw (below_new wo (.cells #[.int .i64 s, .int .i64 b, .int .i64 m] 82))
      have n0 : (o.length : Int) ≤ 40 := by omega
      simp only at r0 r1 r2
      clear hrk
      obtain ⟨T, hT⟩ : ∃ T, (if (o.length : Int) < 16 then (o.length : Int) else 16) = T := ⟨_, rfl⟩
      have HT : Hid (min 16 (o.length : Int) = T) := by unfold Hid; rw [← hT]; split <;> omega
      by_cases h1 : b = 0 ∧ m = 0 ∧ inB 0 7 s = true
      · obtain ⟨rfl, rfl, hs⟩ := h1
        have HS := hid hs
        clear hs
        by_cases hn : o.length < 40
        · have HJ : Hid (tokOk (s, 0, 0) o.length = true) := by unfold Hid; rw [tok_sym_ok, HS.out]; simp [hn]
          have HN : Hid (expL (ts.take (k + 1)) = some (o ++ [s])) := hid (exp_yes hI.out HRK.out HJ.out)
          go_wp2_with (first | (go_at_call 89; refine (within_any _ _ _ _).mono ?_; rintro e w' ⟨b1, hb1, rfl, rfl⟩; have e9 : b1 = true := hb1.out.trans HS.out; subst e9; clear hb1) | (at_builtin; refine wpl_app (ys := [s]) intT rfl _ _ rfl rfl (hoa.alloc _) rfl (ri_one1 wo (.cells #[.int .i64 s, .int .i64 0, .int .i64 0] 82) s) (by simp; omega) (by simp; omega) ?_; intro A3 c3 w3 us hu ho3 hg3 hat3; have hat4 := hid hat3; clear hat3; have hul1 : us.length ≤ o.length + 1 := (by rw [hu.out]; simp); have hul2 : o.length + 1 ≤ us.length := (by rw [hu.out]; simp)))
          have hbw3 := OI.belowOwn (below_on hbwa (below_new _ _)) (hoa.alloc _) hg3 (Nat.le_refl _)
          have HU : Hid (expL (ts.take (k + 1)) = some us) := by unfold Hid; rw [HN.out, hu.out]
          clear hg3 hu ho hbw hoa hbwa
          go_roundw
          case rel => exact ⟨k + 1, A3, c3, us, by omega, by go_num, rfl, HU, by omega, ho3, hbw3⟩
          case measure => simp [intOf]; omega
        · have HF : Hid (expL ts = none) := hid (exp_no hI.out HRK.out (by rw [tok_sym_ok]; simp [hn]))
          have hn40 : 40 ≤ o.length := by omega
          go_wp2_with (first | (go_at_call 89; refine (within_any _ _ _ _).mono ?_; rintro e w' ⟨b1, hb1, rfl, rfl⟩; have e9 : b1 = true := hb1.out.trans HS.out; subst e9; clear hb1) | (at_builtin; refine wpl_app (ys := [s]) intT rfl _ _ rfl rfl (hoa.alloc _) rfl (ri_one1 wo (.cells #[.int .i64 s, .int .i64 0, .int .i64 0] 82) s) (by simp; omega) (by simp; omega) ?_; intro A3 c3 w3 us hu ho3 hg3 hat3; have hat4 := hid hat3; clear hat3; have hul1 : us.length ≤ o.length + 1 := (by rw [hu.out]; simp); have hul2 : o.length + 1 ≤ us.length := (by rw [hu.out]; simp)))
          have hbw3 := OI.belowOwn (below_on hbwa (below_new _ _)) (hoa.alloc _) hg3 (Nat.le_refl _)
          go_ret2
          exact PLB_none HF.out hbw3
      · by_cases hb0 : b = 0
        · subst hb0
          have HF : Hid (expL ts = none) := hid (exp_no hI.out HRK.out (by
            unfold tokOk
            rw [if_pos rfl]
            by_cases hm : m = 0
            · by_cases hs : inB 0 7 s = true
              · exact absurd ⟨rfl, hm, hs⟩ h1
              · simp [hs]
            · simp [hm]))
          have HV1 : Hid (inB 1 T 0 = false) := by unfold Hid inB; simp
          by_cases hm : m = 0
          · subst hm
            have HS : Hid (inB 0 7 s = false) := by
              unfold Hid
              cases hs : inB 0 7 s
              · rfl
              · exact absurd ⟨rfl, rfl, hs⟩ h1
            clear h1
            by_cases hs0 : s = 0
            · exact absurd HS.out (by rw [hs0]; decide)
            · have hq : (s == 0) = false := by simp [hs0]
              clear hs0
              go_wp2_with (first | (go_at_call 89; refine (within_any _ _ _ _).mono ?_; rintro e w' ⟨b1, hb1, rfl, rfl⟩; have e9 : b1 = false := hb1.out.trans HS.out; subst e9; clear hb1))
              go_ret2
              exact PLB_none HF.out hbwa
          · have hq : (m == 0) = false := by simp [hm]
            clear h1 hm
            by_cases hs0 : s = 0
            · subst hs0
              go_wp2_with (first | (go_at_call 89; refine (within_any _ _ _ _).mono ?_; rintro e w' ⟨b1, hb1, rfl, rfl⟩; have e9 : b1 = false := hb1.out.trans HV1.out; subst e9; clear hb1))
              go_ret2
              exact PLB_none HF.out hbwa
            · have hq2 : (s == 0) = false := by simp [hs0]
              clear hs0
              go_wp2_with fail
              go_ret2
              exact PLB_none HF.out hbwa
        · have hq : (b == 0) = false := by simp [hb0]
          have HB0 := hid hb0
          clear h1 hb0
          by_cases hs0 : s = 0
          rotate_left
          · have hq2 : (s == 0) = false := by simp [hs0]
            have HF : Hid (expL ts = none) := hid (exp_no hI.out HRK.out (by rw [tok_match_ok HB0.out]; simp [hs0]))
            clear hs0
            go_wp2_with fail
            go_ret2
            exact PLB_none HF.out hbwa
          subst hs0
          cases hv1 : inB 1 T b
          · have HV1 := hid hv1
            have HF : Hid (expL ts = none) := hid (exp_no hI.out HRK.out (by rw [tok_match_ok HB0.out, HT.out, hv1]; simp))
            clear hv1
            go_wp2_with (first | (go_at_call 89; refine (within_any _ _ _ _).mono ?_; rintro e w' ⟨b1, hb1, rfl, rfl⟩; have e9 : b1 = false := hb1.out.trans HV1.out; subst e9; clear hb1))
            go_ret2
            exact PLB_none HF.out hbwa
          have HV1 := hid hv1
          have hbb := inB_true.1 hv1
          cases hv2 : inB 2 9 m
          · have HV2 := hid hv2
            have HF : Hid (expL ts = none) := hid (exp_no hI.out HRK.out (by rw [tok_match_ok HB0.out, hv2]; simp))
            clear hv1 hv2 hbb
            go_wp2_with (first | (go_at_call 89; refine (within_any _ _ _ _).mono ?_; rintro e w' ⟨b1, hb1, rfl, rfl⟩; (first | (have e9 : b1 = false := (by with_reducible exact hb1.out.trans HV2.out); subst e9) | (have e9 : b1 = true := (by with_reducible exact hb1.out.trans HV1.out); subst e9)); clear hb1))
            go_ret2
            exact PLB_none HF.out hbwa
          have HV2 := hid hv2
          have hmm := inB_true.1 hv2
          obtain ⟨M, rfl⟩ : ∃ M : Nat, m = (M : Int) := ⟨m.toNat, by omega⟩
          obtain ⟨B, rfl⟩ : ∃ B : Nat, b = (B : Int) := ⟨b.toNat, by omega⟩
          have hM1 : 2 ≤ M := by omega
          have hM2 : M ≤ 9 := by omega
          have hB1 : 1 ≤ B := by omega
          have hB2 : B ≤ o.length := by have := HT.out; omega
          have q0 := hB.cell 0
          have q1 := hB.cell 1
          have q2 := hB.cell 2
          simp at q0 q1 q2
          clear hv1 hv2 hbb hmm
          go_wp2_with (first | (go_at_call 89; refine (within_any _ _ _ _).mono ?_; rintro e w' ⟨b1, hb1, rfl, rfl⟩; (first | (have e9 : b1 = true := (by with_reducible exact hb1.out.trans HV2.out); subst e9) | (have e9 : b1 = true := (by with_reducible exact hb1.out.trans HV1.out); subst e9)); clear hb1))
          go_loopw [4, 53] (fun v t wr => ∃ (j : Nat) (A2 : Option Addr) (c2 : Nat) (ys : List Int), j ≤ M ∧ t = .int .i64 j ∧ v = .slice A2 ys.length c2 ∧ Hid (ys = cpy o B j) ∧ ys.length ≤ o.length + j ∧ o.length + j ≤ ys.length ∧ OI wr w.heap.size A2 c2 ys ∧ BX wr wo.heap.size #[.int .i64 0, .int .i64 (B : Int), .int .i64 (M : Int)] 82 ∧ (∀ b, blk A2 = some b → b ≠ wo.heap.size) ∧ Below w.heap.size w wr) (fun _ t _ => M - (intOf t).toNat)
          case atStart => exact ⟨0, A', c', o, by omega, rfl, rfl, hid rfl, by omega, by omega, hoa, hB, HBN.out, hbwa⟩
          case round =>
            clear hoa hbwa q0 q1 q2 hB
            obtain ⟨j, A2, c2, ys, hj, rfl, rfl, hys, hyl, hyl2, ho2, hB3, hbn2, hbw2⟩ := hrel
            obtain ⟨w6, rfl⟩ : ∃ w6 : World, w6 = wr := ⟨_, rfl⟩
            have HBN2 := hid hbn2
            have hwz2 := hbw2.size
            clear hbn2
            have b0 := hB3.cell 0
            have b1 := hB3.cell 1
            have b2 := hB3.cell 2
            simp at b0 b1 b2
            by_cases hjM : j < M
            · have hjI : (j : Int) < (M : Int) := by omega
              obtain ⟨ady, x, rfl, HX, hcx⟩ := ho2.ri.get (k := ys.length - B) (by omega)
              have hi1 : ((ys.length : Int) - (B : Int)).toNat = ys.length - B := by omega
              have hi2 : 0 ≤ (ys.length : Int) - (B : Int) := by omega
              have hi3 : (ys.length : Int) - (B : Int) < (ys.length : Int) := by omega
              have HXX := hid (getD_hid HX.out)
              go_wp2_with (at_builtin; refine wpl_app (ys := [x]) intT rfl _ _ rfl rfl (ho2.alloc _) rfl (RI.one w6 x) (by simp; omega) (by simp; omega) ?_; intro A3 c3 w3 us hu ho3 hg3 hat3; have hat4 := hid hat3; clear hat3)
              have hbw3 := OI.belowOwn (below_on hbw2 (below_new _ _)) (ho2.alloc _) hg3 (Nat.le_refl _)
              have hB4 := (hB3.alloc (.cells #[.int .i64 x] 3)).keepRow hg3 (fun e => HBN2.out _ e rfl)
              have hbn3 : ∀ b, blk A3 = some b → b ≠ wo.heap.size := fun b h1 e => by
                rcases hat4.out with h | h
                · exact HBN2.out b (h ▸ h1) e
                · have := hB3.lt; rw [h] at h1; injection h1 with h1; simp at h1; omega
              have HU : Hid (us = cpy o B (j + 1)) := by unfold Hid; rw [hu.out, cpy, ← hys.out, HXX.out]
              have hul : us.length = ys.length + 1 := by rw [hu.out]; simp
              clear ho2 hB3 hbw2 hg3 hu hys HX
              go_roundw
              case rel => exact ⟨j + 1, A3, c3, us, by omega, by go_num, rfl, HU, by omega, by omega, ho3, hB4, hbn3, hbw3⟩
              case measure => simp [intOf]; omega
            · have hjI : ¬ (j : Int) < (M : Int) := by omega
              have HY : Hid (ys = cpy o B M) := by unfold Hid; rw [hys.out, show j = M by omega]
              by_cases hn : o.length + M ≤ 40
              · have HJ : Hid (tokOk (0, (B : Int), (M : Int)) o.length = true) := by
                  unfold Hid
                  rw [tok_match_ok HB0.out, HT.out, HV1.out, HV2.out]
                  simp
                  omega
                have HN : Hid (expL (ts.take (k + 1)) = some ys) := by
                  unfold Hid
                  have h1 := exp_yes hI.out HRK.out HJ.out
                  rw [if_neg HB0.out] at h1
                  rw [h1, HY.out]; rfl
                have hy40 : ys.length ≤ 40 := by omega
                clear hys HY HJ
                go_wp2_with fail
                go_roundw
                case rel => exact ⟨k + 1, A2, c2, ys, by omega, by go_num, rfl, HN, by omega, ho2, hbw2⟩
                case measure => simp [intOf]; omega
              · have HF : Hid (expL ts = none) := hid (exp_no hI.out HRK.out (by
                  rw [tok_match_ok HB0.out]
                  have : ¬ (o.length : Int) + (M : Int) ≤ 40 := by omega
                  simp [this]))
                have hy40 : 40 < ys.length := by omega
                clear hys HY
                go_wp2_with fail
                go_ret2
                exact PLB_none HF.out hbw2
    · have HF : Hid (expL ts = some o) := hid (exp_end hI.out (by omega))
      go_wp2_with fail
      go_ret2
      exact PLB_some HF.out ho hbw
end Go.Proofs.Ytamljhjbmeikiaa
/- Contracts: tokens are expanded by the reference. No condition. -/
namespace Go.Proofs.Ytamljhjbmeikiaa
open Go Go.RowKit
set_option maxHeartbeats 1000000 in
theorem l14Token_any (s b m : Int) (n : Nat) (w : World) (hn : n ≤ 100) : Calls Try.prog 117 #[.agg #[.int .i64 s, .int .i64 b, .int .i64 m], .int .i64 n] w (PBb w (tokOk (s, b, m) n)) := by
  have hbe := below_new w (.cells #[.int .i64 s, .int .i64 b, .int .i64 m] 82)
  have hB := BX.new w #[.int .i64 s, .int .i64 b, .int .i64 m] 82
  have q0 := hB.cell 0
  have q1 := hB.cell 1
  have q2 := hB.cell 2
  simp at q0 q1 q2
  obtain ⟨T, hT⟩ : ∃ T, (if (n : Int) < 16 then (n : Int) else 16) = T := ⟨_, rfl⟩
  have HT : Hid (min 16 (n : Int) = T) := by unfold Hid; rw [← hT]; split <;> omega
  by_cases hb : b = 0
  · have hq : (b == 0) = true := by simp [hb]
    have HB := hid hb
    clear hb
    by_cases hm : m = 0
    rotate_left
    · have hq2 : (m == 0) = false := by simp [hm]
      have HF : Hid (tokOk (s, b, m) n = false) := by unfold Hid tokOk; rw [if_pos HB.out]; simp [hm]
      clear hm
      go_enter Try.func117, Try.ntmps117
      go_wp2_with fail
      go_ret
      exact ⟨false, hid HF.out.symm, rfl, hbe⟩
    have hq2 : (m == 0) = true := by simp [hm]
    have HM := hid hm
    clear hm
    cases hs : inB 0 7 s
    · have HS := hid hs
      have HF : Hid (tokOk (s, b, m) n = false) := by unfold Hid tokOk; rw [if_pos HB.out]; simp [hs]
      clear hs
      go_enter Try.func117, Try.ntmps117
      go_wp2_with (go_at_call 78; refine (l6In_any _ _ _ _).mono ?_; rintro e w' ⟨b1, hb1, rfl, rfl⟩; have e9 : b1 = false := hb1.out.trans HS.out; subst e9; clear hb1)
      go_ret
      exact ⟨false, hid HF.out.symm, rfl, hbe⟩
    have HS := hid hs
    have HF : Hid (tokOk (s, b, m) n = decide (n < 40)) := by unfold Hid tokOk; rw [if_pos HB.out]; simp [hs, HM.out]
    clear hs
    by_cases hn40 : n < 40
    · have hnI : (n : Int) < 40 := by omega
      go_enter Try.func117, Try.ntmps117
      go_wp2_with (go_at_call 78; refine (l6In_any _ _ _ _).mono ?_; rintro e w' ⟨b1, hb1, rfl, rfl⟩; have e9 : b1 = true := hb1.out.trans HS.out; subst e9; clear hb1)
      go_ret
      exact ⟨true, hid (by rw [HF.out]; simp [hn40]), rfl, hbe⟩
    · have hnI : decide ((n : Int) < 40) = false := by simp; omega
      go_enter Try.func117, Try.ntmps117
      go_wp2_with (go_at_call 78; refine (l6In_any _ _ _ _).mono ?_; rintro e w' ⟨b1, hb1, rfl, rfl⟩; have e9 : b1 = true := hb1.out.trans HS.out; subst e9; clear hb1)
      go_ret
      exact ⟨false, hid (by rw [HF.out]; simp [hn40]), rfl, hbe⟩
  · have hq : (b == 0) = false := by simp [hb]
    have HB := hid hb
    clear hb
    by_cases hs : s = 0
    rotate_left
    · have hq2 : (s == 0) = false := by simp [hs]
      have HF : Hid (tokOk (s, b, m) n = false) := by unfold Hid; rw [tok_match_ok HB.out]; simp [hs]
      clear hs
      go_enter Try.func117, Try.ntmps117
      go_wp2_with fail
      go_ret
      exact ⟨false, hid HF.out.symm, rfl, hbe⟩
    have hq2 : (s == 0) = true := by simp [hs]
    have HS0 := hid hs
    clear hs
    cases hv1 : inB 1 T b
    · have HV1 := hid hv1
      have HF : Hid (tokOk (s, b, m) n = false) := by unfold Hid; rw [tok_match_ok HB.out, HT.out, hv1]; simp
      clear hv1
      go_enter Try.func117, Try.ntmps117
      go_wp2_with (go_at_call 78; refine (l6In_any _ _ _ _).mono ?_; rintro e w' ⟨b1, hb1, rfl, rfl⟩; have e9 : b1 = false := hb1.out.trans HV1.out; subst e9; clear hb1)
      go_ret
      exact ⟨false, hid HF.out.symm, rfl, hbe⟩
    have HV1 := hid hv1
    clear hv1
    cases hv2 : inB 2 9 m
    · have HV2 := hid hv2
      have HF : Hid (tokOk (s, b, m) n = false) := by unfold Hid; rw [tok_match_ok HB.out, hv2]; simp
      clear hv2
      go_enter Try.func117, Try.ntmps117
      go_wp2_with (go_at_call 78; refine (l6In_any _ _ _ _).mono ?_; rintro e w' ⟨b1, hb1, rfl, rfl⟩; (first | (have e9 : b1 = false := (by with_reducible exact hb1.out.trans HV2.out); subst e9) | (have e9 : b1 = true := (by with_reducible exact hb1.out.trans HV1.out); subst e9)); clear hb1)
      go_ret
      exact ⟨false, hid HF.out.symm, rfl, hbe⟩
    have HV2 := hid hv2
    have hmm := inB_true.1 hv2
    obtain ⟨hm2, hm9⟩ := hmm
    have HF : Hid (tokOk (s, b, m) n = decide ((n : Int) + m ≤ 40)) := by unfold Hid; rw [tok_match_ok HB.out, HT.out, HV1.out, hv2, HS0.out]; simp
    clear hv2
    go_enter Try.func117, Try.ntmps117
    go_wp2_with (go_at_call 78; refine (l6In_any _ _ _ _).mono ?_; rintro e w' ⟨b1, hb1, rfl, rfl⟩; (first | (have e9 : b1 = true := (by with_reducible exact hb1.out.trans HV2.out); subst e9) | (have e9 : b1 = true := (by with_reducible exact hb1.out.trans HV1.out); subst e9)); clear hb1)
    go_ret
    exact ⟨decide ((n : Int) + m ≤ 40), hid HF.out.symm, rfl, hbe⟩
set_option maxHeartbeats 2000000 in
theorem sTokensExpand_any (A : Option Addr) (c : Nat) (ts : List (Int × Int × Int)) (w : World) (hr : RS eTok w A c ts) : Calls Try.prog 105 #[.slice A ts.length c] w (PLB w (expL ts)) := by
  have hbig := hr.big
  have hcap := hr.cap
  unfold maxLen at hbig
  go_enter Try.func105, Try.ntmps105
  go_wp2_with fail
  have hoe := OI.empty w w.heap.size (Nat.le_refl _)
  have hbe := below_new w (.cells #[] 3)
  go_loopw [4, 5] (fun v t wr => ∃ (k : Nat) (A' : Option Addr) (c' : Nat) (o : List Int), k ≤ ts.length ∧ t = .int .i64 k ∧ v = .slice A' o.length c' ∧ Hid (expL (ts.take k) = some o) ∧ o.length ≤ 40 ∧ OI wr w.heap.size A' c' o ∧ Below w.heap.size w wr) (fun _ t _ => ts.length - (intOf t).toNat)
  case atStart => exact ⟨0, _, _, [], by omega, rfl, rfl, hid rfl, by simp, hoe, hbe⟩
  case round =>
    clear hoe hbe
    obtain ⟨k, A', c', o, hk, rfl, rfl, hI, hol, ho, hbw⟩ := hrel
    obtain ⟨wo, rfl⟩ : ∃ wo : World, wo = wr := ⟨_, rfl⟩
    by_cases hlt : k < ts.length
    · obtain ⟨⟨s, b, m⟩, hrk⟩ : ∃ r, ts[k]? = some r := ⟨_, List.getElem?_eq_getElem hlt⟩
      obtain ⟨ad, rfl, hadb⟩ := RS.addr hr hrk (by decide)
      obtain ⟨r0, r1, r2⟩ := tokCells (hr.below hbw) hrk
      have HRK := hid hrk
      simp only at r0 r1 r2
      clear hrk
      go_wp2_with fail
      refine (l14Token_any s b m o.length _ (by omega)).mono ?_
      rintro e w1 ⟨b1, hb1, rfl, hbx⟩
      have ho1 := ho.below hbx
      have hbw1 := below_on hbw hbx
      have hwz := hbw1.size
      obtain ⟨d0, d1, d2⟩ := tokCells (hr.below hbw1) HRK.out
      simp only at d0 d1 d2
      clear r0 r1 r2 ho hbw hbx
      cases b1
      · have HF : Hid (expL ts = none) := hid (exp_no hI.out HRK.out hb1.out.symm)
        clear hb1
        go_wp2_with fail
        go_ret2
        exact PLB_none HF.out hbw1
      have HJ : Hid (tokOk (s, b, m) o.length = true) := hid hb1.out.symm
      have HN0 := hid (exp_yes hI.out HRK.out HJ.out)
      clear hb1
      by_cases hb0 : b = 0
      · have hq : (b == 0) = true := by simp [hb0]
        have HN : Hid (expL (ts.take (k + 1)) = some (o ++ [s])) := by unfold Hid; rw [HN0.out]; simp [hb0]
        have hok := HJ.out
        unfold tokOk at hok
        rw [if_pos hb0] at hok
        simp only [Bool.and_eq_true, decide_eq_true_eq] at hok
        obtain ⟨hm0, hs7, hn40⟩ := hok
        have HM0 := hid hm0
        have hm00 : ¬ (0 : Int) < m := by omega
        clear hb0 hm0 hs7 HN0
        go_wp2_with (at_builtin; refine wpl_app (ys := [s]) intT rfl _ _ rfl rfl (ho1.alloc _) rfl (RI.one w1 s) (by simp; omega) (by simp; omega) ?_; intro A3 c3 w3 us hu ho3 hg3 hat3; clear hat3)
        have hbw3 := OI.belowOwn (below_on hbw1 (below_new _ _)) (ho1.alloc _) hg3 (Nat.le_refl _)
        have HU : Hid (expL (ts.take (k + 1)) = some us) := by unfold Hid; rw [HN.out, hu.out]
        have hul : us.length ≤ o.length + 1 := by rw [hu.out]; simp
        clear hg3 hu ho1 hbw1 HN
        go_loopw [4, 6] (fun v t wr => v = .slice A3 us.length c3 ∧ t = .int .i64 0 ∧ wr = w3) (fun _ _ _ => 0)
        case atStart => exact ⟨rfl, rfl, rfl⟩
        case round =>
          obtain ⟨rfl, rfl, rfl⟩ := hrel
          obtain ⟨f0, f1, f2⟩ := tokCells (hr.below hbw3) HRK.out
          simp only at f0 f1 f2
          go_wp2_with fail
          go_roundw
          case rel => exact ⟨k + 1, A3, c3, us, by omega, by go_num, rfl, HU, by omega, ho3, hbw3⟩
          case measure => simp [intOf]; omega
      · have hq : (b == 0) = false := by simp [hb0]
        have HB0 := hid hb0
        have hok := HJ.out
        rw [tok_match_ok hb0] at hok
        simp only [Bool.and_eq_true, decide_eq_true_eq, inB_true] at hok
        obtain ⟨rfl, hbb, hmm, hle⟩ := hok
        obtain ⟨M, rfl⟩ : ∃ M : Nat, m = (M : Int) := ⟨m.toNat, by omega⟩
        obtain ⟨B, rfl⟩ : ∃ B : Nat, b = (B : Int) := ⟨b.toNat, by omega⟩
        have hM1 : 2 ≤ M := by omega
        have hM2 : M ≤ 9 := by omega
        have hB1 : 1 ≤ B := by omega
        have hB2 : B ≤ o.length := by omega
        have hoM : o.length + M ≤ 40 := by omega
        have HN : Hid (expL (ts.take (k + 1)) = some (cpy o B M)) := by
          unfold Hid
          rw [HN0.out, if_neg HB0.out]; rfl
        clear hb0 hbb hmm hle HN0
        go_wp2_with fail
        go_loopw [4, 6] (fun v t wr => ∃ (j : Nat) (A2 : Option Addr) (c2 : Nat) (ys : List Int), j ≤ M ∧ t = .int .i64 j ∧ v = .slice A2 ys.length c2 ∧ Hid (ys = cpy o B j) ∧ ys.length ≤ o.length + j ∧ o.length + j ≤ ys.length ∧ OI wr w.heap.size A2 c2 ys ∧ Below w.heap.size w wr) (fun _ t _ => M - (intOf t).toNat)
        case atStart => exact ⟨0, A', c', o, by omega, rfl, rfl, hid rfl, by omega, by omega, ho1, hbw1⟩
        case round =>
          clear ho1 hbw1 d0 d1 d2
          obtain ⟨j, A2, c2, ys, hj, rfl, rfl, hys, hyl, hyl2, ho2, hbw2⟩ := hrel
          obtain ⟨w6, rfl⟩ : ∃ w6 : World, w6 = wr := ⟨_, rfl⟩
          have hwz2 := hbw2.size
          obtain ⟨f0, f1, f2⟩ := tokCells (hr.below hbw2) HRK.out
          simp only at f0 f1 f2
          by_cases hjM : j < M
          · have hjI : (j : Int) < (M : Int) := by omega
            obtain ⟨ady, x, rfl, HX, hcx⟩ := ho2.ri.get (k := ys.length - B) (by omega)
            have hi1 : ((ys.length : Int) - (B : Int)).toNat = ys.length - B := by omega
            have hi2 : 0 ≤ (ys.length : Int) - (B : Int) := by omega
            have hi3 : (ys.length : Int) - (B : Int) < (ys.length : Int) := by omega
            have HXX := hid (getD_hid HX.out)
            go_wp2_with (at_builtin; refine wpl_app (ys := [x]) intT rfl _ _ rfl rfl (ho2.alloc _) rfl (RI.one w6 x) (by simp; omega) (by simp; omega) ?_; intro A3 c3 w3 us hu ho3 hg3 hat3; clear hat3)
            have hbw3 := OI.belowOwn (below_on hbw2 (below_new _ _)) (ho2.alloc _) hg3 (Nat.le_refl _)
            have HU : Hid (us = cpy o B (j + 1)) := by unfold Hid; rw [hu.out, cpy, ← hys.out, HXX.out]
            have hul : us.length = ys.length + 1 := by rw [hu.out]; simp
            clear ho2 hbw2 hg3 hu hys HX
            go_roundw
            case rel => exact ⟨j + 1, A3, c3, us, by omega, by go_num, rfl, HU, by omega, by omega, ho3, hbw3⟩
            case measure => simp [intOf]; omega
          · have hjI : ¬ (j : Int) < (M : Int) := by omega
            have HY : Hid (expL (ts.take (k + 1)) = some ys) := by unfold Hid; rw [HN.out, hys.out, show j = M by omega]
            clear hys
            go_wp2_with fail
            go_roundw
            case rel => exact ⟨k + 1, A2, c2, ys, by omega, by go_num, rfl, HY, by omega, ho2, hbw2⟩
            case measure => simp [intOf]; omega
    · have HF : Hid (expL ts = some o) := hid (exp_end hI.out (by omega))
      go_wp2_with fail
      go_ret2
      exact PLB_some HF.out ho hbw
end Go.Proofs.Ytamljhjbmeikiaa
