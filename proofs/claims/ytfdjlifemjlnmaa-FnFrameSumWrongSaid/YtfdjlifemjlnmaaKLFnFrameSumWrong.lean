/- The law FnFrameSumWrong: wrong sums are noticed, whatever is drawn. No condition. -/
import Derived.Test.YtfdjlifemjlnmaaGDa
import Derived.Test.YtfdjlifemjlnmaaGCk
import Derived.Test.YtfdjlifemjlnmaaGPb
import Derived.Test.YtfdjlifemjlnmaaGMa
namespace Go.Proofs.Ytfdjlifemjlnmaa
open Go Go.RowKit Go.ChangeShapes Go.WideShapes Go.ChangeAt Go.Joins

theorem FrameOpen_len (A : Option Addr) (c n : Nat) (bs : List Int) (m : Int) (w : World) (hn : n = bs.length) (hr : RI w A c bs) (hl : n ≤ 1099511627776) : Calls Try.prog 20 #[.slice A n c, .int .i64 m] w (PLN w (foF bs m)) := by
  subst hn; exact FrameOpen_any A c bs m w hr hl
set_option maxHeartbeats 1000000 in
theorem FnFrameSumWrong_walk (A : Option Addr) (c : Nat) (bs : List Int) (A0 : Option Addr) (c0 : Nat) (bs2 : List Int) (w : World) (hr : RY w A c bs) (_ : RY w A0 c0 bs2) : Calls Try.prog 7 #[.slice A bs.length c, .slice A0 bs2.length c0] w (PT w) := by
  by_cases hbig : 1048576 < bs.length
  · go_enter Try.func7, Try.ntmps7
    go_wp2_with fail
    go_ret
    exact ⟨rfl, Below.refl _ _⟩
  have hb : bs.length ≤ 1048576 := by omega
  clear hbig
  by_cases hbig : 1048576 < bs2.length
  · go_enter Try.func7, Try.ntmps7
    go_wp2_with fail
    go_ret
    exact ⟨rfl, Below.refl _ _⟩
  have hbB : bs2.length ≤ 1048576 := by omega
  clear hbig
  go_enter Try.func7, Try.ntmps7
  go_wp2_with fail
  refine (DrawFramePack_any _ _ _ _ hr).mono ?_
  rintro e w1 ⟨A1, c1, xs, n, rfl, ho1, hl1, hb1⟩
  go_wp2_with fail
  refine (FramePack_any _ _ _ _ _ ho1.ri).mono ?_
  rintro e w2 ⟨A2, c2, ys, ok, hys, hok, hoy, rfl, hb2⟩
  have ho2 := ho1.below hb2
  go_wp2_with fail
  refine (sFramePack_any _ _ _ _ _ ho2.ri).mono ?_
  rintro e w3 ⟨A3, c3, ys', ok', hys', hok', hoy', rfl, hb3⟩
  obtain rfl : ys = ys' := hys.out.trans hys'.out.symm
  obtain rfl : ok = ok' := hok.out.trans hok'.out.symm
  clear hys' hok'
  have ho3 := ho2.below hb3
  have hoy3 := hoy.below hb3
  have hne : (ok != ok) = false := by simp
  go_wp2_with fail
  refine (sameInts_any _ _ _ _ _ _ _ hoy3.ri hoy'.ri).mono ?_
  rintro e w4 ⟨q, hq, rfl, hb4⟩
  obtain rfl : q = true := hq.out.trans (by simp)
  clear hq
  have ho4 := ho3.below hb4
  have hoy4 := hoy3.below hb4
  have hoy4' := hoy'.below hb4
  clear ho1 ho2 ho3 hoy hoy3 hoy' hne
  cases ok with
  | false =>
    go_wp2_with fail
    refine (sameInts_any _ _ _ _ _ _ _ hoy4.ri hoy4'.ri).mono ?_
    rintro e w5 ⟨q, hq, rfl, hb5⟩
    obtain rfl : q = true := hq.out.trans (by simp)
    clear hq
    go_wp2_with fail
    go_ret
    exact ⟨rfl, (by repeat (first | exact Below.refl _ _ | refine below_on ?_ (below_new _ _) | refine below_drewN ?_ _ | refine below_on ?_ (by assumption)))⟩
  | true =>
    have HFP : Hid (frameF xs n = some ys) := by
      unfold Hid
      cases h : frameF xs n with
      | none => have := hok.out; rw [h] at this; cases this
      | some z => have := hys.out; rw [h] at this; rw [this]; rfl
    obtain ⟨hok', s, rfl, hs1, hs40, hyb⟩ := frameF_some HFP.out
    have HOK := hid hok'
    have HYB := hid hyb
    have hxl := (txOk_iff.1 hok').1
    have HC : Hid ((chunks s xs).length = (xs.length + s - 1) / s) := hid (chunks_len (by omega) _ xs (Nat.le_refl _))
    have HK : Hid (fkF ys = ((chunks s xs).length : Int)) := by unfold Hid; rw [HYB.out]; exact fkF_frame HOK.out hs40
    have HO : Hid (∀ most : Int, foF ys most = if most < (xs.length : Int) then ([], 2) else (xs, 0)) := hid fun most => by rw [HYB.out]; exact foF_frame HOK.out hs1 hs40
    obtain ⟨hylA, hylB⟩ : ys.length ≤ xs.length + 2 * (chunks s xs).length + 4 ∧ 4 ≤ ys.length := by rw [hyb]; exact frameB_bound hxl
    have hcl := chunks_le (s := s) _ xs (Nat.le_refl _)
    have hyl : ys.length ≤ 1000 := by omega
    have hbA := below_on (below_on (below_on hb1 hb2) hb3) hb4
    obtain ⟨K, hK⟩ : ∃ K, K = (chunks s xs).length := ⟨_, rfl⟩
    rw [← hK] at HC HK hylA hcl
    clear hys hok hb1 hb2 hb3 hb4 hok' hyb hK hoy4'
    have hps := pairS_bd xs
    obtain ⟨K2, HK2⟩ : ∃ K2 : Nat, Hid (K2 = ys.length - 1) := ⟨_, hid rfl⟩
    have hK2l : K2 < ys.length := by have := HK2.out; omega
    have hWk : IntKind.i64.wrap ((ys.length : Int) - 1) = (K2 : Int) := by rw [HK2.out]; rw [show (ys.length : Int) - 1 = ((ys.length - 1 : Nat) : Int) by omega]; exact IntWalk.i64_in _ (by omega)
    have hK2I : (K2 : Int) < (ys.length : Int) := by omega
    go_upto_region 10 with (at_builtin; refine wpl_app (xs := []) (ys := ys) intT rfl _ _ rfl rfl (OI.empty w4 w4.heap.size (Nat.le_refl _)) rfl (hoy4.ri.alloc _) (by simp; omega) (by simp) ?_; intro A5 c5 w5 us hu ho5 hg5 hat5; clear hat5; have hus : ys = us := hu.out.symm; subst hus)
    have hs45 : w4.heap.size ≤ w5.heap.size := by have h := hg5.size; simp at h; omega
    have hbw5 := OI.belowOwn (below_new w4 (.cells #[] 3)) (OI.empty w4 w4.heap.size (Nat.le_refl _)) hg5 (Nat.le_refl _)
    clear hu
    obtain ⟨ad, v, rfl, HX, hcv⟩ := ho5.ri.get (k := K2) hK2l
    have hvp : v = (pairS xs).2 := by
      have h := getD_hid HX.out
      rw [HK2.out, HYB.out, frameB_body_len, frameB_body, show (bodyB s xs).length + 2 - 1 = (bodyB s xs).length + 1 by omega, getD_left] at h
      exact h.symm
    obtain ⟨r, hr⟩ : ∃ r : Int, r = (bs2.length : Int) % 250 := ⟨_, rfl⟩
    have hr0 : 0 ≤ r := by omega
    have hr1 : r ≤ 249 := by omega
    have hv0 : 0 ≤ v := by omega
    have hv1 : v ≤ 250 := by omega
    obtain ⟨z, hz⟩ : ∃ z : Int, z = (v + 1 + r) % 256 := ⟨_, rfl⟩
    have hz0 : 0 ≤ z := by omega
    have hz1 : z ≤ 255 := by omega
    have hzv : z ≠ (pairS xs).2 := by omega
    have hfr := (ho5.store K2 0).2.2
    have HSET : Hid (foF (ys.set K2 z) 120 = ([], 3)) := by
      unfold Hid
      rw [HK2.out, HYB.out, frameB_set, foF_self HOK.out hs1 hs40 (byOk_all.2 fun y hy => by simp at hy; omega), if_neg (by omega), if_neg (fun h => hzv (by rw [h]))]
    have HCUT : Hid (foF (ys.take K2) 120 = ([], 1)) := by
      unfold Hid
      rw [HK2.out, HYB.out, frameB_take]
      refine foF_none9 ?_
      rw [frP_body HOK.out hs40 (byOk_all.2 fun y hy => by simp at hy; omega), if_neg (by simp)]
    have ho6 := ho5.store K2 z
    have hsl : (ys.set K2 z).length = ys.length := List.length_set
    obtain ⟨us, hus⟩ : ∃ us, us = ys.set K2 z := ⟨_, rfl⟩
    rw [← hus] at ho6 HSET hsl
    have hbw6 := OI.belowOwn hbw5 ho5 ho6.2.1 (Nat.le_refl _)
    have HUL : Hid (ys.length = us.length) := hid hsl.symm
    clear hps hvp hzv hus hsl
    have hcap2 := hoy4.ri.cap
    have hK2c : (K2 : Int) ≤ (c2 : Int) := by omega
    go_upto_region 11 with fail
    rw [← hr, ← hz]
    obtain ⟨ho6, -, -⟩ := ho6
    clear hr hz hfr hcv HX ho5 hg5 hbw5 hr0 hr1 hv0 hv1
    generalize w5.setCell (ad.add K2) (.int .i64 z) = w6 at *
    go_wp2_with fail
    refine (FrameOpen_len _ _ _ us _ _ HUL.out ho6.ri (by omega)).mono ?_
    rintro e w7 ⟨A7, c7, zs, m7, hzs, hm7, hoz, rfl, hb7⟩
    rw [HSET.out] at hm7
    obtain rfl : m7 = 3 := hm7.out
    clear hm7 hzs hoz ho6
    have hbw7 := below_on hbw6 hb7
    have hrt := RI.takeAt (hoy4.below hbw7).ri (k := K2) (by omega)
    have HTL : Hid (K2 = (ys.take K2).length) := by unfold Hid; rw [List.length_take]; omega
    go_wp2_with fail
    refine (FrameOpen_len _ _ _ _ _ _ HTL.out hrt (by omega)).mono ?_
    rintro e w8 ⟨A8, c8, ts, m8, hts, hm8, hot, rfl, hb8⟩
    rw [HCUT.out] at hm8
    obtain rfl : m8 = 1 := hm8.out
    clear hm8 hts hot
    go_wp2_with fail
    go_ret
    exact ⟨rfl, below_on (below_on hbA hbw7) hb8⟩

set_option maxRecDepth 100000 in
theorem FnFrameSumWrong_lifted (os : Os) (started : os.Started) (H : Type) (enc : TypeId × Value → H) :
    ReturnsInHanded {} Try.checked os 7 .any (Rows.fnFrameSumWrongSpec.pre6 enc Try.prog Try.f7 Rows.fnFrameSumWrongRow.domain false) (Rows.fnFrameSumWrongSpec.post enc Try.prog Try.f7 false true false false) := by
  refine returnsInHanded_of_change (C := Try.checked) own started (by kernel_rfl) Try.func7
    (ChangeSpec.witness6 (enc := enc) (C := Try.checked) false ⟨#[], #[.slice none 0 0, .slice none 0 0], []⟩ 8 (by kernel_rfl) (by kernel_rfl) (by kernel_rfl) (by kernel_rfl)) ?_
  intro W base args ds gs before hval0 hW hcnd _
  have hval : ∀ (j : Nat) t v, Try.f7.params[j]? = some t → args[j]? = some v → Value.okWide Try.prog W .any base t v := hval0
  have hW' := hW
  obtain ⟨p, q, hA0, hV, rfl, hfz, hnd⟩ := hW
  have hA : DataW.TrodAll enc Try.prog W 0 (fun _ => true) true Try.f7.params.toList args.toList ds p := hA0
  rw [Try.params7] at hA hval
  obtain ⟨v0, vs0, d0, ds0, p0, q0, hargs, rfl, rfl, h0, r0⟩ := trodAll_cons hA
  obtain ⟨v1, vs1, d1, ds1, p1, q1, rfl, rfl, rfl, h1, r1⟩ := trodAll_cons r0
  obtain ⟨rfl, rfl, rfl⟩ := trodAll_nil r1
  obtain rfl : args = #[v0, v1] := by cases args; simp_all
  obtain ⟨rfl, rfl⟩ := trodVars_none hV
  have k0 := h0
  have lt0 : ∀ x ∈ p0, x.block < W.heap.size := by obtain ⟨m, hm⟩ := k0; exact DataW.trod_lt m _ _ _ hm
  obtain ⟨A0, c0, xs0, hv0, w0, wf0⟩ := open_row Try.underlying22 Try.underlying5 (by kernel_rfl) (hval 0 22 v0 rfl rfl) h0
  subst hv0
  have w0 : RY W A0 c0 xs0 := ⟨w0, fun b hb => bounds_u8 (wf0 b hb)⟩
  have k1 := h1
  have lt1 : ∀ x ∈ p1, x.block < W.heap.size := by obtain ⟨m, hm⟩ := k1; exact DataW.trod_lt m _ _ _ hm
  obtain ⟨A1, c1, xs1, hv1, w1, wf1⟩ := open_row Try.underlying22 Try.underlying5 (by kernel_rfl) (hval 1 22 v1 rfl rfl) h1
  subst hv1
  have w1 : RY W A1 c1 xs1 := ⟨w1, fun b hb => bounds_u8 (wf1 b hb)⟩
  clear hA0 hval0
  refine (FnFrameSumWrong_walk A0 c0 xs0 A1 c1 xs1 W w0 w1).mono fun e W' ⟨he, bel⟩ => ?_
  subst he
  exact ⟨_, rfl, _, _, _, [], _, [], hW', trodAll_mk1 (shut_bool Try.underlying4 _), (trodAll_cons_mk (Below.trod laidOut (by kernel_rfl) (of_decide_eq_true (by kernel_rfl)) k0 bel lt0) (trodAll_cons_mk (Below.trod laidOut (by kernel_rfl) (of_decide_eq_true (by kernel_rfl)) k1 bel lt1) trodAll_mk0)), rfl, bel.frame _, fun h => by cases h⟩

theorem FnFrameSumWrong_holds : Rows.FnFrameSumWrongSaid :=
  OpenClaim.holds_of_wide 7 Try.f7 rfl rfl rfl rfl rfl rfl rfl ⟨rfl, rfl, rfl, rfl, rfl⟩ rfl rfl rfl rfl rfl (by kernel_rfl) Try.func7 (by kernel_rfl)
    (of_decide_eq_true (by kernel_rfl)) (by unfold Func.isWrapper; first | (rw [if_pos (by decide +kernel)]; kernel_rfl) | (rw [if_neg (by decide +kernel)]; exact ⟨rfl, rfl⟩))
    (fun os started H enc _ => FnFrameSumWrong_lifted os started H enc)

end Go.Proofs.Ytfdjlifemjlnmaa
