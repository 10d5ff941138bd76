/- The law FnFrameMost: too many symbols are refused, whatever is drawn. No condition. -/
import Derived.Test.YtfdjlifemjlnmaaGDa
import Derived.Test.YtfdjlifemjlnmaaGCk
import Derived.Test.YtfdjlifemjlnmaaGPb
import Derived.Test.YtfdjlifemjlnmaaGMa
namespace Go.Proofs.Ytfdjlifemjlnmaa
open Go Go.RowKit Go.ChangeShapes Go.WideShapes Go.ChangeAt Go.Joins

set_option maxHeartbeats 1000000 in
theorem FnFrameMost_walk (A : Option Addr) (c : Nat) (bs : List Int) (A0 : Option Addr) (c0 : Nat) (bs2 : List Int) (w : World) (hr : RY w A c bs) (_ : RY w A0 c0 bs2) : Calls Try.prog 5 #[.slice A bs.length c, .slice A0 bs2.length c0] w (PT w) := by
  by_cases hbig : 1048576 < bs.length
  · go_enter Try.func5, Try.ntmps5
    go_wp2_with fail
    go_ret
    exact ⟨rfl, Below.refl _ _⟩
  have hb : bs.length ≤ 1048576 := by omega
  clear hbig
  by_cases hbig : 1048576 < bs2.length
  · go_enter Try.func5, Try.ntmps5
    go_wp2_with fail
    go_ret
    exact ⟨rfl, Below.refl _ _⟩
  have hbB : bs2.length ≤ 1048576 := by omega
  clear hbig
  go_enter Try.func5, Try.ntmps5
  go_wp2_with fail
  refine (DrawFramePack_any _ _ _ _ hr).mono ?_
  rintro e w1 ⟨A1, c1, xs, n, rfl, ho1, hl1, hb1⟩
  go_wp2_with fail
  refine (FramePack_any _ _ _ _ _ ho1.ri).mono ?_
  rintro e w2 ⟨A2, c2, ys, ok, hys, hok, hoy, rfl, hb2⟩
  have ho2 := ho1.below hb2
  go_wp2_with fail
  refine (sFramePack_any _ _ _ _ _ ho2.ri).mono ?_
  rintro e w3 ⟨A3, c3, ys', ok', hys', hok', hoy', rfl, hb3⟩
  obtain rfl : ys = ys' := hys.out.trans hys'.out.symm
  obtain rfl : ok = ok' := hok.out.trans hok'.out.symm
  clear hys' hok'
  have ho3 := ho2.below hb3
  have hoy3 := hoy.below hb3
  have hne : (ok != ok) = false := by simp
  go_wp2_with fail
  refine (sameInts_any _ _ _ _ _ _ _ hoy3.ri hoy'.ri).mono ?_
  rintro e w4 ⟨q, hq, rfl, hb4⟩
  obtain rfl : q = true := hq.out.trans (by simp)
  clear hq
  have ho4 := ho3.below hb4
  have hoy4 := hoy3.below hb4
  have hoy4' := hoy'.below hb4
  clear ho1 ho2 ho3 hoy hoy3 hoy' hne
  cases ok with
  | false =>
    go_wp2_with fail
    refine (sameInts_any _ _ _ _ _ _ _ hoy4.ri hoy4'.ri).mono ?_
    rintro e w5 ⟨q, hq, rfl, hb5⟩
    obtain rfl : q = true := hq.out.trans (by simp)
    clear hq
    go_wp2_with fail
    go_ret
    exact ⟨rfl, (by repeat (first | exact Below.refl _ _ | refine below_on ?_ (below_new _ _) | refine below_drewN ?_ _ | refine below_on ?_ (by assumption)))⟩
  | true =>
    have HFP : Hid (frameF xs n = some ys) := by
      unfold Hid
      cases h : frameF xs n with
      | none => have := hok.out; rw [h] at this; cases this
      | some z => have := hys.out; rw [h] at this; rw [this]; rfl
    obtain ⟨hok', s, rfl, hs1, hs40, hyb⟩ := frameF_some HFP.out
    have HOK := hid hok'
    have HYB := hid hyb
    have hxl := (txOk_iff.1 hok').1
    have HC : Hid ((chunks s xs).length = (xs.length + s - 1) / s) := hid (chunks_len (by omega) _ xs (Nat.le_refl _))
    have HK : Hid (fkF ys = ((chunks s xs).length : Int)) := by unfold Hid; rw [HYB.out]; exact fkF_frame HOK.out hs40
    have HO : Hid (∀ most : Int, foF ys most = if most < (xs.length : Int) then ([], 2) else (xs, 0)) := hid fun most => by rw [HYB.out]; exact foF_frame HOK.out hs1 hs40
    obtain ⟨hylA, hylB⟩ : ys.length ≤ xs.length + 2 * (chunks s xs).length + 4 ∧ 4 ≤ ys.length := by rw [hyb]; exact frameB_bound hxl
    have hcl := chunks_le (s := s) _ xs (Nat.le_refl _)
    have hyl : ys.length ≤ 1000 := by omega
    have hbA := below_on (below_on (below_on hb1 hb2) hb3) hb4
    obtain ⟨K, hK⟩ : ∃ K, K = (chunks s xs).length := ⟨_, rfl⟩
    rw [← hK] at HC HK hylA hcl
    clear hys hok hb1 hb2 hb3 hb4 hok' hyb hK hoy4'
    go_wp2_with fail
    refine (FrameOpen_any _ _ _ _ _ hoy4.ri (by omega)).mono ?_
    rintro e w5 ⟨A5, c5, zs, m5, hzs, hm5, hoz, rfl, hb5⟩
    have ho5 := ho4.below hb5
    rw [HO.out] at hzs hm5
    by_cases hlt : (bs2.length : Int) * 2 < (xs.length : Int)
    · rw [if_pos hlt] at hzs hm5
      obtain rfl : zs = [] := hzs.out
      obtain rfl : m5 = 2 := hm5.out
      have hg : ¬ (xs.length : Int) ≤ (bs2.length : Int) * 2 := by omega
      clear hzs hm5 hlt
      go_wp2_with fail
      go_ret
      exact ⟨rfl, below_on hbA hb5⟩
    · rw [if_neg hlt] at hzs hm5
      obtain rfl : xs = zs := hzs.out.symm
      obtain rfl : m5 = 0 := hm5.out
      have hg : (xs.length : Int) ≤ (bs2.length : Int) * 2 := by omega
      clear hzs hm5 hlt
      go_wp2_with fail
      refine (sameInts_any _ _ _ _ _ _ _ hoz.ri ho5.ri).mono ?_
      rintro e w6 ⟨q, hq, rfl, hb6⟩
      obtain rfl : q = true := hq.out.trans (by simp)
      clear hq
      go_wp2_with fail
      go_ret
      exact ⟨rfl, below_on (below_on hbA hb5) hb6⟩

set_option maxRecDepth 100000 in
theorem FnFrameMost_lifted (os : Os) (started : os.Started) (H : Type) (enc : TypeId × Value → H) :
    ReturnsInHanded {} Try.checked os 5 .any (Rows.fnFrameMostSpec.pre6 enc Try.prog Try.f5 Rows.fnFrameMostRow.domain false) (Rows.fnFrameMostSpec.post enc Try.prog Try.f5 false true false false) := by
  refine returnsInHanded_of_change (C := Try.checked) own started (by kernel_rfl) Try.func5
    (ChangeSpec.witness6 (enc := enc) (C := Try.checked) false ⟨#[], #[.slice none 0 0, .slice none 0 0], []⟩ 8 (by kernel_rfl) (by kernel_rfl) (by kernel_rfl) (by kernel_rfl)) ?_
  intro W base args ds gs before hval0 hW hcnd _
  have hval : ∀ (j : Nat) t v, Try.f5.params[j]? = some t → args[j]? = some v → Value.okWide Try.prog W .any base t v := hval0
  have hW' := hW
  obtain ⟨p, q, hA0, hV, rfl, hfz, hnd⟩ := hW
  have hA : DataW.TrodAll enc Try.prog W 0 (fun _ => true) true Try.f5.params.toList args.toList ds p := hA0
  rw [Try.params5] at hA hval
  obtain ⟨v0, vs0, d0, ds0, p0, q0, hargs, rfl, rfl, h0, r0⟩ := trodAll_cons hA
  obtain ⟨v1, vs1, d1, ds1, p1, q1, rfl, rfl, rfl, h1, r1⟩ := trodAll_cons r0
  obtain ⟨rfl, rfl, rfl⟩ := trodAll_nil r1
  obtain rfl : args = #[v0, v1] := by cases args; simp_all
  obtain ⟨rfl, rfl⟩ := trodVars_none hV
  have k0 := h0
  have lt0 : ∀ x ∈ p0, x.block < W.heap.size := by obtain ⟨m, hm⟩ := k0; exact DataW.trod_lt m _ _ _ hm
  obtain ⟨A0, c0, xs0, hv0, w0, wf0⟩ := open_row Try.underlying22 Try.underlying5 (by kernel_rfl) (hval 0 22 v0 rfl rfl) h0
  subst hv0
  have w0 : RY W A0 c0 xs0 := ⟨w0, fun b hb => bounds_u8 (wf0 b hb)⟩
  have k1 := h1
  have lt1 : ∀ x ∈ p1, x.block < W.heap.size := by obtain ⟨m, hm⟩ := k1; exact DataW.trod_lt m _ _ _ hm
  obtain ⟨A1, c1, xs1, hv1, w1, wf1⟩ := open_row Try.underlying22 Try.underlying5 (by kernel_rfl) (hval 1 22 v1 rfl rfl) h1
  subst hv1
  have w1 : RY W A1 c1 xs1 := ⟨w1, fun b hb => bounds_u8 (wf1 b hb)⟩
  clear hA0 hval0
  refine (FnFrameMost_walk A0 c0 xs0 A1 c1 xs1 W w0 w1).mono fun e W' ⟨he, bel⟩ => ?_
  subst he
  exact ⟨_, rfl, _, _, _, [], _, [], hW', trodAll_mk1 (shut_bool Try.underlying4 _), (trodAll_cons_mk (Below.trod laidOut (by kernel_rfl) (of_decide_eq_true (by kernel_rfl)) k0 bel lt0) (trodAll_cons_mk (Below.trod laidOut (by kernel_rfl) (of_decide_eq_true (by kernel_rfl)) k1 bel lt1) trodAll_mk0)), rfl, bel.frame _, fun h => by cases h⟩

theorem FnFrameMost_holds : Rows.FnFrameMostSaid :=
  OpenClaim.holds_of_wide 5 Try.f5 rfl rfl rfl rfl rfl rfl rfl ⟨rfl, rfl, rfl, rfl, rfl⟩ rfl rfl rfl rfl rfl (by kernel_rfl) Try.func5 (by kernel_rfl)
    (of_decide_eq_true (by kernel_rfl)) (by unfold Func.isWrapper; first | (rw [if_pos (by decide +kernel)]; kernel_rfl) | (rw [if_neg (by decide +kernel)]; exact ⟨rfl, rfl⟩))
    (fun os started H enc _ => FnFrameMost_lifted os started H enc)

end Go.Proofs.Ytfdjlifemjlnmaa
