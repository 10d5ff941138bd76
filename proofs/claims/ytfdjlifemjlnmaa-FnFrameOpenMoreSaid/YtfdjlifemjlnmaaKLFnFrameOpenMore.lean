/- The law FnFrameOpenMore: a greater limit does no harm, whatever is drawn. No condition. -/
import Derived.Test.YtfdjlifemjlnmaaGDa
import Derived.Test.YtfdjlifemjlnmaaGCk
import Derived.Test.YtfdjlifemjlnmaaGPb
import Derived.Test.YtfdjlifemjlnmaaGMa
namespace Go.Proofs.Ytfdjlifemjlnmaa
open Go Go.RowKit Go.ChangeShapes Go.WideShapes Go.ChangeAt Go.Joins

set_option maxHeartbeats 1000000 in
theorem FnFrameOpenMore_walk (A : Option Addr) (c : Nat) (bs : List Int) (w : World) (hr : RY w A c bs) : Calls Try.prog 12 #[.slice A bs.length c] w (PT w) := by
  by_cases hbig : 1048576 < bs.length
  · go_enter Try.func12, Try.ntmps12
    go_wp2_with fail
    go_ret
    exact ⟨rfl, Below.refl _ _⟩
  have hb : bs.length ≤ 1048576 := by omega
  clear hbig
  go_enter Try.func12, Try.ntmps12
  go_wp2_with fail
  refine (DrawFrameOpen_any _ _ _ _ hr).mono ?_
  rintro e w1 ⟨A1, c1, xs, most, rfl, ho1, hl1, hmlo, hmhi, hb1⟩
  go_wp2_with fail
  refine (FrameOpen_any _ _ _ _ _ ho1.ri (by omega)).mono ?_
  rintro e w2 ⟨A2, c2, ys, n, hys, hn, hoy, rfl, hb2⟩
  have ho2 := ho1.below hb2
  go_wp2_with fail
  refine (sFrameOpen_any _ _ _ _ _ ho2.ri (by omega)).mono ?_
  rintro e w3 ⟨A3, c3, ys', n', hys', hn', hoy', rfl, hb3⟩
  obtain rfl : ys = ys' := hys.out.trans hys'.out.symm
  obtain rfl : n = n' := hn.out.trans hn'.out.symm
  clear hys' hn'
  have HFO : Hid (foF xs most = (ys, n)) := by unfold Hid; rw [hys.out, hn.out]
  have ho3 := ho2.below hb3
  have hoy3 := hoy.below hb3
  have hnn : (n != n) = false := by simp
  have hnq : (n == n) = true := by simp
  go_wp2_with fail
  refine (sameInts_any _ _ _ _ _ _ _ hoy3.ri hoy'.ri).mono ?_
  rintro e w4 ⟨q, hq, rfl, hb4⟩
  obtain rfl : q = true := hq.out.trans (by simp)
  clear hq
  have ho4 := ho3.below hb4
  have hoy4 := hoy3.below hb4
  have hoy4' := hoy'.below hb4
  have hbA := below_on (below_on (below_on hb1 hb2) hb3) hb4
  clear ho1 ho2 ho3 hoy hoy3 hoy' hb1 hb2 hb3 hb4 hys hn
  by_cases hz : n = 0
  rotate_left
  · have hq0 : (n != 0) = true := by rw [bne_iff_ne]; exact hz
    clear hz
    go_wp2_with fail
    refine (sameInts_any _ _ _ _ _ _ _ hoy4.ri hoy4'.ri).mono ?_
    rintro e w5 ⟨q, hq, rfl, hb5⟩
    obtain rfl : q = true := hq.out.trans (by simp)
    clear hq
    go_wp2_with fail
    go_ret
    exact ⟨rfl, below_on hbA hb5⟩
  subst hz
  have HFM : Hid (foF xs (most + 1) = (ys, 0)) := hid (foF_more HFO.out (by omega))
  go_wp2_with fail
  refine (FrameOpen_any _ _ _ _ _ ho4.ri (by omega)).mono ?_
  rintro e w5 ⟨A5, c5, zs, m5, hzs, hm5, hoz, rfl, hb5⟩
  rw [HFM.out] at hzs hm5
  obtain rfl : ys = zs := hzs.out.symm
  obtain rfl : m5 = 0 := hm5.out
  have hoy5 := hoy4.below hb5
  clear hzs hm5
  go_wp2_with fail
  refine (sameInts_any _ _ _ _ _ _ _ hoz.ri hoy5.ri).mono ?_
  rintro e w6 ⟨q, hq, rfl, hb6⟩
  obtain rfl : q = true := hq.out.trans (by simp)
  clear hq
  go_wp2_with fail
  go_ret
  exact ⟨rfl, below_on (below_on hbA hb5) hb6⟩

set_option maxRecDepth 100000 in
theorem FnFrameOpenMore_lifted (os : Os) (started : os.Started) (H : Type) (enc : TypeId × Value → H) :
    ReturnsInHanded {} Try.checked os 12 .any (Rows.fnFrameOpenMoreSpec.pre6 enc Try.prog Try.f12 Rows.fnFrameOpenMoreRow.domain false) (Rows.fnFrameOpenMoreSpec.post enc Try.prog Try.f12 false true false false) := by
  refine returnsInHanded_of_change (C := Try.checked) own started (by kernel_rfl) Try.func12
    (ChangeSpec.witness6 (enc := enc) (C := Try.checked) false ⟨#[], #[.slice none 0 0], []⟩ 8 (by kernel_rfl) (by kernel_rfl) (by kernel_rfl) (by kernel_rfl)) ?_
  intro W base args ds gs before hval0 hW hcnd _
  have hval : ∀ (j : Nat) t v, Try.f12.params[j]? = some t → args[j]? = some v → Value.okWide Try.prog W .any base t v := hval0
  have hW' := hW
  obtain ⟨p, q, hA0, hV, rfl, hfz, hnd⟩ := hW
  have hA : DataW.TrodAll enc Try.prog W 0 (fun _ => true) true Try.f12.params.toList args.toList ds p := hA0
  rw [Try.params12] at hA hval
  obtain ⟨v0, vs0, d0, ds0, p0, q0, hargs, rfl, rfl, h0, r0⟩ := trodAll_cons hA
  obtain ⟨rfl, rfl, rfl⟩ := trodAll_nil r0
  obtain rfl : args = #[v0] := by cases args; simp_all
  obtain ⟨rfl, rfl⟩ := trodVars_none hV
  have k0 := h0
  have lt0 : ∀ x ∈ p0, x.block < W.heap.size := by obtain ⟨m, hm⟩ := k0; exact DataW.trod_lt m _ _ _ hm
  obtain ⟨A0, c0, xs0, hv0, w0, wf0⟩ := open_row Try.underlying22 Try.underlying5 (by kernel_rfl) (hval 0 22 v0 rfl rfl) h0
  subst hv0
  have w0 : RY W A0 c0 xs0 := ⟨w0, fun b hb => bounds_u8 (wf0 b hb)⟩
  clear hA0 hval0
  refine (FnFrameOpenMore_walk A0 c0 xs0 W w0).mono fun e W' ⟨he, bel⟩ => ?_
  subst he
  exact ⟨_, rfl, _, _, _, [], _, [], hW', trodAll_mk1 (shut_bool Try.underlying4 _), (trodAll_cons_mk (Below.trod laidOut (by kernel_rfl) (of_decide_eq_true (by kernel_rfl)) k0 bel lt0) trodAll_mk0), rfl, bel.frame _, fun h => by cases h⟩

theorem FnFrameOpenMore_holds : Rows.FnFrameOpenMoreSaid :=
  OpenClaim.holds_of_wide 12 Try.f12 rfl rfl rfl rfl rfl rfl rfl ⟨rfl, rfl, rfl, rfl, rfl⟩ rfl rfl rfl rfl rfl (by kernel_rfl) Try.func12 (by kernel_rfl)
    (of_decide_eq_true (by kernel_rfl)) (by unfold Func.isWrapper; first | (rw [if_pos (by decide +kernel)]; kernel_rfl) | (rw [if_neg (by decide +kernel)]; exact ⟨rfl, rfl⟩))
    (fun os started H enc _ => FnFrameOpenMore_lifted os started H enc)

end Go.Proofs.Ytfdjlifemjlnmaa
