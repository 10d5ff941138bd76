/- The law FnFrameNone: an empty text has no blocks, whatever is drawn. No condition. -/
import Derived.Test.YtfdjlifemjlnmaaGDa
import Derived.Test.YtfdjlifemjlnmaaGCk
import Derived.Test.YtfdjlifemjlnmaaGPb
import Derived.Test.YtfdjlifemjlnmaaGMa
namespace Go.Proofs.Ytfdjlifemjlnmaa
open Go Go.RowKit Go.ChangeShapes Go.WideShapes Go.ChangeAt Go.Joins

set_option maxHeartbeats 1000000 in
theorem FnFrameNone_walk (A : Option Addr) (c : Nat) (bs : List Int) (w : World) (hr : RY w A c bs) : Calls Try.prog 4 #[.slice A bs.length c] w (PT w) := by
  by_cases hbig : 1048576 < bs.length
  · go_enter Try.func4, Try.ntmps4
    go_wp2_with fail
    go_ret
    exact ⟨rfl, Below.refl _ _⟩
  have hb : bs.length ≤ 1048576 := by omega
  clear hbig
  go_enter Try.func4, Try.ntmps4
  go_wp2_with fail
  refine (DrawFramePack_any _ _ _ _ hr).mono ?_
  rintro e w1 ⟨A1, c1, xs, n, rfl, ho1, hl1, hb1⟩
  go_wp2_with fail
  refine (FramePack_any _ _ _ _ _ ho1.ri).mono ?_
  rintro e w2 ⟨A2, c2, ys, ok, hys, hok, hoy, rfl, hb2⟩
  have ho2 := ho1.below hb2
  go_wp2_with fail
  refine (sFramePack_any _ _ _ _ _ ho2.ri).mono ?_
  rintro e w3 ⟨A3, c3, ys', ok', hys', hok', hoy', rfl, hb3⟩
  obtain rfl : ys = ys' := hys.out.trans hys'.out.symm
  obtain rfl : ok = ok' := hok.out.trans hok'.out.symm
  clear hys' hok'
  have ho3 := ho2.below hb3
  have hoy3 := hoy.below hb3
  have hne : (ok != ok) = false := by simp
  go_wp2_with fail
  refine (sameInts_any _ _ _ _ _ _ _ hoy3.ri hoy'.ri).mono ?_
  rintro e w4 ⟨q, hq, rfl, hb4⟩
  obtain rfl : q = true := hq.out.trans (by simp)
  clear hq
  have ho4 := ho3.below hb4
  have hoy4 := hoy3.below hb4
  have hoy4' := hoy'.below hb4
  clear ho1 ho2 ho3 hoy hoy3 hoy' hne
  cases ok with
  | false =>
    go_wp2_with fail
    refine (sameInts_any _ _ _ _ _ _ _ hoy4.ri hoy4'.ri).mono ?_
    rintro e w5 ⟨q, hq, rfl, hb5⟩
    obtain rfl : q = true := hq.out.trans (by simp)
    clear hq
    go_wp2_with fail
    go_ret
    exact ⟨rfl, (by repeat (first | exact Below.refl _ _ | refine below_on ?_ (below_new _ _) | refine below_drewN ?_ _ | refine below_on ?_ (by assumption)))⟩
  | true =>
    have HFP : Hid (frameF xs n = some ys) := by
      unfold Hid
      cases h : frameF xs n with
      | none => have := hok.out; rw [h] at this; cases this
      | some z => have := hys.out; rw [h] at this; rw [this]; rfl
    obtain ⟨hok', s, rfl, hs1, hs40, hyb⟩ := frameF_some HFP.out
    have HOK := hid hok'
    have HYB := hid hyb
    have hxl := (txOk_iff.1 hok').1
    have HC : Hid ((chunks s xs).length = (xs.length + s - 1) / s) := hid (chunks_len (by omega) _ xs (Nat.le_refl _))
    have HK : Hid (fkF ys = ((chunks s xs).length : Int)) := by unfold Hid; rw [HYB.out]; exact fkF_frame HOK.out hs40
    have HO : Hid (∀ most : Int, foF ys most = if most < (xs.length : Int) then ([], 2) else (xs, 0)) := hid fun most => by rw [HYB.out]; exact foF_frame HOK.out hs1 hs40
    obtain ⟨hylA, hylB⟩ : ys.length ≤ xs.length + 2 * (chunks s xs).length + 4 ∧ 4 ≤ ys.length := by rw [hyb]; exact frameB_bound hxl
    have hcl := chunks_le (s := s) _ xs (Nat.le_refl _)
    have hyl : ys.length ≤ 1000 := by omega
    have hbA := below_on (below_on (below_on hb1 hb2) hb3) hb4
    obtain ⟨K, hK⟩ : ∃ K, K = (chunks s xs).length := ⟨_, rfl⟩
    rw [← hK] at HC HK hylA hcl
    clear hys hok hb1 hb2 hb3 hb4 hok' hyb hK hoy4'
    go_wp2_with fail
    refine (FrameBlocks_any _ _ _ _ hoy4.ri (by omega)).mono ?_
    rintro e w5 ⟨m, hm, rfl, hb5⟩
    obtain rfl : m = (K : Int) := hm.out.trans HK.out
    have hKz : K = 0 ↔ xs.length = 0 := by
      rw [HC.out]
      constructor
      · intro h
        have := Nat.div_eq_zero_iff.1 h
        omega
      · intro h
        exact Nat.div_eq_of_lt (by omega)
    have hg : (K : Int) ≤ (xs.length : Int) := by omega
    have hbZ := below_on hbA hb5
    clear hm
    by_cases h0 : K = 0
    · have hq1 : ((K : Int) == 0) = true := by simp [h0]
      have hq2 : ((xs.length : Int) == 0) = true := by simp [hKz.1 h0]
      clear h0 hKz
      go_wp2_with fail
      go_ret
      exact ⟨rfl, hbZ⟩
    · have hq1 : ((K : Int) == 0) = false := by rw [beq_eq_false_iff_ne]; omega
      have hq2 : ((xs.length : Int) == 0) = false := by rw [beq_eq_false_iff_ne]; omega
      clear h0 hKz
      go_wp2_with fail
      go_ret
      exact ⟨rfl, hbZ⟩

set_option maxRecDepth 100000 in
theorem FnFrameNone_lifted (os : Os) (started : os.Started) (H : Type) (enc : TypeId × Value → H) :
    ReturnsInHanded {} Try.checked os 4 .any (Rows.fnFrameNoneSpec.pre6 enc Try.prog Try.f4 Rows.fnFrameNoneRow.domain false) (Rows.fnFrameNoneSpec.post enc Try.prog Try.f4 false true false false) := by
  refine returnsInHanded_of_change (C := Try.checked) own started (by kernel_rfl) Try.func4
    (ChangeSpec.witness6 (enc := enc) (C := Try.checked) false ⟨#[], #[.slice none 0 0], []⟩ 8 (by kernel_rfl) (by kernel_rfl) (by kernel_rfl) (by kernel_rfl)) ?_
  intro W base args ds gs before hval0 hW hcnd _
  have hval : ∀ (j : Nat) t v, Try.f4.params[j]? = some t → args[j]? = some v → Value.okWide Try.prog W .any base t v := hval0
  have hW' := hW
  obtain ⟨p, q, hA0, hV, rfl, hfz, hnd⟩ := hW
  have hA : DataW.TrodAll enc Try.prog W 0 (fun _ => true) true Try.f4.params.toList args.toList ds p := hA0
  rw [Try.params4] at hA hval
  obtain ⟨v0, vs0, d0, ds0, p0, q0, hargs, rfl, rfl, h0, r0⟩ := trodAll_cons hA
  obtain ⟨rfl, rfl, rfl⟩ := trodAll_nil r0
  obtain rfl : args = #[v0] := by cases args; simp_all
  obtain ⟨rfl, rfl⟩ := trodVars_none hV
  have k0 := h0
  have lt0 : ∀ x ∈ p0, x.block < W.heap.size := by obtain ⟨m, hm⟩ := k0; exact DataW.trod_lt m _ _ _ hm
  obtain ⟨A0, c0, xs0, hv0, w0, wf0⟩ := open_row Try.underlying22 Try.underlying5 (by kernel_rfl) (hval 0 22 v0 rfl rfl) h0
  subst hv0
  have w0 : RY W A0 c0 xs0 := ⟨w0, fun b hb => bounds_u8 (wf0 b hb)⟩
  clear hA0 hval0
  refine (FnFrameNone_walk A0 c0 xs0 W w0).mono fun e W' ⟨he, bel⟩ => ?_
  subst he
  exact ⟨_, rfl, _, _, _, [], _, [], hW', trodAll_mk1 (shut_bool Try.underlying4 _), (trodAll_cons_mk (Below.trod laidOut (by kernel_rfl) (of_decide_eq_true (by kernel_rfl)) k0 bel lt0) trodAll_mk0), rfl, bel.frame _, fun h => by cases h⟩

theorem FnFrameNone_holds : Rows.FnFrameNoneSaid :=
  OpenClaim.holds_of_wide 4 Try.f4 rfl rfl rfl rfl rfl rfl rfl ⟨rfl, rfl, rfl, rfl, rfl⟩ rfl rfl rfl rfl rfl (by kernel_rfl) Try.func4 (by kernel_rfl)
    (of_decide_eq_true (by kernel_rfl)) (by unfold Func.isWrapper; first | (rw [if_pos (by decide +kernel)]; kernel_rfl) | (rw [if_neg (by decide +kernel)]; exact ⟨rfl, rfl⟩))
    (fun os started H enc _ => FnFrameNone_lifted os started H enc)

end Go.Proofs.Ytfdjlifemjlnmaa
