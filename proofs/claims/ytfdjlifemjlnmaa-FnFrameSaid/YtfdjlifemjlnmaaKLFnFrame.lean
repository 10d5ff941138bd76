/- The law FnFrame: a frame is read, whatever is drawn. No condition. -/
import Derived.Test.YtfdjlifemjlnmaaGDa
import Derived.Test.YtfdjlifemjlnmaaGCk
import Derived.Test.YtfdjlifemjlnmaaGPb
import Derived.Test.YtfdjlifemjlnmaaGMa
namespace Go.Proofs.Ytfdjlifemjlnmaa
open Go Go.RowKit Go.ChangeShapes Go.WideShapes Go.ChangeAt Go.Joins

set_option maxHeartbeats 1000000 in
theorem FnFrame_walk (A : Option Addr) (c : Nat) (bs : List Int) (w : World) (hr : RY w A c bs) : Calls Try.prog 8 #[.slice A bs.length c] w (PT w) := by
  by_cases hbig : 1048576 < bs.length
  · go_enter Try.func8, Try.ntmps8
    go_wp2_with fail
    go_ret
    exact ⟨rfl, Below.refl _ _⟩
  have hb : bs.length ≤ 1048576 := by omega
  clear hbig
  go_enter Try.func8, Try.ntmps8
  go_wp2_with fail
  refine (DrawFramePack_any _ _ _ _ hr).mono ?_
  rintro e w1 ⟨A1, c1, xs, n, rfl, ho1, hl1, hb1⟩
  go_wp2_with fail
  refine (FramePack_any _ _ _ _ _ ho1.ri).mono ?_
  rintro e w2 ⟨A2, c2, ys, ok, hys, hok, hoy, rfl, hb2⟩
  have ho2 := ho1.below hb2
  go_wp2_with fail
  refine (sFramePack_any _ _ _ _ _ ho2.ri).mono ?_
  rintro e w3 ⟨A3, c3, ys', ok', hys', hok', hoy', rfl, hb3⟩
  obtain rfl : ys = ys' := hys.out.trans hys'.out.symm
  obtain rfl : ok = ok' := hok.out.trans hok'.out.symm
  clear hys' hok'
  have ho3 := ho2.below hb3
  have hoy3 := hoy.below hb3
  have hne : (ok != ok) = false := by simp
  go_wp2_with fail
  refine (sameInts_any _ _ _ _ _ _ _ hoy3.ri hoy'.ri).mono ?_
  rintro e w4 ⟨q, hq, rfl, hb4⟩
  obtain rfl : q = true := hq.out.trans (by simp)
  clear hq
  have ho4 := ho3.below hb4
  have hoy4 := hoy3.below hb4
  have hoy4' := hoy'.below hb4
  clear ho1 ho2 ho3 hoy hoy3 hoy' hne
  cases ok with
  | false =>
    go_wp2_with fail
    refine (sameInts_any _ _ _ _ _ _ _ hoy4.ri hoy4'.ri).mono ?_
    rintro e w5 ⟨q, hq, rfl, hb5⟩
    obtain rfl : q = true := hq.out.trans (by simp)
    clear hq
    go_wp2_with fail
    go_ret
    exact ⟨rfl, (by repeat (first | exact Below.refl _ _ | refine below_on ?_ (below_new _ _) | refine below_drewN ?_ _ | refine below_on ?_ (by assumption)))⟩
  | true =>
    have HFP : Hid (frameF xs n = some ys) := by
      unfold Hid
      cases h : frameF xs n with
      | none => have := hok.out; rw [h] at this; cases this
      | some z => have := hys.out; rw [h] at this; rw [this]; rfl
    obtain ⟨hok', s, rfl, hs1, hs40, hyb⟩ := frameF_some HFP.out
    have HOK := hid hok'
    have HYB := hid hyb
    have hxl := (txOk_iff.1 hok').1
    have HC : Hid ((chunks s xs).length = (xs.length + s - 1) / s) := hid (chunks_len (by omega) _ xs (Nat.le_refl _))
    have HK : Hid (fkF ys = ((chunks s xs).length : Int)) := by unfold Hid; rw [HYB.out]; exact fkF_frame HOK.out hs40
    have HO : Hid (∀ most : Int, foF ys most = if most < (xs.length : Int) then ([], 2) else (xs, 0)) := hid fun most => by rw [HYB.out]; exact foF_frame HOK.out hs1 hs40
    obtain ⟨hylA, hylB⟩ : ys.length ≤ xs.length + 2 * (chunks s xs).length + 4 ∧ 4 ≤ ys.length := by rw [hyb]; exact frameB_bound hxl
    have hcl := chunks_le (s := s) _ xs (Nat.le_refl _)
    have hyl : ys.length ≤ 1000 := by omega
    have hbA := below_on (below_on (below_on hb1 hb2) hb3) hb4
    obtain ⟨K, hK⟩ : ∃ K, K = (chunks s xs).length := ⟨_, rfl⟩
    rw [← hK] at HC HK hylA hcl
    clear hys hok hb1 hb2 hb3 hb4 hok' hyb hK hoy4'
    go_wp2_with fail
    refine (FrameOpen_any _ _ _ _ _ hoy4.ri (by omega)).mono ?_
    rintro e w5 ⟨A5, c5, zs, m5, hzs, hm5, hoz, rfl, hb5⟩
    have ho5 := ho4.below hb5
    have hoy5 := hoy4.below hb5
    rw [HO.out, if_neg (by omega)] at hzs hm5
    obtain rfl : xs = zs := hzs.out.symm
    obtain rfl : m5 = 0 := hm5.out
    clear hzs hm5
    have hdiv : ((xs.length : Int) + (s : Int) - 1).tdiv (s : Int) = (K : Int) := by
      rw [show (xs.length : Int) + (s : Int) - 1 = ((xs.length + s - 1 : Nat) : Int) by omega, HC.out]
      rfl
    have hs0 : ¬ (s : Int) = 0 := by omega
    have hwk : IntKind.i64.wrap (K : Int) = (K : Int) := IntWalk.i64_in _ (by omega)
    have hqk : ((K : Int) == (K : Int)) = true := by simp
    have hw1 : IntKind.i64.wrap ((xs.length : Int) + (s : Int)) = (xs.length : Int) + (s : Int) := IntWalk.i64_in _ (by omega)
    have hw2 : IntKind.i64.wrap ((xs.length : Int) + (s : Int) - 1) = (xs.length : Int) + (s : Int) - 1 := IntWalk.i64_in _ (by omega)
    have hsame : ∀ s : Ext w5, Calls Try.prog 18 #[.slice A5 xs.length c5, .slice A1 xs.length c1] s.val (PBb s.val true) := fun s => by
      have := sameInts_any A5 A1 c5 c1 xs xs s.val (hoz.ri.below s.bel) (ho5.ri.below s.bel)
      simpa using this
    have hblk : ∀ s : Ext w5, Calls Try.prog 19 #[.slice A2 ys.length c2] s.val (PNb s.val (K : Int)) := fun s => by
      have := FrameBlocks_any A2 c2 ys s.val (hoy5.ri.below s.bel) (by omega)
      rwa [HK.out] at this
    go_wp2_with fail
    refine wp_region_ext (by kernel_rfl) (by kernel_rfl) ?_; (repeat (go_big_quiet_step (first | (go_at_call 18; exact ext_PBb (hsame _)) | (go_at_call 19; exact ext_PNb (hblk _))))); refine wpQuiet_nil ?_; intro _ hw_; obtain ⟨sx, hw2_⟩ := hw_; subst hw2_
    go_wp2_with fail
    go_ret
    exact ⟨rfl, below_on (below_on hbA hb5) sx.bel⟩

set_option maxRecDepth 100000 in
theorem FnFrame_lifted (os : Os) (started : os.Started) (H : Type) (enc : TypeId × Value → H) :
    ReturnsInHanded {} Try.checked os 8 .any (Rows.fnFrameSpec.pre6 enc Try.prog Try.f8 Rows.fnFrameRow.domain false) (Rows.fnFrameSpec.post enc Try.prog Try.f8 false true false false) := by
  refine returnsInHanded_of_change (C := Try.checked) own started (by kernel_rfl) Try.func8
    (ChangeSpec.witness6 (enc := enc) (C := Try.checked) false ⟨#[], #[.slice none 0 0], []⟩ 8 (by kernel_rfl) (by kernel_rfl) (by kernel_rfl) (by kernel_rfl)) ?_
  intro W base args ds gs before hval0 hW hcnd _
  have hval : ∀ (j : Nat) t v, Try.f8.params[j]? = some t → args[j]? = some v → Value.okWide Try.prog W .any base t v := hval0
  have hW' := hW
  obtain ⟨p, q, hA0, hV, rfl, hfz, hnd⟩ := hW
  have hA : DataW.TrodAll enc Try.prog W 0 (fun _ => true) true Try.f8.params.toList args.toList ds p := hA0
  rw [Try.params8] at hA hval
  obtain ⟨v0, vs0, d0, ds0, p0, q0, hargs, rfl, rfl, h0, r0⟩ := trodAll_cons hA
  obtain ⟨rfl, rfl, rfl⟩ := trodAll_nil r0
  obtain rfl : args = #[v0] := by cases args; simp_all
  obtain ⟨rfl, rfl⟩ := trodVars_none hV
  have k0 := h0
  have lt0 : ∀ x ∈ p0, x.block < W.heap.size := by obtain ⟨m, hm⟩ := k0; exact DataW.trod_lt m _ _ _ hm
  obtain ⟨A0, c0, xs0, hv0, w0, wf0⟩ := open_row Try.underlying22 Try.underlying5 (by kernel_rfl) (hval 0 22 v0 rfl rfl) h0
  subst hv0
  have w0 : RY W A0 c0 xs0 := ⟨w0, fun b hb => bounds_u8 (wf0 b hb)⟩
  clear hA0 hval0
  refine (FnFrame_walk A0 c0 xs0 W w0).mono fun e W' ⟨he, bel⟩ => ?_
  subst he
  exact ⟨_, rfl, _, _, _, [], _, [], hW', trodAll_mk1 (shut_bool Try.underlying4 _), (trodAll_cons_mk (Below.trod laidOut (by kernel_rfl) (of_decide_eq_true (by kernel_rfl)) k0 bel lt0) trodAll_mk0), rfl, bel.frame _, fun h => by cases h⟩

theorem FnFrame_holds : Rows.FnFrameSaid :=
  OpenClaim.holds_of_wide 8 Try.f8 rfl rfl rfl rfl rfl rfl rfl ⟨rfl, rfl, rfl, rfl, rfl⟩ rfl rfl rfl rfl rfl (by kernel_rfl) Try.func8 (by kernel_rfl)
    (of_decide_eq_true (by kernel_rfl)) (by unfold Func.isWrapper; first | (rw [if_pos (by decide +kernel)]; kernel_rfl) | (rw [if_neg (by decide +kernel)]; exact ⟨rfl, rfl⟩))
    (fun os started H enc _ => FnFrame_lifted os started H enc)

end Go.Proofs.Ytfdjlifemjlnmaa
