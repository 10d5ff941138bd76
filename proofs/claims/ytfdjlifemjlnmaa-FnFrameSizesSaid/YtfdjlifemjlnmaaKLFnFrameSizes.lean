/- The law FnFrameSizes: the size of blocks does not change the text, whatever is drawn. No condition. -/
import Derived.Test.YtfdjlifemjlnmaaGDa
import Derived.Test.YtfdjlifemjlnmaaGCk
import Derived.Test.YtfdjlifemjlnmaaGPb
import Derived.Test.YtfdjlifemjlnmaaGMa
namespace Go.Proofs.Ytfdjlifemjlnmaa
open Go Go.RowKit Go.ChangeShapes Go.WideShapes Go.ChangeAt Go.Joins

set_option maxHeartbeats 1000000 in
theorem FnFrameSizes_walk (A : Option Addr) (c : Nat) (bs : List Int) (A0 : Option Addr) (c0 : Nat) (bs2 : List Int) (w : World) (hr : RY w A c bs) (_ : RY w A0 c0 bs2) : Calls Try.prog 6 #[.slice A bs.length c, .slice A0 bs2.length c0] w (PT w) := by
  by_cases hbig : 1048576 < bs.length
  · go_enter Try.func6, Try.ntmps6
    go_wp2_with fail
    go_ret
    exact ⟨rfl, Below.refl _ _⟩
  have hb : bs.length ≤ 1048576 := by omega
  clear hbig
  by_cases hbig : 1048576 < bs2.length
  · go_enter Try.func6, Try.ntmps6
    go_wp2_with fail
    go_ret
    exact ⟨rfl, Below.refl _ _⟩
  have hbB : bs2.length ≤ 1048576 := by omega
  clear hbig
  go_enter Try.func6, Try.ntmps6
  go_wp2_with fail
  refine (DrawFramePack_any _ _ _ _ hr).mono ?_
  rintro e w1 ⟨A1, c1, xs, n, rfl, ho1, hl1, hb1⟩
  go_wp2_with fail
  refine (FramePack_any _ _ _ _ _ ho1.ri).mono ?_
  rintro e w2 ⟨A2, c2, ys, ok, hys, hok, hoy, rfl, hb2⟩
  have ho2 := ho1.below hb2
  go_wp2_with fail
  refine (sFramePack_any _ _ _ _ _ ho2.ri).mono ?_
  rintro e w3 ⟨A3, c3, ys', ok', hys', hok', hoy', rfl, hb3⟩
  obtain rfl : ys = ys' := hys.out.trans hys'.out.symm
  obtain rfl : ok = ok' := hok.out.trans hok'.out.symm
  clear hys' hok'
  have ho3 := ho2.below hb3
  have hoy3 := hoy.below hb3
  have hne : (ok != ok) = false := by simp
  go_wp2_with fail
  refine (sameInts_any _ _ _ _ _ _ _ hoy3.ri hoy'.ri).mono ?_
  rintro e w4 ⟨q, hq, rfl, hb4⟩
  obtain rfl : q = true := hq.out.trans (by simp)
  clear hq
  have ho4 := ho3.below hb4
  have hoy4 := hoy3.below hb4
  have hoy4' := hoy'.below hb4
  clear ho1 ho2 ho3 hoy hoy3 hoy' hne
  cases ok with
  | false =>
    go_wp2_with fail
    refine (sameInts_any _ _ _ _ _ _ _ hoy4.ri hoy4'.ri).mono ?_
    rintro e w5 ⟨q, hq, rfl, hb5⟩
    obtain rfl : q = true := hq.out.trans (by simp)
    clear hq
    go_wp2_with fail
    go_ret
    exact ⟨rfl, (by repeat (first | exact Below.refl _ _ | refine below_on ?_ (below_new _ _) | refine below_drewN ?_ _ | refine below_on ?_ (by assumption)))⟩
  | true =>
    have HFP : Hid (frameF xs n = some ys) := by
      unfold Hid
      cases h : frameF xs n with
      | none => have := hok.out; rw [h] at this; cases this
      | some z => have := hys.out; rw [h] at this; rw [this]; rfl
    obtain ⟨hok', s, rfl, hs1, hs40, hyb⟩ := frameF_some HFP.out
    have HOK := hid hok'
    have HYB := hid hyb
    have hxl := (txOk_iff.1 hok').1
    have HC : Hid ((chunks s xs).length = (xs.length + s - 1) / s) := hid (chunks_len (by omega) _ xs (Nat.le_refl _))
    have HK : Hid (fkF ys = ((chunks s xs).length : Int)) := by unfold Hid; rw [HYB.out]; exact fkF_frame HOK.out hs40
    have HO : Hid (∀ most : Int, foF ys most = if most < (xs.length : Int) then ([], 2) else (xs, 0)) := hid fun most => by rw [HYB.out]; exact foF_frame HOK.out hs1 hs40
    obtain ⟨hylA, hylB⟩ : ys.length ≤ xs.length + 2 * (chunks s xs).length + 4 ∧ 4 ≤ ys.length := by rw [hyb]; exact frameB_bound hxl
    have hcl := chunks_le (s := s) _ xs (Nat.le_refl _)
    have hyl : ys.length ≤ 1000 := by omega
    have hbA := below_on (below_on (below_on hb1 hb2) hb3) hb4
    obtain ⟨K, hK⟩ : ∃ K, K = (chunks s xs).length := ⟨_, rfl⟩
    rw [← hK] at HC HK hylA hcl
    clear hys hok hb1 hb2 hb3 hb4 hok' hyb hK hoy4'
    obtain ⟨z, hz⟩ : ∃ z : Int, z = (bs2.length : Int) % 40 := ⟨_, rfl⟩
    have hz0 : 0 ≤ z := by omega
    have hz1 : z ≤ 39 := by omega
    obtain ⟨S, hS⟩ : ∃ S : Nat, (S : Int) = 1 + z := ⟨(1 + z).toNat, by omega⟩
    have hS1 : 1 ≤ S := by omega
    have hS40 : S ≤ 40 := by omega
    have HF2 : Hid (frameF xs (S : Int) = some (frameB S xs)) := by unfold Hid frameF; rw [if_pos ⟨HOK.out, inB_true.2 ⟨by omega, by omega⟩⟩, Int.toNat_natCast]
    have HO2 : Hid (foF (frameB S xs) 120 = (xs, 0)) := by unfold Hid; rw [foF_frame HOK.out hS1 hS40, if_neg (by omega)]
    have hfl2 := frameB_bound (s := S) hxl
    have hcl2 := chunks_le (s := S) _ xs (Nat.le_refl _)
    go_wp2_with fail
    rw [← hz, ← hS]
    clear hz hS
    refine (FramePack_any _ _ _ _ _ ho4.ri).mono ?_
    rintro e w5 ⟨A5, c5, zs, ok5, hzs, hok5, hoz, rfl, hb5⟩
    rw [HF2.out] at hzs hok5
    obtain rfl : ok5 = true := hok5.out
    have hzl : zs.length ≤ 1000 := by rw [hzs.out]; simp only [Option.getD_some]; omega
    have HZ : Hid (foF zs 120 = (xs, 0)) := by unfold Hid; rw [hzs.out]; exact HO2.out
    have ho5 := ho4.below hb5
    clear hzs hok5 hfl2 hcl2
    go_wp2_with fail
    refine (FrameOpen_any _ _ _ _ _ hoz.ri (by omega)).mono ?_
    rintro e w6 ⟨A6, c6, us, m6, hus, hm6, hou, rfl, hb6⟩
    rw [HZ.out] at hus hm6
    obtain rfl : xs = us := hus.out.symm
    obtain rfl : m6 = 0 := hm6.out
    have ho6 := ho5.below hb6
    clear hus hm6
    go_wp2_with fail
    refine (sameInts_any _ _ _ _ _ _ _ hou.ri ho6.ri).mono ?_
    rintro e w7 ⟨q, hq, rfl, hb7⟩
    obtain rfl : q = true := hq.out.trans (by simp)
    clear hq
    go_wp2_with fail
    go_ret
    exact ⟨rfl, below_on (below_on (below_on hbA hb5) hb6) hb7⟩

set_option maxRecDepth 100000 in
theorem FnFrameSizes_lifted (os : Os) (started : os.Started) (H : Type) (enc : TypeId × Value → H) :
    ReturnsInHanded {} Try.checked os 6 .any (Rows.fnFrameSizesSpec.pre6 enc Try.prog Try.f6 Rows.fnFrameSizesRow.domain false) (Rows.fnFrameSizesSpec.post enc Try.prog Try.f6 false true false false) := by
  refine returnsInHanded_of_change (C := Try.checked) own started (by kernel_rfl) Try.func6
    (ChangeSpec.witness6 (enc := enc) (C := Try.checked) false ⟨#[], #[.slice none 0 0, .slice none 0 0], []⟩ 8 (by kernel_rfl) (by kernel_rfl) (by kernel_rfl) (by kernel_rfl)) ?_
  intro W base args ds gs before hval0 hW hcnd _
  have hval : ∀ (j : Nat) t v, Try.f6.params[j]? = some t → args[j]? = some v → Value.okWide Try.prog W .any base t v := hval0
  have hW' := hW
  obtain ⟨p, q, hA0, hV, rfl, hfz, hnd⟩ := hW
  have hA : DataW.TrodAll enc Try.prog W 0 (fun _ => true) true Try.f6.params.toList args.toList ds p := hA0
  rw [Try.params6] at hA hval
  obtain ⟨v0, vs0, d0, ds0, p0, q0, hargs, rfl, rfl, h0, r0⟩ := trodAll_cons hA
  obtain ⟨v1, vs1, d1, ds1, p1, q1, rfl, rfl, rfl, h1, r1⟩ := trodAll_cons r0
  obtain ⟨rfl, rfl, rfl⟩ := trodAll_nil r1
  obtain rfl : args = #[v0, v1] := by cases args; simp_all
  obtain ⟨rfl, rfl⟩ := trodVars_none hV
  have k0 := h0
  have lt0 : ∀ x ∈ p0, x.block < W.heap.size := by obtain ⟨m, hm⟩ := k0; exact DataW.trod_lt m _ _ _ hm
  obtain ⟨A0, c0, xs0, hv0, w0, wf0⟩ := open_row Try.underlying22 Try.underlying5 (by kernel_rfl) (hval 0 22 v0 rfl rfl) h0
  subst hv0
  have w0 : RY W A0 c0 xs0 := ⟨w0, fun b hb => bounds_u8 (wf0 b hb)⟩
  have k1 := h1
  have lt1 : ∀ x ∈ p1, x.block < W.heap.size := by obtain ⟨m, hm⟩ := k1; exact DataW.trod_lt m _ _ _ hm
  obtain ⟨A1, c1, xs1, hv1, w1, wf1⟩ := open_row Try.underlying22 Try.underlying5 (by kernel_rfl) (hval 1 22 v1 rfl rfl) h1
  subst hv1
  have w1 : RY W A1 c1 xs1 := ⟨w1, fun b hb => bounds_u8 (wf1 b hb)⟩
  clear hA0 hval0
  refine (FnFrameSizes_walk A0 c0 xs0 A1 c1 xs1 W w0 w1).mono fun e W' ⟨he, bel⟩ => ?_
  subst he
  exact ⟨_, rfl, _, _, _, [], _, [], hW', trodAll_mk1 (shut_bool Try.underlying4 _), (trodAll_cons_mk (Below.trod laidOut (by kernel_rfl) (of_decide_eq_true (by kernel_rfl)) k0 bel lt0) (trodAll_cons_mk (Below.trod laidOut (by kernel_rfl) (of_decide_eq_true (by kernel_rfl)) k1 bel lt1) trodAll_mk0)), rfl, bel.frame _, fun h => by cases h⟩

theorem FnFrameSizes_holds : Rows.FnFrameSizesSaid :=
  OpenClaim.holds_of_wide 6 Try.f6 rfl rfl rfl rfl rfl rfl rfl ⟨rfl, rfl, rfl, rfl, rfl⟩ rfl rfl rfl rfl rfl (by kernel_rfl) Try.func6 (by kernel_rfl)
    (of_decide_eq_true (by kernel_rfl)) (by unfold Func.isWrapper; first | (rw [if_pos (by decide +kernel)]; kernel_rfl) | (rw [if_neg (by decide +kernel)]; exact ⟨rfl, rfl⟩))
    (fun os started H enc _ => FnFrameSizes_lifted os started H enc)

end Go.Proofs.Ytfdjlifemjlnmaa
