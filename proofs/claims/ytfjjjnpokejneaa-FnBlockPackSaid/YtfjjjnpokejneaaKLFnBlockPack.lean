/- The law FnBlockPack: the shortest block is taken, whatever is drawn. No condition. -/
import Derived.Test.YtfjjjnpokejneaaGDa
import Derived.Test.YtfjjjnpokejneaaGMa
import Derived.Test.YtfjjjnpokejneaaGCg
namespace Go.Proofs.Ytfjjjnpokejneaa
open Go Go.RowKit Go.ChangeShapes Go.WideShapes Go.ChangeAt Go.Joins

set_option maxHeartbeats 1000000 in
theorem FnBlockPack_walk (A : Option Addr) (c : Nat) (bs : List Int) (w : World) (hr : RY w A c bs) : Calls Try.prog 9 #[.slice A bs.length c] w (PT w) := by
  by_cases hbig : 1048576 < bs.length
  · go_enter Try.func9, Try.ntmps9
    go_wp2_with fail
    go_ret
    exact ⟨rfl, Below.refl _ _⟩
  have hb : bs.length ≤ 1048576 := by omega
  clear hbig
  go_enter Try.func9, Try.ntmps9
  go_wp2_with fail
  refine (DrawBlockPack_any _ _ _ _ hr).mono ?_
  rintro e w1 ⟨A1, c1, xs, rfl, ho1, hl1, hb1⟩
  go_wp2_with fail
  refine (BlockPack_any _ _ _ _ ho1.ri).mono ?_
  rintro e w2 ⟨A2, c2, ys, hys, hoy, rfl, hb2⟩
  have ho2 := ho1.below hb2
  go_wp2_with fail
  refine (sBlockPack_any _ _ _ _ ho2.ri).mono ?_
  rintro e w3 ⟨A3, c3, ys', hys', hoy', rfl, hb3⟩
  obtain rfl : ys = ys' := hys.out.trans hys'.out.symm
  clear hys'
  have ho3 := ho2.below hb3
  have hoy3 := hoy.below hb3
  go_wp2_with fail
  refine (sameInts_any _ _ _ _ _ _ _ hoy3.ri hoy'.ri).mono ?_
  rintro e w4 ⟨q, hq, rfl, hb4⟩
  obtain rfl : q = true := hq.out.trans (by simp)
  clear hq
  have ho4 := ho3.below hb4
  have hoy4 := hoy3.below hb4
  have hoy4' := hoy'.below hb4
  clear ho1 ho2 ho3 hoy hoy3 hoy'
  by_cases h0 : ys.length = 0
  · have hq0 : ((ys.length : Int) == 0) = true := by simp [h0]
    clear h0
    go_wp2_with fail
    refine (sameInts_any _ _ _ _ _ _ _ hoy4.ri hoy4'.ri).mono ?_
    rintro e w5 ⟨q, hq, rfl, hb5⟩
    obtain rfl : q = true := hq.out.trans (by simp)
    clear hq
    go_wp2_with fail
    go_ret
    exact ⟨rfl, (by repeat (first | exact Below.refl _ _ | refine below_on ?_ (below_new _ _) | refine below_drewN ?_ _ | refine below_on ?_ (by assumption)))⟩
  have hq0 : ((ys.length : Int) == 0) = false := by rw [beq_eq_false_iff_ne]; omega
  have HL : Hid (listOk xs = true) := by
    unfold Hid
    cases h : listOk xs with
    | true => rfl
    | false => rw [hys.out, pack_bad h] at h0; exact absurd rfl h0
  obtain ⟨way, hw0, hw1, hasw, hple, hbest⟩ := pack_is HL.out
  rw [← hys.out] at hasw hple hbest
  have HAS := hid hasw
  have HBEST := hid hbest
  have h2 := (in_as hasw []).2.2.2
  clear h0 hasw hbest
  go_wp2_with fail
  refine (BlockOpen_any _ _ _ _ hoy4.ri).mono ?_
  rintro _ w5 ⟨A5, c5, zs, n5, ok5, hzs, hn5, hok5, hoz, rfl, hb5⟩
  rw [op_self HAS.out] at hzs hn5 hok5
  obtain rfl : xs = zs := hzs.out.symm
  obtain rfl : n5 = (ys.length : Int) := hn5.out
  obtain rfl : ok5 = true := hok5.out
  clear hzs hn5 hok5
  obtain ⟨ad, x, rfl, HX, hcx⟩ := hoy4.ri.get (k := 0) (by omega)
  obtain rfl : x = way := by have := (in_as HAS.out []).2.2.1; rw [← this]; exact (getD_hid HX.out).symm
  rw [add0] at hcx
  have hcx5 := RI.cellAt (hoy4.ri.below hb5) HX.out
  rw [add0] at hcx5
  have ho5 := ho4.below hb5
  have hl0 : (0 : Int) < (ys.length : Int) := by omega
  have hbA := below_on (below_on (below_on (below_on hb1 hb2) hb3) hb4) hb5
  have hoy5 := hoy4.ri.below hb5
  clear hb1 hb2 hb3 hb4 hb5 hcx hoy4' hys
  go_wp2_with fail
  go_loopw [9] (fun t wr => ∃ k : Nat, k ≤ 4 ∧ t = .int .i64 k ∧ Below w5.heap.size w5 wr) (fun t _ => 5 - (intOf t).toNat)
  case atStart => exact ⟨0, by omega, rfl, Below.refl _ _⟩
  case round =>
    obtain ⟨k, hk, rfl, hbx⟩ := hrel
    obtain ⟨wo, rfl⟩ : ∃ wo : World, wo = wr := ⟨_, rfl⟩
    by_cases hlt : k ≤ 3
    · have hg : (k : Int) ≤ 3 := by omega
      go_wp2_with fail
      refine (BlockAs_any _ _ _ _ _ (ho5.below hbx).ri).mono ?_
      rintro _ w6 ⟨A6, c6, us, b, hus, hb, hou, rfl, hb6⟩
      have hcx6 := RI.cellAt (hoy5.below (below_on hbx hb6)) HX.out
      rw [add0] at hcx6
      cases b with
      | false =>
        clear hus hb hou
        go_wp2_with fail
        go_roundw
        case rel => exact ⟨k + 1, by omega, by go_num, below_on hbx hb6⟩
        case measure => simp [intOf]; omega
      | true =>
        have HA : asL xs (k : Int) = some us := asL_at rfl hus.out hb.out
        have hno := HBEST.out _ _ HA
        have hg1 : ¬ (us.length : Int) < (ys.length : Int) := by omega
        clear hus hb hou HA
        by_cases he : us.length = ys.length
        · have hq1 : ((us.length : Int) == (ys.length : Int)) = true := by simp [he]
          have hg2 : ¬ (k : Int) < x := by omega
          clear he hno
          go_wp2_with fail
          go_roundw
          case rel => exact ⟨k + 1, by omega, by go_num, below_on hbx hb6⟩
          case measure => simp [intOf]; omega
        · have hq1 : ((us.length : Int) == (ys.length : Int)) = false := by rw [beq_eq_false_iff_ne]; omega
          clear he hno
          go_wp2_with fail
          go_roundw
          case rel => exact ⟨k + 1, by omega, by go_num, below_on hbx hb6⟩
          case measure => simp [intOf]; omega
    · have hg : ¬ (k : Int) ≤ 3 := by omega
      have hq2 : ((ys.length : Int) == (ys.length : Int)) = true := by simp
      go_wp2_with fail
      refine (sameInts_any _ _ _ _ _ _ _ (hoz.below hbx).ri (ho5.below hbx).ri).mono ?_
      rintro e w7 ⟨q, hq, rfl, hb7⟩
      obtain rfl : q = true := hq.out.trans (by simp)
      clear hq
      go_wp2_with fail
      go_ret
      exact ⟨rfl, below_on (below_on hbA hbx) hb7⟩

set_option maxRecDepth 100000 in
theorem FnBlockPack_lifted (os : Os) (started : os.Started) (H : Type) (enc : TypeId × Value → H) :
    ReturnsInHanded {} Try.checked os 9 .any (Rows.fnBlockPackSpec.pre6 enc Try.prog Try.f9 Rows.fnBlockPackRow.domain false) (Rows.fnBlockPackSpec.post enc Try.prog Try.f9 false true false false) := by
  refine returnsInHanded_of_change (C := Try.checked) own started (by kernel_rfl) Try.func9
    (ChangeSpec.witness6 (enc := enc) (C := Try.checked) false ⟨#[], #[.slice none 0 0], []⟩ 8 (by kernel_rfl) (by kernel_rfl) (by kernel_rfl) (by kernel_rfl)) ?_
  intro W base args ds gs before hval0 hW hcnd _
  have hval : ∀ (j : Nat) t v, Try.f9.params[j]? = some t → args[j]? = some v → Value.okWide Try.prog W .any base t v := hval0
  have hW' := hW
  obtain ⟨p, q, hA0, hV, rfl, hfz, hnd⟩ := hW
  have hA : DataW.TrodAll enc Try.prog W 0 (fun _ => true) true Try.f9.params.toList args.toList ds p := hA0
  rw [Try.params9] at hA hval
  obtain ⟨v0, vs0, d0, ds0, p0, q0, hargs, rfl, rfl, h0, r0⟩ := trodAll_cons hA
  obtain ⟨rfl, rfl, rfl⟩ := trodAll_nil r0
  obtain rfl : args = #[v0] := by cases args; simp_all
  obtain ⟨rfl, rfl⟩ := trodVars_none hV
  have k0 := h0
  have lt0 : ∀ x ∈ p0, x.block < W.heap.size := by obtain ⟨m, hm⟩ := k0; exact DataW.trod_lt m _ _ _ hm
  obtain ⟨A0, c0, xs0, hv0, w0, wf0⟩ := open_row Try.underlying22 Try.underlying5 (by kernel_rfl) (hval 0 22 v0 rfl rfl) h0
  subst hv0
  have w0 : RY W A0 c0 xs0 := ⟨w0, fun b hb => bounds_u8 (wf0 b hb)⟩
  clear hA0 hval0
  refine (FnBlockPack_walk A0 c0 xs0 W w0).mono fun e W' ⟨he, bel⟩ => ?_
  subst he
  exact ⟨_, rfl, _, _, _, [], _, [], hW', trodAll_mk1 (shut_bool Try.underlying4 _), (trodAll_cons_mk (Below.trod laidOut (by kernel_rfl) (of_decide_eq_true (by kernel_rfl)) k0 bel lt0) trodAll_mk0), rfl, bel.frame _, fun h => by cases h⟩

theorem FnBlockPack_holds : Rows.FnBlockPackSaid :=
  OpenClaim.holds_of_wide 9 Try.f9 rfl rfl rfl rfl rfl rfl rfl ⟨rfl, rfl, rfl, rfl, rfl⟩ rfl rfl rfl rfl rfl (by kernel_rfl) Try.func9 (by kernel_rfl)
    (of_decide_eq_true (by kernel_rfl)) (by unfold Func.isWrapper; first | (rw [if_pos (by decide +kernel)]; kernel_rfl) | (rw [if_neg (by decide +kernel)]; exact ⟨rfl, rfl⟩))
    (fun os started H enc _ => FnBlockPack_lifted os started H enc)

end Go.Proofs.Ytfjjjnpokejneaa
