/- The law FnTurnCounts: turning changes the order only, whatever is drawn. No condition. -/
import Derived.Test.YtiaheikoifnbaaaDLs2
import Derived.Test.YtiaheikoifnbaaaPlRt3
import Derived.Test.YtiaheikoifnbaaaCMk
import Derived.Test.YtiaheikoifnbaaaFr
import Derived.Test.YtiaheikoifnbaaaCSm
namespace Go.Proofs.Ytiaheikoifnbaaa
open Go Go.RowKit Go.ChangeShapes Go.WideShapes Go.ChangeAt Go.Joins

set_option maxHeartbeats 1000000 in
theorem FnTurnCounts_walk (A : Option Addr) (c : Nat) (bs : List Int) (w : World) (hr : RY w A c bs) : Calls Try.prog 9 #[.slice A bs.length c] w (PT w) := by
  by_cases hbig : 1048576 < bs.length
  · go_enter Try.func9, Try.ntmps9
    go_wp2_with fail
    go_ret
    exact ⟨rfl, Below.refl _ _⟩
  have hb : bs.length ≤ 1048576 := by omega
  clear hbig
  go_enter Try.func9, Try.ntmps9
  go_wp2_with fail
  refine (DrawTurnOf_any _ _ _ _ hr).mono ?_
  rintro e w1 ⟨A1, c1, xs, rfl, ho1, hl1, hb1⟩
  go_wp2_with fail
  refine (TurnOf_any _ _ _ _ ho1.ri).mono ?_
  rintro e w2 ⟨A2, c2, ys, at2, ok, hys, hat, hok, hoy, rfl, hb2⟩
  have ho2 := ho1.below hb2
  go_wp2_with fail
  refine (sTurnOf_any _ _ _ _ ho2.ri).mono ?_
  rintro e w3 ⟨A3, c3, ys', at3, ok', hys', hat', hok', hoy', rfl, hb3⟩
  obtain rfl : ys = ys' := hys.out.trans hys'.out.symm
  obtain rfl : at2 = at3 := hat.out.trans hat'.out.symm
  obtain rfl : ok = ok' := hok.out.trans hok'.out.symm
  clear hys' hat' hok'
  have ho3 := ho2.below hb3
  have hoy3 := hoy.below hb3
  have hne : (at2 != at2) = false := by simp
  go_wp2_with fail
  refine (sameInts_any _ _ _ _ _ _ _ hoy3.ri hoy'.ri).mono ?_
  rintro e w4 ⟨q, hq, rfl, hb4⟩
  obtain rfl : q = true := hq.out.trans (by simp)
  clear hq
  have ho4 := ho3.below hb4
  have hoy4 := hoy3.below hb4
  have hoy4' := hoy'.below hb4
  cases ok
  · go_wp2_with fail
    refine (sameInts_any _ _ _ _ _ _ _ hoy4.ri hoy4'.ri).mono ?_
    rintro e w5 ⟨q, hq, rfl, hb5⟩
    obtain rfl : q = true := hq.out.trans (by simp)
    clear hq
    go_wp2_with fail
    go_ret
    exact ⟨rfl, (by repeat (first | exact Below.refl _ _ | refine below_on ?_ (below_new _ _) | refine below_drewN ?_ _ | refine below_on ?_ (by assumption)))⟩
  have HL := hid (turn_true hok.out.symm)
  rw [turn_there HL.out] at hys hat
  clear hok hoy hoy' hoy3 ho1 ho2 ho3
  have HY : Hid (countsF ys = countsF xs) := by
    have e : countsL (turnF xs) = countsL xs := by
      unfold countsL countsK
      exact List.map_congr_left fun s _ => by rw [grp_turn]
    have hy : ys = turnF xs := hys.out
    unfold Hid countsF
    rw [hy, if_pos HL.out, if_pos (turnF_ok HL.out), e]
  clear hys hat
  go_wp2_with fail
  refine (CountsOf_any _ _ _ _ hoy4.ri).mono ?_
  rintro e w5 ⟨A5, c5, us, hus, hou, rfl, hb5⟩
  have ho5 := ho4.below hb5
  go_wp2_with fail
  refine (CountsOf_any _ _ _ _ ho5.ri).mono ?_
  rintro e w6 ⟨A6, c6, vs, hvs, hov, rfl, hb6⟩
  obtain rfl : us = vs := hus.out.trans (HY.out.trans hvs.out.symm)
  have hou6 := hou.below hb6
  go_wp2_with fail
  refine (sameInts_any _ _ _ _ _ _ _ hou6.ri hov.ri).mono ?_
  rintro e w7 ⟨q, hq, rfl, hb7⟩
  obtain rfl : q = true := hq.out.trans (by simp)
  clear hq
  go_wp2_with fail
  go_ret
  exact ⟨rfl, (by repeat (first | exact Below.refl _ _ | refine below_on ?_ (below_new _ _) | refine below_drewN ?_ _ | refine below_on ?_ (by assumption)))⟩

set_option maxRecDepth 100000 in
theorem FnTurnCounts_lifted (os : Os) (started : os.Started) (H : Type) (enc : TypeId × Value → H) :
    ReturnsInHanded {} Try.checked os 9 .any (Rows.fnTurnCountsSpec.pre6 enc Try.prog Try.f9 Rows.fnTurnCountsRow.domain false) (Rows.fnTurnCountsSpec.post enc Try.prog Try.f9 false true false false) := by
  refine returnsInHanded_of_change (C := Try.checked) own started (by kernel_rfl) Try.func9
    (ChangeSpec.witness6 (enc := enc) (C := Try.checked) false ⟨#[], #[.slice none 0 0], []⟩ 8 (by kernel_rfl) (by kernel_rfl) (by kernel_rfl) (by kernel_rfl)) ?_
  intro W base args ds gs before hval0 hW hcnd _
  have hval : ∀ (j : Nat) t v, Try.f9.params[j]? = some t → args[j]? = some v → Value.okWide Try.prog W .any base t v := hval0
  have hW' := hW
  obtain ⟨p, q, hA0, hV, rfl, hfz, hnd⟩ := hW
  have hA : DataW.TrodAll enc Try.prog W 0 (fun _ => true) true Try.f9.params.toList args.toList ds p := hA0
  rw [Try.params9] at hA hval
  obtain ⟨v0, vs0, d0, ds0, p0, q0, hargs, rfl, rfl, h0, r0⟩ := trodAll_cons hA
  obtain ⟨rfl, rfl, rfl⟩ := trodAll_nil r0
  obtain rfl : args = #[v0] := by cases args; simp_all
  obtain ⟨rfl, rfl⟩ := trodVars_none hV
  have k0 := h0
  have lt0 : ∀ x ∈ p0, x.block < W.heap.size := by obtain ⟨m, hm⟩ := k0; exact DataW.trod_lt m _ _ _ hm
  obtain ⟨A0, c0, xs0, hv0, w0, wf0⟩ := open_row Try.underlying29 Try.underlying5 (by kernel_rfl) (hval 0 29 v0 rfl rfl) h0
  subst hv0
  have w0 : RY W A0 c0 xs0 := ⟨w0, fun b hb => bounds_u8 (wf0 b hb)⟩
  clear hA0 hval0
  refine (FnTurnCounts_walk A0 c0 xs0 W w0).mono fun e W' ⟨he, bel⟩ => ?_
  subst he
  exact ⟨_, rfl, _, _, _, [], _, [], hW', trodAll_mk1 (shut_bool Try.underlying4 _), (trodAll_cons_mk (Below.trod laidOut (by kernel_rfl) (of_decide_eq_true (by kernel_rfl)) k0 bel lt0) trodAll_mk0), rfl, bel.frame _, fun h => by cases h⟩

theorem FnTurnCounts_holds : Rows.FnTurnCountsSaid :=
  OpenClaim.holds_of_wide 9 Try.f9 rfl rfl rfl rfl rfl rfl rfl ⟨rfl, rfl, rfl, rfl, rfl⟩ rfl rfl rfl rfl rfl (by kernel_rfl) Try.func9 (by kernel_rfl)
    (of_decide_eq_true (by kernel_rfl)) (by unfold Func.isWrapper; first | (rw [if_pos (by decide +kernel)]; kernel_rfl) | (rw [if_neg (by decide +kernel)]; exact ⟨rfl, rfl⟩))
    (fun os started H enc _ => FnTurnCounts_lifted os started H enc)

end Go.Proofs.Ytiaheikoifnbaaa
