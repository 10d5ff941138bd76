/- The law FnTurnRun: a run stays, whatever is drawn. No condition. -/
import Derived.Test.YtiaheikoifnbaaaDLs2
import Derived.Test.YtiaheikoifnbaaaPlRt3
import Derived.Test.YtiaheikoifnbaaaCMk
import Derived.Test.YtiaheikoifnbaaaFr
import Derived.Test.YtiaheikoifnbaaaCSm
namespace Go.Proofs.Ytiaheikoifnbaaa
open Go Go.RowKit Go.ChangeShapes Go.WideShapes Go.ChangeAt Go.Joins

set_option maxHeartbeats 1000000 in
theorem FnTurnRun_walk (A : Option Addr) (c : Nat) (bs : List Int) (A0 : Option Addr) (c0 : Nat) (bs2 : List Int) (w : World) (hr : RY w A c bs) (_ : RY w A0 c0 bs2) : Calls Try.prog 8 #[.slice A bs.length c, .slice A0 bs2.length c0] w (PT w) := by
  by_cases hbig : 1048576 < bs.length
  · go_enter Try.func8, Try.ntmps8
    go_wp2_with fail
    go_ret
    exact ⟨rfl, Below.refl _ _⟩
  have hb : bs.length ≤ 1048576 := by omega
  clear hbig
  by_cases hbig : 1048576 < bs2.length
  · go_enter Try.func8, Try.ntmps8
    go_wp2_with fail
    go_ret
    exact ⟨rfl, Below.refl _ _⟩
  have hb2' : bs2.length ≤ 1048576 := by omega
  clear hbig
  go_enter Try.func8, Try.ntmps8
  go_wp2_with fail
  refine (DrawTurnOf_any _ _ _ _ hr).mono ?_
  rintro e w1 ⟨A1, c1, xs, rfl, ho1, hl1, hb1⟩
  go_wp2_with fail
  refine (TurnOf_any _ _ _ _ ho1.ri).mono ?_
  rintro e w2 ⟨A2, c2, ys, at2, ok, hys, hat, hok, hoy, rfl, hb2⟩
  have ho2 := ho1.below hb2
  go_wp2_with fail
  refine (sTurnOf_any _ _ _ _ ho2.ri).mono ?_
  rintro e w3 ⟨A3, c3, ys', at3, ok', hys', hat', hok', hoy', rfl, hb3⟩
  obtain rfl : ys = ys' := hys.out.trans hys'.out.symm
  obtain rfl : at2 = at3 := hat.out.trans hat'.out.symm
  obtain rfl : ok = ok' := hok.out.trans hok'.out.symm
  clear hys' hat' hok'
  have ho3 := ho2.below hb3
  have hoy3 := hoy.below hb3
  have hne : (at2 != at2) = false := by simp
  go_wp2_with fail
  refine (sameInts_any _ _ _ _ _ _ _ hoy3.ri hoy'.ri).mono ?_
  rintro e w4 ⟨q, hq, rfl, hb4⟩
  obtain rfl : q = true := hq.out.trans (by simp)
  clear hq
  have ho4 := ho3.below hb4
  have hoy4 := hoy3.below hb4
  have hoy4' := hoy'.below hb4
  have hm0 : 0 ≤ (bs2.length : Int) % 40 := Int.emod_nonneg _ (by omega)
  have hm1 : (bs2.length : Int) % 40 < 40 := Int.emod_lt_of_pos _ (by omega)
  obtain ⟨m, hm⟩ := Int.eq_ofNat_of_zero_le hm0
  have hv0 : 0 ≤ (bs2.length : Int) % 8 := Int.emod_nonneg _ (by omega)
  have hv1 : (bs2.length : Int) % 8 < 8 := Int.emod_lt_of_pos _ (by omega)
  have hm40 : m < 40 := by omega
  have hms := hb4.size
  clear hm0 hm1
  go_upto_region 9 with (refine wpl_make intT rfl _ _ rfl m rfl rfl (by simp [hm]) (by simp [hm]) (by omega) w4.heap.size (Nat.le_refl _) ?_; intro A5 w5 zs hz hz1 hz2 ho5 hg5 hb5)
  have e5 : zs.length = m := by omega
  rw [e5]
  clear e5 hz1 hz2
  obtain ⟨v, hv⟩ : ∃ v, v = (bs2.length : Int) % 8 := ⟨_, rfl⟩
  have HV := hid hv
  rw [← hv] at hv0 hv1
  clear hv hm
  have hbw5 : Below w4.heap.size w4 w5 := (Below.refl _ _).grown hg5 (Nat.le_refl _) (by simp)
  go_wp2_with fail
  go_loopw [13] (fun i wr => ∃ (k : Nat) (cs : List Int), k ≤ m ∧ i = .int .i64 k ∧ Hid (cs = List.replicate k v ++ List.replicate (m - k) 0) ∧ OI wr w4.heap.size A5 m cs ∧ Below w4.heap.size w4 wr) (fun i _ => m - (intOf i).toNat)
  case atStart => exact ⟨0, zs, by omega, rfl, hid (by rw [hz.out]; simp), ho5, hbw5⟩
  case round =>
    clear ho5 hbw5 hz
    obtain ⟨k, cs, hk, rfl, hcs, ho, hbw⟩ := hrel
    by_cases hlt : k < m
    · obtain ⟨ad, y, rfl, _, hc⟩ := ho.ri.get (k := k) (by rw [hcs.out]; simp; omega)
      obtain ⟨hs1, hs2, hs3⟩ := ho.store k ((bs2.length : Int) % 8)
      have HN : Hid (cs.set k ((bs2.length : Int) % 8) = List.replicate (k + 1) v ++ List.replicate (m - (k + 1)) 0) := by
        unfold Hid
        rw [hcs.out, ← HV.out, List.set_append_right _ _ (by simp), show m - k = (m - (k + 1)) + 1 by omega, List.replicate_succ, List.replicate_succ']
        simp
      have hbw1 := OI.belowOwn hbw ho hs2 (Nat.le_refl _)
      go_wp2_with fail
      go_roundw
      case rel => exact ⟨k + 1, _, by omega, by go_num, HN, hs1, hbw1⟩
      case measure => simp [intOf]; omega
    · have e : k = m := by omega
      have HC : Hid (cs = List.replicate m v) := by unfold Hid; rw [hcs.out, e]; simp
      have hol : cs.length = m := by rw [HC.out]; simp
      clear e
      have hcall := TurnOf_any A5 m cs wr ho.ri
      rw [hol] at hcall
      go_wp2_with fail
      refine hcall.mono ?_
      rintro e w6 ⟨A6, c6, us, a6, ok6, hus, ha6, hok6, hou, rfl, hb6⟩
      rw [HC.out, turn_run (by omega) hv0 (by omega)] at hus ha6 hok6
      obtain rfl : a6 = 0 := ha6.out
      obtain rfl : ok6 = true := hok6.out
      have hcu : us = cs := by rw [HC.out]; exact hus.out
      have ho6 := ho.below hb6
      subst hcu
      clear hus ha6 hok6 hcall HC HV hcs
      go_wp2_with fail
      have hsame := sameInts_any A6 A5 c6 m us us w6 hou.ri ho6.ri
      rw [hol] at hsame
      refine hsame.mono ?_
      rintro e w7 ⟨q, hq, rfl, hb7⟩
      obtain rfl : q = true := hq.out.trans (by simp)
      clear hq
      have hbF := below_on hbw hb6
      go_wp2_with fail
      go_ret
      exact ⟨rfl, below_on (below_on (below_on (below_on (below_on hb1 hb2) hb3) hb4) hbF) hb7⟩

set_option maxRecDepth 100000 in
theorem FnTurnRun_lifted (os : Os) (started : os.Started) (H : Type) (enc : TypeId × Value → H) :
    ReturnsInHanded {} Try.checked os 8 .any (Rows.fnTurnRunSpec.pre6 enc Try.prog Try.f8 Rows.fnTurnRunRow.domain false) (Rows.fnTurnRunSpec.post enc Try.prog Try.f8 false true false false) := by
  refine returnsInHanded_of_change (C := Try.checked) own started (by kernel_rfl) Try.func8
    (ChangeSpec.witness6 (enc := enc) (C := Try.checked) false ⟨#[], #[.slice none 0 0, .slice none 0 0], []⟩ 8 (by kernel_rfl) (by kernel_rfl) (by kernel_rfl) (by kernel_rfl)) ?_
  intro W base args ds gs before hval0 hW hcnd _
  have hval : ∀ (j : Nat) t v, Try.f8.params[j]? = some t → args[j]? = some v → Value.okWide Try.prog W .any base t v := hval0
  have hW' := hW
  obtain ⟨p, q, hA0, hV, rfl, hfz, hnd⟩ := hW
  have hA : DataW.TrodAll enc Try.prog W 0 (fun _ => true) true Try.f8.params.toList args.toList ds p := hA0
  rw [Try.params8] at hA hval
  obtain ⟨v0, vs0, d0, ds0, p0, q0, hargs, rfl, rfl, h0, r0⟩ := trodAll_cons hA
  obtain ⟨v1, vs1, d1, ds1, p1, q1, rfl, rfl, rfl, h1, r1⟩ := trodAll_cons r0
  obtain ⟨rfl, rfl, rfl⟩ := trodAll_nil r1
  obtain rfl : args = #[v0, v1] := by cases args; simp_all
  obtain ⟨rfl, rfl⟩ := trodVars_none hV
  have k0 := h0
  have lt0 : ∀ x ∈ p0, x.block < W.heap.size := by obtain ⟨m, hm⟩ := k0; exact DataW.trod_lt m _ _ _ hm
  obtain ⟨A0, c0, xs0, hv0, w0, wf0⟩ := open_row Try.underlying29 Try.underlying5 (by kernel_rfl) (hval 0 29 v0 rfl rfl) h0
  subst hv0
  have w0 : RY W A0 c0 xs0 := ⟨w0, fun b hb => bounds_u8 (wf0 b hb)⟩
  have k1 := h1
  have lt1 : ∀ x ∈ p1, x.block < W.heap.size := by obtain ⟨m, hm⟩ := k1; exact DataW.trod_lt m _ _ _ hm
  obtain ⟨A1, c1, xs1, hv1, w1, wf1⟩ := open_row Try.underlying29 Try.underlying5 (by kernel_rfl) (hval 1 29 v1 rfl rfl) h1
  subst hv1
  have w1 : RY W A1 c1 xs1 := ⟨w1, fun b hb => bounds_u8 (wf1 b hb)⟩
  clear hA0 hval0
  refine (FnTurnRun_walk A0 c0 xs0 A1 c1 xs1 W w0 w1).mono fun e W' ⟨he, bel⟩ => ?_
  subst he
  exact ⟨_, rfl, _, _, _, [], _, [], hW', trodAll_mk1 (shut_bool Try.underlying4 _), (trodAll_cons_mk (Below.trod laidOut (by kernel_rfl) (of_decide_eq_true (by kernel_rfl)) k0 bel lt0) (trodAll_cons_mk (Below.trod laidOut (by kernel_rfl) (of_decide_eq_true (by kernel_rfl)) k1 bel lt1) trodAll_mk0)), rfl, bel.frame _, fun h => by cases h⟩

theorem FnTurnRun_holds : Rows.FnTurnRunSaid :=
  OpenClaim.holds_of_wide 8 Try.f8 rfl rfl rfl rfl rfl rfl rfl ⟨rfl, rfl, rfl, rfl, rfl⟩ rfl rfl rfl rfl rfl (by kernel_rfl) Try.func8 (by kernel_rfl)
    (of_decide_eq_true (by kernel_rfl)) (by unfold Func.isWrapper; first | (rw [if_pos (by decide +kernel)]; kernel_rfl) | (rw [if_neg (by decide +kernel)]; exact ⟨rfl, rfl⟩))
    (fun os started H enc _ => FnTurnRun_lifted os started H enc)

end Go.Proofs.Ytiaheikoifnbaaa
