/- The law FnBlockOpenMore: bytes behind a block have no influence, whatever is drawn. No condition. -/
import Derived.Test.YtfjjjnpokejneaaGDa
import Derived.Test.YtfjjjnpokejneaaGMa
import Derived.Test.YtfjjjnpokejneaaGCh
namespace Go.Proofs.Ytfjjjnpokejneaa
open Go Go.RowKit Go.ChangeShapes Go.WideShapes Go.ChangeAt Go.Joins

theorem BlockOpen_len (A : Option Addr) (c n : Nat) (bs : List Int) (w : World) (hn : n = bs.length) (hr : RI w A c bs) : Calls Try.prog 30 #[.slice A n c] w (PLNB w (opR (opF bs))) := by
  subst hn; exact BlockOpen_any A c bs w hr
set_option maxHeartbeats 1000000 in
theorem FnBlockOpenMore_walk (A : Option Addr) (c : Nat) (bs : List Int) (A0 : Option Addr) (c0 : Nat) (bs2 : List Int) (w : World) (hr : RY w A c bs) (_ : RY w A0 c0 bs2) : Calls Try.prog 13 #[.slice A bs.length c, .slice A0 bs2.length c0] w (PT w) := by
  by_cases hbig : 1048576 < bs.length
  · go_enter Try.func13, Try.ntmps13
    go_wp2_with fail
    go_ret
    exact ⟨rfl, Below.refl _ _⟩
  have hb : bs.length ≤ 1048576 := by omega
  clear hbig
  by_cases hbig : 1048576 < bs2.length
  · go_enter Try.func13, Try.ntmps13
    go_wp2_with fail
    go_ret
    exact ⟨rfl, Below.refl _ _⟩
  have hbB : bs2.length ≤ 1048576 := by omega
  clear hbig
  go_enter Try.func13, Try.ntmps13
  go_wp2_with fail
  refine (DrawBlockOpen_any _ _ _ _ hr).mono ?_
  rintro e w1 ⟨A1, c1, xs, rfl, ho1, hl1, hb1⟩
  go_wp2_with fail
  refine (BlockOpen_any _ _ _ _ ho1.ri).mono ?_
  rintro e w2 ⟨A2, c2, ys, n, ok, hys, hn, hok, hoy, rfl, hb2⟩
  have ho2 := ho1.below hb2
  go_wp2_with fail
  refine (sBlockOpen_any _ _ _ _ ho2.ri).mono ?_
  rintro e w3 ⟨A3, c3, ys', n', ok', hys', hn', hok', hoy', rfl, hb3⟩
  obtain rfl : ys = ys' := hys.out.trans hys'.out.symm
  obtain rfl : n = n' := hn.out.trans hn'.out.symm
  obtain rfl : ok = ok' := hok.out.trans hok'.out.symm
  clear hys' hn' hok'
  have ho3 := ho2.below hb3
  have hoy3 := hoy.below hb3
  have hne : (ok != ok) = false := by simp
  have hnn : (n != n) = false := by simp
  go_wp2_with fail
  refine (sameInts_any _ _ _ _ _ _ _ hoy3.ri hoy'.ri).mono ?_
  rintro e w4 ⟨q, hq, rfl, hb4⟩
  obtain rfl : q = true := hq.out.trans (by simp)
  clear hq
  have ho4 := ho3.below hb4
  have hoy4 := hoy3.below hb4
  have hoy4' := hoy'.below hb4
  clear ho1 ho2 ho3 hoy hoy3 hoy' hne hnn
  cases ok with
  | false =>
    have hnn : (n == n) = true := by simp
    go_wp2_with fail
    refine (sameInts_any _ _ _ _ _ _ _ hoy4.ri hoy4'.ri).mono ?_
    rintro e w5 ⟨q, hq, rfl, hb5⟩
    obtain rfl : q = true := hq.out.trans (by simp)
    clear hq
    go_wp2_with fail
    go_ret
    exact ⟨rfl, (by repeat (first | exact Below.refl _ _ | refine below_on ?_ (below_new _ _) | refine below_drewN ?_ _ | refine below_on ?_ (by assumption)))⟩
  | true =>
    obtain ⟨N, HO⟩ : ∃ N : Nat, Hid (opF xs = some (ys, N) ∧ n = (N : Int)) := by
      cases h : opF xs with
      | none => have := hok.out; rw [h] at this; cases this
      | some r =>
        obtain ⟨l, N⟩ := r
        rw [h] at hys hn
        exact ⟨N, hid ⟨by rw [hys.out]; rfl, hn.out⟩⟩
    obtain ⟨b, ha, hbN, htk, hsp, hNl, hby, hN2⟩ := op_split HO.out.1
    obtain rfl := HO.out.2
    have HOF := hid HO.out.1
    have HA := hid ha
    have HBN := hid hbN
    have HTK := hid htk
    have HSP := hid hsp
    have HBY := hid hby
    have hcap := ho4.ri.cap
    clear hys hn hok ha hbN htk hsp hby HO
    have hrt := RI.takeAt ho4.ri (k := N) hNl
    have HTL : Hid (N = (xs.take N).length) := by unfold Hid; rw [List.length_take]; omega
    have HO1 : Hid (opF (xs.take N) = some (ys, N)) := by unfold Hid; rw [HTK.out, op_self HA.out, HBN.out]
    have hgc : (N : Int) ≤ (c1 : Int) := by omega
    go_wp2_with fail
    refine (BlockOpen_len _ _ _ _ _ HTL.out hrt).mono ?_
    rintro _ w5 ⟨A5, c5, zs, n5, ok5, hzs, hn5, hok5, hoz, rfl, hb5⟩
    rw [HO1.out] at hzs hn5 hok5
    obtain rfl : zs = ys := hzs.out
    obtain rfl : n5 = (N : Int) := hn5.out
    obtain rfl : ok5 = true := hok5.out
    clear hzs hn5 hok5 hrt
    obtain ⟨x, hx⟩ : ∃ x : Int, x = (bs2.length : Int) % 256 := ⟨_, rfl⟩
    have hx0 : 0 ≤ x := by omega
    have hx1 : x ≤ 255 := by omega
    have HO2 : Hid (opF (xs ++ [x]) = some (zs, N)) := by
      unfold Hid
      rw [HSP.out, List.append_assoc, op_as HA.out (byOk_app.2 ⟨byOk_all.2 fun y hy => byOk_all.1 HBY.out y (List.mem_of_mem_drop hy), byOk_all.2 fun y hy => by simp at hy; omega⟩), HBN.out]
    have ho5 := ho4.below hb5
    have hoy5 := hoy4.below hb5
    have hbA := below_on (below_on (below_on (below_on hb1 hb2) hb3) hb4) hb5
    clear hb1 hb2 hb3 hb4 hb5 ho4 hoy4 hoy4'
    go_wp2_with (first | (at_builtin; rw [← hx]; refine wpl_app (xs := us) (ys := [x]) intT rfl _ _ rfl rfl (hou.alloc _) rfl (RI.one w6 x) (by simp; omega) (by simp; omega) ?_; intro A7 c7 w7 vs hv hov hg7 hat7; clear hat7) | (at_builtin; refine wpl_app (xs := []) (ys := xs) intT rfl _ _ rfl rfl (OI.empty w5 w5.heap.size (Nat.le_refl _)) rfl (ho5.ri.alloc _) (by simp; omega) (by simp) ?_; intro A6 c6 w6 us hu hou hg6 hat6; clear hat6; have hul : us.length ≤ 1003 := (by rw [hu.out]; simpa using hl1); have hs6 : w5.heap.size ≤ w6.heap.size := (by have h := hg6.size; simp at h; omega)))
    have hbw6 := OI.belowOwn (below_new w5 (.cells #[] 3)) (OI.empty w5 w5.heap.size (Nat.le_refl _)) hg6 (Nat.le_refl _)
    have hbw7 := OI.belowOwn (below_on hbw6 (below_new w6 (.cells #[.int .i64 x] 3))) (hou.alloc _) hg7 (Nat.le_refl _)
    have HV : Hid (opF vs = some (zs, N)) := by unfold Hid; rw [hv.out, hu.out, List.nil_append]; exact HO2.out
    refine (BlockOpen_any _ _ _ _ hov.ri).mono ?_
    rintro _ w8 ⟨A8, c8, ts, n8, ok8, hts, hn8, hok8, hot, rfl, hb8⟩
    rw [HV.out] at hts hn8 hok8
    obtain rfl : zs = ts := hts.out.symm
    obtain rfl : n8 = (N : Int) := hn8.out
    obtain rfl : ok8 = true := hok8.out
    have hb9 := below_on hbw7 hb8
    have hoz8 := hoz.below hb9
    have hoy8 := hoy5.below hb9
    have hnN : ((N : Int) == (N : Int)) = true := by simp
    clear hts hn8 hok8 hu hv hov hou hg6 hg7 ho5 hoy5 hoz
    go_wp2_with fail
    refine (sameInts_any _ _ _ _ _ _ _ hoz8.ri hoy8.ri).mono ?_
    rintro e w10 ⟨q, hq, rfl, hb10⟩
    obtain rfl : q = true := hq.out.trans (by simp)
    clear hq
    go_wp2_with fail
    refine (sameInts_any _ _ _ _ _ _ _ (hot.below hb10).ri (hoy8.below hb10).ri).mono ?_
    rintro e w11 ⟨q, hq, rfl, hb11⟩
    obtain rfl : q = true := hq.out.trans (by simp)
    clear hq
    go_wp2_with fail
    go_ret
    exact ⟨rfl, below_on (below_on (below_on hbA hb9) hb10) hb11⟩

set_option maxRecDepth 100000 in
theorem FnBlockOpenMore_lifted (os : Os) (started : os.Started) (H : Type) (enc : TypeId × Value → H) :
    ReturnsInHanded {} Try.checked os 13 .any (Rows.fnBlockOpenMoreSpec.pre6 enc Try.prog Try.f13 Rows.fnBlockOpenMoreRow.domain false) (Rows.fnBlockOpenMoreSpec.post enc Try.prog Try.f13 false true false false) := by
  refine returnsInHanded_of_change (C := Try.checked) own started (by kernel_rfl) Try.func13
    (ChangeSpec.witness6 (enc := enc) (C := Try.checked) false ⟨#[], #[.slice none 0 0, .slice none 0 0], []⟩ 8 (by kernel_rfl) (by kernel_rfl) (by kernel_rfl) (by kernel_rfl)) ?_
  intro W base args ds gs before hval0 hW hcnd _
  have hval : ∀ (j : Nat) t v, Try.f13.params[j]? = some t → args[j]? = some v → Value.okWide Try.prog W .any base t v := hval0
  have hW' := hW
  obtain ⟨p, q, hA0, hV, rfl, hfz, hnd⟩ := hW
  have hA : DataW.TrodAll enc Try.prog W 0 (fun _ => true) true Try.f13.params.toList args.toList ds p := hA0
  rw [Try.params13] at hA hval
  obtain ⟨v0, vs0, d0, ds0, p0, q0, hargs, rfl, rfl, h0, r0⟩ := trodAll_cons hA
  obtain ⟨v1, vs1, d1, ds1, p1, q1, rfl, rfl, rfl, h1, r1⟩ := trodAll_cons r0
  obtain ⟨rfl, rfl, rfl⟩ := trodAll_nil r1
  obtain rfl : args = #[v0, v1] := by cases args; simp_all
  obtain ⟨rfl, rfl⟩ := trodVars_none hV
  have k0 := h0
  have lt0 : ∀ x ∈ p0, x.block < W.heap.size := by obtain ⟨m, hm⟩ := k0; exact DataW.trod_lt m _ _ _ hm
  obtain ⟨A0, c0, xs0, hv0, w0, wf0⟩ := open_row Try.underlying22 Try.underlying5 (by kernel_rfl) (hval 0 22 v0 rfl rfl) h0
  subst hv0
  have w0 : RY W A0 c0 xs0 := ⟨w0, fun b hb => bounds_u8 (wf0 b hb)⟩
  have k1 := h1
  have lt1 : ∀ x ∈ p1, x.block < W.heap.size := by obtain ⟨m, hm⟩ := k1; exact DataW.trod_lt m _ _ _ hm
  obtain ⟨A1, c1, xs1, hv1, w1, wf1⟩ := open_row Try.underlying22 Try.underlying5 (by kernel_rfl) (hval 1 22 v1 rfl rfl) h1
  subst hv1
  have w1 : RY W A1 c1 xs1 := ⟨w1, fun b hb => bounds_u8 (wf1 b hb)⟩
  clear hA0 hval0
  refine (FnBlockOpenMore_walk A0 c0 xs0 A1 c1 xs1 W w0 w1).mono fun e W' ⟨he, bel⟩ => ?_
  subst he
  exact ⟨_, rfl, _, _, _, [], _, [], hW', trodAll_mk1 (shut_bool Try.underlying4 _), (trodAll_cons_mk (Below.trod laidOut (by kernel_rfl) (of_decide_eq_true (by kernel_rfl)) k0 bel lt0) (trodAll_cons_mk (Below.trod laidOut (by kernel_rfl) (of_decide_eq_true (by kernel_rfl)) k1 bel lt1) trodAll_mk0)), rfl, bel.frame _, fun h => by cases h⟩

theorem FnBlockOpenMore_holds : Rows.FnBlockOpenMoreSaid :=
  OpenClaim.holds_of_wide 13 Try.f13 rfl rfl rfl rfl rfl rfl rfl ⟨rfl, rfl, rfl, rfl, rfl⟩ rfl rfl rfl rfl rfl (by kernel_rfl) Try.func13 (by kernel_rfl)
    (of_decide_eq_true (by kernel_rfl)) (by unfold Func.isWrapper; first | (rw [if_pos (by decide +kernel)]; kernel_rfl) | (rw [if_neg (by decide +kernel)]; exact ⟨rfl, rfl⟩))
    (fun os started H enc _ => FnBlockOpenMore_lifted os started H enc)

end Go.Proofs.Ytfjjjnpokejneaa
