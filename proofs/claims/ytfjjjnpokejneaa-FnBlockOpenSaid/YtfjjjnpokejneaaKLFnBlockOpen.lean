/- The law FnBlockOpen: what is read was written, whatever is drawn. No condition. -/
import Derived.Test.YtfjjjnpokejneaaGDa
import Derived.Test.YtfjjjnpokejneaaGMa
import Derived.Test.YtfjjjnpokejneaaGCh
namespace Go.Proofs.Ytfjjjnpokejneaa
open Go Go.RowKit Go.ChangeShapes Go.WideShapes Go.ChangeAt Go.Joins

theorem sameInts_len (A B : Option Addr) (c d n : Nat) (xs ys : List Int) (w : World) (hn : n = ys.length) (hr : RI w A c xs) (hs : RI w B d ys) :
    Calls Try.prog 28 #[.slice A xs.length c, .slice B n d] w (PBb w (decide (xs = ys))) := by
  subst hn; exact sameInts_any A B c d xs ys w hr hs
set_option maxHeartbeats 1000000 in
theorem FnBlockOpen_walk (A : Option Addr) (c : Nat) (bs : List Int) (w : World) (hr : RY w A c bs) : Calls Try.prog 12 #[.slice A bs.length c] w (PT w) := by
  by_cases hbig : 1048576 < bs.length
  · go_enter Try.func12, Try.ntmps12
    go_wp2_with fail
    go_ret
    exact ⟨rfl, Below.refl _ _⟩
  have hb : bs.length ≤ 1048576 := by omega
  clear hbig
  go_enter Try.func12, Try.ntmps12
  go_wp2_with fail
  refine (DrawBlockOpen_any _ _ _ _ hr).mono ?_
  rintro e w1 ⟨A1, c1, xs, rfl, ho1, hl1, hb1⟩
  go_wp2_with fail
  refine (BlockOpen_any _ _ _ _ ho1.ri).mono ?_
  rintro e w2 ⟨A2, c2, ys, n, ok, hys, hn, hok, hoy, rfl, hb2⟩
  have ho2 := ho1.below hb2
  go_wp2_with fail
  refine (sBlockOpen_any _ _ _ _ ho2.ri).mono ?_
  rintro e w3 ⟨A3, c3, ys', n', ok', hys', hn', hok', hoy', rfl, hb3⟩
  obtain rfl : ys = ys' := hys.out.trans hys'.out.symm
  obtain rfl : n = n' := hn.out.trans hn'.out.symm
  obtain rfl : ok = ok' := hok.out.trans hok'.out.symm
  clear hys' hn' hok'
  have ho3 := ho2.below hb3
  have hoy3 := hoy.below hb3
  have hne : (ok != ok) = false := by simp
  have hnn : (n != n) = false := by simp
  go_wp2_with fail
  refine (sameInts_any _ _ _ _ _ _ _ hoy3.ri hoy'.ri).mono ?_
  rintro e w4 ⟨q, hq, rfl, hb4⟩
  obtain rfl : q = true := hq.out.trans (by simp)
  clear hq
  have ho4 := ho3.below hb4
  have hoy4 := hoy3.below hb4
  have hoy4' := hoy'.below hb4
  clear ho1 ho2 ho3 hoy hoy3 hoy' hne hnn
  cases ok with
  | false =>
    have hnn : (n == n) = true := by simp
    go_wp2_with fail
    refine (sameInts_any _ _ _ _ _ _ _ hoy4.ri hoy4'.ri).mono ?_
    rintro e w5 ⟨q, hq, rfl, hb5⟩
    obtain rfl : q = true := hq.out.trans (by simp)
    clear hq
    go_wp2_with fail
    go_ret
    exact ⟨rfl, (by repeat (first | exact Below.refl _ _ | refine below_on ?_ (below_new _ _) | refine below_drewN ?_ _ | refine below_on ?_ (by assumption)))⟩
  | true =>
    obtain ⟨N, HO⟩ : ∃ N : Nat, Hid (opF xs = some (ys, N) ∧ n = (N : Int)) := by
      cases h : opF xs with
      | none => have := hok.out; rw [h] at this; cases this
      | some r =>
        obtain ⟨l, N⟩ := r
        rw [h] at hys hn
        exact ⟨N, hid ⟨by rw [hys.out]; rfl, hn.out⟩⟩
    obtain ⟨b, ha, hbN, htk, hsp, hNl, hby, hN2⟩ := op_split HO.out.1
    obtain rfl := HO.out.2
    have HOF := hid HO.out.1
    have HA := hid ha
    have HBN := hid hbN
    have HTK := hid htk
    have HSP := hid hsp
    have HBY := hid hby
    have hcap := ho4.ri.cap
    clear hys hn hok ha hbN htk hsp hby HO
    obtain ⟨ad, x, rfl, HX, hcx⟩ := ho4.ri.get (k := 0) (by omega)
    have hx0 := getD_hid HX.out
    rw [hx0] at HA
    rw [add0] at hcx
    have hl0 : (0 : Int) < (xs.length : Int) := by omega
    clear hx0
    go_wp2_with fail
    refine (BlockAs_any _ _ _ _ _ hoy4.ri).mono ?_
    rintro _ w5 ⟨A5, c5, zs, ok5, hzs, hok5, hoz, rfl, hb5⟩
    rw [HA.out] at hzs hok5
    obtain rfl : zs = b := hzs.out
    obtain rfl : ok5 = true := hok5.out
    have hg1 : (N : Int) ≤ (xs.length : Int) := by omega
    have hgc : (N : Int) ≤ (c1 : Int) := by omega
    have hrt := RI.takeAt (ho4.below hb5).ri (k := N) hNl
    have HTL : Hid (N = (xs.take N).length) := by unfold Hid; rw [List.length_take]; omega
    clear hzs hok5
    go_wp2_with fail
    refine (sameInts_len _ _ _ _ _ _ _ _ HTL.out hoz.ri hrt).mono ?_
    rintro e w6 ⟨q, hq, rfl, hb6⟩
    obtain rfl : q = true := hq.out.trans (by rw [HTK.out]; simp)
    clear hq
    go_wp2_with fail
    go_ret
    exact ⟨rfl, (by repeat (first | exact Below.refl _ _ | refine below_on ?_ (below_new _ _) | refine below_drewN ?_ _ | refine below_on ?_ (by assumption)))⟩

set_option maxRecDepth 100000 in
theorem FnBlockOpen_lifted (os : Os) (started : os.Started) (H : Type) (enc : TypeId × Value → H) :
    ReturnsInHanded {} Try.checked os 12 .any (Rows.fnBlockOpenSpec.pre6 enc Try.prog Try.f12 Rows.fnBlockOpenRow.domain false) (Rows.fnBlockOpenSpec.post enc Try.prog Try.f12 false true false false) := by
  refine returnsInHanded_of_change (C := Try.checked) own started (by kernel_rfl) Try.func12
    (ChangeSpec.witness6 (enc := enc) (C := Try.checked) false ⟨#[], #[.slice none 0 0], []⟩ 8 (by kernel_rfl) (by kernel_rfl) (by kernel_rfl) (by kernel_rfl)) ?_
  intro W base args ds gs before hval0 hW hcnd _
  have hval : ∀ (j : Nat) t v, Try.f12.params[j]? = some t → args[j]? = some v → Value.okWide Try.prog W .any base t v := hval0
  have hW' := hW
  obtain ⟨p, q, hA0, hV, rfl, hfz, hnd⟩ := hW
  have hA : DataW.TrodAll enc Try.prog W 0 (fun _ => true) true Try.f12.params.toList args.toList ds p := hA0
  rw [Try.params12] at hA hval
  obtain ⟨v0, vs0, d0, ds0, p0, q0, hargs, rfl, rfl, h0, r0⟩ := trodAll_cons hA
  obtain ⟨rfl, rfl, rfl⟩ := trodAll_nil r0
  obtain rfl : args = #[v0] := by cases args; simp_all
  obtain ⟨rfl, rfl⟩ := trodVars_none hV
  have k0 := h0
  have lt0 : ∀ x ∈ p0, x.block < W.heap.size := by obtain ⟨m, hm⟩ := k0; exact DataW.trod_lt m _ _ _ hm
  obtain ⟨A0, c0, xs0, hv0, w0, wf0⟩ := open_row Try.underlying22 Try.underlying5 (by kernel_rfl) (hval 0 22 v0 rfl rfl) h0
  subst hv0
  have w0 : RY W A0 c0 xs0 := ⟨w0, fun b hb => bounds_u8 (wf0 b hb)⟩
  clear hA0 hval0
  refine (FnBlockOpen_walk A0 c0 xs0 W w0).mono fun e W' ⟨he, bel⟩ => ?_
  subst he
  exact ⟨_, rfl, _, _, _, [], _, [], hW', trodAll_mk1 (shut_bool Try.underlying4 _), (trodAll_cons_mk (Below.trod laidOut (by kernel_rfl) (of_decide_eq_true (by kernel_rfl)) k0 bel lt0) trodAll_mk0), rfl, bel.frame _, fun h => by cases h⟩

theorem FnBlockOpen_holds : Rows.FnBlockOpenSaid :=
  OpenClaim.holds_of_wide 12 Try.f12 rfl rfl rfl rfl rfl rfl rfl ⟨rfl, rfl, rfl, rfl, rfl⟩ rfl rfl rfl rfl rfl (by kernel_rfl) Try.func12 (by kernel_rfl)
    (of_decide_eq_true (by kernel_rfl)) (by unfold Func.isWrapper; first | (rw [if_pos (by decide +kernel)]; kernel_rfl) | (rw [if_neg (by decide +kernel)]; exact ⟨rfl, rfl⟩))
    (fun os started H enc _ => FnBlockOpen_lifted os started H enc)

end Go.Proofs.Ytfjjjnpokejneaa
