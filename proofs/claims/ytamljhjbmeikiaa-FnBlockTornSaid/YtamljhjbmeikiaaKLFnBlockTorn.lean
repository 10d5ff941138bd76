/- The law FnBlockTorn: a part of a block waits for more, whatever is drawn. No condition. -/
import Derived.Test.YtamljhjbmeikiaaGDa
import Derived.Test.YtamljhjbmeikiaaGCg
import Derived.Test.YtamljhjbmeikiaaGCh
import Derived.Test.YtamljhjbmeikiaaGPc
import Derived.Test.YtamljhjbmeikiaaGMa
namespace Go.Proofs.Ytamljhjbmeikiaa
open Go Go.RowKit Go.ChangeShapes Go.WideShapes Go.ChangeAt Go.Joins

theorem BlockState_len (A : Option Addr) (c n : Nat) (bs : List Int) (w : World) (hn : n = bs.length) (hr : RI w A c bs) : Calls Try.prog 15 #[.slice A n c] w (PNb w (stF bs)) := by
  subst hn; exact BlockState_any A c bs w hr
set_option maxHeartbeats 1000000 in
theorem FnBlockTorn_walk (A : Option Addr) (c : Nat) (bs : List Int) (A0 : Option Addr) (c0 : Nat) (bs2 : List Int) (w : World) (hr : RY w A c bs) (_ : RY w A0 c0 bs2) : Calls Try.prog 3 #[.slice A bs.length c, .slice A0 bs2.length c0] w (PT w) := by
  by_cases hbig : 1048576 < bs.length
  · go_enter Try.func3, Try.ntmps3
    go_wp2_with fail
    go_ret
    exact ⟨rfl, Below.refl _ _⟩
  have hb : bs.length ≤ 1048576 := by omega
  clear hbig
  by_cases hbig : 1048576 < bs2.length
  · go_enter Try.func3, Try.ntmps3
    go_wp2_with fail
    go_ret
    exact ⟨rfl, Below.refl _ _⟩
  have hbB : bs2.length ≤ 1048576 := by omega
  clear hbig
  go_enter Try.func3, Try.ntmps3
  go_wp2_with fail
  refine (DrawBlockOpen_any _ _ _ _ hr).mono ?_
  rintro e w1 ⟨A1, c1, xs, rfl, ho1, hl1, hb1⟩
  go_wp2_with fail
  refine (BlockOpen_any _ _ _ _ ho1.ri).mono ?_
  rintro e w2 ⟨A2, c2, ys, n, ok, hys, hn, hok, hoy, rfl, hb2⟩
  have ho2 := ho1.below hb2
  go_wp2_with fail
  refine (sBlockOpen_any _ _ _ _ ho2.ri).mono ?_
  rintro e w3 ⟨A3, c3, ys', n', ok', hys', hn', hok', hoy', rfl, hb3⟩
  obtain rfl : ys = ys' := hys.out.trans hys'.out.symm
  obtain rfl : n = n' := hn.out.trans hn'.out.symm
  obtain rfl : ok = ok' := hok.out.trans hok'.out.symm
  clear hys' hn' hok'
  have ho3 := ho2.below hb3
  have hoy3 := hoy.below hb3
  have hne : (ok != ok) = false := by simp
  have hnn : (n != n) = false := by simp
  go_wp2_with fail
  refine (sameInts_any _ _ _ _ _ _ _ hoy3.ri hoy'.ri).mono ?_
  rintro e w4 ⟨q, hq, rfl, hb4⟩
  obtain rfl : q = true := hq.out.trans (by simp)
  clear hq
  have ho4 := ho3.below hb4
  have hoy4 := hoy3.below hb4
  have hoy4' := hoy'.below hb4
  clear ho1 ho2 ho3 hoy hoy3 hoy' hne hnn
  cases ok with
  | false =>
    have hnn : (n == n) = true := by simp
    go_wp2_with fail
    refine (sameInts_any _ _ _ _ _ _ _ hoy4.ri hoy4'.ri).mono ?_
    rintro e w5 ⟨q, hq, rfl, hb5⟩
    obtain rfl : q = true := hq.out.trans (by simp)
    clear hq
    go_wp2_with fail
    go_ret
    exact ⟨rfl, (by repeat (first | exact Below.refl _ _ | refine below_on ?_ (below_new _ _) | refine below_drewN ?_ _ | refine below_on ?_ (by assumption)))⟩
  | true =>
    obtain ⟨N, HO⟩ : ∃ N : Nat, Hid (opF xs = some (ys, N) ∧ n = (N : Int)) := by
      cases h : opF xs with
      | none => have := hok.out; rw [h] at this; cases this
      | some r =>
        obtain ⟨l, N⟩ := r
        rw [h] at hys hn
        exact ⟨N, hid ⟨by rw [hys.out]; rfl, hn.out⟩⟩
    obtain ⟨b, ha, hbN, htk, hsp, hNl, hby, hN2⟩ := op_split HO.out.1
    obtain rfl := HO.out.2
    have HOF := hid HO.out.1
    have HA := hid ha
    have HBN := hid hbN
    have HTK := hid htk
    have HSP := hid hsp
    have HBY := hid hby
    have hcap := ho4.ri.cap
    clear hys hn hok ha hbN htk hsp hby HO
    obtain ⟨K, hK⟩ : ∃ K : Nat, (K : Int) = (bs2.length : Int) % (N : Int) := ⟨bs2.length % N, by rw [Int.natCast_emod]⟩
    have hKn : K < N := by have := Int.emod_lt_of_pos (bs2.length : Int) (show (0 : Int) < (N : Int) by omega); omega
    have hx0 : ¬ (N : Int) = 0 := by omega
    have HT : Hid (stF (xs.take K) = 0) := hid (st_torn HOF.out hKn)
    have hKc : (K : Int) ≤ (c1 : Int) := by omega
    have hrt := RI.takeAt ho4.ri (k := K) (by omega)
    have HTL : Hid (K = (xs.take K).length) := by unfold Hid; rw [List.length_take]; omega
    have htm : (bs2.length : Int).tmod (N : Int) = (K : Int) := by rw [Int.tmod_eq_emod_of_nonneg (by omega)]; exact hK.symm
    have hwk : IntKind.i64.wrap (K : Int) = (K : Int) := IntWalk.i64_in _ (by omega)
    have hem := hK.symm
    clear hK
    go_wp2_with fail
    refine (BlockState_len _ _ _ _ _ HTL.out hrt).mono ?_
    rintro _ w5 ⟨m5, hm5, rfl, hb5⟩
    obtain rfl : m5 = 0 := hm5.out.trans HT.out
    clear hm5
    go_wp2_with fail
    go_ret
    exact ⟨rfl, (by repeat (first | exact Below.refl _ _ | refine below_on ?_ (below_new _ _) | refine below_drewN ?_ _ | refine below_on ?_ (by assumption)))⟩

set_option maxRecDepth 100000 in
theorem FnBlockTorn_lifted (os : Os) (started : os.Started) (H : Type) (enc : TypeId × Value → H) :
    ReturnsInHanded {} Try.checked os 3 .any (Rows.fnBlockTornSpec.pre6 enc Try.prog Try.f3 Rows.fnBlockTornRow.domain false) (Rows.fnBlockTornSpec.post enc Try.prog Try.f3 false true false false) := by
  refine returnsInHanded_of_change (C := Try.checked) own started (by kernel_rfl) Try.func3
    (ChangeSpec.witness6 (enc := enc) (C := Try.checked) false ⟨#[], #[.slice none 0 0, .slice none 0 0], []⟩ 8 (by kernel_rfl) (by kernel_rfl) (by kernel_rfl) (by kernel_rfl)) ?_
  intro W base args ds gs before hval0 hW hcnd _
  have hval : ∀ (j : Nat) t v, Try.f3.params[j]? = some t → args[j]? = some v → Value.okWide Try.prog W .any base t v := hval0
  have hW' := hW
  obtain ⟨p, q, hA0, hV, rfl, hfz, hnd⟩ := hW
  have hA : DataW.TrodAll enc Try.prog W 0 (fun _ => true) true Try.f3.params.toList args.toList ds p := hA0
  rw [Try.params3] at hA hval
  obtain ⟨v0, vs0, d0, ds0, p0, q0, hargs, rfl, rfl, h0, r0⟩ := trodAll_cons hA
  obtain ⟨v1, vs1, d1, ds1, p1, q1, rfl, rfl, rfl, h1, r1⟩ := trodAll_cons r0
  obtain ⟨rfl, rfl, rfl⟩ := trodAll_nil r1
  obtain rfl : args = #[v0, v1] := by cases args; simp_all
  obtain ⟨rfl, rfl⟩ := trodVars_none hV
  have k0 := h0
  have lt0 : ∀ x ∈ p0, x.block < W.heap.size := by obtain ⟨m, hm⟩ := k0; exact DataW.trod_lt m _ _ _ hm
  obtain ⟨A0, c0, xs0, hv0, w0, wf0⟩ := open_row Try.underlying22 Try.underlying5 (by kernel_rfl) (hval 0 22 v0 rfl rfl) h0
  subst hv0
  have w0 : RY W A0 c0 xs0 := ⟨w0, fun b hb => bounds_u8 (wf0 b hb)⟩
  have k1 := h1
  have lt1 : ∀ x ∈ p1, x.block < W.heap.size := by obtain ⟨m, hm⟩ := k1; exact DataW.trod_lt m _ _ _ hm
  obtain ⟨A1, c1, xs1, hv1, w1, wf1⟩ := open_row Try.underlying22 Try.underlying5 (by kernel_rfl) (hval 1 22 v1 rfl rfl) h1
  subst hv1
  have w1 : RY W A1 c1 xs1 := ⟨w1, fun b hb => bounds_u8 (wf1 b hb)⟩
  clear hA0 hval0
  refine (FnBlockTorn_walk A0 c0 xs0 A1 c1 xs1 W w0 w1).mono fun e W' ⟨he, bel⟩ => ?_
  subst he
  exact ⟨_, rfl, _, _, _, [], _, [], hW', trodAll_mk1 (shut_bool Try.underlying4 _), (trodAll_cons_mk (Below.trod laidOut (by kernel_rfl) (of_decide_eq_true (by kernel_rfl)) k0 bel lt0) (trodAll_cons_mk (Below.trod laidOut (by kernel_rfl) (of_decide_eq_true (by kernel_rfl)) k1 bel lt1) trodAll_mk0)), rfl, bel.frame _, fun h => by cases h⟩

theorem FnBlockTorn_holds : Rows.FnBlockTornSaid :=
  OpenClaim.holds_of_wide 3 Try.f3 rfl rfl rfl rfl rfl rfl rfl ⟨rfl, rfl, rfl, rfl, rfl⟩ rfl rfl rfl rfl rfl (by kernel_rfl) Try.func3 (by kernel_rfl)
    (of_decide_eq_true (by kernel_rfl)) (by unfold Func.isWrapper; first | (rw [if_pos (by decide +kernel)]; kernel_rfl) | (rw [if_neg (by decide +kernel)]; exact ⟨rfl, rfl⟩))
    (fun os started H enc _ => FnBlockTorn_lifted os started H enc)

end Go.Proofs.Ytamljhjbmeikiaa
