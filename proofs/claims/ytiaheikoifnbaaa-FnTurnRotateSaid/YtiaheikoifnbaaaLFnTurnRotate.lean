/- The law FnTurnRotate: all rotations have the same last symbols, whatever is drawn. No condition. -/
import Derived.Test.YtiaheikoifnbaaaDLs2
import Derived.Test.YtiaheikoifnbaaaPlRt3
import Derived.Test.YtiaheikoifnbaaaCMk
import Derived.Test.YtiaheikoifnbaaaFr
import Derived.Test.YtiaheikoifnbaaaMem3
namespace Go.Proofs.Ytiaheikoifnbaaa
open Go Go.RowKit Go.ChangeShapes Go.WideShapes Go.ChangeAt Go.Joins

set_option maxHeartbeats 1000000 in
theorem FnTurnRotate_walk (A : Option Addr) (c : Nat) (bs : List Int) (A0 : Option Addr) (c0 : Nat) (bs2 : List Int) (w : World) (hr : RY w A c bs) (_ : RY w A0 c0 bs2) : Calls Try.prog 7 #[.slice A bs.length c, .slice A0 bs2.length c0] w (PT w) := by
  by_cases hbig : 1048576 < bs.length
  · go_enter Try.func7, Try.ntmps7
    go_wp2_with fail
    go_ret
    exact ⟨rfl, Below.refl _ _⟩
  have hb : bs.length ≤ 1048576 := by omega
  clear hbig
  by_cases hbig : 1048576 < bs2.length
  · go_enter Try.func7, Try.ntmps7
    go_wp2_with fail
    go_ret
    exact ⟨rfl, Below.refl _ _⟩
  have hb2' : bs2.length ≤ 1048576 := by omega
  clear hbig
  go_enter Try.func7, Try.ntmps7
  go_wp2_with fail
  refine (DrawTurnOf_any _ _ _ _ hr).mono ?_
  rintro e w1 ⟨A1, c1, xs, rfl, ho1, hl1, hb1⟩
  go_wp2_with fail
  refine (TurnOf_any _ _ _ _ ho1.ri).mono ?_
  rintro e w2 ⟨A2, c2, ys, at2, ok, hys, hat, hok, hoy, rfl, hb2⟩
  have ho2 := ho1.below hb2
  go_wp2_with fail
  refine (sTurnOf_any _ _ _ _ ho2.ri).mono ?_
  rintro e w3 ⟨A3, c3, ys', at3, ok', hys', hat', hok', hoy', rfl, hb3⟩
  obtain rfl : ys = ys' := hys.out.trans hys'.out.symm
  obtain rfl : at2 = at3 := hat.out.trans hat'.out.symm
  obtain rfl : ok = ok' := hok.out.trans hok'.out.symm
  clear hys' hat' hok'
  have ho3 := ho2.below hb3
  have hoy3 := hoy.below hb3
  have hne : (at2 != at2) = false := by simp
  go_wp2_with fail
  refine (sameInts_any _ _ _ _ _ _ _ hoy3.ri hoy'.ri).mono ?_
  rintro e w4 ⟨q, hq, rfl, hb4⟩
  obtain rfl : q = true := hq.out.trans (by simp)
  clear hq
  have ho4 := ho3.below hb4
  have hoy4 := hoy3.below hb4
  have hoy4' := hoy'.below hb4
  cases ok
  · go_wp2_with fail
    refine (sameInts_any _ _ _ _ _ _ _ hoy4.ri hoy4'.ri).mono ?_
    rintro e w5 ⟨q, hq, rfl, hb5⟩
    obtain rfl : q = true := hq.out.trans (by simp)
    clear hq
    go_wp2_with fail
    go_ret
    exact ⟨rfl, (by repeat (first | exact Below.refl _ _ | refine below_on ?_ (below_new _ _) | refine below_drewN ?_ _ | refine below_on ?_ (by assumption)))⟩
  have HL := hid (turn_true hok.out.symm)
  rw [turn_there HL.out] at hys hat
  clear hok hoy hoy' hoy3 ho1 ho2 ho3
  obtain ⟨K, hK⟩ : ∃ K : Nat, (K : Int) = (bs2.length : Int) % ((xs.length : Int) + 1) := ⟨bs2.length % (xs.length + 1), by rw [Int.natCast_emod]; rfl⟩
  have hKn : K ≤ xs.length := by have := Int.emod_lt_of_pos (bs2.length : Int) (show (0 : Int) < (xs.length : Int) + 1 by omega); omega
  go_upto_region 9 with fail
  rw [← hK]
  clear hK
  have hcap := ho4.ri.cap
  have hr1 := RI.cutAt ((ho4.alloc (.cells #[] 3)).drew.ri) hKn
  have HR := hid (turn_rotd (xs := xs) hKn)
  have hy : ys = turnF xs := hys.out
  have HY := hid hy
  clear hys hat hy
  have hs4 := hb4.size
  have hKc : K ≤ c1 := by omega
  go_region_law (first | (refine stp_app2 intT rfl _ _ rfl us rfl rfl hou (xs.take K) rfl (by simp; omega) (RI.takeAt (k := K) ho7.ri (by omega)) (by simp; omega) (by simp at hs7; omega) ?_; intro A8 c8 w8 vs hv hov hg8 hat8; clear hat8) | (refine stp_app2 intT rfl _ _ rfl [] rfl rfl (OI.empty w4 w4.heap.size (Nat.le_refl _)).drew (xs.drop K) rfl (by simp) hr1 (by simp; omega) (by simp) ?_; intro A7 c7 w7 us hu hou hg7 hat7; clear hat7; have ho7 := OI.grown ((ho4.alloc (.cells #[] 3)).drew) hg7 (fun g hg e => by have := (OI.lt ho4 hg).2; simp [blk] at e; omega); have hs7 := hg7.size; have hlu : us.length ≤ xs.length := (by rw [hu.out]; simp)) | (go_simp; go_at_call 20; refine (TurnOf_any _ _ _ _ hov.ri).mono ?_; rintro e w9 ⟨A9, c9, zs, a9, ok9, hzs, ha9, hok9, hoz, rfl, hb9⟩))
  have hvr : vs = rotd xs K := by rw [hv.out, hu.out]; rfl
  rw [hvr, turn_there (rotd_ok K HL.out), HR.out] at hzs ha9 hok9
  obtain rfl : zs = ys := hzs.out.trans HY.out.symm
  obtain rfl : ok9 = true := hok9.out
  clear hzs ha9 hok9 hvr hr1
  have hbA := below_on (below_on (below_on hb1 hb2) hb3) hb4
  have hbB : Below w.heap.size w ((w4.alloc (.cells #[] 3)).drew) := (below_on hbA (below_new w4 (.cells #[] 3))).drew
  have hbC := OI.belowOwn hbB (OI.empty w4 w4.heap.size (Nat.le_refl _)).drew hg7 hbA.size
  have hbD := OI.belowOwn hbC hou hg8 hbA.size
  have hbE := below_on hbD hb9
  have hy7 := OI.grown ((hoy4.alloc (.cells #[] 3)).drew) hg7 (fun g hg e => by have := (OI.lt hoy4 hg).2; simp [blk] at e; omega)
  have hy8 := OI.grown hy7 hg8 (fun g hg e => by have := (OI.lt hoy4 hg).2; have := (OI.lt hou e).1; omega)
  have hy9 := hy8.below hb9
  generalize (if c1 = K then A1 else _) = B1
  go_wp2_with fail
  refine (sameInts_any _ _ _ _ _ _ _ hoz.ri hy9.ri).mono ?_
  rintro e wz ⟨q, hq, rfl, hbz⟩
  obtain rfl : q = true := hq.out.trans (by simp)
  clear hq
  go_wp2_with fail
  go_ret
  exact ⟨rfl, below_on hbE hbz⟩

set_option maxRecDepth 100000 in
theorem FnTurnRotate_lifted (os : Os) (started : os.Started) (H : Type) (enc : TypeId × Value → H) :
    ReturnsInHanded {} Try.checked os 7 .any (Rows.fnTurnRotateSpec.pre6 enc Try.prog Try.f7 Rows.fnTurnRotateRow.domain false) (Rows.fnTurnRotateSpec.post enc Try.prog Try.f7 false true false false) := by
  refine returnsInHanded_of_change (C := Try.checked) own started (by kernel_rfl) Try.func7
    (ChangeSpec.witness6 (enc := enc) (C := Try.checked) false ⟨#[], #[.slice none 0 0, .slice none 0 0], []⟩ 8 (by kernel_rfl) (by kernel_rfl) (by kernel_rfl) (by kernel_rfl)) ?_
  intro W base args ds gs before hval0 hW hcnd _
  have hval : ∀ (j : Nat) t v, Try.f7.params[j]? = some t → args[j]? = some v → Value.okWide Try.prog W .any base t v := hval0
  have hW' := hW
  obtain ⟨p, q, hA0, hV, rfl, hfz, hnd⟩ := hW
  have hA : DataW.TrodAll enc Try.prog W 0 (fun _ => true) true Try.f7.params.toList args.toList ds p := hA0
  rw [Try.params7] at hA hval
  obtain ⟨v0, vs0, d0, ds0, p0, q0, hargs, rfl, rfl, h0, r0⟩ := trodAll_cons hA
  obtain ⟨v1, vs1, d1, ds1, p1, q1, rfl, rfl, rfl, h1, r1⟩ := trodAll_cons r0
  obtain ⟨rfl, rfl, rfl⟩ := trodAll_nil r1
  obtain rfl : args = #[v0, v1] := by cases args; simp_all
  obtain ⟨rfl, rfl⟩ := trodVars_none hV
  have k0 := h0
  have lt0 : ∀ x ∈ p0, x.block < W.heap.size := by obtain ⟨m, hm⟩ := k0; exact DataW.trod_lt m _ _ _ hm
  obtain ⟨A0, c0, xs0, hv0, w0, wf0⟩ := open_row Try.underlying29 Try.underlying5 (by kernel_rfl) (hval 0 29 v0 rfl rfl) h0
  subst hv0
  have w0 : RY W A0 c0 xs0 := ⟨w0, fun b hb => bounds_u8 (wf0 b hb)⟩
  have k1 := h1
  have lt1 : ∀ x ∈ p1, x.block < W.heap.size := by obtain ⟨m, hm⟩ := k1; exact DataW.trod_lt m _ _ _ hm
  obtain ⟨A1, c1, xs1, hv1, w1, wf1⟩ := open_row Try.underlying29 Try.underlying5 (by kernel_rfl) (hval 1 29 v1 rfl rfl) h1
  subst hv1
  have w1 : RY W A1 c1 xs1 := ⟨w1, fun b hb => bounds_u8 (wf1 b hb)⟩
  clear hA0 hval0
  refine (FnTurnRotate_walk A0 c0 xs0 A1 c1 xs1 W w0 w1).mono fun e W' ⟨he, bel⟩ => ?_
  subst he
  exact ⟨_, rfl, _, _, _, [], _, [], hW', trodAll_mk1 (shut_bool Try.underlying4 _), (trodAll_cons_mk (Below.trod laidOut (by kernel_rfl) (of_decide_eq_true (by kernel_rfl)) k0 bel lt0) (trodAll_cons_mk (Below.trod laidOut (by kernel_rfl) (of_decide_eq_true (by kernel_rfl)) k1 bel lt1) trodAll_mk0)), rfl, bel.frame _, fun h => by cases h⟩

theorem FnTurnRotate_holds : Rows.FnTurnRotateSaid :=
  OpenClaim.holds_of_wide 7 Try.f7 rfl rfl rfl rfl rfl rfl rfl ⟨rfl, rfl, rfl, rfl, rfl⟩ rfl rfl rfl rfl rfl (by kernel_rfl) Try.func7 (by kernel_rfl)
    (of_decide_eq_true (by kernel_rfl)) (by unfold Func.isWrapper; first | (rw [if_pos (by decide +kernel)]; kernel_rfl) | (rw [if_neg (by decide +kernel)]; exact ⟨rfl, rfl⟩))
    (fun os started H enc _ => FnTurnRotate_lifted os started H enc)

end Go.Proofs.Ytiaheikoifnbaaa
