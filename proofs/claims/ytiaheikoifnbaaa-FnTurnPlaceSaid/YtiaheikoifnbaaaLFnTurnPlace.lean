/- The law FnTurnPlace: the place is that of the list, whatever is drawn. No condition. -/
import Derived.Test.YtiaheikoifnbaaaDLs2
import Derived.Test.YtiaheikoifnbaaaPlRt3
import Derived.Test.YtiaheikoifnbaaaCMk
import Derived.Test.YtiaheikoifnbaaaFr
import Derived.Test.YtiaheikoifnbaaaCSm
namespace Go.Proofs.Ytiaheikoifnbaaa
open Go Go.RowKit Go.ChangeShapes Go.WideShapes Go.ChangeAt Go.Joins

set_option maxHeartbeats 1000000 in
theorem FnTurnPlace_walk (A : Option Addr) (c : Nat) (bs : List Int) (w : World) (hr : RY w A c bs) : Calls Try.prog 6 #[.slice A bs.length c] w (PT w) := by
  by_cases hbig : 1048576 < bs.length
  · go_enter Try.func6, Try.ntmps6
    go_wp2_with fail
    go_ret
    exact ⟨rfl, Below.refl _ _⟩
  have hb : bs.length ≤ 1048576 := by omega
  clear hbig
  go_enter Try.func6, Try.ntmps6
  go_wp2_with fail
  refine (DrawTurnOf_any _ _ _ _ hr).mono ?_
  rintro e w1 ⟨A1, c1, xs, rfl, ho1, hl1, hb1⟩
  go_wp2_with fail
  refine (TurnOf_any _ _ _ _ ho1.ri).mono ?_
  rintro e w2 ⟨A2, c2, ys, at2, ok, hys, hat, hok, hoy, rfl, hb2⟩
  have ho2 := ho1.below hb2
  go_wp2_with fail
  refine (sTurnOf_any _ _ _ _ ho2.ri).mono ?_
  rintro e w3 ⟨A3, c3, ys', at3, ok', hys', hat', hok', hoy', rfl, hb3⟩
  obtain rfl : ys = ys' := hys.out.trans hys'.out.symm
  obtain rfl : at2 = at3 := hat.out.trans hat'.out.symm
  obtain rfl : ok = ok' := hok.out.trans hok'.out.symm
  clear hys' hat' hok'
  have ho3 := ho2.below hb3
  have hoy3 := hoy.below hb3
  have hne : (at2 != at2) = false := by simp
  go_wp2_with fail
  refine (sameInts_any _ _ _ _ _ _ _ hoy3.ri hoy'.ri).mono ?_
  rintro e w4 ⟨q, hq, rfl, hb4⟩
  obtain rfl : q = true := hq.out.trans (by simp)
  clear hq
  have ho4 := ho3.below hb4
  have hoy4 := hoy3.below hb4
  have hoy4' := hoy'.below hb4
  cases ok
  · go_wp2_with fail
    refine (sameInts_any _ _ _ _ _ _ _ hoy4.ri hoy4'.ri).mono ?_
    rintro e w5 ⟨q, hq, rfl, hb5⟩
    obtain rfl : q = true := hq.out.trans (by simp)
    clear hq
    go_wp2_with fail
    go_ret
    exact ⟨rfl, (by repeat (first | exact Below.refl _ _ | refine below_on ?_ (below_new _ _) | refine below_drewN ?_ _ | refine below_on ?_ (by assumption)))⟩
  have HL := hid (turn_true hok.out.symm)
  rw [turn_there HL.out] at hys hat
  clear hok hoy hoy' hoy3 ho1 ho2 ho3
  by_cases h0 : xs.length = 0
  · obtain rfl := List.eq_nil_of_length_eq_zero h0
    clear h0
    go_wp2_with fail
    refine (sameInts_any _ _ _ _ _ _ _ hoy4.ri hoy4'.ri).mono ?_
    rintro e w5 ⟨q, hq, rfl, hb5⟩
    obtain rfl : q = true := hq.out.trans (by simp)
    clear hq
    go_wp2_with fail
    go_ret
    exact ⟨rfl, (by repeat (first | exact Below.refl _ _ | refine below_on ?_ (below_new _ _) | refine below_drewN ?_ _ | refine below_on ?_ (by assumption)))⟩
  have hn : 0 < xs.length := by omega
  have hne0 : ((xs.length : Int) == 0) = false := by rw [beq_eq_false_iff_ne]; omega
  clear h0
  have hz := turnAt_zero hn
  have hlt := turnAt_lt hn
  have hlast := turnF_at hz
  have hy : ys = turnF xs := hys.out
  rw [← hy] at hlast
  clear hy
  have hlst : xs[xs.length - 1]? = some (rat xs (0 + xs.length - 1)) := by rw [Nat.zero_add]; exact rat_at' (by omega)
  have hT : at2 = ((turnAt xs : Nat) : Int) := hat.out
  subst hT
  generalize turnAt xs = T at *
  generalize rat xs (0 + xs.length - 1) = x at *
  go_wp2_with fail
  refine (RotationsOf_any _ _ _ _ ho4.ri).mono ?_
  rintro e w5 ⟨A5, c5, os, hos, hoo, rfl, hb5⟩
  rw [rots_there HL.out] at hos
  obtain ⟨z, hz0⟩ : ∃ z : Int, z = 0 := ⟨_, rfl⟩
  have hq00 : (z == 0) = true := by simp [hz0]
  have hoz : os[T]? = some z := by rw [hos.out, nints, List.getElem?_map, hz, hz0]; rfl
  clear hz0
  have ho5 := ho4.below hb5
  have hoy5 := hoy4.below hb5
  have hol : T < os.length := (List.getElem?_eq_some_iff.1 hoz).1
  have hyl : T < ys.length := (List.getElem?_eq_some_iff.1 hlast).1
  obtain ⟨ad1, y1, rfl, -, -⟩ := hoo.ri.get hol
  obtain ⟨ad2, y2, rfl, -, -⟩ := hoy5.ri.get hyl
  obtain ⟨ad3, y3, rfl, -, -⟩ := ho5.ri.get (k := xs.length - 1) (by omega)
  have k1 := hoo.ri.cellAt hoz
  have k2 := hoy5.ri.cellAt hlast
  have k3 := ho5.ri.cellAt hlst
  have hi1 : (1 : Int) ≤ (xs.length : Int) := by omega
  have hi2 : xs.length - 1 < xs.length := by omega
  have hi3 : IntKind.i64.wrap ((xs.length : Int) - 1) = (xs.length : Int) - 1 := IntWalk.i64_in _ (by omega)
  have hi4 : 0 ≤ (xs.length : Int) - 1 := by omega
  have hqx : (x == x) = true := by simp
  have hi5 : ((xs.length : Int) - 1).toNat = xs.length - 1 := by omega
  clear hz hlast hlst hoz hys hat hos
  go_wp2_with fail
  go_quiet (fail)
  go_wp2_with fail
  go_ret
  exact ⟨rfl, (by repeat (first | exact Below.refl _ _ | refine below_on ?_ (below_new _ _) | refine below_drewN ?_ _ | refine below_on ?_ (by assumption)))⟩

set_option maxRecDepth 100000 in
theorem FnTurnPlace_lifted (os : Os) (started : os.Started) (H : Type) (enc : TypeId × Value → H) :
    ReturnsInHanded {} Try.checked os 6 .any (Rows.fnTurnPlaceSpec.pre6 enc Try.prog Try.f6 Rows.fnTurnPlaceRow.domain false) (Rows.fnTurnPlaceSpec.post enc Try.prog Try.f6 false true false false) := by
  refine returnsInHanded_of_change (C := Try.checked) own started (by kernel_rfl) Try.func6
    (ChangeSpec.witness6 (enc := enc) (C := Try.checked) false ⟨#[], #[.slice none 0 0], []⟩ 8 (by kernel_rfl) (by kernel_rfl) (by kernel_rfl) (by kernel_rfl)) ?_
  intro W base args ds gs before hval0 hW hcnd _
  have hval : ∀ (j : Nat) t v, Try.f6.params[j]? = some t → args[j]? = some v → Value.okWide Try.prog W .any base t v := hval0
  have hW' := hW
  obtain ⟨p, q, hA0, hV, rfl, hfz, hnd⟩ := hW
  have hA : DataW.TrodAll enc Try.prog W 0 (fun _ => true) true Try.f6.params.toList args.toList ds p := hA0
  rw [Try.params6] at hA hval
  obtain ⟨v0, vs0, d0, ds0, p0, q0, hargs, rfl, rfl, h0, r0⟩ := trodAll_cons hA
  obtain ⟨rfl, rfl, rfl⟩ := trodAll_nil r0
  obtain rfl : args = #[v0] := by cases args; simp_all
  obtain ⟨rfl, rfl⟩ := trodVars_none hV
  have k0 := h0
  have lt0 : ∀ x ∈ p0, x.block < W.heap.size := by obtain ⟨m, hm⟩ := k0; exact DataW.trod_lt m _ _ _ hm
  obtain ⟨A0, c0, xs0, hv0, w0, wf0⟩ := open_row Try.underlying29 Try.underlying5 (by kernel_rfl) (hval 0 29 v0 rfl rfl) h0
  subst hv0
  have w0 : RY W A0 c0 xs0 := ⟨w0, fun b hb => bounds_u8 (wf0 b hb)⟩
  clear hA0 hval0
  refine (FnTurnPlace_walk A0 c0 xs0 W w0).mono fun e W' ⟨he, bel⟩ => ?_
  subst he
  exact ⟨_, rfl, _, _, _, [], _, [], hW', trodAll_mk1 (shut_bool Try.underlying4 _), (trodAll_cons_mk (Below.trod laidOut (by kernel_rfl) (of_decide_eq_true (by kernel_rfl)) k0 bel lt0) trodAll_mk0), rfl, bel.frame _, fun h => by cases h⟩

theorem FnTurnPlace_holds : Rows.FnTurnPlaceSaid :=
  OpenClaim.holds_of_wide 6 Try.f6 rfl rfl rfl rfl rfl rfl rfl ⟨rfl, rfl, rfl, rfl, rfl⟩ rfl rfl rfl rfl rfl (by kernel_rfl) Try.func6 (by kernel_rfl)
    (of_decide_eq_true (by kernel_rfl)) (by unfold Func.isWrapper; first | (rw [if_pos (by decide +kernel)]; kernel_rfl) | (rw [if_neg (by decide +kernel)]; exact ⟨rfl, rfl⟩))
    (fun os started H enc _ => FnTurnPlace_lifted os started H enc)

end Go.Proofs.Ytiaheikoifnbaaa
