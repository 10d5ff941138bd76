/- The law FnExactTextValid: TextValid and its reference answer alike, for every list of ints. No condition. -/
import Derived.Test.YthiijfafbnmcjaaCTx
import Derived.Test.YthiijfafbnmcjaaFr
namespace Go.Proofs.Ythiijfafbnmcjaa
open Go Go.RowKit Go.ChangeShapes Go.WideShapes Go.ChangeAt Go.Joins

theorem FnExactTextValid_walk (A : Option Addr) (c : Nat) (xs : List Int) (w : World) (hr : RI w A c xs) :
    Calls Try.prog 4 #[.slice A xs.length c] w (PT w) := by
  by_cases hbig : 1048576 < xs.length
  · go_enter Try.func4, Try.ntmps4
    go_wp2_with fail
    go_ret
    exact ⟨rfl, Below.refl _ _⟩
  have hb : xs.length ≤ 1048576 := by omega
  go_enter Try.func4, Try.ntmps4
  go_wp2_with fail
  refine (toIntS_any _ _ _ _ hr (by omega)).mono ?_
  rintro e w1 ⟨A1, c1, x1, hx1, ho1, rfl, hb1⟩
  obtain rfl := hx1.out
  go_wp2_with fail
  refine (sTextValid_any _ _ _ _ ho1.ri).mono ?_
  rintro e w' ⟨b, hb2, rfl, rfl⟩
  go_wp2_with fail
  refine (toIntS_any _ _ _ _ (hr.below hb1) (by omega)).mono ?_
  rintro e w2 ⟨A2, c2, x2, hx2, ho2, rfl, hb3⟩
  obtain rfl := hx2.out
  go_wp2_with fail
  refine (TextValid_any _ _ _ _ ho2.ri).mono ?_
  rintro e w' ⟨b', hb4, rfl, rfl⟩
  obtain rfl : b = b' := hb2.out.trans hb4.out.symm
  have hne : (b != b) = false := by simp
  go_wp2_with fail
  refine (toIntS_any _ _ _ _ ((hr.below hb1).below hb3) (by omega)).mono ?_
  rintro e w3 ⟨A3, c3, x3, hx3, ho3, rfl, hb5⟩
  obtain rfl := hx3.out
  go_wp2_with fail
  refine (eqIntS_any _ _ _ _ _ _ _ (ho2.below hb5).ri ho3.ri).mono ?_
  rintro e w4 ⟨b6, hb6, rfl, hb7⟩
  obtain rfl : b6 = true := by rw [hb6.out]; simp
  go_wp2_with fail
  go_ret
  exact ⟨rfl, hb1.trans ((hb3.mono hb1.size).trans ((hb5.mono (Nat.le_trans hb1.size hb3.size)).trans (hb7.mono (Nat.le_trans hb1.size (Nat.le_trans hb3.size hb5.size)))))⟩

set_option maxRecDepth 100000 in
theorem FnExactTextValid_lifted (os : Os) (started : os.Started) (H : Type) (enc : TypeId × Value → H) :
    ReturnsInHanded {} Try.checked os 4 .any (Rows.fnExactTextValidSpec.pre6 enc Try.prog Try.f4 Rows.fnExactTextValidRow.domain false) (Rows.fnExactTextValidSpec.post enc Try.prog Try.f4 false true false false) := by
  refine returnsInHanded_of_change (C := Try.checked) own started (by kernel_rfl) Try.func4
    (ChangeSpec.witness6 (enc := enc) (C := Try.checked) false ⟨#[], #[.slice none 0 0], []⟩ 8 (by kernel_rfl) (by kernel_rfl) (by kernel_rfl) (by kernel_rfl)) ?_
  intro W base args ds gs before hval0 hW hcnd _
  have hval : ∀ (j : Nat) t v, Try.f4.params[j]? = some t → args[j]? = some v → Value.okWide Try.prog W .any base t v := hval0
  have hW' := hW
  obtain ⟨p, q, hA0, hV, rfl, hfz, hnd⟩ := hW
  have hA : DataW.TrodAll enc Try.prog W 0 (fun _ => true) true Try.f4.params.toList args.toList ds p := hA0
  rw [Try.params4] at hA hval
  obtain ⟨v0, vs0, d0, ds0, p0, q0, hargs, rfl, rfl, h0, r0⟩ := trodAll_cons hA
  obtain ⟨rfl, rfl, rfl⟩ := trodAll_nil r0
  obtain rfl : args = #[v0] := by cases args; simp_all
  obtain ⟨rfl, rfl⟩ := trodVars_none hV
  have k0 := h0
  have lt0 : ∀ x ∈ p0, x.block < W.heap.size := by obtain ⟨m, hm⟩ := k0; exact DataW.trod_lt m _ _ _ hm
  obtain ⟨A0, c0, xs0, hv0, w0, wf0⟩ := open_row Try.underlying28 Try.underlying3 (by kernel_rfl) (hval 0 28 v0 rfl rfl) h0
  subst hv0
  clear hA0 hval0
  refine (FnExactTextValid_walk A0 c0 xs0 W w0).mono fun e W' ⟨he, bel⟩ => ?_
  subst he
  exact ⟨_, rfl, _, _, _, [], _, [], hW', trodAll_mk1 (shut_bool Try.underlying4 _), (trodAll_cons_mk (Below.trod laidOut (by kernel_rfl) (of_decide_eq_true (by kernel_rfl)) k0 bel lt0) trodAll_mk0), rfl, bel.frame _, fun h => by cases h⟩

theorem FnExactTextValid_holds : Rows.FnExactTextValidSaid :=
  OpenClaim.holds_of_wide 4 Try.f4 rfl rfl rfl rfl rfl rfl rfl ⟨rfl, rfl, rfl, rfl, rfl⟩ rfl rfl rfl rfl rfl (by kernel_rfl) Try.func4 (by kernel_rfl)
    (of_decide_eq_true (by kernel_rfl)) (by unfold Func.isWrapper; first | (rw [if_pos (by decide +kernel)]; kernel_rfl) | (rw [if_neg (by decide +kernel)]; exact ⟨rfl, rfl⟩))
    (fun os started H enc _ => FnExactTextValid_lifted os started H enc)

end Go.Proofs.Ythiijfafbnmcjaa
