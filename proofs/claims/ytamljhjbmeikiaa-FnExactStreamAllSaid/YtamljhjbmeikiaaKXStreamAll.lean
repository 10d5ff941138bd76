/- The law FnExactStreamAll: program and reference answer alike, arguments stay, results are memory of their own. No condition. -/
import Derived.Test.YtamljhjbmeikiaaGCo
import Derived.Test.YtamljhjbmeikiaaGMa
namespace Go.Proofs.Ytamljhjbmeikiaa
open Go Go.RowKit Go.ChangeShapes Go.WideShapes Go.ChangeAt Go.Joins

set_option maxHeartbeats 1000000 in
theorem FnExactStreamAll_walk (A0 : Option Addr) (c0 : Nat) (xs0 : List Int) (w : World) (hr0 : RI w A0 c0 xs0) :
    Calls Try.prog 10 #[.slice A0 xs0.length c0] w (PT w) := by
  by_cases hbig0 : 1048576 < xs0.length
  · go_enter Try.func10, Try.ntmps10
    go_wp2_with fail
    go_ret
    exact ⟨rfl, (by repeat (first | exact Below.refl _ _ | refine below_on ?_ (below_new _ _) | refine below_drewN ?_ _ | refine below_on ?_ (by assumption)))⟩
  have hn0 : xs0.length ≤ 1048576 := by omega
  clear hbig0
  have E0 := Env.nil w
  have hr0 := hr0
  go_enter Try.func10, Try.ntmps10
  go_wp2_with fail
  refine (toIntS_any _ _ _ _ (hr0.below E0.bel) (by omega)).mono ?_
  rintro e w1 ⟨s0_A, s0_c, s0_x, s0_e, s0_o, rfl, hb1⟩
  obtain rfl : xs0 = s0_x := s0_e.out.symm
  clear s0_e
  have E1 := E0.new hb1 s0_o
  clear E0 hb1 s0_o
  go_wp2_with fail
  refine (sStreamAll_any _ _ _ _ (OI.ri (E1.at_ 0 rfl)) (by (try dsimp only); omega)).mono ?_
  rintro e w2 ⟨S_A, S_c, S_x, S_b, S_hx, S_hb, S_o, rfl, hb2⟩
  have E2 := E1.new hb2 S_o
  clear E1 hb2 S_o
  go_wp2_with fail
  refine (toIntS_any _ _ _ _ (hr0.below E2.bel) (by omega)).mono ?_
  rintro e w3 ⟨x0_A, x0_c, x0_x, x0_e, x0_o, rfl, hb3⟩
  obtain rfl : xs0 = x0_x := x0_e.out.symm
  clear x0_e
  have E3 := E2.new hb3 x0_o
  clear E2 hb3 x0_o
  go_wp2_with fail
  refine (StreamAll_any _ _ _ _ (OI.ri (E3.at_ 2 rfl)) (by (try dsimp only); omega)).mono ?_
  rintro e w4 ⟨G_A, G_c, G_x, G_b, G_hx, G_hb, G_o, rfl, hb4⟩
  have E4 := E3.new hb4 G_o
  clear E3 hb4 G_o
  obtain rfl : S_x = G_x := S_hx.out.trans G_hx.out.symm
  obtain rfl : S_b = G_b := S_hb.out.trans G_hb.out.symm
  clear G_hb
  have hneB : (S_b != S_b) = false := by simp
  go_wp2_with fail
  refine (eqIntS_any _ _ _ _ _ _ _ (OI.ri (E4.at_ 3 rfl)) (OI.ri (E4.at_ 1 rfl))).mono ?_
  rintro e w5 ⟨q, hq, rfl, hb5⟩
  obtain rfl : q = true := by rw [hq.out]; simp
  clear hq
  have E5 := E4.call hb5
  clear E4 hb5
  go_wp2_with fail
  refine (toIntS_any _ _ _ _ (hr0.below E5.bel) (by omega)).mono ?_
  rintro e w6 ⟨y0_A, y0_c, y0_x, y0_e, y0_o, rfl, hb6⟩
  obtain rfl : xs0 = y0_x := y0_e.out.symm
  clear y0_e
  have E6 := E5.new hb6 y0_o
  clear E5 hb6 y0_o
  go_wp2_with fail
  refine (eqIntS_any _ _ _ _ _ _ _ (OI.ri (E6.at_ 2 rfl)) (OI.ri (E6.at_ 4 rfl))).mono ?_
  rintro e w7 ⟨q, hq, rfl, hb7⟩
  obtain rfl : q = true := by rw [hq.out]; simp
  clear hq
  have E7 := E6.call hb7
  clear E6 hb7
  have hlen : S_x.length ≤ 100000000 := by rw [S_hx.out]; exact sa_lenD _
  go_wp2_with fail
  refine (markIntS_any _ _ _ _ _ _ (E7.at_ 2 rfl) (by omega) (by omega) (by (try dsimp only); omega)).mono ?_
  rintro e w8 ⟨rfl, ho, hg⟩
  have E8 := E7.mark 2 rfl ho hg
  clear E7 ho hg
  clear G_hx
  go_wp2_with fail
  refine (eqIntS_any _ _ _ _ _ _ _ (OI.ri (E8.at_ 3 rfl)) (OI.ri (E8.at_ 1 rfl))).mono ?_
  rintro e w9 ⟨q, hq, rfl, hb9⟩
  obtain rfl : q = true := by rw [hq.out]; simp
  clear hq
  have E9 := E8.call hb9
  clear E8 hb9
  have hneM : (1 + (S_x.length : Int) != 1 + (S_x.length : Int)) = false := by simp
  go_wp2_with fail
  refine (markIntS_any _ _ _ _ _ _ (E9.at_ 3 rfl) (by omega) (by omega) (by (try dsimp only); omega)).mono ?_
  rintro e w10 ⟨rfl, ho, hg⟩
  have E10 := E9.mark 3 rfl ho hg
  clear E9 ho hg
  go_wp2_with fail
  refine (heldIntS_any _ _ _ _ _ (OI.ri (E10.at_ 3 rfl)) (by omega) (by omega) (by (try dsimp only); omega)).mono ?_
  rintro e w11 ⟨q, hq, rfl, rfl⟩
  obtain rfl : q = 1 + (S_x.length : Int) := hq.out
  clear hq
  go_wp2_with fail
  refine (toIntS_any _ _ _ _ (hr0.below E10.bel) (by omega)).mono ?_
  rintro e w11 ⟨j0_A, j0_c, j0_x, j0_e, j0_o, rfl, hb11⟩
  obtain rfl : xs0 = j0_x := j0_e.out.symm
  clear j0_e
  have E11 := E10.new hb11 j0_o
  clear E10 hb11 j0_o
  go_wp2_with fail
  refine (StreamAll_any _ _ _ _ (OI.ri (E11.at_ 5 rfl)) (by (try dsimp only); omega)).mono ?_
  rintro e w12 ⟨H_A, H_c, H_x, H_b, H_hx, H_hb, H_o, rfl, hb12⟩
  have E12 := E11.new hb12 H_o
  clear E11 hb12 H_o
  obtain rfl : S_x = H_x := S_hx.out.trans H_hx.out.symm
  clear H_hx
  obtain rfl : S_b = H_b := S_hb.out.trans H_hb.out.symm
  clear H_hb
  go_wp2_with fail
  refine (eqIntS_any _ _ _ _ _ _ _ (OI.ri (E12.at_ 6 rfl)) (OI.ri (E12.at_ 1 rfl))).mono ?_
  rintro e w13 ⟨q, hq, rfl, hb13⟩
  obtain rfl : q = true := by rw [hq.out]; simp
  clear hq
  have E13 := E12.call hb13
  clear E12 hb13
  go_wp2_with fail
  refine (heldIntS_any _ _ _ _ _ (OI.ri (E13.at_ 3 rfl)) (by omega) (by omega) (by (try dsimp only); omega)).mono ?_
  rintro e w14 ⟨q, hq, rfl, rfl⟩
  obtain rfl : q = 1 + (S_x.length : Int) := hq.out
  clear hq
  go_wp2_with fail
  go_ret
  exact ⟨rfl, E13.bel⟩

set_option maxRecDepth 100000 in
theorem FnExactStreamAll_lifted (os : Os) (started : os.Started) (H : Type) (enc : TypeId × Value → H) :
    ReturnsInHanded {} Try.checked os 10 .any (Rows.fnExactStreamAllSpec.pre6 enc Try.prog Try.f10 Rows.fnExactStreamAllRow.domain false) (Rows.fnExactStreamAllSpec.post enc Try.prog Try.f10 false true false false) := by
  refine returnsInHanded_of_change (C := Try.checked) own started (by kernel_rfl) Try.func10
    (ChangeSpec.witness6 (enc := enc) (C := Try.checked) false ⟨#[], #[.slice none 0 0], []⟩ 8 (by kernel_rfl) (by kernel_rfl) (by kernel_rfl) (by kernel_rfl)) ?_
  intro W base args ds gs before hval0 hW hcnd _
  have hval : ∀ (j : Nat) t v, Try.f10.params[j]? = some t → args[j]? = some v → Value.okWide Try.prog W .any base t v := hval0
  have hW' := hW
  obtain ⟨p, q, hA0, hV, rfl, hfz, hnd⟩ := hW
  have hA : DataW.TrodAll enc Try.prog W 0 (fun _ => true) true Try.f10.params.toList args.toList ds p := hA0
  rw [Try.params10] at hA hval
  obtain ⟨v0, vs0, d0, ds0, p0, q0, hargs, rfl, rfl, h0, r0⟩ := trodAll_cons hA
  obtain ⟨rfl, rfl, rfl⟩ := trodAll_nil r0
  obtain rfl : args = #[v0] := by cases args; simp_all
  obtain ⟨rfl, rfl⟩ := trodVars_none hV
  have k0 := h0
  have lt0 : ∀ x ∈ p0, x.block < W.heap.size := by obtain ⟨m, hm⟩ := k0; exact DataW.trod_lt m _ _ _ hm
  obtain ⟨A0, c0, xs0, hv0, w0, wf0⟩ := open_row Try.underlying23 Try.underlying3 (by kernel_rfl) (hval 0 23 v0 rfl rfl) h0
  subst hv0
  clear hA0 hval0
  refine (FnExactStreamAll_walk A0 c0 xs0 W w0).mono fun e W' ⟨he, bel⟩ => ?_
  subst he
  exact ⟨_, rfl, _, _, _, [], _, [], hW', trodAll_mk1 (shut_bool Try.underlying4 _), (trodAll_cons_mk (Below.trod laidOut (by kernel_rfl) (of_decide_eq_true (by kernel_rfl)) k0 bel lt0) trodAll_mk0), rfl, bel.frame _, fun h => by cases h⟩

theorem FnExactStreamAll_holds : Rows.FnExactStreamAllSaid :=
  OpenClaim.holds_of_wide 10 Try.f10 rfl rfl rfl rfl rfl rfl rfl ⟨rfl, rfl, rfl, rfl, rfl⟩ rfl rfl rfl rfl rfl (by kernel_rfl) Try.func10 (by kernel_rfl)
    (of_decide_eq_true (by kernel_rfl)) (by unfold Func.isWrapper; first | (rw [if_pos (by decide +kernel)]; kernel_rfl) | (rw [if_neg (by decide +kernel)]; exact ⟨rfl, rfl⟩))
    (fun os started H enc _ => FnExactStreamAll_lifted os started H enc)

end Go.Proofs.Ytamljhjbmeikiaa
