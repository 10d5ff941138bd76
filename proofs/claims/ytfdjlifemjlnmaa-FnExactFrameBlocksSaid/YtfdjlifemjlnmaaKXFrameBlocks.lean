/- The law FnExactFrameBlocks: program and reference answer alike, arguments stay, results are memory of their own. No condition. -/
import Derived.Test.YtfdjlifemjlnmaaGCk
import Derived.Test.YtfdjlifemjlnmaaGMa
namespace Go.Proofs.Ytfdjlifemjlnmaa
open Go Go.RowKit Go.ChangeShapes Go.WideShapes Go.ChangeAt Go.Joins

set_option maxHeartbeats 1000000 in
theorem FnExactFrameBlocks_walk (A0 : Option Addr) (c0 : Nat) (xs0 : List Int) (w : World) (hr0 : RI w A0 c0 xs0) :
    Calls Try.prog 9 #[.slice A0 xs0.length c0] w (PT w) := by
  by_cases hbig0 : 1048576 < xs0.length
  · go_enter Try.func9, Try.ntmps9
    go_wp2_with fail
    go_ret
    exact ⟨rfl, (by repeat (first | exact Below.refl _ _ | refine below_on ?_ (below_new _ _) | refine below_drewN ?_ _ | refine below_on ?_ (by assumption)))⟩
  have hn0 : xs0.length ≤ 1048576 := by omega
  clear hbig0
  have E0 := Env.nil w
  have hr0 := hr0
  go_enter Try.func9, Try.ntmps9
  go_wp2_with fail
  refine (toIntS_any _ _ _ _ (hr0.below E0.bel) (by omega)).mono ?_
  rintro e w1 ⟨s0_A, s0_c, s0_x, s0_e, s0_o, rfl, hb1⟩
  obtain rfl : xs0 = s0_x := s0_e.out.symm
  clear s0_e
  have E1 := E0.new hb1 s0_o
  clear E0 hb1 s0_o
  go_wp2_with fail
  refine (sFrameBlocks_any _ _ _ _ (OI.ri (E1.at_ 0 rfl)) (by (try dsimp only); omega)).mono ?_
  rintro e w2 ⟨S_n, S_hn, rfl, hb2⟩
  have E2 := E1.call hb2
  clear E1 hb2
  go_wp2_with fail
  refine (toIntS_any _ _ _ _ (hr0.below E2.bel) (by omega)).mono ?_
  rintro e w3 ⟨x0_A, x0_c, x0_x, x0_e, x0_o, rfl, hb3⟩
  obtain rfl : xs0 = x0_x := x0_e.out.symm
  clear x0_e
  have E3 := E2.new hb3 x0_o
  clear E2 hb3 x0_o
  go_wp2_with fail
  refine (FrameBlocks_any _ _ _ _ (OI.ri (E3.at_ 1 rfl)) (by (try dsimp only); omega)).mono ?_
  rintro e w4 ⟨G_n, G_hn, rfl, hb4⟩
  have E4 := E3.call hb4
  clear E3 hb4
  obtain rfl : S_n = G_n := S_hn.out.trans G_hn.out.symm
  clear G_hn
  have hneN : (S_n != S_n) = false := by simp
  go_wp2_with fail
  refine (toIntS_any _ _ _ _ (hr0.below E4.bel) (by omega)).mono ?_
  rintro e w5 ⟨y0_A, y0_c, y0_x, y0_e, y0_o, rfl, hb5⟩
  obtain rfl : xs0 = y0_x := y0_e.out.symm
  clear y0_e
  have E5 := E4.new hb5 y0_o
  clear E4 hb5 y0_o
  go_wp2_with fail
  refine (eqIntS_any _ _ _ _ _ _ _ (OI.ri (E5.at_ 1 rfl)) (OI.ri (E5.at_ 2 rfl))).mono ?_
  rintro e w6 ⟨q, hq, rfl, hb6⟩
  obtain rfl : q = true := by rw [hq.out]; simp
  clear hq
  have E6 := E5.call hb6
  clear E5 hb6
  go_wp2_with fail
  go_ret
  exact ⟨rfl, E6.bel⟩

set_option maxRecDepth 100000 in
theorem FnExactFrameBlocks_lifted (os : Os) (started : os.Started) (H : Type) (enc : TypeId × Value → H) :
    ReturnsInHanded {} Try.checked os 9 .any (Rows.fnExactFrameBlocksSpec.pre6 enc Try.prog Try.f9 Rows.fnExactFrameBlocksRow.domain false) (Rows.fnExactFrameBlocksSpec.post enc Try.prog Try.f9 false true false false) := by
  refine returnsInHanded_of_change (C := Try.checked) own started (by kernel_rfl) Try.func9
    (ChangeSpec.witness6 (enc := enc) (C := Try.checked) false ⟨#[], #[.slice none 0 0], []⟩ 8 (by kernel_rfl) (by kernel_rfl) (by kernel_rfl) (by kernel_rfl)) ?_
  intro W base args ds gs before hval0 hW hcnd _
  have hval : ∀ (j : Nat) t v, Try.f9.params[j]? = some t → args[j]? = some v → Value.okWide Try.prog W .any base t v := hval0
  have hW' := hW
  obtain ⟨p, q, hA0, hV, rfl, hfz, hnd⟩ := hW
  have hA : DataW.TrodAll enc Try.prog W 0 (fun _ => true) true Try.f9.params.toList args.toList ds p := hA0
  rw [Try.params9] at hA hval
  obtain ⟨v0, vs0, d0, ds0, p0, q0, hargs, rfl, rfl, h0, r0⟩ := trodAll_cons hA
  obtain ⟨rfl, rfl, rfl⟩ := trodAll_nil r0
  obtain rfl : args = #[v0] := by cases args; simp_all
  obtain ⟨rfl, rfl⟩ := trodVars_none hV
  have k0 := h0
  have lt0 : ∀ x ∈ p0, x.block < W.heap.size := by obtain ⟨m, hm⟩ := k0; exact DataW.trod_lt m _ _ _ hm
  obtain ⟨A0, c0, xs0, hv0, w0, wf0⟩ := open_row Try.underlying23 Try.underlying3 (by kernel_rfl) (hval 0 23 v0 rfl rfl) h0
  subst hv0
  clear hA0 hval0
  refine (FnExactFrameBlocks_walk A0 c0 xs0 W w0).mono fun e W' ⟨he, bel⟩ => ?_
  subst he
  exact ⟨_, rfl, _, _, _, [], _, [], hW', trodAll_mk1 (shut_bool Try.underlying4 _), (trodAll_cons_mk (Below.trod laidOut (by kernel_rfl) (of_decide_eq_true (by kernel_rfl)) k0 bel lt0) trodAll_mk0), rfl, bel.frame _, fun h => by cases h⟩

theorem FnExactFrameBlocks_holds : Rows.FnExactFrameBlocksSaid :=
  OpenClaim.holds_of_wide 9 Try.f9 rfl rfl rfl rfl rfl rfl rfl ⟨rfl, rfl, rfl, rfl, rfl⟩ rfl rfl rfl rfl rfl (by kernel_rfl) Try.func9 (by kernel_rfl)
    (of_decide_eq_true (by kernel_rfl)) (by unfold Func.isWrapper; first | (rw [if_pos (by decide +kernel)]; kernel_rfl) | (rw [if_neg (by decide +kernel)]; exact ⟨rfl, rfl⟩))
    (fun os started H enc _ => FnExactFrameBlocks_lifted os started H enc)

end Go.Proofs.Ytfdjlifemjlnmaa
