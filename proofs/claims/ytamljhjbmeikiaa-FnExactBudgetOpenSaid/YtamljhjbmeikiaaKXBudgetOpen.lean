/- The law FnExactBudgetOpen: program and reference answer alike, arguments stay, results are memory of their own. No condition. -/
import Derived.Test.YtamljhjbmeikiaaGCl
import Derived.Test.YtamljhjbmeikiaaGMa
namespace Go.Proofs.Ytamljhjbmeikiaa
open Go Go.RowKit Go.ChangeShapes Go.WideShapes Go.ChangeAt Go.Joins

set_option maxHeartbeats 1000000 in
theorem FnExactBudgetOpen_walk (v0_0 v0_1 v0_2 : Int) (A1 : Option Addr) (c1 : Nat) (xs1 : List Int) (w : World) (_ : (Lit.int .i64 v0_0).wf = true) (_ : (Lit.int .i64 v0_1).wf = true) (_ : (Lit.int .i64 v0_2).wf = true) (hr1 : RI w A1 c1 xs1) :
    Calls Try.prog 7 #[.agg #[.int .i64 v0_0, .int .i64 v0_1, .int .i64 v0_2], .slice A1 xs1.length c1] w (PT w) := by
  by_cases hbig1 : 1048576 < xs1.length
  · go_enter Try.func7, Try.ntmps7
    go_wp2_with fail
    go_ret
    exact ⟨rfl, (by repeat (first | exact Below.refl _ _ | refine below_on ?_ (below_new _ _) | refine below_drewN ?_ _ | refine below_on ?_ (by assumption)))⟩
  have hn1 : xs1.length ≤ 1048576 := by omega
  clear hbig1
  have E0 := Env.nil (w.alloc (.cells #[.int .i64 v0_0, .int .i64 v0_1, .int .i64 v0_2] 32))
  have hr1 := hr1.below (below_new w (.cells #[.int .i64 v0_0, .int .i64 v0_1, .int .i64 v0_2] 32))
  go_enter Try.func7, Try.ntmps7
  go_wp2_with fail
  refine (toBudget_any _ _ _ _).mono ?_
  rintro e w1 ⟨rfl, hb1⟩
  have E1 := E0.call hb1
  clear E0 hb1
  go_wp2_with fail
  refine (toIntS_any _ _ _ _ (hr1.below E1.bel) (by omega)).mono ?_
  rintro e w2 ⟨s1_A, s1_c, s1_x, s1_e, s1_o, rfl, hb2⟩
  obtain rfl : xs1 = s1_x := s1_e.out.symm
  clear s1_e
  have E2 := E1.new hb2 s1_o
  clear E1 hb2 s1_o
  go_wp2_with fail
  refine (sBudgetOpen_any _ _ _ _ _ _ _ (OI.ri (E2.at_ 0 rfl)) (by (try dsimp only); omega)).mono ?_
  rintro e w3 ⟨S_u0, S_u1, S_u2, S_b, S_hb, S_hu, rfl, hb3⟩
  have W3 := BX.new w3 #[.int .i64 S_u0, .int .i64 S_u1, .int .i64 S_u2] 33
  have E3 := (E2.call hb3).call (below_new w3 (.cells #[.int .i64 S_u0, .int .i64 S_u1, .int .i64 S_u2] 33))
  clear E2 hb3
  go_wp2_with fail
  refine (toIntS_any _ _ _ _ (hr1.below E3.bel) (by omega)).mono ?_
  rintro e w4 ⟨x1_A, x1_c, x1_x, x1_e, x1_o, rfl, hb4⟩
  have W4 := W3.below hb4
  obtain rfl : xs1 = x1_x := x1_e.out.symm
  clear x1_e
  have E4 := E3.new hb4 x1_o
  clear E3 hb4 x1_o
  have kb0 : w4.cell? ⟨w.heap.size, 0, none⟩ = some (.int .i64 v0_0) := (E4.bel.cell (by simp)).trans (by simp)
  have kb1 : w4.cell? ⟨w.heap.size, 1, none⟩ = some (.int .i64 v0_1) := (E4.bel.cell (by simp)).trans (by simp)
  have kb2 : w4.cell? ⟨w.heap.size, 2, none⟩ = some (.int .i64 v0_2) := (E4.bel.cell (by simp)).trans (by simp)
  go_wp2_with fail
  refine (toBudget_any _ _ _ _).mono ?_
  rintro e w5 ⟨rfl, hb5⟩
  have W5 := W4.below hb5
  clear kb0 kb1 kb2
  have E5 := E4.call hb5
  clear E4 hb5
  go_wp2_with fail
  refine (BudgetOpen_any _ _ _ _ _ _ _ (OI.ri (E5.at_ 1 rfl)) (by (try dsimp only); omega)).mono ?_
  rintro e w6 ⟨G_u0, G_u1, G_u2, G_b, G_hb, G_hu, rfl, hb6⟩
  obtain rfl : S_b = G_b := S_hb.out.trans G_hb.out.symm
  clear G_hb
  obtain ⟨rfl, rfl, rfl⟩ := bud_same S_hu G_hu
  have G6 := BX.new w6 #[.int .i64 S_u0, .int .i64 S_u1, .int .i64 S_u2] 33
  have W6 := (W5.below hb6).alloc (.cells #[.int .i64 S_u0, .int .i64 S_u1, .int .i64 S_u2] 33)
  have E6 := (E5.call hb6).call (below_new w6 (.cells #[.int .i64 S_u0, .int .i64 S_u1, .int .i64 S_u2] 33))
  clear E5 hb6 W3 W4 W5
  have q0 := W6.c0
  have q1 := W6.c1
  have q2 := W6.c2
  have k0 := G6.c0
  have k1 := G6.c1
  have k2 := G6.c2
  have hneB : (S_b != S_b) = false := by simp
  go_wp2_with fail
  refine (eqBudget_any _ _ _ _).mono ?_
  rintro e w7 ⟨q, hq, rfl, hb7⟩
  obtain rfl : q = true := hq.out
  clear hq
  have E7 := E6.call hb7
  clear E6 hb7
  go_wp2_with fail
  refine (toIntS_any _ _ _ _ (hr1.below E7.bel) (by omega)).mono ?_
  rintro e w8 ⟨y1_A, y1_c, y1_x, y1_e, y1_o, rfl, hb8⟩
  obtain rfl : xs1 = y1_x := y1_e.out.symm
  clear y1_e
  have E8 := E7.new hb8 y1_o
  clear E7 hb8 y1_o
  go_wp2_with fail
  refine (eqIntS_any _ _ _ _ _ _ _ (OI.ri (E8.at_ 1 rfl)) (OI.ri (E8.at_ 2 rfl))).mono ?_
  rintro e w9 ⟨q, hq, rfl, hb9⟩
  obtain rfl : q = true := by rw [hq.out]; simp
  clear hq
  have E9 := E8.call hb9
  clear E8 hb9
  go_wp2_with fail
  go_ret
  exact ⟨rfl, below_on (below_new _ _) E9.bel⟩

set_option maxRecDepth 100000 in
theorem FnExactBudgetOpen_lifted (os : Os) (started : os.Started) (H : Type) (enc : TypeId × Value → H) :
    ReturnsInHanded {} Try.checked os 7 .any (Rows.fnExactBudgetOpenSpec.pre6 enc Try.prog Try.f7 Rows.fnExactBudgetOpenRow.domain false) (Rows.fnExactBudgetOpenSpec.post enc Try.prog Try.f7 false true false false) := by
  refine returnsInHanded_of_change (C := Try.checked) own started (by kernel_rfl) Try.func7
    (ChangeSpec.witness6 (enc := enc) (C := Try.checked) false ⟨#[], #[.agg #[.int .i64 0, .int .i64 0, .int .i64 0], .slice none 0 0], []⟩ 8 (by kernel_rfl) (by kernel_rfl) (by kernel_rfl) (by kernel_rfl)) ?_
  intro W base args ds gs before hval0 hW hcnd _
  have hval : ∀ (j : Nat) t v, Try.f7.params[j]? = some t → args[j]? = some v → Value.okWide Try.prog W .any base t v := hval0
  have hW' := hW
  obtain ⟨p, q, hA0, hV, rfl, hfz, hnd⟩ := hW
  have hA : DataW.TrodAll enc Try.prog W 0 (fun _ => true) true Try.f7.params.toList args.toList ds p := hA0
  rw [Try.params7] at hA hval
  obtain ⟨v0, vs0, d0, ds0, p0, q0, hargs, rfl, rfl, h0, r0⟩ := trodAll_cons hA
  obtain ⟨v1, vs1, d1, ds1, p1, q1, rfl, rfl, rfl, h1, r1⟩ := trodAll_cons r0
  obtain ⟨rfl, rfl, rfl⟩ := trodAll_nil r1
  obtain rfl : args = #[v0, v1] := by cases args; simp_all
  obtain ⟨rfl, rfl⟩ := trodVars_none hV
  have k0 := h0
  have lt0 : ∀ x ∈ p0, x.block < W.heap.size := by obtain ⟨m, hm⟩ := k0; exact DataW.trod_lt m _ _ _ hm
  obtain ⟨c0_0, c0_1, c0_2, y0_0, y0_1, y0_2, m0, hv0, _, _, e0_0, e0_1, e0_2⟩ := open_agg3 Try.underlying32 (by kernel_rfl) (by kernel_rfl) (hval 0 32 v0 rfl rfl) h0
  subst hv0
  obtain ⟨a0_0, f0_0, _, w0_0⟩ := DataW.trod_int Try.underlying3 e0_0
  simp only [List.cons.injEq, and_true] at f0_0
  subst f0_0
  obtain ⟨a0_1, f0_1, _, w0_1⟩ := DataW.trod_int Try.underlying3 e0_1
  simp only [List.cons.injEq, and_true] at f0_1
  subst f0_1
  obtain ⟨a0_2, f0_2, _, w0_2⟩ := DataW.trod_int Try.underlying3 e0_2
  simp only [List.cons.injEq, and_true] at f0_2
  subst f0_2
  have k1 := h1
  have lt1 : ∀ x ∈ p1, x.block < W.heap.size := by obtain ⟨m, hm⟩ := k1; exact DataW.trod_lt m _ _ _ hm
  obtain ⟨A1, c1, xs1, hv1, w1, wf1⟩ := open_row Try.underlying23 Try.underlying3 (by kernel_rfl) (hval 1 23 v1 rfl rfl) h1
  subst hv1
  clear hA0 hval0
  refine (FnExactBudgetOpen_walk a0_0 a0_1 a0_2 A1 c1 xs1 W w0_0 w0_1 w0_2 w1).mono fun e W' ⟨he, bel⟩ => ?_
  subst he
  exact ⟨_, rfl, _, _, _, [], _, [], hW', trodAll_mk1 (shut_bool Try.underlying4 _), (trodAll_cons_mk (Below.trod laidOut (by kernel_rfl) (of_decide_eq_true (by kernel_rfl)) k0 bel lt0) (trodAll_cons_mk (Below.trod laidOut (by kernel_rfl) (of_decide_eq_true (by kernel_rfl)) k1 bel lt1) trodAll_mk0)), rfl, bel.frame _, fun h => by cases h⟩

theorem FnExactBudgetOpen_holds : Rows.FnExactBudgetOpenSaid :=
  OpenClaim.holds_of_wide 7 Try.f7 rfl rfl rfl rfl rfl rfl rfl ⟨rfl, rfl, rfl, rfl, rfl⟩ rfl rfl rfl rfl rfl (by kernel_rfl) Try.func7 (by kernel_rfl)
    (of_decide_eq_true (by kernel_rfl)) (by unfold Func.isWrapper; first | (rw [if_pos (by decide +kernel)]; kernel_rfl) | (rw [if_neg (by decide +kernel)]; exact ⟨rfl, rfl⟩))
    (fun os started H enc _ => FnExactBudgetOpen_lifted os started H enc)

end Go.Proofs.Ytamljhjbmeikiaa
