/- The laws FnExactBudgetNew, FnExactBudgetTake, FnExactBudgetGive: the program's budgets answer as the reference's, for all arguments. No condition. -/
import Derived.Test.YthiijfafbnmcjaaCBu
import Derived.Test.YthiijfafbnmcjaaFr
namespace Go.Proofs.Ythiijfafbnmcjaa
open Go Go.RowKit Go.ChangeShapes Go.WideShapes Go.ChangeAt Go.Joins

theorem bud_same {a l p a' l' p' : Int} {f : Option (Int × Int × Int)} (h : Hid ((a, l, p) = f.getD (0, 0, 0))) (h' : Hid ((a', l', p') = f.getD (0, 0, 0))) : a = a' ∧ l = l' ∧ p = p' := by
  have := h.out.trans h'.out.symm
  simpa using this

theorem FnExactBudgetNew_walk (n : Int) (w : World) (_ : (Lit.int .i64 n).wf = true) : Calls Try.prog 3 #[.int .i64 n] w (PT w) := by
  go_enter Try.func3, Try.ntmps3
  go_wp2_with fail
  refine (sBudgetNew_any _ _).mono ?_
  rintro e w1 ⟨a, l, p, b, hb, hq, rfl, hb1⟩
  go_wp2_with fail
  refine (BudgetNew_any _ _).mono ?_
  rintro e w2 ⟨a', l', p', b', hb', hq', rfl, hb2⟩
  obtain ⟨rfl, rfl, rfl⟩ := bud_same hq hq'
  obtain rfl : b = b' := hb.out.trans hb'.out.symm
  have hne : (b != b) = false := by simp
  obtain ⟨hc, hf⟩ := bcell hb2
  have hz : w1.heap.size < w2.heap.size := by have := hb2.size; simp at this; omega
  go_wp2_with fail
  refine (eqBudget_any _ _ _ _).mono ?_
  rintro e w3 ⟨b3, hb3, rfl, hb4⟩
  obtain rfl : b3 = true := hb3.out
  go_wp2_with fail
  go_ret
  exact ⟨rfl, below_on (below_on hb1 (below_on (below_new _ _) hb2)) (below_on (below_new _ _) hb4)⟩

set_option maxRecDepth 100000 in
theorem FnExactBudgetNew_lifted (os : Os) (started : os.Started) (H : Type) (enc : TypeId × Value → H) :
    ReturnsInHanded {} Try.checked os 3 .any (Rows.fnExactBudgetNewSpec.pre6 enc Try.prog Try.f3 Rows.fnExactBudgetNewRow.domain false) (Rows.fnExactBudgetNewSpec.post enc Try.prog Try.f3 false true false false) := by
  refine returnsInHanded_of_change (C := Try.checked) own started (by kernel_rfl) Try.func3
    (ChangeSpec.witness6 (enc := enc) (C := Try.checked) false ⟨#[], #[.int .i64 0], []⟩ 8 (by kernel_rfl) (by kernel_rfl) (by kernel_rfl) (by kernel_rfl)) ?_
  intro W base args ds gs before hval0 hW hcnd _
  have hval : ∀ (j : Nat) t v, Try.f3.params[j]? = some t → args[j]? = some v → Value.okWide Try.prog W .any base t v := hval0
  have hW' := hW
  obtain ⟨p, q, hA0, hV, rfl, hfz, hnd⟩ := hW
  have hA : DataW.TrodAll enc Try.prog W 0 (fun _ => true) true Try.f3.params.toList args.toList ds p := hA0
  rw [Try.params3] at hA hval
  obtain ⟨v0, vs0, d0, ds0, p0, q0, hargs, rfl, rfl, h0, r0⟩ := trodAll_cons hA
  obtain ⟨rfl, rfl, rfl⟩ := trodAll_nil r0
  obtain rfl : args = #[v0] := by cases args; simp_all
  obtain ⟨rfl, rfl⟩ := trodVars_none hV
  have k0 := h0
  have lt0 : ∀ x ∈ p0, x.block < W.heap.size := by obtain ⟨m, hm⟩ := k0; exact DataW.trod_lt m _ _ _ hm
  obtain ⟨a0, hv0, _, _, w0⟩ := open_int Try.underlying3 (hval 0 3 v0 rfl rfl) h0
  subst hv0
  clear hA0 hval0
  refine (FnExactBudgetNew_walk a0 W w0).mono fun e W' ⟨he, bel⟩ => ?_
  subst he
  exact ⟨_, rfl, _, _, _, [], _, [], hW', trodAll_mk1 (shut_bool Try.underlying4 _), (trodAll_cons_mk (Below.trod laidOut (by kernel_rfl) (of_decide_eq_true (by kernel_rfl)) k0 bel lt0) trodAll_mk0), rfl, bel.frame _, fun h => by cases h⟩

theorem FnExactBudgetNew_holds : Rows.FnExactBudgetNewSaid :=
  OpenClaim.holds_of_wide 3 Try.f3 rfl rfl rfl rfl rfl rfl rfl ⟨rfl, rfl, rfl, rfl, rfl⟩ rfl rfl rfl rfl rfl (by kernel_rfl) Try.func3 (by kernel_rfl)
    (of_decide_eq_true (by kernel_rfl)) (by unfold Func.isWrapper; first | (rw [if_pos (by decide +kernel)]; kernel_rfl) | (rw [if_neg (by decide +kernel)]; exact ⟨rfl, rfl⟩))
    (fun os started H enc _ => FnExactBudgetNew_lifted os started H enc)

theorem FnExactBudgetTake_walk (a0 l0 p0 n : Int) (w : World) (_ : (Lit.int .i64 a0).wf = true) (_ : (Lit.int .i64 l0).wf = true) (_ : (Lit.int .i64 p0).wf = true) (_ : (Lit.int .i64 n).wf = true) :
    Calls Try.prog 6 #[.agg #[.int .i64 a0, .int .i64 l0, .int .i64 p0], .int .i64 n] w (PT w) := by
  go_enter Try.func6, Try.ntmps6
  go_wp2_with fail
  refine (toBudget_any _ _ _ _).mono ?_
  rintro e w0 ⟨rfl, hb0⟩
  obtain ⟨hc0, hf0⟩ := bcell hb0
  have hz0 : w.heap.size < w0.heap.size := by have := hb0.size; simp at this; omega
  go_wp2_with fail
  refine (sBudgetTake_any _ _ _ _ _).mono ?_
  rintro e w1 ⟨a, l, p, b, hb, hq, rfl, hb1⟩
  obtain ⟨hc1, hf1⟩ := bcell hb1
  have hz1 : w.heap.size < w1.heap.size := by have := hb1.size; omega
  go_wp2_with fail
  refine (toBudget_any _ _ _ _).mono ?_
  rintro e w2 ⟨rfl, hb2⟩
  obtain ⟨hc2, hf2⟩ := bcell hb2
  have hz2 : w1.heap.size < w2.heap.size := by have := hb2.size; simp at this; omega
  go_wp2_with fail
  refine (BudgetTake_any _ _ _ _ _).mono ?_
  rintro e w3 ⟨a', l', p', b', hb', hq', rfl, hb3⟩
  obtain ⟨rfl, rfl, rfl⟩ := bud_same hq hq'
  obtain rfl : b = b' := hb.out.trans hb'.out.symm
  have hne : (b != b) = false := by simp
  obtain ⟨hc3, hf3⟩ := bcell hb3
  have hz3 : w1.heap.size < w3.heap.size := by have := hb3.size; omega
  go_wp2_with fail
  refine (eqBudget_any _ _ _ _).mono ?_
  rintro e w4 ⟨b3, hb3', rfl, hb4⟩
  obtain rfl : b3 = true := hb3'.out
  go_wp2_with fail
  go_ret
  exact ⟨rfl, below_on (below_on (below_on (below_on (below_on (below_new _ _) hb0) hb1) (below_on (below_new _ _) hb2)) hb3) (below_on (below_new _ _) hb4)⟩

set_option maxRecDepth 100000 in
theorem FnExactBudgetTake_lifted (os : Os) (started : os.Started) (H : Type) (enc : TypeId × Value → H) :
    ReturnsInHanded {} Try.checked os 6 .any (Rows.fnExactBudgetTakeSpec.pre6 enc Try.prog Try.f6 Rows.fnExactBudgetTakeRow.domain false) (Rows.fnExactBudgetTakeSpec.post enc Try.prog Try.f6 false true false false) := by
  refine returnsInHanded_of_change (C := Try.checked) own started (by kernel_rfl) Try.func6
    (ChangeSpec.witness6 (enc := enc) (C := Try.checked) false ⟨#[], #[.agg #[.int .i64 0, .int .i64 0, .int .i64 0], .int .i64 0], []⟩ 8 (by kernel_rfl) (by kernel_rfl) (by kernel_rfl) (by kernel_rfl)) ?_
  intro W base args ds gs before hval0 hW hcnd _
  have hval : ∀ (j : Nat) t v, Try.f6.params[j]? = some t → args[j]? = some v → Value.okWide Try.prog W .any base t v := hval0
  have hW' := hW
  obtain ⟨p, q, hA0, hV, rfl, hfz, hnd⟩ := hW
  have hA : DataW.TrodAll enc Try.prog W 0 (fun _ => true) true Try.f6.params.toList args.toList ds p := hA0
  rw [Try.params6] at hA hval
  obtain ⟨v0, vs0, d0, ds0, p0, q0, hargs, rfl, rfl, h0, r0⟩ := trodAll_cons hA
  obtain ⟨v1, vs1, d1, ds1, p1, q1, rfl, rfl, rfl, h1, r1⟩ := trodAll_cons r0
  obtain ⟨rfl, rfl, rfl⟩ := trodAll_nil r1
  obtain rfl : args = #[v0, v1] := by cases args; simp_all
  obtain ⟨rfl, rfl⟩ := trodVars_none hV
  have k0 := h0
  have lt0 : ∀ x ∈ p0, x.block < W.heap.size := by obtain ⟨m, hm⟩ := k0; exact DataW.trod_lt m _ _ _ hm
  obtain ⟨c0_0, c0_1, c0_2, y0_0, y0_1, y0_2, m0, hv0, _, _, e0_0, e0_1, e0_2⟩ := open_agg3 Try.underlying32 (by kernel_rfl) (by kernel_rfl) (hval 0 32 v0 rfl rfl) h0
  subst hv0
  obtain ⟨a0_0, f0_0, _, w0_0⟩ := DataW.trod_int Try.underlying3 e0_0
  simp only [List.cons.injEq, and_true] at f0_0
  subst f0_0
  obtain ⟨a0_1, f0_1, _, w0_1⟩ := DataW.trod_int Try.underlying3 e0_1
  simp only [List.cons.injEq, and_true] at f0_1
  subst f0_1
  obtain ⟨a0_2, f0_2, _, w0_2⟩ := DataW.trod_int Try.underlying3 e0_2
  simp only [List.cons.injEq, and_true] at f0_2
  subst f0_2
  have k1 := h1
  have lt1 : ∀ x ∈ p1, x.block < W.heap.size := by obtain ⟨m, hm⟩ := k1; exact DataW.trod_lt m _ _ _ hm
  obtain ⟨a1, hv1, _, _, w1⟩ := open_int Try.underlying3 (hval 1 3 v1 rfl rfl) h1
  subst hv1
  clear hA0 hval0
  refine (FnExactBudgetTake_walk a0_0 a0_1 a0_2 a1 W w0_0 w0_1 w0_2 w1).mono fun e W' ⟨he, bel⟩ => ?_
  subst he
  exact ⟨_, rfl, _, _, _, [], _, [], hW', trodAll_mk1 (shut_bool Try.underlying4 _), (trodAll_cons_mk (Below.trod laidOut (by kernel_rfl) (of_decide_eq_true (by kernel_rfl)) k0 bel lt0) (trodAll_cons_mk (Below.trod laidOut (by kernel_rfl) (of_decide_eq_true (by kernel_rfl)) k1 bel lt1) trodAll_mk0)), rfl, bel.frame _, fun h => by cases h⟩

theorem FnExactBudgetTake_holds : Rows.FnExactBudgetTakeSaid :=
  OpenClaim.holds_of_wide 6 Try.f6 rfl rfl rfl rfl rfl rfl rfl ⟨rfl, rfl, rfl, rfl, rfl⟩ rfl rfl rfl rfl rfl (by kernel_rfl) Try.func6 (by kernel_rfl)
    (of_decide_eq_true (by kernel_rfl)) (by unfold Func.isWrapper; first | (rw [if_pos (by decide +kernel)]; kernel_rfl) | (rw [if_neg (by decide +kernel)]; exact ⟨rfl, rfl⟩))
    (fun os started H enc _ => FnExactBudgetTake_lifted os started H enc)


theorem FnExactBudgetGive_walk (a0 l0 p0 n : Int) (w : World) (_ : (Lit.int .i64 a0).wf = true) (_ : (Lit.int .i64 l0).wf = true) (_ : (Lit.int .i64 p0).wf = true) (_ : (Lit.int .i64 n).wf = true) :
    Calls Try.prog 5 #[.agg #[.int .i64 a0, .int .i64 l0, .int .i64 p0], .int .i64 n] w (PT w) := by
  go_enter Try.func5, Try.ntmps5
  go_wp2_with fail
  refine (toBudget_any _ _ _ _).mono ?_
  rintro e w0 ⟨rfl, hb0⟩
  obtain ⟨hc0, hf0⟩ := bcell hb0
  have hz0 : w.heap.size < w0.heap.size := by have := hb0.size; simp at this; omega
  go_wp2_with fail
  refine (sBudgetGive_any _ _ _ _ _).mono ?_
  rintro e w1 ⟨a, l, p, b, hb, hq, rfl, hb1⟩
  obtain ⟨hc1, hf1⟩ := bcell hb1
  have hz1 : w.heap.size < w1.heap.size := by have := hb1.size; omega
  go_wp2_with fail
  refine (toBudget_any _ _ _ _).mono ?_
  rintro e w2 ⟨rfl, hb2⟩
  obtain ⟨hc2, hf2⟩ := bcell hb2
  have hz2 : w1.heap.size < w2.heap.size := by have := hb2.size; simp at this; omega
  go_wp2_with fail
  refine (BudgetGive_any _ _ _ _ _).mono ?_
  rintro e w3 ⟨a', l', p', b', hb', hq', rfl, hb3⟩
  obtain ⟨rfl, rfl, rfl⟩ := bud_same hq hq'
  obtain rfl : b = b' := hb.out.trans hb'.out.symm
  have hne : (b != b) = false := by simp
  obtain ⟨hc3, hf3⟩ := bcell hb3
  have hz3 : w1.heap.size < w3.heap.size := by have := hb3.size; omega
  go_wp2_with fail
  refine (eqBudget_any _ _ _ _).mono ?_
  rintro e w4 ⟨b3, hb3', rfl, hb4⟩
  obtain rfl : b3 = true := hb3'.out
  go_wp2_with fail
  go_ret
  exact ⟨rfl, below_on (below_on (below_on (below_on (below_on (below_new _ _) hb0) hb1) (below_on (below_new _ _) hb2)) hb3) (below_on (below_new _ _) hb4)⟩

set_option maxRecDepth 100000 in
theorem FnExactBudgetGive_lifted (os : Os) (started : os.Started) (H : Type) (enc : TypeId × Value → H) :
    ReturnsInHanded {} Try.checked os 5 .any (Rows.fnExactBudgetGiveSpec.pre6 enc Try.prog Try.f5 Rows.fnExactBudgetGiveRow.domain false) (Rows.fnExactBudgetGiveSpec.post enc Try.prog Try.f5 false true false false) := by
  refine returnsInHanded_of_change (C := Try.checked) own started (by kernel_rfl) Try.func5
    (ChangeSpec.witness6 (enc := enc) (C := Try.checked) false ⟨#[], #[.agg #[.int .i64 0, .int .i64 0, .int .i64 0], .int .i64 0], []⟩ 8 (by kernel_rfl) (by kernel_rfl) (by kernel_rfl) (by kernel_rfl)) ?_
  intro W base args ds gs before hval0 hW hcnd _
  have hval : ∀ (j : Nat) t v, Try.f5.params[j]? = some t → args[j]? = some v → Value.okWide Try.prog W .any base t v := hval0
  have hW' := hW
  obtain ⟨p, q, hA0, hV, rfl, hfz, hnd⟩ := hW
  have hA : DataW.TrodAll enc Try.prog W 0 (fun _ => true) true Try.f5.params.toList args.toList ds p := hA0
  rw [Try.params5] at hA hval
  obtain ⟨v0, vs0, d0, ds0, p0, q0, hargs, rfl, rfl, h0, r0⟩ := trodAll_cons hA
  obtain ⟨v1, vs1, d1, ds1, p1, q1, rfl, rfl, rfl, h1, r1⟩ := trodAll_cons r0
  obtain ⟨rfl, rfl, rfl⟩ := trodAll_nil r1
  obtain rfl : args = #[v0, v1] := by cases args; simp_all
  obtain ⟨rfl, rfl⟩ := trodVars_none hV
  have k0 := h0
  have lt0 : ∀ x ∈ p0, x.block < W.heap.size := by obtain ⟨m, hm⟩ := k0; exact DataW.trod_lt m _ _ _ hm
  obtain ⟨c0_0, c0_1, c0_2, y0_0, y0_1, y0_2, m0, hv0, _, _, e0_0, e0_1, e0_2⟩ := open_agg3 Try.underlying32 (by kernel_rfl) (by kernel_rfl) (hval 0 32 v0 rfl rfl) h0
  subst hv0
  obtain ⟨a0_0, f0_0, _, w0_0⟩ := DataW.trod_int Try.underlying3 e0_0
  simp only [List.cons.injEq, and_true] at f0_0
  subst f0_0
  obtain ⟨a0_1, f0_1, _, w0_1⟩ := DataW.trod_int Try.underlying3 e0_1
  simp only [List.cons.injEq, and_true] at f0_1
  subst f0_1
  obtain ⟨a0_2, f0_2, _, w0_2⟩ := DataW.trod_int Try.underlying3 e0_2
  simp only [List.cons.injEq, and_true] at f0_2
  subst f0_2
  have k1 := h1
  have lt1 : ∀ x ∈ p1, x.block < W.heap.size := by obtain ⟨m, hm⟩ := k1; exact DataW.trod_lt m _ _ _ hm
  obtain ⟨a1, hv1, _, _, w1⟩ := open_int Try.underlying3 (hval 1 3 v1 rfl rfl) h1
  subst hv1
  clear hA0 hval0
  refine (FnExactBudgetGive_walk a0_0 a0_1 a0_2 a1 W w0_0 w0_1 w0_2 w1).mono fun e W' ⟨he, bel⟩ => ?_
  subst he
  exact ⟨_, rfl, _, _, _, [], _, [], hW', trodAll_mk1 (shut_bool Try.underlying4 _), (trodAll_cons_mk (Below.trod laidOut (by kernel_rfl) (of_decide_eq_true (by kernel_rfl)) k0 bel lt0) (trodAll_cons_mk (Below.trod laidOut (by kernel_rfl) (of_decide_eq_true (by kernel_rfl)) k1 bel lt1) trodAll_mk0)), rfl, bel.frame _, fun h => by cases h⟩

theorem FnExactBudgetGive_holds : Rows.FnExactBudgetGiveSaid :=
  OpenClaim.holds_of_wide 5 Try.f5 rfl rfl rfl rfl rfl rfl rfl ⟨rfl, rfl, rfl, rfl, rfl⟩ rfl rfl rfl rfl rfl (by kernel_rfl) Try.func5 (by kernel_rfl)
    (of_decide_eq_true (by kernel_rfl)) (by unfold Func.isWrapper; first | (rw [if_pos (by decide +kernel)]; kernel_rfl) | (rw [if_neg (by decide +kernel)]; exact ⟨rfl, rfl⟩))
    (fun os started H enc _ => FnExactBudgetGive_lifted os started H enc)

end Go.Proofs.Ythiijfafbnmcjaa
