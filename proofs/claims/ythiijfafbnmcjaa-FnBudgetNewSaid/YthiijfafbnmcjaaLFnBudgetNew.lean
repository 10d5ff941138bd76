/- The law FnBudgetNew: a new budget is whole, whatever is drawn. No condition. -/
import Derived.Test.YthiijfafbnmcjaaDBu
import Derived.Test.YthiijfafbnmcjaaFr
namespace Go.Proofs.Ythiijfafbnmcjaa
open Go Go.RowKit Go.ChangeShapes Go.WideShapes Go.ChangeAt Go.Joins

theorem bud_same {a l p a' l' p' : Int} {f : Option (Int × Int × Int)} (h : Hid ((a, l, p) = f.getD (0, 0, 0))) (h' : Hid ((a', l', p') = f.getD (0, 0, 0))) : a = a' ∧ l = l' ∧ p = p' := by
  have := h.out.trans h'.out.symm
  simpa using this

theorem budNew_yes {n : Int} (h : true = (budNew n).isSome) : 0 ≤ n ∧ n ≤ 9999 ∧ (budNew n).getD (0, 0, 0) = (n, n, 0) := by
  unfold budNew at h ⊢
  split at h
  · rename_i h'
    rw [if_pos h']
    exact ⟨(inB_true.1 h').1, (inB_true.1 h').2, rfl⟩
  · cases h
theorem take_all {n : Int} (h0 : 0 ≤ n) (h1 : n ≤ 9999) : budTake n n 0 n = some (n, 0, n) := by
  have h2 : budOk n n 0 = true := by simp [budOk, inB]; omega
  have h3 : inB 0 n n = true := by simp [inB]; omega
  simp [budTake, h2, h3]; omega
theorem take_more {n : Int} : budTake n n 0 (n + 1) = none := by
  have h3 : inB 0 n (n + 1) = false := by rw [inB_false]; omega
  simp [budTake, h3]
theorem FnBudgetNew_walk (A : Option Addr) (c : Nat) (bs : List Int) (w : World) (hr : RY w A c bs) : Calls Try.prog 7 #[.slice A bs.length c] w (PT w) := by
  by_cases hbig : 1048576 < bs.length
  · go_enter Try.func7, Try.ntmps7
    go_wp2_with fail
    go_ret
    exact ⟨rfl, Below.refl _ _⟩
  have hb : bs.length ≤ 1048576 := by omega
  go_enter Try.func7, Try.ntmps7
  go_wp2_with fail
  refine (DrawBudgetNew_any _ _ _ _ hr).mono ?_
  rintro e w1 ⟨n, rfl, hb1⟩
  go_wp2_with fail
  refine (BudgetNew_any _ _).mono ?_
  rintro e w2 ⟨a, l, p, b, hb, hq, rfl, hb2⟩
  go_wp2_with fail
  refine (sBudgetNew_any _ _).mono ?_
  rintro e w3 ⟨a', l', p', b', hb', hq', rfl, hb3⟩
  obtain ⟨rfl, rfl, rfl⟩ := bud_same hq hq'
  obtain rfl : b = b' := hb.out.trans hb'.out.symm
  obtain ⟨hc3, hf3⟩ := bcell hb3
  have hz3 : w2.heap.size < w3.heap.size := by have := hb3.size; simp at this; omega
  cases b
  · go_wp2_with fail
    go_ret
    exact ⟨rfl, (by repeat (first | exact Below.refl _ _ | refine below_on ?_ (below_new _ _) | refine below_drewN ?_ _ | refine below_on ?_ (by assumption)))⟩
  obtain ⟨hn0, hn1, hn2⟩ := budNew_yes hb.out
  obtain ⟨ha, hl, hp⟩ : n = a ∧ n = l ∧ 0 = p := by have := hn2.symm.trans hq.out.symm; simpa using this
  subst ha hl hp
  clear hn2 hq hq' hb hb'
  go_wp2_with fail
  refine (BudgetTake_any _ _ _ _ _).mono ?_
  rintro e w4 ⟨a2, l2, p2, b2, hb4, hq4, rfl, hbw4⟩
  rw [take_all hn0 hn1] at hb4 hq4
  obtain rfl : b2 = true := hb4.out
  obtain ⟨ha, hl, hp⟩ : n = a2 ∧ 0 = l2 ∧ n = p2 := by have := hq4.out.symm; simpa using this
  subst ha hl hp
  clear hb4 hq4
  obtain ⟨hc4, hf4⟩ := bcell hbw4
  have hz4 : w2.heap.size < w4.heap.size := by have := hbw4.size; simp at this; omega
  go_wp2_with fail
  refine (BudgetTake_any _ _ _ _ _).mono ?_
  rintro e w5 ⟨a3, l3, p3, b3, hb5, hq5, rfl, hbw5⟩
  rw [take_more] at hb5 hq5
  obtain rfl : b3 = false := hb5.out
  clear hb5 hq5
  obtain ⟨hc5, hf5⟩ := bcell hbw5
  have hz5 : w2.heap.size < w5.heap.size := by have := hbw5.size; simp at this; omega
  have hz6 : w4.heap.size < w5.heap.size := by have := hbw5.size; simp at this; omega
  go_wp2_with fail
  go_ret
  exact ⟨rfl, (by repeat (first | exact Below.refl _ _ | refine below_on ?_ (below_new _ _) | refine below_drewN ?_ _ | refine below_on ?_ (by assumption)))⟩

set_option maxRecDepth 100000 in
theorem FnBudgetNew_lifted (os : Os) (started : os.Started) (H : Type) (enc : TypeId × Value → H) :
    ReturnsInHanded {} Try.checked os 7 .any (Rows.fnBudgetNewSpec.pre6 enc Try.prog Try.f7 Rows.fnBudgetNewRow.domain false) (Rows.fnBudgetNewSpec.post enc Try.prog Try.f7 false true false false) := by
  refine returnsInHanded_of_change (C := Try.checked) own started (by kernel_rfl) Try.func7
    (ChangeSpec.witness6 (enc := enc) (C := Try.checked) false ⟨#[], #[.slice none 0 0], []⟩ 8 (by kernel_rfl) (by kernel_rfl) (by kernel_rfl) (by kernel_rfl)) ?_
  intro W base args ds gs before hval0 hW hcnd _
  have hval : ∀ (j : Nat) t v, Try.f7.params[j]? = some t → args[j]? = some v → Value.okWide Try.prog W .any base t v := hval0
  have hW' := hW
  obtain ⟨p, q, hA0, hV, rfl, hfz, hnd⟩ := hW
  have hA : DataW.TrodAll enc Try.prog W 0 (fun _ => true) true Try.f7.params.toList args.toList ds p := hA0
  rw [Try.params7] at hA hval
  obtain ⟨v0, vs0, d0, ds0, p0, q0, hargs, rfl, rfl, h0, r0⟩ := trodAll_cons hA
  obtain ⟨rfl, rfl, rfl⟩ := trodAll_nil r0
  obtain rfl : args = #[v0] := by cases args; simp_all
  obtain ⟨rfl, rfl⟩ := trodVars_none hV
  have k0 := h0
  have lt0 : ∀ x ∈ p0, x.block < W.heap.size := by obtain ⟨m, hm⟩ := k0; exact DataW.trod_lt m _ _ _ hm
  obtain ⟨A0, c0, xs0, hv0, w0, wf0⟩ := open_row Try.underlying36 Try.underlying5 (by kernel_rfl) (hval 0 36 v0 rfl rfl) h0
  subst hv0
  have w0 : RY W A0 c0 xs0 := ⟨w0, fun b hb => bounds_u8 (wf0 b hb)⟩
  clear hA0 hval0
  refine (FnBudgetNew_walk A0 c0 xs0 W w0).mono fun e W' ⟨he, bel⟩ => ?_
  subst he
  exact ⟨_, rfl, _, _, _, [], _, [], hW', trodAll_mk1 (shut_bool Try.underlying4 _), (trodAll_cons_mk (Below.trod laidOut (by kernel_rfl) (of_decide_eq_true (by kernel_rfl)) k0 bel lt0) trodAll_mk0), rfl, bel.frame _, fun h => by cases h⟩

theorem FnBudgetNew_holds : Rows.FnBudgetNewSaid :=
  OpenClaim.holds_of_wide 7 Try.f7 rfl rfl rfl rfl rfl rfl rfl ⟨rfl, rfl, rfl, rfl, rfl⟩ rfl rfl rfl rfl rfl (by kernel_rfl) Try.func7 (by kernel_rfl)
    (of_decide_eq_true (by kernel_rfl)) (by unfold Func.isWrapper; first | (rw [if_pos (by decide +kernel)]; kernel_rfl) | (rw [if_neg (by decide +kernel)]; exact ⟨rfl, rfl⟩))
    (fun os started H enc _ => FnBudgetNew_lifted os started H enc)

end Go.Proofs.Ythiijfafbnmcjaa
