/- The law FnBudgetTwo: taking twice is taking together, whatever is drawn. No condition. -/
import Derived.Test.YtadjjcjhlndpkaaLBud2
namespace Go.Proofs.Ytadjjcjhlndpkaa
open Go Go.RowKit Go.ChangeShapes Go.WideShapes Go.ChangeAt Go.Joins

set_option maxHeartbeats 1000000 in
theorem FnBudgetTwo_walk (A : Option Addr) (c : Nat) (bs : List Int) (A2 : Option Addr) (c2 : Nat) (bs2 : List Int) (w : World) (hr : RY w A c bs) (_ : RY w A2 c2 bs2) : Calls Try.prog 6 #[.slice A bs.length c, .slice A2 bs2.length c2] w (PT w) := by
  by_cases hbig : 1048576 < bs.length
  · go_enter Try.func6, Try.ntmps6
    go_wp2_with fail
    go_ret
    exact ⟨rfl, Below.refl _ _⟩
  have hb : bs.length ≤ 1048576 := by omega
  clear hbig
  by_cases hbig : 1048576 < bs2.length
  · go_enter Try.func6, Try.ntmps6
    go_wp2_with fail
    go_ret
    exact ⟨rfl, Below.refl _ _⟩
  have hb2 : bs2.length ≤ 1048576 := by omega
  clear hbig
  go_enter Try.func6, Try.ntmps6
  go_wp2_with fail
  refine (DrawBudgetTake_any _ _ _ _ hr).mono ?_
  rintro e w1 ⟨a, l, r, n, rfl, hb1⟩
  have C1 := BX.new w1 #[.int .i64 a, .int .i64 l, .int .i64 r] 33
  go_wp2_with fail
  refine (BudgetTake_any _ _ _ _ _).mono ?_
  rintro e w2 ⟨a', l', r', ok, hok, hv, rfl, hb2⟩
  have C2 := C1.below hb2
  have O2 := BX.new w2 #[.int .i64 a', .int .i64 l', .int .i64 r'] 33
  have hs2 := C2.lt
  have k0 := C2.cell 0
  have k1 := C2.cell 1
  have k2 := C2.cell 2
  simp at k0 k1 k2
  have n21 : ¬ w2.heap.size = w1.heap.size := by omega
  have n12 : ¬ w1.heap.size = w2.heap.size := by omega
  go_wp2_with fail
  refine (sBudgetTake_any _ _ _ _ _).mono ?_
  rintro e w3 ⟨a2, l2, r2, ok2, hok2, hv2, rfl, hb3⟩
  obtain ⟨rfl, rfl, rfl⟩ := bud_same hv hv2
  obtain rfl : ok = ok2 := hok.out.trans hok2.out.symm
  clear k0 k1 k2 hok2 hv2
  have C3 := (C2.alloc (.cells #[.int .i64 a', .int .i64 l', .int .i64 r'] 33)).below hb3
  have O3 := O2.below hb3
  have hs3 := O3.lt
  have k0 := C3.cell 0
  have k1 := C3.cell 1
  have k2 := C3.cell 2
  simp at k0 k1 k2
  have o0 := O3.cell 0
  have o1 := O3.cell 1
  have o2 := O3.cell 2
  simp at o0 o1 o2
  have hs31 : w1.heap.size < w3.heap.size := by omega
  have n31 : ¬ w3.heap.size = w1.heap.size := by omega
  have n13 : ¬ w1.heap.size = w3.heap.size := by omega
  have n32 : ¬ w3.heap.size = w2.heap.size := by omega
  have n23 : ¬ w2.heap.size = w3.heap.size := by omega
  cases ok
  · go_wp2_with fail
    go_ret
    exact ⟨rfl, (by repeat (first | exact Below.refl _ _ | refine below_on ?_ (below_new _ _) | refine below_drewN ?_ _ | refine below_on ?_ (by assumption)))⟩
  obtain ⟨h1, h2, h3, rfl, rfl, hz⟩ := take_is hok hv
  obtain ⟨h4, h5, h6, h7, h8, h9⟩ := budOk_bd h1
  have hk0 : 0 ≤ (bs2.length : Int) % (n + 1) := Int.emod_nonneg _ (by omega)
  have hk1 : (bs2.length : Int) % (n + 1) < n + 1 := Int.emod_lt_of_pos _ (by omega)
  clear hok hv
  go_upto_region 9 with fail
  generalize (bs2.length : Int) % (n + 1) = k at *
  have HG := hid (take_yes (n := k) h1 hk0 (by omega))
  have HQ := hid (take_yes (n := n - k) (a := a) (l := l - k) (p := max r (a - (l - k))) (budOk_mk h4 h5 (by omega) (by omega) (by omega) (by omega)) (by omega) (by omega))
  have HR := hid hz
  clear h1 hz
  go_wp2_with fail
  refine (BudgetTake_any _ _ _ _ _).mono ?_
  rintro e w4 ⟨a4, l4, r4, ok4, hok4, hv4, rfl, hb4⟩
  rw [HG.out] at hok4 hv4
  obtain rfl : ok4 = true := hok4.out
  obtain ⟨h10, h11, h12⟩ : a = a4 ∧ l - k = l4 ∧ max r (a - (l - k)) = r4 := by have := hv4.out; simp at this; omega
  subst h10 h11
  rw [h12] at HQ
  have HR4 := hid h12
  clear HG hok4 hv4 k0 k1 k2 o0 o1 o2 h12
  have O4 := (O3.alloc (.cells #[.int .i64 a, .int .i64 (l - n), .int .i64 r'] 33)).below hb4
  have hs4 := hb4.size
  simp at hs4
  have o0 := O4.cell 0
  have o1 := O4.cell 1
  have o2 := O4.cell 2
  simp at o0 o1 o2
  go_wp2_with fail
  refine (BudgetTake_any _ _ _ _ _).mono ?_
  rintro e w5 ⟨a5, l5, r5, ok5, hok5, hv5, rfl, hb5⟩
  rw [HQ.out] at hok5 hv5
  obtain rfl : ok5 = true := hok5.out
  obtain ⟨h10, h11, h12⟩ : a = a5 ∧ l - n = l5 ∧ r' = r5 := by have := hv5.out; simp at this; have := HR.out; have := HR4.out; omega
  subst h10 h11 h12
  clear HQ hok5 hv5 o0 o1 o2
  have O5 := (O4.alloc (.cells #[.int .i64 a, .int .i64 (l - k), .int .i64 r4] 33)).below hb5
  have hs5 := hb5.size
  simp at hs5
  have o0 := O5.cell 0
  have o1 := O5.cell 1
  have o2 := O5.cell 2
  simp at o0 o1 o2
  have hs52 : w2.heap.size < w5.heap.size := by omega
  have n53 : ¬ w5.heap.size = w2.heap.size := by omega
  have n35 : ¬ w2.heap.size = w5.heap.size := by omega
  go_wp2_with fail
  go_ret
  exact ⟨rfl, (by repeat (first | exact Below.refl _ _ | refine below_on ?_ (below_new _ _) | refine below_drewN ?_ _ | refine below_on ?_ (by assumption)))⟩

set_option maxRecDepth 100000 in
theorem FnBudgetTwo_lifted (os : Os) (started : os.Started) (H : Type) (enc : TypeId × Value → H) :
    ReturnsInHanded {} Try.checked os 6 .any (Rows.fnBudgetTwoSpec.pre6 enc Try.prog Try.f6 Rows.fnBudgetTwoRow.domain false) (Rows.fnBudgetTwoSpec.post enc Try.prog Try.f6 false true false false) := by
  refine returnsInHanded_of_change (C := Try.checked) own started (by kernel_rfl) Try.func6
    (ChangeSpec.witness6 (enc := enc) (C := Try.checked) false ⟨#[], #[.slice none 0 0, .slice none 0 0], []⟩ 8 (by kernel_rfl) (by kernel_rfl) (by kernel_rfl) (by kernel_rfl)) ?_
  intro W base args ds gs before hval0 hW hcnd _
  have hval : ∀ (j : Nat) t v, Try.f6.params[j]? = some t → args[j]? = some v → Value.okWide Try.prog W .any base t v := hval0
  have hW' := hW
  obtain ⟨p, q, hA0, hV, rfl, hfz, hnd⟩ := hW
  have hA : DataW.TrodAll enc Try.prog W 0 (fun _ => true) true Try.f6.params.toList args.toList ds p := hA0
  rw [Try.params6] at hA hval
  obtain ⟨v0, vs0, d0, ds0, p0, q0, hargs, rfl, rfl, h0, r0⟩ := trodAll_cons hA
  obtain ⟨v1, vs1, d1, ds1, p1, q1, rfl, rfl, rfl, h1, r1⟩ := trodAll_cons r0
  obtain ⟨rfl, rfl, rfl⟩ := trodAll_nil r1
  obtain rfl : args = #[v0, v1] := by cases args; simp_all
  obtain ⟨rfl, rfl⟩ := trodVars_none hV
  have k0 := h0
  have lt0 : ∀ x ∈ p0, x.block < W.heap.size := by obtain ⟨m, hm⟩ := k0; exact DataW.trod_lt m _ _ _ hm
  obtain ⟨A0, c0, xs0, hv0, w0, wf0⟩ := open_row Try.underlying31 Try.underlying5 (by kernel_rfl) (hval 0 31 v0 rfl rfl) h0
  subst hv0
  have w0 : RY W A0 c0 xs0 := ⟨w0, fun b hb => bounds_u8 (wf0 b hb)⟩
  have k1 := h1
  have lt1 : ∀ x ∈ p1, x.block < W.heap.size := by obtain ⟨m, hm⟩ := k1; exact DataW.trod_lt m _ _ _ hm
  obtain ⟨A1, c1, xs1, hv1, w1, wf1⟩ := open_row Try.underlying31 Try.underlying5 (by kernel_rfl) (hval 1 31 v1 rfl rfl) h1
  subst hv1
  have w1 : RY W A1 c1 xs1 := ⟨w1, fun b hb => bounds_u8 (wf1 b hb)⟩
  clear hA0 hval0
  refine (FnBudgetTwo_walk A0 c0 xs0 A1 c1 xs1 W w0 w1).mono fun e W' ⟨he, bel⟩ => ?_
  subst he
  exact ⟨_, rfl, _, _, _, [], _, [], hW', trodAll_mk1 (shut_bool Try.underlying4 _), (trodAll_cons_mk (Below.trod laidOut (by kernel_rfl) (of_decide_eq_true (by kernel_rfl)) k0 bel lt0) (trodAll_cons_mk (Below.trod laidOut (by kernel_rfl) (of_decide_eq_true (by kernel_rfl)) k1 bel lt1) trodAll_mk0)), rfl, bel.frame _, fun h => by cases h⟩

theorem FnBudgetTwo_holds : Rows.FnBudgetTwoSaid :=
  OpenClaim.holds_of_wide 6 Try.f6 rfl rfl rfl rfl rfl rfl rfl ⟨rfl, rfl, rfl, rfl, rfl⟩ rfl rfl rfl rfl rfl (by kernel_rfl) Try.func6 (by kernel_rfl)
    (of_decide_eq_true (by kernel_rfl)) (by unfold Func.isWrapper; first | (rw [if_pos (by decide +kernel)]; kernel_rfl) | (rw [if_neg (by decide +kernel)]; exact ⟨rfl, rfl⟩))
    (fun os started H enc _ => FnBudgetTwo_lifted os started H enc)

end Go.Proofs.Ytadjjcjhlndpkaa
