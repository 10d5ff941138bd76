/- The law FnBudgetOpenNone: without a budget only an empty frame is opened, whatever is drawn. No condition. -/
import Derived.Test.YtamljhjbmeikiaaGreatGDb
import Derived.Test.YtamljhjbmeikiaaGreatGMa
namespace Go.Proofs.YtamljhjbmeikiaaGreat
open Go Go.RowKit Go.ChangeShapes Go.WideShapes Go.ChangeAt Go.Joins

set_option maxHeartbeats 1000000 in
theorem FnBudgetOpenNone_walk (A : Option Addr) (c : Nat) (bs : List Int) (w : World) (hr : RY w A c bs) : Calls Tryz.prog 5 #[.slice A bs.length c] w (PT w) := by
  by_cases hbig : 1048576 < bs.length
  · go_enter Tryz.func5, Tryz.ntmps5
    go_wp2_with fail
    go_ret
    exact ⟨rfl, Below.refl _ _⟩
  have hb : bs.length ≤ 1048576 := by omega
  clear hbig
  go_enter Tryz.func5, Tryz.ntmps5
  go_wp2_with fail
  refine (DrawBudgetOpen_any _ _ _ _ hr).mono ?_
  rintro e w1 ⟨a, l, p, A1, c1, xs, rfl, ho1, hl1, hb1⟩
  have C1 := BX.new w1 #[.int .i64 a, .int .i64 l, .int .i64 p] 24
  have ho1b := ho1.alloc (.cells #[.int .i64 a, .int .i64 l, .int .i64 p] 24)
  go_wp2_with fail
  refine (BudgetOpen_any _ _ _ _ _ _ _ ho1b.ri (by omega)).mono ?_
  rintro e w2 ⟨a', l', p', ok, hok, hv, rfl, hb2⟩
  have C2 := C1.below hb2
  have O2 := BX.new w2 #[.int .i64 a', .int .i64 l', .int .i64 p'] 24
  have ho2 := (ho1b.below hb2).alloc (.cells #[.int .i64 a', .int .i64 l', .int .i64 p'] 24)
  have hs2 := C2.lt
  have k0 := C2.c0
  have k1 := C2.c1
  have k2 := C2.c2
  have n21 : ¬ w2.heap.size = w1.heap.size := by omega
  have n12 : ¬ w1.heap.size = w2.heap.size := by omega
  go_wp2_with fail
  refine (sBudgetOpen_any _ _ _ _ _ _ _ ho2.ri (by omega)).mono ?_
  rintro e w3 ⟨a2, l2, p2, ok2, hok2, hv2, rfl, hb3⟩
  obtain ⟨rfl, rfl, rfl⟩ := bud_same hv hv2
  obtain rfl : ok = ok2 := hok.out.trans hok2.out.symm
  clear k0 k1 k2 hok2 hv2
  have C3 := (C2.alloc (.cells #[.int .i64 a', .int .i64 l', .int .i64 p'] 24)).below hb3
  have O3 := O2.below hb3
  have ho3 := ho2.below hb3
  have hbA := below_on (below_on (below_on (below_on hb1 (below_new w1 (.cells #[.int .i64 a, .int .i64 l, .int .i64 p] 24))) hb2) (below_new w2 (.cells #[.int .i64 a', .int .i64 l', .int .i64 p'] 24))) hb3
  have hs3 := O3.lt
  have k0 := C3.c0
  have k1 := C3.c1
  have k2 := C3.c2
  have o0 := O3.c0
  have o1 := O3.c1
  have o2 := O3.c2
  have hs31 : w1.heap.size < w3.heap.size := by omega
  have n31 : ¬ w3.heap.size = w1.heap.size := by omega
  have n13 : ¬ w1.heap.size = w3.heap.size := by omega
  have n32 : ¬ w3.heap.size = w2.heap.size := by omega
  have n23 : ¬ w2.heap.size = w3.heap.size := by omega
  clear ho1 ho1b ho2 C1 C2 O2 hb1 hb2 hb3 hs2
  cases ok with
  | false =>
    go_wp2_with fail
    go_ret
    exact ⟨rfl, below_on hbA (below_new w3 _)⟩
  | true =>
  have HBF : Hid (boF a l p xs = some (a', l', p')) := by
    unfold Hid
    cases h : boF a l p xs with
    | none => have := hok.out; rw [h] at this; cases this
    | some b => have := hv.out; rw [h] at this; rw [this]; rfl
  obtain ⟨hbok, xs0, q0, hN0, hR0, -, -, hx0⟩ := boF_is HBF.out
  obtain ⟨-, -, -, hbok2⟩ := boR_is hbok (fun x hx => by have := hx0 x hx; omega) hR0
  obtain ⟨g1, g2, g3, g4, g5, g6⟩ := budOk_bd hbok
  obtain ⟨-, -, g7, g8, -, -⟩ := budOk_bd hbok2
  simp only at g7 g8
  obtain ⟨ha, hp, hlz⟩ := boF_open HBF.out
  simp only at ha hp hlz
  obtain rfl : a = a' := ha.symm
  have HLZ := hid hlz
  clear hok hv hbok ha hlz hbok2 hN0 hR0 hx0
  have C4 := C3.alloc (.cells #[.int .i64 a, .int .i64 l', .int .i64 p'] 24)
  have O4 := O3.alloc (.cells #[.int .i64 a, .int .i64 l', .int .i64 p'] 24)
  have ho4 := ho3.alloc (.cells #[.int .i64 a, .int .i64 l', .int .i64 p'] 24)
  have hbB := below_on hbA (below_new w3 (.cells #[.int .i64 a, .int .i64 l', .int .i64 p'] 24))
  obtain ⟨htk, hz0, hz1⟩ := boF_none HBF.out
  have HTK := hid htk
  have HZ0 := hid hz0
  have HZ1 := hid hz1
  clear htk hz0 hz1
  go_wp2_with fail
  refine (BudgetTake_any _ _ _ _ _).mono ?_
  rintro e w5 ⟨a5, l5, p5, ok5, hok5, hv5, rfl, hb5⟩
  rw [HTK.out] at hok5 hv5
  obtain rfl : ok5 = true := hok5.out
  obtain ⟨rfl, rfl, rfl⟩ : a = a5 ∧ (0 : Int) = l5 ∧ a = p5 := by have h := hv5.out; simp at h; exact ⟨h.1.symm, h.2.1.symm, h.2.2.symm⟩
  have ho5 := ho4.below hb5
  have X5 := BX.new w5 #[.int .i64 a, .int .i64 0, .int .i64 a] 24
  have ho5b := ho5.alloc (.cells #[.int .i64 a, .int .i64 0, .int .i64 a] 24)
  have hbC := below_on (below_on hbB hb5) (below_new w5 (.cells #[.int .i64 a, .int .i64 0, .int .i64 a] 24))
  clear hok5 hv5 k0 k1 k2 o0 o1 o2 C3 C4 O3 O4 ho3 ho4
  go_wp2_with fail
  refine (BudgetOpen_any _ _ _ _ _ _ _ ho5b.ri (by omega)).mono ?_
  rintro e w6 ⟨a6, l6, p6, ok6, hok6, hv6, rfl, hb6⟩
  have X6 := X5.below hb6
  have Y6 := BX.new w6 #[.int .i64 a6, .int .i64 l6, .int .i64 p6] 24
  have ho6 := (ho5b.below hb6).alloc (.cells #[.int .i64 a6, .int .i64 l6, .int .i64 p6] 24)
  have X6b := X6.alloc (.cells #[.int .i64 a6, .int .i64 l6, .int .i64 p6] 24)
  have hbD := below_on (below_on hbC hb6) (below_new w6 (.cells #[.int .i64 a6, .int .i64 l6, .int .i64 p6] 24))
  go_wp2_with fail
  refine (FrameBlocks_any _ _ _ _ ho6.ri (by omega)).mono ?_
  rintro e w7 ⟨m7, hm7, rfl, hb7⟩
  have X7 := X6b.below hb7
  have Y7 := Y6.below hb7
  have hbE := below_on hbD hb7
  have x0 := X7.c0
  have x1 := X7.c1
  have x2 := X7.c2
  have y0 := Y7.c0
  have y1 := Y7.c1
  have y2 := Y7.c2
  by_cases hz : m7 = 0
  · rw [HZ0.out (by rw [← hm7.out]; exact hz)] at hok6 hv6
    obtain rfl : ok6 = true := hok6.out
    obtain ⟨rfl, rfl, rfl⟩ : a = a6 ∧ (0 : Int) = l6 ∧ a = p6 := by have h := hv6.out; simp at h; exact ⟨h.1.symm, h.2.1.symm, h.2.2.symm⟩
    have hq : (m7 == 0) = true := by simp [hz]
    clear hz hok6 hv6 hm7
    go_wp2_with fail
    go_ret
    exact ⟨rfl, hbE⟩
  · rw [HZ1.out (by rw [← hm7.out]; exact hz)] at hok6 hv6
    obtain rfl : ok6 = false := hok6.out
    have hq : (m7 == 0) = false := by rw [beq_eq_false_iff_ne]; exact hz
    clear hz hok6 hv6 hm7
    go_wp2_with fail
    go_ret
    exact ⟨rfl, hbE⟩

set_option maxRecDepth 100000 in
theorem FnBudgetOpenNone_lifted (os : Os) (started : os.Started) (H : Type) (enc : TypeId × Value → H) :
    ReturnsInHanded {} Tryz.checked os 5 .any (Rows.fnBudgetOpenNoneSpec.pre6 enc Tryz.prog Tryz.f5 Rows.fnBudgetOpenNoneRow.domain false) (Rows.fnBudgetOpenNoneSpec.post enc Tryz.prog Tryz.f5 false true false false) := by
  refine returnsInHanded_of_change (C := Tryz.checked) own started (by kernel_rfl) Tryz.func5
    (ChangeSpec.witness6 (enc := enc) (C := Tryz.checked) false ⟨#[], #[.slice none 0 0], []⟩ 8 (by kernel_rfl) (by kernel_rfl) (by kernel_rfl) (by kernel_rfl)) ?_
  intro W base args ds gs before hval0 hW hcnd _
  have hval : ∀ (j : Nat) t v, Tryz.f5.params[j]? = some t → args[j]? = some v → Value.okWide Tryz.prog W .any base t v := hval0
  have hW' := hW
  obtain ⟨p, q, hA0, hV, rfl, hfz, hnd⟩ := hW
  have hA : DataW.TrodAll enc Tryz.prog W 0 (fun _ => true) true Tryz.f5.params.toList args.toList ds p := hA0
  rw [Tryz.params5] at hA hval
  obtain ⟨v0, vs0, d0, ds0, p0, q0, hargs, rfl, rfl, h0, r0⟩ := trodAll_cons hA
  obtain ⟨rfl, rfl, rfl⟩ := trodAll_nil r0
  obtain rfl : args = #[v0] := by cases args; simp_all
  obtain ⟨rfl, rfl⟩ := trodVars_none hV
  have k0 := h0
  have lt0 : ∀ x ∈ p0, x.block < W.heap.size := by obtain ⟨m, hm⟩ := k0; exact DataW.trod_lt m _ _ _ hm
  obtain ⟨A0, c0, xs0, hv0, w0, wf0⟩ := open_row Tryz.underlying22 Tryz.underlying5 (by kernel_rfl) (hval 0 22 v0 rfl rfl) h0
  subst hv0
  have w0 : RY W A0 c0 xs0 := ⟨w0, fun b hb => bounds_u8 (wf0 b hb)⟩
  clear hA0 hval0
  refine (FnBudgetOpenNone_walk A0 c0 xs0 W w0).mono fun e W' ⟨he, bel⟩ => ?_
  subst he
  exact ⟨_, rfl, _, _, _, [], _, [], hW', trodAll_mk1 (shut_bool Tryz.underlying4 _), (trodAll_cons_mk (Below.trod laidOut (by kernel_rfl) (of_decide_eq_true (by kernel_rfl)) k0 bel lt0) trodAll_mk0), rfl, bel.frame _, fun h => by cases h⟩

theorem FnBudgetOpenNone_holds : Rows.FnBudgetOpenNoneSaid :=
  OpenClaim.holds_of_wide 5 Tryz.f5 rfl rfl rfl rfl rfl rfl rfl ⟨rfl, rfl, rfl, rfl, rfl⟩ rfl rfl rfl rfl rfl (by kernel_rfl) Tryz.func5 (by kernel_rfl)
    (of_decide_eq_true (by kernel_rfl)) (by unfold Func.isWrapper; first | (rw [if_pos (by decide +kernel)]; kernel_rfl) | (rw [if_neg (by decide +kernel)]; exact ⟨rfl, rfl⟩))
    (fun os started H enc _ => FnBudgetOpenNone_lifted os started H enc)

end Go.Proofs.YtamljhjbmeikiaaGreat
