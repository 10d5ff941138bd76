/- The law FnBudgetOpen: a text is kept, whatever is drawn. No condition. -/
import Derived.Test.YtamljhjbmeikiaaGreatGDb
import Derived.Test.YtamljhjbmeikiaaGreatGMa
namespace Go.Proofs.YtamljhjbmeikiaaGreat
open Go Go.RowKit Go.ChangeShapes Go.WideShapes Go.ChangeAt Go.Joins

set_option maxHeartbeats 1000000 in
theorem FnBudgetOpen_walk (A : Option Addr) (c : Nat) (bs : List Int) (w : World) (hr : RY w A c bs) : Calls Tryz.prog 3 #[.slice A bs.length c] w (PT w) := by
  by_cases hbig : 1048576 < bs.length
  · go_enter Tryz.func3, Tryz.ntmps3
    go_wp2_with fail
    go_ret
    exact ⟨rfl, Below.refl _ _⟩
  have hb : bs.length ≤ 1048576 := by omega
  clear hbig
  go_enter Tryz.func3, Tryz.ntmps3
  go_wp2_with fail
  refine (DrawBudgetOpen_any _ _ _ _ hr).mono ?_
  rintro e w1 ⟨a, l, p, A1, c1, xs, rfl, ho1, hl1, hb1⟩
  have C1 := BX.new w1 #[.int .i64 a, .int .i64 l, .int .i64 p] 24
  have ho1b := ho1.alloc (.cells #[.int .i64 a, .int .i64 l, .int .i64 p] 24)
  go_wp2_with fail
  refine (BudgetOpen_any _ _ _ _ _ _ _ ho1b.ri (by omega)).mono ?_
  rintro e w2 ⟨a', l', p', ok, hok, hv, rfl, hb2⟩
  have C2 := C1.below hb2
  have O2 := BX.new w2 #[.int .i64 a', .int .i64 l', .int .i64 p'] 24
  have ho2 := (ho1b.below hb2).alloc (.cells #[.int .i64 a', .int .i64 l', .int .i64 p'] 24)
  have hs2 := C2.lt
  have k0 := C2.c0
  have k1 := C2.c1
  have k2 := C2.c2
  have n21 : ¬ w2.heap.size = w1.heap.size := by omega
  have n12 : ¬ w1.heap.size = w2.heap.size := by omega
  go_wp2_with fail
  refine (sBudgetOpen_any _ _ _ _ _ _ _ ho2.ri (by omega)).mono ?_
  rintro e w3 ⟨a2, l2, p2, ok2, hok2, hv2, rfl, hb3⟩
  obtain ⟨rfl, rfl, rfl⟩ := bud_same hv hv2
  obtain rfl : ok = ok2 := hok.out.trans hok2.out.symm
  clear k0 k1 k2 hok2 hv2
  have C3 := (C2.alloc (.cells #[.int .i64 a', .int .i64 l', .int .i64 p'] 24)).below hb3
  have O3 := O2.below hb3
  have ho3 := ho2.below hb3
  have hbA := below_on (below_on (below_on (below_on hb1 (below_new w1 (.cells #[.int .i64 a, .int .i64 l, .int .i64 p] 24))) hb2) (below_new w2 (.cells #[.int .i64 a', .int .i64 l', .int .i64 p'] 24))) hb3
  have hs3 := O3.lt
  have k0 := C3.c0
  have k1 := C3.c1
  have k2 := C3.c2
  have o0 := O3.c0
  have o1 := O3.c1
  have o2 := O3.c2
  have hs31 : w1.heap.size < w3.heap.size := by omega
  have n31 : ¬ w3.heap.size = w1.heap.size := by omega
  have n13 : ¬ w1.heap.size = w3.heap.size := by omega
  have n32 : ¬ w3.heap.size = w2.heap.size := by omega
  have n23 : ¬ w2.heap.size = w3.heap.size := by omega
  clear ho1 ho1b ho2 C1 C2 O2 hb1 hb2 hb3 hs2
  cases ok with
  | false =>
    go_wp2_with fail
    go_ret
    exact ⟨rfl, below_on hbA (below_new w3 _)⟩
  | true =>
  have HBF : Hid (boF a l p xs = some (a', l', p')) := by
    unfold Hid
    cases h : boF a l p xs with
    | none => have := hok.out; rw [h] at this; cases this
    | some b => have := hv.out; rw [h] at this; rw [this]; rfl
  obtain ⟨hbok, xs0, q0, hN0, hR0, -, -, hx0⟩ := boF_is HBF.out
  obtain ⟨-, -, -, hbok2⟩ := boR_is hbok (fun x hx => by have := hx0 x hx; omega) hR0
  obtain ⟨g1, g2, g3, g4, g5, g6⟩ := budOk_bd hbok
  obtain ⟨-, -, g7, g8, -, -⟩ := budOk_bd hbok2
  simp only at g7 g8
  obtain ⟨ha, hp, hlz⟩ := boF_open HBF.out
  simp only at ha hp hlz
  obtain rfl : a = a' := ha.symm
  have HLZ := hid hlz
  clear hok hv hbok ha hlz hbok2 hN0 hR0 hx0
  have C4 := C3.alloc (.cells #[.int .i64 a, .int .i64 l', .int .i64 p'] 24)
  have O4 := O3.alloc (.cells #[.int .i64 a, .int .i64 l', .int .i64 p'] 24)
  have ho4 := ho3.alloc (.cells #[.int .i64 a, .int .i64 l', .int .i64 p'] 24)
  have hbB := below_on hbA (below_new w3 (.cells #[.int .i64 a, .int .i64 l', .int .i64 p'] 24))
  go_wp2_with fail
  refine (FrameOpen_any _ _ _ _ _ ho4.ri (by omega)).mono ?_
  rintro e w5 ⟨A5, c5, zs, n5, hzs, hn5, hoz, rfl, hb5⟩
  have C5 := C4.below hb5
  have O5 := O4.below hb5
  clear k0 k1 k2 o0 o1 o2 C3 C4 O3 O4 ho3 ho4
  have k0 := C5.c0
  have k1 := C5.c1
  have k2 := C5.c2
  have o0 := O5.c0
  have o1 := O5.c1
  have o2 := O5.c2
  have hqa : (a == a) = true := by simp
  have hgp : p' ≥ p := hp
  have hbC := below_on hbB hb5
  by_cases hz : n5 = 0
  · have hl := HLZ.out zs (by rw [hzs.out, ← hz, hn5.out])
    have hzl : zs.length ≤ 120 := by
      obtain ⟨_, _, _, hzz, _, h, _⟩ := foF_done (bs := xs) (most := 120) (ys := zs) (by rw [hzs.out, ← hz, hn5.out])
      exact h
    have hqn : (n5 != 0) = false := by simp [hz]
    have hql : (l' == l - (zs.length : Int)) = true := by rw [beq_iff_eq]; exact hl
    clear hz hl hzs hn5 hoz
    go_wp2_with fail
    go_ret
    exact ⟨rfl, hbC⟩
  · have hqn : (n5 != 0) = true := by rw [bne_iff_ne]; exact hz
    clear hz hzs hn5 hoz
    go_wp2_with fail
    go_ret
    exact ⟨rfl, hbC⟩

set_option maxRecDepth 100000 in
theorem FnBudgetOpen_lifted (os : Os) (started : os.Started) (H : Type) (enc : TypeId × Value → H) :
    ReturnsInHanded {} Tryz.checked os 3 .any (Rows.fnBudgetOpenSpec.pre6 enc Tryz.prog Tryz.f3 Rows.fnBudgetOpenRow.domain false) (Rows.fnBudgetOpenSpec.post enc Tryz.prog Tryz.f3 false true false false) := by
  refine returnsInHanded_of_change (C := Tryz.checked) own started (by kernel_rfl) Tryz.func3
    (ChangeSpec.witness6 (enc := enc) (C := Tryz.checked) false ⟨#[], #[.slice none 0 0], []⟩ 8 (by kernel_rfl) (by kernel_rfl) (by kernel_rfl) (by kernel_rfl)) ?_
  intro W base args ds gs before hval0 hW hcnd _
  have hval : ∀ (j : Nat) t v, Tryz.f3.params[j]? = some t → args[j]? = some v → Value.okWide Tryz.prog W .any base t v := hval0
  have hW' := hW
  obtain ⟨p, q, hA0, hV, rfl, hfz, hnd⟩ := hW
  have hA : DataW.TrodAll enc Tryz.prog W 0 (fun _ => true) true Tryz.f3.params.toList args.toList ds p := hA0
  rw [Tryz.params3] at hA hval
  obtain ⟨v0, vs0, d0, ds0, p0, q0, hargs, rfl, rfl, h0, r0⟩ := trodAll_cons hA
  obtain ⟨rfl, rfl, rfl⟩ := trodAll_nil r0
  obtain rfl : args = #[v0] := by cases args; simp_all
  obtain ⟨rfl, rfl⟩ := trodVars_none hV
  have k0 := h0
  have lt0 : ∀ x ∈ p0, x.block < W.heap.size := by obtain ⟨m, hm⟩ := k0; exact DataW.trod_lt m _ _ _ hm
  obtain ⟨A0, c0, xs0, hv0, w0, wf0⟩ := open_row Tryz.underlying22 Tryz.underlying5 (by kernel_rfl) (hval 0 22 v0 rfl rfl) h0
  subst hv0
  have w0 : RY W A0 c0 xs0 := ⟨w0, fun b hb => bounds_u8 (wf0 b hb)⟩
  clear hA0 hval0
  refine (FnBudgetOpen_walk A0 c0 xs0 W w0).mono fun e W' ⟨he, bel⟩ => ?_
  subst he
  exact ⟨_, rfl, _, _, _, [], _, [], hW', trodAll_mk1 (shut_bool Tryz.underlying4 _), (trodAll_cons_mk (Below.trod laidOut (by kernel_rfl) (of_decide_eq_true (by kernel_rfl)) k0 bel lt0) trodAll_mk0), rfl, bel.frame _, fun h => by cases h⟩

theorem FnBudgetOpen_holds : Rows.FnBudgetOpenSaid :=
  OpenClaim.holds_of_wide 3 Tryz.f3 rfl rfl rfl rfl rfl rfl rfl ⟨rfl, rfl, rfl, rfl, rfl⟩ rfl rfl rfl rfl rfl (by kernel_rfl) Tryz.func3 (by kernel_rfl)
    (of_decide_eq_true (by kernel_rfl)) (by unfold Func.isWrapper; first | (rw [if_pos (by decide +kernel)]; kernel_rfl) | (rw [if_neg (by decide +kernel)]; exact ⟨rfl, rfl⟩))
    (fun os started H enc _ => FnBudgetOpen_lifted os started H enc)

end Go.Proofs.YtamljhjbmeikiaaGreat
