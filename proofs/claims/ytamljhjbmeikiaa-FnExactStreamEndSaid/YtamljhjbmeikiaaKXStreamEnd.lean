/- The law FnExactStreamEnd: program and reference answer alike, the argument stays. No condition. -/
import Derived.Test.YtamljhjbmeikiaaGCm
namespace Go.Proofs.Ytamljhjbmeikiaa
open Go Go.RowKit Go.ChangeShapes Go.WideShapes Go.ChangeAt Go.Joins
set_option maxHeartbeats 1000000 in
theorem FnExactStreamEnd_walk (A : Option Addr) (c : Nat) (xs : List Int) (B : Option Addr) (d : Nat) (ys : List Int) (b : Bool) (w : World) (hr : RI w A c xs) (hs : RI w B d ys) :
    Calls Try.prog 9 #[.agg #[.slice A xs.length c, .slice B ys.length d, .bool b]] w (PT w) := by
  have hbw0 := below_new w (.cells #[.slice A xs.length c, .slice B ys.length d, .bool b] 41)
  have X0 := BX.new w #[.slice A xs.length c, .slice B ys.length d, .bool b] 41
  go_enter Try.func9, Try.ntmps9
  go_wp2_with fail
  refine (szStream_any _ _ xs _ _ ys b _ (hr.below hbw0) (hs.below hbw0)).mono ?_
  rintro e w1 ⟨v, hv, rfl, hb1⟩
  have hbw1 := below_on hbw0 hb1
  have X1 := X0.below hb1
  clear X0 hbw0 hb1
  rcases hv with hv | ⟨hv, hlen⟩
  · go_wp2_with fail
    go_ret
    exact ⟨rfl, hbw1⟩
  have hvn : ¬ v < 0 := by omega
  have x0 := X1.c0
  have x1 := X1.c1
  have x2 := X1.c2
  go_wp2_with fail
  refine (toStream_any _ _ xs _ _ ys b _ (hr.below hbw1) (hs.below hbw1) (by omega) (by omega)).mono ?_
  rintro e w2 ⟨A2, c2, B2, d2, rfl, hoA2, hoB2, hb2⟩
  have hbw2 := below_on hbw1 hb2
  have X2 := X1.below hb2
  clear x0 x1 x2 X1 hb2
  go_wp2_with fail
  refine (sStreamEnd_any _ _ xs _ _ ys b _ hoA2.ri hoB2.ri).mono ?_
  rintro e w3 ⟨q, hq, rfl, hb3⟩
  have hbw3 := below_on hbw2 hb3
  have X3 := X2.below hb3
  clear hoA2 hoB2 X2 hb3 hbw1 hbw2
  have x0 := X3.c0
  have x1 := X3.c1
  have x2 := X3.c2
  go_wp2_with fail
  refine (toStream_any _ _ xs _ _ ys b _ (hr.below hbw3) (hs.below hbw3) (by omega) (by omega)).mono ?_
  rintro e w4 ⟨A4, c4, B4, d4, rfl, hoA4, hoB4, hb4⟩
  have Y4 := BX.new w4 #[.slice A4 xs.length c4, .slice B4 ys.length d4, .bool b] 44
  have hbw4 := below_on (below_on hbw3 hb4) (below_new w4 (.cells #[.slice A4 xs.length c4, .slice B4 ys.length d4, .bool b] 44))
  have X4 := (X3.below hb4).alloc (.cells #[.slice A4 xs.length c4, .slice B4 ys.length d4, .bool b] 44)
  have hoA5 := hoA4.alloc (.cells #[.slice A4 xs.length c4, .slice B4 ys.length d4, .bool b] 44)
  have hoB5 := hoB4.alloc (.cells #[.slice A4 xs.length c4, .slice B4 ys.length d4, .bool b] 44)
  clear x0 x1 x2 X3 hb4 hoA4 hoB4 hbw3
  go_wp2_with fail
  refine (StreamEnd_any _ _ xs _ _ ys b _ hoA5.ri hoB5.ri).mono ?_
  rintro e w5 ⟨q', hq', rfl, hb5⟩
  obtain rfl : q = q' := hq.out.trans hq'.out.symm
  have hne : (q != q) = false := by simp
  have hbw5 := below_on hbw4 hb5
  have X5 := (X4.below hb5)
  have Y5 := (Y4.below hb5)
  have hrA := (hoA5.below hb5).ri
  have hrB := (hoB5.below hb5).ri
  have hr5 := hr.below hbw5
  have hs5 := hs.below hbw5
  clear hq hq' X4 Y4 hoA5 hoB5 hb5 hbw4
  have x0 := X5.c0
  have x1 := X5.c1
  have x2 := X5.c2
  have y0 := Y5.c0
  have y1 := Y5.c1
  have y2 := Y5.c2
  have xd0 := X5.drew.c0
  have xd1 := X5.drew.c1
  have xd2 := X5.drew.c2
  have yd0 := Y5.drew.c0
  have yd1 := Y5.drew.c1
  have yd2 := Y5.drew.c2
  have hnx : xs.length ≤ 1048576 := by omega
  have hny : ys.length ≤ 1048576 := by omega
  go_wp2_with fail
  go_region_law (first | (go_simp; go_at_call 28; refine (eqStream_any _ _ _ _ xs _ _ _ _ ys b _ (hrA.drew.below hb6) hoA6.ri (hrB.drew.below hb6) hoB6.ri).mono ?_; rintro e w7 ⟨q7, hq7, rfl, hb7⟩) | (go_simp; go_at_call 26; refine (toStream_any _ _ xs _ _ ys b _ hr5.drew hs5.drew hnx hny).mono ?_; rintro e w6 ⟨A6, c6, B6, d6, rfl, hoA6, hoB6, hb6⟩; have X6 := X5.drew.below hb6; have Y6 := Y5.drew.below hb6; have xe0 := X6.c0; have xe1 := X6.c1; have xe2 := X6.c2; have ye0 := Y6.c0; have ye1 := Y6.c1; have ye2 := Y6.c2))
  all_goals
    obtain rfl : q7 = true := hq7.out
    have hbF := below_on (below_on (Below.drew hbw5) hb6) hb7
    go_wp2_with fail
    go_ret
    exact ⟨rfl, hbF⟩

set_option maxRecDepth 100000 in
theorem FnExactStreamEnd_lifted (os : Os) (started : os.Started) (H : Type) (enc : TypeId × Value → H) :
    ReturnsInHanded {} Try.checked os 9 .any (Rows.fnExactStreamEndSpec.pre6 enc Try.prog Try.f9 Rows.fnExactStreamEndRow.domain false) (Rows.fnExactStreamEndSpec.post enc Try.prog Try.f9 false true false false) := by
  refine returnsInHanded_of_change (C := Try.checked) own started (by kernel_rfl) Try.func9
    (ChangeSpec.witness6 (enc := enc) (C := Try.checked) false ⟨#[], #[.agg #[.slice none 0 0, .slice none 0 0, .bool false]], []⟩ 8 (by kernel_rfl) (by kernel_rfl) (by kernel_rfl) (by kernel_rfl)) ?_
  intro W base args ds gs before hval0 hW hcnd _
  have hval : ∀ (j : Nat) t v, Try.f9.params[j]? = some t → args[j]? = some v → Value.okWide Try.prog W .any base t v := hval0
  have hW' := hW
  obtain ⟨p, q, hA0, hV, rfl, hfz, hnd⟩ := hW
  have hA : DataW.TrodAll enc Try.prog W 0 (fun _ => true) true Try.f9.params.toList args.toList ds p := hA0
  rw [Try.params9] at hA hval
  obtain ⟨v0, vs0, d0, ds0, p0, q0, hargs, rfl, rfl, h0, r0⟩ := trodAll_cons hA
  obtain ⟨rfl, rfl, rfl⟩ := trodAll_nil r0
  obtain rfl : args = #[v0] := by cases args; simp_all
  obtain ⟨rfl, rfl⟩ := trodVars_none hV
  have k0 := h0
  have lt0 : ∀ x ∈ p0, x.block < W.heap.size := by obtain ⟨m, hm⟩ := k0; exact DataW.trod_lt m _ _ _ hm
  obtain ⟨c0_0, c0_1, c0_2, y0_0, y0_1, y0_2, m0, hv0, _, _, e0_0, e0_1, e0_2⟩ := open_agg3 Try.underlying41 (by kernel_rfl) (by kernel_rfl) (hval 0 41 v0 rfl rfl) h0
  subst hv0
  obtain ⟨A0_0, C0_0, xs0_0, f0_0, w0_0⟩ := open_rowF Try.underlying23 Try.underlying3 (by kernel_rfl) e0_0
  subst f0_0
  obtain ⟨A0_1, C0_1, xs0_1, f0_1, w0_1⟩ := open_rowF Try.underlying23 Try.underlying3 (by kernel_rfl) e0_1
  subst f0_1
  obtain ⟨a0_2, f0_2, _⟩ := DataW.trod_bool Try.underlying4 e0_2
  simp only [List.cons.injEq, and_true] at f0_2
  subst f0_2
  clear hA0 hval0
  refine (FnExactStreamEnd_walk A0_0 C0_0 xs0_0 A0_1 C0_1 xs0_1 a0_2 W w0_0 w0_1).mono fun e W' ⟨he, bel⟩ => ?_
  subst he
  exact ⟨_, rfl, _, _, _, [], _, [], hW', trodAll_mk1 (shut_bool Try.underlying4 _), (trodAll_cons_mk (Below.trod laidOut (by kernel_rfl) (of_decide_eq_true (by kernel_rfl)) k0 bel lt0) trodAll_mk0), rfl, bel.frame _, fun h => by cases h⟩

theorem FnExactStreamEnd_holds : Rows.FnExactStreamEndSaid :=
  OpenClaim.holds_of_wide 9 Try.f9 rfl rfl rfl rfl rfl rfl rfl ⟨rfl, rfl, rfl, rfl, rfl⟩ rfl rfl rfl rfl rfl (by kernel_rfl) Try.func9 (by kernel_rfl)
    (of_decide_eq_true (by kernel_rfl)) (by unfold Func.isWrapper; first | (rw [if_pos (by decide +kernel)]; kernel_rfl) | (rw [if_neg (by decide +kernel)]; exact ⟨rfl, rfl⟩))
    (fun os started H enc _ => FnExactStreamEnd_lifted os started H enc)

end Go.Proofs.Ytamljhjbmeikiaa
