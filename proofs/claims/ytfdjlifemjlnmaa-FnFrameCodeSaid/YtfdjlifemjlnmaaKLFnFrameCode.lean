/- The law FnFrameCode: bytes are no frame whatever the limit, whatever is drawn. No condition. -/
import Derived.Test.YtfdjlifemjlnmaaGDa
import Derived.Test.YtfdjlifemjlnmaaGCk
import Derived.Test.YtfdjlifemjlnmaaGPb
import Derived.Test.YtfdjlifemjlnmaaGMa
namespace Go.Proofs.Ytfdjlifemjlnmaa
open Go Go.RowKit Go.ChangeShapes Go.WideShapes Go.ChangeAt Go.Joins

set_option maxHeartbeats 1000000 in
theorem FnFrameCode_walk (A : Option Addr) (c : Nat) (bs : List Int) (w : World) (hr : RY w A c bs) : Calls Try.prog 14 #[.slice A bs.length c] w (PT w) := by
  by_cases hbig : 1048576 < bs.length
  · go_enter Try.func14, Try.ntmps14
    go_wp2_with fail
    go_ret
    exact ⟨rfl, Below.refl _ _⟩
  have hb : bs.length ≤ 1048576 := by omega
  clear hbig
  go_enter Try.func14, Try.ntmps14
  go_wp2_with fail
  refine (DrawFrameOpen_any _ _ _ _ hr).mono ?_
  rintro e w1 ⟨A1, c1, xs, most, rfl, ho1, hl1, hmlo, hmhi, hb1⟩
  go_wp2_with fail
  refine (FrameOpen_any _ _ _ _ _ ho1.ri (by omega)).mono ?_
  rintro e w2 ⟨A2, c2, ys, n, hys, hn, hoy, rfl, hb2⟩
  have ho2 := ho1.below hb2
  go_wp2_with fail
  refine (sFrameOpen_any _ _ _ _ _ ho2.ri (by omega)).mono ?_
  rintro e w3 ⟨A3, c3, ys', n', hys', hn', hoy', rfl, hb3⟩
  obtain rfl : ys = ys' := hys.out.trans hys'.out.symm
  obtain rfl : n = n' := hn.out.trans hn'.out.symm
  clear hys' hn'
  have HFO : Hid (foF xs most = (ys, n)) := by unfold Hid; rw [hys.out, hn.out]
  have ho3 := ho2.below hb3
  have hoy3 := hoy.below hb3
  have hnn : (n != n) = false := by simp
  have hnq : (n == n) = true := by simp
  go_wp2_with fail
  refine (sameInts_any _ _ _ _ _ _ _ hoy3.ri hoy'.ri).mono ?_
  rintro e w4 ⟨q, hq, rfl, hb4⟩
  obtain rfl : q = true := hq.out.trans (by simp)
  clear hq
  have ho4 := ho3.below hb4
  have hoy4 := hoy3.below hb4
  have hoy4' := hoy'.below hb4
  have hbA := below_on (below_on (below_on hb1 hb2) hb3) hb4
  clear ho1 ho2 ho3 hoy hoy3 hoy' hb1 hb2 hb3 hb4 hys hn
  obtain ⟨hc1, hc2⟩ := foF_code HFO.out
  have HC1 := hid hc1
  clear hc1
  go_wp2_with fail
  refine (FrameBlocks_any _ _ _ _ ho4.ri (by omega)).mono ?_
  rintro e w5 ⟨m, hm, rfl, hb5⟩
  have hmm : n = 1 ↔ m = -1 := by rw [hm.out]; exact HC1.out
  have hbZ := below_on hbA hb5
  clear hm
  have hfin : n = 0 ∨ (n ≠ 0 ∧ ys.length = 0) := by
    rcases hc2 with h | h
    · exact .inl h
    · by_cases h0 : n = 0
      · exact .inl h0
      · exact .inr ⟨h0, by rw [h]; rfl⟩
  clear hc2
  rcases hfin with h0 | ⟨h0, hy0⟩
  · subst h0
    have hq2 : (m == -1) = false := by rw [beq_eq_false_iff_ne]; omega
    clear hmm
    go_wp2_with fail
    go_ret
    exact ⟨rfl, hbZ⟩
  · have hq0 : (n == 0) = false := by rw [beq_eq_false_iff_ne]; exact h0
    have hqy : ((ys.length : Int) == 0) = true := by simp [hy0]
    by_cases h1 : n = 1
    · have hq1 : (n == 1) = true := by simp [h1]
      have hq2 : (m == -1) = true := by simp [hmm.1 h1]
      clear hmm h0 h1 hy0
      go_wp2_with fail
      go_ret
      exact ⟨rfl, hbZ⟩
    · have hq1 : (n == 1) = false := by rw [beq_eq_false_iff_ne]; exact h1
      have hq2 : (m == -1) = false := by rw [beq_eq_false_iff_ne]; omega
      clear hmm h0 h1 hy0
      go_wp2_with fail
      go_ret
      exact ⟨rfl, hbZ⟩

set_option maxRecDepth 100000 in
theorem FnFrameCode_lifted (os : Os) (started : os.Started) (H : Type) (enc : TypeId × Value → H) :
    ReturnsInHanded {} Try.checked os 14 .any (Rows.fnFrameCodeSpec.pre6 enc Try.prog Try.f14 Rows.fnFrameCodeRow.domain false) (Rows.fnFrameCodeSpec.post enc Try.prog Try.f14 false true false false) := by
  refine returnsInHanded_of_change (C := Try.checked) own started (by kernel_rfl) Try.func14
    (ChangeSpec.witness6 (enc := enc) (C := Try.checked) false ⟨#[], #[.slice none 0 0], []⟩ 8 (by kernel_rfl) (by kernel_rfl) (by kernel_rfl) (by kernel_rfl)) ?_
  intro W base args ds gs before hval0 hW hcnd _
  have hval : ∀ (j : Nat) t v, Try.f14.params[j]? = some t → args[j]? = some v → Value.okWide Try.prog W .any base t v := hval0
  have hW' := hW
  obtain ⟨p, q, hA0, hV, rfl, hfz, hnd⟩ := hW
  have hA : DataW.TrodAll enc Try.prog W 0 (fun _ => true) true Try.f14.params.toList args.toList ds p := hA0
  rw [Try.params14] at hA hval
  obtain ⟨v0, vs0, d0, ds0, p0, q0, hargs, rfl, rfl, h0, r0⟩ := trodAll_cons hA
  obtain ⟨rfl, rfl, rfl⟩ := trodAll_nil r0
  obtain rfl : args = #[v0] := by cases args; simp_all
  obtain ⟨rfl, rfl⟩ := trodVars_none hV
  have k0 := h0
  have lt0 : ∀ x ∈ p0, x.block < W.heap.size := by obtain ⟨m, hm⟩ := k0; exact DataW.trod_lt m _ _ _ hm
  obtain ⟨A0, c0, xs0, hv0, w0, wf0⟩ := open_row Try.underlying22 Try.underlying5 (by kernel_rfl) (hval 0 22 v0 rfl rfl) h0
  subst hv0
  have w0 : RY W A0 c0 xs0 := ⟨w0, fun b hb => bounds_u8 (wf0 b hb)⟩
  clear hA0 hval0
  refine (FnFrameCode_walk A0 c0 xs0 W w0).mono fun e W' ⟨he, bel⟩ => ?_
  subst he
  exact ⟨_, rfl, _, _, _, [], _, [], hW', trodAll_mk1 (shut_bool Try.underlying4 _), (trodAll_cons_mk (Below.trod laidOut (by kernel_rfl) (of_decide_eq_true (by kernel_rfl)) k0 bel lt0) trodAll_mk0), rfl, bel.frame _, fun h => by cases h⟩

theorem FnFrameCode_holds : Rows.FnFrameCodeSaid :=
  OpenClaim.holds_of_wide 14 Try.f14 rfl rfl rfl rfl rfl rfl rfl ⟨rfl, rfl, rfl, rfl, rfl⟩ rfl rfl rfl rfl rfl (by kernel_rfl) Try.func14 (by kernel_rfl)
    (of_decide_eq_true (by kernel_rfl)) (by unfold Func.isWrapper; first | (rw [if_pos (by decide +kernel)]; kernel_rfl) | (rw [if_neg (by decide +kernel)]; exact ⟨rfl, rfl⟩))
    (fun os started H enc _ => FnFrameCode_lifted os started H enc)

end Go.Proofs.Ytfdjlifemjlnmaa
