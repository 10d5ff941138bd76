/- The law FnBlockState: a whole block is opened, whatever is drawn. No condition. -/
import Derived.Test.YtamljhjbmeikiaaGDa
import Derived.Test.YtamljhjbmeikiaaGCg
import Derived.Test.YtamljhjbmeikiaaGCi
import Derived.Test.YtamljhjbmeikiaaGPc
import Derived.Test.YtamljhjbmeikiaaGMa
namespace Go.Proofs.Ytamljhjbmeikiaa
open Go Go.RowKit Go.ChangeShapes Go.WideShapes Go.ChangeAt Go.Joins

set_option maxHeartbeats 1000000 in
theorem FnBlockState_walk (A : Option Addr) (c : Nat) (bs : List Int) (w : World) (hr : RY w A c bs) : Calls Try.prog 5 #[.slice A bs.length c] w (PT w) := by
  by_cases hbig : 1048576 < bs.length
  · go_enter Try.func5, Try.ntmps5
    go_wp2_with fail
    go_ret
    exact ⟨rfl, Below.refl _ _⟩
  have hb : bs.length ≤ 1048576 := by omega
  clear hbig
  go_enter Try.func5, Try.ntmps5
  go_wp2_with fail
  refine (DrawBlockState_any _ _ _ _ hr).mono ?_
  rintro e w1 ⟨A1, c1, xs, rfl, ho1, hl1, hb1⟩
  go_wp2_with fail
  refine (BlockState_any _ _ _ _ ho1.ri).mono ?_
  rintro e w2 ⟨n, hn, rfl, hb2⟩
  have ho2 := ho1.below hb2
  go_wp2_with fail
  refine (sBlockState_any _ _ _ _ ho2.ri).mono ?_
  rintro e w3 ⟨n', hn', rfl, hb3⟩
  obtain rfl : n = n' := hn.out.trans hn'.out.symm
  have ho3 := ho2.below hb3
  have hbA := below_on (below_on hb1 hb2) hb3
  have hnn : (n != n) = false := by simp
  have hnq : (n == n) = true := by simp
  obtain ⟨hs1, hs0, hs2⟩ := st_open (bs := xs)
  rw [← hn.out] at hs0 hs2 hs1
  clear hn' ho1 ho2 hb1 hb2 hb3
  have HS1 := hid hs1
  have hg0 : n ≥ 0 := hs0
  clear hs1
  go_wp2_with fail
  refine (BlockOpen_any _ _ _ _ ho3.ri).mono ?_
  rintro _ w5 ⟨A5, c5, zs, n5, ok5, hzs, hn5, hok5, hoz, rfl, hb5⟩
  have hbZ := below_on hbA hb5
  have hiff : n = 1 ↔ ok5 = true := by
    rw [HS1.out, hok5.out]
    cases opF xs with
    | none => simp [opR]
    | some r => simp [opR]
  clear hzs hn5 hok5
  cases ok5 with
  | true =>
    have hq1 : (n == 1) = true := by simp [hiff]
    clear hiff
    go_wp2_with fail
    go_ret
    exact ⟨rfl, hbZ⟩
  | false =>
    have hq1 : (n == 1) = false := by rw [beq_eq_false_iff_ne]; intro h; cases hiff.1 h
    clear hiff
    go_wp2_with fail
    go_ret
    exact ⟨rfl, hbZ⟩

set_option maxRecDepth 100000 in
theorem FnBlockState_lifted (os : Os) (started : os.Started) (H : Type) (enc : TypeId × Value → H) :
    ReturnsInHanded {} Try.checked os 5 .any (Rows.fnBlockStateSpec.pre6 enc Try.prog Try.f5 Rows.fnBlockStateRow.domain false) (Rows.fnBlockStateSpec.post enc Try.prog Try.f5 false true false false) := by
  refine returnsInHanded_of_change (C := Try.checked) own started (by kernel_rfl) Try.func5
    (ChangeSpec.witness6 (enc := enc) (C := Try.checked) false ⟨#[], #[.slice none 0 0], []⟩ 8 (by kernel_rfl) (by kernel_rfl) (by kernel_rfl) (by kernel_rfl)) ?_
  intro W base args ds gs before hval0 hW hcnd _
  have hval : ∀ (j : Nat) t v, Try.f5.params[j]? = some t → args[j]? = some v → Value.okWide Try.prog W .any base t v := hval0
  have hW' := hW
  obtain ⟨p, q, hA0, hV, rfl, hfz, hnd⟩ := hW
  have hA : DataW.TrodAll enc Try.prog W 0 (fun _ => true) true Try.f5.params.toList args.toList ds p := hA0
  rw [Try.params5] at hA hval
  obtain ⟨v0, vs0, d0, ds0, p0, q0, hargs, rfl, rfl, h0, r0⟩ := trodAll_cons hA
  obtain ⟨rfl, rfl, rfl⟩ := trodAll_nil r0
  obtain rfl : args = #[v0] := by cases args; simp_all
  obtain ⟨rfl, rfl⟩ := trodVars_none hV
  have k0 := h0
  have lt0 : ∀ x ∈ p0, x.block < W.heap.size := by obtain ⟨m, hm⟩ := k0; exact DataW.trod_lt m _ _ _ hm
  obtain ⟨A0, c0, xs0, hv0, w0, wf0⟩ := open_row Try.underlying22 Try.underlying5 (by kernel_rfl) (hval 0 22 v0 rfl rfl) h0
  subst hv0
  have w0 : RY W A0 c0 xs0 := ⟨w0, fun b hb => bounds_u8 (wf0 b hb)⟩
  clear hA0 hval0
  refine (FnBlockState_walk A0 c0 xs0 W w0).mono fun e W' ⟨he, bel⟩ => ?_
  subst he
  exact ⟨_, rfl, _, _, _, [], _, [], hW', trodAll_mk1 (shut_bool Try.underlying4 _), (trodAll_cons_mk (Below.trod laidOut (by kernel_rfl) (of_decide_eq_true (by kernel_rfl)) k0 bel lt0) trodAll_mk0), rfl, bel.frame _, fun h => by cases h⟩

theorem FnBlockState_holds : Rows.FnBlockStateSaid :=
  OpenClaim.holds_of_wide 5 Try.f5 rfl rfl rfl rfl rfl rfl rfl ⟨rfl, rfl, rfl, rfl, rfl⟩ rfl rfl rfl rfl rfl (by kernel_rfl) Try.func5 (by kernel_rfl)
    (of_decide_eq_true (by kernel_rfl)) (by unfold Func.isWrapper; first | (rw [if_pos (by decide +kernel)]; kernel_rfl) | (rw [if_neg (by decide +kernel)]; exact ⟨rfl, rfl⟩))
    (fun os started H enc _ => FnBlockState_lifted os started H enc)

end Go.Proofs.Ytamljhjbmeikiaa
