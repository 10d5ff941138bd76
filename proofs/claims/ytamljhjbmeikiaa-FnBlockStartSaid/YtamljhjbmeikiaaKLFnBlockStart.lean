/- The law FnBlockStart: a block begins with its way, whatever is drawn. No condition. -/
import Derived.Test.YtamljhjbmeikiaaGDa
import Derived.Test.YtamljhjbmeikiaaGCg
import Derived.Test.YtamljhjbmeikiaaGCi
import Derived.Test.YtamljhjbmeikiaaGPc
import Derived.Test.YtamljhjbmeikiaaGMa
namespace Go.Proofs.Ytamljhjbmeikiaa
open Go Go.RowKit Go.ChangeShapes Go.WideShapes Go.ChangeAt Go.Joins

set_option maxHeartbeats 1000000 in
theorem FnBlockStart_walk (A : Option Addr) (c : Nat) (bs : List Int) (A0 : Option Addr) (c0 : Nat) (bs2 : List Int) (w : World) (hr : RY w A c bs) (_ : RY w A0 c0 bs2) : Calls Try.prog 4 #[.slice A bs.length c, .slice A0 bs2.length c0] w (PT w) := by
  by_cases hbig : 1048576 < bs.length
  · go_enter Try.func4, Try.ntmps4
    go_wp2_with fail
    go_ret
    exact ⟨rfl, Below.refl _ _⟩
  have hb : bs.length ≤ 1048576 := by omega
  clear hbig
  by_cases hbig : 1048576 < bs2.length
  · go_enter Try.func4, Try.ntmps4
    go_wp2_with fail
    go_ret
    exact ⟨rfl, Below.refl _ _⟩
  have hbB : bs2.length ≤ 1048576 := by omega
  clear hbig
  go_enter Try.func4, Try.ntmps4
  go_wp2_with fail
  refine (DrawBlockState_any _ _ _ _ hr).mono ?_
  rintro e w1 ⟨A1, c1, xs, rfl, ho1, hl1, hb1⟩
  go_wp2_with fail
  refine (BlockState_any _ _ _ _ ho1.ri).mono ?_
  rintro e w2 ⟨n, hn, rfl, hb2⟩
  have ho2 := ho1.below hb2
  go_wp2_with fail
  refine (sBlockState_any _ _ _ _ ho2.ri).mono ?_
  rintro e w3 ⟨n', hn', rfl, hb3⟩
  obtain rfl : n = n' := hn.out.trans hn'.out.symm
  have ho3 := ho2.below hb3
  have hbA := below_on (below_on hb1 hb2) hb3
  have hnn : (n != n) = false := by simp
  have hnq : (n == n) = true := by simp
  obtain ⟨hs1, hs0, hs2⟩ := st_open (bs := xs)
  rw [← hn.out] at hs0 hs2 hs1
  clear hn' ho1 ho2 hb1 hb2 hb3
  clear hs1 hn
  obtain ⟨z, hz⟩ : ∃ z : Int, z = 4 + (bs2.length : Int) % 250 := ⟨_, rfl⟩
  have hz4 : 4 ≤ z := by omega
  have HZ := hid (st_bad hz4)
  have hn4 : n % 4 = n := by omega
  have HN := hid (st_few hs0 (by omega))
  go_upto_region 9 with fail
  rw [← hz]
  clear hz hz4
  go_wp2_with fail
  refine (BlockState_any _ _ [] _ (OI.empty w3 w3.heap.size (Nat.le_refl _)).ri).mono ?_
  rintro _ w4 ⟨m4, hm4, rfl, hb4⟩
  obtain rfl : m4 = 0 := hm4.out.trans st_nil
  clear hm4
  go_wp2_with fail
  refine (BlockState_any _ _ [z] _ (RI.one w4 z)).mono ?_
  rintro _ w5 ⟨m5, hm5, rfl, hb5⟩
  obtain rfl : m5 = 2 := hm5.out.trans HZ.out
  clear hm5
  go_wp2_with fail
  refine (BlockState_any _ _ [n] _ (RI.one w5 n)).mono ?_
  rintro _ w6 ⟨m6, hm6, rfl, hb6⟩
  obtain rfl : m6 = 0 := hm6.out.trans HN.out
  clear hm6
  go_wp2_with fail
  go_ret
  exact ⟨rfl, below_on (below_on (below_on (below_on (below_on (below_on hbA (below_new w3 (.cells #[] 3))) hb4) (below_new w4 (.cells #[.int .i64 z] 3))) hb5) (below_new w5 (.cells #[.int .i64 n] 3))) hb6⟩

set_option maxRecDepth 100000 in
theorem FnBlockStart_lifted (os : Os) (started : os.Started) (H : Type) (enc : TypeId × Value → H) :
    ReturnsInHanded {} Try.checked os 4 .any (Rows.fnBlockStartSpec.pre6 enc Try.prog Try.f4 Rows.fnBlockStartRow.domain false) (Rows.fnBlockStartSpec.post enc Try.prog Try.f4 false true false false) := by
  refine returnsInHanded_of_change (C := Try.checked) own started (by kernel_rfl) Try.func4
    (ChangeSpec.witness6 (enc := enc) (C := Try.checked) false ⟨#[], #[.slice none 0 0, .slice none 0 0], []⟩ 8 (by kernel_rfl) (by kernel_rfl) (by kernel_rfl) (by kernel_rfl)) ?_
  intro W base args ds gs before hval0 hW hcnd _
  have hval : ∀ (j : Nat) t v, Try.f4.params[j]? = some t → args[j]? = some v → Value.okWide Try.prog W .any base t v := hval0
  have hW' := hW
  obtain ⟨p, q, hA0, hV, rfl, hfz, hnd⟩ := hW
  have hA : DataW.TrodAll enc Try.prog W 0 (fun _ => true) true Try.f4.params.toList args.toList ds p := hA0
  rw [Try.params4] at hA hval
  obtain ⟨v0, vs0, d0, ds0, p0, q0, hargs, rfl, rfl, h0, r0⟩ := trodAll_cons hA
  obtain ⟨v1, vs1, d1, ds1, p1, q1, rfl, rfl, rfl, h1, r1⟩ := trodAll_cons r0
  obtain ⟨rfl, rfl, rfl⟩ := trodAll_nil r1
  obtain rfl : args = #[v0, v1] := by cases args; simp_all
  obtain ⟨rfl, rfl⟩ := trodVars_none hV
  have k0 := h0
  have lt0 : ∀ x ∈ p0, x.block < W.heap.size := by obtain ⟨m, hm⟩ := k0; exact DataW.trod_lt m _ _ _ hm
  obtain ⟨A0, c0, xs0, hv0, w0, wf0⟩ := open_row Try.underlying22 Try.underlying5 (by kernel_rfl) (hval 0 22 v0 rfl rfl) h0
  subst hv0
  have w0 : RY W A0 c0 xs0 := ⟨w0, fun b hb => bounds_u8 (wf0 b hb)⟩
  have k1 := h1
  have lt1 : ∀ x ∈ p1, x.block < W.heap.size := by obtain ⟨m, hm⟩ := k1; exact DataW.trod_lt m _ _ _ hm
  obtain ⟨A1, c1, xs1, hv1, w1, wf1⟩ := open_row Try.underlying22 Try.underlying5 (by kernel_rfl) (hval 1 22 v1 rfl rfl) h1
  subst hv1
  have w1 : RY W A1 c1 xs1 := ⟨w1, fun b hb => bounds_u8 (wf1 b hb)⟩
  clear hA0 hval0
  refine (FnBlockStart_walk A0 c0 xs0 A1 c1 xs1 W w0 w1).mono fun e W' ⟨he, bel⟩ => ?_
  subst he
  exact ⟨_, rfl, _, _, _, [], _, [], hW', trodAll_mk1 (shut_bool Try.underlying4 _), (trodAll_cons_mk (Below.trod laidOut (by kernel_rfl) (of_decide_eq_true (by kernel_rfl)) k0 bel lt0) (trodAll_cons_mk (Below.trod laidOut (by kernel_rfl) (of_decide_eq_true (by kernel_rfl)) k1 bel lt1) trodAll_mk0)), rfl, bel.frame _, fun h => by cases h⟩

theorem FnBlockStart_holds : Rows.FnBlockStartSaid :=
  OpenClaim.holds_of_wide 4 Try.f4 rfl rfl rfl rfl rfl rfl rfl ⟨rfl, rfl, rfl, rfl, rfl⟩ rfl rfl rfl rfl rfl (by kernel_rfl) Try.func4 (by kernel_rfl)
    (of_decide_eq_true (by kernel_rfl)) (by unfold Func.isWrapper; first | (rw [if_pos (by decide +kernel)]; kernel_rfl) | (rw [if_neg (by decide +kernel)]; exact ⟨rfl, rfl⟩))
    (fun os started H enc _ => FnBlockStart_lifted os started H enc)

end Go.Proofs.Ytamljhjbmeikiaa
