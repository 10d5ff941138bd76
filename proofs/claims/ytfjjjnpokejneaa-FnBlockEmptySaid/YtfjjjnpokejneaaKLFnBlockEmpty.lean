/- The law FnBlockEmpty: an empty block has two bytes, whatever is drawn. No condition. -/
import Derived.Test.YtfjjjnpokejneaaGDa
import Derived.Test.YtfjjjnpokejneaaGMa
import Derived.Test.YtfjjjnpokejneaaGCf
namespace Go.Proofs.Ytfjjjnpokejneaa
open Go Go.RowKit Go.ChangeShapes Go.WideShapes Go.ChangeAt Go.Joins

theorem pack_nil : packF [] = [0, 0] := by decide
theorem as_nil : asL [] 2 = none := by decide
theorem pack_two {xs : List Int} : (packF xs).length = 0 ∨ 2 ≤ (packF xs).length := by
  cases h : listOk xs with
  | false => rw [pack_bad h]; exact .inl rfl
  | true => obtain ⟨way, _, _, ha, _⟩ := pack_is h; exact .inr (in_as ha []).2.2.2
set_option maxHeartbeats 1000000 in
theorem FnBlockEmpty_walk (A : Option Addr) (c : Nat) (bs : List Int) (w : World) (hr : RY w A c bs) : Calls Try.prog 7 #[.slice A bs.length c] w (PT w) := by
  by_cases hbig : 1048576 < bs.length
  · go_enter Try.func7, Try.ntmps7
    go_wp2_with fail
    go_ret
    exact ⟨rfl, Below.refl _ _⟩
  have hb : bs.length ≤ 1048576 := by omega
  clear hbig
  go_enter Try.func7, Try.ntmps7
  go_wp2_with fail
  refine (DrawBlockPack_any _ _ _ _ hr).mono ?_
  rintro e w1 ⟨A1, c1, xs, rfl, ho1, hl1, hb1⟩
  go_wp2_with fail
  refine (BlockPack_any _ _ _ _ ho1.ri).mono ?_
  rintro e w2 ⟨A2, c2, ys, hys, hoy, rfl, hb2⟩
  have ho2 := ho1.below hb2
  go_wp2_with fail
  refine (sBlockPack_any _ _ _ _ ho2.ri).mono ?_
  rintro e w3 ⟨A3, c3, ys', hys', hoy', rfl, hb3⟩
  obtain rfl : ys = ys' := hys.out.trans hys'.out.symm
  clear hys'
  have ho3 := ho2.below hb3
  have hoy3 := hoy.below hb3
  go_wp2_with fail
  refine (sameInts_any _ _ _ _ _ _ _ hoy3.ri hoy'.ri).mono ?_
  rintro e w4 ⟨q, hq, rfl, hb4⟩
  obtain rfl : q = true := hq.out.trans (by simp)
  clear hq
  have ho4 := ho3.below hb4
  have hoy4 := hoy3.below hb4
  have hoy4' := hoy'.below hb4
  clear ho1 ho2 ho3 hoy hoy3 hoy'
  have hz : ys.length = 0 ∨ 2 ≤ ys.length := by rw [hys.out]; exact pack_two
  clear hys
  go_wp2_with fail
  refine (BlockAs_any _ _ [] _ _ (OI.empty w4 w4.heap.size (Nat.le_refl _)).ri).mono ?_
  rintro _ w5 ⟨A5, c5, zs, b, hzs, hb, hoz, rfl, hb5⟩
  obtain rfl : b = false := by rw [hb.out, as_nil]; rfl
  clear hzs hb hoz
  go_wp2_with fail
  refine (BlockPack_any _ _ [] _ (OI.empty w5 w5.heap.size (Nat.le_refl _)).ri).mono ?_
  rintro _ w6 ⟨A6, c6, us, hus, hou, rfl, hb6⟩
  obtain rfl : us = [0, 0] := hus.out.trans pack_nil
  clear hus
  have hlit := OI.litI w6 w6.heap.size [0, 0] (Nat.le_refl _) (by simp)
  have hou6 := hou.alloc (.cells (ints [0, 0]).toArray 3)
  go_wp2_with fail
  refine (sameInts_any _ _ _ _ [0, 0] [0, 0] _ hou6.ri hlit.ri).mono ?_
  rintro e w7 ⟨q, hq, rfl, hb7⟩
  obtain rfl : q = true := hq.out.trans (by simp)
  clear hq
  have hbA := below_on (below_on (below_on (below_on (below_on (below_on (below_on (below_on (below_on hb1 hb2) hb3) hb4) (below_new w4 (.cells #[] 3))) hb5) (below_new w5 (.cells #[] 3))) hb6) (below_new w6 (.cells (ints [0, 0]).toArray 3))) hb7
  rcases hz with hz | hz
  · have hq0 : ((ys.length : Int) == 0) = true := by simp [hz]
    clear hz
    go_wp2_with fail
    go_ret
    exact ⟨rfl, hbA⟩
  · have hq0 : ((ys.length : Int) == 0) = false := by rw [beq_eq_false_iff_ne]; omega
    have hg2 : (ys.length : Int) ≥ 2 := by omega
    go_wp2_with fail
    go_ret
    exact ⟨rfl, hbA⟩

set_option maxRecDepth 100000 in
theorem FnBlockEmpty_lifted (os : Os) (started : os.Started) (H : Type) (enc : TypeId × Value → H) :
    ReturnsInHanded {} Try.checked os 7 .any (Rows.fnBlockEmptySpec.pre6 enc Try.prog Try.f7 Rows.fnBlockEmptyRow.domain false) (Rows.fnBlockEmptySpec.post enc Try.prog Try.f7 false true false false) := by
  refine returnsInHanded_of_change (C := Try.checked) own started (by kernel_rfl) Try.func7
    (ChangeSpec.witness6 (enc := enc) (C := Try.checked) false ⟨#[], #[.slice none 0 0], []⟩ 8 (by kernel_rfl) (by kernel_rfl) (by kernel_rfl) (by kernel_rfl)) ?_
  intro W base args ds gs before hval0 hW hcnd _
  have hval : ∀ (j : Nat) t v, Try.f7.params[j]? = some t → args[j]? = some v → Value.okWide Try.prog W .any base t v := hval0
  have hW' := hW
  obtain ⟨p, q, hA0, hV, rfl, hfz, hnd⟩ := hW
  have hA : DataW.TrodAll enc Try.prog W 0 (fun _ => true) true Try.f7.params.toList args.toList ds p := hA0
  rw [Try.params7] at hA hval
  obtain ⟨v0, vs0, d0, ds0, p0, q0, hargs, rfl, rfl, h0, r0⟩ := trodAll_cons hA
  obtain ⟨rfl, rfl, rfl⟩ := trodAll_nil r0
  obtain rfl : args = #[v0] := by cases args; simp_all
  obtain ⟨rfl, rfl⟩ := trodVars_none hV
  have k0 := h0
  have lt0 : ∀ x ∈ p0, x.block < W.heap.size := by obtain ⟨m, hm⟩ := k0; exact DataW.trod_lt m _ _ _ hm
  obtain ⟨A0, c0, xs0, hv0, w0, wf0⟩ := open_row Try.underlying22 Try.underlying5 (by kernel_rfl) (hval 0 22 v0 rfl rfl) h0
  subst hv0
  have w0 : RY W A0 c0 xs0 := ⟨w0, fun b hb => bounds_u8 (wf0 b hb)⟩
  clear hA0 hval0
  refine (FnBlockEmpty_walk A0 c0 xs0 W w0).mono fun e W' ⟨he, bel⟩ => ?_
  subst he
  exact ⟨_, rfl, _, _, _, [], _, [], hW', trodAll_mk1 (shut_bool Try.underlying4 _), (trodAll_cons_mk (Below.trod laidOut (by kernel_rfl) (of_decide_eq_true (by kernel_rfl)) k0 bel lt0) trodAll_mk0), rfl, bel.frame _, fun h => by cases h⟩

theorem FnBlockEmpty_holds : Rows.FnBlockEmptySaid :=
  OpenClaim.holds_of_wide 7 Try.f7 rfl rfl rfl rfl rfl rfl rfl ⟨rfl, rfl, rfl, rfl, rfl⟩ rfl rfl rfl rfl rfl (by kernel_rfl) Try.func7 (by kernel_rfl)
    (of_decide_eq_true (by kernel_rfl)) (by unfold Func.isWrapper; first | (rw [if_pos (by decide +kernel)]; kernel_rfl) | (rw [if_neg (by decide +kernel)]; exact ⟨rfl, rfl⟩))
    (fun os started H enc _ => FnBlockEmpty_lifted os started H enc)

end Go.Proofs.Ytfjjjnpokejneaa
