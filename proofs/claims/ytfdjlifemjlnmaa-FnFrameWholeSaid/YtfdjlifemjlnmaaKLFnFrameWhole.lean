/- The law FnFrameWhole: a frame has its end, whatever is drawn. No condition. -/
import Derived.Test.YtfdjlifemjlnmaaGDa
import Derived.Test.YtfdjlifemjlnmaaGCk
import Derived.Test.YtfdjlifemjlnmaaGPb
import Derived.Test.YtfdjlifemjlnmaaGMa
namespace Go.Proofs.Ytfdjlifemjlnmaa
open Go Go.RowKit Go.ChangeShapes Go.WideShapes Go.ChangeAt Go.Joins

theorem FrameBlocks_len (A : Option Addr) (c n : Nat) (bs : List Int) (w : World) (hn : n = bs.length) (hr : RI w A c bs) (hl : n ≤ 1099511627776) : Calls Try.prog 19 #[.slice A n c] w (PNb w (fkF bs)) := by
  subst hn; exact FrameBlocks_any A c bs w hr hl
set_option maxHeartbeats 1000000 in
theorem FnFrameWhole_walk (A : Option Addr) (c : Nat) (bs : List Int) (A0 : Option Addr) (c0 : Nat) (bs2 : List Int) (w : World) (hr : RY w A c bs) (_ : RY w A0 c0 bs2) : Calls Try.prog 11 #[.slice A bs.length c, .slice A0 bs2.length c0] w (PT w) := by
  by_cases hbig : 1048576 < bs.length
  · go_enter Try.func11, Try.ntmps11
    go_wp2_with fail
    go_ret
    exact ⟨rfl, Below.refl _ _⟩
  have hb : bs.length ≤ 1048576 := by omega
  clear hbig
  by_cases hbig : 1048576 < bs2.length
  · go_enter Try.func11, Try.ntmps11
    go_wp2_with fail
    go_ret
    exact ⟨rfl, Below.refl _ _⟩
  have hbB : bs2.length ≤ 1048576 := by omega
  clear hbig
  go_enter Try.func11, Try.ntmps11
  go_wp2_with fail
  refine (DrawFrameBlocks_any _ _ _ _ hr).mono ?_
  rintro e w1 ⟨A1, c1, xs, rfl, ho1, hl1, hb1⟩
  go_wp2_with fail
  refine (FrameBlocks_any _ _ _ _ ho1.ri (by omega)).mono ?_
  rintro e w2 ⟨n, hn, rfl, hb2⟩
  have ho2 := ho1.below hb2
  go_wp2_with fail
  refine (sFrameBlocks_any _ _ _ _ ho2.ri (by omega)).mono ?_
  rintro e w3 ⟨n', hn', rfl, hb3⟩
  obtain rfl : n = n' := hn.out.trans hn'.out.symm
  have hnn : (n != n) = false := by simp
  have hnq : (n == n) = true := by simp
  have ho3 := ho2.below hb3
  have hbA := below_on (below_on hb1 hb2) hb3
  clear hn' ho1 ho2 hb1 hb2 hb3
  by_cases hneg : n < 0
  · go_wp2_with fail
    go_ret
    exact ⟨rfl, hbA⟩
  obtain ⟨ls, p, hf⟩ := fkF_some (bs := xs) (by rw [← hn.out]; exact hneg)
  obtain ⟨hcut, hmore⟩ := fkF_cut hf
  have hpos : 0 < xs.length := (frP_is hf).2.1
  have HCUT := hid hcut
  have HMORE := hid hmore
  obtain ⟨M, HM⟩ : ∃ M : Nat, Hid (M = xs.length - 1) := ⟨_, hid rfl⟩
  have hMl : M ≤ xs.length := by have := HM.out; omega
  have hW : IntKind.i64.wrap ((xs.length : Int) - 1) = (M : Int) := by rw [HM.out]; rw [show (xs.length : Int) - 1 = ((xs.length - 1 : Nat) : Int) by omega]; exact IntWalk.i64_in _ (by omega)
  obtain ⟨x, hx⟩ : ∃ x : Int, x = (bs2.length : Int) % 256 := ⟨_, rfl⟩
  have hx0 : 0 ≤ x := by omega
  have hx1 : x ≤ 255 := by omega
  have hcap := ho3.ri.cap
  have hMc : (M : Int) ≤ (c1 : Int) := by omega
  clear hcut hmore hf hn
  go_wp2_with (first | (at_builtin; rw [← hx]; refine wpl_app (xs := us) (ys := [x]) intT rfl _ _ rfl rfl (hou.alloc _) rfl (RI.one w6 x) (by simp; omega) (by simp; omega) ?_; intro A7 c7 w7 vs hv hov hg7 hat7; clear hat7) | (at_builtin; refine wpl_app (xs := []) (ys := xs) intT rfl _ _ rfl rfl (OI.empty w3 w3.heap.size (Nat.le_refl _)) rfl (ho3.ri.alloc _) (by simp; omega) (by simp) ?_; intro A6 c6 w6 us hu hou hg6 hat6; clear hat6; have hul : us.length ≤ 1003 := (by rw [hu.out]; simp; omega); have hs6 : w3.heap.size ≤ w6.heap.size := (by have h := hg6.size; simp at h; omega)))
  have hbw6 := OI.belowOwn (below_new w3 (.cells #[] 3)) (OI.empty w3 w3.heap.size (Nat.le_refl _)) hg6 (Nat.le_refl _)
  have hbw7 := OI.belowOwn (below_on hbw6 (below_new w6 (.cells #[.int .i64 x] 3))) (hou.alloc _) hg7 (Nat.le_refl _)
  have HV : Hid (fkF vs = -1) := by unfold Hid; rw [hv.out, hu.out, List.nil_append]; exact HMORE.out x hx0 hx1
  have hvl : vs.length ≤ 2000 := by rw [hv.out]; simp; omega
  have hrt := RI.takeAt (ho3.below hbw7).ri (k := M) hMl
  have HTL : Hid (M = (xs.take M).length) := by unfold Hid; rw [List.length_take]; omega
  have HT : Hid (fkF (xs.take M) = -1) := by unfold Hid; rw [HM.out]; exact HCUT.out
  have hbB := below_on hbA hbw7
  clear hv hu hou hg6 hg7 hbw6 hul ho3
  refine (FrameBlocks_len _ _ _ _ _ HTL.out hrt (by omega)).mono ?_
  rintro e w8 ⟨m8, hm8, rfl, hb8⟩
  obtain rfl : m8 = -1 := hm8.out.trans HT.out
  clear hm8
  go_wp2_with fail
  refine (FrameBlocks_any _ _ _ _ (hov.below hb8).ri (by omega)).mono ?_
  rintro e w9 ⟨m9, hm9, rfl, hb9⟩
  obtain rfl : m9 = -1 := hm9.out.trans HV.out
  clear hm9
  go_wp2_with fail
  go_ret
  exact ⟨rfl, below_on (below_on hbB hb8) hb9⟩

set_option maxRecDepth 100000 in
theorem FnFrameWhole_lifted (os : Os) (started : os.Started) (H : Type) (enc : TypeId × Value → H) :
    ReturnsInHanded {} Try.checked os 11 .any (Rows.fnFrameWholeSpec.pre6 enc Try.prog Try.f11 Rows.fnFrameWholeRow.domain false) (Rows.fnFrameWholeSpec.post enc Try.prog Try.f11 false true false false) := by
  refine returnsInHanded_of_change (C := Try.checked) own started (by kernel_rfl) Try.func11
    (ChangeSpec.witness6 (enc := enc) (C := Try.checked) false ⟨#[], #[.slice none 0 0, .slice none 0 0], []⟩ 8 (by kernel_rfl) (by kernel_rfl) (by kernel_rfl) (by kernel_rfl)) ?_
  intro W base args ds gs before hval0 hW hcnd _
  have hval : ∀ (j : Nat) t v, Try.f11.params[j]? = some t → args[j]? = some v → Value.okWide Try.prog W .any base t v := hval0
  have hW' := hW
  obtain ⟨p, q, hA0, hV, rfl, hfz, hnd⟩ := hW
  have hA : DataW.TrodAll enc Try.prog W 0 (fun _ => true) true Try.f11.params.toList args.toList ds p := hA0
  rw [Try.params11] at hA hval
  obtain ⟨v0, vs0, d0, ds0, p0, q0, hargs, rfl, rfl, h0, r0⟩ := trodAll_cons hA
  obtain ⟨v1, vs1, d1, ds1, p1, q1, rfl, rfl, rfl, h1, r1⟩ := trodAll_cons r0
  obtain ⟨rfl, rfl, rfl⟩ := trodAll_nil r1
  obtain rfl : args = #[v0, v1] := by cases args; simp_all
  obtain ⟨rfl, rfl⟩ := trodVars_none hV
  have k0 := h0
  have lt0 : ∀ x ∈ p0, x.block < W.heap.size := by obtain ⟨m, hm⟩ := k0; exact DataW.trod_lt m _ _ _ hm
  obtain ⟨A0, c0, xs0, hv0, w0, wf0⟩ := open_row Try.underlying22 Try.underlying5 (by kernel_rfl) (hval 0 22 v0 rfl rfl) h0
  subst hv0
  have w0 : RY W A0 c0 xs0 := ⟨w0, fun b hb => bounds_u8 (wf0 b hb)⟩
  have k1 := h1
  have lt1 : ∀ x ∈ p1, x.block < W.heap.size := by obtain ⟨m, hm⟩ := k1; exact DataW.trod_lt m _ _ _ hm
  obtain ⟨A1, c1, xs1, hv1, w1, wf1⟩ := open_row Try.underlying22 Try.underlying5 (by kernel_rfl) (hval 1 22 v1 rfl rfl) h1
  subst hv1
  have w1 : RY W A1 c1 xs1 := ⟨w1, fun b hb => bounds_u8 (wf1 b hb)⟩
  clear hA0 hval0
  refine (FnFrameWhole_walk A0 c0 xs0 A1 c1 xs1 W w0 w1).mono fun e W' ⟨he, bel⟩ => ?_
  subst he
  exact ⟨_, rfl, _, _, _, [], _, [], hW', trodAll_mk1 (shut_bool Try.underlying4 _), (trodAll_cons_mk (Below.trod laidOut (by kernel_rfl) (of_decide_eq_true (by kernel_rfl)) k0 bel lt0) (trodAll_cons_mk (Below.trod laidOut (by kernel_rfl) (of_decide_eq_true (by kernel_rfl)) k1 bel lt1) trodAll_mk0)), rfl, bel.frame _, fun h => by cases h⟩

theorem FnFrameWhole_holds : Rows.FnFrameWholeSaid :=
  OpenClaim.holds_of_wide 11 Try.f11 rfl rfl rfl rfl rfl rfl rfl ⟨rfl, rfl, rfl, rfl, rfl⟩ rfl rfl rfl rfl rfl (by kernel_rfl) Try.func11 (by kernel_rfl)
    (of_decide_eq_true (by kernel_rfl)) (by unfold Func.isWrapper; first | (rw [if_pos (by decide +kernel)]; kernel_rfl) | (rw [if_neg (by decide +kernel)]; exact ⟨rfl, rfl⟩))
    (fun os started H enc _ => FnFrameWhole_lifted os started H enc)

end Go.Proofs.Ytfdjlifemjlnmaa
