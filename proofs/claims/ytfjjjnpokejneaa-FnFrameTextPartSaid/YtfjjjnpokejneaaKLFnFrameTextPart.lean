/- The law FnFrameTextPart: symbols may be missing, whatever is drawn. No condition. -/
import Derived.Test.YtfjjjnpokejneaaGDa
import Derived.Test.YtfjjjnpokejneaaGMa
import Derived.Test.YtfjjjnpokejneaaGCj
namespace Go.Proofs.Ytfjjjnpokejneaa
open Go Go.RowKit Go.ChangeShapes Go.WideShapes Go.ChangeAt Go.Joins

set_option maxHeartbeats 1000000 in
theorem FnFrameTextPart_walk (A : Option Addr) (c : Nat) (bs : List Int) (A0 : Option Addr) (c0 : Nat) (bs2 : List Int) (w : World) (hr : RY w A c bs) (_ : RY w A0 c0 bs2) : Calls Try.prog 3 #[.slice A bs.length c, .slice A0 bs2.length c0] w (PT w) := by
  by_cases hbig : 1048576 < bs.length
  · go_enter Try.func3, Try.ntmps3
    go_wp2_with fail
    go_ret
    exact ⟨rfl, Below.refl _ _⟩
  have hb : bs.length ≤ 1048576 := by omega
  clear hbig
  by_cases hbig : 1048576 < bs2.length
  · go_enter Try.func3, Try.ntmps3
    go_wp2_with fail
    go_ret
    exact ⟨rfl, Below.refl _ _⟩
  have hbB : bs2.length ≤ 1048576 := by omega
  clear hbig
  go_enter Try.func3, Try.ntmps3
  go_wp2_with fail
  refine (DrawTextValid_any _ _ _ _ hr).mono ?_
  rintro e w1 ⟨A1, c1, xs, rfl, ho1, hl1, hb1⟩
  go_wp2_with fail
  refine (TextValid_any _ _ _ _ ho1.ri).mono ?_
  rintro e w' ⟨b, hb2, rfl, rfl⟩
  go_wp2_with fail
  refine (sTextValid_any _ _ _ _ ho1.ri).mono ?_
  rintro e w' ⟨b', hb3, rfl, rfl⟩
  obtain rfl : b = b' := hb2.out.trans hb3.out.symm
  have hne : (b != b) = false := by simp
  have heq : (b == b) = true := by simp
  clear hb3
  cases b with
  | false =>
    go_wp2_with fail
    go_ret
    exact ⟨rfl, hb1⟩
  | true =>
    have HOK : Hid (txOk xs = true) := hid hb2.out.symm
    clear hb2
    by_cases h0 : xs.length = 0
    · have hq0 : ((xs.length : Int) == 0) = true := by simp [h0]
      clear h0
      go_wp2_with fail
      go_ret
      exact ⟨rfl, hb1⟩
    have hq0 : ((xs.length : Int) == 0) = false := by rw [beq_eq_false_iff_ne]; omega
    obtain ⟨K, hK⟩ : ∃ K : Nat, (K : Int) = (bs2.length : Int) % (xs.length : Int) := ⟨bs2.length % xs.length, by rw [Int.natCast_emod]⟩
    have hKn : K < xs.length := by have := Int.emod_lt_of_pos (bs2.length : Int) (show (0 : Int) < (xs.length : Int) by omega); omega
    have hx0 : ¬ (xs.length : Int) = 0 := by omega
    clear h0
    go_upto_region 9 with fail
    rw [← hK]
    clear hK
    have hcap := ho1.ri.cap
    have hr1 := RI.takeAt (ho1.alloc (.cells #[] 3)).drew.ri (k := K) (by omega)
    have hKc0 : K ≤ c1 := by omega
    have hs1 := hb1.size
    obtain ⟨M, HM⟩ : ∃ M : Nat, Hid (M = K + 1) := ⟨_, hid rfl⟩
    have hMn : M ≤ xs.length := by have := HM.out; omega
    have hMc : M ≤ c1 := by omega
    have hw1 : IntKind.i64.wrap ((K : Int) + 1) = (M : Int) := by rw [HM.out]; exact IntWalk.i64_in _ (by omega)
    go_region_law (first | (refine stp_app2 intT rfl _ _ rfl us rfl rfl hou (xs.drop M) rfl (by simp) (RI.cutAt (k := M) ho7.ri (by omega)) (by simp; omega) (by simp at hs7; omega) ?_; intro A8 c8 w8 vs hv hov hg8 hat8; clear hat8) | (refine stp_app2 intT rfl _ _ rfl [] rfl rfl (OI.empty w1 w1.heap.size (Nat.le_refl _)).drew (xs.take K) rfl (by simp; omega) hr1 (by simp; omega) (by simp) ?_; intro A7 c7 w7 us hu hou hg7 hat7; clear hat7; have ho7 := OI.grown ((ho1.alloc (.cells #[] 3)).drew) hg7 (fun g hg e => by have := (OI.lt ho1 hg).2; simp [blk] at e; omega); have hs7 := hg7.size; have hlu : us.length ≤ xs.length := (by rw [hu.out]; simp; omega)))
    have hbw7 := OI.belowOwn (Below.drew (below_new w1 (.cells #[] 3))) (OI.empty w1 w1.heap.size (Nat.le_refl _)).drew hg7 (Nat.le_refl _)
    have hbw8 := OI.belowOwn hbw7 hou hg8 (Nat.le_refl _)
    have HV : Hid (txOk vs = true) := by
      obtain ⟨h1, h2⟩ := txOk_iff.1 HOK.out
      refine txOk_iff.2 ⟨?_, fun x hx => h2 x ?_⟩
      · have h3 := HM.out; rw [hv.out, hu.out, List.length_append, List.length_append, List.length_take, List.length_drop]; simp only [List.length_nil]; omega
      · rw [hv.out, hu.out] at hx
        simp only [List.nil_append, List.mem_append] at hx
        exact hx.elim List.mem_of_mem_take List.mem_of_mem_drop
    generalize (if c1 = M then A1 else _) = B1
    obtain ⟨z, hz⟩ : ∃ z : Int, z = (bs2.length : Int) % 40 := ⟨_, rfl⟩
    have hz0 : 0 ≤ z := by omega
    have hz1 : z ≤ 39 := by omega
    have HF : Hid ((frameF vs (1 + z)).isSome = true) := by unfold Hid frameF; rw [if_pos ⟨HV.out, inB_true.2 ⟨by omega, by omega⟩⟩]; rfl
    clear hv hu hou ho7 hg7 hg8 hr1 hbw7 hs7 hw1 hlu hMn hMc hcap
    go_wp2_with fail
    rw [← hz]
    refine (FramePack_any _ _ _ _ _ hov.ri).mono ?_
    rintro _ w9 ⟨A9, c9, zs, ok9, hzs, hok9, hoz, rfl, hb9⟩
    obtain rfl : ok9 = true := hok9.out.trans HF.out
    clear hzs hok9
    go_wp2_with fail
    refine (TextValid_any _ _ _ _ (hov.below hb9).ri).mono ?_
    rintro e w' ⟨b, hb2, rfl, rfl⟩
    obtain rfl : b = true := hb2.out.trans HV.out
    go_wp2_with fail
    go_ret
    exact ⟨rfl, below_on (below_on hb1 hbw8) hb9⟩

set_option maxRecDepth 100000 in
theorem FnFrameTextPart_lifted (os : Os) (started : os.Started) (H : Type) (enc : TypeId × Value → H) :
    ReturnsInHanded {} Try.checked os 3 .any (Rows.fnFrameTextPartSpec.pre6 enc Try.prog Try.f3 Rows.fnFrameTextPartRow.domain false) (Rows.fnFrameTextPartSpec.post enc Try.prog Try.f3 false true false false) := by
  refine returnsInHanded_of_change (C := Try.checked) own started (by kernel_rfl) Try.func3
    (ChangeSpec.witness6 (enc := enc) (C := Try.checked) false ⟨#[], #[.slice none 0 0, .slice none 0 0], []⟩ 8 (by kernel_rfl) (by kernel_rfl) (by kernel_rfl) (by kernel_rfl)) ?_
  intro W base args ds gs before hval0 hW hcnd _
  have hval : ∀ (j : Nat) t v, Try.f3.params[j]? = some t → args[j]? = some v → Value.okWide Try.prog W .any base t v := hval0
  have hW' := hW
  obtain ⟨p, q, hA0, hV, rfl, hfz, hnd⟩ := hW
  have hA : DataW.TrodAll enc Try.prog W 0 (fun _ => true) true Try.f3.params.toList args.toList ds p := hA0
  rw [Try.params3] at hA hval
  obtain ⟨v0, vs0, d0, ds0, p0, q0, hargs, rfl, rfl, h0, r0⟩ := trodAll_cons hA
  obtain ⟨v1, vs1, d1, ds1, p1, q1, rfl, rfl, rfl, h1, r1⟩ := trodAll_cons r0
  obtain ⟨rfl, rfl, rfl⟩ := trodAll_nil r1
  obtain rfl : args = #[v0, v1] := by cases args; simp_all
  obtain ⟨rfl, rfl⟩ := trodVars_none hV
  have k0 := h0
  have lt0 : ∀ x ∈ p0, x.block < W.heap.size := by obtain ⟨m, hm⟩ := k0; exact DataW.trod_lt m _ _ _ hm
  obtain ⟨A0, c0, xs0, hv0, w0, wf0⟩ := open_row Try.underlying22 Try.underlying5 (by kernel_rfl) (hval 0 22 v0 rfl rfl) h0
  subst hv0
  have w0 : RY W A0 c0 xs0 := ⟨w0, fun b hb => bounds_u8 (wf0 b hb)⟩
  have k1 := h1
  have lt1 : ∀ x ∈ p1, x.block < W.heap.size := by obtain ⟨m, hm⟩ := k1; exact DataW.trod_lt m _ _ _ hm
  obtain ⟨A1, c1, xs1, hv1, w1, wf1⟩ := open_row Try.underlying22 Try.underlying5 (by kernel_rfl) (hval 1 22 v1 rfl rfl) h1
  subst hv1
  have w1 : RY W A1 c1 xs1 := ⟨w1, fun b hb => bounds_u8 (wf1 b hb)⟩
  clear hA0 hval0
  refine (FnFrameTextPart_walk A0 c0 xs0 A1 c1 xs1 W w0 w1).mono fun e W' ⟨he, bel⟩ => ?_
  subst he
  exact ⟨_, rfl, _, _, _, [], _, [], hW', trodAll_mk1 (shut_bool Try.underlying4 _), (trodAll_cons_mk (Below.trod laidOut (by kernel_rfl) (of_decide_eq_true (by kernel_rfl)) k0 bel lt0) (trodAll_cons_mk (Below.trod laidOut (by kernel_rfl) (of_decide_eq_true (by kernel_rfl)) k1 bel lt1) trodAll_mk0)), rfl, bel.frame _, fun h => by cases h⟩

theorem FnFrameTextPart_holds : Rows.FnFrameTextPartSaid :=
  OpenClaim.holds_of_wide 3 Try.f3 rfl rfl rfl rfl rfl rfl rfl ⟨rfl, rfl, rfl, rfl, rfl⟩ rfl rfl rfl rfl rfl (by kernel_rfl) Try.func3 (by kernel_rfl)
    (of_decide_eq_true (by kernel_rfl)) (by unfold Func.isWrapper; first | (rw [if_pos (by decide +kernel)]; kernel_rfl) | (rw [if_neg (by decide +kernel)]; exact ⟨rfl, rfl⟩))
    (fun os started H enc _ => FnFrameTextPart_lifted os started H enc)

end Go.Proofs.Ytfjjjnpokejneaa
