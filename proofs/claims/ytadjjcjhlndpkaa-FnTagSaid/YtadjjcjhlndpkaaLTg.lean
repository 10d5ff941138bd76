/- The law FnTagKey: tags of what is drawn. No condition. -/
import Derived.Test.YtadjjcjhlndpkaaDTg3
import Derived.Test.YtadjjcjhlndpkaaFr
import Derived.Test.YtadjjcjhlndpkaaExt
namespace Go.Proofs.Ytadjjcjhlndpkaa
open Go Go.RowKit Go.ChangeShapes Go.WideShapes Go.ChangeAt Go.Joins

theorem tag_no {a b t : Int} {xs : List Int} (h : t = tagOf a b xs) (hok : tagOk a b xs = false) : t < 0 := by rw [h]; exact tagOf_neg.2 hok
theorem tag_yes {a b t : Int} {xs : List Int} (h : t = tagOf a b xs) (hok : tagOk a b xs = true) : 0 ≤ t ∧ t ≤ 250 := by rw [h]; unfold tagOf; rw [if_pos hok]; exact tagF_bd a b xs

theorem FnTagKey_walk (A : Option Addr) (c : Nat) (bs : List Int) (w : World) (hr : RY w A c bs) : Calls Try.prog 8 #[.slice A bs.length c] w (PT w) := by
  by_cases hbig : 1048576 < bs.length
  · go_enter Try.func8, Try.ntmps8
    go_wp2_with fail
    go_ret
    exact ⟨rfl, Below.refl _ _⟩
  have hb : bs.length ≤ 1048576 := by omega
  go_enter Try.func8, Try.ntmps8
  go_wp2_with fail
  refine (DrawTagOf_any _ _ _ _ hr).mono ?_
  rintro e w1 ⟨a, b, A1, c1, xs, rfl, ho1, hl1, hb1⟩
  have C1 := BX.new w1 #[.int .i64 a, .int .i64 b] 26
  have ho2 := ho1.alloc (.cells #[.int .i64 a, .int .i64 b] 26)
  go_wp2_with fail
  refine (TagOf_any _ _ _ _ _ _ ho2.ri).mono ?_
  rintro e w2 ⟨t, ht, rfl, hb2⟩
  have C2 := C1.below hb2
  have ho3 := ho2.below hb2
  have k0 := C2.cell 0
  have k1 := C2.cell 1
  simp at k0 k1
  go_wp2_with fail
  refine (sTagOf_any _ _ _ _ _ _ ho3.ri).mono ?_
  rintro e w3 ⟨t', ht', rfl, hb3⟩
  obtain rfl : t = t' := ht.out.trans ht'.out.symm
  clear k0 k1
  have C3 := C2.below hb3
  have ho4 := ho3.below hb3
  have k0 := C3.cell 0
  have k1 := C3.cell 1
  simp at k0 k1
  cases hok : tagOk a b xs
  · have hneg := tag_no ht.out hok
    go_wp2_with fail
    go_ret
    exact ⟨rfl, (by repeat (first | exact Below.refl _ _ | refine below_on ?_ (below_new _ _) | refine below_drewN ?_ _ | refine below_on ?_ (by assumption)))⟩
  obtain ⟨ht0, ht1⟩ := tag_yes ht.out hok
  obtain ⟨-, -, hb0, hb1', -, -⟩ := tagOk_key hok
  by_cases hB : b = 250
  · subst hB
    go_wp2_with fail
    go_ret
    exact ⟨rfl, (by repeat (first | exact Below.refl _ _ | refine below_on ?_ (below_new _ _) | refine below_drewN ?_ _ | refine below_on ?_ (by assumption)))⟩
  have hB2 : b < 250 := by omega
  have hk := tag_key hok hB2
  have hnb : (b == 250) = false := by simp [hB]
  clear hB
  have hs3 := C3.lt
  have ho6 : RI (w3.alloc (.cells #[.int .i64 a, .int .i64 (b + 1)] 26)) A1 c1 xs := RI.alloc ho4.ri _
  go_wp2_with fail
  refine (TagOf_any _ _ _ _ _ _ ho6).mono ?_
  rintro e w4 ⟨t4, ht4, rfl, hb4⟩
  obtain rfl : t4 = (t + 1) % 251 := ht4.out.trans (hk.trans (by rw [ht.out]))
  go_wp2_with fail
  go_ret
  exact ⟨by simp, (by repeat (first | exact Below.refl _ _ | refine below_on ?_ (below_new _ _) | refine below_drewN ?_ _ | refine below_on ?_ (by assumption)))⟩

set_option maxRecDepth 100000 in
theorem FnTagKey_lifted (os : Os) (started : os.Started) (H : Type) (enc : TypeId × Value → H) :
    ReturnsInHanded {} Try.checked os 8 .any (Rows.fnTagKeySpec.pre6 enc Try.prog Try.f8 Rows.fnTagKeyRow.domain false) (Rows.fnTagKeySpec.post enc Try.prog Try.f8 false true false false) := by
  refine returnsInHanded_of_change (C := Try.checked) own started (by kernel_rfl) Try.func8
    (ChangeSpec.witness6 (enc := enc) (C := Try.checked) false ⟨#[], #[.slice none 0 0], []⟩ 8 (by kernel_rfl) (by kernel_rfl) (by kernel_rfl) (by kernel_rfl)) ?_
  intro W base args ds gs before hval0 hW hcnd _
  have hval : ∀ (j : Nat) t v, Try.f8.params[j]? = some t → args[j]? = some v → Value.okWide Try.prog W .any base t v := hval0
  have hW' := hW
  obtain ⟨p, q, hA0, hV, rfl, hfz, hnd⟩ := hW
  have hA : DataW.TrodAll enc Try.prog W 0 (fun _ => true) true Try.f8.params.toList args.toList ds p := hA0
  rw [Try.params8] at hA hval
  obtain ⟨v0, vs0, d0, ds0, p0, q0, hargs, rfl, rfl, h0, r0⟩ := trodAll_cons hA
  obtain ⟨rfl, rfl, rfl⟩ := trodAll_nil r0
  obtain rfl : args = #[v0] := by cases args; simp_all
  obtain ⟨rfl, rfl⟩ := trodVars_none hV
  have k0 := h0
  have lt0 : ∀ x ∈ p0, x.block < W.heap.size := by obtain ⟨m, hm⟩ := k0; exact DataW.trod_lt m _ _ _ hm
  obtain ⟨A0, c0, xs0, hv0, w0, wf0⟩ := open_row Try.underlying31 Try.underlying5 (by kernel_rfl) (hval 0 31 v0 rfl rfl) h0
  subst hv0
  have w0 : RY W A0 c0 xs0 := ⟨w0, fun b hb => bounds_u8 (wf0 b hb)⟩
  clear hA0 hval0
  refine (FnTagKey_walk A0 c0 xs0 W w0).mono fun e W' ⟨he, bel⟩ => ?_
  subst he
  exact ⟨_, rfl, _, _, _, [], _, [], hW', trodAll_mk1 (shut_bool Try.underlying4 _), (trodAll_cons_mk (Below.trod laidOut (by kernel_rfl) (of_decide_eq_true (by kernel_rfl)) k0 bel lt0) trodAll_mk0), rfl, bel.frame _, fun h => by cases h⟩

theorem FnTagKey_holds : Rows.FnTagKeySaid :=
  OpenClaim.holds_of_wide 8 Try.f8 rfl rfl rfl rfl rfl rfl rfl ⟨rfl, rfl, rfl, rfl, rfl⟩ rfl rfl rfl rfl rfl (by kernel_rfl) Try.func8 (by kernel_rfl)
    (of_decide_eq_true (by kernel_rfl)) (by unfold Func.isWrapper; first | (rw [if_pos (by decide +kernel)]; kernel_rfl) | (rw [if_neg (by decide +kernel)]; exact ⟨rfl, rfl⟩))
    (fun os started H enc _ => FnTagKey_lifted os started H enc)

end Go.Proofs.Ytadjjcjhlndpkaa
