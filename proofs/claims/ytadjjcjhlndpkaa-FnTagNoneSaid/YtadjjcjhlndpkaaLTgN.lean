/- The law FnTagNone: tags of what is drawn. No condition. -/
import Derived.Test.YtadjjcjhlndpkaaLTg
namespace Go.Proofs.Ytadjjcjhlndpkaa
open Go Go.RowKit Go.ChangeShapes Go.WideShapes Go.ChangeAt Go.Joins

set_option maxHeartbeats 4000000 in
theorem FnTagNone_walk (A : Option Addr) (c : Nat) (bs : List Int) (w : World) (hr : RY w A c bs) : Calls Try.prog 9 #[.slice A bs.length c] w (PT w) := by
  by_cases hbig : 1048576 < bs.length
  · go_enter Try.func9, Try.ntmps9
    go_wp2_with fail
    go_ret
    exact ⟨rfl, Below.refl _ _⟩
  have hb : bs.length ≤ 1048576 := by omega
  go_enter Try.func9, Try.ntmps9
  go_wp2_with fail
  refine (DrawTagOf_any _ _ _ _ hr).mono ?_
  rintro e w1 ⟨a, b, A1, c1, xs, rfl, ho1, hl1, hb1⟩
  have C1 := BX.new w1 #[.int .i64 a, .int .i64 b] 26
  have ho2 := ho1.alloc (.cells #[.int .i64 a, .int .i64 b] 26)
  go_wp2_with fail
  refine (TagOf_any _ _ _ _ _ _ ho2.ri).mono ?_
  rintro e w2 ⟨t, ht, rfl, hb2⟩
  have C2 := C1.below hb2
  have ho3 := ho2.below hb2
  have k0 := C2.cell 0
  have k1 := C2.cell 1
  simp at k0 k1
  go_wp2_with fail
  refine (sTagOf_any _ _ _ _ _ _ ho3.ri).mono ?_
  rintro e w3 ⟨t', ht', rfl, hb3⟩
  obtain rfl : t = t' := ht.out.trans ht'.out.symm
  clear k0 k1
  have C3 := C2.below hb3
  have ho4 := ho3.below hb3
  have k0 := C3.cell 0
  have k1 := C3.cell 1
  simp at k0 k1
  cases hok : tagOk a b xs
  · have hneg := tag_no ht.out hok
    go_wp2_with fail
    go_ret
    exact ⟨rfl, (by repeat (first | exact Below.refl _ _ | refine below_on ?_ (below_new _ _) | refine below_drewN ?_ _ | refine below_on ?_ (by assumption)))⟩
  obtain ⟨ht0, ht1⟩ := tag_yes ht.out hok
  have hnil := tag_nil hok
  have hzero := tag_zero hok
  obtain ⟨ha0, ha1, hb0, hb1', -, -⟩ := tagOk_key hok
  have hs3 := C3.lt
  have r0 : IntKind.i64.wrap (1 + b) = 1 + b := by rw [IntKind.wrap_i64]; omega
  have r1 : IntKind.i64.wrap (a + b) = a + b := by rw [IntKind.wrap_i64]; omega
  have r2 : (1 + b).tmod 251 = (1 + b) % 251 := Int.tmod_eq_emod_of_nonneg (by omega)
  have r3 : (a + b).tmod 251 = (a + b) % 251 := Int.tmod_eq_emod_of_nonneg (by omega)
  have q0 : ∀ o : Obj, (w3.alloc o).cell? ⟨w1.heap.size, 0, none⟩ = some (.int .i64 a) := fun o => ((below_new w3 o).cell hs3).trans k0
  have q1 : ∀ o : Obj, (w3.alloc o).cell? ⟨w1.heap.size, 1, none⟩ = some (.int .i64 b) := fun o => ((below_new w3 o).cell hs3).trans k1
  have hnilr : ∀ w' : World, RI w' (some ⟨w3.heap.size, 0, none⟩) 0 [] := fun w' => RG.nil w' 1 _ 0 (by unfold maxLen; omega)
  go_wp2_with fail
  go_region_held3 (fun w' => w'.cell? ⟨w1.heap.size, 0, none⟩ = some (.int .i64 a) ∧ w'.cell? ⟨w1.heap.size, 1, none⟩ = some (.int .i64 b)) (first | go_keep | exact ⟨by assumption, by assumption⟩) (first | (go_at_call 19; refine (TagOf_any a b _ _ [0] _ (RI.one w4 0)).mono ?_; rintro e w5 ⟨t5, ht5, rfl, hb5⟩; obtain rfl : t5 = (a + b) % 251 := ht5.out.trans hzero; have j0 : w5.cell? ⟨w1.heap.size, 0, none⟩ = some (.int .i64 a) := (hb5.cell (by simp; omega)).trans (p0 _); have j1 : w5.cell? ⟨w1.heap.size, 1, none⟩ = some (.int .i64 b) := (hb5.cell (by simp; omega)).trans (p1 _)) | (go_at_call 19; refine (TagOf_any a b _ _ [] _ (hnilr _)).mono ?_; rintro e w4 ⟨t4, ht4, rfl, hb4⟩; obtain rfl : t4 = (1 + b) % 251 := ht4.out.trans hnil; have hs4 : w1.heap.size < w4.heap.size := (by have := hb4.size; simp at this; omega); have j0 : w4.cell? ⟨w1.heap.size, 0, none⟩ = some (.int .i64 a) := (hb4.cell (by simp; omega)).trans (q0 _); have j1 : w4.cell? ⟨w1.heap.size, 1, none⟩ = some (.int .i64 b) := (hb4.cell (by simp; omega)).trans (q1 _); have p0 : ∀ o : Obj, (w4.alloc o).cell? ⟨w1.heap.size, 0, none⟩ = some (.int .i64 a) := fun o => ((below_new w4 o).cell hs4).trans j0; have p1 : ∀ o : Obj, (w4.alloc o).cell? ⟨w1.heap.size, 1, none⟩ = some (.int .i64 b) := fun o => ((below_new w4 o).cell hs4).trans j1))
  have hw3 : Below w.heap.size w w3 := (by repeat (first | exact Below.refl _ _ | refine below_on ?_ (below_new _ _) | refine below_drewN ?_ _ | refine below_on ?_ (by assumption)))
  go_wp2_with fail
  go_ret
  refine ⟨by simp, ?_⟩
  exact below_on (below_on (below_on (Below.drew (below_on hw3 (below_new w3 _))) hb4) (below_new w4 _)) hb5

set_option maxRecDepth 100000 in
theorem FnTagNone_lifted (os : Os) (started : os.Started) (H : Type) (enc : TypeId × Value → H) :
    ReturnsInHanded {} Try.checked os 9 .any (Rows.fnTagNoneSpec.pre6 enc Try.prog Try.f9 Rows.fnTagNoneRow.domain false) (Rows.fnTagNoneSpec.post enc Try.prog Try.f9 false true false false) := by
  refine returnsInHanded_of_change (C := Try.checked) own started (by kernel_rfl) Try.func9
    (ChangeSpec.witness6 (enc := enc) (C := Try.checked) false ⟨#[], #[.slice none 0 0], []⟩ 8 (by kernel_rfl) (by kernel_rfl) (by kernel_rfl) (by kernel_rfl)) ?_
  intro W base args ds gs before hval0 hW hcnd _
  have hval : ∀ (j : Nat) t v, Try.f9.params[j]? = some t → args[j]? = some v → Value.okWide Try.prog W .any base t v := hval0
  have hW' := hW
  obtain ⟨p, q, hA0, hV, rfl, hfz, hnd⟩ := hW
  have hA : DataW.TrodAll enc Try.prog W 0 (fun _ => true) true Try.f9.params.toList args.toList ds p := hA0
  rw [Try.params9] at hA hval
  obtain ⟨v0, vs0, d0, ds0, p0, q0, hargs, rfl, rfl, h0, r0⟩ := trodAll_cons hA
  obtain ⟨rfl, rfl, rfl⟩ := trodAll_nil r0
  obtain rfl : args = #[v0] := by cases args; simp_all
  obtain ⟨rfl, rfl⟩ := trodVars_none hV
  have k0 := h0
  have lt0 : ∀ x ∈ p0, x.block < W.heap.size := by obtain ⟨m, hm⟩ := k0; exact DataW.trod_lt m _ _ _ hm
  obtain ⟨A0, c0, xs0, hv0, w0, wf0⟩ := open_row Try.underlying31 Try.underlying5 (by kernel_rfl) (hval 0 31 v0 rfl rfl) h0
  subst hv0
  have w0 : RY W A0 c0 xs0 := ⟨w0, fun b hb => bounds_u8 (wf0 b hb)⟩
  clear hA0 hval0
  refine (FnTagNone_walk A0 c0 xs0 W w0).mono fun e W' ⟨he, bel⟩ => ?_
  subst he
  exact ⟨_, rfl, _, _, _, [], _, [], hW', trodAll_mk1 (shut_bool Try.underlying4 _), (trodAll_cons_mk (Below.trod laidOut (by kernel_rfl) (of_decide_eq_true (by kernel_rfl)) k0 bel lt0) trodAll_mk0), rfl, bel.frame _, fun h => by cases h⟩

theorem FnTagNone_holds : Rows.FnTagNoneSaid :=
  OpenClaim.holds_of_wide 9 Try.f9 rfl rfl rfl rfl rfl rfl rfl ⟨rfl, rfl, rfl, rfl, rfl⟩ rfl rfl rfl rfl rfl (by kernel_rfl) Try.func9 (by kernel_rfl)
    (of_decide_eq_true (by kernel_rfl)) (by unfold Func.isWrapper; first | (rw [if_pos (by decide +kernel)]; kernel_rfl) | (rw [if_neg (by decide +kernel)]; exact ⟨rfl, rfl⟩))
    (fun os started H enc _ => FnTagNone_lifted os started H enc)

end Go.Proofs.Ytadjjcjhlndpkaa
