/- The law FnTag: a changed byte changes a tag. No condition. -/
import Derived.Test.YtadjjcjhlndpkaaLTg
namespace Go.Proofs.Ytadjjcjhlndpkaa
open Go Go.RowKit Go.ChangeShapes Go.WideShapes Go.ChangeAt Go.Joins

theorem len_copy {us xs : List Int} (h : Hid (us = [] ++ xs)) : us.length ≤ xs.length ∧ xs.length ≤ us.length := by
  rw [h.out]; simp
theorem get_copy {us xs : List Int} {K : Nat} {x y : Int} (h : Hid (us = [] ++ xs)) (hx : xs[K]? = some x) (hy : Hid (us[K]? = some y)) : x = y := by
  have := hy.out; rw [h.out, List.nil_append, hx] at this; exact Option.some.inj this
theorem FnTag_walk (A : Option Addr) (c : Nat) (bs : List Int) (M : Option Addr) (d : Nat) (ms : List Int) (w : World) (hr : RY w A c bs) (_ : RY w M d ms) : Calls Try.prog 7 #[.slice A bs.length c, .slice M ms.length d] w (PT w) := by
  by_cases hbig : 1048576 < bs.length
  · go_enter Try.func7, Try.ntmps7
    go_wp2_with fail
    go_ret
    exact ⟨rfl, Below.refl _ _⟩
  have hb : bs.length ≤ 1048576 := by omega
  by_cases hbig2 : 1048576 < ms.length
  · go_enter Try.func7, Try.ntmps7
    go_wp2_with fail
    go_ret
    exact ⟨rfl, Below.refl _ _⟩
  have hm : ms.length ≤ 1048576 := by omega
  clear hbig hbig2
  go_enter Try.func7, Try.ntmps7
  go_wp2_with fail
  refine (DrawTagOf_any _ _ _ _ hr).mono ?_
  rintro e w1 ⟨a, b, A1, c1, xs, rfl, ho1, hl1, hb1⟩
  have C1 := BX.new w1 #[.int .i64 a, .int .i64 b] 26
  have ho2 := ho1.alloc (.cells #[.int .i64 a, .int .i64 b] 26)
  go_wp2_with fail
  refine (TagOf_any _ _ _ _ _ _ ho2.ri).mono ?_
  rintro e w2 ⟨t, ht, rfl, hb2⟩
  have C2 := C1.below hb2
  have ho3 := ho2.below hb2
  have k0 := C2.cell 0
  have k1 := C2.cell 1
  simp at k0 k1
  go_wp2_with fail
  refine (sTagOf_any _ _ _ _ _ _ ho3.ri).mono ?_
  rintro e w3 ⟨t', ht', rfl, hb3⟩
  obtain rfl : t = t' := ht.out.trans ht'.out.symm
  clear k0 k1
  have C3 := C2.below hb3
  have ho4 := ho3.below hb3
  have k0 := C3.cell 0
  have k1 := C3.cell 1
  simp at k0 k1
  cases hok : tagOk a b xs
  · have hneg := tag_no ht.out hok
    go_wp2_with fail
    go_ret
    exact ⟨rfl, (by repeat (first | exact Below.refl _ _ | refine below_on ?_ (below_new _ _) | refine below_drewN ?_ _ | refine below_on ?_ (by assumption)))⟩
  obtain ⟨ht0, ht1⟩ := tag_yes ht.out hok
  obtain ⟨-, -, -, -, hby, -⟩ := tagOk_key hok
  by_cases hne : xs.length = 0
  · obtain rfl := List.eq_nil_of_length_eq_zero hne
    clear hne
    go_wp2_with fail
    go_ret
    exact ⟨rfl, (by repeat (first | exact Below.refl _ _ | refine below_on ?_ (below_new _ _) | refine below_drewN ?_ _ | refine below_on ?_ (by assumption)))⟩
  have hz : ((xs.length : Int) == 0) = false := by rw [beq_eq_false_iff_ne]; omega
  have hxl : 0 < xs.length := by omega
  clear hne
  have hmod : ms.length % xs.length < xs.length := Nat.mod_lt _ hxl
  obtain ⟨K, hK⟩ : ∃ K, K = ms.length % xs.length := ⟨_, rfl⟩
  rw [← hK] at hmod
  have hKi : (ms.length : Int) % (xs.length : Int) = (K : Int) := by omega
  have hz0 : ¬ xs.length = 0 := by omega
  obtain ⟨x, hx⟩ : ∃ x, xs[K]? = some x := ⟨_, List.getElem?_eq_getElem hmod⟩
  have hD := tag_change hok hx
  rw [← ht.out] at hD
  obtain ⟨hx0, hx1⟩ := byOk_at hby hx
  clear hK ht ht'
  have hs4 := C3.lt
  by_cases h255 : x = 255
  · subst h255
    go_wp2_with (at_builtin; refine wpl_app (xs := []) intT rfl _ _ rfl rfl (OI.empty w3 w3.heap.size (Nat.le_refl _)) rfl (ho4.ri.alloc _) (by simp; omega) (by simp) ?_; intro A6 c6 w6 us hu ho6 hg6 hat6; obtain ⟨hlu, hlu2⟩ := len_copy hu; obtain ⟨ad, y, rfl, hy, hcy⟩ := ho6.ri.get (k := K) (by omega); obtain rfl : 255 = y := get_copy hu hx hy; have hfr := (ho6.store K 0).2.2; have C6 : BX w6 w1.heap.size #[.int .i64 a, .int .i64 b] 26 := (hg6.block _ (by simp; omega) (by simp [blk]; omega)).trans (C3.alloc _); have C7 := C6.other (a := ad.add K) (.int .i64 254) (by rw [block_of_add]; have := ho6.lo; omega); have j0 := C7.cell 0; have j1 := C7.cell 1; simp at j0 j1)
    have ho8 := ho6.store K 254
    obtain ⟨vs, hvs, hvl, hov⟩ : ∃ vs, Hid (vs = us.set K 254) ∧ vs.length = us.length ∧ OI (w6.setCell (ad.add K) (.int .i64 254)) w3.heap.size (some ad) c6 vs := ⟨_, rfl, List.length_set, ho8.1⟩
    have hcall := TagOf_any a b (some ad) c6 vs (w6.setCell (ad.add K) (.int .i64 254)) hov.ri
    rw [hvl] at hcall
    refine hcall.mono ?_
    rintro e w7 ⟨t7, ht7, rfl, hb7⟩
    have hF7 : (t7 != t) = true := by
      rw [ht7.out, hvs.out, show us = xs from hu.out]
      simpa [nextB] using hD
    have hbF : Below w.heap.size w (w6.setCell (ad.add K) (.int .i64 254)) := by
      have h4 : Below w.heap.size w w3 := (by repeat (first | exact Below.refl _ _ | refine below_on ?_ (below_new _ _) | refine below_drewN ?_ _ | refine below_on ?_ (by assumption)))
      have h6 := below_grown (below_on h4 (below_new w3 (.cells #[] 3))) (OI.empty w3 w3.heap.size (Nat.le_refl _)) hg6 h4.size (by have := h4.size; simp; omega)
      exact below_gb (gb_trans (gb_of h6 (some ad.block)) ho8.2.1) (by have := ho6.lo; have := h4.size; omega)
    go_wp2_with fail
    go_ret
    exact ⟨rfl, below_on hbF hb7⟩
  · have hn : (x == 255) = false := by simp [h255]
    go_wp2_with (at_builtin; refine wpl_app (xs := []) intT rfl _ _ rfl rfl (OI.empty w3 w3.heap.size (Nat.le_refl _)) rfl (ho4.ri.alloc _) (by simp; omega) (by simp) ?_; intro A6 c6 w6 us hu ho6 hg6 hat6; obtain ⟨hlu, hlu2⟩ := len_copy hu; obtain ⟨ad, y, rfl, hy, hcy⟩ := ho6.ri.get (k := K) (by omega); obtain rfl : x = y := get_copy hu hx hy; have hfr := (ho6.store K 0).2.2; have C6 : BX w6 w1.heap.size #[.int .i64 a, .int .i64 b] 26 := (hg6.block _ (by simp; omega) (by simp [blk]; omega)).trans (C3.alloc _); have C7 := C6.other (a := ad.add K) (.int .i64 (x + 1)) (by rw [block_of_add]; have := ho6.lo; omega); have j0 := C7.cell 0; have j1 := C7.cell 1; simp at j0 j1)
    have ho8 := ho6.store K (x + 1)
    obtain ⟨vs, hvs, hvl, hov⟩ : ∃ vs, Hid (vs = us.set K (x + 1)) ∧ vs.length = us.length ∧ OI (w6.setCell (ad.add K) (.int .i64 (x + 1))) w3.heap.size (some ad) c6 vs := ⟨_, rfl, List.length_set, ho8.1⟩
    have hcall := TagOf_any a b (some ad) c6 vs (w6.setCell (ad.add K) (.int .i64 (x + 1))) hov.ri
    rw [hvl] at hcall
    refine hcall.mono ?_
    rintro e w7 ⟨t7, ht7, rfl, hb7⟩
    have hF7 : (t7 != t) = true := by
      rw [ht7.out, hvs.out, show us = xs from hu.out]
      simpa [nextB, h255] using hD
    have hbF : Below w.heap.size w (w6.setCell (ad.add K) (.int .i64 (x + 1))) := by
      have h4 : Below w.heap.size w w3 := (by repeat (first | exact Below.refl _ _ | refine below_on ?_ (below_new _ _) | refine below_drewN ?_ _ | refine below_on ?_ (by assumption)))
      have h6 := below_grown (below_on h4 (below_new w3 (.cells #[] 3))) (OI.empty w3 w3.heap.size (Nat.le_refl _)) hg6 h4.size (by have := h4.size; simp; omega)
      exact below_gb (gb_trans (gb_of h6 (some ad.block)) ho8.2.1) (by have := ho6.lo; have := h4.size; omega)
    go_wp2_with fail
    go_ret
    exact ⟨rfl, below_on hbF hb7⟩

set_option maxRecDepth 100000 in
theorem FnTag_lifted (os : Os) (started : os.Started) (H : Type) (enc : TypeId × Value → H) :
    ReturnsInHanded {} Try.checked os 7 .any (Rows.fnTagSpec.pre6 enc Try.prog Try.f7 Rows.fnTagRow.domain false) (Rows.fnTagSpec.post enc Try.prog Try.f7 false true false false) := by
  refine returnsInHanded_of_change (C := Try.checked) own started (by kernel_rfl) Try.func7
    (ChangeSpec.witness6 (enc := enc) (C := Try.checked) false ⟨#[], #[.slice none 0 0, .slice none 0 0], []⟩ 8 (by kernel_rfl) (by kernel_rfl) (by kernel_rfl) (by kernel_rfl)) ?_
  intro W base args ds gs before hval0 hW hcnd _
  have hval : ∀ (j : Nat) t v, Try.f7.params[j]? = some t → args[j]? = some v → Value.okWide Try.prog W .any base t v := hval0
  have hW' := hW
  obtain ⟨p, q, hA0, hV, rfl, hfz, hnd⟩ := hW
  have hA : DataW.TrodAll enc Try.prog W 0 (fun _ => true) true Try.f7.params.toList args.toList ds p := hA0
  rw [Try.params7] at hA hval
  obtain ⟨v0, vs0, d0, ds0, p0, q0, hargs, rfl, rfl, h0, r0⟩ := trodAll_cons hA
  obtain ⟨v1, vs1, d1, ds1, p1, q1, rfl, rfl, rfl, h1, r1⟩ := trodAll_cons r0
  obtain ⟨rfl, rfl, rfl⟩ := trodAll_nil r1
  obtain rfl : args = #[v0, v1] := by cases args; simp_all
  obtain ⟨rfl, rfl⟩ := trodVars_none hV
  have k0 := h0
  have lt0 : ∀ x ∈ p0, x.block < W.heap.size := by obtain ⟨m, hm⟩ := k0; exact DataW.trod_lt m _ _ _ hm
  obtain ⟨A0, c0, xs0, hv0, w0, wf0⟩ := open_row Try.underlying31 Try.underlying5 (by kernel_rfl) (hval 0 31 v0 rfl rfl) h0
  subst hv0
  have w0 : RY W A0 c0 xs0 := ⟨w0, fun b hb => bounds_u8 (wf0 b hb)⟩
  have k1 := h1
  have lt1 : ∀ x ∈ p1, x.block < W.heap.size := by obtain ⟨m, hm⟩ := k1; exact DataW.trod_lt m _ _ _ hm
  obtain ⟨A1, c1, xs1, hv1, w1, wf1⟩ := open_row Try.underlying31 Try.underlying5 (by kernel_rfl) (hval 1 31 v1 rfl rfl) h1
  subst hv1
  have w1 : RY W A1 c1 xs1 := ⟨w1, fun b hb => bounds_u8 (wf1 b hb)⟩
  clear hA0 hval0
  refine (FnTag_walk A0 c0 xs0 A1 c1 xs1 W w0 w1).mono fun e W' ⟨he, bel⟩ => ?_
  subst he
  exact ⟨_, rfl, _, _, _, [], _, [], hW', trodAll_mk1 (shut_bool Try.underlying4 _), (trodAll_cons_mk (Below.trod laidOut (by kernel_rfl) (of_decide_eq_true (by kernel_rfl)) k0 bel lt0) (trodAll_cons_mk (Below.trod laidOut (by kernel_rfl) (of_decide_eq_true (by kernel_rfl)) k1 bel lt1) trodAll_mk0)), rfl, bel.frame _, fun h => by cases h⟩

theorem FnTag_holds : Rows.FnTagSaid :=
  OpenClaim.holds_of_wide 7 Try.f7 rfl rfl rfl rfl rfl rfl rfl ⟨rfl, rfl, rfl, rfl, rfl⟩ rfl rfl rfl rfl rfl (by kernel_rfl) Try.func7 (by kernel_rfl)
    (of_decide_eq_true (by kernel_rfl)) (by unfold Func.isWrapper; first | (rw [if_pos (by decide +kernel)]; kernel_rfl) | (rw [if_neg (by decide +kernel)]; exact ⟨rfl, rfl⟩))
    (fun os started H enc _ => FnTag_lifted os started H enc)

end Go.Proofs.Ytadjjcjhlndpkaa
