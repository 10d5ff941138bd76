/- The law FnSealDamage: a damaged byte is noticed. No condition. -/
import Derived.Test.YtadjjcjhlndpkaaDTg3
import Derived.Test.YtadjjcjhlndpkaaCMk
import Derived.Test.YtadjjcjhlndpkaaFr
import Derived.Test.YtadjjcjhlndpkaaExt
namespace Go.Proofs.Ytadjjcjhlndpkaa
open Go Go.RowKit Go.ChangeShapes Go.WideShapes Go.ChangeAt Go.Joins

theorem some_of {f : Option (List Int)} {ys : List Int} (h : Hid (ys = f.getD [])) (h' : Hid (true = f.isSome)) : f = some ys := by
  obtain ⟨x, rfl⟩ := Option.isSome_iff_exists.1 h'.out.symm
  rw [h.out]; rfl
theorem len_copy {us xs : List Int} (h : Hid (us = [] ++ xs)) : us.length ≤ xs.length ∧ xs.length ≤ us.length := by
  rw [h.out]; simp
theorem get_copy {us xs : List Int} {K : Nat} {x y : Int} (h : Hid (us = [] ++ xs)) (hx : xs[K]? = some x) (hy : Hid (us[K]? = some y)) : x = y := by
  have := hy.out; rw [h.out, List.nil_append, hx] at this; exact Option.some.inj this
theorem open_byte {a b : Int} {xs ys : List Int} {K : Nat} {x : Int} (h : sealOpen a b xs = some ys) (hx : xs[K]? = some x) : 0 ≤ x ∧ x ≤ 255 := by
  obtain ⟨hp, -⟩ := open_seal h
  unfold sealPut at hp
  split at hp
  · rename_i hok
    injection hp with hp
    subst hp
    have ht := tagF_bd a b ys
    have hy := (tagOk_key hok).2.2.2.2.1
    have hall : byOk (ys ++ [tagF a b ys]) = true := by
      unfold byOk at hy ⊢
      rw [List.all_append, hy, List.all_cons, inB_true.2 (by omega)]; rfl
    exact byOk_at hall hx
  · cases hp
theorem sealOpen_short {a b : Int} {xs : List Int} : ((sealOpen a b xs).getD []).length ≤ xs.length := by
  unfold sealOpen
  split
  · simp
  · split <;> simp
theorem FnSealDamage_walk (A : Option Addr) (c : Nat) (bs : List Int) (M : Option Addr) (d : Nat) (ms : List Int) (w : World) (hr : RY w A c bs) (_ : RY w M d ms) : Calls Try.prog 14 #[.slice A bs.length c, .slice M ms.length d] w (PT w) := by
  by_cases hbig : 1048576 < bs.length
  · go_enter Try.func14, Try.ntmps14
    go_wp2_with fail
    go_ret
    exact ⟨rfl, Below.refl _ _⟩
  have hb : bs.length ≤ 1048576 := by omega
  by_cases hbig2 : 1048576 < ms.length
  · go_enter Try.func14, Try.ntmps14
    go_wp2_with fail
    go_ret
    exact ⟨rfl, Below.refl _ _⟩
  have hm : ms.length ≤ 1048576 := by omega
  clear hbig hbig2
  go_enter Try.func14, Try.ntmps14
  go_wp2_with fail
  refine (DrawSealOpen_any _ _ _ _ hr).mono ?_
  rintro e w1 ⟨a, b, A1, c1, xs, rfl, ho1, hl1, hb1⟩
  have C1 := BX.new w1 #[.int .i64 a, .int .i64 b] 26
  have ho2 := ho1.alloc (.cells #[.int .i64 a, .int .i64 b] 26)
  go_wp2_with fail
  refine (SealOpen_any _ _ _ _ _ _ ho2.ri (by omega)).mono ?_
  rintro e w2 ⟨A2, c2, ys, ok, hys, hok, hoy, rfl, hb2⟩
  have C2 := C1.below hb2
  have ho3 := ho2.below hb2
  have k0 := C2.cell 0
  have k1 := C2.cell 1
  simp at k0 k1
  go_wp2_with fail
  refine (sSealOpen_any _ _ _ _ _ _ ho3.ri (by omega)).mono ?_
  rintro e w3 ⟨A3, c3, ys', ok', hys', hok', hoy', rfl, hb3⟩
  obtain rfl : ys = ys' := hys.out.trans hys'.out.symm
  obtain rfl : ok = ok' := hok.out.trans hok'.out.symm
  clear k0 k1
  have C3 := C2.below hb3
  have ho4 := ho3.below hb3
  have hoy3 := hoy.below hb3
  have k0 := C3.cell 0
  have k1 := C3.cell 1
  simp at k0 k1
  have hls : ys.length ≤ 20001 := by rw [hys.out]; exact Nat.le_trans sealOpen_short (by omega)
  go_wp2_with fail
  refine (sameInts_any _ _ _ _ _ _ _ hoy3.ri hoy'.ri).mono ?_
  rintro e w4 ⟨q, hq, rfl, hb4⟩
  obtain rfl : q = true := hq.out.trans (by simp)
  clear k0 k1
  have C4 := C3.below hb4
  have ho5 := ho4.below hb4
  have hoy4 := hoy3.below hb4
  have hoy4' := hoy'.below hb4
  have k0 := C4.cell 0
  have k1 := C4.cell 1
  simp at k0 k1
  cases ok
  · go_wp2_with fail
    refine (sameInts_any _ _ _ _ _ _ _ hoy4.ri hoy4'.ri).mono ?_
    rintro e w5 ⟨q, hq, rfl, hb5⟩
    obtain rfl : q = true := hq.out.trans (by simp)
    go_wp2_with fail
    go_ret
    exact ⟨rfl, (by repeat (first | exact Below.refl _ _ | refine below_on ?_ (below_new _ _) | refine below_drewN ?_ _ | refine below_on ?_ (by assumption)))⟩
  have hF := some_of hys hok
  have hne := (open_seal hF).2
  have hxl : 0 < xs.length := List.length_pos_iff.2 hne
  have hmod : ms.length % xs.length < xs.length := Nat.mod_lt _ hxl
  obtain ⟨K, hK⟩ : ∃ K, K = ms.length % xs.length := ⟨_, rfl⟩
  rw [← hK] at hmod
  have hKi : (ms.length : Int) % (xs.length : Int) = (K : Int) := by omega
  have hz : ¬ xs.length = 0 := by omega
  obtain ⟨x, hx⟩ : ∃ x, xs[K]? = some x := ⟨_, List.getElem?_eq_getElem hmod⟩
  have hD := damage hF hx
  obtain ⟨hx0, hx1⟩ := open_byte hF hx
  clear hK hne hF hys hok hys' hok'
  have hs4 := C4.lt
  by_cases h255 : x = 255
  · subst h255
    go_wp2_with (at_builtin; refine wpl_app (xs := []) intT rfl _ _ rfl rfl (OI.empty w4 w4.heap.size (Nat.le_refl _)) rfl (ho5.ri.alloc _) (by simp; omega) (by simp) ?_; intro A6 c6 w6 us hu ho6 hg6 hat6; obtain ⟨hlu, hlu2⟩ := len_copy hu; obtain ⟨ad, y, rfl, hy, hcy⟩ := ho6.ri.get (k := K) (by omega); obtain rfl : 255 = y := get_copy hu hx hy; have hfr := (ho6.store K 0).2.2; have C6 : BX w6 w1.heap.size #[.int .i64 a, .int .i64 b] 26 := (hg6.block _ (by simp; omega) (by simp [blk]; omega)).trans (C4.alloc _); have C7 := C6.other (a := ad.add K) (.int .i64 254) (by rw [block_of_add]; have := ho6.lo; omega); have j0 := C7.cell 0; have j1 := C7.cell 1; simp at j0 j1)
    have ho8 := ho6.store K 254
    obtain ⟨vs, hvs, hvl, hov⟩ : ∃ vs, Hid (vs = us.set K 254) ∧ vs.length = us.length ∧ OI (w6.setCell (ad.add K) (.int .i64 254)) w4.heap.size (some ad) c6 vs := ⟨_, rfl, List.length_set, ho8.1⟩
    have hcall := SealOpen_any a b (some ad) c6 vs (w6.setCell (ad.add K) (.int .i64 254)) hov.ri (by omega)
    rw [hvl] at hcall
    refine hcall.mono ?_
    rintro e w7 ⟨A7, c7, zs, ok7, hzs, hok7, hoz, rfl, hb7⟩
    obtain rfl : ok7 = false := by
      rw [hok7.out, hvs.out, show us = xs from hu.out]
      simpa [nextB] using hD
    have hbF : Below w.heap.size w (w6.setCell (ad.add K) (.int .i64 254)) := by
      have h4 : Below w.heap.size w w4 := (by repeat (first | exact Below.refl _ _ | refine below_on ?_ (below_new _ _) | refine below_drewN ?_ _ | refine below_on ?_ (by assumption)))
      have h6 := below_grown (below_on h4 (below_new w4 (.cells #[] 3))) (OI.empty w4 w4.heap.size (Nat.le_refl _)) hg6 h4.size (by have := h4.size; simp; omega)
      exact below_gb (gb_trans (gb_of h6 (some ad.block)) ho8.2.1) (by have := ho6.lo; have := h4.size; omega)
    go_wp2_with fail
    go_ret
    exact ⟨rfl, below_on hbF hb7⟩
  · have hn : (x == 255) = false := by simp [h255]
    go_wp2_with (at_builtin; refine wpl_app (xs := []) intT rfl _ _ rfl rfl (OI.empty w4 w4.heap.size (Nat.le_refl _)) rfl (ho5.ri.alloc _) (by simp; omega) (by simp) ?_; intro A6 c6 w6 us hu ho6 hg6 hat6; obtain ⟨hlu, hlu2⟩ := len_copy hu; obtain ⟨ad, y, rfl, hy, hcy⟩ := ho6.ri.get (k := K) (by omega); obtain rfl : x = y := get_copy hu hx hy; have hfr := (ho6.store K 0).2.2; have C6 : BX w6 w1.heap.size #[.int .i64 a, .int .i64 b] 26 := (hg6.block _ (by simp; omega) (by simp [blk]; omega)).trans (C4.alloc _); have C7 := C6.other (a := ad.add K) (.int .i64 (x + 1)) (by rw [block_of_add]; have := ho6.lo; omega); have j0 := C7.cell 0; have j1 := C7.cell 1; simp at j0 j1)
    have ho8 := ho6.store K (x + 1)
    obtain ⟨vs, hvs, hvl, hov⟩ : ∃ vs, Hid (vs = us.set K (x + 1)) ∧ vs.length = us.length ∧ OI (w6.setCell (ad.add K) (.int .i64 (x + 1))) w4.heap.size (some ad) c6 vs := ⟨_, rfl, List.length_set, ho8.1⟩
    have hcall := SealOpen_any a b (some ad) c6 vs (w6.setCell (ad.add K) (.int .i64 (x + 1))) hov.ri (by omega)
    rw [hvl] at hcall
    refine hcall.mono ?_
    rintro e w7 ⟨A7, c7, zs, ok7, hzs, hok7, hoz, rfl, hb7⟩
    obtain rfl : ok7 = false := by
      rw [hok7.out, hvs.out, show us = xs from hu.out]
      simpa [nextB, h255] using hD
    have hbF : Below w.heap.size w (w6.setCell (ad.add K) (.int .i64 (x + 1))) := by
      have h4 : Below w.heap.size w w4 := (by repeat (first | exact Below.refl _ _ | refine below_on ?_ (below_new _ _) | refine below_drewN ?_ _ | refine below_on ?_ (by assumption)))
      have h6 := below_grown (below_on h4 (below_new w4 (.cells #[] 3))) (OI.empty w4 w4.heap.size (Nat.le_refl _)) hg6 h4.size (by have := h4.size; simp; omega)
      exact below_gb (gb_trans (gb_of h6 (some ad.block)) ho8.2.1) (by have := ho6.lo; have := h4.size; omega)
    go_wp2_with fail
    go_ret
    exact ⟨rfl, below_on hbF hb7⟩

set_option maxRecDepth 100000 in
theorem FnSealDamage_lifted (os : Os) (started : os.Started) (H : Type) (enc : TypeId × Value → H) :
    ReturnsInHanded {} Try.checked os 14 .any (Rows.fnSealDamageSpec.pre6 enc Try.prog Try.f14 Rows.fnSealDamageRow.domain false) (Rows.fnSealDamageSpec.post enc Try.prog Try.f14 false true false false) := by
  refine returnsInHanded_of_change (C := Try.checked) own started (by kernel_rfl) Try.func14
    (ChangeSpec.witness6 (enc := enc) (C := Try.checked) false ⟨#[], #[.slice none 0 0, .slice none 0 0], []⟩ 8 (by kernel_rfl) (by kernel_rfl) (by kernel_rfl) (by kernel_rfl)) ?_
  intro W base args ds gs before hval0 hW hcnd _
  have hval : ∀ (j : Nat) t v, Try.f14.params[j]? = some t → args[j]? = some v → Value.okWide Try.prog W .any base t v := hval0
  have hW' := hW
  obtain ⟨p, q, hA0, hV, rfl, hfz, hnd⟩ := hW
  have hA : DataW.TrodAll enc Try.prog W 0 (fun _ => true) true Try.f14.params.toList args.toList ds p := hA0
  rw [Try.params14] at hA hval
  obtain ⟨v0, vs0, d0, ds0, p0, q0, hargs, rfl, rfl, h0, r0⟩ := trodAll_cons hA
  obtain ⟨v1, vs1, d1, ds1, p1, q1, rfl, rfl, rfl, h1, r1⟩ := trodAll_cons r0
  obtain ⟨rfl, rfl, rfl⟩ := trodAll_nil r1
  obtain rfl : args = #[v0, v1] := by cases args; simp_all
  obtain ⟨rfl, rfl⟩ := trodVars_none hV
  have k0 := h0
  have lt0 : ∀ x ∈ p0, x.block < W.heap.size := by obtain ⟨m, hm⟩ := k0; exact DataW.trod_lt m _ _ _ hm
  obtain ⟨A0, c0, xs0, hv0, w0, wf0⟩ := open_row Try.underlying31 Try.underlying5 (by kernel_rfl) (hval 0 31 v0 rfl rfl) h0
  subst hv0
  have w0 : RY W A0 c0 xs0 := ⟨w0, fun b hb => bounds_u8 (wf0 b hb)⟩
  have k1 := h1
  have lt1 : ∀ x ∈ p1, x.block < W.heap.size := by obtain ⟨m, hm⟩ := k1; exact DataW.trod_lt m _ _ _ hm
  obtain ⟨A1, c1, xs1, hv1, w1, wf1⟩ := open_row Try.underlying31 Try.underlying5 (by kernel_rfl) (hval 1 31 v1 rfl rfl) h1
  subst hv1
  have w1 : RY W A1 c1 xs1 := ⟨w1, fun b hb => bounds_u8 (wf1 b hb)⟩
  clear hA0 hval0
  refine (FnSealDamage_walk A0 c0 xs0 A1 c1 xs1 W w0 w1).mono fun e W' ⟨he, bel⟩ => ?_
  subst he
  exact ⟨_, rfl, _, _, _, [], _, [], hW', trodAll_mk1 (shut_bool Try.underlying4 _), (trodAll_cons_mk (Below.trod laidOut (by kernel_rfl) (of_decide_eq_true (by kernel_rfl)) k0 bel lt0) (trodAll_cons_mk (Below.trod laidOut (by kernel_rfl) (of_decide_eq_true (by kernel_rfl)) k1 bel lt1) trodAll_mk0)), rfl, bel.frame _, fun h => by cases h⟩

theorem FnSealDamage_holds : Rows.FnSealDamageSaid :=
  OpenClaim.holds_of_wide 14 Try.f14 rfl rfl rfl rfl rfl rfl rfl ⟨rfl, rfl, rfl, rfl, rfl⟩ rfl rfl rfl rfl rfl (by kernel_rfl) Try.func14 (by kernel_rfl)
    (of_decide_eq_true (by kernel_rfl)) (by unfold Func.isWrapper; first | (rw [if_pos (by decide +kernel)]; kernel_rfl) | (rw [if_neg (by decide +kernel)]; exact ⟨rfl, rfl⟩))
    (fun os started H enc _ => FnSealDamage_lifted os started H enc)

end Go.Proofs.Ytadjjcjhlndpkaa
