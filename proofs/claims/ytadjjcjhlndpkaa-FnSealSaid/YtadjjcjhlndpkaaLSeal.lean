/- The law FnSeal: sealed bytes are opened. No condition. -/
import Derived.Test.YtadjjcjhlndpkaaDTg3
import Derived.Test.YtadjjcjhlndpkaaCMk
import Derived.Test.YtadjjcjhlndpkaaFr
import Derived.Test.YtadjjcjhlndpkaaExt
namespace Go.Proofs.Ytadjjcjhlndpkaa
open Go Go.RowKit Go.ChangeShapes Go.WideShapes Go.ChangeAt Go.Joins

theorem some_of {f : Option (List Int)} {ys : List Int} (h : Hid (ys = f.getD [])) (h' : Hid (true = f.isSome)) : f = some ys := by
  obtain ⟨x, rfl⟩ := Option.isSome_iff_exists.1 h'.out.symm
  rw [h.out]; rfl
theorem put_last {a b : Int} {xs ys : List Int} (h : sealPut a b xs = some ys) : ys.length ≤ xs.length + 1 ∧ xs.length + 1 ≤ ys.length ∧ ys[xs.length]? = some (tagOf a b xs) := by
  unfold sealPut at h
  split at h
  · rename_i hok
    injection h with h
    subst h
    exact ⟨by simp, by simp, by simp [tagOf, hok]⟩
  · cases h
theorem FnSeal_walk (A : Option Addr) (c : Nat) (bs : List Int) (w : World) (hr : RY w A c bs) : Calls Try.prog 13 #[.slice A bs.length c] w (PT w) := by
  by_cases hbig : 1048576 < bs.length
  · go_enter Try.func13, Try.ntmps13
    go_wp2_with fail
    go_ret
    exact ⟨rfl, Below.refl _ _⟩
  have hb : bs.length ≤ 1048576 := by omega
  clear hbig
  go_enter Try.func13, Try.ntmps13
  go_wp2_with fail
  refine (DrawSealPut_any _ _ _ _ hr).mono ?_
  rintro e w1 ⟨a, b, A1, c1, xs, rfl, ho1, hl1, hb1⟩
  have C1 := BX.new w1 #[.int .i64 a, .int .i64 b] 26
  have ho2 := ho1.alloc (.cells #[.int .i64 a, .int .i64 b] 26)
  go_wp2_with fail
  refine (SealPut_any _ _ _ _ _ _ ho2.ri (by omega)).mono ?_
  rintro e w2 ⟨A2, c2, ys, ok, hys, hok, hoy, rfl, hb2⟩
  have C2 := C1.below hb2
  have ho3 := ho2.below hb2
  have k0 := C2.cell 0
  have k1 := C2.cell 1
  simp at k0 k1
  go_wp2_with fail
  refine (sSealPut_any _ _ _ _ _ _ ho3.ri (by omega)).mono ?_
  rintro e w3 ⟨A3, c3, ys', ok', hys', hok', hoy', rfl, hb3⟩
  obtain rfl : ys = ys' := hys.out.trans hys'.out.symm
  obtain rfl : ok = ok' := hok.out.trans hok'.out.symm
  clear k0 k1
  have C3 := C2.below hb3
  have ho4 := ho3.below hb3
  have hoy3 := hoy.below hb3
  have k0 := C3.cell 0
  have k1 := C3.cell 1
  simp at k0 k1
  have hls : ys.length ≤ 20001 := by rw [hys.out]; exact Nat.le_trans sealPut_short (by omega)
  go_wp2_with fail
  refine (sameInts_any _ _ _ _ _ _ _ hoy3.ri hoy'.ri).mono ?_
  rintro e w4 ⟨q, hq, rfl, hb4⟩
  obtain rfl : q = true := hq.out.trans (by simp)
  clear k0 k1
  have C4 := C3.below hb4
  have ho5 := ho4.below hb4
  have hoy4 := hoy3.below hb4
  have hoy4' := hoy'.below hb4
  have k0 := C4.cell 0
  have k1 := C4.cell 1
  simp at k0 k1
  cases ok
  · go_wp2_with fail
    refine (sameInts_any _ _ _ _ _ _ _ hoy4.ri hoy4'.ri).mono ?_
    rintro e w5 ⟨q, hq, rfl, hb5⟩
    obtain rfl : q = true := hq.out.trans (by simp)
    go_wp2_with fail
    go_ret
    exact ⟨rfl, (by repeat (first | exact Below.refl _ _ | refine below_on ?_ (below_new _ _) | refine below_drewN ?_ _ | refine below_on ?_ (by assumption)))⟩
  have hF := some_of hys hok
  go_wp2_with fail
  refine (SealOpen_any _ _ _ _ _ _ hoy4.ri (by omega)).mono ?_
  rintro e w5 ⟨A5, c5, zs, ok5, hzs, hok5, hoz, rfl, hb5⟩
  have hF2 := seal_open hF
  rw [hF2] at hzs hok5
  obtain rfl : zs = xs := hzs.out
  obtain rfl : ok5 = true := hok5.out
  have ho6 := ho5.below hb5
  have C5 := C4.below hb5
  have hoy5 := hoy4.below hb5
  clear k0 k1
  have k0 := C5.cell 0
  have k1 := C5.cell 1
  simp at k0 k1
  obtain ⟨hl1', hl2', hlast⟩ := put_last hF
  obtain ⟨ad, t, rfl, ht, hct⟩ := hoy5.ri.get (k := zs.length) (by omega)
  have htt : t = tagOf a b zs := Option.some.inj (ht.out.symm.trans hlast)
  have hbe : ((ys.length : Int) == (zs.length : Int) + 1) = true := by rw [beq_iff_eq]; omega
  have hlt : zs.length < ys.length := by omega
  have hs5 := C5.lt
  have kk0 : ∀ s : Ext w5, s.val.cell? ⟨w1.heap.size, 0, none⟩ = some (.int .i64 a) := fun s => (s.bel.cell hs5).trans k0
  have kk1 : ∀ s : Ext w5, s.val.cell? ⟨w1.heap.size, 1, none⟩ = some (.int .i64 b) := fun s => (s.bel.cell hs5).trans k1
  have kk2 : ∀ s : Ext w5, s.val.cell? (ad.add zs.length) = some (.int .i64 t) := fun s => (s.bel.cell (by rw [block_of_add]; exact hoy5.hi)).trans hct
  have hsame : ∀ s : Ext w5, Calls Try.prog 35 #[.slice A5 zs.length c5, .slice A1 zs.length c1] s.val (PBb s.val true) := fun s => by
    have := sameInts_any A5 A1 c5 c1 zs zs s.val (hoz.ri.below s.bel) (ho6.ri.below s.bel)
    simpa using this
  have htag : ∀ s : Ext w5, Calls Try.prog 19 #[.agg #[.int .i64 a, .int .i64 b], .slice A1 zs.length c1] s.val (PNb s.val t) := fun s => htt ▸ TagOf_any a b A1 c1 zs s.val (ho6.ri.below s.bel)
  clear htt ht hlast hl1'
  go_wp2_with fail
  refine wp_region_ext (by kernel_rfl) (by kernel_rfl) ?_; (repeat (go_big_quiet_step (first | (go_at_call 35; exact ext_PBb (hsame _)) | (go_at_call 19; exact ext_PNb (htag _))))); refine wpQuiet_nil ?_; intro _ hw_; obtain ⟨sx, hw2_⟩ := hw_; subst hw2_
  go_wp2_with fail
  go_ret
  exact ⟨rfl, below_on (by repeat (first | exact Below.refl _ _ | refine below_on ?_ (below_new _ _) | refine below_drewN ?_ _ | refine below_on ?_ (by assumption))) sx.bel⟩

set_option maxRecDepth 100000 in
theorem FnSeal_lifted (os : Os) (started : os.Started) (H : Type) (enc : TypeId × Value → H) :
    ReturnsInHanded {} Try.checked os 13 .any (Rows.fnSealSpec.pre6 enc Try.prog Try.f13 Rows.fnSealRow.domain false) (Rows.fnSealSpec.post enc Try.prog Try.f13 false true false false) := by
  refine returnsInHanded_of_change (C := Try.checked) own started (by kernel_rfl) Try.func13
    (ChangeSpec.witness6 (enc := enc) (C := Try.checked) false ⟨#[], #[.slice none 0 0], []⟩ 8 (by kernel_rfl) (by kernel_rfl) (by kernel_rfl) (by kernel_rfl)) ?_
  intro W base args ds gs before hval0 hW hcnd _
  have hval : ∀ (j : Nat) t v, Try.f13.params[j]? = some t → args[j]? = some v → Value.okWide Try.prog W .any base t v := hval0
  have hW' := hW
  obtain ⟨p, q, hA0, hV, rfl, hfz, hnd⟩ := hW
  have hA : DataW.TrodAll enc Try.prog W 0 (fun _ => true) true Try.f13.params.toList args.toList ds p := hA0
  rw [Try.params13] at hA hval
  obtain ⟨v0, vs0, d0, ds0, p0, q0, hargs, rfl, rfl, h0, r0⟩ := trodAll_cons hA
  obtain ⟨rfl, rfl, rfl⟩ := trodAll_nil r0
  obtain rfl : args = #[v0] := by cases args; simp_all
  obtain ⟨rfl, rfl⟩ := trodVars_none hV
  have k0 := h0
  have lt0 : ∀ x ∈ p0, x.block < W.heap.size := by obtain ⟨m, hm⟩ := k0; exact DataW.trod_lt m _ _ _ hm
  obtain ⟨A0, c0, xs0, hv0, w0, wf0⟩ := open_row Try.underlying31 Try.underlying5 (by kernel_rfl) (hval 0 31 v0 rfl rfl) h0
  subst hv0
  have w0 : RY W A0 c0 xs0 := ⟨w0, fun b hb => bounds_u8 (wf0 b hb)⟩
  clear hA0 hval0
  refine (FnSeal_walk A0 c0 xs0 W w0).mono fun e W' ⟨he, bel⟩ => ?_
  subst he
  exact ⟨_, rfl, _, _, _, [], _, [], hW', trodAll_mk1 (shut_bool Try.underlying4 _), (trodAll_cons_mk (Below.trod laidOut (by kernel_rfl) (of_decide_eq_true (by kernel_rfl)) k0 bel lt0) trodAll_mk0), rfl, bel.frame _, fun h => by cases h⟩

theorem FnSeal_holds : Rows.FnSealSaid :=
  OpenClaim.holds_of_wide 13 Try.f13 rfl rfl rfl rfl rfl rfl rfl ⟨rfl, rfl, rfl, rfl, rfl⟩ rfl rfl rfl rfl rfl (by kernel_rfl) Try.func13 (by kernel_rfl)
    (of_decide_eq_true (by kernel_rfl)) (by unfold Func.isWrapper; first | (rw [if_pos (by decide +kernel)]; kernel_rfl) | (rw [if_neg (by decide +kernel)]; exact ⟨rfl, rfl⟩))
    (fun os started H enc _ => FnSeal_lifted os started H enc)

end Go.Proofs.Ytadjjcjhlndpkaa
