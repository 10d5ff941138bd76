/- The law FnFrameOpen: what is read has its sums, whatever is drawn. No condition. -/
import Derived.Test.YtfdjlifemjlnmaaGDa
import Derived.Test.YtfdjlifemjlnmaaGCk
import Derived.Test.YtfdjlifemjlnmaaGPb
import Derived.Test.YtfdjlifemjlnmaaGMa
namespace Go.Proofs.Ytfdjlifemjlnmaa
open Go Go.RowKit Go.ChangeShapes Go.WideShapes Go.ChangeAt Go.Joins

set_option maxHeartbeats 1000000 in
theorem FnFrameOpen_walk (A : Option Addr) (c : Nat) (bs : List Int) (w : World) (hr : RY w A c bs) : Calls Try.prog 13 #[.slice A bs.length c] w (PT w) := by
  by_cases hbig : 1048576 < bs.length
  · go_enter Try.func13, Try.ntmps13
    go_wp2_with fail
    go_ret
    exact ⟨rfl, Below.refl _ _⟩
  have hb : bs.length ≤ 1048576 := by omega
  clear hbig
  go_enter Try.func13, Try.ntmps13
  go_wp2_with fail
  refine (DrawFrameOpen_any _ _ _ _ hr).mono ?_
  rintro e w1 ⟨A1, c1, xs, most, rfl, ho1, hl1, hmlo, hmhi, hb1⟩
  go_wp2_with fail
  refine (FrameOpen_any _ _ _ _ _ ho1.ri (by omega)).mono ?_
  rintro e w2 ⟨A2, c2, ys, n, hys, hn, hoy, rfl, hb2⟩
  have ho2 := ho1.below hb2
  go_wp2_with fail
  refine (sFrameOpen_any _ _ _ _ _ ho2.ri (by omega)).mono ?_
  rintro e w3 ⟨A3, c3, ys', n', hys', hn', hoy', rfl, hb3⟩
  obtain rfl : ys = ys' := hys.out.trans hys'.out.symm
  obtain rfl : n = n' := hn.out.trans hn'.out.symm
  clear hys' hn'
  have HFO : Hid (foF xs most = (ys, n)) := by unfold Hid; rw [hys.out, hn.out]
  have ho3 := ho2.below hb3
  have hoy3 := hoy.below hb3
  have hnn : (n != n) = false := by simp
  have hnq : (n == n) = true := by simp
  go_wp2_with fail
  refine (sameInts_any _ _ _ _ _ _ _ hoy3.ri hoy'.ri).mono ?_
  rintro e w4 ⟨q, hq, rfl, hb4⟩
  obtain rfl : q = true := hq.out.trans (by simp)
  clear hq
  have ho4 := ho3.below hb4
  have hoy4 := hoy3.below hb4
  have hoy4' := hoy'.below hb4
  have hbA := below_on (below_on (below_on hb1 hb2) hb3) hb4
  clear ho1 ho2 ho3 hoy hoy3 hoy' hb1 hb2 hb3 hb4 hys hn
  by_cases hz : n = 0
  rotate_left
  · have hq0 : (n != 0) = true := by rw [bne_iff_ne]; exact hz
    clear hz
    go_wp2_with fail
    refine (sameInts_any _ _ _ _ _ _ _ hoy4.ri hoy4'.ri).mono ?_
    rintro e w5 ⟨q, hq, rfl, hb5⟩
    obtain rfl : q = true := hq.out.trans (by simp)
    clear hq
    go_wp2_with fail
    go_ret
    exact ⟨rfl, below_on hbA hb5⟩
  subst hz
  obtain ⟨ls, p, hf, hyf, hym, hy120, hps, hpl, htx⟩ := foF_done HFO.out
  have HTX := hid htx
  have HPS := hid hps
  have HPF : Hid (pairF ys = ((pairS ys).1, (pairS ys).2, true)) := hid (pairF_tx htx)
  obtain ⟨P, HP⟩ : ∃ P : Nat, Hid (P = p + 1) := ⟨_, hid rfl⟩
  have hPl : P < xs.length := by have := HP.out; omega
  have hW1 : IntKind.i64.wrap ((xs.length : Int) - 2) = (p : Int) := by rw [hpl]; rw [show ((p + 2 : Nat) : Int) - 2 = (p : Int) by omega]; exact IntWalk.i64_in _ (by omega)
  have hW2 : IntKind.i64.wrap ((xs.length : Int) - 1) = (P : Int) := by rw [hpl, HP.out]; rw [show ((p + 2 : Nat) : Int) - 1 = ((p + 1 : Nat) : Int) by omega]; exact IntWalk.i64_in _ (by omega)
  have hpl0 : p < xs.length := by omega
  have hPlI : (P : Int) < (xs.length : Int) := by omega
  have hpl0I : (p : Int) < (xs.length : Int) := by omega
  have hgm : (ys.length : Int) ≤ most := hym
  clear hf hyf hps hpl htx hym
  go_wp2_with fail
  refine (PairOf_any _ _ _ _ hoy4.ri).mono ?_
  rintro e w' ⟨pa, pb, pok, hpa, hpb, hpok, rfl, rfl⟩
  rw [HPF.out] at hpa hpb hpok
  obtain rfl : pok = true := hpok.out
  clear hpok
  go_wp2_with fail
  refine (TextValid_any _ _ _ _ hoy4.ri).mono ?_
  rintro e w' ⟨b, hb, rfl, rfl⟩
  obtain rfl : b = true := hb.out.trans HTX.out
  clear hb
  obtain ⟨u, hu⟩ : ∃ u, xs[p]? = some u := ⟨_, List.getElem?_eq_getElem hpl0⟩
  obtain ⟨v, hv⟩ : ∃ v, xs[P]? = some v := ⟨_, List.getElem?_eq_getElem hPl⟩
  obtain rfl : u = pa := by rw [hpa.out, HPS.out]; exact (getD_hid hu).symm
  obtain rfl : v = pb := by rw [hpb.out, HPS.out, ← HP.out]; exact (getD_hid hv).symm
  obtain ⟨ad, u', rfl, HX, hcu⟩ := ho4.ri.get (k := p) hpl0
  obtain rfl := Option.some.inj (hu.symm.trans HX.out)
  have hcv := RI.cellAt ho4.ri hv
  have hqu : (u == u) = true := by simp
  have hqv : (v == v) = true := by simp
  clear hu hv hpa hpb
  go_wp2_with fail
  go_ret
  exact ⟨rfl, hbA⟩

set_option maxRecDepth 100000 in
theorem FnFrameOpen_lifted (os : Os) (started : os.Started) (H : Type) (enc : TypeId × Value → H) :
    ReturnsInHanded {} Try.checked os 13 .any (Rows.fnFrameOpenSpec.pre6 enc Try.prog Try.f13 Rows.fnFrameOpenRow.domain false) (Rows.fnFrameOpenSpec.post enc Try.prog Try.f13 false true false false) := by
  refine returnsInHanded_of_change (C := Try.checked) own started (by kernel_rfl) Try.func13
    (ChangeSpec.witness6 (enc := enc) (C := Try.checked) false ⟨#[], #[.slice none 0 0], []⟩ 8 (by kernel_rfl) (by kernel_rfl) (by kernel_rfl) (by kernel_rfl)) ?_
  intro W base args ds gs before hval0 hW hcnd _
  have hval : ∀ (j : Nat) t v, Try.f13.params[j]? = some t → args[j]? = some v → Value.okWide Try.prog W .any base t v := hval0
  have hW' := hW
  obtain ⟨p, q, hA0, hV, rfl, hfz, hnd⟩ := hW
  have hA : DataW.TrodAll enc Try.prog W 0 (fun _ => true) true Try.f13.params.toList args.toList ds p := hA0
  rw [Try.params13] at hA hval
  obtain ⟨v0, vs0, d0, ds0, p0, q0, hargs, rfl, rfl, h0, r0⟩ := trodAll_cons hA
  obtain ⟨rfl, rfl, rfl⟩ := trodAll_nil r0
  obtain rfl : args = #[v0] := by cases args; simp_all
  obtain ⟨rfl, rfl⟩ := trodVars_none hV
  have k0 := h0
  have lt0 : ∀ x ∈ p0, x.block < W.heap.size := by obtain ⟨m, hm⟩ := k0; exact DataW.trod_lt m _ _ _ hm
  obtain ⟨A0, c0, xs0, hv0, w0, wf0⟩ := open_row Try.underlying22 Try.underlying5 (by kernel_rfl) (hval 0 22 v0 rfl rfl) h0
  subst hv0
  have w0 : RY W A0 c0 xs0 := ⟨w0, fun b hb => bounds_u8 (wf0 b hb)⟩
  clear hA0 hval0
  refine (FnFrameOpen_walk A0 c0 xs0 W w0).mono fun e W' ⟨he, bel⟩ => ?_
  subst he
  exact ⟨_, rfl, _, _, _, [], _, [], hW', trodAll_mk1 (shut_bool Try.underlying4 _), (trodAll_cons_mk (Below.trod laidOut (by kernel_rfl) (of_decide_eq_true (by kernel_rfl)) k0 bel lt0) trodAll_mk0), rfl, bel.frame _, fun h => by cases h⟩

theorem FnFrameOpen_holds : Rows.FnFrameOpenSaid :=
  OpenClaim.holds_of_wide 13 Try.f13 rfl rfl rfl rfl rfl rfl rfl ⟨rfl, rfl, rfl, rfl, rfl⟩ rfl rfl rfl rfl rfl (by kernel_rfl) Try.func13 (by kernel_rfl)
    (of_decide_eq_true (by kernel_rfl)) (by unfold Func.isWrapper; first | (rw [if_pos (by decide +kernel)]; kernel_rfl) | (rw [if_neg (by decide +kernel)]; exact ⟨rfl, rfl⟩))
    (fun os started H enc _ => FnFrameOpen_lifted os started H enc)

end Go.Proofs.Ytfdjlifemjlnmaa
