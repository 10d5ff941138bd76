/- The law FnRotations: all rotations are in order, whatever is drawn. No condition. -/
import Derived.Test.YtiaheikoifnbaaaDLs2
import Derived.Test.YtiaheikoifnbaaaPlRt3
import Derived.Test.YtiaheikoifnbaaaCMk
import Derived.Test.YtiaheikoifnbaaaFr
import Derived.Test.YtiaheikoifnbaaaCSm
namespace Go.Proofs.Ytiaheikoifnbaaa
open Go Go.RowKit Go.ChangeShapes Go.WideShapes Go.ChangeAt Go.Joins

theorem sumOf_any (A : Option Addr) (c : Nat) (ys : List Int) (w : World) (hr : RI w A c ys) (hx : ∀ x ∈ ys, 0 ≤ x ∧ x ≤ 1000) (hn : ys.length ≤ 1000) :
    Calls Try.prog 24 #[.slice A ys.length c] w (PN w ys.sum) := by
  have HX0 := hid hx
  clear hx
  go_enter Try.func24, Try.ntmps24
  go_wp2_with fail
  go_loop [3, 4] (fun t i => ∃ (k : Nat) (q : Int), k ≤ ys.length ∧ i = .int .i64 k ∧ t = .int .i64 q ∧ Hid (q = (ys.take k).sum)) (fun _ i => ys.length - (intOf i).toNat)
  case atStart => exact ⟨0, 0, by omega, rfl, rfl, hid (by simp)⟩
  case round =>
    obtain ⟨k, q, hk, rfl, rfl, hq⟩ := hrel
    by_cases hlt : k < ys.length
    · obtain ⟨ad, x, rfl, HX, hc⟩ := hr.get hlt
      obtain ⟨hx0, hx1⟩ := HX0.out x (List.mem_of_getElem? HX.out)
      obtain ⟨hq0, hq1⟩ : 0 ≤ q ∧ q ≤ 1000000 * ys.length := by rw [hq.out]; exact sum_take_bd (fun x hx => ⟨(HX0.out x hx).1, by have := (HX0.out x hx).2; omega⟩) k
      have HN := hid (sum_snoc HX.out)
      clear HX
      go_wp2_with fail
      go_round
      case rel => exact ⟨k + 1, q + x, by omega, by go_num, by go_num, hid (by rw [HN.out, hq.out])⟩
      case measure => simp [intOf]; omega
    · go_wp2_with fail
      go_ret
      have e : k = ys.length := by omega
      subst e
      exact ⟨_, hid (by rw [hq.out, List.take_of_length_le (Nat.le_refl _)]), rfl, rfl⟩
set_option maxRecDepth 100000 in
set_option maxHeartbeats 2000000 in
theorem FnRotations_walk (A : Option Addr) (c : Nat) (bs : List Int) (w : World) (hr : RY w A c bs) : Calls Try.prog 5 #[.slice A bs.length c] w (PT w) := by
  by_cases hbig : 1048576 < bs.length
  · go_enter Try.func5, Try.ntmps5
    go_wp2_with fail
    go_ret
    exact ⟨rfl, Below.refl _ _⟩
  have hb : bs.length ≤ 1048576 := by omega
  clear hbig
  go_enter Try.func5, Try.ntmps5
  go_wp2_with fail
  refine (DrawRotationsOf_any _ _ _ _ hr).mono ?_
  rintro e w1 ⟨A1, c1, xs, rfl, ho1, hl1, hb1⟩
  go_wp2_with fail
  refine (RotationsOf_any _ _ _ _ ho1.ri).mono ?_
  rintro e w2 ⟨A2, c2, ys, hys, hoy, rfl, hb2⟩
  have ho2 := ho1.below hb2
  go_wp2_with fail
  refine (sRotationsOf_any _ _ _ _ ho2.ri).mono ?_
  rintro e w3 ⟨A3, c3, ys', hys', hoy', rfl, hb3⟩
  obtain rfl : ys = ys' := hys.out.trans hys'.out.symm
  clear hys'
  have ho3 := ho2.below hb3
  have hoy3 := hoy.below hb3
  go_wp2_with fail
  refine (sameInts_any _ _ _ _ _ _ _ hoy3.ri hoy'.ri).mono ?_
  rintro e w4 ⟨q, hq, rfl, hb4⟩
  obtain rfl : q = true := hq.out.trans (by simp)
  clear hq
  have ho4 := ho3.below hb4
  have hoy4 := hoy3.below hb4
  have hoy4' := hoy'.below hb4
  have hbA := below_on (below_on (below_on hb1 hb2) hb3) hb4
  go_wp2_with fail
  refine (sListValid_any _ _ _ _ ho4.ri).mono ?_
  rintro _ w' ⟨b, hb, rfl, rfl⟩
  cases b
  · go_wp2_with fail
    refine (sameInts_any _ _ _ _ _ _ _ hoy4.ri hoy4'.ri).mono ?_
    rintro e w5 ⟨q, hq, rfl, hb5⟩
    obtain rfl : q = true := hq.out.trans (by simp)
    clear hq
    go_wp2_with fail
    go_ret
    exact ⟨rfl, (by repeat (first | exact Below.refl _ _ | refine below_on ?_ (below_new _ _) | refine below_drewN ?_ _ | refine below_on ?_ (by assumption)))⟩
  have HL := hid hb.out.symm
  rw [rots_there HL.out] at hys
  have hn : xs.length ≤ 40 := (listOk_iff.1 HL.out).1
  have hyl : ys.length = xs.length := by rw [hys.out, nints_length, ordN_length]
  have hyl1 : ys.length ≤ xs.length := by omega
  have hyl2 : xs.length ≤ ys.length := by omega
  clear hb hoy hoy' hoy3 hoy4' ho1 ho2 ho3 hyl hb1 hb2 hb3 hb4
  go_wp2_with fail
  go_loopw [6] (fun i wr => ∃ k : Nat, i = .int .i64 ((k : Int) + 1) ∧ k ≤ xs.length ∧ Below w4.heap.size w4 wr) (fun i _ => xs.length + 1 - (intOf i).toNat)
  case atStart => exact ⟨0, rfl, by omega, Below.refl _ _⟩
  case round =>
    obtain ⟨k, rfl, hkn, hbw⟩ := hrel
    obtain ⟨wo, rfl⟩ : ∃ wo : World, wo = wr := ⟨_, rfl⟩
    have hk4 : k ≤ 40 := by omega
    clear hkn
    by_cases hlt : k + 1 < xs.length
    · have hoo := hoy4.below hbw
      have hxx := ho4.below hbw
      obtain ⟨ad2, y1, rfl, HY1, k1⟩ := hoo.ri.get (k := k) (by omega)
      obtain ⟨_, y2, he, HY2, k2⟩ := hoo.ri.get (k := k + 1) (by omega)
      injection he with he
      subst he
      obtain ⟨a, ha, rfl⟩ := nints_at (hys.out ▸ HY1.out)
      obtain ⟨b, hb, rfl⟩ := nints_at (hys.out ▸ HY2.out)
      have hal : a < xs.length := ord_lt ha
      have hbl : b < xs.length := ord_lt hb
      have HLT : Hid (rotLt xs a b = true) := by
        have h1 := List.pairwise_iff_getElem.1 (ordK_sor xs xs.length) k (k + 1) (by rw [ordK_length]; omega) (by rw [ordK_length]; omega) (by omega)
        have e1 := (List.getElem?_eq_some_iff.1 ha).2
        have e2 := (List.getElem?_eq_some_iff.1 hb).2
        unfold ordN at e1 e2
        rw [e1, e2] at h1
        exact h1
      have Ha : Hid ((nints (ordN xs))[k]? = some (a : Int)) := by unfold Hid; rw [nints, List.getElem?_map, ha]; rfl
      have Hb : Hid ((nints (ordN xs))[k + 1]? = some (b : Int)) := by unfold Hid; rw [nints, List.getElem?_map, hb]; rfl
      clear HY1 HY2 ha hb k1 k2
      have hlt' : (k : Int) + 1 < (ys.length : Int) := by omega
      have hlt2 : k + 1 < ys.length := by omega
      go_wp2_with fail
      go_loopw [7] (fun t wi => ∃ j : Nat, j ≤ xs.length ∧ t = .int .i64 j ∧ Hid (preEq xs a b j) ∧ Below wo.heap.size wo wi) (fun t _ => xs.length - (intOf t).toNat)
      case atStart => exact ⟨0, by omega, rfl, hid (preEq_zero _ _ _), Below.refl _ _⟩
      case round =>
        obtain ⟨j, hj, rfl, hpre, hbi⟩ := hrel
        obtain ⟨wi, rfl⟩ : ∃ wi : World, wi = wr := ⟨_, rfl⟩
        have hbw2 := below_on hbw hbi
        have hoo2 := hoy4.below hbw2
        have hxx2 := ho4.below hbw2
        have k1 := hoo2.ri.cellAt (k := k) (hys.out ▸ Ha.out)
        have k2 := hoo2.ri.cellAt (k := k + 1) (hys.out ▸ Hb.out)
        have k2' : wi.cell? ⟨ad2.block, ad2.off + (k + 1), none⟩ = some (.int .i64 (b : Int)) := by simpa [Addr.add] using k2
        clear k2
        have hw0 : ((k : Int) + 1).toNat = k + 1 := by omega
        have hL0 : ¬ xs.length = 0 := by omega
        by_cases hjn : j < xs.length
        · obtain ⟨ad1, x, rfl, HX, k3⟩ := hxx2.ri.get (k := (a + j) % xs.length) (Nat.mod_lt _ (by omega))
          obtain ⟨ad1', y, he, HY, k4⟩ := hxx2.ri.get (k := (b + j) % xs.length) (Nat.mod_lt _ (by omega))
          injection he with he
          subst he
          have hx := rat_at HX.out
          have hy := rat_at HY.out
          have HD := hid (fun e => rotLt_diff (a := a) (b := b) hjn hpre.out e)
          rw [hx, hy] at HD
          have HS := hid (fun e => preEq_snoc hpre.out e)
          rw [hx, hy] at HS
          clear HX HY hx hy
          have ea0 : 0 ≤ ((a : Int) + (j : Int)) % (xs.length : Int) := Int.emod_nonneg _ (by omega)
          have ea1 : ((a : Int) + (j : Int)) % (xs.length : Int) < (xs.length : Int) := Int.emod_lt_of_pos _ (by omega)
          have ea2 : (((a : Int) + (j : Int)) % (xs.length : Int)).toNat = (a + j) % xs.length := by rw [← Int.natCast_add, ← Int.natCast_emod, Int.toNat_natCast]
          have eb0 : 0 ≤ ((b : Int) + (j : Int)) % (xs.length : Int) := Int.emod_nonneg _ (by omega)
          have eb1 : ((b : Int) + (j : Int)) % (xs.length : Int) < (xs.length : Int) := Int.emod_lt_of_pos _ (by omega)
          have eb2 : (((b : Int) + (j : Int)) % (xs.length : Int)).toNat = (b + j) % xs.length := by rw [← Int.natCast_add, ← Int.natCast_emod, Int.toNat_natCast]
          by_cases hxy : x = y
          · have hq : (x == y) = true := by simp [hxy]
            have HXY := hid hxy
            clear hxy
            go_wp2_with fail
            go_quiet (fail)
            go_wp2_with fail
            go_roundw
            case rel => exact ⟨j + 1, by omega, by go_num, hid (HS.out HXY.out), below_drewN hbi _⟩
            case measure => simp [intOf]; omega
          · have hq : (x == y) = false := by simp [hxy]
            have hlt3 : x < y := by
              have := HD.out hxy
              rw [HLT.out] at this
              exact of_decide_eq_true this.symm
            have hq2 : decide (y < x) = false := by simp; omega
            have hq3 : ((j : Int) == (xs.length : Int)) = false := by rw [beq_eq_false_iff_ne]; omega
            clear hxy
            go_wp2_with fail
            go_quiet (fail)
            go_wp2_with fail
            go_quiet (fail)
            go_wp2_with fail
            go_roundw
            case rel => exact ⟨k + 1, by go_num, by omega, below_drewN hbw2 _⟩
            case measure => simp [intOf]; omega
        · have e : j = xs.length := by omega
          subst e
          have hab : a < b := by
            have := HLT.out
            rw [rotLt_same hpre.out] at this
            exact of_decide_eq_true this
          have hq2 : decide ((b : Int) ≤ (a : Int)) = false := by simp; omega
          have hq3 : decide (b ≤ a) = false := by simp; omega
          have hq4 : ((xs.length : Int) == (xs.length : Int)) = true := by simp
          clear hjn
          go_wp2_with fail
          go_quiet (fail)
          go_wp2_with fail
          go_quiet (fail)
          go_wp2_with fail
          go_roundw
          case rel => exact ⟨k + 1, by go_num, by omega, below_drewN hbw2 _⟩
          case measure => simp [intOf]; omega
    · have hlt' : (ys.length : Int) ≤ (k : Int) + 1 := by omega
      have hS := sum_ord xs
      rw [← hys.out] at hS
      have hys2 : ∀ x ∈ ys, 0 ≤ x ∧ x ≤ 1000 := by
        rw [hys.out]
        intro x hx
        obtain ⟨p, hp, rfl⟩ := List.mem_map.1 hx
        have := ordK_mem.1 hp
        omega
      have hm : (xs.length : Int) * ((xs.length : Int) - 1) ≤ 40 * 40 ∧ -40 ≤ (xs.length : Int) * ((xs.length : Int) - 1) := by
        rcases Nat.eq_zero_or_pos xs.length with h0 | h0
        · rw [h0]; decide
        · exact ⟨Int.mul_le_mul (by omega) (by omega) (by omega) (by omega), by have := Int.mul_nonneg (show (0 : Int) ≤ (xs.length : Int) by omega) (show (0 : Int) ≤ (xs.length : Int) - 1 by omega); omega⟩
      have hwr : IntKind.i64.wrap ((xs.length : Int) * ((xs.length : Int) - 1)) = (xs.length : Int) * ((xs.length : Int) - 1) := IntWalk.i64_in _ (by omega)
      have hcall := sumOf_any A2 c2 ys wo (hoy4.below hbw).ri hys2 (by omega)
      generalize hPs : ys.sum = S at *
      obtain ⟨M, hM⟩ : ∃ M, M = (xs.length : Int) * ((xs.length : Int) - 1) := ⟨_, rfl⟩
      have hq : (S * 2 == (xs.length : Int) * ((xs.length : Int) - 1)) = true := by rw [beq_iff_eq]; exact hS
      have hq5 : ((ys.length : Int) == (xs.length : Int)) = true := by rw [beq_iff_eq]; omega
      have hs0 : -20 ≤ S ∧ S ≤ 800 := by omega
      obtain ⟨hs0, hs1⟩ := hs0
      clear hM M hS hm hPs hys2
      go_wp2_with fail
      refine hcall.mono ?_
      rintro _ w' ⟨n, hn', rfl, rfl⟩
      obtain rfl : n = S := hn'.out
      clear hn' hcall
      go_wp2_with fail
      go_ret
      exact ⟨rfl, below_on hbA hbw⟩

set_option maxRecDepth 100000 in
theorem FnRotations_lifted (os : Os) (started : os.Started) (H : Type) (enc : TypeId × Value → H) :
    ReturnsInHanded {} Try.checked os 5 .any (Rows.fnRotationsSpec.pre6 enc Try.prog Try.f5 Rows.fnRotationsRow.domain false) (Rows.fnRotationsSpec.post enc Try.prog Try.f5 false true false false) := by
  refine returnsInHanded_of_change (C := Try.checked) own started (by kernel_rfl) Try.func5
    (ChangeSpec.witness6 (enc := enc) (C := Try.checked) false ⟨#[], #[.slice none 0 0], []⟩ 8 (by kernel_rfl) (by kernel_rfl) (by kernel_rfl) (by kernel_rfl)) ?_
  intro W base args ds gs before hval0 hW hcnd _
  have hval : ∀ (j : Nat) t v, Try.f5.params[j]? = some t → args[j]? = some v → Value.okWide Try.prog W .any base t v := hval0
  have hW' := hW
  obtain ⟨p, q, hA0, hV, rfl, hfz, hnd⟩ := hW
  have hA : DataW.TrodAll enc Try.prog W 0 (fun _ => true) true Try.f5.params.toList args.toList ds p := hA0
  rw [Try.params5] at hA hval
  obtain ⟨v0, vs0, d0, ds0, p0, q0, hargs, rfl, rfl, h0, r0⟩ := trodAll_cons hA
  obtain ⟨rfl, rfl, rfl⟩ := trodAll_nil r0
  obtain rfl : args = #[v0] := by cases args; simp_all
  obtain ⟨rfl, rfl⟩ := trodVars_none hV
  have k0 := h0
  have lt0 : ∀ x ∈ p0, x.block < W.heap.size := by obtain ⟨m, hm⟩ := k0; exact DataW.trod_lt m _ _ _ hm
  obtain ⟨A0, c0, xs0, hv0, w0, wf0⟩ := open_row Try.underlying29 Try.underlying5 (by kernel_rfl) (hval 0 29 v0 rfl rfl) h0
  subst hv0
  have w0 : RY W A0 c0 xs0 := ⟨w0, fun b hb => bounds_u8 (wf0 b hb)⟩
  clear hA0 hval0
  refine (FnRotations_walk A0 c0 xs0 W w0).mono fun e W' ⟨he, bel⟩ => ?_
  subst he
  exact ⟨_, rfl, _, _, _, [], _, [], hW', trodAll_mk1 (shut_bool Try.underlying4 _), (trodAll_cons_mk (Below.trod laidOut (by kernel_rfl) (of_decide_eq_true (by kernel_rfl)) k0 bel lt0) trodAll_mk0), rfl, bel.frame _, fun h => by cases h⟩

theorem FnRotations_holds : Rows.FnRotationsSaid :=
  OpenClaim.holds_of_wide 5 Try.f5 rfl rfl rfl rfl rfl rfl rfl ⟨rfl, rfl, rfl, rfl, rfl⟩ rfl rfl rfl rfl rfl (by kernel_rfl) Try.func5 (by kernel_rfl)
    (of_decide_eq_true (by kernel_rfl)) (by unfold Func.isWrapper; first | (rw [if_pos (by decide +kernel)]; kernel_rfl) | (rw [if_neg (by decide +kernel)]; exact ⟨rfl, rfl⟩))
    (fun os started H enc _ => FnRotations_lifted os started H enc)

end Go.Proofs.Ytiaheikoifnbaaa
