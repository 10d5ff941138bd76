/- The law FnExactSealOpen: program and reference answer alike, arguments stay, results are memory of their own. No condition. -/
import Derived.Test.YtadjjcjhlndpkaaCTg4
import Derived.Test.YtadjjcjhlndpkaaCMk
import Derived.Test.YtadjjcjhlndpkaaEnv
import Derived.Test.YtadjjcjhlndpkaaFr
namespace Go.Proofs.Ytadjjcjhlndpkaa
open Go Go.RowKit Go.ChangeShapes Go.WideShapes Go.ChangeAt Go.Joins

set_option maxHeartbeats 1000000 in
theorem FnExactSealOpen_walk (v0_0 v0_1 : Int) (A1 : Option Addr) (c1 : Nat) (xs1 : List Int) (w : World) (_ : (Lit.int .i64 v0_0).wf = true) (_ : (Lit.int .i64 v0_1).wf = true) (hr1 : RI w A1 c1 xs1) :
    Calls Try.prog 12 #[.agg #[.int .i64 v0_0, .int .i64 v0_1], .slice A1 xs1.length c1] w (PT w) := by
  by_cases hbig1 : 1048576 < xs1.length
  · go_enter Try.func12, Try.ntmps12
    go_wp2_with fail
    go_ret
    exact ⟨rfl, (by repeat (first | exact Below.refl _ _ | refine below_on ?_ (below_new _ _) | refine below_drewN ?_ _ | refine below_on ?_ (by assumption)))⟩
  have hn1 : xs1.length ≤ 1048576 := by omega
  clear hbig1
  have E0 := Env.nil (w.alloc (.cells #[.int .i64 v0_0, .int .i64 v0_1] 23))
  have hr1 := hr1.below (below_new w (.cells #[.int .i64 v0_0, .int .i64 v0_1] 23))
  go_enter Try.func12, Try.ntmps12
  go_wp2_with fail
  refine (toKey_any _ _ _).mono ?_
  rintro e w1 ⟨rfl, hb1⟩
  have E1 := E0.call hb1
  clear E0 hb1
  go_wp2_with fail
  refine (toIntS_any _ _ _ _ (hr1.below E1.bel) (by omega)).mono ?_
  rintro e w2 ⟨s1_A, s1_c, s1_x, s1_e, s1_o, rfl, hb2⟩
  obtain rfl : xs1 = s1_x := s1_e.out.symm
  clear s1_e
  have E2 := E1.new hb2 s1_o
  clear E1 hb2 s1_o
  go_wp2_with fail
  refine (sSealOpen_any _ _ _ _ _ _ (OI.ri (E2.at_ 0 rfl)) (by (try dsimp only); omega)).mono ?_
  rintro e w3 ⟨S_A, S_c, S_x, S_b, S_hx, S_hb, S_o, rfl, hb3⟩
  have E3 := E2.new hb3 S_o
  clear E2 hb3 S_o
  go_wp2_with fail
  refine (toIntS_any _ _ _ _ (hr1.below E3.bel) (by omega)).mono ?_
  rintro e w4 ⟨x1_A, x1_c, x1_x, x1_e, x1_o, rfl, hb4⟩
  obtain rfl : xs1 = x1_x := x1_e.out.symm
  clear x1_e
  have E4 := E3.new hb4 x1_o
  clear E3 hb4 x1_o
  have kb0 : w4.cell? ⟨w.heap.size, 0, none⟩ = some (.int .i64 v0_0) := (E4.bel.cell (by simp)).trans (by simp)
  have kb1 : w4.cell? ⟨w.heap.size, 1, none⟩ = some (.int .i64 v0_1) := (E4.bel.cell (by simp)).trans (by simp)
  go_wp2_with fail
  refine (toKey_any _ _ _).mono ?_
  rintro e w5 ⟨rfl, hb5⟩
  clear kb0 kb1
  have E5 := E4.call hb5
  clear E4 hb5
  go_wp2_with fail
  refine (SealOpen_any _ _ _ _ _ _ (OI.ri (E5.at_ 2 rfl)) (by (try dsimp only); omega)).mono ?_
  rintro e w6 ⟨G_A, G_c, G_x, G_b, G_hx, G_hb, G_o, rfl, hb6⟩
  have E6 := E5.new hb6 G_o
  clear E5 hb6 G_o
  obtain rfl : S_x = G_x := S_hx.out.trans G_hx.out.symm
  obtain rfl : S_b = G_b := S_hb.out.trans G_hb.out.symm
  clear G_hb
  have hneB : (S_b != S_b) = false := by simp
  go_wp2_with fail
  refine (eqIntS_any _ _ _ _ _ _ _ (OI.ri (E6.at_ 3 rfl)) (OI.ri (E6.at_ 1 rfl))).mono ?_
  rintro e w7 ⟨q, hq, rfl, hb7⟩
  obtain rfl : q = true := by rw [hq.out]; simp
  clear hq
  have E7 := E6.call hb7
  clear E6 hb7
  go_wp2_with fail
  refine (toIntS_any _ _ _ _ (hr1.below E7.bel) (by omega)).mono ?_
  rintro e w8 ⟨y1_A, y1_c, y1_x, y1_e, y1_o, rfl, hb8⟩
  obtain rfl : xs1 = y1_x := y1_e.out.symm
  clear y1_e
  have E8 := E7.new hb8 y1_o
  clear E7 hb8 y1_o
  go_wp2_with fail
  refine (eqIntS_any _ _ _ _ _ _ _ (OI.ri (E8.at_ 2 rfl)) (OI.ri (E8.at_ 4 rfl))).mono ?_
  rintro e w9 ⟨q, hq, rfl, hb9⟩
  obtain rfl : q = true := by rw [hq.out]; simp
  clear hq
  have E9 := E8.call hb9
  clear E8 hb9
  have hlen : S_x.length ≤ 100000000 := by rw [S_hx.out]; exact sealOpen_len (by omega)
  go_wp2_with fail
  refine (markIntS_any _ _ _ _ _ _ (E9.at_ 2 rfl) (by omega) (by omega) (by (try dsimp only); omega)).mono ?_
  rintro e w10 ⟨rfl, ho, hg⟩
  have E10 := E9.mark 2 rfl ho hg
  clear E9 ho hg
  clear G_hx
  go_wp2_with fail
  refine (eqIntS_any _ _ _ _ _ _ _ (OI.ri (E10.at_ 3 rfl)) (OI.ri (E10.at_ 1 rfl))).mono ?_
  rintro e w11 ⟨q, hq, rfl, hb11⟩
  obtain rfl : q = true := by rw [hq.out]; simp
  clear hq
  have E11 := E10.call hb11
  clear E10 hb11
  have hneM : (1 + (S_x.length : Int) != 1 + (S_x.length : Int)) = false := by simp
  go_wp2_with fail
  refine (markIntS_any _ _ _ _ _ _ (E11.at_ 3 rfl) (by omega) (by omega) (by (try dsimp only); omega)).mono ?_
  rintro e w12 ⟨rfl, ho, hg⟩
  have E12 := E11.mark 3 rfl ho hg
  clear E11 ho hg
  go_wp2_with fail
  refine (heldIntS_any _ _ _ _ _ (OI.ri (E12.at_ 3 rfl)) (by omega) (by omega) (by (try dsimp only); omega)).mono ?_
  rintro e w13 ⟨q, hq, rfl, rfl⟩
  obtain rfl : q = 1 + (S_x.length : Int) := hq.out
  clear hq
  have kb0 : w12.cell? ⟨w.heap.size, 0, none⟩ = some (.int .i64 v0_0) := (E12.bel.cell (by simp)).trans (by simp)
  have kb1 : w12.cell? ⟨w.heap.size, 1, none⟩ = some (.int .i64 v0_1) := (E12.bel.cell (by simp)).trans (by simp)
  go_wp2_with fail
  refine (toKey_any _ _ _).mono ?_
  rintro e w13 ⟨rfl, hb13⟩
  clear kb0 kb1
  have E13 := E12.call hb13
  clear E12 hb13
  go_wp2_with fail
  refine (toIntS_any _ _ _ _ (hr1.below E13.bel) (by omega)).mono ?_
  rintro e w14 ⟨j1_A, j1_c, j1_x, j1_e, j1_o, rfl, hb14⟩
  obtain rfl : xs1 = j1_x := j1_e.out.symm
  clear j1_e
  have E14 := E13.new hb14 j1_o
  clear E13 hb14 j1_o
  go_wp2_with fail
  refine (SealOpen_any _ _ _ _ _ _ (OI.ri (E14.at_ 5 rfl)) (by (try dsimp only); omega)).mono ?_
  rintro e w15 ⟨H_A, H_c, H_x, H_b, H_hx, H_hb, H_o, rfl, hb15⟩
  have E15 := E14.new hb15 H_o
  clear E14 hb15 H_o
  obtain rfl : S_x = H_x := S_hx.out.trans H_hx.out.symm
  clear H_hx
  obtain rfl : S_b = H_b := S_hb.out.trans H_hb.out.symm
  clear H_hb
  go_wp2_with fail
  refine (eqIntS_any _ _ _ _ _ _ _ (OI.ri (E15.at_ 6 rfl)) (OI.ri (E15.at_ 1 rfl))).mono ?_
  rintro e w16 ⟨q, hq, rfl, hb16⟩
  obtain rfl : q = true := by rw [hq.out]; simp
  clear hq
  have E16 := E15.call hb16
  clear E15 hb16
  go_wp2_with fail
  refine (heldIntS_any _ _ _ _ _ (OI.ri (E16.at_ 3 rfl)) (by omega) (by omega) (by (try dsimp only); omega)).mono ?_
  rintro e w17 ⟨q, hq, rfl, rfl⟩
  obtain rfl : q = 1 + (S_x.length : Int) := hq.out
  clear hq
  go_wp2_with fail
  go_ret
  exact ⟨rfl, below_on (below_new _ _) E16.bel⟩

set_option maxRecDepth 100000 in
theorem FnExactSealOpen_lifted (os : Os) (started : os.Started) (H : Type) (enc : TypeId × Value → H) :
    ReturnsInHanded {} Try.checked os 12 .any (Rows.fnExactSealOpenSpec.pre6 enc Try.prog Try.f12 Rows.fnExactSealOpenRow.domain false) (Rows.fnExactSealOpenSpec.post enc Try.prog Try.f12 false true false false) := by
  refine returnsInHanded_of_change (C := Try.checked) own started (by kernel_rfl) Try.func12
    (ChangeSpec.witness6 (enc := enc) (C := Try.checked) false ⟨#[], #[.agg #[.int .i64 0, .int .i64 0], .slice none 0 0], []⟩ 8 (by kernel_rfl) (by kernel_rfl) (by kernel_rfl) (by kernel_rfl)) ?_
  intro W base args ds gs before hval0 hW hcnd _
  have hval : ∀ (j : Nat) t v, Try.f12.params[j]? = some t → args[j]? = some v → Value.okWide Try.prog W .any base t v := hval0
  have hW' := hW
  obtain ⟨p, q, hA0, hV, rfl, hfz, hnd⟩ := hW
  have hA : DataW.TrodAll enc Try.prog W 0 (fun _ => true) true Try.f12.params.toList args.toList ds p := hA0
  rw [Try.params12] at hA hval
  obtain ⟨v0, vs0, d0, ds0, p0, q0, hargs, rfl, rfl, h0, r0⟩ := trodAll_cons hA
  obtain ⟨v1, vs1, d1, ds1, p1, q1, rfl, rfl, rfl, h1, r1⟩ := trodAll_cons r0
  obtain ⟨rfl, rfl, rfl⟩ := trodAll_nil r1
  obtain rfl : args = #[v0, v1] := by cases args; simp_all
  obtain ⟨rfl, rfl⟩ := trodVars_none hV
  have k0 := h0
  have lt0 : ∀ x ∈ p0, x.block < W.heap.size := by obtain ⟨m, hm⟩ := k0; exact DataW.trod_lt m _ _ _ hm
  obtain ⟨c0_0, c0_1, y0_0, y0_1, m0, hv0, _, _, e0_0, e0_1⟩ := open_agg2 Try.underlying23 (by kernel_rfl) (by kernel_rfl) (hval 0 23 v0 rfl rfl) h0
  subst hv0
  obtain ⟨a0_0, f0_0, _, w0_0⟩ := DataW.trod_int Try.underlying3 e0_0
  simp only [List.cons.injEq, and_true] at f0_0
  subst f0_0
  obtain ⟨a0_1, f0_1, _, w0_1⟩ := DataW.trod_int Try.underlying3 e0_1
  simp only [List.cons.injEq, and_true] at f0_1
  subst f0_1
  have k1 := h1
  have lt1 : ∀ x ∈ p1, x.block < W.heap.size := by obtain ⟨m, hm⟩ := k1; exact DataW.trod_lt m _ _ _ hm
  obtain ⟨A1, c1, xs1, hv1, w1, wf1⟩ := open_row Try.underlying24 Try.underlying3 (by kernel_rfl) (hval 1 24 v1 rfl rfl) h1
  subst hv1
  clear hA0 hval0
  refine (FnExactSealOpen_walk a0_0 a0_1 A1 c1 xs1 W w0_0 w0_1 w1).mono fun e W' ⟨he, bel⟩ => ?_
  subst he
  exact ⟨_, rfl, _, _, _, [], _, [], hW', trodAll_mk1 (shut_bool Try.underlying4 _), (trodAll_cons_mk (Below.trod laidOut (by kernel_rfl) (of_decide_eq_true (by kernel_rfl)) k0 bel lt0) (trodAll_cons_mk (Below.trod laidOut (by kernel_rfl) (of_decide_eq_true (by kernel_rfl)) k1 bel lt1) trodAll_mk0)), rfl, bel.frame _, fun h => by cases h⟩

theorem FnExactSealOpen_holds : Rows.FnExactSealOpenSaid :=
  OpenClaim.holds_of_wide 12 Try.f12 rfl rfl rfl rfl rfl rfl rfl ⟨rfl, rfl, rfl, rfl, rfl⟩ rfl rfl rfl rfl rfl (by kernel_rfl) Try.func12 (by kernel_rfl)
    (of_decide_eq_true (by kernel_rfl)) (by unfold Func.isWrapper; first | (rw [if_pos (by decide +kernel)]; kernel_rfl) | (rw [if_neg (by decide +kernel)]; exact ⟨rfl, rfl⟩))
    (fun os started H enc _ => FnExactSealOpen_lifted os started H enc)

end Go.Proofs.Ytadjjcjhlndpkaa
