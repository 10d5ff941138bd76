/- Contracts: the program's rotations in order. No condition. -/
import Derived.Test.YtiaheikoifnbaaaCRt2
namespace Go.Proofs.Ytiaheikoifnbaaa
open Go Go.RowKit

set_option maxHeartbeats 1000000 in
theorem RotationsOf_any (A : Option Addr) (c : Nat) (xs : List Int) (w : World) (hr : RI w A c xs) :
    Calls Try.prog 15 #[.slice A xs.length c] w (PL w (rotsOf xs)) := by
  go_enter Try.func15, Try.ntmps15
  go_wp2_with fail
  refine (ListValid_any _ _ _ _ (hr.alloc _)).mono ?_
  rintro _ w' ⟨b, hb, rfl, rfl⟩
  cases b
  · go_wp2_with fail
    go_ret
    exact ⟨_, _, [], hid (by simp [rotsOf, hb.out.symm]), OI.empty w w.heap.size (Nat.le_refl _), rfl, below_new _ _⟩
  have HF : Hid (rotsOf xs = nints (ordN xs)) := by simp [Hid, rotsOf, hb.out.symm]
  have hn : xs.length ≤ 40 := (listOk_iff.1 hb.out.symm).1
  clear hb
  go_wp2_with fail
  go_loopw [3, 13] (fun v i wr => ∃ (k : Nat) (A' : Option Addr) (c' : Nat) (ys : List Int), k ≤ xs.length ∧ i = .int .i64 k ∧ v = .slice A' ys.length c' ∧ Hid (ys = nints (ordK xs k)) ∧ ys.length ≤ k ∧ k ≤ ys.length ∧ OI wr w.heap.size A' c' ys ∧ Below w.heap.size w wr) (fun _ i _ => xs.length - (intOf i).toNat)
  case atStart => exact ⟨0, _, _, [], by omega, rfl, rfl, hid rfl, by simp, by simp, OI.empty w w.heap.size (Nat.le_refl _), below_new _ _⟩
  case round =>
    obtain ⟨k, A', c', ys, hk, rfl, rfl, hys, hl1, hl2, ho, hbw⟩ := hrel
    obtain ⟨wo, rfl⟩ : ∃ wo : World, wo = wr := ⟨_, rfl⟩
    have hrw := hr.below hbw
    by_cases hlt : k < xs.length
    · go_wp2_with fail
      go_loopw [5] (fun t wi => ∃ j : Nat, j ≤ k ∧ t = .int .i64 j ∧ Hid (∀ e ∈ (ordK xs k).drop j, rotLt xs k e = true) ∧ Below wo.heap.size wo wi) (fun t _ => (intOf t).toNat)
      case atStart => exact ⟨k, by omega, by go_num, hid (by rw [List.drop_of_length_le (by rw [ordK_length]; omega)]; simp), Below.refl _ _⟩
      case round =>
        obtain ⟨j, hj, rfl, hall, hbi⟩ := hrel
        obtain ⟨wi, rfl⟩ : ∃ wi : World, wi = wr := ⟨_, rfl⟩
        have hoi := ho.below hbi
        by_cases hjl : 0 < j
        · obtain ⟨ad, y, rfl, HY, hc⟩ := hoi.ri.get (k := j - 1) (by omega)
          obtain ⟨e, he', rfl⟩ := nints_at (hys.out ▸ HY.out)
          have he := hid he'
          have hek := ord_lt he'
          clear he' HY
          have hj1 : ((j : Int) - 1).toNat = j - 1 := by omega
          go_wp2_with fail
          refine (rotationBefore_any _ _ _ _ _ _ (hrw.below hbi) (by omega) (by omega) (by omega)).mono ?_
          rintro _ w5 ⟨b, hb, rfl, hb5⟩
          have hbi5 := below_on hbi hb5
          have hoi5 := ho.below hbi5
          clear hc
          cases b
          · have HI := hid (insR_back (ordK_sor xs k) (fun h => Nat.lt_irrefl _ (ordK_mem.1 h)) (j := j) (by rw [ordK_length]; omega) hall.out (fun e' _ he' => by rw [he.out] at he'; injection he' with he'; rw [← he']; exact hb.out.symm))
            clear he hb hoi hbi hb5
            obtain ⟨A', hA'⟩ : ∃ A', A' = some ad := ⟨_, rfl⟩
            rw [← hA'] at ho hoi5 ⊢
            clear hA'
            have hbi := hbi5
            have hoi := hoi5
            clear hbi5 hoi5
            obtain ⟨wi, rfl⟩ : ∃ wi : World, wi = w5 := ⟨_, rfl⟩
            have hsw := hbi.size
            go_upto_region 11 with (at_builtin; refine wpl_app (ys := [0]) intT rfl _ _ rfl rfl (hoi.alloc _) rfl (RI.one wi 0) (by simp; omega) (by have := hbw.size; simp; omega) ?_; intro A3 c3 w3 zs hz ho3 hg3 hat3)
            have hbw3 := OI.belowOwn (below_on (below_on hbw hbi) (below_new _ _)) (hoi.alloc _) hg3 (Nat.le_refl _)
            have hlz : zs.length ≤ k + 1 ∧ k + 1 ≤ zs.length := by rw [hz.out]; simp; omega
            obtain ⟨hlz1, hlz2⟩ := hlz
            have hcz := ho3.ri.cap
            have hrd := RI.below ho3.ri (Below.drew (Below.refl _ _))
            have hdr := RG.cut (k := j) hrd (by omega)
            refine wp_region_still_tail 7 (by kernel_rfl) (by kernel_rfl) ?_
            simp only [List.take_succ_cons, List.take_zero, List.drop_succ_cons, List.drop_zero]
            still_step
            still_step
            still_step
            refine stl_cut intT rfl _ _ _ rfl rfl (j + 1) zs.length ⟨_, _, rfl, by simp; rw [IntKind.wrap_i64]; omega⟩ rfl (by omega) (by omega) ?_
            still_step
            still_step
            refine stl_cut intT rfl _ _ _ rfl rfl j zs.length ⟨_, _, rfl, by simp⟩ rfl (by omega) (by omega) ?_
            refine wpStill_nil ?_
            obtain ⟨Y, hY⟩ : ∃ Y, Y = zs.drop j := ⟨_, rfl⟩
            have hYl : Y.length = zs.length - j := by rw [hY, List.length_drop]
            have hrY : RI w3.drew (if c3 = j then A3 else A3.map (·.add j)) (c3 - j) Y := by
              unfold RI
              rw [hYl, hY]
              simpa [ints, List.map_drop] using hdr
            rw [← hYl]
            refine wpl_copyO intT rfl _ _ rfl (OI.drew ho3) rfl (j + 1) (fun h => by rw [if_neg (by omega)]; simp [Addr.add]) (by omega) rfl hrY (k - j) (by omega) ?_
            intro w5 z5 hz5 hl51 hl52 ho5 hg5
            have hbw5 := OI.belowOwn (below_on hbw3 (Below.drew (Below.refl _ _))) (OI.drew ho3) hg5 (Nat.le_refl _)
            have HR : Hid (z5.set j (k : Int) = nints (ordK xs (k + 1))) := by
              have hk' : k = ys.length := by omega
              unfold Hid
              rw [ins_nints HI.out, ← hys.out, hz5.out, hY, hz.out, hk']
              exact ins_copy ys (by omega) _
            clear hY hYl hrY hdr hrd hz hz5 hg3 hat3 hcz hg5 ho3 hbw3 hall
            obtain ⟨ad3, y3, rfl, _, hc3⟩ := ho5.ri.get (k := j) (by omega)
            obtain ⟨hs1, hs2, hs3⟩ := ho5.store j (k : Int)
            have hbw6 := OI.belowOwn hbw5 ho5 hs2 (Nat.le_refl _)
            have hlr : (z5.set j (k : Int)).length ≤ k + 1 ∧ k + 1 ≤ (z5.set j (k : Int)).length := by rw [HR.out, nints_length, ordK_length]; omega
            go_wp2_with fail
            go_roundw
            case rel => exact ⟨k + 1, _, _, z5.set j (k : Int), by omega, by go_num, by rw [List.length_set, show zs.length = z5.length by omega], HR, hlr.1, hlr.2, hs1, hbw6⟩
            case measure => simp [intOf]; omega
          · go_wp2_with fail
            go_roundw
            case rel => exact ⟨j - 1, by omega, by go_num, hid (drop_all_snoc hjl hall.out he.out hb.out.symm), hbi5⟩
            case measure => simp [intOf]; omega
        · have HI := hid (insR_back (ordK_sor xs k) (fun h => Nat.lt_irrefl _ (ordK_mem.1 h)) (j := j) (by rw [ordK_length]; omega) hall.out (fun e' h0 _ => absurd h0 hjl))
          have hsw := hbi.size
          go_upto_region 11 with (at_builtin; refine wpl_app (ys := [0]) intT rfl _ _ rfl rfl (hoi.alloc _) rfl (RI.one wi 0) (by simp; omega) (by have := hbw.size; simp; omega) ?_; intro A3 c3 w3 zs hz ho3 hg3 hat3)
          have hbw3 := OI.belowOwn (below_on (below_on hbw hbi) (below_new _ _)) (hoi.alloc _) hg3 (Nat.le_refl _)
          have hlz : zs.length ≤ k + 1 ∧ k + 1 ≤ zs.length := by rw [hz.out]; simp; omega
          obtain ⟨hlz1, hlz2⟩ := hlz
          have hcz := ho3.ri.cap
          have hrd := RI.below ho3.ri (Below.drew (Below.refl _ _))
          have hdr := RG.cut (k := j) hrd (by omega)
          refine wp_region_still_tail 7 (by kernel_rfl) (by kernel_rfl) ?_
          simp only [List.take_succ_cons, List.take_zero, List.drop_succ_cons, List.drop_zero]
          still_step
          still_step
          still_step
          refine stl_cut intT rfl _ _ _ rfl rfl (j + 1) zs.length ⟨_, _, rfl, by simp; rw [IntKind.wrap_i64]; omega⟩ rfl (by omega) (by omega) ?_
          still_step
          still_step
          refine stl_cut intT rfl _ _ _ rfl rfl j zs.length ⟨_, _, rfl, by simp⟩ rfl (by omega) (by omega) ?_
          refine wpStill_nil ?_
          obtain ⟨Y, hY⟩ : ∃ Y, Y = zs.drop j := ⟨_, rfl⟩
          have hYl : Y.length = zs.length - j := by rw [hY, List.length_drop]
          have hrY : RI w3.drew (if c3 = j then A3 else A3.map (·.add j)) (c3 - j) Y := by
            unfold RI
            rw [hYl, hY]
            simpa [ints, List.map_drop] using hdr
          rw [← hYl]
          refine wpl_copyO intT rfl _ _ rfl (OI.drew ho3) rfl (j + 1) (fun h => by rw [if_neg (by omega)]; simp [Addr.add]) (by omega) rfl hrY (k - j) (by omega) ?_
          intro w5 z5 hz5 hl51 hl52 ho5 hg5
          have hbw5 := OI.belowOwn (below_on hbw3 (Below.drew (Below.refl _ _))) (OI.drew ho3) hg5 (Nat.le_refl _)
          have HR : Hid (z5.set j (k : Int) = nints (ordK xs (k + 1))) := by
            have hk' : k = ys.length := by omega
            unfold Hid
            rw [ins_nints HI.out, ← hys.out, hz5.out, hY, hz.out, hk']
            exact ins_copy ys (by omega) _
          clear hY hYl hrY hdr hrd hz hz5 hg3 hat3 hcz hg5 ho3 hbw3 hall
          obtain ⟨ad3, y3, rfl, _, hc3⟩ := ho5.ri.get (k := j) (by omega)
          obtain ⟨hs1, hs2, hs3⟩ := ho5.store j (k : Int)
          have hbw6 := OI.belowOwn hbw5 ho5 hs2 (Nat.le_refl _)
          have hlr : (z5.set j (k : Int)).length ≤ k + 1 ∧ k + 1 ≤ (z5.set j (k : Int)).length := by rw [HR.out, nints_length, ordK_length]; omega
          go_wp2_with fail
          go_roundw
          case rel => exact ⟨k + 1, _, _, z5.set j (k : Int), by omega, by go_num, by rw [List.length_set, show zs.length = z5.length by omega], HR, hlr.1, hlr.2, hs1, hbw6⟩
          case measure => simp [intOf]; omega
    · go_wp2_with fail
      go_ret
      have e : k = xs.length := by omega
      subst e
      exact ⟨_, _, ys, hid (hys.out.trans HF.out.symm), ho, rfl, hbw⟩
end Go.Proofs.Ytiaheikoifnbaaa
