/- Joined texts: contracts and plain facts that the laws share. No condition. -/
import Derived.Test.YtamljhjbmeikiaaGMa
import Derived.Test.YtamljhjbmeikiaaGPa
import Derived.Deep.CutRange
import Derived.Deep.QuietTactic
import Derived.Deep.RegionHeld3
/- Contracts: runs. No condition. -/
namespace Go.Proofs.Ytamljhjbmeikiaa
open Go Go.RowKit

/-- What a call answers: runs of the call's own. -/
def PRun (w : World) (f : List (Int × Int)) (e : Ending) (w' : World) : Prop :=
  ∃ A c rs, Hid (rs = f) ∧ OS eRun w' w.heap.size 77 A c rs ∧ e = .returned (.slice A rs.length c) ∧ Below w.heap.size w w'
set_option maxHeartbeats 1000000 in
theorem RunsOf_any (A : Option Addr) (c : Nat) (xs : List Int) (w : World) (hr : RI w A c xs) : Calls Try.prog 72 #[.slice A xs.length c] w (PRun w (runsF xs)) := by
  go_enter Try.func72, Try.ntmps72
  go_wp2_with fail
  refine (ListValid_any _ _ _ _ (hr.alloc _)).mono ?_
  rintro _ w' ⟨b, hb, rfl, rfl⟩
  cases b
  · go_wp2_with fail
    go_ret
    exact ⟨_, _, [], hid (by simp [runsF, hb.out.symm]), OS.empty eRun w w.heap.size _ (Nat.le_refl _), rfl, below_new _ _⟩
  have HF : Hid (runsF xs = runsL xs) := by simp [Hid, runsF, hb.out.symm]
  have hn : xs.length ≤ 40 := (listOk_iff.1 hb.out.symm).1
  clear hb
  go_wp2_with fail
  go_loopw [3, 13] (fun v i wr => ∃ (k : Nat) (A' : Option Addr) (c' : Nat) (rs : List (Int × Int)), k ≤ xs.length ∧ i = .int .i64 k ∧ v = .slice A' rs.length c' ∧ Hid (rs = runsL (xs.take k)) ∧ rs.length ≤ k ∧ OS eRun wr w.heap.size 77 A' c' rs ∧ Below w.heap.size w wr) (fun _ i _ => xs.length - (intOf i).toNat)
  case atStart => exact ⟨0, _, _, [], by omega, rfl, rfl, hid rfl, by simp, OS.empty eRun w w.heap.size _ (Nat.le_refl _), below_new _ _⟩
  case round =>
    obtain ⟨k, A', c', rs, hk, rfl, rfl, hrs, hl, ho, hbw⟩ := hrel
    obtain ⟨wo, rfl⟩ : ∃ wo : World, wo = wr := ⟨_, rfl⟩
    have hwz := hbw.size
    by_cases hlt : k < xs.length
    · obtain ⟨ad, x, rfl, HX, hc⟩ := (hr.below hbw).get hlt
      have HT := hid (take_snoc' HX.out)
      have hcase : Hid (k = 0) ∨ ∃ j t, Hid (k = j + 1 ∧ xs[j]? = some t) := by
        cases k with
        | zero => exact .inl rfl
        | succ j => exact .inr ⟨j, xs[j]'(by omega), rfl, List.getElem?_eq_getElem (by omega)⟩
      rcases hcase with h0 | ⟨j, t, hjt⟩
      · have hk0 : ((k : Int) == 0) = true := by simp [h0.out]
        obtain rfl : rs = [] := by rw [hrs.out, h0.out]; rfl
        have HR : Hid (runsL (xs.take (k + 1)) = [] ++ [(x, 0 + 1)]) := by unfold Hid; rw [HT.out, h0.out]; rfl
        clear h0 HX
        go_upto_region 9 with (at_builtin; refine wpl_appS (F := eRun) (ys := [(x, 0)]) runT rfl _ _ rfl rfl (ho.alloc _) rfl (OS.one eRun wo wo.heap.size 77 (x, 0) _ rfl (Nat.le_refl _)).rs (by simp) (by omega) (by simp; omega) ?_; intro A3 c3 w3 zs hz ho3 hg3 hat3; clear hat3)
        have hbw3 := OS.belowOwn (below_on hbw (below_new _ _)) (ho.alloc _) hg3 (Nat.le_refl _)
        have e := hz.out
        subst e
        clear hz hg3 ho hrs
        obtain ⟨q, hq⟩ : ∃ q : List (Int × Int), q = [] := ⟨_, rfl⟩
        obtain ⟨m, hm⟩ : ∃ m : Int, m = 0 := ⟨_, rfl⟩
        have ho3 : OS eRun w3 w.heap.size 77 A3 c3 (q ++ [(x, m)]) := by rw [hq, hm]; exact ho3
        have HR : Hid (runsL (xs.take (k + 1)) = q ++ [(x, m + 1)]) := by rw [hq, hm]; exact HR
        have e9 : (([] : List (Int × Int)) ++ [(x, 0)]).length = (q ++ [(x, m)]).length := by rw [hq, hm]
        rw [e9]
        clear e9
        have hqk : q.length ≤ k := by rw [hq]; simp
        have hm0 : 0 ≤ m ∧ m ≤ 40 := by omega
        obtain ⟨hm0, hm1⟩ := hm0
        clear hq hm
        obtain ⟨ad3, hA3, _, hcs⟩ := ho3.rs.at_ (k := q.length) at_last (by decide)
        subst hA3
        have k1 := hcs 1 (by decide)
        obtain ⟨hs1, hs2, hs3⟩ := ho3.store (k := q.length) (j := 1) (y := (x, m + 1)) (u := .int .i64 (m + 1)) at_last (by decide) rfl
        have hbw4 := OS.belowOwn hbw3 ho3 hs2 (Nat.le_refl _)
        rw [set_last] at hs1
        clear ho3 hs2 hcs
        have e4 : ad3.add (q.length * eRun.sz + 1) = ⟨(ad3.add (q.length * 2)).block, (ad3.add (q.length * 2)).off + 1, none⟩ := add_field ad3 (q.length * 2) (j := 1) (by decide)
        rw [e4] at hs1 hbw4 k1 hs3
        clear e4
        have k1' : w3.cell? ⟨(ad3.add (q.length * 2)).block, (ad3.add (q.length * 2)).off + 1, none⟩ = some (.int .i64 m) := k1
        clear k1
        have hql' : (q ++ [(x, m)]).length = q.length + 1 := by simp
        rw [hql']
        clear hql'
        go_wp2_with fail
        go_roundw
        case rel => exact ⟨k + 1, _, _, q ++ [(x, m + 1)], by omega, by go_num, by simp, hid HR.out.symm, by simp; omega, hs1, hbw4⟩
        case measure => simp [intOf]; omega
      · obtain ⟨hkj, hxj⟩ := hjt.out
        obtain ⟨q, m, hq, hm1, hm2, hql⟩ := runsL_last j xs t (by omega) hxj
        have HQ := hid (hrs.out.trans (hkj ▸ hq))
        obtain ⟨_, t', he, HY, hc2⟩ := (hr.below hbw).get (k := j) (by omega)
        injection he with he
        subst he
        obtain rfl : t' = t := Option.some.inj (HY.out.symm.trans hxj)
        have hHR := hid ((congrArg runsL HT.out).trans ((runsL_snoc _ _).trans (congrArg (runStep · x) (hkj ▸ hq))))
        have hj1 : ((k : Int) - 1).toNat = j := by omega
        have hj2 : 0 ≤ (k : Int) - 1 := by omega
        have hj3 : 1 ≤ (k : Int) := by omega
        have hj4 : j < xs.length := by omega
        have hk1 : ((k : Int) == 0) = false := by rw [beq_eq_false_iff_ne]; omega
        have hqk : q.length ≤ k := by omega
        have hm0 : 0 ≤ m := by omega
        have hm1 : m ≤ 40 := by omega
        clear hq hxj hjt HX HY hkj
        by_cases hxt : t' = x
        · subst hxt
          have hqq : (t' != t') = false := by simp
          have HR := hid (hHR.out.trans (runStep_same _ _ _))
          have hq := HQ.out
          subst hq
          clear HQ hHR hrs
          go_upto_region 9 with fail
          have ho3 := ho
          have hbw3 := hbw
          obtain ⟨w3, rfl⟩ : ∃ w3 : World, w3 = wo := ⟨_, rfl⟩
          obtain ⟨x, rfl⟩ : ∃ x, x = t' := ⟨_, rfl⟩
          clear ho hbw
          obtain ⟨ad3, hA3, _, hcs⟩ := ho3.rs.at_ (k := q.length) at_last (by decide)
          subst hA3
          have k1 := hcs 1 (by decide)
          obtain ⟨hs1, hs2, hs3⟩ := ho3.store (k := q.length) (j := 1) (y := (x, m + 1)) (u := .int .i64 (m + 1)) at_last (by decide) rfl
          have hbw4 := OS.belowOwn hbw3 ho3 hs2 (Nat.le_refl _)
          rw [set_last] at hs1
          clear ho3 hs2 hcs
          have e4 : ad3.add (q.length * eRun.sz + 1) = ⟨(ad3.add (q.length * 2)).block, (ad3.add (q.length * 2)).off + 1, none⟩ := add_field ad3 (q.length * 2) (j := 1) (by decide)
          rw [e4] at hs1 hbw4 k1 hs3
          clear e4
          have k1' : w3.cell? ⟨(ad3.add (q.length * 2)).block, (ad3.add (q.length * 2)).off + 1, none⟩ = some (.int .i64 m) := k1
          clear k1
          have hql' : (q ++ [(x, m)]).length = q.length + 1 := by simp
          rw [hql']
          clear hql'
          go_wp2_with fail
          go_roundw
          case rel => exact ⟨k + 1, _, _, q ++ [(x, m + 1)], by omega, by go_num, by simp, hid HR.out.symm, by simp; omega, hs1, hbw4⟩
          case measure => simp [intOf]; omega
        · have hqq : (t' != x) = true := by simp [hxt]
          have HR : Hid (runsL (xs.take (k + 1)) = rs ++ [(x, 0 + 1)]) := by
            unfold Hid
            rw [hHR.out, runStep_other hxt, HQ.out]; rfl
          clear hxt HQ hHR hm2 hql hqk hm0 hm1
          go_upto_region 9 with (at_builtin; refine wpl_appS (F := eRun) (ys := [(x, 0)]) runT rfl _ _ rfl rfl (ho.alloc _) rfl (OS.one eRun wo wo.heap.size 77 (x, 0) _ rfl (Nat.le_refl _)).rs (by simp; omega) (by omega) (by simp; omega) ?_; intro A3 c3 w3 zs hz ho3 hg3 hat3; clear hat3)
          have hbw3 := OS.belowOwn (below_on hbw (below_new _ _)) (ho.alloc _) hg3 (Nat.le_refl _)
          have e := hz.out
          subst e
          clear hz hg3 ho hrs
          obtain ⟨q, rfl⟩ : ∃ q, q = rs := ⟨_, rfl⟩
          obtain ⟨m, hm⟩ : ∃ m : Int, m = 0 := ⟨_, rfl⟩
          rw [← hm] at ho3 HR ⊢
          have hqk := hl
          have hm0 : 0 ≤ m := by omega
          have hm1 : m ≤ 40 := by omega
          clear hm
          obtain ⟨ad3, hA3, _, hcs⟩ := ho3.rs.at_ (k := q.length) at_last (by decide)
          subst hA3
          have k1 := hcs 1 (by decide)
          obtain ⟨hs1, hs2, hs3⟩ := ho3.store (k := q.length) (j := 1) (y := (x, m + 1)) (u := .int .i64 (m + 1)) at_last (by decide) rfl
          have hbw4 := OS.belowOwn hbw3 ho3 hs2 (Nat.le_refl _)
          rw [set_last] at hs1
          clear ho3 hs2 hcs
          have e4 : ad3.add (q.length * eRun.sz + 1) = ⟨(ad3.add (q.length * 2)).block, (ad3.add (q.length * 2)).off + 1, none⟩ := add_field ad3 (q.length * 2) (j := 1) (by decide)
          rw [e4] at hs1 hbw4 k1 hs3
          clear e4
          have k1' : w3.cell? ⟨(ad3.add (q.length * 2)).block, (ad3.add (q.length * 2)).off + 1, none⟩ = some (.int .i64 m) := k1
          clear k1
          have hql' : (q ++ [(x, m)]).length = q.length + 1 := by simp
          rw [hql']
          clear hql'
          go_wp2_with fail
          go_roundw
          case rel => exact ⟨k + 1, _, _, q ++ [(x, m + 1)], by omega, by go_num, by simp, hid HR.out.symm, by simp; omega, hs1, hbw4⟩
          case measure => simp [intOf]; omega
    · go_wp2_with fail
      go_ret
      have e : k = xs.length := by omega
      subst e
      exact ⟨_, _, rs, hid (by rw [HF.out, hrs.out, List.take_of_length_le (Nat.le_refl _)]), ho, rfl, hbw⟩
set_option maxHeartbeats 1000000 in
theorem l4Runs_any (A : Option Addr) (c : Nat) (xs : List Int) (w : World) (hr : RI w A c xs) (hn : xs.length ≤ 1000000) : Calls Try.prog 122 #[.slice A xs.length c] w (PRun w (runsL xs)) := by
  go_enter Try.func122, Try.ntmps122
  go_wp2_with fail
  go_loopw [3, 4] (fun v i wr => ∃ (k : Nat) (A' : Option Addr) (c' : Nat) (rs : List (Int × Int)), k ≤ xs.length ∧ i = .int .i64 k ∧ v = .slice A' rs.length c' ∧ Hid (rs = runsL (xs.take k)) ∧ rs.length ≤ k ∧ OS eRun wr w.heap.size 77 A' c' rs ∧ Below w.heap.size w wr) (fun _ i _ => xs.length - (intOf i).toNat)
  case atStart => exact ⟨0, _, _, [], by omega, rfl, rfl, hid rfl, by simp, OS.empty eRun w w.heap.size _ (Nat.le_refl _), below_new _ _⟩
  case round =>
    obtain ⟨k, A', c', rs, hk, rfl, rfl, hrs, hl, ho, hbw⟩ := hrel
    obtain ⟨wo, rfl⟩ : ∃ wo : World, wo = wr := ⟨_, rfl⟩
    have hwz := hbw.size
    by_cases hlt : k < xs.length
    · obtain ⟨ad, x, rfl, HX, hc⟩ := (hr.below hbw).get hlt
      have HT := hid (take_snoc' HX.out)
      have hcase : Hid (k = 0) ∨ ∃ j t, Hid (k = j + 1 ∧ xs[j]? = some t) := by
        cases k with
        | zero => exact .inl rfl
        | succ j => exact .inr ⟨j, xs[j]'(by omega), rfl, List.getElem?_eq_getElem (by omega)⟩
      rcases hcase with h0 | ⟨j, t, hjt⟩
      · have hk0 : decide ((0 : Int) < (k : Int)) = false := by simp [h0.out]
        have hk00 : decide (0 < k) = false := by simp [h0.out]
        have hk1 : ¬ 0 < k := by have := h0.out; omega
        have HR : Hid (runsL (xs.take (k + 1)) = [(x, 1)]) := by unfold Hid; rw [HT.out, h0.out]; rfl
        have hrs0 : Hid (rs = []) := by unfold Hid; rw [hrs.out, h0.out]; rfl
        clear h0 HX
        go_wp2_with fail
        go_quiet (fail)
        have ho2 : OS eRun (wo.drewN nq) w.heap.size 77 A' c' rs := ho.below (below_drewN (Below.refl _ _) _)
        have hbw2 := below_drewN hbw nq
        go_wp2_with (at_builtin; refine wpl_appS (F := eRun) (ys := [(x, 1)]) runT rfl _ _ rfl rfl (ho2.alloc _) rfl (OS.one eRun (wo.drewN nq) wo.heap.size 77 (x, 1) _ rfl (Nat.le_refl _)).rs (by simp; omega) (by omega) (by simp; omega) ?_; intro A3 c3 w3 zs hz ho3 hg3 hat3; clear hat3)
        have hbw3 := OS.belowOwn (below_on hbw2 (below_new _ _)) (ho2.alloc _) hg3 (Nat.le_refl _)
        have hzl : zs.length ≤ k + 1 := by rw [hz.out]; simp; omega
        go_roundw
        case rel => exact ⟨k + 1, _, _, zs, by omega, by go_num, rfl, hid (by rw [hz.out, hrs0.out, HR.out]; rfl), hzl, ho3, hbw3⟩
        case measure => simp [intOf]; omega
      · obtain ⟨hkj, hxj⟩ := hjt.out
        obtain ⟨q, m, hq, hm1, hm2, hql⟩ := runsL_last j xs t (by omega) hxj
        have HQ := hid (hrs.out.trans (hkj ▸ hq))
        obtain ⟨_, t', he, HY, hc2⟩ := (hr.below hbw).get (k := j) (by omega)
        injection he with he
        subst he
        obtain rfl : t' = t := Option.some.inj (HY.out.symm.trans hxj)
        have hHR := hid ((congrArg runsL HT.out).trans ((runsL_snoc _ _).trans (congrArg (runStep · x) (hkj ▸ hq))))
        have hj1 : ((k : Int) - 1).toNat = j := by omega
        have hj2 : 0 ≤ (k : Int) - 1 := by omega
        have hj3 : 1 ≤ (k : Int) := by omega
        have hj4 : j < xs.length := by omega
        have hj5 : 0 < (k : Int) := by omega
        have hj6 : 0 < k := by omega
        have hm0 : 0 ≤ m := by omega
        have hm1 : m ≤ 1000000 := by omega
        have hql2 : q.length + 1 ≤ k + 1 := by omega
        clear hq hxj hjt HX HY hkj
        by_cases hxt : t' = x
        · have hqq : (x == t') = true := by simp [hxt]
          have HR : Hid (runsL (xs.take (k + 1)) = q ++ [(x, m + 1)]) := by unfold Hid; rw [hHR.out, hxt, runStep_same]
          have hq : rs = q ++ [(x, m)] := by rw [HQ.out, hxt]
          subst hq
          clear HQ hHR hrs hxt
          go_wp2_with fail
          go_quiet (fail)
          have ho3 : OS eRun (wo.drewN nq) w.heap.size 77 A' c' (q ++ [(x, m)]) := ho.below (below_drewN (Below.refl _ _) _)
          have hbw3 := below_drewN hbw nq
          generalize wo.drewN nq = w3 at *
          clear ho hbw hc hc2
          go_upto_region 6 with fail
          obtain ⟨ad3, hA3, _, hcs⟩ := ho3.rs.at_ (k := q.length) at_last (by decide)
          subst hA3
          have k1 := hcs 1 (by decide)
          obtain ⟨hs1, hs2, hs3⟩ := ho3.store (k := q.length) (j := 1) (y := (x, m + 1)) (u := .int .i64 (m + 1)) at_last (by decide) rfl
          have hbw4 := OS.belowOwn hbw3 ho3 hs2 (Nat.le_refl _)
          rw [set_last] at hs1
          clear ho3 hs2 hcs
          have e4 : ad3.add (q.length * eRun.sz + 1) = ⟨(ad3.add (q.length * 2)).block, (ad3.add (q.length * 2)).off + 1, none⟩ := add_field ad3 (q.length * 2) (j := 1) (by decide)
          rw [e4] at hs1 hbw4 k1 hs3
          clear e4
          have k1' : w3.cell? ⟨(ad3.add (q.length * 2)).block, (ad3.add (q.length * 2)).off + 1, none⟩ = some (.int .i64 m) := k1
          clear k1
          have hql' : (q ++ [(x, m)]).length = q.length + 1 := by simp
          rw [hql']
          clear hql'
          go_wp2_with fail
          go_roundw
          case rel => exact ⟨k + 1, _, _, q ++ [(x, m + 1)], by omega, by go_num, by simp, hid HR.out.symm, by simp; omega, hs1, hbw4⟩
          case measure => simp [intOf]; omega
        · have hqq : (x == t') = false := by rw [beq_eq_false_iff_ne]; exact fun e => hxt e.symm
          have HR : Hid (runsL (xs.take (k + 1)) = rs ++ [(x, 1)]) := by
            unfold Hid
            rw [hHR.out, runStep_other hxt, HQ.out]
          clear hxt HQ hHR
          go_wp2_with fail
          go_quiet (fail)
          have ho2 : OS eRun (wo.drewN nq) w.heap.size 77 A' c' rs := ho.below (below_drewN (Below.refl _ _) _)
          have hbw2 := below_drewN hbw nq
          go_wp2_with (at_builtin; refine wpl_appS (F := eRun) (ys := [(x, 1)]) runT rfl _ _ rfl rfl (ho2.alloc _) rfl (OS.one eRun (wo.drewN nq) wo.heap.size 77 (x, 1) _ rfl (Nat.le_refl _)).rs (by simp; omega) (by omega) (by simp; omega) ?_; intro A3 c3 w3 zs hz ho3 hg3 hat3; clear hat3)
          have hbw3 := OS.belowOwn (below_on hbw2 (below_new _ _)) (ho2.alloc _) hg3 (Nat.le_refl _)
          have hzl : zs.length ≤ k + 1 := by rw [hz.out]; simp; omega
          go_roundw
          case rel => exact ⟨k + 1, _, _, zs, by omega, by go_num, rfl, hid (by rw [hz.out, HR.out]), hzl, ho3, hbw3⟩
          case measure => simp [intOf]; omega
    · go_wp2_with fail
      go_ret
      have e : k = xs.length := by omega
      subst e
      exact ⟨_, _, rs, hid (by rw [hrs.out, List.take_of_length_le (Nat.le_refl _)]), ho, rfl, hbw⟩
end Go.Proofs.Ytamljhjbmeikiaa
/- Contracts: matches. No condition. -/
namespace Go.Proofs.Ytamljhjbmeikiaa
open Go Go.RowKit
theorem matchLong_any (A : Option Addr) (c : Nat) (xs : List Int) (a b : Nat) (w : World) (hr : RI w A c xs) (hn : xs.length ≤ 1000000) (ha : a < xs.length) (hb : 1 ≤ b) (hba : b ≤ a) :
    Calls Try.prog 115 #[.slice A xs.length c, .int .i64 a, .int .i64 b] w (PNb w (mlen xs a b)) := by
  obtain ⟨ad0, x0, rfl, -, -⟩ := hr.get (k := 0) (by omega)
  go_enter Try.func115, Try.ntmps115
  go_wp2_with fail
  go_loopw [7] (fun i wr => ∃ n : Nat, n ≤ 9 ∧ i = .int .i64 n ∧ Hid (mlenF xs a b (9 - n) n = mlen xs a b) ∧ Below w.heap.size w wr) (fun i _ => 9 - (intOf i).toNat)
  case atStart => exact ⟨0, by omega, rfl, rfl, Below.refl _ _⟩
  case round =>
    obtain ⟨n, hn9, rfl, hh, hbw⟩ := hrel
    obtain ⟨wo, rfl⟩ : ∃ wo : World, wo = wr := ⟨_, rfl⟩
    by_cases h9 : (n : Int) < 9
    · by_cases hlt : (a : Int) + (n : Int) < (xs.length : Int)
      · obtain ⟨ad, x, he1, HX, hc⟩ := (hr.below hbw).get (k := a + n) (by omega)
        obtain ⟨ad', y, he2, HY, hc'⟩ := (hr.below hbw).get (k := a + n - b) (by omega)
        injection he1 with he1
        injection he2 with he2
        subst he1 he2
        have hq1 : a + n < xs.length := by omega
        have hq2 : ((a : Int) + (n : Int) - (b : Int)).toNat = a + n - b := by omega
        have hq3 : 0 ≤ (a : Int) + (n : Int) - (b : Int) := by omega
        have hq4 : (b : Int) ≤ (a : Int) + (n : Int) := by omega
        have hq5 : a + n - b < xs.length := by omega
        have hq6 : IntKind.i64.wrap ((a : Int) + (n : Int) - (b : Int)) = (a : Int) + (n : Int) - (b : Int) := IntWalk.i64_in _ (by omega)
        by_cases hxy : x = y
        · have HR := hid (mrun_yes (n := n) (by omega) HX.out (hxy ▸ HY.out))
          have HS := hid (mlen_step hh.out (by omega) HR.out)
          have hq : (x == y) = true := by simp [hxy]
          clear hxy HX HY
          go_wp2_with fail
          go_quiet (fail)
          go_wp2_with fail
          go_roundw
          case rel => exact ⟨n + 1, by omega, by go_num, HS, below_drewN hbw _⟩
          case measure => simp [intOf]; omega
        · have HR := hid (mrun_no HX.out HY.out hxy)
          have hq : (x == y) = false := by simp [hxy]
          clear hxy HX HY
          go_wp2_with fail
          go_quiet (fail)
          go_wp2_with fail
          go_ret
          exact ⟨_, hid (by rw [mlen_stop hh.out HR.out]), rfl, below_drewN hbw _⟩
      · have hlt' : decide ((a : Int) + (n : Int) < (xs.length : Int)) = false := by simpa using hlt
        have hlt2 : decide (a + n < xs.length) = false := by simp; omega
        have HR := hid (mrun_end (xs := xs) (at_ := a) (back := b) (n := n) (by omega))
        go_wp2_with fail
        go_quiet (fail)
        go_wp2_with fail
        go_ret
        exact ⟨_, hid (by rw [mlen_stop hh.out HR.out]), rfl, below_drewN hbw _⟩
    · have h9' : decide ((n : Int) < 9) = false := by simpa using h9
      have HR := hid (mrun_nine (xs := xs) (at_ := a) (back := b) (n := n) (by omega))
      go_wp2_with fail
      go_quiet (fail)
      go_wp2_with fail
      go_ret
      exact ⟨_, hid (by rw [mlen_stop hh.out HR.out]), rfl, below_drewN hbw _⟩
theorem l14Same_any (A : Option Addr) (c : Nat) (xs : List Int) (a b : Nat) (w : World) (hr : RI w A c xs) (hn : xs.length ≤ 1000000) (ha : a < xs.length) (hb : 1 ≤ b) (hba : b ≤ a) :
    Calls Try.prog 136 #[.slice A xs.length c, .int .i64 a, .int .i64 b] w (PNb w (mlen xs a b)) := by
  obtain ⟨ad0, x0, rfl, -, -⟩ := hr.get (k := 0) (by omega)
  go_enter Try.func136, Try.ntmps136
  go_wp2_with fail
  go_loopw [7] (fun i wr => ∃ n : Nat, n ≤ 9 ∧ i = .int .i64 n ∧ Hid (mlenF xs a b (9 - n) n = mlen xs a b) ∧ Below w.heap.size w wr) (fun i _ => 9 - (intOf i).toNat)
  case atStart => exact ⟨0, by omega, rfl, rfl, Below.refl _ _⟩
  case round =>
    obtain ⟨n, hn9, rfl, hh, hbw⟩ := hrel
    obtain ⟨wo, rfl⟩ : ∃ wo : World, wo = wr := ⟨_, rfl⟩
    by_cases h9 : (n : Int) < 9
    · by_cases hlt : (a : Int) + (n : Int) < (xs.length : Int)
      · obtain ⟨ad, x, he1, HX, hc⟩ := (hr.below hbw).get (k := a + n) (by omega)
        obtain ⟨ad', y, he2, HY, hc'⟩ := (hr.below hbw).get (k := a + n - b) (by omega)
        injection he1 with he1
        injection he2 with he2
        subst he1 he2
        have hq1 : a + n < xs.length := by omega
        have hq2 : ((a : Int) + (n : Int) - (b : Int)).toNat = a + n - b := by omega
        have hq3 : 0 ≤ (a : Int) + (n : Int) - (b : Int) := by omega
        have hq4 : (b : Int) ≤ (a : Int) + (n : Int) := by omega
        have hq5 : a + n - b < xs.length := by omega
        have hq6 : IntKind.i64.wrap ((a : Int) + (n : Int) - (b : Int)) = (a : Int) + (n : Int) - (b : Int) := IntWalk.i64_in _ (by omega)
        by_cases hxy : x = y
        · have HR := hid (mrun_yes (n := n) (by omega) HX.out (hxy ▸ HY.out))
          have HS := hid (mlen_step hh.out (by omega) HR.out)
          have hq : (x == y) = true := by simp [hxy]
          clear hxy HX HY
          go_wp2_with fail
          go_quiet (fail)
          go_wp2_with fail
          go_roundw
          case rel => exact ⟨n + 1, by omega, by go_num, HS, below_drewN hbw _⟩
          case measure => simp [intOf]; omega
        · have HR := hid (mrun_no HX.out HY.out hxy)
          have hq : (x == y) = false := by simp [hxy]
          clear hxy HX HY
          go_wp2_with fail
          go_quiet (fail)
          go_wp2_with fail
          go_ret
          exact ⟨_, hid (by rw [mlen_stop hh.out HR.out]), rfl, below_drewN hbw _⟩
      · have hlt' : decide ((a : Int) + (n : Int) < (xs.length : Int)) = false := by simpa using hlt
        have hlt2 : decide (a + n < xs.length) = false := by simp; omega
        have HR := hid (mrun_end (xs := xs) (at_ := a) (back := b) (n := n) (by omega))
        go_wp2_with fail
        go_quiet (fail)
        go_wp2_with fail
        go_ret
        exact ⟨_, hid (by rw [mlen_stop hh.out HR.out]), rfl, below_drewN hbw _⟩
    · have h9' : decide ((n : Int) < 9) = false := by simpa using h9
      have HR := hid (mrun_nine (xs := xs) (at_ := a) (back := b) (n := n) (by omega))
      go_wp2_with fail
      go_quiet (fail)
      go_wp2_with fail
      go_ret
      exact ⟨_, hid (by rw [mlen_stop hh.out HR.out]), rfl, below_drewN hbw _⟩
end Go.Proofs.Ytamljhjbmeikiaa
/- Contracts: the least costs. No condition. -/
namespace Go.Proofs.Ytamljhjbmeikiaa
open Go Go.RowKit
set_option maxRecDepth 100000 in
set_option maxHeartbeats 2000000 in
theorem costsFrom_any (A : Option Addr) (c : Nat) (xs : List Int) (w : World) (hr : RI w A c xs) (hn : xs.length ≤ 100000) :
    Calls Try.prog 100 #[.slice A xs.length c] w (PL w (costsL xs)) := by
  go_enter Try.func100, Try.ntmps100
  go_upto_region 2 with (refine wpl_make intT rfl _ _ rfl (xs.length + 1) rfl rfl (by simp) (by simp) (by omega) w.heap.size (Nat.le_refl _) ?_; intro A1 w1 zs hz hz1 hz2 ho1 hg1 hb1)
  have e1 : zs.length = xs.length + 1 := by omega
  rw [e1]
  have hbw1 : Below w.heap.size w w1 := (Below.refl _ _).grown hg1 (Nat.le_refl _) (by simp)
  clear e1 hz1 hz2
  go_wp2_with fail
  go_loopw [4] (fun t wr => ∃ (j : Nat) (os : List Int), j ≤ xs.length ∧ t = .int .i64 ((j : Int) - 1) ∧ Hid (os = List.replicate j 0 ++ costF xs (xs.length - j)) ∧ OI wr w.heap.size A1 (xs.length + 1) os ∧ Below w.heap.size w wr) (fun t _ => ((intOf t) + 1).toNat)
  case atStart => exact ⟨xs.length, zs, by omega, rfl, hid (by rw [hz.out, Nat.sub_self]; simp [costF, List.replicate_succ']), ho1, hbw1⟩
  case round =>
    clear hz ho1 hbw1
    obtain ⟨j, os, hj, rfl, hos, ho, hbw⟩ := hrel
    obtain ⟨wo, rfl⟩ : ∃ wo : World, wo = wr := ⟨_, rfl⟩
    cases j with
    | zero =>
      have e0 : (((0 : Nat) : Int) - 1) = -1 := by omega
      rw [e0]
      clear e0
      have hol : os.length = xs.length + 1 := by rw [hos.out]; simp [costF_length]
      have HO : Hid (os = costsL xs) := by unfold Hid; rw [hos.out]; simp [costsL]
      go_wp2_with fail
      go_ret
      exact ⟨_, _, os, HO, ho, ret_slice hol.symm, hbw⟩
    | succ j =>
      obtain ⟨cs, hcs⟩ : ∃ cs, cs = costF xs (xs.length - (j + 1)) := ⟨_, rfl⟩
      have hcl : cs.length = xs.length - j := by rw [hcs, costF_length]; omega
      have hcb : ∀ x ∈ cs, 0 ≤ x ∧ x ≤ 4 * 100000 := by
        rw [hcs]
        intro x hx
        have := costF_bd xs _ x hx
        omega
      have HCB := hid hcb
      obtain ⟨c0, cs', hc0⟩ : ∃ c0 cs', cs = c0 :: cs' := by
        cases cs with
        | nil => simp at hcl; omega
        | cons c0 cs' => exact ⟨c0, cs', rfl⟩
      have hos2 : os = arr j 0 cs := by rw [hos.out, ← hcs, arr_open]
      have HD : Hid (costF xs (xs.length - j) = (bestC cs (xs.getD j 0) (cands xs j)).1 :: cs) := by
        unfold Hid
        rw [hcs, show xs.length - j = (xs.length - (j + 1)) + 1 by omega, costF, show xs.length - (xs.length - (j + 1) + 1) = j by omega]
      have hc0b := hcb c0 (by rw [hc0]; simp)
      have hg0 : os[j + 1]? = some c0 := by rw [hos2, arr_there _ _ (by omega), hc0]; rfl
      have HC0 := hid hc0
      have hcl1 : cs.length ≤ xs.length - j := by omega
      have hcl2 : xs.length - j ≤ cs.length := by omega
      obtain ⟨ad1, y1, rfl, -, k0⟩ := ho.ri.get (k := j) (by rw [hos2, arr_length]; omega)
      have k1 := ho.ri.cellAt hg0
      have k1' : wo.cell? ⟨ad1.block, ad1.off + (j + 1), none⟩ = some (.int .i64 c0) := by simpa [Addr.add] using k1
      obtain ⟨hs1, hs2, hs3⟩ := ho.store j (4 + c0)
      rw [hos2, arr_set] at hs1
      have hbw2 := OI.belowOwn hbw ho hs2 (Nat.le_refl _)
      have HB0 : Hid (4 + c0 = (bestC cs (xs.getD j 0) (candsP xs j 0 0)).1) := by unfold Hid; rw [candsP_zero, HC0.out]; rfl
      clear hos hos2 hcs hcb hcl hc0 hg0 k1 ho hbw hs2
      obtain ⟨hc0b1, hc0b2⟩ := hc0b
      rw [show (((j + 1 : Nat) : Int) - 1) = (j : Int) by omega]
      have hjn : j < xs.length := by omega
      go_wp2_with fail
      generalize wo.setCell (ad1.add j) (.int .i64 (4 + c0)) = w2 at *
      have hj16 : (j : Int) < 16 ∨ (16 : Int) ≤ (j : Int) := by omega
      clear k1' hs3 k0
      generalize 4 + c0 = v0 at *
      rcases hj16 with hj16 | hj16
      all_goals
        go_loopw [5] (fun t wi => ∃ (b : Nat) (v : Int), b ≤ min 16 j ∧ t = .int .i64 ((b : Int) + 1) ∧ Hid (v = (bestC cs (xs.getD j 0) (candsP xs j b 0)).1) ∧ OI wi w.heap.size (some ad1) (xs.length + 1) (arr j v cs) ∧ Below w.heap.size w wi) (fun t _ => 17 - (intOf t).toNat)
        case atStart => exact ⟨0, v0, by omega, rfl, HB0, hs1, hbw2⟩
        case round =>
          clear hs1 hbw2 HB0
          obtain ⟨b, v, hb, rfl, hv, ho, hbw⟩ := hrel
          obtain ⟨w3, rfl⟩ : ∃ w3 : World, w3 = wr := ⟨_, rfl⟩
          by_cases hbm : b < min 16 j
          · have hb1 : (b : Int) + 1 ≤ 16 := by omega
            have hb2 : (b : Int) + 1 ≤ (j : Int) := by omega
            go_wp2_with fail
            go_loopw [6] (fun t wi => ∃ (k : Nat) (v : Int), k ≤ mlen xs j (b + 1) - 1 ∧ t = .int .i64 ((k : Int) + 2) ∧ Hid (v = (bestC cs (xs.getD j 0) (candsP xs j b k)).1) ∧ OI wi w.heap.size (some ad1) (xs.length + 1) (arr j v cs) ∧ Below w.heap.size w wi) (fun t _ => 11 - (intOf t).toNat)
            case atStart => exact ⟨0, v, by omega, rfl, hv, ho, hbw⟩
            case round =>
              clear hv ho hbw
              obtain ⟨k, v, hk, rfl, hv, ho, hbw⟩ := hrel
              have hm9 := mlen_le xs j (b + 1)
              have hmi := mlen_in (xs := xs) (at_ := j) (back := b + 1) (by omega)
              go_wp2_with fail
              refine (matchLong_any _ _ _ _ (b + 1) _ (hr.below hbw) (by omega) hjn (by omega) (by omega)).mono ?_
              rintro _ w4 ⟨n, hnm, rfl, hb4⟩
              have ho4 := ho.below hb4
              have hbw4 := below_on hbw hb4
              have HM := hnm.out
              by_cases hkm : k < mlen xs j (b + 1) - 1
              · have hkn : (k : Int) + 2 ≤ n := by omega
                obtain ⟨y, hy⟩ : ∃ y, cs[k + 1]? = some y := ⟨_, List.getElem?_eq_getElem (by omega)⟩
                have hyb := HCB.out y (List.mem_of_getElem? hy)
                have hvb := bestC_bd (s := xs.getD j 0) HCB.out (by omega) (candsP xs j b k)
                rw [← hv.out] at hvb
                have hgy : (arr j v cs)[j + (k + 2)]? = some y := by rw [arr_there _ _ (by omega)]; exact hy
                have HN : Hid (min v (8 + y) = (bestC cs (xs.getD j 0) (candsP xs j b (k + 1))).1) := by
                  unfold Hid
                  rw [candsP_snoc, bestC_fst, ← hv.out]
                  unfold mcost
                  simp only
                  rw [List.getD_eq_getElem?_getD, show k + 2 - 1 = k + 1 by omega, hy]; rfl
                have k2 := (ho4.drew).ri.cellAt hgy
                have k3 := (ho4.drew).ri.cellAt (arr_here j v cs)
                have hal : (arr j v cs).length = xs.length + 1 := by rw [arr_length]; omega
                obtain ⟨hs1, hs2, hs3⟩ := (ho4.drew).store j (min v (8 + y))
                rw [arr_set] at hs1
                have hbw5 := OI.belowOwn (below_on hbw4 (Below.drew (Below.refl _ _))) ho4.drew hs2 (Nat.le_refl _)
                have hi1 : j + (k + 2) < xs.length + 1 := by omega
                have hi2 : j < xs.length + 1 := by omega
                have hi3 : (0 : Int) ≤ (j : Int) := by omega
                have hi4 : (j : Int) < (xs.length : Int) + 1 := by omega
                have hi5 : IntKind.i64.wrap ((j : Int) + ((k : Int) + 2)) = (j : Int) + ((k : Int) + 2) := IntWalk.i64_in _ (by omega)
                have hi6 : (0 : Int) ≤ (j : Int) + ((k : Int) + 2) := by omega
                have hi7 : (j : Int) + ((k : Int) + 2) < (xs.length : Int) + 1 := by omega
                have hi8 : ((j : Int) + ((k : Int) + 2)).toNat = j + (k + 2) := by omega
                have hi9 : IntKind.i64.wrap (8 + y) = 8 + y := IntWalk.i64_in _ (by omega)
                clear hv HM hnm hal
                have hvy : ¬ 8 + y < v ∨ 8 + y < v := by omega
                rcases hvy with hvy | hvy
                all_goals
                  first | (have HV : Hid (min v (8 + y) = v) := by unfold Hid; omega) | (have HV : Hid (min v (8 + y) = 8 + y) := by unfold Hid; omega)
                  rw [HV.out] at hs1 hs2 hbw5 HN
                  go_wp2_with fail
                  go_still_tail 15, (by kernel_rfl)
                  change wpList _ _ _ _ _ w4.drew
                  go_wp2_with fail
                  go_roundw
                  case rel => exact ⟨k + 1, _, by omega, by go_num, HN, hs1, hbw5⟩
                  case measure => simp [intOf]; omega
              · have hkn : n < (k : Int) + 2 := by omega
                have HK : Hid (k = mlen xs j (b + 1) - 1) := by unfold Hid; omega
                clear HM hnm
                go_wp2_with fail
                go_roundw
                case rel => exact ⟨b + 1, v, by omega, by go_num, hid (by rw [hv.out, candsP_next HK.out]), ho4, hbw4⟩
                case measure => simp [intOf]; omega
          · have HB : Hid (b = min 16 j) := by unfold Hid; omega
            have HO : Hid (arr j v cs = List.replicate j 0 ++ costF xs (xs.length - j)) := by
              unfold Hid
              rw [HD.out, hv.out, HB.out, candsP_end]; rfl
            first | (have hb3 : (16 : Int) < (b : Int) + 1 := by omega) | (have hb3 : (j : Int) < (b : Int) + 1 := by omega)
            clear hbm HB hv
            go_wp2_with fail
            go_roundw
            case rel => exact ⟨j, _, by omega, by go_num, HO, ho, hbw⟩
            case measure => simp [intOf]
end Go.Proofs.Ytamljhjbmeikiaa
/- Contracts: the program's best tokens. No condition. -/
namespace Go.Proofs.Ytamljhjbmeikiaa
open Go Go.RowKit
/-- What a call answers: a token; tokens of the call's own. -/
def PTok (w : World) (t : Int × Int × Int) (e : Ending) (w' : World) : Prop :=
  ∃ x y z, Hid ((x, y, z) = t) ∧ e = .returned (.agg #[.int .i64 x, .int .i64 y, .int .i64 z]) ∧ Below w.heap.size w w'
def PToks (w : World) (f : List (Int × Int × Int)) (e : Ending) (w' : World) : Prop :=
  ∃ A c ts, Hid (ts = f) ∧ OS eTok w' w.heap.size 82 A c ts ∧ e = .returned (.slice A ts.length c) ∧ Below w.heap.size w w'
theorem below_box3 {w w' : World} {u v t : Value} (h : Below w.heap.size w w') : Below w.heap.size w (((w'.setCell ⟨w.heap.size, 0, none⟩ u).setCell ⟨w.heap.size, 1, none⟩ v).setCell ⟨w.heap.size, 2, none⟩ t) :=
  below_gb (gb_trans (gb_trans (gb_trans (gb_of h (some w.heap.size)) (gb_setCell w' ⟨w.heap.size, 0, none⟩ _)) (gb_setCell _ ⟨w.heap.size, 1, none⟩ _)) (gb_setCell _ ⟨w.heap.size, 2, none⟩ _)) (Nat.le_refl _)
theorem nots_snoc {xs : List Int} {a b k : Nat} {m : Int} {cs : List Int} (h : ∀ y ∈ candsP xs a b k, mcost cs y ≠ m) (h1 : mcost cs (b + 1, k + 2) ≠ m) : ∀ y ∈ candsP xs a b (k + 1), mcost cs y ≠ m := by
  rw [candsP_snoc]
  intro y hy
  rcases List.mem_append.1 hy with hy | hy
  · exact h y hy
  · simp at hy; subst hy; exact h1
set_option maxRecDepth 100000 in
set_option maxHeartbeats 2000000 in
theorem bestAt_any (A B : Option Addr) (c d : Nat) (xs : List Int) (a : Nat) (w : World) (hr : RI w A c xs) (hk : RI w B d (costsL xs)) (ha : a < xs.length) (hn : xs.length ≤ 100000) :
    Calls Try.prog 101 #[.slice A xs.length c, .int .i64 a, .slice B (costsL xs).length d] w (PTok w (tokAt xs a)) := by
  have B0 := BX.new w #[.int .i64 0, .int .i64 0, .int .i64 0] 82
  have hbw0 := below_new w (.cells #[.int .i64 0, .int .i64 0, .int .i64 0] 82)
  have hcl : (costsL xs).length = xs.length + 1 := by unfold costsL; rw [costF_length]
  have h0 := cost_here ha
  have hbl := behind_length ha
  obtain ⟨c0, hc0⟩ : ∃ c0, (behind xs a)[0]? = some c0 := ⟨_, List.getElem?_eq_getElem (by omega)⟩
  have h1 := cost_there (n := 1) ha (by omega)
  rw [hc0] at h1
  have hb0 := behind_bd hn c0 (List.mem_of_getElem? hc0)
  obtain ⟨hb00, hb01⟩ := hb0
  have hbm := bestC_bd (s := xs.getD a 0) (behind_bd (a := a) hn) (by omega) (cands xs a)
  obtain ⟨hbm0, hbm1⟩ : 0 ≤ (bestS xs a).1 ∧ (bestS xs a).1 ≤ 400000 + 4 := hbm
  have hC0 : Hid ((behind xs a).getD 0 0 = c0) := by unfold Hid; rw [List.getD_eq_getElem?_getD, hc0]; rfl
  obtain ⟨adx, x, rfl, HX, hx⟩ := (hr.below hbw0).get ha
  obtain ⟨adk, y0, rfl, -, -⟩ := hk.get (k := 0) (by omega)
  have k1 := (hk.below hbw0).cellAt h0
  have k2 := (hk.below hbw0).cellAt h1
  have HC := hid hcl
  have hcl1 : a < (costsL xs).length := by omega
  have hcl2 : a + 1 < (costsL xs).length := by omega
  have H0 := hid (rfl : (bestS xs a).1 = (bestS xs a).1)
  obtain ⟨m, hm⟩ : ∃ m, m = (bestS xs a).1 := ⟨_, rfl⟩
  have HMM := hid hm
  rw [← hm] at k1 hbm0 hbm1
  have k2' : (w.alloc (.cells #[.int .i64 0, .int .i64 0, .int .i64 0] 82)).cell? ⟨adk.block, adk.off + (a + 1), none⟩ = some (.int .i64 c0) := by simpa [Addr.add] using k2
  have b0 := B0.cell 0
  have b1 := B0.cell 1
  have b2 := B0.cell 2
  clear h0 h1 hbl hc0 hcl H0 hm
  by_cases hq : m = 4 + c0
  · have HT := hid (tok_sym (xs := xs) (a := a) (by rw [← HMM.out, hC0.out]; exact hq))
    have hqq : (m == 4 + c0) = true := by simp [hq]
    have hxg : xs.getD a 0 = x := by rw [List.getD_eq_getElem?_getD, HX.out]; rfl
    have HXG := hid hxg
    clear hq HX hxg
    go_enter Try.func101, Try.ntmps101
    go_wp2_with fail
    go_quiet (fail)
    go_wp2_with fail
    have GB : BX ((w.alloc (.cells #[.int .i64 0, .int .i64 0, .int .i64 0] 82)).drewN nq) w.heap.size #[.int .i64 0, .int .i64 0, .int .i64 0] 82 := B0.below (below_drewN (Below.refl _ _) nq)
    have G := GB.set3 (.int .i64 x) (.int .i64 0) (.int .i64 0)
    have g0 := G.cell 0
    have g1 := G.cell 1
    have g2 := G.cell 2
    simp at g0 g1 g2
    refine bodyPost_ret (v := .agg #[.int .i64 x, .int .i64 0, .int .i64 0]) (by simp [results, Try.results101, go_sem, g0, g1, g2]) rfl ?_
    exact ⟨x, 0, 0, hid (by rw [HT.out, HXG.out]), rfl, below_box3 (below_drewN hbw0 nq)⟩
  · have hqq : (m == 4 + c0) = false := by simp [hq]
    have HQ : Hid ((bestS xs a).1 ≠ 4 + (behind xs a).getD 0 0) := by unfold Hid; rw [← HMM.out, hC0.out]; exact hq
    clear hq HX
    go_enter Try.func101, Try.ntmps101
    go_wp2_with fail
    go_quiet (fail)
    have GB : BX ((w.alloc (.cells #[.int .i64 0, .int .i64 0, .int .i64 0] 82)).drewN nq) w.heap.size #[.int .i64 0, .int .i64 0, .int .i64 0] 82 := B0.below (below_drewN (Below.refl _ _) nq)
    have hbw1 := below_drewN hbw0 nq
    generalize (w.alloc (.cells #[.int .i64 0, .int .i64 0, .int .i64 0] 82)).drewN nq = w1 at *
    clear B0 hbw0 b0 b1 b2 k1 k2 k2' hx
    go_wp2_with fail
    have hj16 : (a : Int) < 16 ∨ (16 : Int) ≤ (a : Int) := by omega
    rcases hj16 with hj16 | hj16
    all_goals
      go_loopw [7] (fun t wi => ∃ b : Nat, b ≤ min 16 a ∧ t = .int .i64 ((b : Int) + 1) ∧ Hid (∀ y ∈ candsP xs a b 0, mcost (behind xs a) y ≠ m) ∧ BX wi w.heap.size #[.int .i64 0, .int .i64 0, .int .i64 0] 82 ∧ Below w.heap.size w wi) (fun t _ => 17 - (intOf t).toNat)
      case atStart => exact ⟨0, by omega, rfl, hid (by rw [candsP_zero]; simp), GB, hbw1⟩
      case round =>
        clear GB hbw1
        obtain ⟨b, hb, rfl, hv, GB, hbw⟩ := hrel
        obtain ⟨w3, rfl⟩ : ∃ w3 : World, w3 = wr := ⟨_, rfl⟩
        by_cases hbm : b < min 16 a
        · have hb1 : (b : Int) + 1 ≤ 16 := by omega
          have hb2 : (b : Int) + 1 ≤ (a : Int) := by omega
          go_wp2_with fail
          go_loopw [8] (fun t wi => ∃ k : Nat, k ≤ mlen xs a (b + 1) - 1 ∧ t = .int .i64 ((k : Int) + 2) ∧ Hid (∀ y ∈ candsP xs a b k, mcost (behind xs a) y ≠ m) ∧ BX wi w.heap.size #[.int .i64 0, .int .i64 0, .int .i64 0] 82 ∧ Below w.heap.size w wi) (fun t _ => 11 - (intOf t).toNat)
          case atStart => exact ⟨0, by omega, rfl, hv, GB, hbw⟩
          case round =>
            clear hv GB hbw
            obtain ⟨k, hk', rfl, hv, GB, hbw⟩ := hrel
            have hm9 := mlen_le xs a (b + 1)
            have hmi := mlen_in (xs := xs) (at_ := a) (back := b + 1) (by omega)
            go_wp2_with fail
            refine (matchLong_any _ _ _ _ (b + 1) _ (hr.below hbw) (by omega) ha (by omega) (by omega)).mono ?_
            rintro _ w4 ⟨n, hnm, rfl, hb4⟩
            have hbw4 := below_on hbw hb4
            have GB4 := GB.below hb4
            have HM := hnm.out
            by_cases hkm : k < mlen xs a (b + 1) - 1
            · have hkn : (k : Int) + 2 ≤ n := by omega
              obtain ⟨y, hy⟩ : ∃ y, (behind xs a)[k + 1]? = some y := ⟨_, List.getElem?_eq_getElem (by rw [behind_length ha]; omega)⟩
              obtain ⟨hyb0, hyb1⟩ := behind_bd hn y (List.mem_of_getElem? hy)
              have hgy : (costsL xs)[a + (k + 2)]? = some y := by rw [cost_there ha (by omega)]; exact hy
              have hgm : (costsL xs)[a]? = some m := by rw [cost_here ha, HMM.out]
              have HMC : Hid (mcost (behind xs a) (b + 1, k + 2) = 8 + y) := by
                unfold Hid mcost
                simp only
                rw [List.getD_eq_getElem?_getD, show k + 2 - 1 = k + 1 by omega, hy]; rfl
              have k3 := (hk.below hbw4).cellAt hgy
              have k4 := (hk.below hbw4).cellAt hgm
              have k3' : w4.cell? ⟨adk.block, adk.off + (a + (k + 2)), none⟩ = some (.int .i64 y) := by simpa [Addr.add] using k3
              have hcx := HC.out
              have hi1 : a + (k + 2) < (costsL xs).length := by omega
              have hi4 : (a : Int) < ((costsL xs).length : Int) := by omega
              have hi3 : (0 : Int) ≤ (a : Int) := by omega
              have hi5 : IntKind.i64.wrap ((a : Int) + ((k : Int) + 2)) = (a : Int) + ((k : Int) + 2) := IntWalk.i64_in _ (by omega)
              have hi6 : (0 : Int) ≤ (a : Int) + ((k : Int) + 2) := by omega
              have hi7 : (a : Int) + ((k : Int) + 2) < ((costsL xs).length : Int) := by omega
              have hi8 : ((a : Int) + ((k : Int) + 2)).toNat = a + (k + 2) := by omega
              have hi9 : IntKind.i64.wrap (8 + y) = 8 + y := IntWalk.i64_in _ (by omega)
              clear hcx hy hgy hgm HM hnm
              by_cases hmy : m = 8 + y
              · have hq9 : (m == 8 + y) = true := by simp [hmy]
                have HT : Hid (tokAt xs a = (0, (b : Int) + 1, (k : Int) + 2)) := by
                  unfold Hid
                  refine tok_match HQ.out hbm hkm (by rw [HMC.out, ← HMM.out, hmy]) ?_
                  rw [← HMM.out]; exact hv.out
                have c0' := GB4.cell 0
                have c1' := GB4.cell 1
                have c2' := GB4.cell 2
                have f0' := GB4.frozen 0
                have f1' := GB4.frozen 1
                have f2' := GB4.frozen 2
                simp at c0' c1' c2'
                clear hmy
                go_wp2_with fail
                go_quiet (fail)
                go_wp2_with fail
                have GB := GB4.below (below_drewN (Below.refl _ _) nq)
                have G := GB.set3 (.int .i64 0) (.int .i64 ((b : Int) + 1)) (.int .i64 ((k : Int) + 2))
                have g0 := G.cell 0
                have g1 := G.cell 1
                have g2 := G.cell 2
                simp at g0 g1 g2
                refine bodyPost_ret (v := .agg #[.int .i64 0, .int .i64 ((b : Int) + 1), .int .i64 ((k : Int) + 2)]) (by simp [results, Try.results101, go_sem, g0, g1, g2]) rfl ?_
                exact ⟨0, _, _, hid HT.out.symm, rfl, below_box3 (below_drewN hbw4 nq)⟩
              · have hq9 : (m == 8 + y) = false := by simp [hmy]
                have HN := hid (nots_snoc hv.out (by rw [HMC.out]; exact fun e => hmy e.symm))
                clear hmy
                go_wp2_with fail
                go_quiet (fail)
                go_wp2_with fail
                go_roundw
                case rel => exact ⟨k + 1, by omega, by go_num, HN, GB4.below (below_drewN (Below.refl _ _) _), below_drewN hbw4 _⟩
                case measure => simp [intOf]; omega
            · have hkn : n < (k : Int) + 2 := by omega
              have HK : Hid (k = mlen xs a (b + 1) - 1) := by unfold Hid; omega
              clear HM hnm
              go_wp2_with fail
              go_roundw
              case rel => exact ⟨b + 1, by omega, by go_num, hid (by rw [← candsP_next HK.out]; exact hv.out), GB4, hbw4⟩
              case measure => simp [intOf]; omega
        · exfalso
          have hbe : b = min 16 a := by omega
          refine tok_none HQ.out ?_
          rw [← HMM.out, ← candsP_end, ← hbe]
          exact hv.out
end Go.Proofs.Ytamljhjbmeikiaa
/- Contracts: the program's best parse. No condition. -/
namespace Go.Proofs.Ytamljhjbmeikiaa
open Go Go.RowKit
theorem tok_cases (xs : List Int) (a : Nat) : (tokAt xs a).2.2 = 0 ∨ 2 ≤ (tokAt xs a).2.2 := by
  rcases tok_is xs a with h | ⟨b, n, h, _, _, _, h4, _⟩
  · rw [h]; exact .inl rfl
  · rw [h]; exact .inr (by simp only; omega)
theorem BX.keepBy {w w' : World} {b : Nat} {vs : Array Value} {T : TypeId} (h : BX w b vs T) {row : Option Nat} (hg : w.grownBy w' row) (hne : row ≠ some b) : BX w' b vs T := (hg.block b h.lt (fun e => hne e.symm)).trans h
theorem OS.one1 {α : Type} (F : Enc α) (w : World) (o : Obj) (E : TypeId) (x : α) (cs : Array Value) (hc : cs.toList = F.enc x) : OS F ((w.alloc o).alloc (.cells cs E)) (w.heap.size + 1) E (some ⟨w.heap.size + 1, 0, none⟩) 1 [x] := by
  have h := OS.one F (w.alloc o) (w.alloc o).heap.size E x cs hc (Nat.le_refl _)
  have hs : (w.alloc o).heap.size = w.heap.size + 1 := by simp
  rw [hs] at h
  exact h
set_option maxHeartbeats 1000000 in
theorem ParseBest_any (A : Option Addr) (c : Nat) (xs : List Int) (w : World) (hr : RI w A c xs) : Calls Try.prog 77 #[.slice A xs.length c] w (PToks w (parseB xs)) := by
  go_enter Try.func77, Try.ntmps77
  go_wp2_with fail
  refine (ListValid_any _ _ _ _ (hr.alloc _)).mono ?_
  rintro _ w' ⟨b, hb, rfl, rfl⟩
  cases b
  · go_wp2_with fail
    go_ret
    exact ⟨_, _, [], hid (by simp [parseB, hb.out.symm]), OS.empty eTok w w.heap.size _ (Nat.le_refl _), rfl, below_new _ _⟩
  have HF : Hid (parseB xs = parseL xs) := by simp [Hid, parseB, hb.out.symm]
  have hn : xs.length ≤ 40 := (listOk_iff.1 hb.out.symm).1
  clear hb
  go_wp2_with fail
  refine (costsFrom_any _ _ _ _ (hr.alloc _) (by omega)).mono ?_
  rintro _ w1 ⟨A1, c1, cs, hcs, ho1, rfl, hb1⟩
  have hcs' := hcs.out
  subst hcs'
  have hoe := (OS.empty eTok w w.heap.size 82 (Nat.le_refl _)).below hb1
  have hbw1 := below_on (below_new w _) hb1
  go_wp2_with fail
  go_loopw [3, 5] (fun v t wr => ∃ (a : Nat) (A' : Option Addr) (c' : Nat) (ts : List (Int × Int × Int)), a ≤ xs.length ∧ t = .int .i64 a ∧ v = .slice A' ts.length c' ∧ Hid (ts ++ parseF xs xs.length a = parseL xs) ∧ ts.length ≤ a ∧ OS eTok wr w.heap.size 82 A' c' ts ∧ OI wr (w.alloc (Obj.cells #[] 82)).heap.size A1 c1 (costsL xs) ∧ (∀ b, blk A' = some b → blk A1 ≠ some b) ∧ Below w.heap.size w wr) (fun _ t _ => xs.length - (intOf t).toNat)
  case atStart => exact ⟨0, _, _, [], by omega, rfl, rfl, hid rfl, by simp, hoe, ho1, fun b hb hb' => by have := (OI.lt ho1 hb').1; simp [blk] at hb this; omega, hbw1⟩
  case round =>
    clear hoe hbw1
    obtain ⟨a, A', c', ts, ha, rfl, rfl, hts, hl, ho, hk, hdis, hbw⟩ := hrel
    obtain ⟨wo, rfl⟩ : ∃ wo : World, wo = wr := ⟨_, rfl⟩
    have hwz := hbw.size
    by_cases hlt : a < xs.length
    · have HP := hid (parse_step hlt)
      obtain ⟨t1, t2, t3, t4, t5, t6, t7⟩ := tok_len hlt
      have tc := tok_cases xs a
      go_wp2_with fail
      refine (bestAt_any _ _ _ _ _ a _ (hr.below hbw) hk.ri hlt (by omega)).mono ?_
      rintro _ w2 ⟨x, y, z, ht, rfl, hb2⟩
      have ho2 := ho.below hb2
      have hbw2 := below_on hbw hb2
      have hk2 := hk.below hb2
      have hs2 := hb2.size
      rw [← ht.out] at t4 t5 tc
      have HL : Hid (tokLen (tokAt xs a) = max z.toNat 1) := by unfold Hid; rw [← ht.out]; rfl
      rw [HL.out] at t1 t2 t3
      have C2 := BX.new w2 #[.int .i64 x, .int .i64 y, .int .i64 z] 82
      have hA' : ∀ b, blk A' = some b → b < w2.heap.size := fun b hb => (OS.lt ho2 hb).2
      rcases tc with rfl | tc
      · go_wp2_with (at_builtin; refine wpl_appS (F := eTok) (ys := [(x, y, 0)]) tokT rfl _ _ rfl rfl ((ho2.alloc _).alloc _) rfl (OS.one1 eTok w2 _ 82 (x, y, 0) _ rfl).rs (by simp; omega) (by omega) (by simp; omega) ?_; intro A3 c3 w3 us hu ho3 hg3 hat3; have hat4 := hid hat3; clear hat3; have C3 := (C2.alloc (.cells #[.int .i64 x, .int .i64 y, .int .i64 0] 82)).keepBy hg3 (fun e => by have := hA' _ e; omega); have k0 := C3.cell 2; simp at k0)
        have hk3 := ((hk2.alloc (.cells #[.int .i64 x, .int .i64 y, .int .i64 0] 82)).alloc (.cells #[.int .i64 x, .int .i64 y, .int .i64 0] 82)).grown hg3 (fun b hb hb' => hdis b hb' hb)
        have hbw3 := OS.belowOwn (below_on (below_on hbw2 (below_new _ _)) (below_new _ _)) ((ho2.alloc _).alloc _) hg3 (Nat.le_refl _)
        have hul : us.length ≤ ts.length + 1 := by rw [hu.out]; simp
        have hdis3 : ∀ b, blk A3 = some b → blk A1 ≠ some b := fun b hb hb' => by
          have h1 := (OI.lt hk2 hb').2
          rcases hat4.out with h | h
          · exact hdis b (h ▸ hb) hb'
          · rw [h] at hb
            injection hb with hb
            simp at hb
            omega
        go_roundw
        case rel => exact ⟨a + tokLen (tokAt xs a), _, _, us, by rw [HL.out]; simp; omega, by rw [HL.out]; go_num, rfl, hid (by rw [hu.out, List.append_assoc, ht.out]; rw [← hts.out, HP.out]; rfl), by rw [HL.out]; simp; omega, ho3, hk3, hdis3, hbw3⟩
        case measure => simp [intOf]; omega
      · go_wp2_with (at_builtin; refine wpl_appS (F := eTok) (ys := [(x, y, z)]) tokT rfl _ _ rfl rfl ((ho2.alloc _).alloc _) rfl (OS.one1 eTok w2 _ 82 (x, y, z) _ rfl).rs (by simp; omega) (by omega) (by simp; omega) ?_; intro A3 c3 w3 us hu ho3 hg3 hat3; have hat4 := hid hat3; clear hat3; have C3 := (C2.alloc (.cells #[.int .i64 x, .int .i64 y, .int .i64 z] 82)).keepBy hg3 (fun e => by have := hA' _ e; omega); have k0 := C3.cell 2; simp at k0)
        have hk3 := ((hk2.alloc (.cells #[.int .i64 x, .int .i64 y, .int .i64 z] 82)).alloc (.cells #[.int .i64 x, .int .i64 y, .int .i64 z] 82)).grown hg3 (fun b hb hb' => hdis b hb' hb)
        have hbw3 := OS.belowOwn (below_on (below_on hbw2 (below_new _ _)) (below_new _ _)) ((ho2.alloc _).alloc _) hg3 (Nat.le_refl _)
        have hul : us.length ≤ ts.length + 1 := by rw [hu.out]; simp
        have hdis3 : ∀ b, blk A3 = some b → blk A1 ≠ some b := fun b hb hb' => by
          have h1 := (OI.lt hk2 hb').2
          rcases hat4.out with h | h
          · exact hdis b (h ▸ hb) hb'
          · rw [h] at hb
            injection hb with hb
            simp at hb
            omega
        go_roundw
        case rel => exact ⟨a + tokLen (tokAt xs a), _, _, us, by rw [HL.out]; omega, by rw [HL.out]; go_num, rfl, hid (by rw [hu.out, List.append_assoc, ht.out]; rw [← hts.out, HP.out]; rfl), by rw [HL.out]; omega, ho3, hk3, hdis3, hbw3⟩
        case measure => simp [intOf]; omega
    · have ha' : a = xs.length := by omega
      have HE := hid (parse_end (xs := xs) (a := a) (by omega))
      have HT : Hid (ts = parseB xs) := hid (by rw [HF.out, ← hts.out, HE.out, List.append_nil])
      clear ha'
      go_wp2_with fail
      go_ret
      exact ⟨A', c', ts, HT, ho, rfl, hbw⟩
end Go.Proofs.Ytamljhjbmeikiaa
/- Slices of tokens: made, and one token written. No condition. -/
namespace Go.Proofs.Ytamljhjbmeikiaa
open Go Go.RowKit
theorem made_all {z : Array Value} {v : Value} (hz : ∀ u ∈ z.toList, u = v) (hs : 0 < z.size) (n : Nat) : (madeCells z n).toList = List.replicate n v := by
  rw [List.eq_replicate_iff]
  refine ⟨by simp [madeCells], fun u hu => ?_⟩
  simp only [madeCells, Array.toList_map, List.mem_map] at hu
  obtain ⟨i, _, rfl⟩ := hu
  have h : i % z.size < z.size := Nat.mod_lt _ hs
  rw [getElem!_pos z (i % z.size) h]
  exact hz _ (by simp)
theorem cellsOf_rep {α : Type} (F : Enc α) (x : α) (v : Value) (h : ∀ u ∈ F.enc x, u = v) (n : Nat) : cellsOf F (List.replicate n x) = List.replicate (n * F.sz) v := by
  rw [List.eq_replicate_iff]
  refine ⟨by rw [cellsOf_length, List.length_replicate], fun u hu => ?_⟩
  obtain ⟨y, hy, hu⟩ := List.mem_flatMap.1 hu
  rw [List.eq_of_mem_replicate hy] at hu
  exact h u hu
section
variable {P : Program} {w : World} {ops : Array Oper} {rest : List Oper} {o : Oper} {a : Act} {Q : Exit → Act → World → Prop}
/-- 'make([]T, n)' of structs that hold numbers alone. -/
theorem wpl_makeS {α : Type} {F : Enc α} {T E : TypeId} {bytes : Nat} {z : Value} (hS : SlT P T E F.sz bytes z) (x0 : α) (v : Value) (hv : ∀ u ∈ F.enc x0, u = v) (hzv : ∀ u ∈ z.cells.toList, u = v) (hby : bytes ≤ 100) (hgd : o.guard = none) (l c : Operand) (hop : o.op = Op.makeSlice T l c)
    {kl kc : IntKind} {L C : Int} (n : Nat) (hl : a.eval l = .int kl L) (hc : a.eval c = .int kc C) (hL : L = (n : Int)) (hC : C = (n : Int)) (hn : n ≤ 1000000000000) (base : Nat) (hb : base ≤ w.heap.size)
    (h : ∀ A w' zs, Hid (zs = List.replicate n x0) → zs.length ≤ n → n ≤ zs.length → OS F w' base E A n zs → w.grownBy w' none → blk A = some w.heap.size → wpList P ops Q rest (a.put o.dst (.slice A zs.length n)) w') : wpList P ops Q (o :: rest) a w := by
  obtain ⟨i, hi, hz, hsz, hbi⟩ := hS.inf
  have hbn : i.bytes * n ≤ 100 * 1000000000000 := by rw [hbi]; exact Nat.mul_le_mul hby hn
  have hzc := hS.zc
  have hzp := hS.pos
  refine wpList_make_full w hgd l c T hop base E i z F.sz hS.und hi hz hsz kl kc L C n hl hc hL hC (by omega) (by unfold maxLen; omega) hb fun w' h1 h2 => ?_
  have := h (some ⟨w.heap.size, 0, none⟩) w' (List.replicate n x0) rfl (by simp) (by simp) (by
    unfold OS
    rw [List.length_replicate]
    refine ⟨?_⟩
    rw [cellsOf_rep F x0 v hv, ← made_all hzv (by omega)]
    exact h1) h2 rfl
  rwa [List.length_replicate] at this
end
theorem OS.tokAt {w : World} {base c : Nat} {E : TypeId} {ad : Addr} {xs : List (Int × Int × Int)} (h : OS eTok w base E (some ad) c xs) {k : Nat} {t : Int × Int × Int} (ht : xs[k]? = some t) :
    w.cell? (ad.add (k * 3)) = some (.int .i64 t.1) ∧ w.cell? ⟨(ad.add (k * 3)).block, (ad.add (k * 3)).off + 1, none⟩ = some (.int .i64 t.2.1) ∧ w.cell? ⟨(ad.add (k * 3)).block, (ad.add (k * 3)).off + 2, none⟩ = some (.int .i64 t.2.2) := by
  obtain ⟨ad', e, _, hc⟩ := RS.at_ h.rs ht (by decide)
  injection e with e
  subst e
  have c0 := hc 0 (by decide)
  have c1 := hc 1 (by decide)
  have c2 := hc 2 (by decide)
  have e1 : ad.add (k * eTok.sz + 1) = ⟨(ad.add (k * 3)).block, (ad.add (k * 3)).off + 1, none⟩ := add_field ad (k * 3) (by decide)
  have e2 : ad.add (k * eTok.sz + 2) = ⟨(ad.add (k * 3)).block, (ad.add (k * 3)).off + 2, none⟩ := add_field ad (k * 3) (by decide)
  rw [e1] at c1
  rw [e2] at c2
  exact ⟨c0, c1, c2⟩
/-- A token is written whole. -/
theorem OS.set3 {w : World} {base c : Nat} {E : TypeId} {ad : Addr} {xs : List (Int × Int × Int)} (h : OS eTok w base E (some ad) c xs) {k : Nat} (hk : k < xs.length) (x y z : Int) :
    OS eTok (((w.setCell (ad.add (k * 3)) (.int .i64 x)).setCell ⟨(ad.add (k * 3)).block, (ad.add (k * 3)).off + 1, none⟩ (.int .i64 y)).setCell ⟨(ad.add (k * 3)).block, (ad.add (k * 3)).off + 2, none⟩ (.int .i64 z)) base E (some ad) c (xs.set k (x, y, z)) ∧
    w.grownBy (((w.setCell (ad.add (k * 3)) (.int .i64 x)).setCell ⟨(ad.add (k * 3)).block, (ad.add (k * 3)).off + 1, none⟩ (.int .i64 y)).setCell ⟨(ad.add (k * 3)).block, (ad.add (k * 3)).off + 2, none⟩ (.int .i64 z)) (some ad.block) ∧
    w.frozen? (ad.add (k * 3)) = false ∧ (w.setCell (ad.add (k * 3)) (.int .i64 x)).frozen? ⟨(ad.add (k * 3)).block, (ad.add (k * 3)).off + 1, none⟩ = false ∧
    ((w.setCell (ad.add (k * 3)) (.int .i64 x)).setCell ⟨(ad.add (k * 3)).block, (ad.add (k * 3)).off + 1, none⟩ (.int .i64 y)).frozen? ⟨(ad.add (k * 3)).block, (ad.add (k * 3)).off + 2, none⟩ = false ∧
    ∃ u0 u1 u2, w.cell? (ad.add (k * 3)) = some u0 ∧ (w.setCell (ad.add (k * 3)) (.int .i64 x)).cell? ⟨(ad.add (k * 3)).block, (ad.add (k * 3)).off + 1, none⟩ = some u1 ∧ ((w.setCell (ad.add (k * 3)) (.int .i64 x)).setCell ⟨(ad.add (k * 3)).block, (ad.add (k * 3)).off + 1, none⟩ (.int .i64 y)).cell? ⟨(ad.add (k * 3)).block, (ad.add (k * 3)).off + 2, none⟩ = some u2 := by
  obtain ⟨t, ht⟩ : ∃ t, xs[k]? = some t := ⟨_, List.getElem?_eq_getElem hk⟩
  obtain ⟨h1, g1, f1⟩ := OS.store (j := 0) (y := (x, t.2.1, t.2.2)) (u := .int .i64 x) h ht (by decide) rfl
  have ht1 : (xs.set k (x, t.2.1, t.2.2))[k]? = some (x, t.2.1, t.2.2) := by simp [hk]
  obtain ⟨h2, g2, f2⟩ := OS.store (j := 1) (y := (x, y, t.2.2)) (u := .int .i64 y) h1 ht1 (by decide) rfl
  have ht2 : ((xs.set k (x, t.2.1, t.2.2)).set k (x, y, t.2.2))[k]? = some (x, y, t.2.2) := by simp [hk]
  obtain ⟨h3, g3, f3⟩ := OS.store (j := 2) (y := (x, y, z)) (u := .int .i64 z) h2 ht2 (by decide) rfl
  have e0 : ad.add (k * eTok.sz + 0) = ad.add (k * 3) := rfl
  have e1 : ad.add (k * eTok.sz + 1) = ⟨(ad.add (k * 3)).block, (ad.add (k * 3)).off + 1, none⟩ := add_field ad (k * 3) (by decide)
  have e2 : ad.add (k * eTok.sz + 2) = ⟨(ad.add (k * 3)).block, (ad.add (k * 3)).off + 2, none⟩ := add_field ad (k * 3) (by decide)
  have c0 := (OS.tokAt h ht).1
  have c1 := (OS.tokAt h1 ht1).2.1
  have c2 := (OS.tokAt h2 ht2).2.2
  simp only [e0, e1, e2] at h3 g1 g2 g3 f1 f2 f3 c0 c1 c2
  rw [List.set_set, List.set_set] at h3
  exact ⟨h3, gb_trans (gb_trans g1 g2) g3, f1, f2, f3, _, _, _, c0, c1, c2⟩
theorem OS.some {α : Type} {F : Enc α} {w : World} {base c : Nat} {E : TypeId} {A : Option Addr} {xs : List α} (h : OS F w base E A c xs) (hn : 0 < xs.length) (hp : 0 < F.sz) : ∃ ad, A = some ad := by
  obtain ⟨ad, e, _⟩ := RS.at_ h.rs (List.getElem?_eq_getElem hn) hp
  exact ⟨ad, e⟩
end Go.Proofs.Ytamljhjbmeikiaa
/- Slices of structs: cuts, appends in regions that draw, and with lengths spelled otherwise. No condition. -/
namespace Go.Proofs.Ytamljhjbmeikiaa
open Go Go.RowKit
section
variable {α : Type} (F : Enc α)
theorem cellsOf_take (xs : List α) {k : Nat} (hk : k ≤ xs.length) : (cellsOf F xs).take (k * F.sz) = cellsOf F (xs.take k) := by
  have e : cellsOf F xs = cellsOf F (xs.take k) ++ cellsOf F (xs.drop k) := by rw [← cellsOf_app, List.take_append_drop]
  rw [e]
  exact List.take_left' (by rw [cellsOf_length, List.length_take, Nat.min_eq_left hk])
theorem cellsOf_drop (xs : List α) {k : Nat} (hk : k ≤ xs.length) : (cellsOf F xs).drop (k * F.sz) = cellsOf F (xs.drop k) := by
  have e : cellsOf F xs = cellsOf F (xs.take k) ++ cellsOf F (xs.drop k) := by rw [← cellsOf_app, List.take_append_drop]
  conv => lhs; rw [e]
  exact List.drop_left' (by rw [cellsOf_length, List.length_take, Nat.min_eq_left hk])
end
section
variable {α : Type} {F : Enc α} {w w' : World} {base c : Nat} {E : TypeId} {A : Option Addr} {xs : List α}
theorem RS.cutAt (h : RS F w A c xs) {k : Nat} (hk : k ≤ xs.length) : RS F w (if c = k then A else A.map (·.add (k * F.sz))) (c - k) (xs.drop k) := by
  have h1 := RG.cut (k := k) h hk
  unfold RS
  rw [List.length_drop, ← cellsOf_drop F xs hk]
  exact h1
theorem RS.takeAt (h : RS F w A c xs) {k : Nat} (hk : k ≤ xs.length) : RS F w A c (xs.take k) := by
  have h1 := RG.take_ (k := k) h hk
  unfold RS
  rw [List.length_take, Nat.min_eq_left hk, ← cellsOf_take F xs hk]
  exact h1
end
section
variable {P : Program} {w : World} {ops : Array Oper} {rest : List Oper} {o : Oper} {a : Act} {Q : Exit → Act → World → Prop}
/-- 'append(xs, ys...)' of structs in a region that draws its order; the lengths may be spelled otherwise. -/
theorem stp_appS2 {α : Type} {F : Enc α} {T E : TypeId} {bytes : Nat} {z : Value} (hS : SlT P T E F.sz bytes z) {Ep : Prop} {K : Act → World → Prop} (hgd : o.guard = none) (s x : Operand)
    (hop : o.op = .call { callee := .builtin .append, args := #[s, x], argTypes := #[T, T] })
    {base c n : Nat} {A : Option Addr} (xs : List α) (hs : a.eval s = .slice A n c) (hn : n = xs.length) (ho : OS F w base E A c xs)
    {B : Option Addr} {d m : Nat} (ys : List α) (hx : a.eval x = .slice B m d) (hm : m = ys.length) (hr : RS F w B d ys) (hl : xs.length + ys.length ≤ 1000000000000) (hby : bytes ≤ 100) (hbase : base ≤ w.heap.size)
    (h : ∀ A' c' w' zs, Hid (zs = xs ++ ys) → OS F w' base E A' c' zs → w.grownBy w' (blk A) → (blk A' = blk A ∨ blk A' = some w.heap.size) → K (a.put o.dst (.slice A' zs.length c')) w') :
    if Region.wanted o (yielded ops a.tmps) = true then Oper.wp P o a w K Q else Ep := by
  subst hn hm
  have hw : Region.wanted o (yielded ops a.tmps) = true := by simp [Region.wanted, hgd]
  rw [if_pos hw]
  have hb : (xs.length + ys.length) * bytes ≤ 1000000000000 * 100 := Nat.mul_le_mul hl hby
  obtain ⟨A', c', w', hrun, h2, h3, h4⟩ := run_append_og (P := P) hS o.type ho hr (cellsOf_all F ys) (by unfold maxLen; omega) (by omega) hbase
  have := h A' c' w' (xs ++ ys) rfl (by unfold OS; rw [List.length_append, cellsOf_app]; exact h2) h3 h4
  unfold Oper.wp execOp
  simp only [hop, resolve, invoke, builtin, Sem.run_bind, Sem.run_pure, Result.andThen_ok, List.map_toArray, List.map_cons, List.map_nil, hs, hx, hrun]
  rw [List.length_append] at this
  exact this
/-- The same outside such a region. -/
theorem wpl_appS2 {α : Type} {F : Enc α} {T E : TypeId} {bytes : Nat} {z : Value} (hS : SlT P T E F.sz bytes z) (hgd : o.guard = none) (s x : Operand)
    (hop : o.op = .call { callee := .builtin .append, args := #[s, x], argTypes := #[T, T] })
    {base c n : Nat} {A : Option Addr} (xs : List α) (hs : a.eval s = .slice A n c) (hn : n = xs.length) (ho : OS F w base E A c xs)
    {B : Option Addr} {d m : Nat} (ys : List α) (hx : a.eval x = .slice B m d) (hm : m = ys.length) (hr : RS F w B d ys) (hl : xs.length + ys.length ≤ 1000000000000) (hby : bytes ≤ 100) (hbase : base ≤ w.heap.size)
    (h : ∀ A' c' w' zs, Hid (zs = xs ++ ys) → OS F w' base E A' c' zs → w.grownBy w' (blk A) → (blk A' = blk A ∨ blk A' = some w.heap.size) → wpList P ops Q rest (a.put o.dst (.slice A' zs.length c')) w') : wpList P ops Q (o :: rest) a w := by
  subst hn hm
  exact wpl_appS hS hgd s x hop hs ho hx hr hl hby hbase h
end
/-- Groups of symbols, each with its symbols' slice. -/
abbrev Gm := (Int × Nat × List Nat) × Option Addr × Nat
def eGm : Enc Gm := ⟨fun x => [.int .i64 x.1.1, .slice x.2.1 x.1.2.2.length x.2.2], 2, fun _ => rfl, by intro x u hu; simp at hu; rcases hu with rfl | rfl <;> rfl⟩
theorem grT : SlT Try.prog 93 95 2 32 (.agg #[.int .i64 0, .slice none 0 0]) :=
  ⟨Try.underlying93, info_parts (by kernel_rfl), rfl, by omega⟩
end Go.Proofs.Ytamljhjbmeikiaa
/- Contracts: the specification's table of the best tokens. No condition. -/
namespace Go.Proofs.Ytamljhjbmeikiaa
open Go Go.RowKit
/-- What a call answers: the least costs and the best tokens; of the call's own. -/
def PTab (w : World) (xs : List Int) (e : Ending) (w' : World) : Prop :=
  ∃ A1 c1 cs A2 c2 ts, Hid (cs = costsL xs) ∧ OI w' w.heap.size A1 c1 cs ∧ Hid (ts.length = xs.length ∧ ∀ i, i < xs.length → ts[i]? = some (tokAt xs i)) ∧ OS eTok w' w.heap.size 82 A2 c2 ts ∧ e = .returned (.tuple #[.slice A1 cs.length c1, .slice A2 ts.length c2]) ∧ Below w.heap.size w w'
theorem some_of_blk {A : Option Addr} {n : Nat} (h : blk A = some n) : ∃ ad, A = some ad ∧ ad.block = n := by
  cases A with
  | none => simp [blk] at h
  | some a => exact ⟨a, rfl, by simpa [blk] using h⟩
theorem stepC_yes {cs : List Int} {v : Int} {t : Int × Int × Int} {b k : Nat} {y : Int} (hy : cs[k + 1]? = some y) (h : 8 + y < v) : stepC cs (v, t) (b + 1, k + 2) = (y + 8, (0, (b : Int) + 1, (k : Int) + 2)) := by
  have e : mcost cs (b + 1, k + 2) = 8 + y := by unfold mcost; rw [List.getD_eq_getElem?_getD, show k + 2 - 1 = k + 1 by omega, hy]; rfl
  unfold stepC
  rw [e, if_pos h, Int.add_comm 8 y]
  rfl
theorem stepC_no {cs : List Int} {v : Int} {t : Int × Int × Int} {b k : Nat} {y : Int} (hy : cs[k + 1]? = some y) (h : ¬ 8 + y < v) : stepC cs (v, t) (b + 1, k + 2) = (v, t) := by
  have e : mcost cs (b + 1, k + 2) = 8 + y := by unfold mcost; rw [List.getD_eq_getElem?_getD, show k + 2 - 1 = k + 1 by omega, hy]; rfl
  unfold stepC
  rw [e, if_neg h]
set_option maxRecDepth 100000 in
set_option maxHeartbeats 2000000 in
theorem l15Table_any (A : Option Addr) (c : Nat) (xs : List Int) (w : World) (hr : RI w A c xs) (hn : xs.length ≤ 100000) :
    Calls Try.prog 135 #[.slice A xs.length c] w (PTab w xs) := by
  go_enter Try.func135, Try.ntmps135
  go_upto_region 2 with (refine wpl_make intT rfl _ _ rfl (xs.length + 1) rfl rfl (by simp) (by simp) (by omega) w.heap.size (Nat.le_refl _) ?_; intro A1 w1 zs hz hz1 hz2 ho1 hg1 hb1)
  have e1 : zs.length = xs.length + 1 := by omega
  rw [e1]
  clear e1 hz1 hz2
  go_upto_region 3 with (refine wpl_makeS (F := eTok) tokT (0, 0, 0) (.int .i64 0) (by simp [eTok]) (by simp [Value.cells]) (by omega) rfl _ _ rfl xs.length rfl rfl (by simp) (by simp) (by omega) w1.heap.size (Nat.le_refl _) ?_; intro A2 w2 ys hy hy1 hy2 ho2 hg2 hb2)
  have hyl : ys.length = xs.length := by omega
  rw [hyl]
  have HYL := hid hyl
  clear hyl hy1 hy2
  obtain ⟨ad1, rfl, hq1⟩ := some_of_blk hb1
  obtain ⟨ad2, rfl, hq2⟩ := some_of_blk hb2
  have hlt1 : w.heap.size < w1.heap.size := by have := (OI.lt ho1 hb1).2; exact this
  have hbA : ad1.block < w1.heap.size := by omega
  have hbB : w1.heap.size ≤ ad2.block := by omega
  have hnq : ad2.block ≠ ad1.block := by omega
  have ho1' : OI w2 w.heap.size (some ad1) (xs.length + 1) zs := ho1.grown hg2 (by simp)
  have hbw2 : Below w.heap.size w w2 := ((Below.refl _ _).grown hg1 (Nat.le_refl _) (by simp)).grown hg2 (by omega) (by simp)
  clear hb1 hb2 ho1 hg1 hg2 hq1 hq2
  have hws : w.heap.size ≤ w1.heap.size := by omega
  have HNE : ∀ g, blk (some ad1) = some g → some ad2.block ≠ some g := fun g hg e => by injection e with e; simp [blk] at hg; omega
  generalize w1.heap.size = B at *
  clear hlt1
  go_wp2_with fail
  go_loopw [6] (fun t wr => ∃ (j : Nat) (os : List Int) (ts : List (Int × Int × Int)), j ≤ xs.length ∧ t = .int .i64 ((j : Int) - 1) ∧ Hid (os = List.replicate j 0 ++ costF xs (xs.length - j)) ∧ OI wr w.heap.size (some ad1) (xs.length + 1) os ∧ Hid (ts.length = xs.length ∧ ∀ i, j ≤ i → i < xs.length → ts[i]? = some (tokAt xs i)) ∧ OS eTok wr B 82 (some ad2) xs.length ts ∧ Below w.heap.size w wr) (fun t _ => ((intOf t) + 1).toNat)
  case atStart => exact ⟨xs.length, zs, ys, by omega, rfl, hid (by rw [hz.out, Nat.sub_self]; simp [costF, List.replicate_succ']), ho1', hid ⟨HYL.out, fun i h1 h2 => by omega⟩, ho2, hbw2⟩
  case round =>
    clear hz ho1' hbw2 ho2 hy HYL
    obtain ⟨j, os, ts, hj, rfl, hos, ho, hts, hp, hbw⟩ := hrel
    obtain ⟨wo, rfl⟩ : ∃ wo : World, wo = wr := ⟨_, rfl⟩
    cases j with
    | zero =>
      have e0 : (((0 : Nat) : Int) - 1) = -1 := by omega
      rw [e0]
      clear e0
      have hol : os.length = xs.length + 1 := by rw [hos.out]; simp [costF_length]
      have HO : Hid (os = costsL xs) := by unfold Hid; rw [hos.out]; simp [costsL]
      have HL := hid hol
      have HT : Hid (ts.length = xs.length ∧ ∀ i, i < xs.length → ts[i]? = some (tokAt xs i)) := hid ⟨hts.out.1, fun i hi => hts.out.2 i (Nat.zero_le _) hi⟩
      clear hol
      go_wp2_with fail
      go_ret2
      exact ⟨_, _, os, _, _, ts, HO, ho, HT, OS.mono hp (by omega), by rw [HL.out, HT.out.1]; rfl, hbw⟩
    | succ j =>
      obtain ⟨cs, hcs⟩ : ∃ cs, cs = costF xs (xs.length - (j + 1)) := ⟨_, rfl⟩
      have hcl : cs.length = xs.length - j := by rw [hcs, costF_length]; omega
      have hcb : ∀ x ∈ cs, 0 ≤ x ∧ x ≤ 4 * 100000 := by
        rw [hcs]
        intro x hx
        have := costF_bd xs _ x hx
        omega
      have HCB := hid hcb
      obtain ⟨c0, cs', hc0⟩ : ∃ c0 cs', cs = c0 :: cs' := by
        cases cs with
        | nil => simp at hcl; omega
        | cons c0 cs' => exact ⟨c0, cs', rfl⟩
      have hos2 : os = arr j 0 cs := by rw [hos.out, ← hcs, arr_open]
      have HTK : Hid (tokAt xs j = (bestC cs (xs.getD j 0) (cands xs j)).2) := by unfold Hid tokAt bestS behind; rw [hcs]
      have HD : Hid (costF xs (xs.length - j) = (bestC cs (xs.getD j 0) (cands xs j)).1 :: cs) := by
        unfold Hid
        rw [hcs, show xs.length - j = (xs.length - (j + 1)) + 1 by omega, costF, show xs.length - (xs.length - (j + 1) + 1) = j by omega]
      have hc0b := hcb c0 (by rw [hc0]; simp)
      have hg0 : os[j + 1]? = some c0 := by rw [hos2, arr_there _ _ (by omega), hc0]; rfl
      have HC0 := hid hc0
      have hcl1 : cs.length ≤ xs.length - j := by omega
      have hcl2 : xs.length - j ≤ cs.length := by omega
      obtain ⟨ad1', y1, he1, -, k0⟩ := ho.ri.get (k := j) (by rw [hos2, arr_length]; omega)
      injection he1 with he1
      subst he1
      have k1 := ho.ri.cellAt hg0
      have k1' : wo.cell? ⟨ad1.block, ad1.off + (j + 1), none⟩ = some (.int .i64 c0) := by simpa [Addr.add] using k1
      obtain ⟨hs1, hs2, hs3⟩ := ho.store j (c0 + 4)
      rw [hos2, arr_set] at hs1
      have hbwA := OI.belowOwn hbw ho hs2 (Nat.le_refl _)
      have hjn : j < xs.length := by omega
      obtain ⟨adx, x, rfl, HX, hx⟩ := (hr.below hbwA).get hjn
      have hpA := OS.past hp hs2 hbA
      have hjt : j < ts.length := by rw [hts.out.1]; exact hjn
      obtain ⟨h3, g3, f0, f1, f2, u0, u1, u2, m0, m1, m2⟩ := OS.set3 hpA hjt x 0 0
      have hsB := OI.grown hs1 g3 HNE
      have hbwB : Below w.heap.size w _ := hbwA.grown g3 (by have := hbwA.size; omega) (fun g hg => by injection hg with hg; omega)
      have hxg : xs.getD j 0 = x := by rw [List.getD_eq_getElem?_getD, HX.out]; rfl
      have HB0 : Hid ((c0 + 4, (x, (0 : Int), (0 : Int))) = bestC cs (xs.getD j 0) (candsP xs j 0 0)) := by unfold Hid; rw [candsP_zero, HC0.out, hxg, Int.add_comm]; rfl
      have HTS : Hid ((ts.set j (x, 0, 0)).length = xs.length ∧ (ts.set j (x, 0, 0))[j]? = some (x, 0, 0) ∧ ∀ i, j < i → i < xs.length → (ts.set j (x, 0, 0))[i]? = some (tokAt xs i)) :=
        hid ⟨by rw [List.length_set]; exact hts.out.1, by simp [hjt], fun i h1 h2 => by rw [List.getElem?_set_ne (by omega)]; exact hts.out.2 i (by omega) h2⟩
      clear hos hos2 hcs hcb hcl hc0 hg0 k1 ho hbw hs2 hs1 hpA hts hp g3 hxg HX hjt
      obtain ⟨hc0b1, hc0b2⟩ := hc0b
      rw [show (((j + 1 : Nat) : Int) - 1) = (j : Int) by omega]
      go_wp2_with fail
      generalize ((((wo.setCell (ad1.add j) (.int .i64 (c0 + 4))).setCell (ad2.add (j * 3)) (.int .i64 x)).setCell ⟨(ad2.add (j * 3)).block, (ad2.add (j * 3)).off + 1, none⟩ (.int .i64 0)).setCell ⟨(ad2.add (j * 3)).block, (ad2.add (j * 3)).off + 2, none⟩ (.int .i64 0)) = w5 at *
      have hj16 : (j : Int) < 16 ∨ (16 : Int) ≤ (j : Int) := by omega
      clear k1' hs3 k0 f0 f1 f2 m0 m1 m2 hx hbwA
      generalize c0 + 4 = v0 at *
      rcases hj16 with hj16 | hj16
      all_goals
        go_loopw [7] (fun t wi => ∃ (b : Nat) (v : Int) (tk : Int × Int × Int) (ts : List (Int × Int × Int)), b ≤ min 16 j ∧ t = .int .i64 ((b : Int) + 1) ∧ Hid ((v, tk) = bestC cs (xs.getD j 0) (candsP xs j b 0)) ∧ OI wi w.heap.size (some ad1) (xs.length + 1) (arr j v cs) ∧ Hid (ts.length = xs.length ∧ ts[j]? = some tk ∧ ∀ i, j < i → i < xs.length → ts[i]? = some (tokAt xs i)) ∧ OS eTok wi B 82 (some ad2) xs.length ts ∧ Below w.heap.size w wi) (fun t _ => 17 - (intOf t).toNat)
        case atStart => exact ⟨0, v0, _, _, by omega, rfl, HB0, hsB, HTS, h3, hbwB⟩
        case round =>
          clear hsB hbwB HB0 h3 HTS
          obtain ⟨b, v, tk, ts, hb, rfl, hv, ho, hts, hp, hbw⟩ := hrel
          obtain ⟨w3, rfl⟩ : ∃ w3 : World, w3 = wr := ⟨_, rfl⟩
          by_cases hbm : b < min 16 j
          · have hb1 : (b : Int) + 1 ≤ 16 := by omega
            have hb2 : (b : Int) + 1 ≤ (j : Int) := by omega
            go_wp2_with fail
            refine (l14Same_any _ _ _ _ (b + 1) _ (hr.below hbw) (by omega) hjn (by omega) (by omega)).mono ?_
            rintro _ w4 ⟨n, hnm, rfl, hb4⟩
            have ho4 := ho.below hb4
            have hp4 := hp.below hb4
            have hbw4 := below_on hbw hb4
            clear ho hp hbw hb4
            go_wp2_with fail
            go_loopw [9] (fun t wi => ∃ (k : Nat) (v : Int) (tk : Int × Int × Int) (ts : List (Int × Int × Int)), k ≤ mlen xs j (b + 1) - 1 ∧ t = .int .i64 ((k : Int) + 2) ∧ Hid ((v, tk) = bestC cs (xs.getD j 0) (candsP xs j b k)) ∧ OI wi w.heap.size (some ad1) (xs.length + 1) (arr j v cs) ∧ Hid (ts.length = xs.length ∧ ts[j]? = some tk ∧ ∀ i, j < i → i < xs.length → ts[i]? = some (tokAt xs i)) ∧ OS eTok wi B 82 (some ad2) xs.length ts ∧ Below w.heap.size w wi) (fun t _ => 11 - (intOf t).toNat)
            case atStart => exact ⟨0, v, tk, ts, by omega, rfl, hv, ho4, hts, hp4, hbw4⟩
            case round =>
              clear hv hts ho4 hp4 hbw4
              obtain ⟨k, v, tk, ts, hk, rfl, hv, ho, hts, hp, hbw⟩ := hrel
              obtain ⟨w6, rfl⟩ : ∃ w6 : World, w6 = wr := ⟨_, rfl⟩
              have hm9 := mlen_le xs j (b + 1)
              have hmi := mlen_in (xs := xs) (at_ := j) (back := b + 1) (by omega)
              have HM := hnm.out
              by_cases hkm : k < mlen xs j (b + 1) - 1
              · have hkn : (k : Int) + 2 ≤ n := by omega
                obtain ⟨y, hy⟩ : ∃ y, cs[k + 1]? = some y := ⟨_, List.getElem?_eq_getElem (by omega)⟩
                have hyb := HCB.out y (List.mem_of_getElem? hy)
                have hvb := bestC_bd (s := xs.getD j 0) HCB.out (by omega) (candsP xs j b k)
                rw [← hv.out] at hvb
                obtain ⟨hvb1, hvb2⟩ : 0 ≤ v ∧ v ≤ 4 * 100000 + 4 := hvb
                have hgy : (arr j v cs)[j + (k + 2)]? = some y := by rw [arr_there _ _ (by omega)]; exact hy
                have HYG := hid hgy
                have HY := hid hy
                have k2 := ho.ri.cellAt hgy
                have k2' : w6.cell? ⟨ad1.block, ad1.off + (j + (k + 2)), none⟩ = some (.int .i64 y) := by simpa [Addr.add] using k2
                have k3 := ho.ri.cellAt (arr_here j v cs)
                have hi1 : j + (k + 2) < xs.length + 1 := by omega
                have hi2 : j < xs.length + 1 := by omega
                have hi3 : (0 : Int) ≤ (j : Int) := by omega
                have hi4 : (j : Int) < (xs.length : Int) + 1 := by omega
                have hi5 : IntKind.i64.wrap ((j : Int) + ((k : Int) + 2)) = (j : Int) + ((k : Int) + 2) := IntWalk.i64_in _ (by omega)
                have hi6 : (0 : Int) ≤ (j : Int) + ((k : Int) + 2) := by omega
                have hi7 : (j : Int) + ((k : Int) + 2) < (xs.length : Int) + 1 := by omega
                have hi8 : ((j : Int) + ((k : Int) + 2)).toNat = j + (k + 2) := by omega
                have hi9 : IntKind.i64.wrap (y + 8) = y + 8 := IntWalk.i64_in _ (by omega)
                clear hgy hy HM
                by_cases hvy : 8 + y < v
                · have HN : Hid ((y + 8, ((0 : Int), (b : Int) + 1, (k : Int) + 2)) = bestC cs (xs.getD j 0) (candsP xs j b (k + 1))) := by
                    unfold Hid
                    rw [candsP_snoc, bestC_snoc, ← hv.out, stepC_yes HY.out hvy]
                  have hq9 : y + 8 < v := by omega
                  clear hvy hv
                  go_wp2_with fail
                  go_quiet (fail)
                  have ho7 := ho.below (below_drewN (Below.refl _ _) nq)
                  have hp7 := hp.below (below_drewN (Below.refl _ _) nq)
                  have hbw7 := below_drewN hbw nq
                  generalize w6.drewN nq = w7 at *
                  clear k2 k3 k2' ho hp hbw
                  have k2 := ho7.ri.cellAt HYG.out
                  have k2' : w7.cell? ⟨ad1.block, ad1.off + (j + (k + 2)), none⟩ = some (.int .i64 y) := by simpa [Addr.add] using k2
                  have k3 := ho7.ri.cellAt (arr_here j v cs)
                  obtain ⟨hs1, hs2, hs3⟩ := ho7.store j (y + 8)
                  rw [arr_set] at hs1
                  have hbwA := OI.belowOwn hbw7 ho7 hs2 (Nat.le_refl _)
                  have hpA := OS.past hp7 hs2 hbA
                  have hjt : j < ts.length := by rw [hts.out.1]; exact hjn
                  obtain ⟨h3, g3, f0, f1, f2, u0, u1, u2, m0, m1, m2⟩ := OS.set3 hpA hjt 0 ((b : Int) + 1) ((k : Int) + 2)
                  have hsB := OI.grown hs1 g3 HNE
                  have hbwB : Below w.heap.size w _ := hbwA.grown g3 (by have := hbwA.size; omega) (fun g hg => by injection hg with hg; omega)
                  have HTS : Hid ((ts.set j (0, (b : Int) + 1, (k : Int) + 2)).length = xs.length ∧ (ts.set j (0, (b : Int) + 1, (k : Int) + 2))[j]? = some (0, (b : Int) + 1, (k : Int) + 2) ∧ ∀ i, j < i → i < xs.length → (ts.set j (0, (b : Int) + 1, (k : Int) + 2))[i]? = some (tokAt xs i)) :=
                    hid ⟨by rw [List.length_set]; exact hts.out.1, by simp [hjt], fun i h1 h2 => by rw [List.getElem?_set_ne (by omega)]; exact hts.out.2.2 i (by omega) h2⟩
                  clear ho7 hp7 hbw7 hs2 hs1 hbwA hpA g3 hjt hts
                  go_wp2_with fail
                  go_roundw
                  case rel => exact ⟨k + 1, _, _, _, by omega, by go_num, HN, hsB, HTS, h3, hbwB⟩
                  case measure => simp [intOf]; omega
                · have HN : Hid ((v, tk) = bestC cs (xs.getD j 0) (candsP xs j b (k + 1))) := by
                    unfold Hid
                    rw [candsP_snoc, bestC_snoc, ← hv.out, stepC_no HY.out hvy]
                  have hq9 : ¬ y + 8 < v := by omega
                  clear hvy hv
                  go_wp2_with fail
                  go_quiet (fail)
                  go_wp2_with fail
                  go_roundw
                  case rel => exact ⟨k + 1, _, _, _, by omega, by go_num, HN, ho.below (below_drewN (Below.refl _ _) _), hts, hp.below (below_drewN (Below.refl _ _) _), below_drewN hbw _⟩
                  case measure => simp [intOf]; omega
              · have hkn : n < (k : Int) + 2 := by omega
                have HK : Hid (k = mlen xs j (b + 1) - 1) := by unfold Hid; omega
                clear HM hnm
                go_wp2_with fail
                go_roundw
                case rel => exact ⟨b + 1, v, tk, ts, by omega, by go_num, hid (by rw [hv.out, candsP_next HK.out]), ho, hts, hp, hbw⟩
                case measure => simp [intOf]; omega
          · have HB : Hid (b = min 16 j) := by unfold Hid; omega
            have HV : Hid ((v, tk) = bestC cs (xs.getD j 0) (cands xs j)) := by unfold Hid; rw [hv.out, HB.out, candsP_end]
            have HO : Hid (arr j v cs = List.replicate j 0 ++ costF xs (xs.length - j)) := by
              unfold Hid
              rw [HD.out, ← HV.out]; rfl
            have HT : Hid (ts.length = xs.length ∧ ∀ i, j ≤ i → i < xs.length → ts[i]? = some (tokAt xs i)) := hid ⟨hts.out.1, fun i h1 h2 => by
              by_cases hij : i = j
              · rw [hij, hts.out.2.1, HTK.out, ← HV.out]
              · exact hts.out.2.2 i (by omega) h2⟩
            first | (have hb3 : (16 : Int) < (b : Int) + 1 := by omega) | (have hb3 : (j : Int) < (b : Int) + 1 := by omega)
            clear hbm HB hv HV hts
            go_wp2_with fail
            go_roundw
            case rel => exact ⟨j, _, _, by omega, by go_num, HO, ho, HT, hp, hbw⟩
            case measure => simp [intOf]
end Go.Proofs.Ytamljhjbmeikiaa
/- Contracts: the specification's best parse. No condition. -/
namespace Go.Proofs.Ytamljhjbmeikiaa
open Go Go.RowKit
set_option maxHeartbeats 1000000 in
theorem sParseBest_any (A : Option Addr) (c : Nat) (xs : List Int) (w : World) (hr : RI w A c xs) : Calls Try.prog 127 #[.slice A xs.length c] w (PToks w (parseB xs)) := by
  go_enter Try.func127, Try.ntmps127
  go_wp2_with fail
  refine (sListValid_any _ _ _ _ (hr.alloc _)).mono ?_
  rintro _ w' ⟨b, hb, rfl, rfl⟩
  cases b
  · go_wp2_with fail
    go_ret
    exact ⟨_, _, [], hid (by simp [parseB, hb.out.symm]), OS.empty eTok w w.heap.size _ (Nat.le_refl _), rfl, below_new _ _⟩
  have HF : Hid (parseB xs = parseL xs) := by simp [Hid, parseB, hb.out.symm]
  have hn : xs.length ≤ 40 := (listOk_iff.1 hb.out.symm).1
  clear hb
  go_wp2_with fail
  refine (l15Table_any _ _ _ _ (hr.alloc _) (by omega)).mono ?_
  rintro _ w1 ⟨A1, c1, cs, A2, c2, fs, hcs, ho1, hfs, ho2, rfl, hb1⟩
  have hoe := (OS.empty eTok w w.heap.size 82 (Nat.le_refl _)).below hb1
  have hbw1 := below_on (below_new w _) hb1
  clear hcs ho1
  go_wp2_with fail
  go_loopw [3, 6] (fun v t wr => ∃ (a : Nat) (A' : Option Addr) (c' : Nat) (ts : List (Int × Int × Int)), a ≤ xs.length ∧ t = .int .i64 a ∧ v = .slice A' ts.length c' ∧ Hid (ts ++ parseF xs xs.length a = parseL xs) ∧ ts.length ≤ a ∧ OS eTok wr w.heap.size 82 A' c' ts ∧ OS eTok wr (w.alloc (Obj.cells #[] 82)).heap.size 82 A2 c2 fs ∧ (∀ b, blk A' = some b → blk A2 ≠ some b) ∧ Below w.heap.size w wr) (fun _ t _ => xs.length - (intOf t).toNat)
  case atStart => exact ⟨0, _, _, [], by omega, rfl, rfl, hid rfl, by simp, hoe, ho2, fun b hb hb' => by have := (OS.lt ho2 hb').1; simp [blk] at hb this; omega, hbw1⟩
  case round =>
    clear hoe hbw1 ho2
    obtain ⟨a, A', c', ts, ha, rfl, rfl, hts, hl, ho, hk, hdis, hbw⟩ := hrel
    obtain ⟨w2, rfl⟩ : ∃ w2 : World, w2 = wr := ⟨_, rfl⟩
    have hwz := hbw.size
    have hfl1 : fs.length ≤ xs.length := Nat.le_of_eq hfs.out.1
    have hfl2 : xs.length ≤ fs.length := Nat.le_of_eq hfs.out.1.symm
    by_cases hlt : a < xs.length
    · have HP := hid (parse_step hlt)
      obtain ⟨t1, t2, t3, t4, t5, t6, t7⟩ := tok_len hlt
      have tc := tok_cases xs a
      obtain ⟨ad2, rfl⟩ := OS.some hk (by omega) (by decide)
      obtain ⟨k0, k1, k2⟩ := OS.tokAt hk (hfs.out.2 a hlt)
      obtain ⟨x, y, z, ht⟩ : ∃ x y z, Hid ((x, y, z) = tokAt xs a) := ⟨_, _, _, hid rfl⟩
      rw [← ht.out] at t4 t5 tc k0 k1 k2
      have HL : Hid (tokLen (tokAt xs a) = max z.toNat 1) := by unfold Hid; rw [← ht.out]; rfl
      rw [HL.out] at t1 t2 t3
      have hA' : ∀ b, blk A' = some b → b < w2.heap.size := fun b hb => (OS.lt ho hb).2
      have hf3 : a < fs.length := by omega
      simp only at t4 t5 tc k0 k1 k2
      rcases tc with rfl | tc
      · go_upto_region 8 with (at_builtin; refine wpl_appS (F := eTok) (ys := [(x, y, 0)]) tokT rfl _ _ rfl rfl (ho.alloc _) rfl (OS.one eTok w2 w2.heap.size 82 (x, y, 0) _ rfl (Nat.le_refl _)).rs (by simp; omega) (by omega) (by simp; omega) ?_; intro A3 c3 w3 us hu ho3 hg3 hat3; have hat4 := hid hat3; clear hat3)
        have hk3 := (hk.alloc (.cells #[.int .i64 x, .int .i64 y, .int .i64 0] 82)).grown hg3 (fun b hb hb' => hdis b hb' hb)
        have hbw3 := OS.belowOwn (below_on hbw (below_new _ _)) (ho.alloc _) hg3 (Nat.le_refl _)
        have hul : us.length ≤ ts.length + 1 := by rw [hu.out]; simp
        have hdis3 : ∀ b, blk A3 = some b → blk (some ad2) ≠ some b := fun b hb hb' => by
          have h1 := (OS.lt hk hb').2
          rcases hat4.out with h | h
          · exact hdis b (h ▸ hb) hb'
          · rw [h] at hb
            injection hb with hb
            simp at hb
            omega
        obtain ⟨k3, k4, k5⟩ := OS.tokAt hk3 (hfs.out.2 a hlt)
        rw [← ht.out] at k3 k4 k5
        simp only at k3 k4 k5
        go_wp2_with fail
        go_roundw
        case rel => exact ⟨a + tokLen (tokAt xs a), _, _, us, by rw [HL.out]; simp; omega, by rw [HL.out]; go_num, rfl, hid (by rw [hu.out, List.append_assoc, ht.out]; rw [← hts.out, HP.out]; rfl), by rw [HL.out]; simp; omega, ho3, hk3, hdis3, hbw3⟩
        case measure => simp [intOf]; omega
      · go_upto_region 8 with (at_builtin; refine wpl_appS (F := eTok) (ys := [(x, y, z)]) tokT rfl _ _ rfl rfl (ho.alloc _) rfl (OS.one eTok w2 w2.heap.size 82 (x, y, z) _ rfl (Nat.le_refl _)).rs (by simp; omega) (by omega) (by simp; omega) ?_; intro A3 c3 w3 us hu ho3 hg3 hat3; have hat4 := hid hat3; clear hat3)
        have hk3 := (hk.alloc (.cells #[.int .i64 x, .int .i64 y, .int .i64 z] 82)).grown hg3 (fun b hb hb' => hdis b hb' hb)
        have hbw3 := OS.belowOwn (below_on hbw (below_new _ _)) (ho.alloc _) hg3 (Nat.le_refl _)
        have hul : us.length ≤ ts.length + 1 := by rw [hu.out]; simp
        have hdis3 : ∀ b, blk A3 = some b → blk (some ad2) ≠ some b := fun b hb hb' => by
          have h1 := (OS.lt hk hb').2
          rcases hat4.out with h | h
          · exact hdis b (h ▸ hb) hb'
          · rw [h] at hb
            injection hb with hb
            simp at hb
            omega
        obtain ⟨k3, k4, k5⟩ := OS.tokAt hk3 (hfs.out.2 a hlt)
        rw [← ht.out] at k3 k4 k5
        simp only at k3 k4 k5
        go_wp2_with fail
        go_roundw
        case rel => exact ⟨a + tokLen (tokAt xs a), _, _, us, by rw [HL.out]; omega, by rw [HL.out]; go_num, rfl, hid (by rw [hu.out, List.append_assoc, ht.out]; rw [← hts.out, HP.out]; rfl), by rw [HL.out]; omega, ho3, hk3, hdis3, hbw3⟩
        case measure => simp [intOf]; omega
    · have HE := hid (parse_end (xs := xs) (a := a) (by omega))
      have HT : Hid (ts = parseB xs) := hid (by rw [HF.out, ← hts.out, HE.out, List.append_nil])
      go_wp2_with fail
      go_ret
      exact ⟨A', c', ts, HT, ho, rfl, hbw⟩
end Go.Proofs.Ytamljhjbmeikiaa
