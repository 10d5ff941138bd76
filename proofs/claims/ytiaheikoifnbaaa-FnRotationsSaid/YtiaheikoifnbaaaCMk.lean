/- Contracts: lists are marked, marks are held, lists are the same. No condition. -/
import Derived.Test.YtiaheikoifnbaaaC1
namespace Go.Proofs.Ytiaheikoifnbaaa
open Go Go.RowKit

/-- k, k + 1, ..: n numbers. -/
def upFrom (k : Int) (n : Nat) : List Int := (List.range n).map fun (i : Nat) => k + (i : Int)
theorem upFrom_length (k : Int) (n : Nat) : (upFrom k n).length = n := by simp [upFrom]
theorem upFrom_at {k : Int} {n i : Nat} (h : i < n) : (upFrom k n)[i]? = some (k + (i : Int)) := by simp [upFrom, h]
theorem mark_snoc {xs cs : List Int} {k : Int} {i : Nat} (hi : i < xs.length) (hc : cs = upFrom k i ++ xs.drop i) : cs.set i (k + (i : Int)) = upFrom k (i + 1) ++ xs.drop (i + 1) := by
  subst hc
  rw [List.set_append_right _ _ (by rw [upFrom_length]; exact Nat.le_refl _), upFrom_length, Nat.sub_self, List.drop_eq_getElem_cons hi, List.set_cons_zero]
  simp [upFrom, List.range_succ]

/-- A list of the call's own is marked: the k-th, the next one, .. -/
theorem markIntS_any (A : Option Addr) (c : Nat) (xs : List Int) (k : Int) (w : World) (base : Nat) (ho : OI w base A c xs) (hk : 0 ≤ k) (hk' : k ≤ 1000000000) (hn : xs.length ≤ 1000000000) :
    Calls Try.prog 17 #[.slice A xs.length c, .int .i64 k] w fun e w' => e = .returned (.int .i64 (k + xs.length)) ∧ OI w' base A c (upFrom k xs.length) ∧ w.grownBy w' (blk A) := by
  go_enter Try.func17, Try.ntmps17
  go_wp2_with fail
  go_loopw [1, 5] (fun q i wr => ∃ (j : Nat) (cs : List Int), j ≤ xs.length ∧ i = .int .i64 j ∧ q = .int .i64 (k + (j : Int)) ∧ Hid (cs = upFrom k j ++ xs.drop j) ∧ OI wr base A c cs ∧ w.grownBy wr (blk A)) (fun _ i _ => xs.length - (intOf i).toNat)
  case atStart => exact ⟨0, xs, by omega, rfl, by simp, hid (by simp [upFrom]), ho, gb_refl _ _⟩
  case round =>
    obtain ⟨j, cs, hj, rfl, rfl, hcs, hoc, hg⟩ := hrel
    have HL : Hid (cs.length = xs.length) := by rw [hcs.out]; simp [Hid, upFrom_length]; omega
    by_cases hlt : j < xs.length
    · have hlc : j < cs.length := by have := HL.out; omega
      obtain ⟨ad, y, rfl, _, hc⟩ := hoc.ri.get hlc
      obtain ⟨hs1, hs2, hs3⟩ := hoc.store j (k + (j : Int))
      go_wp2
      go_roundw
      case rel => exact ⟨j + 1, _, by omega, by go_num, by go_num, hid (mark_snoc hlt hcs.out), hs1, gb_trans hg hs2⟩
      case measure => simp [intOf]; omega
    · go_wp2
      go_ret
      have e : j = xs.length := by omega
      subst e
      have e2 : cs = upFrom k xs.length := by rw [hcs.out]; simp
      subst e2
      refine ⟨rfl, ?_, hg⟩
      have hl := HL.out
      exact hoc

theorem heldIntS_any (A : Option Addr) (c : Nat) (n : Nat) (k : Int) (w : World) (hr : RI w A c (upFrom k n)) (hk : 0 ≤ k) (hk' : k ≤ 1000000000) (hn : n ≤ 1000000000) :
    Calls Try.prog 18 #[.slice A n c, .int .i64 k] w (PN w (k + n)) := by
  have hbig := hr.big
  have hcap := hr.cap
  unfold maxLen at hbig
  rw [upFrom_length] at hcap
  go_enter Try.func18, Try.ntmps18
  go_wp2_with fail
  go_loop [1, 5] (fun q i => ∃ (j : Nat), j ≤ n ∧ i = .int .i64 j ∧ q = .int .i64 (k + (j : Int))) (fun _ i => n - (intOf i).toNat)
  case atStart => exact ⟨0, by omega, rfl, by simp⟩
  case round =>
    obtain ⟨j, hj, rfl, rfl⟩ := hrel
    by_cases hlt : j < n
    · obtain ⟨ad, y, rfl, hy, hc⟩ := hr.get (k := j) (by rw [upFrom_length]; exact hlt)
      obtain rfl : k + (j : Int) = y := Option.some.inj ((upFrom_at hlt).symm.trans hy.out)
      have hq : (k + (j : Int) != k + (j : Int)) = false := by simp
      go_wp2_with fail
      go_round
      case rel => exact ⟨j + 1, by omega, by go_num, by go_num⟩
      case measure => simp [intOf]; omega
    · have e : j = n := by omega
      subst e
      go_wp2_with fail
      go_ret
      exact ⟨_, hid rfl, rfl, rfl⟩

theorem sameInts_any (A B : Option Addr) (c d : Nat) (xs ys : List Int) (w : World) (hr : RI w A c xs) (hs : RI w B d ys) :
    Calls Try.prog 22 #[.slice A xs.length c, .slice B ys.length d] w (PBb w (decide (xs = ys))) := by
  have hbig := hr.big
  have hcap := hr.cap
  unfold maxLen at hbig
  by_cases hl : xs.length = ys.length
  · have hne : ((xs.length : Int) != (ys.length : Int)) = false := by simp [hl]
    have HL := hid hl
    clear hl
    go_enter Try.func22, Try.ntmps22
    go_wp2_with fail
    go_loopw [5] (fun i wr => ∃ k : Nat, k ≤ xs.length ∧ i = .int .i64 k ∧ Hid (xs.take k = ys.take k) ∧ Below w.heap.size w wr) (fun i _ => xs.length - (intOf i).toNat)
    case atStart => exact ⟨0, by omega, rfl, hid (by simp), Below.refl _ _⟩
    case round =>
      obtain ⟨k, hk, rfl, hh, hbw⟩ := hrel
      by_cases hlt : k < xs.length
      · obtain ⟨ad, x, rfl, HX, hc⟩ := (hr.below hbw).get hlt
        have hlt2 : k < ys.length := by have := HL.out; omega
        obtain ⟨ad2, y, rfl, HY, hc2⟩ := (hs.below hbw).get hlt2
        go_wp2_with fail
        go_quiet (fail)
        by_cases hxy : x = y
        · have hq : (x != y) = false := by simp [hxy]
          have HXY := hid hxy
          clear hxy
          go_wp2_with fail
          go_roundw
          case rel => exact ⟨k + 1, by omega, by go_num, hid (eq_snoc HX.out HY.out hh.out HXY.out), below_drewN hbw _⟩
          case measure => simp [intOf]; omega
        · have hq : (x != y) = true := by simp [hxy]
          have HXY := hid hxy
          clear hxy
          go_wp2_with fail
          go_ret
          refine ⟨_, ?_, rfl, below_drewN hbw _⟩
          exact hid (decide_eq_false (eq_no HX.out HY.out HXY.out)).symm
      · go_wp2
        go_ret
        refine ⟨_, ?_, rfl, hbw⟩
        have hl := HL.out
        exact hid (decide_eq_true (eq_done (by omega) (by omega) hh.out)).symm
  · have hne : ((xs.length : Int) != (ys.length : Int)) = true := by simp; omega
    have HL := hid hl
    clear hl
    go_enter Try.func22, Try.ntmps22
    go_wp2_with fail
    go_ret
    refine ⟨_, ?_, rfl, Below.refl _ _⟩
    exact hid (by simp; intro h; exact HL.out (by rw [h]))
end Go.Proofs.Ytiaheikoifnbaaa
