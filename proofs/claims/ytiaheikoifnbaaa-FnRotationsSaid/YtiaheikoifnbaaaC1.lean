/- Contracts of the smallest functions. No condition. -/
import Derived.Test.YtiaheikoifnbaaaChecked
import Derived.Test.YtiaheikoifnbaaaMem
import Derived.Test.YtiaheikoifnbaaaPl
namespace Go.Proofs.Ytiaheikoifnbaaa
open Go Go.RowKit

theorem within_any (n lo hi : Int) (w : World) :
    Calls Try.prog 38 #[.int .i64 n, .int .i64 lo, .int .i64 hi] w (PB w (inB lo hi n)) := by
  go_enter Try.func38, Try.ntmps38
  go_wp2
  all_goals go_ret
  all_goals refine ⟨_, ?_, rfl, rfl⟩
  all_goals simp [Hid, inB, *]
  all_goals omega

theorem l6In_any (n lo hi : Int) (w : World) :
    Calls Try.prog 35 #[.int .i64 n, .int .i64 lo, .int .i64 hi] w (PB w (inB lo hi n)) := by
  go_enter Try.func35, Try.ntmps35
  go_wp2
  all_goals go_ret
  all_goals refine ⟨_, ?_, rfl, rfl⟩
  all_goals simp [Hid, inB, *]
  all_goals omega

theorem every_any (A : Option Addr) (c : Nat) (xs : List Int) (lo hi : Int) (w : World) (hr : RI w A c xs) :
    Calls Try.prog 45 #[.slice A xs.length c, .int .i64 lo, .int .i64 hi] w (PB w (xs.all (inB lo hi))) := by
  have hbig := hr.big
  have hcap := hr.cap
  unfold maxLen at hbig
  go_enter Try.func45, Try.ntmps45
  go_wp2_with fail
  go_loop [11] (fun i => ∃ k : Nat, k ≤ xs.length ∧ i = .int .i64 k ∧ Hid ((xs.take k).all (inB lo hi) = true)) (fun i => xs.length - (intOf i).toNat)
  case atStart => exact ⟨0, by omega, rfl, by simp [Hid]⟩
  case round =>
    obtain ⟨k, hk, rfl, hh⟩ := hrel
    by_cases hlt : k < xs.length
    · obtain ⟨ad, x, rfl, HX, hc⟩ := hr.get hlt
      go_wp2_with (go_at_call 38; refine (within_any _ _ _ _).mono ?_; rintro e w' ⟨b, hb1, rfl, rfl⟩; cases b)
      · go_ret
        exact ⟨_, hid (all_no HX.out hb1.out.symm).symm, rfl, rfl⟩
      · go_round
        case rel => exact ⟨k + 1, by omega, by go_num, hid (all_snoc HX.out hh.out hb1.out.symm)⟩
        case measure => simp [intOf]; omega
    · go_wp2
      go_ret
      exact ⟨_, hid (all_done (by omega) hh.out).symm, rfl, rfl⟩

theorem eqIntS_any (A B : Option Addr) (c d : Nat) (xs ys : List Int) (w : World) (hr : RI w A c xs) (hs : RI w B d ys) :
    Calls Try.prog 16 #[.slice A xs.length c, .slice B ys.length d] w (PBb w (decide (xs = ys))) := by
  have hbig := hr.big
  have hcap := hr.cap
  unfold maxLen at hbig
  by_cases hl : xs.length = ys.length
  · have hne : ((xs.length : Int) != (ys.length : Int)) = false := by simp [hl]
    have HL := hid hl
    clear hl
    go_enter Try.func16, Try.ntmps16
    go_wp2_with fail
    go_loopw [5] (fun i wr => ∃ k : Nat, k ≤ xs.length ∧ i = .int .i64 k ∧ Hid (xs.take k = ys.take k) ∧ Below w.heap.size w wr) (fun i _ => xs.length - (intOf i).toNat)
    case atStart => exact ⟨0, by omega, rfl, hid (by simp), Below.refl _ _⟩
    case round =>
      obtain ⟨k, hk, rfl, hh, hbw⟩ := hrel
      by_cases hlt : k < xs.length
      · obtain ⟨ad, x, rfl, HX, hc⟩ := (hr.below hbw).get hlt
        have hlt2 : k < ys.length := by have := HL.out; omega
        obtain ⟨ad2, y, rfl, HY, hc2⟩ := (hs.below hbw).get hlt2
        go_wp2_with fail
        go_quiet (fail)
        by_cases hxy : x = y
        · have hq : (x != y) = false := by simp [hxy]
          have HXY := hid hxy
          clear hxy
          go_wp2_with fail
          go_roundw
          case rel => exact ⟨k + 1, by omega, by go_num, hid (eq_snoc HX.out HY.out hh.out HXY.out), below_drewN hbw _⟩
          case measure => simp [intOf]; omega
        · have hq : (x != y) = true := by simp [hxy]
          have HXY := hid hxy
          clear hxy
          go_wp2_with fail
          go_ret
          refine ⟨_, ?_, rfl, below_drewN hbw _⟩
          exact hid (decide_eq_false (eq_no HX.out HY.out HXY.out)).symm
      · go_wp2
        go_ret
        refine ⟨_, ?_, rfl, hbw⟩
        have hl := HL.out
        exact hid (decide_eq_true (eq_done (by omega) (by omega) hh.out)).symm
  · have hne : ((xs.length : Int) != (ys.length : Int)) = true := by simp; omega
    have HL := hid hl
    clear hl
    go_enter Try.func16, Try.ntmps16
    go_wp2_with fail
    go_ret
    refine ⟨_, ?_, rfl, Below.refl _ _⟩
    exact hid (by simp; intro h; exact HL.out (by rw [h]))
theorem intT : SlT Try.prog 22 3 1 8 (.int .i64 0) :=
  ⟨Try.underlying22, info_parts (by kernel_rfl), rfl, by omega⟩

theorem toIntS_any (A : Option Addr) (c : Nat) (xs : List Int) (w : World) (hr : RI w A c xs) (hn : xs.length ≤ 17592186044416) :
    Calls Try.prog 14 #[.slice A xs.length c] w (PL w xs) := by
  go_enter Try.func14, Try.ntmps14
  go_wp2_with (refine wpl_make intT rfl _ _ rfl xs.length rfl rfl rfl rfl hn w.heap.size (Nat.le_refl _) ?_; intro A1 w1 zs hz hz1 hz2 ho1 hg1 hb1)
  go_loopw [4] (fun i wr => ∃ (k : Nat) (cs : List Int), k ≤ xs.length ∧ i = .int .i64 k ∧ Hid (cs = xs.take k ++ List.replicate (xs.length - k) 0) ∧ OI wr w.heap.size A1 xs.length cs ∧ Below w.heap.size w wr) (fun i _ => xs.length - (intOf i).toNat)
  case atStart =>
    refine ⟨0, zs, by omega, rfl, hid (by simp [hz.out]), ho1, ?_⟩
    exact (Below.refl _ _).grown hg1 (Nat.le_refl _) (by simp)
  case round =>
    obtain ⟨k, cs, hk, rfl, hcs, ho, hbw⟩ := hrel
    have HL : Hid (cs.length = xs.length) := by rw [hcs.out]; simp [Hid]; omega
    by_cases hlt : k < xs.length
    · obtain ⟨ad, x, rfl, HX, hc⟩ := (hr.below hbw).get hlt
      obtain ⟨ad2, y, rfl, _, hc2⟩ := ho.ri.get (k := k) (by have := HL.out; omega)
      obtain ⟨hs1, hs2, hs3⟩ := ho.store k x
      have hlo := ho.lo
      go_wp2
      go_roundw
      case rel => exact ⟨k + 1, _, by omega, by go_num, hid (fill_snoc hlt HX.out hcs.out), hs1, hbw.setCell (by rw [block_of_add]; exact hlo) _⟩
      case measure => simp [intOf]; omega
    · go_wp2
      go_ret
      have e : cs = xs := by
        rw [hcs.out, List.take_of_length_le (by omega), show xs.length - k = 0 by omega]; simp
      subst e
      exact ⟨_, _, cs, hid rfl, ho, ret_slice (by omega), hbw⟩
theorem bcell {W w1 : World} (hb : Below W.heap.size W w1) : (∀ b o, b < W.heap.size → w1.cell? ⟨b, o, none⟩ = W.cell? ⟨b, o, none⟩) ∧ (∀ b o, b < W.heap.size → w1.frozen? ⟨b, o, none⟩ = W.frozen? ⟨b, o, none⟩) :=
  ⟨fun b o h => hb.cell (p := ⟨b, o, none⟩) h, fun b o h => hb.frozen (p := ⟨b, o, none⟩) h⟩

/-- 'within' with its answer known. -/
def PW (w : World) (lo hi n : Int) (e : Ending) (w' : World) : Prop :=
  (Hid (inB lo hi n = true) ∧ lo ≤ n ∧ n ≤ hi ∧ e = .returned (.bool true) ∧ w = w') ∨ (Hid (inB lo hi n = false) ∧ e = .returned (.bool false) ∧ w = w')
theorem PW_of {w w' : World} {lo hi n : Int} {e : Ending} (h : PB w (inB lo hi n) e w') : PW w lo hi n e w' := by
  obtain ⟨b, hb, he, hw⟩ := h
  cases b
  · exact .inr ⟨hb.out.symm, he, hw⟩
  · exact .inl ⟨hb.out.symm, (inB_true.1 hb.out.symm).1, (inB_true.1 hb.out.symm).2, he, hw⟩
theorem within_or (n lo hi : Int) (w : World) : Calls Try.prog 38 #[.int .i64 n, .int .i64 lo, .int .i64 hi] w (PW w lo hi n) := (within_any n lo hi w).mono fun _ _ h => PW_of h
theorem l6In_or (n lo hi : Int) (w : World) : Calls Try.prog 35 #[.int .i64 n, .int .i64 lo, .int .i64 hi] w (PW w lo hi n) := (l6In_any n lo hi w).mono fun _ _ h => PW_of h

end Go.Proofs.Ytiaheikoifnbaaa
