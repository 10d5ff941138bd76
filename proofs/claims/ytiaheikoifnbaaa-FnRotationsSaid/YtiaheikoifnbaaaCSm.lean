/- Contracts: lists that are alike; counts and their sums. No condition. -/
import Derived.Test.YtiaheikoifnbaaaCLs
import Derived.Test.YtiaheikoifnbaaaMem2
import Derived.Test.YtiaheikoifnbaaaPlTb2
import Derived.Deep.QuietTactic
namespace Go.Proofs.Ytiaheikoifnbaaa
open Go Go.RowKit

theorem alike_any (A B : Option Addr) (c d : Nat) (xs ys : List Int) (w : World) (hr : RI w A c xs) (hs : RI w B d ys) :
    Calls Try.prog 40 #[.slice A xs.length c, .slice B ys.length d] w (PBb w (decide (xs = ys))) := by
  have hbig := hr.big
  have hcap := hr.cap
  unfold maxLen at hbig
  by_cases hl : xs.length = ys.length
  · have hne : ((xs.length : Int) != (ys.length : Int)) = false := by simp [hl]
    have HL := hid hl
    clear hl
    go_enter Try.func40, Try.ntmps40
    go_wp2_with fail
    go_loopw [13] (fun i wr => ∃ k : Nat, k ≤ xs.length ∧ i = .int .i64 k ∧ Hid (xs.take k = ys.take k) ∧ Below w.heap.size w wr) (fun i _ => xs.length - (intOf i).toNat)
    case atStart => exact ⟨0, by omega, rfl, hid (by simp), Below.refl _ _⟩
    case round =>
      obtain ⟨k, hk, rfl, hh, hbw⟩ := hrel
      by_cases hlt : k < xs.length
      · obtain ⟨ad, x, rfl, HX, hc⟩ := (hr.below hbw).get hlt
        have hlt2 : k < ys.length := by have := HL.out; omega
        obtain ⟨ad2, y, rfl, HY, hc2⟩ := (hs.below hbw).get hlt2
        go_wp2_with fail
        go_quiet (fail)
        by_cases hxy : x = y
        · have hq : (x != y) = false := by simp [hxy]
          have HXY := hid hxy
          clear hxy
          go_wp2_with fail
          go_roundw
          case rel => exact ⟨k + 1, by omega, by go_num, hid (eq_snoc HX.out HY.out hh.out HXY.out), below_drewN hbw _⟩
          case measure => simp [intOf]; omega
        · have hq : (x != y) = true := by simp [hxy]
          have HXY := hid hxy
          clear hxy
          go_wp2_with fail
          go_ret
          refine ⟨_, ?_, rfl, below_drewN hbw _⟩
          exact hid (decide_eq_false (eq_no HX.out HY.out HXY.out)).symm
      · go_wp2
        go_ret
        refine ⟨_, ?_, rfl, hbw⟩
        have hl := HL.out
        exact hid (decide_eq_true (eq_done (by omega) (by omega) hh.out)).symm
  · have hne : ((xs.length : Int) != (ys.length : Int)) = true := by simp; omega
    have HL := hid hl
    clear hl
    go_enter Try.func40, Try.ntmps40
    go_wp2_with fail
    go_ret
    refine ⟨_, ?_, rfl, Below.refl _ _⟩
    exact hid (by simp; intro h; exact HL.out (by rw [h]))
theorem l2Same_any (A B : Option Addr) (c d : Nat) (xs ys : List Int) (w : World) (hr : RI w A c xs) (hs : RI w B d ys) :
    Calls Try.prog 42 #[.slice A xs.length c, .slice B ys.length d] w (PBb w (decide (xs = ys))) := by
  have hbig := hr.big
  have hcap := hr.cap
  unfold maxLen at hbig
  by_cases hl : xs.length = ys.length
  · have hne : ((xs.length : Int) != (ys.length : Int)) = false := by simp [hl]
    have HL := hid hl
    clear hl
    go_enter Try.func42, Try.ntmps42
    go_wp2_with fail
    go_loopw [5] (fun i wr => ∃ k : Nat, k ≤ xs.length ∧ i = .int .i64 k ∧ Hid (xs.take k = ys.take k) ∧ Below w.heap.size w wr) (fun i _ => xs.length - (intOf i).toNat)
    case atStart => exact ⟨0, by omega, rfl, hid (by simp), Below.refl _ _⟩
    case round =>
      obtain ⟨k, hk, rfl, hh, hbw⟩ := hrel
      by_cases hlt : k < xs.length
      · obtain ⟨ad, x, rfl, HX, hc⟩ := (hr.below hbw).get hlt
        have hlt2 : k < ys.length := by have := HL.out; omega
        obtain ⟨ad2, y, rfl, HY, hc2⟩ := (hs.below hbw).get hlt2
        go_wp2_with fail
        go_quiet (fail)
        by_cases hxy : x = y
        · have hq : (x != y) = false := by simp [hxy]
          have HXY := hid hxy
          clear hxy
          go_wp2_with fail
          go_roundw
          case rel => exact ⟨k + 1, by omega, by go_num, hid (eq_snoc HX.out HY.out hh.out HXY.out), below_drewN hbw _⟩
          case measure => simp [intOf]; omega
        · have hq : (x != y) = true := by simp [hxy]
          have HXY := hid hxy
          clear hxy
          go_wp2_with fail
          go_ret
          refine ⟨_, ?_, rfl, below_drewN hbw _⟩
          exact hid (decide_eq_false (eq_no HX.out HY.out HXY.out)).symm
      · go_wp2
        go_ret
        refine ⟨_, ?_, rfl, hbw⟩
        have hl := HL.out
        exact hid (decide_eq_true (eq_done (by omega) (by omega) hh.out)).symm
  · have hne : ((xs.length : Int) != (ys.length : Int)) = true := by simp; omega
    have HL := hid hl
    clear hl
    go_enter Try.func42, Try.ntmps42
    go_wp2_with fail
    go_ret
    refine ⟨_, ?_, rfl, Below.refl _ _⟩
    exact hid (by simp; intro h; exact HL.out (by rw [h]))
/-- How often each symbol stands among the first k. -/
def countsK (L : List Int) (k : Nat) : List Int := (List.range 8).map fun s => ((grp L k s).length : Int)
def countsL (L : List Int) : List Int := countsK L L.length
theorem countsK_length (L : List Int) (k : Nat) : (countsK L k).length = 8 := by simp [countsK]
theorem countsK_at {L : List Int} {k s : Nat} (h : s < 8) : (countsK L k)[s]? = some ((grp L k s).length : Int) := by simp [countsK, h]
theorem countsK_zero (L : List Int) : countsK L 0 = List.replicate 8 0 := by simp [countsK, grp, List.replicate, List.range_succ]
theorem tab_set {f g : Nat → Int} {n s : Nat} (hs : s < n) {v : Int} (h1 : g s = v) (h2 : ∀ t, t ≠ s → g t = f t) : ((List.range n).map f).set s v = (List.range n).map g := by
  refine List.ext_getElem? fun t => ?_
  rw [List.getElem?_set, List.getElem?_map, List.getElem?_map]
  by_cases ht : s = t
  · subst ht; simp [hs, h1]
  · rw [if_neg ht]
    by_cases htn : t < n
    · simp [htn, h2 t (Ne.symm ht)]
    · simp [htn]
theorem countsK_snoc {L : List Int} {k s : Nat} (h : L[k]? = some (s : Int)) (hs : s < 8) : (countsK L k).set s (((grp L k s).length : Int) + 1) = countsK L (k + 1) := by
  refine tab_set hs ?_ fun t ht => ?_
  · rw [grp_succ h, if_pos rfl]; simp
  · rw [grp_succ h, if_neg (by omega)]
theorem grp_le (L : List Int) (k s : Nat) : (grp L k s).length ≤ k := by
  unfold grp
  exact Nat.le_trans (List.length_filter_le _ _) (by simp)
def allSym (L : List Int) : Prop := ∀ (k : Nat) (x : Int), L[k]? = some x → 0 ≤ x ∧ x ≤ 7
theorem allSym_of {L : List Int} (h : listOk L = true) : allSym L := fun _ _ hx => listOk_at h hx
theorem countsOf_any (A : Option Addr) (c : Nat) (xs : List Int) (w : World) (hr : RI w A c xs) (hs : allSym xs) (hn : xs.length ≤ 1000000) :
    Calls Try.prog 37 #[.slice A xs.length c] w (PL w (countsL xs)) := by
  have HS := hid hs
  clear hs
  go_enter Try.func37, Try.ntmps37
  go_wp2_with (refine wpl_make intT rfl _ _ rfl 8 rfl rfl rfl rfl (by omega) w.heap.size (Nat.le_refl _) ?_; intro A1 w1 zs hz hz1 hz2 ho1 hg1 hb1)
  have e8 : zs.length = 8 := by omega
  rw [e8]
  clear e8
  go_loopw [9] (fun i wr => ∃ (k : Nat) (cs : List Int), k ≤ xs.length ∧ i = .int .i64 k ∧ Hid (cs = countsK xs k) ∧ OI wr w.heap.size A1 8 cs ∧ Below w.heap.size w wr) (fun i _ => xs.length - (intOf i).toNat)
  case atStart => exact ⟨0, zs, by omega, rfl, hid (by rw [hz.out, countsK_zero]), ho1, (Below.refl _ _).grown hg1 (Nat.le_refl _) (by simp)⟩
  case round =>
    obtain ⟨k, cs, hk, rfl, hcs, ho, hbw⟩ := hrel
    by_cases hlt : k < xs.length
    · obtain ⟨ad, x, rfl, HX, hc⟩ := (hr.below hbw).get hlt
      obtain ⟨hx0, hx1⟩ := HS.out k x HX.out
      obtain ⟨s, rfl⟩ := Int.eq_ofNat_of_zero_le hx0
      have hs8 : s < 8 := by omega
      clear hx0 hx1
      obtain ⟨ad2, y, rfl, HY, hc2⟩ := ho.ri.get (k := s) (by rw [hcs.out, countsK_length]; exact hs8)
      obtain rfl : ((grp xs k s).length : Int) = y := by have := HY.out; rw [hcs.out, countsK_at hs8] at this; exact Option.some.inj this
      have hle := grp_le xs k s
      have HN := hid (countsK_snoc HX.out hs8)
      clear HX HY
      generalize (grp xs k s).length = q at *
      obtain ⟨hs1, hs2, hs3⟩ := ho.store s ((q : Int) + 1)
      go_wp2_with fail
      go_roundw
      case rel => exact ⟨k + 1, _, by omega, by go_num, hid (by rw [hcs.out, HN.out]), hs1, OI.belowOwn hbw ho hs2 (Nat.le_refl _)⟩
      case measure => simp [intOf]; omega
    · go_wp2_with fail
      go_ret
      have e : k = xs.length := by omega
      subst e
      have hl : cs.length = 8 := by rw [hcs.out, countsK_length]
      exact ⟨_, _, cs, hcs, ho, ret_slice (by omega), hbw⟩
def countsF (xs : List Int) : List Int := if listOk xs then countsL xs else []
theorem CountsOf_any (A : Option Addr) (c : Nat) (xs : List Int) (w : World) (hr : RI w A c xs) : Calls Try.prog 26 #[.slice A xs.length c] w (PL w (countsF xs)) := by
  go_enter Try.func26, Try.ntmps26
  go_wp2_with fail
  refine (ListValid_any _ _ _ _ hr).mono ?_
  rintro _ w' ⟨b, hb, rfl, rfl⟩
  cases b
  · go_wp2_with fail
    go_ret
    exact ⟨_, _, [], hid (by simp [countsF, hb.out.symm]), OI.empty w w.heap.size (Nat.le_refl _), rfl, below_new _ _⟩
  have hn := (listOk_iff.1 hb.out.symm).1
  go_wp2_with fail
  refine (countsOf_any _ _ _ _ hr (allSym_of hb.out.symm) (by omega)).mono ?_
  rintro _ w1 ⟨A1, c1, ys, hys, ho, rfl, hb1⟩
  go_wp2_with fail
  go_ret
  exact ⟨_, _, ys, hid (by rw [hys.out]; simp [countsF, hb.out.symm]), ho, rfl, hb1⟩
/-- The sums ahead of each place. -/
def startsL (cs : List Int) : List Int := (List.range cs.length).map fun k => (cs.take k).sum
theorem startsL_snoc {cs : List Int} {k : Nat} (h : k < cs.length) : (startsL cs).take (k + 1) = (startsL cs).take k ++ [(cs.take k).sum] := by
  refine take_snoc' ?_
  simp [startsL, h]
theorem sum_snoc {cs : List Int} {k : Nat} {x : Int} (h : cs[k]? = some x) : (cs.take (k + 1)).sum = (cs.take k).sum + x := by rw [take_snoc' h]; simp
theorem sum_bd {cs : List Int} (h : ∀ x ∈ cs, 0 ≤ x ∧ x ≤ 1000000) : 0 ≤ cs.sum ∧ cs.sum ≤ 1000000 * cs.length := by
  induction cs with
  | nil => simp
  | cons x cs ih =>
    have h1 := h x (by simp)
    have h2 := ih fun y hy => h y (by simp [hy])
    simp; omega
theorem sum_take_bd {cs : List Int} (h : ∀ x ∈ cs, 0 ≤ x ∧ x ≤ 1000000) (k : Nat) : 0 ≤ (cs.take k).sum ∧ (cs.take k).sum ≤ 1000000 * cs.length := by
  have h1 := sum_bd (cs := cs.take k) fun x hx => h x (List.mem_of_mem_take hx)
  have : (cs.take k).length ≤ cs.length := by rw [List.length_take]; omega
  omega
theorem startsOf_any (A : Option Addr) (c : Nat) (cs : List Int) (w : World) (hr : RI w A c cs) (hx : ∀ x ∈ cs, 0 ≤ x ∧ x ≤ 1000000) (hn : cs.length ≤ 1000000) :
    Calls Try.prog 39 #[.slice A cs.length c] w (PL w (startsL cs)) := by
  have HX0 := hid hx
  clear hx
  go_enter Try.func39, Try.ntmps39
  go_wp2_with fail
  go_loopw [3, 4, 10] (fun v t i wr => ∃ (k : Nat) (A' : Option Addr) (c' : Nat) (ys : List Int) (q : Int), k ≤ cs.length ∧ i = .int .i64 k ∧ v = .slice A' ys.length c' ∧ t = .int .i64 q ∧ Hid (q = (cs.take k).sum) ∧ Hid (ys = (startsL cs).take k) ∧ ys.length ≤ k ∧ OI wr w.heap.size A' c' ys ∧ Below w.heap.size w wr) (fun _ _ i _ => cs.length - (intOf i).toNat)
  case atStart => exact ⟨0, _, _, [], 0, by omega, rfl, rfl, rfl, hid (by simp), hid (by simp), by simp, OI.empty w w.heap.size (Nat.le_refl _), below_new _ _⟩
  case round =>
    obtain ⟨k, A', c', ys, q, hk, rfl, rfl, rfl, hq, hys, hl, ho, hbw⟩ := hrel
    by_cases hlt : k < cs.length
    · obtain ⟨ad, x, rfl, HX, hc⟩ := (hr.below hbw).get hlt
      obtain ⟨hx0, hx1⟩ := HX0.out x (List.mem_of_getElem? HX.out)
      obtain ⟨hq0, hq1⟩ : 0 ≤ q ∧ q ≤ 1000000 * cs.length := by rw [hq.out]; exact sum_take_bd HX0.out k
      have HN := hid (sum_snoc HX.out)
      have HM := hid (startsL_snoc hlt)
      have hwz := hbw.size
      clear HX
      go_wp2_with (at_builtin; refine wpl_app (ys := [q]) intT rfl _ _ rfl rfl (ho.alloc _) rfl (RI.one wr q) (by simp; omega) (by simp; omega) ?_; intro A3 c3 w3 zs hzs ho3 hg3 hat3)
      go_roundw
      case rel => exact ⟨k + 1, A3, c3, zs, q + x, by omega, by go_num, rfl, by go_num, hid (by rw [HN.out, hq.out]), hid (by rw [hzs.out, hys.out, HM.out, hq.out]), by rw [hzs.out]; simp; omega, ho3, OI.belowOwn (below_on hbw (below_new _ _)) (ho.alloc _) hg3 (Nat.le_refl _)⟩
      case measure => simp [intOf]; omega
    · go_wp2_with fail
      go_ret
      have e : k = cs.length := by omega
      subst e
      exact ⟨_, _, ys, hid (by rw [hys.out, List.take_of_length_le (by simp [startsL])]), ho, rfl, hbw⟩
end Go.Proofs.Ytiaheikoifnbaaa
