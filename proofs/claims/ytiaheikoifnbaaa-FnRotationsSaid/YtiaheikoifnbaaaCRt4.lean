/- Contracts: rotations of the reference; lists are turned. No condition. -/
import Derived.Test.YtiaheikoifnbaaaCRt3
namespace Go.Proofs.Ytiaheikoifnbaaa
open Go Go.RowKit

/-- What a call answers: a list of the call's own, a number and a bool. -/
def PLNB (w : World) (f : List Int × Int × Bool) (e : Ending) (w' : World) : Prop :=
  ∃ A c ys n b, Hid (ys = f.1) ∧ Hid (n = f.2.1) ∧ Hid (b = f.2.2) ∧ OI w' w.heap.size A c ys ∧ e = .returned (.tuple #[.slice A ys.length c, .int .i64 n, .bool b]) ∧ Below w.heap.size w w'
theorem sRotationsOf_any (A : Option Addr) (c : Nat) (xs : List Int) (w : World) (hr : RI w A c xs) :
    Calls Try.prog 13 #[.slice A xs.length c] w (PL w (rotsOf xs)) := by
  go_enter Try.func13, Try.ntmps13
  go_wp2_with fail
  refine (sListValid_any _ _ _ _ hr).mono ?_
  rintro _ w' ⟨b, hb, rfl, rfl⟩
  cases b
  · go_wp2_with fail
    go_ret
    exact ⟨_, _, [], hid (by simp [rotsOf, hb.out.symm]), OI.empty w w.heap.size (Nat.le_refl _), rfl, below_new _ _⟩
  have HF : Hid (rotsOf xs = nints (ordN xs)) := by simp [Hid, rotsOf, hb.out.symm]
  have hn : xs.length ≤ 40 := (listOk_iff.1 hb.out.symm).1
  clear hb
  go_wp2_with fail
  refine (l16Order_any _ _ _ _ hr (by omega)).mono ?_
  rintro _ w' ⟨A1, c1, ys, hys, ho, rfl, hb1⟩
  go_wp2_with fail
  go_ret
  exact ⟨_, _, ys, hid (hys.out.trans HF.out.symm), ho, rfl, hb1⟩
theorem step_place {ps : List Nat} {k e : Nat} (h : ps[k]? = some e) : placeK ps (k + 1) = if e = 0 then k else placeK ps k := by
  rw [placeK, h]; simp
theorem last_at {xs : List Int} {e : Nat} {x : Int} (h : xs[(e + xs.length - 1) % xs.length]? = some x) : rat xs (e + xs.length - 1) = x := rat_at h

set_option maxHeartbeats 1000000 in
theorem TurnOf_any (A : Option Addr) (c : Nat) (xs : List Int) (w : World) (hr : RI w A c xs) :
    Calls Try.prog 20 #[.slice A xs.length c] w (PLNB w (turnOf xs)) := by
  go_enter Try.func20, Try.ntmps20
  go_wp2_with fail
  refine (ListValid_any _ _ _ _ (hr.alloc _)).mono ?_
  rintro _ w' ⟨b, hb, rfl, rfl⟩
  cases b
  · go_wp2_with fail
    go_ret3
    exact ⟨_, _, [], 0, false, hid (by simp [turnOf, hb.out.symm]), hid (by simp [turnOf, hb.out.symm]), hid (by simp [turnOf, hb.out.symm]), OI.empty w w.heap.size (Nat.le_refl _), rfl, below_new _ _⟩
  have HF : Hid (turnOf xs = (turnF xs, (turnAt xs : Int), true)) := by simp [Hid, turnOf, hb.out.symm]
  have HO : Hid (rotsOf xs = nints (ordN xs)) := by simp [Hid, rotsOf, hb.out.symm]
  have hn : xs.length ≤ 40 := (listOk_iff.1 hb.out.symm).1
  clear hb
  have hr0 := hr.alloc (.cells #[] 3)
  go_wp2_with fail
  refine (RotationsOf_any _ _ _ _ (hr.alloc _)).mono ?_
  rintro _ w1 ⟨A1, c1, os, hos, ho1, rfl, hb1⟩
  rw [HO.out] at hos
  have hbw := below_on (below_new w _) hb1
  have hol : os.length ≤ xs.length ∧ xs.length ≤ os.length := by rw [hos.out, nints_length, ordN_length]; omega
  obtain ⟨hol1, hol2⟩ := hol
  have hoe := (OI.empty w w.heap.size (Nat.le_refl _)).below hb1
  simp at ho1
  go_wp2_with fail
  go_loopw [5, 6, 20] (fun v pl i wr => ∃ (k : Nat) (A' : Option Addr) (c' : Nat) (ys : List Int), k ≤ xs.length ∧ i = .int .i64 k ∧ v = .slice A' ys.length c' ∧ pl = .int .i64 ((placeK (ordN xs) k : Nat) : Int) ∧ Hid (ys = (turnF xs).take k) ∧ ys.length ≤ k ∧ OI wr w.heap.size A' c' ys ∧ OI wr w.heap.size A1 c1 os ∧ (∀ b, blk A' = some b → blk A1 ≠ some b) ∧ Below w.heap.size w wr) (fun _ _ i _ => xs.length - (intOf i).toNat)
  case atStart => exact ⟨0, _, _, [], by omega, rfl, rfl, rfl, hid rfl, by simp, hoe, ho1.mono (by omega), fun b hb hb' => by have := (OI.lt ho1 hb').1; simp [blk] at hb; omega, hbw⟩
  case round =>
    obtain ⟨k, A', c', ys, hk, rfl, rfl, rfl, hys, hl1, ho, hoo, hdis, hbw⟩ := hrel
    have hrw := hr.below hbw
    by_cases hlt : k < xs.length
    · have hL : 0 < xs.length := by omega
      obtain ⟨ad, y, rfl, HY, hc⟩ := hoo.ri.get (k := k) (by omega)
      obtain ⟨e, he', rfl⟩ := nints_at (hos.out ▸ HY.out)
      have he := hid he'
      have hek : e < xs.length := ord_lt he'
      have hpl := hid (step_place he')
      clear he' HY
      obtain ⟨ad2, x, rfl, HX, hcx⟩ := hrw.get (k := (e + xs.length - 1) % xs.length) (Nat.mod_lt _ hL)
      have HT := hid (turnF_snoc he.out (last_at HX.out))
      clear HX
      have hL0 : ¬ xs.length = 0 := by omega
      have hc2 : ((e + xs.length - 1 : Nat) : Int) = (e : Int) + (xs.length : Int) - 1 := by omega
      have e0 : 0 ≤ ((e : Int) + (xs.length : Int) - 1) % (xs.length : Int) := Int.emod_nonneg _ (by omega)
      have e1 : ((e : Int) + (xs.length : Int) - 1) % (xs.length : Int) < (xs.length : Int) := Int.emod_lt_of_pos _ (by omega)
      have e2 : (((e : Int) + (xs.length : Int) - 1) % (xs.length : Int)).toNat = (e + xs.length - 1) % xs.length := by rw [← hc2, ← Int.natCast_emod, Int.toNat_natCast]
      have hg0 : (0 : Int) ≤ (e : Int) + (xs.length : Int) - 1 := by omega
      clear hc2
      have hx := hbw.size
      by_cases hz : e = 0
      all_goals
        first | (have hq : ((e : Int) == 0) = true := (by simp [hz]); rw [if_pos hz] at hpl) | (have hq : ((e : Int) == 0) = false := (by simp [hz]); rw [if_neg hz] at hpl)
        have HZ := hid hz
        clear hz
        go_wp2_with (at_builtin; refine wpl_app (ys := [x]) intT rfl _ _ rfl rfl (ho.alloc _) rfl (RI.one wr x) (by simp; omega) (by simp; omega) ?_; intro A3 c3 w3 zs hzs ho3 hg3 hat3; have hoo3 := OI.grown (hoo.alloc (.cells #[.int .i64 x] 3)) hg3 (fun g hg' e' => hdis g e' hg'); have hk3 := hoo3.ri.cellAt (k := k) (by rw [hos.out, nints, List.getElem?_map, he.out]; rfl))
        go_roundw
        case rel => exact ⟨k + 1, A3, c3, zs, by omega, by go_num, rfl, congrArg (fun (q : Nat) => Value.int .i64 (q : Int)) hpl.out.symm, hid (by rw [hzs.out, hys.out, HT.out]), by rw [hzs.out]; simp; omega, ho3, hoo3, fun b hb hb' => by have := (OI.lt hoo hb').2; rcases hat3 with h | h; exact hdis b (h ▸ hb) hb'; rw [h] at hb; simp at hb; omega, OI.belowOwn (below_on hbw (below_new _ _)) (ho.alloc _) hg3 (Nat.le_refl _)⟩
        case measure => simp [intOf]; omega
    · go_wp2_with fail
      go_ret3
      have e : k = xs.length := by omega
      subst e
      have e2 : ys = (turnOf xs).1 := by rw [hys.out, HF.out, List.take_of_length_le (by rw [turnF_length]; exact Nat.le_refl _)]
      exact ⟨_, _, ys, _, true, hid e2, hid (by rw [HF.out]; rfl), hid (by rw [HF.out]), ho, rfl, hbw⟩

set_option maxHeartbeats 1000000 in
theorem sTurnOf_any (A : Option Addr) (c : Nat) (xs : List Int) (w : World) (hr : RI w A c xs) :
    Calls Try.prog 19 #[.slice A xs.length c] w (PLNB w (turnOf xs)) := by
  go_enter Try.func19, Try.ntmps19
  go_wp2_with fail
  refine (sListValid_any _ _ _ _ (hr.alloc _)).mono ?_
  rintro _ w' ⟨b, hb, rfl, rfl⟩
  cases b
  · go_wp2_with fail
    go_ret3
    exact ⟨_, _, [], 0, false, hid (by simp [turnOf, hb.out.symm]), hid (by simp [turnOf, hb.out.symm]), hid (by simp [turnOf, hb.out.symm]), OI.empty w w.heap.size (Nat.le_refl _), rfl, below_new _ _⟩
  have HF : Hid (turnOf xs = (turnF xs, (turnAt xs : Int), true)) := by simp [Hid, turnOf, hb.out.symm]
  have HO : Hid (rotsOf xs = nints (ordN xs)) := by simp [Hid, rotsOf, hb.out.symm]
  have hn : xs.length ≤ 40 := (listOk_iff.1 hb.out.symm).1
  clear hb
  have hr0 := hr.alloc (.cells #[] 3)
  go_wp2_with fail
  refine (l16Order_any _ _ _ _ (hr.alloc _) (by omega)).mono ?_
  rintro _ w1 ⟨A1, c1, os, hos, ho1, rfl, hb1⟩
  clear HO
  have hbw := below_on (below_new w _) hb1
  have hol : os.length ≤ xs.length ∧ xs.length ≤ os.length := by rw [hos.out, nints_length, ordN_length]; omega
  obtain ⟨hol1, hol2⟩ := hol
  have hoe := (OI.empty w w.heap.size (Nat.le_refl _)).below hb1
  simp at ho1
  go_wp2_with fail
  go_loopw [5, 6, 8] (fun v pl i wr => ∃ (k : Nat) (A' : Option Addr) (c' : Nat) (ys : List Int), k ≤ xs.length ∧ i = .int .i64 k ∧ v = .slice A' ys.length c' ∧ pl = .int .i64 ((placeK (ordN xs) k : Nat) : Int) ∧ Hid (ys = (turnF xs).take k) ∧ ys.length ≤ k ∧ OI wr w.heap.size A' c' ys ∧ OI wr w.heap.size A1 c1 os ∧ (∀ b, blk A' = some b → blk A1 ≠ some b) ∧ Below w.heap.size w wr) (fun _ _ i _ => xs.length - (intOf i).toNat)
  case atStart => exact ⟨0, _, _, [], by omega, rfl, rfl, rfl, hid rfl, by simp, hoe, ho1.mono (by omega), fun b hb hb' => by have := (OI.lt ho1 hb').1; simp [blk] at hb; omega, hbw⟩
  case round =>
    obtain ⟨k, A', c', ys, hk, rfl, rfl, rfl, hys, hl1, ho, hoo, hdis, hbw⟩ := hrel
    have hrw := hr.below hbw
    by_cases hlt : k < xs.length
    · have hL : 0 < xs.length := by omega
      obtain ⟨ad, y, rfl, HY, hc⟩ := hoo.ri.get (k := k) (by omega)
      obtain ⟨e, he', rfl⟩ := nints_at (hos.out ▸ HY.out)
      have he := hid he'
      have hek : e < xs.length := ord_lt he'
      have hpl := hid (step_place he')
      clear he' HY
      obtain ⟨ad2, x, rfl, HX, hcx⟩ := hrw.get (k := (e + xs.length - 1) % xs.length) (Nat.mod_lt _ hL)
      have HT := hid (turnF_snoc he.out (last_at HX.out))
      clear HX
      have hL0 : ¬ xs.length = 0 := by omega
      have hc2 : ((e + xs.length - 1 : Nat) : Int) = (e : Int) + (xs.length : Int) - 1 := by omega
      have e0 : 0 ≤ ((e : Int) + (xs.length : Int) - 1) % (xs.length : Int) := Int.emod_nonneg _ (by omega)
      have e1 : ((e : Int) + (xs.length : Int) - 1) % (xs.length : Int) < (xs.length : Int) := Int.emod_lt_of_pos _ (by omega)
      have e2 : (((e : Int) + (xs.length : Int) - 1) % (xs.length : Int)).toNat = (e + xs.length - 1) % xs.length := by rw [← hc2, ← Int.natCast_emod, Int.toNat_natCast]
      have hg0 : (0 : Int) ≤ (e : Int) + (xs.length : Int) - 1 := by omega
      clear hc2
      have hx := hbw.size
      by_cases hz : e = 0
      all_goals
        first | (have hq : ((e : Int) == 0) = true := (by simp [hz]); rw [if_pos hz] at hpl) | (have hq : ((e : Int) == 0) = false := (by simp [hz]); rw [if_neg hz] at hpl)
        have HZ := hid hz
        clear hz
        go_wp2_with (at_builtin; refine wpl_app (ys := [x]) intT rfl _ _ rfl rfl (ho.alloc _) rfl (RI.one wr x) (by simp; omega) (by simp; omega) ?_; intro A3 c3 w3 zs hzs ho3 hg3 hat3; have hoo3 := OI.grown (hoo.alloc (.cells #[.int .i64 x] 3)) hg3 (fun g hg' e' => hdis g e' hg'); have hk3 := hoo3.ri.cellAt (k := k) (by rw [hos.out, nints, List.getElem?_map, he.out]; rfl))
        go_roundw
        case rel => exact ⟨k + 1, A3, c3, zs, by omega, by go_num, rfl, congrArg (fun (q : Nat) => Value.int .i64 (q : Int)) hpl.out.symm, hid (by rw [hzs.out, hys.out, HT.out]), by rw [hzs.out]; simp; omega, ho3, hoo3, fun b hb hb' => by have := (OI.lt hoo hb').2; rcases hat3 with h | h; exact hdis b (h ▸ hb) hb'; rw [h] at hb; simp at hb; omega, OI.belowOwn (below_on hbw (below_new _ _)) (ho.alloc _) hg3 (Nat.le_refl _)⟩
        case measure => simp [intOf]; omega
    · go_wp2_with fail
      go_ret3
      have e : k = xs.length := by omega
      subst e
      have e2 : ys = (turnOf xs).1 := by rw [hys.out, HF.out, List.take_of_length_le (by rw [turnF_length]; exact Nat.le_refl _)]
      exact ⟨_, _, ys, _, true, hid e2, hid (by rw [HF.out]; rfl), hid (by rw [HF.out]), ho, rfl, hbw⟩

end Go.Proofs.Ytiaheikoifnbaaa
