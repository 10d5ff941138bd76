/- Turned lists are drawn. No condition. -/
import Derived.Test.YtiaheikoifnbaaaDLs
import Derived.Test.YtiaheikoifnbaaaCRt4
import Derived.Test.YtiaheikoifnbaaaPlRt2
namespace Go.Proofs.Ytiaheikoifnbaaa
open Go Go.RowKit

/-- What a list is drawn as, out of a code; the same with a number. -/
def PDrL (w : World) (n : Nat) (e : Ending) (w' : World) : Prop :=
  ∃ A c ys, e = .returned (.slice A ys.length c) ∧ OI w' w.heap.size A c ys ∧ ys.length ≤ n ∧ Below w.heap.size w w'
def PDrLN (w : World) (n : Nat) (e : Ending) (w' : World) : Prop :=
  ∃ A c ys m, e = .returned (.tuple #[.slice A ys.length c, .int .i64 m]) ∧ OI w' w.heap.size A c ys ∧ ys.length ≤ n ∧ Below w.heap.size w w'
theorem l91Turned_any (g p : Nat) (w : World) (hR : Rd w g p) (hp : p ≤ 900000) :
    Calls Try.prog 36 #[.pointer (some ⟨g, 0, none⟩)] w (PDL w g 1000 (p + 401)) := by
  have hlt := hR.lt
  go_enter Try.func36, Try.ntmps36
  go_wp2_with fail
  refine (l91List_any g p w hR hp).mono ?_
  rintro e w1 ⟨A, c, ys, q, rfl, ho, hl, hq, D⟩
  by_cases h0 : ys.length = 0
  · obtain rfl := List.eq_nil_of_length_eq_zero h0
    clear h0
    go_wp2_with fail
    go_ret
    exact ⟨_, _, [], _, rfl, ho, by simp, by omega, D⟩
  have hpos : (0 : Int) < (ys.length : Int) := by omega
  have H0 := hid h0
  clear h0
  by_cases h14 : (ys.length : Int) < 14
  · go_wp2_with fail
    refine (pick_ds D _ (by omega) (by omega) (by omega)).mono ?_
    rintro e w2 ⟨m, hm0, hm1, rfl, D2, hg2⟩
    have ho2 := OI.past ho hg2 hlt
    have hw2 := D2.gb.size
    have hs2 := D2.rd.lt
    by_cases hm : m = 0
    · subst hm
      go_wp2_with (first | (at_builtin; refine wpl_app (xs := us) (ys := ys) intT rfl _ _ rfl rfl ho3 rfl ho4.ri (by omega) (by simp at hs3; omega) ?_; intro A5 c5 w5 vs hv ho5 hg5 hat5) | (at_builtin; refine wpl_app (xs := []) (ys := ys) intT rfl _ _ rfl rfl (OI.empty w2 w2.heap.size (Nat.le_refl _)) rfl (ho2.ri.alloc _) (by simp; omega) (by simp) ?_; intro A3 c3 w3 us hu ho3 hg3 hat3; have ho4 := OI.grown (ho2.alloc (.cells #[] 3)) hg3 (fun g hg e => by have := (OI.lt ho2 hg).2; simp [blk] at e; omega); have hs3 := hg3.size; have hlu : us.length ≤ ys.length := (by rw [hu.out]; simp)))
      have D3 := (D2.new _).own (OI.empty w2 w2.heap.size (Nat.le_refl _)) hg3 hs2 hw2
      have D5 := D3.own ho3 hg5 hs2 hw2
      have hlv : vs.length ≤ us.length + ys.length := by rw [hv.out]; simp
      go_ret
      exact ⟨_, _, vs, _, rfl, ho5.mono hw2, by omega, by omega, D5⟩
    · have hq0 : (m == 0) = false := by simp [hm]
      clear hm
      go_wp2_with fail
      go_ret
      exact ⟨_, _, ys, _, rfl, ho2, hl, by omega, D2⟩
  · have h14' : (14 : Int) ≤ (ys.length : Int) := by omega
    clear h14
    go_wp2_with fail
    go_ret
    exact ⟨_, _, ys, _, rfl, ho, hl, by omega, D⟩
theorem DrawRotationsOf_any (A : Option Addr) (c : Nat) (bs : List Int) (w : World) (hr : RY w A c bs) : Calls Try.prog 21 #[.slice A bs.length c] w (PDrL w 1000) := by
  go_enter Try.func21, Try.ntmps21
  go_wp2_with fail
  refine (l6Open_any _ _ _ _ hr).mono ?_
  rintro e w1 ⟨g, rfl, hg, hR1, hb1⟩
  go_wp2_with fail
  refine (l91List_any g 0 _ hR1 (by omega)).mono ?_
  rintro e w2 ⟨A2, c2, ys, q, rfl, ho, hl, hq, D⟩
  go_wp2_with fail
  go_ret
  exact ⟨_, _, ys, rfl, ho.mono hb1.size, hl, D.fin hb1 hg⟩
theorem DrawTurnOf_any (A : Option Addr) (c : Nat) (bs : List Int) (w : World) (hr : RY w A c bs) : Calls Try.prog 25 #[.slice A bs.length c] w (PDrL w 1000) := by
  go_enter Try.func25, Try.ntmps25
  go_wp2_with fail
  refine (l6Open_any _ _ _ _ hr).mono ?_
  rintro e w1 ⟨g, rfl, hg, hR1, hb1⟩
  go_wp2_with fail
  refine (l91Turned_any g 0 _ hR1 (by omega)).mono ?_
  rintro e w2 ⟨A2, c2, ys, q, rfl, ho, hl, hq, D⟩
  go_wp2_with fail
  go_ret
  exact ⟨_, _, ys, rfl, ho.mono hb1.size, hl, D.fin hb1 hg⟩
theorem DrawTurnBack_any (A : Option Addr) (c : Nat) (bs : List Int) (w : World) (hr : RY w A c bs) : Calls Try.prog 29 #[.slice A bs.length c] w (PDrLN w 1000) := by
  go_enter Try.func29, Try.ntmps29
  go_wp2_with fail
  refine (l6Open_any _ _ _ _ hr).mono ?_
  rintro e w1 ⟨g, rfl, hg, hR1, hb1⟩
  go_wp2_with fail
  refine (l91Turned_any g 0 _ hR1 (by omega)).mono ?_
  rintro e w2 ⟨A2, c2, ys, q, rfl, ho, hl, hq, D⟩
  go_wp2_with fail
  refine (sTurnOf_any _ _ _ _ ho.ri).mono ?_
  rintro e w3 ⟨A3, c3, zs, at3, ok, hzs, hat, hok, hoz, rfl, hb3⟩
  have hlz : zs.length ≤ 1000 := by rw [hzs.out]; exact turn_len hl
  have D3 := D.below hb3
  have hw3 := D.gb.size
  have hs2 := D.rd.lt
  have hw1 := hb1.size
  clear hzs hat hok
  go_wp2_with fail
  refine (pick_ds D3 _ (by omega) (by omega) (by omega)).mono ?_
  rintro e w4 ⟨m, hm0, hm1, rfl, D4, hg4⟩
  have ho4 := OI.past hoz hg4 hs2
  by_cases hm : m = 0
  · subst hm
    go_wp2_with fail
    refine (pick_ds D4 _ (by omega) (by omega) (by omega)).mono ?_
    rintro e w5 ⟨m5, hm50, hm51, rfl, D5, hg5⟩
    have ho5 := OI.past ho4 hg5 hs2
    cases ok
    · go_wp2_with fail
      refine (l91List_any g _ _ D5.rd (by omega)).mono ?_
      rintro e w6 ⟨A6, c6, us, q6, rfl, ho6, hl6, hq6, D6⟩
      go_wp2_with fail
      go_ret2
      exact ⟨_, _, us, _, rfl, ho6.mono (by have := D5.gb.size; omega), hl6, (D5.trans D6).fin hb1 hg⟩
    · go_wp2_with fail
      go_ret2
      exact ⟨_, _, zs, _, rfl, ho5.mono (by omega), hlz, D5.fin hb1 hg⟩
  have hq0 : (m == 0) = false := by simp [hm]
  clear hm
  by_cases hm : m = 1
  · subst hm
    go_wp2_with fail
    refine (l91List_any g _ _ D4.rd (by omega)).mono ?_
    rintro e w6 ⟨A6, c6, us, q6, rfl, ho6, hl6, hq6, D6⟩
    go_wp2_with fail
    go_ret2
    exact ⟨_, _, us, _, rfl, ho6.mono (by have := D4.gb.size; omega), hl6, (D4.trans D6).fin hb1 hg⟩
  have hq1 : (m == 1) = false := by simp [hm]
  clear hm
  cases ok
  · go_wp2_with fail
    refine (l91List_any g _ _ D4.rd (by omega)).mono ?_
    rintro e w6 ⟨A6, c6, us, q6, rfl, ho6, hl6, hq6, D6⟩
    go_wp2_with fail
    go_ret2
    exact ⟨_, _, us, _, rfl, ho6.mono (by have := D4.gb.size; omega), hl6, (D4.trans D6).fin hb1 hg⟩
  · go_wp2_with fail
    go_ret2
    exact ⟨_, _, zs, _, rfl, ho4.mono (by omega), hlz, D4.fin hb1 hg⟩
end Go.Proofs.Ytiaheikoifnbaaa
