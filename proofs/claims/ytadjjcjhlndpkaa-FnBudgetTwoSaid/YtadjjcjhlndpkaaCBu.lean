/- Contracts: budgets. No condition. -/
import Derived.Test.YtadjjcjhlndpkaaC1
namespace Go.Proofs.Ytadjjcjhlndpkaa
open Go Go.RowKit

def budOk (a l p : Int) : Bool := inB 0 9999 a && (inB 0 a l && inB (a - l) a p)
def budNew (n : Int) : Option (Int × Int × Int) := if inB 0 9999 n then some (n, n, 0) else none
def budTake (a l p n : Int) : Option (Int × Int × Int) := if budOk a l p && inB 0 l n then some (a, l - n, max p (a - (l - n))) else none
def budGive (a l p n : Int) : Option (Int × Int × Int) := if budOk a l p && inB 0 (a - l) n then some (a, l + n, p) else none
def PB1 (w : World) (o : Obj) (f : Bool) (e : Ending) (w' : World) : Prop := ∃ b, Hid (b = f) ∧ e = .returned (.bool b) ∧ w.alloc o = w'
theorem budOk_bd {a l p : Int} (h : budOk a l p = true) : 0 ≤ a ∧ a ≤ 9999 ∧ 0 ≤ l ∧ l ≤ a ∧ a - l ≤ p ∧ p ≤ a := by
  simp [budOk, inB] at h; omega
/-- What a call answers: a budget and a bool. -/
def PBud (w : World) (f : Option (Int × Int × Int)) (e : Ending) (w' : World) : Prop :=
  ∃ a l p b, Hid (b = f.isSome) ∧ Hid ((a, l, p) = f.getD (0, 0, 0)) ∧ e = .returned (.tuple #[.agg #[.int .i64 a, .int .i64 l, .int .i64 p], .bool b]) ∧ Below w.heap.size w w'

theorem budOk_of {a l p : Int} (h1 : inB 0 9999 a = true) (h2 : inB 0 a l = true) (h3 : inB (a - l) a p = true) : budOk a l p = true := by simp [budOk, h1, h2, h3]
theorem budOk_no1 {a l p : Int} (h1 : inB 0 9999 a = false) : budOk a l p = false := by simp [budOk, h1]
theorem budOk_no2 {a l p : Int} (h1 : inB 0 a l = false) : budOk a l p = false := by simp [budOk, h1]
theorem budOk_no3 {a l p : Int} (h1 : inB (a - l) a p = false) : budOk a l p = false := by simp [budOk, h1]

theorem budgetOk_any (a l p : Int) (w : World) : Calls Try.prog 44 #[.agg #[.int .i64 a, .int .i64 l, .int .i64 p]] w (PB1 w (.cells #[.int .i64 a, .int .i64 l, .int .i64 p] 33) (budOk a l p)) := by
  go_enter Try.func44, Try.ntmps44
  go_wp2_with fail
  refine (within_or _ _ _ _).mono ?_
  rintro e w' (⟨hb1, h1, h2, rfl, rfl⟩ | ⟨hb1, rfl, rfl⟩)
  rotate_left
  · go_wp2_with fail
    go_ret
    exact ⟨_, hid (budOk_no1 hb1.out).symm, rfl, rfl⟩
  go_wp2_with fail
  refine (within_or _ _ _ _).mono ?_
  rintro e w' (⟨hb2, h3, h4, rfl, rfl⟩ | ⟨hb2, rfl, rfl⟩)
  rotate_left
  · go_wp2_with fail
    go_ret
    exact ⟨_, hid (budOk_no2 hb2.out).symm, rfl, rfl⟩
  go_wp2_with fail
  refine (within_or _ _ _ _).mono ?_
  rintro e w' (⟨hb3, _, _, rfl, rfl⟩ | ⟨hb3, rfl, rfl⟩)
  · go_wp2_with fail
    go_ret
    exact ⟨_, hid (budOk_of hb1.out hb2.out hb3.out).symm, rfl, rfl⟩
  · go_wp2_with fail
    go_ret
    exact ⟨_, hid (budOk_no3 hb3.out).symm, rfl, rfl⟩

theorem l23Valid_any (a l p : Int) (w : World) : Calls Try.prog 45 #[.agg #[.int .i64 a, .int .i64 l, .int .i64 p]] w (PB1 w (.cells #[.int .i64 a, .int .i64 l, .int .i64 p] 33) (budOk a l p)) := by
  go_enter Try.func45, Try.ntmps45
  go_wp2_with fail
  refine (l6In_or _ _ _ _).mono ?_
  rintro e w' (⟨hb1, h1, h2, rfl, rfl⟩ | ⟨hb1, rfl, rfl⟩)
  rotate_left
  · go_wp2_with fail
    go_ret
    exact ⟨_, hid (budOk_no1 hb1.out).symm, rfl, rfl⟩
  go_wp2_with fail
  refine (l6In_or _ _ _ _).mono ?_
  rintro e w' (⟨hb2, h3, h4, rfl, rfl⟩ | ⟨hb2, rfl, rfl⟩)
  rotate_left
  · go_wp2_with fail
    go_ret
    exact ⟨_, hid (budOk_no2 hb2.out).symm, rfl, rfl⟩
  go_wp2_with fail
  refine (l6In_or _ _ _ _).mono ?_
  rintro e w' (⟨hb3, _, _, rfl, rfl⟩ | ⟨hb3, rfl, rfl⟩)
  · go_wp2_with fail
    go_ret
    exact ⟨_, hid (budOk_of hb1.out hb2.out hb3.out).symm, rfl, rfl⟩
  · go_wp2_with fail
    go_ret
    exact ⟨_, hid (budOk_no3 hb3.out).symm, rfl, rfl⟩

theorem sBudgetNew_any (n : Int) (w : World) : Calls Try.prog 54 #[.int .i64 n] w (PBud w (budNew n)) := by
  go_enter Try.func54, Try.ntmps54
  go_wp2_with fail
  refine (l6In_or _ _ _ _).mono ?_
  rintro e w' (⟨hb1, h1, h2, rfl, rfl⟩ | ⟨hb1, rfl, rfl⟩)
  · go_wp2_with fail
    refine bodyPost_ret (v := .tuple #[.agg #[.int .i64 n, .int .i64 n, .int .i64 0], .bool true]) (by simp [results, Try.results54, go_sem]) rfl ?_
    exact ⟨n, n, 0, true, by simp [Hid, budNew, hb1.out], by simp [Hid, budNew, hb1.out], rfl, (Below.refl _ _).alloc (Nat.le_refl _) _⟩
  · go_wp2_with fail
    refine bodyPost_ret (v := .tuple #[.agg #[.int .i64 0, .int .i64 0, .int .i64 0], .bool false]) (by simp [results, Try.results54, go_sem]) rfl ?_
    exact ⟨0, 0, 0, false, by simp [Hid, budNew, hb1.out], by simp [Hid, budNew, hb1.out], rfl, (Below.refl _ _).alloc (Nat.le_refl _) _⟩
theorem BudgetTake_any (a l p n : Int) (w : World) : Calls Try.prog 25 #[.agg #[.int .i64 a, .int .i64 l, .int .i64 p], .int .i64 n] w (PBud w (budTake a l p n)) := by
  go_enter Try.func25, Try.ntmps25
  go_wp2_with fail
  refine (budgetOk_any _ _ _ _).mono ?_
  rintro e w' ⟨b, hb1, rfl, rfl⟩
  cases b
  · go_wp2_with fail
    refine bodyPost_ret (v := .tuple #[.agg #[.int .i64 0, .int .i64 0, .int .i64 0], .bool false]) (by simp [results, Try.results25, go_sem]) rfl ?_
    exact ⟨0, 0, 0, false, by simp [Hid, budTake, hb1.out.symm], by simp [Hid, budTake, hb1.out.symm], rfl, (((Below.refl _ _).alloc (Nat.le_refl _) _).alloc (by simp) _).alloc (by simp; omega) _⟩
  obtain ⟨h1, h2, h3, h4, h5, h6⟩ := budOk_bd hb1.out.symm
  go_wp2_with fail
  refine (within_or _ _ _ _).mono ?_
  rintro e w' (⟨hb2, h7, h8, rfl, rfl⟩ | ⟨hb2, rfl, rfl⟩)
  rotate_left
  · go_wp2_with fail
    refine bodyPost_ret (v := .tuple #[.agg #[.int .i64 0, .int .i64 0, .int .i64 0], .bool false]) (by simp [results, Try.results25, go_sem]) rfl ?_
    exact ⟨0, 0, 0, false, by simp [Hid, budTake, hb1.out.symm, hb2.out], by simp [Hid, budTake, hb1.out.symm, hb2.out], rfl, (((Below.refl _ _).alloc (Nat.le_refl _) _).alloc (by simp) _).alloc (by simp; omega) _⟩
  obtain hm | hm : p < a - (l - n) ∨ a - (l - n) ≤ p := by omega
  · go_wp2_with fail
    refine bodyPost_ret (v := .tuple #[.agg #[.int .i64 a, .int .i64 (l - n), .int .i64 (a - (l - n))], .bool true]) (by simp [results, Try.results25, go_sem]) rfl ?_
    exact ⟨a, (l - n), (a - (l - n)), true, by simp [Hid, budTake, hb1.out.symm, hb2.out], by simp [Hid, budTake, hb1.out.symm, hb2.out]; omega, rfl, (((Below.refl _ _).alloc (Nat.le_refl _) _).alloc (by simp) _).alloc (by simp; omega) _⟩
  · go_wp2_with fail
    refine bodyPost_ret (v := .tuple #[.agg #[.int .i64 a, .int .i64 (l - n), .int .i64 p], .bool true]) (by simp [results, Try.results25, go_sem]) rfl ?_
    exact ⟨a, (l - n), p, true, by simp [Hid, budTake, hb1.out.symm, hb2.out], by simp [Hid, budTake, hb1.out.symm, hb2.out]; omega, rfl, (((Below.refl _ _).alloc (Nat.le_refl _) _).alloc (by simp) _).alloc (by simp; omega) _⟩

theorem BudgetGive_any (a l p n : Int) (w : World) : Calls Try.prog 22 #[.agg #[.int .i64 a, .int .i64 l, .int .i64 p], .int .i64 n] w (PBud w (budGive a l p n)) := by
  go_enter Try.func22, Try.ntmps22
  go_wp2_with fail
  refine (budgetOk_any _ _ _ _).mono ?_
  rintro e w' ⟨b, hb1, rfl, rfl⟩
  cases b
  · go_wp2_with fail
    refine bodyPost_ret (v := .tuple #[.agg #[.int .i64 0, .int .i64 0, .int .i64 0], .bool false]) (by simp [results, Try.results22, go_sem]) rfl ?_
    exact ⟨0, 0, 0, false, by simp [Hid, budGive, hb1.out.symm], by simp [Hid, budGive, hb1.out.symm], rfl, (((Below.refl _ _).alloc (Nat.le_refl _) _).alloc (by simp) _).alloc (by simp; omega) _⟩
  obtain ⟨h1, h2, h3, h4, h5, h6⟩ := budOk_bd hb1.out.symm
  go_wp2_with fail
  refine (within_or _ _ _ _).mono ?_
  rintro e w' (⟨hb2, h7, h8, rfl, rfl⟩ | ⟨hb2, rfl, rfl⟩)
  rotate_left
  · go_wp2_with fail
    refine bodyPost_ret (v := .tuple #[.agg #[.int .i64 0, .int .i64 0, .int .i64 0], .bool false]) (by simp [results, Try.results22, go_sem]) rfl ?_
    exact ⟨0, 0, 0, false, by simp [Hid, budGive, hb1.out.symm, hb2.out], by simp [Hid, budGive, hb1.out.symm, hb2.out], rfl, (((Below.refl _ _).alloc (Nat.le_refl _) _).alloc (by simp) _).alloc (by simp; omega) _⟩
  go_wp2_with fail
  refine bodyPost_ret (v := .tuple #[.agg #[.int .i64 a, .int .i64 (l + n), .int .i64 p], .bool true]) (by simp [results, Try.results22, go_sem]) rfl ?_
  exact ⟨a, (l + n), p, true, by simp [Hid, budGive, hb1.out.symm, hb2.out], by simp [Hid, budGive, hb1.out.symm, hb2.out], rfl, (((Below.refl _ _).alloc (Nat.le_refl _) _).alloc (by simp) _).alloc (by simp; omega) _⟩

theorem sBudgetGive_any (a l p n : Int) (w : World) : Calls Try.prog 23 #[.agg #[.int .i64 a, .int .i64 l, .int .i64 p], .int .i64 n] w (PBud w (budGive a l p n)) := by
  go_enter Try.func23, Try.ntmps23
  go_wp2_with fail
  refine (l23Valid_any _ _ _ _).mono ?_
  rintro e w' ⟨b, hb1, rfl, rfl⟩
  cases b
  · go_wp2_with fail
    refine bodyPost_ret (v := .tuple #[.agg #[.int .i64 0, .int .i64 0, .int .i64 0], .bool false]) (by simp [results, Try.results23, go_sem]) rfl ?_
    exact ⟨0, 0, 0, false, by simp [Hid, budGive, hb1.out.symm], by simp [Hid, budGive, hb1.out.symm], rfl, (((Below.refl _ _).alloc (Nat.le_refl _) _).alloc (by simp) _).alloc (by simp; omega) _⟩
  obtain ⟨h1, h2, h3, h4, h5, h6⟩ := budOk_bd hb1.out.symm
  go_wp2_with fail
  refine (l6In_or _ _ _ _).mono ?_
  rintro e w' (⟨hb2, h7, h8, rfl, rfl⟩ | ⟨hb2, rfl, rfl⟩)
  rotate_left
  · go_wp2_with fail
    refine bodyPost_ret (v := .tuple #[.agg #[.int .i64 0, .int .i64 0, .int .i64 0], .bool false]) (by simp [results, Try.results23, go_sem]) rfl ?_
    exact ⟨0, 0, 0, false, by simp [Hid, budGive, hb1.out.symm, hb2.out], by simp [Hid, budGive, hb1.out.symm, hb2.out], rfl, (((Below.refl _ _).alloc (Nat.le_refl _) _).alloc (by simp) _).alloc (by simp; omega) _⟩
  go_wp2_with fail
  refine bodyPost_ret (v := .tuple #[.agg #[.int .i64 a, .int .i64 (l + n), .int .i64 p], .bool true]) (by simp [results, Try.results23, go_sem]) rfl ?_
  exact ⟨a, (l + n), p, true, by simp [Hid, budGive, hb1.out.symm, hb2.out], by simp [Hid, budGive, hb1.out.symm, hb2.out], rfl, (((Below.refl _ _).alloc (Nat.le_refl _) _).alloc (by simp) _).alloc (by simp; omega) _⟩

theorem l23Take_any (a l p n : Int) (w : World) (h : budOk a l p = true) (hn : 0 ≤ n) (hn' : n ≤ l) : Calls Try.prog 47 #[.agg #[.int .i64 a, .int .i64 l, .int .i64 p], .int .i64 n] w
    fun e w' => e = .returned (.agg #[.int .i64 a, .int .i64 (l - n), .int .i64 (max p (a - (l - n)))]) ∧ Below w.heap.size w w' := by
  obtain ⟨h1, h2, h3, h4, h5, h6⟩ := budOk_bd h
  obtain hm | hm : p < a - (l - n) ∨ a - (l - n) ≤ p := by omega
  · have hx : Hid (max p (a - (l - n)) = a - (l - n)) := by unfold Hid; omega
    go_enter Try.func47, Try.ntmps47
    go_wp2_with fail
    rw [hx.out]
    exact bodyPost_ret (v := .agg #[.int .i64 a, .int .i64 (l - n), .int .i64 (a - (l - n))]) (by simp [results, Try.results47, go_sem]) rfl ⟨rfl, ((Below.refl _ _).alloc (Nat.le_refl _) _).alloc (by simp) _⟩
  · have hx : Hid (max p (a - (l - n)) = p) := by unfold Hid; omega
    go_enter Try.func47, Try.ntmps47
    go_wp2_with fail
    rw [hx.out]
    exact bodyPost_ret (v := .agg #[.int .i64 a, .int .i64 (l - n), .int .i64 p]) (by simp [results, Try.results47, go_sem]) rfl ⟨rfl, ((Below.refl _ _).alloc (Nat.le_refl _) _).alloc (by simp) _⟩

theorem sBudgetTake_any (a l p n : Int) (w : World) : Calls Try.prog 26 #[.agg #[.int .i64 a, .int .i64 l, .int .i64 p], .int .i64 n] w (PBud w (budTake a l p n)) := by
  go_enter Try.func26, Try.ntmps26
  go_wp2_with fail
  refine (l23Valid_any _ _ _ _).mono ?_
  rintro e w' ⟨b, hb1, rfl, rfl⟩
  cases b
  · go_wp2_with fail
    refine bodyPost_ret (v := .tuple #[.agg #[.int .i64 0, .int .i64 0, .int .i64 0], .bool false]) (by simp [results, Try.results26, go_sem]) rfl ?_
    exact ⟨0, 0, 0, false, by simp [Hid, budTake, hb1.out.symm], by simp [Hid, budTake, hb1.out.symm], rfl, (((Below.refl _ _).alloc (Nat.le_refl _) _).alloc (by simp) _).alloc (by simp; omega) _⟩
  obtain ⟨h1, h2, h3, h4, h5, h6⟩ := budOk_bd hb1.out.symm
  go_wp2_with fail
  refine (l6In_or _ _ _ _).mono ?_
  rintro e w' (⟨hb2, h7, h8, rfl, rfl⟩ | ⟨hb2, rfl, rfl⟩)
  rotate_left
  · go_wp2_with fail
    refine bodyPost_ret (v := .tuple #[.agg #[.int .i64 0, .int .i64 0, .int .i64 0], .bool false]) (by simp [results, Try.results26, go_sem]) rfl ?_
    exact ⟨0, 0, 0, false, by simp [Hid, budTake, hb1.out.symm, hb2.out], by simp [Hid, budTake, hb1.out.symm, hb2.out], rfl, (((Below.refl _ _).alloc (Nat.le_refl _) _).alloc (by simp) _).alloc (by simp; omega) _⟩
  go_wp2_with fail
  refine (l23Take_any _ _ _ _ _ hb1.out.symm h7 h8).mono ?_
  rintro e w1 ⟨rfl, hbw⟩
  obtain ⟨hc, hf⟩ := bcell hbw
  have hz : w.heap.size + 1 < w1.heap.size := by have := hbw.size; simp at this; omega
  generalize hq : max p (a - (l - n)) = q
  have HQ := hid hq
  clear hq
  go_wp2_with fail
  refine bodyPost_ret (v := .tuple #[.agg #[.int .i64 a, .int .i64 (l - n), .int .i64 q], .bool true]) (by simp [results, Try.results26, go_sem, hc]) rfl ?_
  have hB : Below w.heap.size w w1 := ((((Below.refl _ _).alloc (Nat.le_refl _) _).alloc (by simp) _).alloc (by simp; omega) _).trans (hbw.mono (by simp; omega))
  exact ⟨a, l - n, q, true, by simp [Hid, budTake, hb1.out.symm, hb2.out], by simp [Hid, budTake, hb1.out.symm, hb2.out, HQ.out], rfl, ((hB.setCell (by simp) _).setCell (by simp) _).setCell (by simp) _⟩

