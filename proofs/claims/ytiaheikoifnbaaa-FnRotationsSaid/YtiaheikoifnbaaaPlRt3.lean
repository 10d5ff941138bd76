/- Turned lists: further plain facts; no program in sight. -/
import Derived.Test.YtiaheikoifnbaaaPlTb2
namespace Go.Proofs.Ytiaheikoifnbaaa
open Go Go.RowKit

theorem turn_true {xs : List Int} (h : (turnOf xs).2.2 = true) : listOk xs = true := by
  unfold turnOf at h
  split at h
  · assumption
  · cases h
theorem rots_there {xs : List Int} (h : listOk xs = true) : rotsOf xs = nints (ordN xs) := by unfold rotsOf; rw [if_pos h]
theorem map_rat (xs : List Int) : (List.range xs.length).map (rat xs) = xs := by
  refine List.ext_getElem? fun k => ?_
  rw [List.getElem?_map]
  by_cases hk : k < xs.length
  · rw [List.getElem?_range hk, rat_at' hk]; rfl
  · rw [List.getElem?_eq_none (by simpa using hk), List.getElem?_eq_none (by omega)]; rfl
theorem turnF_perm (xs : List Int) : (turnF xs).Perm xs := by
  have p1 : (turnF xs).Perm ((List.range xs.length).map fun p => rat xs (p + xs.length - 1)) := (ordK_perm xs xs.length).map _
  have p2 : ((List.range xs.length).map fun p => rat xs (p + xs.length - 1)).Perm xs := by
    have h := (prv_perm (l := xs)).map (rat xs)
    rw [List.map_map, map_rat] at h
    have e : ((List.range xs.length).map fun p => rat xs (p + xs.length - 1)) = (List.range xs.length).map (rat xs ∘ prv xs) :=
      List.map_congr_left fun p _ => by simp only [Function.comp, prv]; rw [rat_mod]
    rw [e]; exact h
  exact p1.trans p2
theorem grp_count (L : List Int) (s : Nat) : (grp L L.length s).length = (L.filter fun x => decide (x = (s : Int))).length := by
  have e : L = (List.range L.length).map fun j => L.getD j 0 := by
    refine List.ext_getElem? fun k => ?_
    rw [List.getElem?_map]
    by_cases hk : k < L.length
    · rw [List.getElem?_range hk, getD_at hk]; rfl
    · rw [List.getElem?_eq_none (by omega), List.getElem?_eq_none (by simpa using hk)]; rfl
  have h : (((List.range L.length).map fun j => L.getD j 0).filter fun x => decide (x = (s : Int))).length = (grp L L.length s).length := by
    rw [List.filter_map, List.length_map]; rfl
  rw [← e] at h
  exact h.symm
theorem grp_turn (xs : List Int) (s : Nat) : (grp (turnF xs) (turnF xs).length s).length = (grp xs xs.length s).length := by
  rw [grp_count, grp_count]
  exact ((turnF_perm xs).filter _).length_eq
/-- A run. -/
theorem rat_run {m : Nat} {v : Int} (hm : 0 < m) (i : Nat) : rat (List.replicate m v) i = v := by
  unfold rat
  have := Nat.mod_lt i hm
  simp [this]
theorem rotLt_run {m : Nat} {v : Int} (hm : 0 < m) (a b : Nat) : rotLt (List.replicate m v) a b = decide (a < b) :=
  rotLt_same (List.map_congr_left fun j _ => by rw [rat_run hm, rat_run hm])
theorem ordK_run {m : Nat} {v : Int} (hm : 0 < m) : ∀ k, ordK (List.replicate m v) k = List.range k
  | 0 => rfl
  | k + 1 => by
    rw [ordK, ordK_run hm k, insR_at _ _ _ k (fun e he => by
      rw [rotLt_run hm, decide_eq_true_eq]
      have := List.mem_of_mem_take he
      exact List.mem_range.1 this) (fun e he => by simp at he)]
    simp [List.range_succ]
theorem run_ok {m : Nat} {v : Int} (hm : m ≤ 40) (hv : 0 ≤ v) (hv' : v ≤ 7) : listOk (List.replicate m v) = true := by
  refine Bool.and_eq_true_iff.2 ⟨by simpa using hm, List.all_eq_true.2 fun x hx => ?_⟩
  rw [(List.mem_replicate.1 hx).2]
  exact inB_true.2 ⟨hv, hv'⟩
theorem placeK_range : ∀ k, placeK (List.range k) k = 0 := by
  have h : ∀ n k, k ≤ n → placeK (List.range n) k = 0 := by
    intro n k
    induction k with
    | zero => intro _; rfl
    | succ k ih =>
      intro hk
      rw [placeK, List.getElem?_range (by omega)]
      by_cases e : k = 0
      · simp [e]
      · rw [if_neg (by simpa using e)]; exact ih (by omega)
  exact fun k => h k k (Nat.le_refl _)
theorem turn_run {m : Nat} {v : Int} (hm : m ≤ 40) (hv : 0 ≤ v) (hv' : v ≤ 7) : turnOf (List.replicate m v) = (List.replicate m v, 0, true) := by
  rw [turn_there (run_ok hm hv hv')]
  rcases Nat.eq_zero_or_pos m with h0 | h0
  · subst h0; rfl
  · have e : ordN (List.replicate m v) = List.range m := by
      unfold ordN; rw [ordK_run h0, List.length_replicate]
    have e1 : turnF (List.replicate m v) = List.replicate m v := by
      unfold turnF lastOf
      rw [e]
      refine List.eq_replicate_iff.2 ⟨by simp, fun x hx => ?_⟩
      obtain ⟨p, _, rfl⟩ := List.mem_map.1 hx
      exact rat_run h0 _
    have e2 : turnAt (List.replicate m v) = 0 := by
      unfold turnAt; rw [e, List.length_replicate, placeK_range]
    rw [e1, e2]; rfl
theorem tb_is {L l : List Int} {a : Int} (h : tbI L a = some l) : turnOf l = (L, a, true) := by
  unfold tbI at h
  split at h
  · rename_i h1
    injection h with h
    rw [← h]; exact h1.2.2
  · cases h
/-! A list that is rotated has the same rotations. -/
def rotd (xs : List Int) (k : Nat) : List Int := xs.drop k ++ xs.take k
theorem rotd_length {xs : List Int} {k : Nat} (hk : k ≤ xs.length) : (rotd xs k).length = xs.length := by simp [rotd]; omega
theorem rotd_rat {xs : List Int} {k : Nat} (hk : k ≤ xs.length) (i : Nat) : rat (rotd xs k) i = rat xs (k + i) := by
  rcases Nat.eq_zero_or_pos xs.length with h0 | hn
  · have : xs = [] := List.eq_nil_of_length_eq_zero h0
    subst this; simp [rotd, rat]
  · unfold rat
    rw [rotd_length hk, List.getD_eq_getElem?_getD, List.getD_eq_getElem?_getD]
    congr 1
    have hi := Nat.mod_lt i hn
    have hj := Nat.mod_lt (k + i) hn
    have e : (k + i) % xs.length = (k + i % xs.length) % xs.length := by rw [Nat.add_mod_mod]
    rw [e]
    generalize i % xs.length = r at *
    unfold rotd
    by_cases h : r < xs.length - k
    · rw [List.getElem?_append_left (by simpa using h), List.getElem?_drop, Nat.mod_eq_of_lt (by omega)]
    · rw [List.getElem?_append_right (by simp; omega), List.length_drop, List.getElem?_take, if_pos (by omega)]
      congr 1
      rw [Nat.mod_eq_sub_mod (by omega), Nat.mod_eq_of_lt (by omega)]; omega
theorem rotd_rotK {xs : List Int} {k : Nat} (hk : k ≤ xs.length) (a : Nat) : rotK (rotd xs k) a = rotK xs (k + a) := by
  unfold rotK
  rw [rotd_length hk]
  exact List.map_congr_left fun j _ => by rw [rotd_rat hk, Nat.add_assoc]
theorem rotK_mod (xs : List Int) (a : Nat) : rotK xs (a % xs.length) = rotK xs a :=
  List.map_congr_left fun j _ => by unfold rat; rw [Nat.mod_add_mod]
theorem shift_perm (n k : Nat) (hk : k ≤ n) : ((List.range n).map fun p => (k + p) % n).Perm (List.range n) := by
  have e1 : n = (n - k) + k := by omega
  have e : ((List.range n).map fun p => (k + p) % n) = (List.range (n - k)).map (k + ·) ++ List.range k := by
    conv => lhs; arg 2; rw [e1]
    rw [List.range_add, List.map_append, List.map_map]
    congr 1
    · exact List.map_congr_left fun p hp => Nat.mod_eq_of_lt (by have := List.mem_range.1 hp; omega)
    · have : List.range k = (List.range k).map id := by simp
      conv => rhs; rw [this]
      refine List.map_congr_left fun p hp => ?_
      have := List.mem_range.1 hp
      simp only [Function.comp, id]
      rw [show k + (n - k + p) = p + n by omega, Nat.add_mod_right, Nat.mod_eq_of_lt (by omega)]
  rw [e]
  have e2 : List.range n = List.range k ++ (List.range (n - k)).map (k + ·) := by
    conv => lhs; rw [show n = k + (n - k) by omega]
    exact List.range_add
  rw [e2]
  exact List.perm_append_comm
/-- The ordered rows of a list. -/
theorem rows_rotd {xs : List Int} {k : Nat} (hk : k ≤ xs.length) : (ordN (rotd xs k)).map (rotK (rotd xs k)) = (ordN xs).map (rotK xs) := by
  refine List.Perm.eq_of_pairwise (le := fun u v : List Int => ¬ v < u) (fun a b _ _ h1 h2 => list_tri h2 h1) ?_ ?_ ?_
  · rw [List.pairwise_map]; exact (ordK_sor _ _).imp fun h => row_le h
  · rw [List.pairwise_map]; exact (ordK_sor _ _).imp fun h => row_le h
  · have p1 : ((ordN (rotd xs k)).map (rotK (rotd xs k))).Perm ((List.range xs.length).map fun p => rotK xs ((k + p) % xs.length)) := by
      have h := (ordK_perm (rotd xs k) (rotd xs k).length).map (rotK (rotd xs k))
      rw [rotd_length hk] at h
      unfold ordN
      rw [rotd_length hk]
      refine h.trans (List.Perm.of_eq (List.map_congr_left fun p _ => ?_))
      rw [rotd_rotK hk, rotK_mod]
    have p2 := (shift_perm xs.length k hk).map (rotK xs)
    rw [List.map_map] at p2
    exact p1.trans (p2.trans ((ordK_perm xs xs.length).map _).symm)
theorem last_row {xs : List Int} (hn : 0 < xs.length) (p : Nat) : (rotK xs p)[xs.length - 1]? = some (rat xs (p + xs.length - 1)) := by
  unfold rotK
  rw [List.getElem?_map, List.getElem?_range (by omega), Option.map_some, show p + (xs.length - 1) = p + xs.length - 1 by omega]
theorem turn_rotd {xs : List Int} {k : Nat} (hk : k ≤ xs.length) : turnF (rotd xs k) = turnF xs := by
  rcases Nat.eq_zero_or_pos xs.length with h0 | hn
  · have : xs = [] := List.eq_nil_of_length_eq_zero h0
    subst this; simp [rotd]
  · have h := congrArg (List.map fun r : List Int => r.getD (xs.length - 1) 0) (rows_rotd hk)
    rw [List.map_map, List.map_map] at h
    have e1 : (ordN (rotd xs k)).map ((fun r : List Int => r.getD (xs.length - 1) 0) ∘ rotK (rotd xs k)) = turnF (rotd xs k) := by
      unfold turnF lastOf
      refine List.map_congr_left fun p _ => ?_
      simp only [Function.comp]
      rw [List.getD_eq_getElem?_getD, ← rotd_length hk, last_row (by rw [rotd_length hk]; exact hn)]; rfl
    have e2 : (ordN xs).map ((fun r : List Int => r.getD (xs.length - 1) 0) ∘ rotK xs) = turnF xs := by
      unfold turnF lastOf
      refine List.map_congr_left fun p _ => ?_
      simp only [Function.comp]
      rw [List.getD_eq_getElem?_getD, last_row hn]; rfl
    rw [e1, e2] at h
    exact h
theorem listOk_iff' {xs : List Int} : listOk xs = true ↔ xs.length ≤ 40 ∧ ∀ x ∈ xs, 0 ≤ x ∧ x ≤ 7 := by
  simp [listOk, inB_true]
theorem rotd_ok {xs : List Int} (k : Nat) (h : listOk xs = true) : listOk (rotd xs k) = true := by
  rw [listOk_iff'] at *
  refine ⟨by simp [rotd]; omega, fun x hx => h.2 x ?_⟩
  rcases List.mem_append.1 hx with hx | hx
  · exact List.mem_of_mem_drop hx
  · exact List.mem_of_mem_take hx
/-- The sum of the places. -/
theorem sum_perm {xs ys : List Int} (h : xs.Perm ys) : xs.sum = ys.sum := by
  induction h with
  | nil => rfl
  | cons x _ ih => simp [ih]
  | swap x y l => simp; omega
  | trans _ _ h1 h2 => exact h1.trans h2
theorem sum_range (n : Nat) : (nints (List.range n)).sum * 2 = (n : Int) * ((n : Int) - 1) := by
  induction n with
  | zero => rfl
  | succ n ih =>
    rw [List.range_succ]
    simp only [nints, List.map_append, List.map_cons, List.map_nil, List.sum_append, List.sum_cons, List.sum_nil] at ih ⊢
    rw [Int.add_mul, ih]
    simp only [Int.add_zero]
    rw [show ((n + 1 : Nat) : Int) = (n : Int) + 1 by omega, show (n : Int) + 1 - 1 = n by omega, Int.add_mul, Int.mul_sub]
    omega
theorem sum_ord (xs : List Int) : (nints (ordN xs)).sum * 2 = (xs.length : Int) * ((xs.length : Int) - 1) := by
  rw [← sum_range]
  congr 1
  exact sum_perm ((ordK_perm xs xs.length).map _)
end Go.Proofs.Ytiaheikoifnbaaa
