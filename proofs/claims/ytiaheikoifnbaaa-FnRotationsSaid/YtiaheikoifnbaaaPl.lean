/- Plain facts on lists and numbers; no program in sight. -/
import Derived.WalkKit
namespace Go.Proofs.Ytiaheikoifnbaaa
open Go Go.RowKit

def inB (lo hi n : Int) : Bool := decide (lo ≤ n) && decide (n ≤ hi)
theorem inB_true {lo hi n : Int} : inB lo hi n = true ↔ lo ≤ n ∧ n ≤ hi := by simp [inB]
theorem inB_false {lo hi n : Int} : inB lo hi n = false ↔ n < lo ∨ hi < n := by
  rw [Bool.eq_false_iff, ne_eq, inB_true]; omega

theorem nil_or_snoc {α : Type} (xs : List α) : xs = [] ∨ ∃ ys t, xs = ys ++ [t] := by
  by_cases h : xs = []
  · exact .inl h
  · exact .inr ⟨_, _, (List.dropLast_concat_getLast h).symm⟩
theorem take_snoc {α : Type} (xs : List α) (k : Nat) (h : k < xs.length) : xs.take (k + 1) = xs.take k ++ [xs[k]] :=
  List.take_succ_eq_append_getElem h
theorem take_snoc' {α : Type} {xs : List α} {k : Nat} {x : α} (h : xs[k]? = some x) : xs.take (k + 1) = xs.take k ++ [x] := by
  rw [List.take_add_one, h]; rfl
theorem all_snoc {α : Type} {xs : List α} {p : α → Bool} {k : Nat} {x : α} (h : xs[k]? = some x) (h0 : (xs.take k).all p = true) (h1 : p x = true) : (xs.take (k + 1)).all p = true := by
  rw [take_snoc' h, List.all_append, h0]
  simp [h1]
theorem all_no {α : Type} {xs : List α} {p : α → Bool} {k : Nat} {x : α} (h : xs[k]? = some x) (h1 : p x = false) : xs.all p = false := by
  rw [List.all_eq_false]
  exact ⟨_, List.mem_of_getElem? h, by simp [h1]⟩
theorem all_done {α : Type} {xs : List α} {p : α → Bool} {k : Nat} (h : xs.length ≤ k) (h0 : (xs.take k).all p = true) : xs.all p = true := by
  rwa [List.take_of_length_le h] at h0
theorem eq_snoc {α : Type} {xs ys : List α} {k : Nat} {x y : α} (h : xs[k]? = some x) (h' : ys[k]? = some y) (h0 : xs.take k = ys.take k) (h1 : x = y) : xs.take (k + 1) = ys.take (k + 1) := by
  rw [take_snoc' h, take_snoc' h', h0, h1]
theorem eq_no {α : Type} {xs ys : List α} {k : Nat} {x y : α} (h : xs[k]? = some x) (h' : ys[k]? = some y) (h1 : x ≠ y) : xs ≠ ys := by
  rintro rfl
  exact h1 (Option.some.inj (h.symm.trans h'))
theorem eq_done {α : Type} {xs ys : List α} {k : Nat} (h : xs.length ≤ k) (h' : ys.length ≤ k) (h0 : xs.take k = ys.take k) : xs = ys := by
  rwa [List.take_of_length_le h, List.take_of_length_le h'] at h0
/-- The first k of xs, then what is not filled yet. -/
theorem fill_snoc {xs cs : List Int} {k : Nat} {x : Int} (hk : k < xs.length) (h : xs[k]? = some x) (hc : cs = xs.take k ++ List.replicate (xs.length - k) 0) :
    cs.set k x = xs.take (k + 1) ++ List.replicate (xs.length - (k + 1)) 0 := by
  subst hc
  have hl : (xs.take k).length = k := by rw [List.length_take]; omega
  rw [List.set_append_right _ _ (by omega), hl, Nat.sub_self, take_snoc' h, List.append_assoc, show xs.length - k = (xs.length - (k + 1)) + 1 by omega, List.replicate_succ]
  rfl
end Go.Proofs.Ytiaheikoifnbaaa
