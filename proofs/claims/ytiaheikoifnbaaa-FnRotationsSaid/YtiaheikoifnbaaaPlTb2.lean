/- What is turned can be turned back: plain facts; no program in sight. -/
import Derived.Test.YtiaheikoifnbaaaPlTb
namespace Go.Proofs.Ytiaheikoifnbaaa
open Go Go.RowKit

theorem placeK_at {ps : List Nat} : ∀ {k i : Nat}, i < k → ps[i]? = some 0 → ps[placeK ps k]? = some 0
  | k + 1, i, hi, h => by
    rw [placeK]
    split
    · assumption
    · rename_i hn
      exact placeK_at (k := k) (by rcases Nat.lt_or_ge i k with h' | h'; exact h'; exact absurd (show ps[k]? = some 0 by rwa [show k = i by omega]) hn) h
theorem turnAt_zero {l : List Int} (hn : 0 < l.length) : (ordN l)[turnAt l]? = some 0 := by
  have h0 : (0 : Nat) ∈ ordN l := ordK_mem.2 hn
  obtain ⟨i, hi, he⟩ := List.mem_iff_getElem.1 h0
  rw [ordN_length] at hi
  exact placeK_at hi (by rw [← he]; simp [ordN_length, hi])
theorem turnAt_lt {l : List Int} (hn : 0 < l.length) : turnAt l < l.length := by
  have := (List.getElem?_eq_some_iff.1 (turnAt_zero hn)).1
  rwa [ordN_length] at this
theorem ord_some {l : List Int} {i : Nat} (hi : i < l.length) : ∃ q, (ordN l)[i]? = some q := ⟨_, List.getElem?_eq_getElem (by rw [ordN_length]; exact hi)⟩
theorem rowS_same {l : List Int} (h : listOk l = true) (hn : 0 < l.length) : ∀ j, ∃ q, (ordN l)[rowS (turnF l) (turnAt l) j]? = some q ∧ sameR l q j
  | 0 => ⟨0, turnAt_zero hn, fun _ => rfl⟩
  | j + 1 => by
    obtain ⟨p, hp, hs⟩ := rowS_same h hn j
    have hr := rowS_lt (turnF_ok h) (by rw [turnF_length]; exact turnAt_lt hn) (a := turnAt l) j
    have hi : (nextL (turnF l))[rowS (turnF l) (turnAt l) j]? = some (rowS (turnF l) (turnAt l) (j + 1)) := by
      rw [rowS]; simp [nextL_length (turnF_ok h), hr]
    have hr2 := nextL_lt (turnF_ok h) hi
    rw [turnF_length] at hr2
    obtain ⟨q, hq⟩ := ord_some hr2
    refine ⟨q, hq, fun k => ?_⟩
    have h1 := sameR_of (same_next h hi hp hq) hn (k + 1)
    rw [prv_rat, hs, show q + l.length - 1 + (k + 1) = q + k + l.length by omega, rat_n] at h1
    rw [h1]; congr 1; omega
theorem rowI_same {l : List Int} (h : listOk l = true) (hn : 0 < l.length) : ∀ j, j ≤ l.length → ∃ q, (ordN l)[rowI (turnF l) (turnAt l) j]? = some q ∧ sameR l q (l.length - j)
  | 0, _ => ⟨0, turnAt_zero hn, fun k => by rw [Nat.sub_zero, ← rat_n l (0 + k)]; congr 1; omega⟩
  | j + 1, hj => by
    obtain ⟨p, hp, hs⟩ := rowI_same h hn j (by omega)
    have hr := rowI_lt (turnF_ok h) (by rw [turnF_length]; exact turnAt_lt hn) (a := turnAt l) j
    have hi := next_lf (turnF_ok h) hr
    have hr2 := rowI_lt (turnF_ok h) (by rw [turnF_length]; exact turnAt_lt hn) (a := turnAt l) (j + 1)
    rw [turnF_length] at hr2
    obtain ⟨q, hq⟩ := ord_some hr2
    refine ⟨q, hq, fun k => ?_⟩
    have h1 := sameR_of (same_next h hi hq hp) hn k
    rw [prv_rat, show p + l.length - 1 + k = p + (l.length - 1 + k) by omega, hs] at h1
    rw [← h1, ← rat_n l (l.length - (j + 1) + k)]
    congr 1; omega
theorem turnF_getD {l : List Int} {i q : Nat} (h : (ordN l)[i]? = some q) : (turnF l).getD i 0 = rat l (q + l.length - 1) := by
  rw [List.getD_eq_getElem?_getD, turnF_at h]; rfl
theorem rat_at' {l : List Int} {k : Nat} (hk : k < l.length) : l[k]? = some (rat l k) := by
  unfold rat
  rw [Nat.mod_eq_of_lt hk]
  exact getD_at hk
theorem turn_backS {l : List Int} (h : listOk l = true) : outS (turnF l) (turnAt l) = l := by
  refine List.ext_getElem? fun k => ?_
  unfold outS
  rw [List.getElem?_map, turnF_length]
  by_cases hk : k < l.length
  · obtain ⟨q, hq, hs⟩ := rowS_same h (by omega) (k + 1)
    rw [List.getElem?_range hk, rat_at' hk, Option.map_some, turnF_getD hq, show q + l.length - 1 = q + (l.length - 1) by omega, hs, show k + 1 + (l.length - 1) = k + l.length by omega, rat_n]
  · rw [List.getElem?_eq_none (by simpa using hk), List.getElem?_eq_none (by omega)]; rfl
theorem turn_backI {l : List Int} (h : listOk l = true) : outI (turnF l) (turnAt l) = l := by
  refine List.ext_getElem? fun k => ?_
  unfold outI
  rw [List.getElem?_map, turnF_length]
  by_cases hk : k < l.length
  · obtain ⟨q, hq, hs⟩ := rowI_same h (by omega) (l.length - 1 - k) (by omega)
    rw [List.getElem?_range hk, rat_at' hk, Option.map_some, turnF_getD hq, show q + l.length - 1 = q + (l.length - 1) by omega, hs, show l.length - (l.length - 1 - k) + (l.length - 1) = k + l.length by omega, rat_n]
  · rw [List.getElem?_eq_none (by simpa using hk), List.getElem?_eq_none (by omega)]; rfl

def atOk (L : List Int) (a : Int) : Bool := inB 0 (max ((L.length : Int) - 1) 0) a
def tbI (L : List Int) (a : Int) : Option (List Int) := if listOk L = true ∧ atOk L a = true ∧ turnOf (outI L a.toNat) = (L, a, true) then some (outI L a.toNat) else none
def tbS (L : List Int) (a : Int) : Option (List Int) := if listOk L = true ∧ atOk L a = true ∧ turnOf (outS L a.toNat) = (L, a, true) then some (outS L a.toNat) else none
theorem turnOf_is {l L : List Int} {a : Int} (h : turnOf l = (L, a, true)) : listOk l = true ∧ L = turnF l ∧ a = (turnAt l : Int) := by
  unfold turnOf at h
  split at h
  · rename_i hl
    injection h with h1 h2
    injection h2 with h2 _
    exact ⟨hl, h1.symm, h2.symm⟩
  · simp at h
theorem backS_of {l L : List Int} {a : Int} (h : turnOf l = (L, a, true)) : outS L a.toNat = l := by
  obtain ⟨hl, rfl, rfl⟩ := turnOf_is h
  exact turn_backS hl
theorem backI_of {l L : List Int} {a : Int} (h : turnOf l = (L, a, true)) : outI L a.toNat = l := by
  obtain ⟨hl, rfl, rfl⟩ := turnOf_is h
  exact turn_backI hl
theorem tb_same (L : List Int) (a : Int) : tbS L a = tbI L a := by
  unfold tbI tbS
  by_cases h1 : listOk L = true ∧ atOk L a = true
  · by_cases h2 : turnOf (outI L a.toNat) = (L, a, true)
    · have e := backS_of h2
      rw [e]
    · have h4 : ¬ turnOf (outS L a.toNat) = (L, a, true) := fun h3 => by
        have e := backI_of h3
        rw [e] at h2
        exact h2 h3
      rw [if_neg (fun h => h4 h.2.2), if_neg (fun h => h2 h.2.2)]
  · rw [if_neg (fun h => h1 ⟨h.1, h.2.1⟩), if_neg (fun h => h1 ⟨h.1, h.2.1⟩)]
theorem turn_there {l : List Int} (h : listOk l = true) : turnOf l = (turnF l, (turnAt l : Int), true) := by unfold turnOf; rw [if_pos h]
theorem atOk_turn {l : List Int} : atOk (turnF l) (turnAt l : Int) = true := by
  unfold atOk
  rw [turnF_length, inB_true]
  have := placeK_lt (ordN l) l.length
  rcases Nat.eq_zero_or_pos l.length with h0 | hn
  · unfold turnAt; omega
  · have := turnAt_lt hn; omega
/-- What was turned is turned back. -/
theorem tb_turn {l : List Int} (h : listOk l = true) : tbI (turnF l) (turnAt l : Int) = some l := by
  have e := turn_backI h
  unfold tbI
  rw [Int.toNat_natCast, e, if_pos ⟨turnF_ok h, atOk_turn, turn_there h⟩]
theorem outOk_of {L : List Int} (h : listOk L = true) {f : Nat → Nat} (hf : ∀ k, k < L.length → f k < L.length) : listOk ((List.range L.length).map fun k => L.getD (f k) 0) = true := by
  refine Bool.and_eq_true_iff.2 ⟨by simpa using (Bool.and_eq_true_iff.1 h).1, List.all_eq_true.2 fun x hx => ?_⟩
  obtain ⟨k, hk, rfl⟩ := List.mem_map.1 hx
  exact inB_true.2 (listOk_at h (getD_at (hf k (List.mem_range.1 hk))))
theorem tb_len {L : List Int} {a : Int} {n : Nat} (h : L.length ≤ n) : ((tbI L a).getD []).length ≤ n := by
  unfold tbI
  split
  · simpa [outI] using h
  · simp
end Go.Proofs.Ytiaheikoifnbaaa
