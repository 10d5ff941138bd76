/- Rotations of a list, in order: plain facts; no program in sight. -/
import Derived.Test.YtiaheikoifnbaaaPl
namespace Go.Proofs.Ytiaheikoifnbaaa
open Go Go.RowKit

def listOk (xs : List Int) : Bool := decide (xs.length ≤ 40) && xs.all (inB 0 7)
/-- The symbol at a place, round and round. -/
def rat (xs : List Int) (i : Nat) : Int := xs.getD (i % xs.length) 0
def rotK (xs : List Int) (a : Nat) : List Int := (List.range xs.length).map fun k => rat xs (a + k)
def rkey (xs : List Int) (a : Nat) : List Int := rotK xs a ++ [(a : Int)]
def rotLt (xs : List Int) (a b : Nat) : Bool := decide (rkey xs a < rkey xs b)

theorem rotK_length (xs : List Int) (a : Nat) : (rotK xs a).length = xs.length := by simp [rotK]
theorem rat_at {xs : List Int} {i : Nat} {x : Int} (h : xs[i % xs.length]? = some x) : rat xs i = x := by
  simp [rat, h]
theorem lex_diff {p s t : List Int} {x y : Int} (h : x ≠ y) : (p ++ x :: s < p ++ y :: t) ↔ x < y := by
  induction p with
  | nil => simp [List.cons_lt_cons_iff, h]
  | cons a p ih => simp [ih]
theorem lex_app {p s t : List Int} : (p ++ s < p ++ t) ↔ s < t := by
  induction p with
  | nil => simp
  | cons a p ih => simp [ih]
theorem rotK_split (xs : List Int) (a k : Nat) (h : k < xs.length) :
    ∃ s, rotK xs a = ((List.range k).map fun j => rat xs (a + j)) ++ rat xs (a + k) :: s := by
  refine ⟨((List.range (xs.length - (k + 1))).map fun j => rat xs (a + (k + 1 + j))), ?_⟩
  unfold rotK
  have e : xs.length = k + (1 + (xs.length - (k + 1))) := by omega
  conv => lhs; rw [e]
  rw [List.range_add, List.map_append, List.range_add]
  simp [Nat.add_assoc]
/-- The first place at which two rotations part says which comes first. -/
theorem rotLt_diff {xs : List Int} {a b k : Nat} (h : k < xs.length) (he : ((List.range k).map fun j => rat xs (a + j)) = ((List.range k).map fun j => rat xs (b + j)))
    (hne : rat xs (a + k) ≠ rat xs (b + k)) : rotLt xs a b = decide (rat xs (a + k) < rat xs (b + k)) := by
  obtain ⟨s, hs⟩ := rotK_split xs a k h
  obtain ⟨t, ht⟩ := rotK_split xs b k h
  unfold rotLt rkey
  rw [hs, ht, he, List.append_assoc, List.append_assoc, List.cons_append, List.cons_append]
  simp only [lex_diff hne]
theorem rotLt_same {xs : List Int} {a b : Nat} (he : ((List.range xs.length).map fun j => rat xs (a + j)) = ((List.range xs.length).map fun j => rat xs (b + j))) :
    rotLt xs a b = decide (a < b) := by
  have e : rotK xs a = rotK xs b := he
  unfold rotLt rkey
  rw [e]
  simp only [lex_app]
  simp [List.cons_lt_cons_iff]

/-- The first k symbols of two rotations are the same. -/
def preEq (xs : List Int) (a b k : Nat) : Prop := ((List.range k).map fun j => rat xs (a + j)) = ((List.range k).map fun j => rat xs (b + j))
theorem preEq_zero (xs : List Int) (a b : Nat) : preEq xs a b 0 := rfl
theorem preEq_snoc {xs : List Int} {a b k : Nat} (h : preEq xs a b k) (he : rat xs (a + k) = rat xs (b + k)) : preEq xs a b (k + 1) := by
  unfold preEq at *
  rw [List.range_succ, List.map_append, List.map_append, h]
  simp [he]

theorem rotLt_irrefl (xs : List Int) (a : Nat) : rotLt xs a a = false := by
  unfold rotLt; simp
theorem rotLt_trans {xs : List Int} {a b c : Nat} (h : rotLt xs a b = true) (k : rotLt xs b c = true) : rotLt xs a c = true := by
  unfold rotLt at *
  rw [decide_eq_true_eq] at *
  exact List.lt_trans h k
theorem list_tri : ∀ {u v : List Int}, ¬ u < v → ¬ v < u → u = v
  | [], [], _, _ => rfl
  | [], _ :: _, h, _ => absurd (by simp) h
  | _ :: _, [], _, h => absurd (by simp) h
  | x :: u, y :: v, h, k => by
    rw [List.cons_lt_cons_iff] at h k
    have hxy : x = y := by omega
    subst hxy
    rw [list_tri (fun q => h (.inr ⟨rfl, q⟩)) (fun q => k (.inr ⟨rfl, q⟩))]
theorem rotLt_tri {xs : List Int} {a b : Nat} (h : rotLt xs a b = false) (hne : a ≠ b) : rotLt xs b a = true := by
  unfold rotLt at *
  rw [decide_eq_false_iff_not] at h
  rw [decide_eq_true_eq]
  refine Decidable.byContradiction fun k => hne ?_
  have e := list_tri h k
  unfold rkey at e
  have := (List.append_inj' e rfl).2
  simp at this
  omega
theorem rotLt_asymm {xs : List Int} {a b : Nat} (h : rotLt xs a b = true) : rotLt xs b a = false := by
  cases hb : rotLt xs b a
  · rfl
  · have := rotLt_trans h hb
    rw [rotLt_irrefl] at this
    cases this

/-- A number is put where it belongs. -/
def insR (lt : Nat → Nat → Bool) (i : Nat) : List Nat → List Nat
  | [] => [i]
  | e :: es => if lt e i then e :: insR lt i es else i :: e :: es
theorem insR_at (lt : Nat → Nat → Bool) (i : Nat) : ∀ (out : List Nat) (j : Nat), (∀ e ∈ out.take j, lt e i = true) → (∀ e, out[j]? = some e → lt e i = false) → insR lt i out = out.take j ++ i :: out.drop j
  | [], j, _, _ => by simp [insR]
  | e :: es, 0, _, h => by simp [insR, h e rfl]
  | e :: es, j + 1, h, k => by
    rw [insR, if_pos (h e (by simp)), insR_at lt i es j (fun x hx => h x (by simp [hx])) (fun x hx => k x (by simpa using hx))]
    simp
theorem insR_perm (lt : Nat → Nat → Bool) (i : Nat) : ∀ (out : List Nat), (insR lt i out).Perm (i :: out)
  | [] => by simp [insR]
  | e :: es => by
    rw [insR]
    split
    · exact ((insR_perm lt i es).cons e).trans (List.Perm.swap _ _ _)
    · exact List.Perm.refl _
theorem insR_length (lt : Nat → Nat → Bool) (i : Nat) (out : List Nat) : (insR lt i out).length = out.length + 1 := by
  simpa using (insR_perm lt i out).length_eq
def Sor (xs : List Int) (out : List Nat) : Prop := out.Pairwise fun a b => rotLt xs a b = true
theorem insR_sor {xs : List Int} {i : Nat} : ∀ {out : List Nat}, Sor xs out → i ∉ out → Sor xs (insR (rotLt xs) i out)
  | [], _, _ => by simp [insR, Sor]
  | e :: es, h, hi => by
    unfold Sor at *
    rw [List.pairwise_cons] at h
    rw [insR]
    have hne : i ≠ e := fun q => hi (by simp [q])
    split
    · rename_i hl
      rw [List.pairwise_cons]
      refine ⟨fun x hx => ?_, insR_sor h.2 fun q => hi (by simp [q])⟩
      rcases List.mem_cons.1 ((insR_perm _ i es).mem_iff.1 hx) with rfl | hx
      · exact hl
      · exact h.1 x hx
    · rename_i hl
      have hl' : rotLt xs i e = true := rotLt_tri (by simpa using hl) (Ne.symm hne)
      rw [List.pairwise_cons, List.pairwise_cons]
      refine ⟨fun x hx => ?_, h⟩
      rcases List.mem_cons.1 hx with rfl | hx
      · exact hl'
      · exact rotLt_trans hl' (h.1 x hx)
/-- From behind: where the walk from the end of an ordered list stops. -/
theorem insR_back {xs : List Int} {i : Nat} {out : List Nat} (hs : Sor xs out) (hi : i ∉ out) {j : Nat} (hjl : j ≤ out.length) (h1 : ∀ e ∈ out.drop j, rotLt xs i e = true) (h2 : ∀ e, 0 < j → out[j - 1]? = some e → rotLt xs i e = false) :
    insR (rotLt xs) i out = out.take j ++ i :: out.drop j := by
  refine insR_at _ _ _ _ (fun e he => ?_) fun e he => ?_
  · obtain ⟨m, hm, rfl⟩ := List.mem_iff_getElem.1 he
    have hm' := hm
    rw [List.length_take] at hm'
    rw [List.getElem_take]
    have hj : j - 1 < out.length := by omega
    have hmem : ∀ q (h : q < out.length), out[q] ≠ i := fun q h e => hi (e ▸ List.getElem_mem h)
    have hlast := rotLt_tri (h2 out[j - 1] (by omega) (List.getElem?_eq_getElem hj)) (Ne.symm (hmem _ hj))
    by_cases hq : m = j - 1
    · subst hq; exact hlast
    · exact rotLt_trans (List.pairwise_iff_getElem.1 hs m (j - 1) (by omega) hj (by omega)) hlast
  · have hj : j < out.length := (List.getElem?_eq_some_iff.1 he).1
    have := h1 e (by
      rw [List.mem_iff_getElem?]
      exact ⟨0, by rw [List.getElem?_drop]; simpa using he⟩)
    exact rotLt_asymm this

theorem ins_copy (ys : List Int) {j : Nat} (hj : j ≤ ys.length) (p : Int) :
    ((ys ++ [0]).take (j + 1) ++ (((ys ++ [0]).drop j).take (ys.length - j) ++ (ys ++ [0]).drop (j + 1 + (ys.length - j)))).set j p = ys.take j ++ p :: ys.drop j := by
  have h1 : (ys ++ [0]).drop (j + 1 + (ys.length - j)) = [] := List.drop_eq_nil_of_le (by simp; omega)
  have h2 : ((ys ++ [0]).drop j).take (ys.length - j) = ys.drop j := by
    rw [List.drop_append_of_le_length hj]
    exact List.take_left' (by simp)
  have h3 : (ys ++ [0]).take (j + 1) = ys.take j ++ [(ys ++ [0])[j]'(by simp; omega)] := by
    rw [take_snoc _ _ (by simp; omega), List.take_append_of_le_length hj]
  rw [h1, h2, h3, List.append_nil, List.append_assoc, List.set_append_right _ _ (by simp; omega)]
  simp [Nat.min_eq_left hj]
/-- The beginnings of the first k rotations, in order. -/
def ordK (xs : List Int) : Nat → List Nat
  | 0 => []
  | k + 1 => insR (rotLt xs) k (ordK xs k)
def ordN (xs : List Int) : List Nat := ordK xs xs.length
theorem ordK_perm (xs : List Int) : ∀ k, (ordK xs k).Perm (List.range k)
  | 0 => by simp [ordK]
  | k + 1 => by
    rw [ordK, List.range_succ]
    exact (insR_perm _ k _).trans (((ordK_perm xs k).cons k).trans (List.perm_append_comm (l₁ := [k])))
theorem ordK_mem {xs : List Int} {k e : Nat} : e ∈ ordK xs k ↔ e < k := by rw [(ordK_perm xs k).mem_iff]; simp
theorem ordK_sor (xs : List Int) : ∀ k, Sor xs (ordK xs k)
  | 0 => by simp [ordK, Sor]
  | k + 1 => by rw [ordK]; exact insR_sor (ordK_sor xs k) fun h => by have := ordK_mem.1 h; omega
theorem ordK_length (xs : List Int) (k : Nat) : (ordK xs k).length = k := by simpa using (ordK_perm xs k).length_eq
/-- The numbers as ints. -/
def nints (ps : List Nat) : List Int := ps.map fun (p : Nat) => (p : Int)
theorem nints_length (ps : List Nat) : (nints ps).length = ps.length := by simp [nints]
def rotsOf (xs : List Int) : List Int := if listOk xs then nints (ordN xs) else []
/-- The symbol before each rotation. -/
def lastOf (xs : List Int) (ps : List Nat) : List Int := ps.map fun p => rat xs (p + xs.length - 1)
def turnF (xs : List Int) : List Int := lastOf xs (ordN xs)
/-- The last place among the first k at which 0 stands. -/
def placeK (ps : List Nat) : Nat → Nat
  | 0 => 0
  | k + 1 => if ps[k]? = some 0 then k else placeK ps k
def turnAt (xs : List Int) : Nat := placeK (ordN xs) xs.length
def turnOf (xs : List Int) : List Int × Int × Bool := if listOk xs then (turnF xs, (turnAt xs : Int), true) else ([], 0, false)
theorem placeK_lt (ps : List Nat) : ∀ k, placeK ps k ≤ k
  | 0 => Nat.le_refl _
  | k + 1 => by rw [placeK]; have := placeK_lt ps k; split <;> omega
theorem ordN_length (xs : List Int) : (ordN xs).length = xs.length := ordK_length _ _
theorem turnF_snoc {xs : List Int} {k e : Nat} {x : Int} (h : (ordN xs)[k]? = some e) (hx : rat xs (e + xs.length - 1) = x) : (turnF xs).take (k + 1) = (turnF xs).take k ++ [x] := by
  refine take_snoc' ?_
  rw [turnF, lastOf, List.getElem?_map, h]
  simp [hx]
theorem turnF_length (xs : List Int) : (turnF xs).length = xs.length := by simp [turnF, lastOf, ordN, ordK_length]
end Go.Proofs.Ytiaheikoifnbaaa
