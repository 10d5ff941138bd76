/- Joined texts: contracts and plain facts that the laws share. No condition. -/
import Derived.WalkKit
import Derived.Laws.Bits64
/- Plain facts on lists and numbers; no program in sight. -/
namespace Go.Proofs.Ytamljhjbmeikiaa
open Go Go.RowKit

def inB (lo hi n : Int) : Bool := decide (lo ≤ n) && decide (n ≤ hi)
theorem inB_true {lo hi n : Int} : inB lo hi n = true ↔ lo ≤ n ∧ n ≤ hi := by simp [inB]
theorem inB_false {lo hi n : Int} : inB lo hi n = false ↔ n < lo ∨ hi < n := by
  rw [Bool.eq_false_iff, ne_eq, inB_true]; omega

theorem nil_or_snoc {α : Type} (xs : List α) : xs = [] ∨ ∃ ys t, xs = ys ++ [t] := by
  by_cases h : xs = []
  · exact .inl h
  · exact .inr ⟨_, _, (List.dropLast_concat_getLast h).symm⟩
theorem take_snoc {α : Type} (xs : List α) (k : Nat) (h : k < xs.length) : xs.take (k + 1) = xs.take k ++ [xs[k]] :=
  List.take_succ_eq_append_getElem h
theorem take_snoc' {α : Type} {xs : List α} {k : Nat} {x : α} (h : xs[k]? = some x) : xs.take (k + 1) = xs.take k ++ [x] := by
  rw [List.take_add_one, h]; rfl
theorem all_snoc {α : Type} {xs : List α} {p : α → Bool} {k : Nat} {x : α} (h : xs[k]? = some x) (h0 : (xs.take k).all p = true) (h1 : p x = true) : (xs.take (k + 1)).all p = true := by
  rw [take_snoc' h, List.all_append, h0]
  simp [h1]
theorem all_no {α : Type} {xs : List α} {p : α → Bool} {k : Nat} {x : α} (h : xs[k]? = some x) (h1 : p x = false) : xs.all p = false := by
  rw [List.all_eq_false]
  exact ⟨_, List.mem_of_getElem? h, by simp [h1]⟩
theorem all_done {α : Type} {xs : List α} {p : α → Bool} {k : Nat} (h : xs.length ≤ k) (h0 : (xs.take k).all p = true) : xs.all p = true := by
  rwa [List.take_of_length_le h] at h0
theorem eq_snoc {α : Type} {xs ys : List α} {k : Nat} {x y : α} (h : xs[k]? = some x) (h' : ys[k]? = some y) (h0 : xs.take k = ys.take k) (h1 : x = y) : xs.take (k + 1) = ys.take (k + 1) := by
  rw [take_snoc' h, take_snoc' h', h0, h1]
theorem eq_no {α : Type} {xs ys : List α} {k : Nat} {x y : α} (h : xs[k]? = some x) (h' : ys[k]? = some y) (h1 : x ≠ y) : xs ≠ ys := by
  rintro rfl
  exact h1 (Option.some.inj (h.symm.trans h'))
theorem eq_done {α : Type} {xs ys : List α} {k : Nat} (h : xs.length ≤ k) (h' : ys.length ≤ k) (h0 : xs.take k = ys.take k) : xs = ys := by
  rwa [List.take_of_length_le h, List.take_of_length_le h'] at h0
/-- The first k of xs, then what is not filled yet. -/
theorem fill_snoc {xs cs : List Int} {k : Nat} {x : Int} (hk : k < xs.length) (h : xs[k]? = some x) (hc : cs = xs.take k ++ List.replicate (xs.length - k) 0) :
    cs.set k x = xs.take (k + 1) ++ List.replicate (xs.length - (k + 1)) 0 := by
  subst hc
  have hl : (xs.take k).length = k := by rw [List.length_take]; omega
  rw [List.set_append_right _ _ (by omega), hl, Nat.sub_self, take_snoc' h, List.append_assoc, show xs.length - k = (xs.length - (k + 1)) + 1 by omega, List.replicate_succ]
  rfl
end Go.Proofs.Ytamljhjbmeikiaa
/- Rotations of a list, in order: plain facts; no program in sight. -/
namespace Go.Proofs.Ytamljhjbmeikiaa
open Go Go.RowKit

def listOk (xs : List Int) : Bool := decide (xs.length ≤ 40) && xs.all (inB 0 7)
/-- The symbol at a place, round and round. -/
def rat (xs : List Int) (i : Nat) : Int := xs.getD (i % xs.length) 0
def rotK (xs : List Int) (a : Nat) : List Int := (List.range xs.length).map fun k => rat xs (a + k)
def rkey (xs : List Int) (a : Nat) : List Int := rotK xs a ++ [(a : Int)]
def rotLt (xs : List Int) (a b : Nat) : Bool := decide (rkey xs a < rkey xs b)

theorem rotK_length (xs : List Int) (a : Nat) : (rotK xs a).length = xs.length := by simp [rotK]
theorem rat_at {xs : List Int} {i : Nat} {x : Int} (h : xs[i % xs.length]? = some x) : rat xs i = x := by
  simp [rat, h]
theorem lex_diff {p s t : List Int} {x y : Int} (h : x ≠ y) : (p ++ x :: s < p ++ y :: t) ↔ x < y := by
  induction p with
  | nil => simp [List.cons_lt_cons_iff, h]
  | cons a p ih => simp [ih]
theorem lex_app {p s t : List Int} : (p ++ s < p ++ t) ↔ s < t := by
  induction p with
  | nil => simp
  | cons a p ih => simp [ih]
theorem rotK_split (xs : List Int) (a k : Nat) (h : k < xs.length) :
    ∃ s, rotK xs a = ((List.range k).map fun j => rat xs (a + j)) ++ rat xs (a + k) :: s := by
  refine ⟨((List.range (xs.length - (k + 1))).map fun j => rat xs (a + (k + 1 + j))), ?_⟩
  unfold rotK
  have e : xs.length = k + (1 + (xs.length - (k + 1))) := by omega
  conv => lhs; rw [e]
  rw [List.range_add, List.map_append, List.range_add]
  simp [Nat.add_assoc]
/-- The first place at which two rotations part says which comes first. -/
theorem rotLt_diff {xs : List Int} {a b k : Nat} (h : k < xs.length) (he : ((List.range k).map fun j => rat xs (a + j)) = ((List.range k).map fun j => rat xs (b + j)))
    (hne : rat xs (a + k) ≠ rat xs (b + k)) : rotLt xs a b = decide (rat xs (a + k) < rat xs (b + k)) := by
  obtain ⟨s, hs⟩ := rotK_split xs a k h
  obtain ⟨t, ht⟩ := rotK_split xs b k h
  unfold rotLt rkey
  rw [hs, ht, he, List.append_assoc, List.append_assoc, List.cons_append, List.cons_append]
  simp only [lex_diff hne]
theorem rotLt_same {xs : List Int} {a b : Nat} (he : ((List.range xs.length).map fun j => rat xs (a + j)) = ((List.range xs.length).map fun j => rat xs (b + j))) :
    rotLt xs a b = decide (a < b) := by
  have e : rotK xs a = rotK xs b := he
  unfold rotLt rkey
  rw [e]
  simp only [lex_app]
  simp [List.cons_lt_cons_iff]

/-- The first k symbols of two rotations are the same. -/
def preEq (xs : List Int) (a b k : Nat) : Prop := ((List.range k).map fun j => rat xs (a + j)) = ((List.range k).map fun j => rat xs (b + j))
theorem preEq_zero (xs : List Int) (a b : Nat) : preEq xs a b 0 := rfl
theorem preEq_snoc {xs : List Int} {a b k : Nat} (h : preEq xs a b k) (he : rat xs (a + k) = rat xs (b + k)) : preEq xs a b (k + 1) := by
  unfold preEq at *
  rw [List.range_succ, List.map_append, List.map_append, h]
  simp [he]

theorem rotLt_irrefl (xs : List Int) (a : Nat) : rotLt xs a a = false := by
  unfold rotLt; simp
theorem rotLt_trans {xs : List Int} {a b c : Nat} (h : rotLt xs a b = true) (k : rotLt xs b c = true) : rotLt xs a c = true := by
  unfold rotLt at *
  rw [decide_eq_true_eq] at *
  exact List.lt_trans h k
theorem list_tri : ∀ {u v : List Int}, ¬ u < v → ¬ v < u → u = v
  | [], [], _, _ => rfl
  | [], _ :: _, h, _ => absurd (by simp) h
  | _ :: _, [], _, h => absurd (by simp) h
  | x :: u, y :: v, h, k => by
    rw [List.cons_lt_cons_iff] at h k
    have hxy : x = y := by omega
    subst hxy
    rw [list_tri (fun q => h (.inr ⟨rfl, q⟩)) (fun q => k (.inr ⟨rfl, q⟩))]
theorem rotLt_tri {xs : List Int} {a b : Nat} (h : rotLt xs a b = false) (hne : a ≠ b) : rotLt xs b a = true := by
  unfold rotLt at *
  rw [decide_eq_false_iff_not] at h
  rw [decide_eq_true_eq]
  refine Decidable.byContradiction fun k => hne ?_
  have e := list_tri h k
  unfold rkey at e
  have := (List.append_inj' e rfl).2
  simp at this
  omega
theorem rotLt_asymm {xs : List Int} {a b : Nat} (h : rotLt xs a b = true) : rotLt xs b a = false := by
  cases hb : rotLt xs b a
  · rfl
  · have := rotLt_trans h hb
    rw [rotLt_irrefl] at this
    cases this

/-- A number is put where it belongs. -/
def insR (lt : Nat → Nat → Bool) (i : Nat) : List Nat → List Nat
  | [] => [i]
  | e :: es => if lt e i then e :: insR lt i es else i :: e :: es
theorem insR_at (lt : Nat → Nat → Bool) (i : Nat) : ∀ (out : List Nat) (j : Nat), (∀ e ∈ out.take j, lt e i = true) → (∀ e, out[j]? = some e → lt e i = false) → insR lt i out = out.take j ++ i :: out.drop j
  | [], j, _, _ => by simp [insR]
  | e :: es, 0, _, h => by simp [insR, h e rfl]
  | e :: es, j + 1, h, k => by
    rw [insR, if_pos (h e (by simp)), insR_at lt i es j (fun x hx => h x (by simp [hx])) (fun x hx => k x (by simpa using hx))]
    simp
theorem insR_perm (lt : Nat → Nat → Bool) (i : Nat) : ∀ (out : List Nat), (insR lt i out).Perm (i :: out)
  | [] => by simp [insR]
  | e :: es => by
    rw [insR]
    split
    · exact ((insR_perm lt i es).cons e).trans (List.Perm.swap _ _ _)
    · exact List.Perm.refl _
theorem insR_length (lt : Nat → Nat → Bool) (i : Nat) (out : List Nat) : (insR lt i out).length = out.length + 1 := by
  simpa using (insR_perm lt i out).length_eq
def Sor (xs : List Int) (out : List Nat) : Prop := out.Pairwise fun a b => rotLt xs a b = true
theorem insR_sor {xs : List Int} {i : Nat} : ∀ {out : List Nat}, Sor xs out → i ∉ out → Sor xs (insR (rotLt xs) i out)
  | [], _, _ => by simp [insR, Sor]
  | e :: es, h, hi => by
    unfold Sor at *
    rw [List.pairwise_cons] at h
    rw [insR]
    have hne : i ≠ e := fun q => hi (by simp [q])
    split
    · rename_i hl
      rw [List.pairwise_cons]
      refine ⟨fun x hx => ?_, insR_sor h.2 fun q => hi (by simp [q])⟩
      rcases List.mem_cons.1 ((insR_perm _ i es).mem_iff.1 hx) with rfl | hx
      · exact hl
      · exact h.1 x hx
    · rename_i hl
      have hl' : rotLt xs i e = true := rotLt_tri (by simpa using hl) (Ne.symm hne)
      rw [List.pairwise_cons, List.pairwise_cons]
      refine ⟨fun x hx => ?_, h⟩
      rcases List.mem_cons.1 hx with rfl | hx
      · exact hl'
      · exact rotLt_trans hl' (h.1 x hx)
/-- From behind: where the walk from the end of an ordered list stops. -/
theorem insR_back {xs : List Int} {i : Nat} {out : List Nat} (hs : Sor xs out) (hi : i ∉ out) {j : Nat} (hjl : j ≤ out.length) (h1 : ∀ e ∈ out.drop j, rotLt xs i e = true) (h2 : ∀ e, 0 < j → out[j - 1]? = some e → rotLt xs i e = false) :
    insR (rotLt xs) i out = out.take j ++ i :: out.drop j := by
  refine insR_at _ _ _ _ (fun e he => ?_) fun e he => ?_
  · obtain ⟨m, hm, rfl⟩ := List.mem_iff_getElem.1 he
    have hm' := hm
    rw [List.length_take] at hm'
    rw [List.getElem_take]
    have hj : j - 1 < out.length := by omega
    have hmem : ∀ q (h : q < out.length), out[q] ≠ i := fun q h e => hi (e ▸ List.getElem_mem h)
    have hlast := rotLt_tri (h2 out[j - 1] (by omega) (List.getElem?_eq_getElem hj)) (Ne.symm (hmem _ hj))
    by_cases hq : m = j - 1
    · subst hq; exact hlast
    · exact rotLt_trans (List.pairwise_iff_getElem.1 hs m (j - 1) (by omega) hj (by omega)) hlast
  · have hj : j < out.length := (List.getElem?_eq_some_iff.1 he).1
    have := h1 e (by
      rw [List.mem_iff_getElem?]
      exact ⟨0, by rw [List.getElem?_drop]; simpa using he⟩)
    exact rotLt_asymm this

theorem ins_copy (ys : List Int) {j : Nat} (hj : j ≤ ys.length) (p : Int) :
    ((ys ++ [0]).take (j + 1) ++ (((ys ++ [0]).drop j).take (ys.length - j) ++ (ys ++ [0]).drop (j + 1 + (ys.length - j)))).set j p = ys.take j ++ p :: ys.drop j := by
  have h1 : (ys ++ [0]).drop (j + 1 + (ys.length - j)) = [] := List.drop_eq_nil_of_le (by simp; omega)
  have h2 : ((ys ++ [0]).drop j).take (ys.length - j) = ys.drop j := by
    rw [List.drop_append_of_le_length hj]
    exact List.take_left' (by simp)
  have h3 : (ys ++ [0]).take (j + 1) = ys.take j ++ [(ys ++ [0])[j]'(by simp; omega)] := by
    rw [take_snoc _ _ (by simp; omega), List.take_append_of_le_length hj]
  rw [h1, h2, h3, List.append_nil, List.append_assoc, List.set_append_right _ _ (by simp; omega)]
  simp [Nat.min_eq_left hj]
/-- The beginnings of the first k rotations, in order. -/
def ordK (xs : List Int) : Nat → List Nat
  | 0 => []
  | k + 1 => insR (rotLt xs) k (ordK xs k)
def ordN (xs : List Int) : List Nat := ordK xs xs.length
theorem ordK_perm (xs : List Int) : ∀ k, (ordK xs k).Perm (List.range k)
  | 0 => by simp [ordK]
  | k + 1 => by
    rw [ordK, List.range_succ]
    exact (insR_perm _ k _).trans (((ordK_perm xs k).cons k).trans (List.perm_append_comm (l₁ := [k])))
theorem ordK_mem {xs : List Int} {k e : Nat} : e ∈ ordK xs k ↔ e < k := by rw [(ordK_perm xs k).mem_iff]; simp
theorem ordK_sor (xs : List Int) : ∀ k, Sor xs (ordK xs k)
  | 0 => by simp [ordK, Sor]
  | k + 1 => by rw [ordK]; exact insR_sor (ordK_sor xs k) fun h => by have := ordK_mem.1 h; omega
theorem ordK_length (xs : List Int) (k : Nat) : (ordK xs k).length = k := by simpa using (ordK_perm xs k).length_eq
/-- The numbers as ints. -/
def nints (ps : List Nat) : List Int := ps.map fun (p : Nat) => (p : Int)
theorem nints_length (ps : List Nat) : (nints ps).length = ps.length := by simp [nints]
def rotsOf (xs : List Int) : List Int := if listOk xs then nints (ordN xs) else []
/-- The symbol before each rotation. -/
def lastOf (xs : List Int) (ps : List Nat) : List Int := ps.map fun p => rat xs (p + xs.length - 1)
def turnF (xs : List Int) : List Int := lastOf xs (ordN xs)
/-- The last place among the first k at which 0 stands. -/
def placeK (ps : List Nat) : Nat → Nat
  | 0 => 0
  | k + 1 => if ps[k]? = some 0 then k else placeK ps k
def turnAt (xs : List Int) : Nat := placeK (ordN xs) xs.length
def turnOf (xs : List Int) : List Int × Int × Bool := if listOk xs then (turnF xs, (turnAt xs : Int), true) else ([], 0, false)
theorem placeK_lt (ps : List Nat) : ∀ k, placeK ps k ≤ k
  | 0 => Nat.le_refl _
  | k + 1 => by rw [placeK]; have := placeK_lt ps k; split <;> omega
theorem ordN_length (xs : List Int) : (ordN xs).length = xs.length := ordK_length _ _
theorem turnF_snoc {xs : List Int} {k e : Nat} {x : Int} (h : (ordN xs)[k]? = some e) (hx : rat xs (e + xs.length - 1) = x) : (turnF xs).take (k + 1) = (turnF xs).take k ++ [x] := by
  refine take_snoc' ?_
  rw [turnF, lastOf, List.getElem?_map, h]
  simp [hx]
theorem turnF_length (xs : List Int) : (turnF xs).length = xs.length := by simp [turnF, lastOf, ordN, ordK_length]
end Go.Proofs.Ytamljhjbmeikiaa
/- Rotations: how long they are. -/
namespace Go.Proofs.Ytamljhjbmeikiaa
open Go Go.RowKit
theorem rots_len {xs : List Int} {n : Nat} (h : xs.length ≤ n) : (rotsOf xs).length ≤ n := by
  unfold rotsOf
  split
  · rw [nints_length, ordN_length]; exact h
  · exact Nat.zero_le _
theorem turn_len {xs : List Int} {n : Nat} (h : xs.length ≤ n) : ((turnOf xs).1).length ≤ n := by
  unfold turnOf
  split
  · rw [turnF_length]; exact h
  · exact Nat.zero_le _
end Go.Proofs.Ytamljhjbmeikiaa
/- Turning back: plain facts; no program in sight. -/
namespace Go.Proofs.Ytamljhjbmeikiaa
open Go Go.RowKit

/-- The places below i at which the symbol s stands. -/
def grp (L : List Int) (i s : Nat) : List Nat := (List.range i).filter fun j => decide (L.getD j 0 = (s : Int))
/-- All places, by their symbols. -/
def nextP (L : List Int) (s i : Nat) : List Nat := ((List.range s).flatMap fun t => grp L L.length t) ++ grp L i s
def nextL (L : List Int) : List Nat := (List.range 8).flatMap fun t => grp L L.length t
theorem grp_succ {L : List Int} {i s : Nat} {x : Int} (h : L[i]? = some x) : grp L (i + 1) s = if x = (s : Int) then grp L i s ++ [i] else grp L i s := by
  unfold grp
  rw [List.range_succ, List.filter_append]
  by_cases e : x = (s : Int)
  · rw [if_pos e]; subst e; simp [h]
  · rw [if_neg e]; simp [h, e]
theorem nextP_zero (L : List Int) : nextP L 0 0 = [] := rfl
theorem nextP_next (L : List Int) (s : Nat) : nextP L s L.length = nextP L (s + 1) 0 := by
  simp [nextP, List.range_succ, List.flatMap_append, grp]
theorem nextP_end (L : List Int) : nextP L 8 0 = nextL L := by simp [nextP, nextL, grp]
theorem nextP_yes {L : List Int} {s i : Nat} {x : Int} (h : L[i]? = some x) (e : x = (s : Int)) : nextP L s (i + 1) = nextP L s i ++ [i] := by
  unfold nextP; rw [grp_succ h, if_pos e, List.append_assoc]
theorem nextP_no {L : List Int} {s i : Nat} {x : Int} (h : L[i]? = some x) (e : x ≠ (s : Int)) : nextP L s (i + 1) = nextP L s i := by
  unfold nextP; rw [grp_succ h, if_neg e]

theorem parts_perm {R : List Nat} {f : Nat → Int} : ∀ m : Nat, ((List.range m).flatMap fun (s : Nat) => R.filter fun j => decide (f j = (s : Int))).Perm (R.filter fun j => decide (0 ≤ f j ∧ f j < (m : Int)))
  | 0 => by
    have : (R.filter fun j => decide (0 ≤ f j ∧ f j < ((0 : Nat) : Int))) = [] := List.filter_eq_nil_iff.2 fun j _ => by rw [decide_eq_true_eq]; omega
    rw [this]; simp
  | m + 1 => by
    rw [List.range_succ, List.flatMap_append]
    refine ((parts_perm m).append_right _).trans ?_
    have h := List.filter_append_perm (fun j => decide (f j < (m : Int))) (R.filter fun j => decide (0 ≤ f j ∧ f j < ((m + 1 : Nat) : Int)))
    rw [List.filter_filter, List.filter_filter] at h
    have e1 : (R.filter fun j => decide (f j < (m : Int)) && decide (0 ≤ f j ∧ f j < ((m + 1 : Nat) : Int))) = R.filter fun j => decide (0 ≤ f j ∧ f j < (m : Int)) := by
      refine List.filter_congr fun j _ => ?_
      rw [Bool.eq_iff_iff]; simp; omega
    have e2 : (R.filter fun j => (!decide (f j < (m : Int))) && decide (0 ≤ f j ∧ f j < ((m + 1 : Nat) : Int))) = R.filter fun j => decide (f j = (m : Int)) := by
      refine List.filter_congr fun j _ => ?_
      rw [Bool.eq_iff_iff]; simp; omega
    rw [e1, e2] at h
    simpa using h
theorem listOk_at {L : List Int} (h : listOk L = true) {k : Nat} {x : Int} (hx : L[k]? = some x) : 0 ≤ x ∧ x ≤ 7 := by
  have := (Bool.and_eq_true_iff.1 h).2
  exact inB_true.1 (List.all_eq_true.1 this x (List.mem_of_getElem? hx))
theorem getD_at {L : List Int} {k : Nat} (hk : k < L.length) : L[k]? = some (L.getD k 0) := by simp [hk]
theorem nextL_perm {L : List Int} (h : listOk L = true) : (nextL L).Perm (List.range L.length) := by
  have h1 := parts_perm (R := List.range L.length) (f := fun j => L.getD j 0) 8
  have e : ((List.range L.length).filter fun j => decide (0 ≤ L.getD j 0 ∧ L.getD j 0 < ((8 : Nat) : Int))) = List.range L.length := by
    refine List.filter_eq_self.2 fun j hj => ?_
    have := listOk_at h (getD_at (List.mem_range.1 hj))
    rw [decide_eq_true_eq]; omega
  rw [e] at h1
  exact h1
theorem nextL_length {L : List Int} (h : listOk L = true) : (nextL L).length = L.length := by simpa using (nextL_perm h).length_eq
theorem nextL_lt {L : List Int} (h : listOk L = true) {j i : Nat} (hj : (nextL L)[j]? = some i) : i < L.length := by
  have := (nextL_perm h).mem_iff.1 (List.mem_of_getElem? hj)
  simpa using this

/-- Where the symbol s begins in the order of symbols; and where place k's symbol is in it. -/
def begs (L : List Int) (s : Nat) : Nat := ((List.range s).flatMap fun t => grp L L.length t).length
def lfN (L : List Int) (k : Nat) : Nat := begs L (L.getD k 0).toNat + (grp L k (L.getD k 0).toNat).length
theorem next_lf {L : List Int} (h : listOk L = true) {k : Nat} (hk : k < L.length) : (nextL L)[lfN L k]? = some k := by
  have hx := listOk_at h (getD_at hk)
  obtain ⟨s, hs⟩ := Int.eq_ofNat_of_zero_le hx.1
  have hs8 : s < 8 := by omega
  have hst : (L.getD k 0).toNat = s := by omega
  have e : List.range 8 = List.range s ++ s :: (List.range (7 - s)).map (s + 1 + ·) := by
    have e1 : 8 = s + (1 + (7 - s)) := by omega
    rw [e1, List.range_add, List.range_add]
    simp [Nat.add_assoc]
  have e2 : grp L L.length s = grp L k s ++ k :: ((List.range (L.length - (k + 1))).map (k + 1 + ·)).filter fun j => decide (L.getD j 0 = (s : Int)) := by
    have e1 : L.length = (k + 1) + (L.length - (k + 1)) := by omega
    have e3 : List.range L.length = List.range (k + 1) ++ (List.range (L.length - (k + 1))).map (k + 1 + ·) := by
      conv => lhs; rw [e1]
      rw [List.range_add]
    have e4 : grp L L.length s = grp L (k + 1) s ++ ((List.range (L.length - (k + 1))).map (k + 1 + ·)).filter fun j => decide (L.getD j 0 = (s : Int)) := by
      unfold grp
      rw [e3, List.filter_append]
    rw [e4, grp_succ (getD_at hk), if_pos hs, List.append_assoc]
    rfl
  unfold lfN nextL begs
  rw [hst, e, List.flatMap_append, List.flatMap_cons, e2, List.getElem?_append_right (by omega)]
  rw [List.append_assoc, List.getElem?_append_right (by omega)]
  rw [show ∀ a b : Nat, a + b - a - b = 0 from fun a b => by omega]
  rfl
theorem lfN_lt {L : List Int} (h : listOk L = true) {k : Nat} (hk : k < L.length) : lfN L k < L.length := by
  have := (List.getElem?_eq_some_iff.1 (next_lf h hk)).1
  rwa [nextL_length h] at this

/-- The two ways back. -/
def rowI (L : List Int) (at_ : Nat) : Nat → Nat
  | 0 => at_
  | j + 1 => lfN L (rowI L at_ j)
def outI (L : List Int) (at_ : Nat) : List Int := (List.range L.length).map fun k => L.getD (rowI L at_ (L.length - 1 - k)) 0
def rowS (L : List Int) (at_ : Nat) : Nat → Nat
  | 0 => at_
  | j + 1 => (nextL L).getD (rowS L at_ j) 0
def outS (L : List Int) (at_ : Nat) : List Int := (List.range L.length).map fun k => L.getD (rowS L at_ (k + 1)) 0
theorem rowI_lt {L : List Int} (h : listOk L = true) {a : Nat} (ha : a < L.length) : ∀ j, rowI L a j < L.length
  | 0 => ha
  | j + 1 => lfN_lt h (rowI_lt h ha j)
theorem rowS_lt {L : List Int} (h : listOk L = true) {a : Nat} (ha : a < L.length) : ∀ j, rowS L a j < L.length
  | 0 => ha
  | j + 1 => by
    have h1 := rowS_lt h ha j
    rw [rowS]
    have h2 : (nextL L)[rowS L a j]? = some ((nextL L).getD (rowS L a j) 0) := by simp [nextL_length h, h1]
    exact nextL_lt h h2

/-! Rows. -/
/-- Two rotations are the same. -/
def sameR (l : List Int) (a b : Nat) : Prop := ∀ k, rat l (a + k) = rat l (b + k)
theorem rat_n (l : List Int) (a : Nat) : rat l (a + l.length) = rat l a := by unfold rat; rw [Nat.add_mod_right]
theorem rat_mod (l : List Int) (a : Nat) : rat l (a % l.length) = rat l a := by unfold rat; rw [Nat.mod_mod]
theorem sameR_of {l : List Int} {a b : Nat} (h : rotK l a = rotK l b) (hn : 0 < l.length) : sameR l a b := by
  intro k
  have e : ∀ x, rat l (x + k) = rat l (x + k % l.length) := fun x => by unfold rat; rw [Nat.add_mod_mod]
  rw [e a, e b]
  have := congrArg (fun u => u[k % l.length]?) h
  simpa [rotK, Nat.mod_lt _ hn] using this
theorem rotK_of {l : List Int} {a b : Nat} (h : sameR l a b) : rotK l a = rotK l b := List.map_congr_left fun k _ => h k
/-- The rotation that begins one place earlier. -/
def prv (l : List Int) (p : Nat) : Nat := (p + l.length - 1) % l.length
theorem prv_rat (l : List Int) (p k : Nat) : rat l (prv l p + k) = rat l (p + l.length - 1 + k) := by
  unfold prv rat; rw [Nat.mod_add_mod]
theorem rotK_cons {l : List Int} (hn : 0 < l.length) (p : Nat) : rotK l (prv l p) = rat l (p + l.length - 1) :: (rotK l p).take (l.length - 1) := by
  obtain ⟨m, hm⟩ : ∃ m, l.length = m + 1 := ⟨l.length - 1, by omega⟩
  have e : rotK l (prv l p) = (List.range (m + 1)).map fun k => rat l (p + l.length - 1 + k) := by
    unfold rotK; rw [hm]; exact List.map_congr_left fun k _ => by rw [prv_rat, hm]
  rw [e, List.range_succ_eq_map]
  simp only [List.map_cons, List.map_map, Nat.add_zero, List.cons.injEq, true_and]
  unfold rotK
  rw [← List.map_take, hm]
  simp only [Nat.add_sub_cancel, List.take_range, Nat.min_eq_left (Nat.le_succ m)]
  refine List.map_congr_left fun k _ => ?_
  simp only [Function.comp]
  rw [← rat_n l (p + k), hm]
  congr 1; omega
theorem take_mono {u v : List Int} (m : Nat) (h : ¬ v < u) : ¬ v.take m < u.take m := by
  induction m generalizing u v with
  | zero => simp
  | succ m ih =>
    cases u with
    | nil => simp
    | cons x u =>
      cases v with
      | nil => exact absurd (by simp) h
      | cons y v =>
        simp only [List.take_succ_cons, List.cons_lt_cons_iff, not_or, not_and] at h ⊢
        exact ⟨h.1, fun e => ih (h.2 e)⟩
theorem row_le {l : List Int} {a b : Nat} (h : rotLt l a b = true) : ¬ rotK l b < rotK l a := by
  intro h2
  unfold rotLt rkey at h
  rw [decide_eq_true_eq] at h
  have hl : (rotK l a).length = (rotK l b).length := by rw [rotK_length, rotK_length]
  have key : ∀ {u v s t : List Int}, u.length = v.length → v < u → ¬ u ++ s < v ++ t := by
    intro u
    induction u with
    | nil => intro v s t hl h; cases v with
      | nil => simp at h
      | cons y v => simp at hl
    | cons x u ih =>
      intro v s t hl h
      cases v with
      | nil => simp at hl
      | cons y v =>
        simp only [List.length_cons, Nat.add_right_cancel_iff] at hl
        simp only [List.cons_append, List.cons_lt_cons_iff, not_or, not_and] at h ⊢
        rcases h with h | ⟨rfl, h⟩
        · exact ⟨by omega, fun e => by omega⟩
        · exact ⟨by omega, fun _ => ih hl h⟩
  exact key hl h2 h

theorem prv_perm {l : List Int} : ((List.range l.length).map (prv l)).Perm (List.range l.length) := by
  rcases Nat.eq_zero_or_pos l.length with h0 | hn
  · rw [h0]; exact List.Perm.refl _
  · obtain ⟨m, hm⟩ : ∃ m, l.length = m + 1 := ⟨l.length - 1, by omega⟩
    have e : (List.range l.length).map (prv l) = m :: List.range m := by
      rw [hm, List.range_succ_eq_map, List.map_cons, List.map_map]
      congr 1
      · unfold prv; rw [hm]; simp
      · rw [show List.range m = (List.range m).map id by simp]
        simp only [List.map_map]
        refine List.map_congr_left fun k hk => ?_
        have := List.mem_range.1 hk
        simp only [Function.comp, prv, hm, id]
        rw [show k.succ + (m + 1) - 1 = k + (m + 1) by omega, Nat.add_mod_right, Nat.mod_eq_of_lt (by omega)]
    rw [e, hm, List.range_succ]
    exact List.perm_append_comm (l₁ := [m])
theorem turnF_at {l : List Int} {i p : Nat} (h : (ordN l)[i]? = some p) : (turnF l)[i]? = some (rat l (p + l.length - 1)) := by
  rw [turnF, lastOf, List.getElem?_map, h]; rfl
theorem turnF_ok {l : List Int} (h : listOk l = true) : listOk (turnF l) = true := by
  have h1 := (Bool.and_eq_true_iff.1 h)
  refine Bool.and_eq_true_iff.2 ⟨by rw [turnF_length]; exact h1.1, List.all_eq_true.2 fun x hx => ?_⟩
  rw [turnF, lastOf, List.mem_map] at hx
  obtain ⟨p, hp, rfl⟩ := hx
  have hp' : p < l.length := ordK_mem.1 hp
  have : (p + l.length - 1) % l.length < l.length := Nat.mod_lt _ (by omega)
  refine List.all_eq_true.1 h1.2 _ ?_
  unfold rat
  rw [List.getD_eq_getElem?_getD, List.getElem?_eq_getElem this]
  exact List.getElem_mem _
/-- The places by their symbols: the rows one place earlier come in order. -/
theorem rows_next {l : List Int} (h : listOk l = true) : (nextL (turnF l)).map (fun i => rotK l (prv l ((ordN l).getD i 0))) = (ordN l).map (rotK l) := by
  rcases Nat.eq_zero_or_pos l.length with h0 | hn
  · have e1 : ordN l = [] := List.eq_nil_of_length_eq_zero (by rw [ordN_length, h0])
    have e2 : nextL (turnF l) = [] := List.eq_nil_of_length_eq_zero (by rw [nextL_length (turnF_ok h), turnF_length, h0])
    rw [e1, e2]; rfl
  have hps : ∀ {i : Nat}, i < l.length → (ordN l)[i]? = some ((ordN l).getD i 0) := fun {i} hi => by simp [ordN_length, hi]
  have hL : ∀ {i : Nat}, i < l.length → (turnF l).getD i 0 = rat l ((ordN l).getD i 0 + l.length - 1) := fun {i} hi => by
    rw [List.getD_eq_getElem?_getD, turnF_at (hps hi)]; rfl
  refine List.Perm.eq_of_pairwise (le := fun u v : List Int => ¬ v < u) (fun a b _ _ h1 h2 => list_tri h2 h1) ?_ ?_ ?_
  · rw [List.pairwise_map]
    have hsort : ∀ {i j : Nat}, i < j → j < l.length → ¬ rotK l ((ordN l).getD j 0) < rotK l ((ordN l).getD i 0) := fun {i j} hij hj => by
      have h1 := List.pairwise_iff_getElem.1 (ordK_sor l l.length) i j (by rw [ordK_length]; omega) (by rw [ordK_length]; omega) hij
      have e1 : (ordN l).getD i 0 = (ordK l l.length)[i]'(by rw [ordK_length]; omega) := by simp [ordN, ordK_length, show i < l.length by omega]
      have e2 : (ordN l).getD j 0 = (ordK l l.length)[j]'(by rw [ordK_length]; omega) := by simp [ordN, ordK_length, hj]
      rw [e1, e2]
      exact row_le h1
    have hgrp : ∀ s : Nat, (grp (turnF l) (turnF l).length s).Pairwise fun a b => ¬ rotK l (prv l ((ordN l).getD b 0)) < rotK l (prv l ((ordN l).getD a 0)) := fun s => by
      unfold grp
      rw [List.pairwise_filter]
      refine List.Pairwise.imp_of_mem ?_ (List.pairwise_lt_range (n := (turnF l).length))
      intro a b ha hb hab hsa hsb
      have ha' := List.mem_range.1 ha
      have hb' := List.mem_range.1 hb
      rw [turnF_length] at ha' hb'
      rw [decide_eq_true_eq] at hsa hsb
      rw [hL ha'] at hsa
      rw [hL hb'] at hsb
      rw [rotK_cons hn, rotK_cons hn, hsa, hsb]
      simp only [List.cons_lt_cons_iff, not_or, not_and]
      exact ⟨by omega, fun _ => take_mono _ (hsort hab hb')⟩
    have hall : ∀ m : Nat, (((List.range m).flatMap fun t => grp (turnF l) (turnF l).length t)).Pairwise fun a b => ¬ rotK l (prv l ((ordN l).getD b 0)) < rotK l (prv l ((ordN l).getD a 0)) := by
      intro m
      induction m with
      | zero => simp
      | succ m ih =>
        rw [List.range_succ, List.flatMap_append, List.pairwise_append]
        refine ⟨ih, by simpa using hgrp m, fun a ha b hb => ?_⟩
        obtain ⟨t, ht, ha⟩ := List.mem_flatMap.1 ha
        have hb : b ∈ grp (turnF l) (turnF l).length m := by simpa using hb
        have htm := List.mem_range.1 ht
        unfold grp at ha hb
        rw [List.mem_filter, List.mem_range, turnF_length, decide_eq_true_eq] at ha hb
        rw [hL ha.1] at ha
        rw [hL hb.1] at hb
        rw [rotK_cons hn, rotK_cons hn, ha.2, hb.2]
        simp only [List.cons_lt_cons_iff, not_or, not_and]
        exact ⟨by omega, fun e => by omega⟩
    exact hall 8
  · rw [List.pairwise_map]
    exact (ordK_sor l l.length).imp fun h => row_le h
  · have p1 := (nextL_perm (turnF_ok h)).map fun i => rotK l (prv l ((ordN l).getD i 0))
    rw [turnF_length] at p1
    refine p1.trans ?_
    have e : (List.range l.length).map (fun i => rotK l (prv l ((ordN l).getD i 0))) = (ordN l).map fun p => rotK l (prv l p) := by
      refine List.ext_getElem? fun i => ?_
      rw [List.getElem?_map, List.getElem?_map]
      by_cases hi : i < l.length
      · rw [hps hi]; simp [hi]
      · rw [List.getElem?_eq_none (by simpa using hi), List.getElem?_eq_none (by rw [ordN_length]; omega)]; rfl
    rw [e]
    have p2 : ((ordN l).map fun p => rotK l (prv l p)).Perm ((List.range l.length).map fun p => rotK l (prv l p)) := (ordK_perm l l.length).map _
    have p3 : ((List.range l.length).map fun p => rotK l (prv l p)).Perm ((List.range l.length).map (rotK l)) := by
      have := (prv_perm (l := l)).map (rotK l)
      rwa [List.map_map] at this
    exact p2.trans (p3.trans ((ordK_perm l l.length).map _).symm)
/-- Where the rows stand: the row of 'next' is the rotation that begins one place later. -/
theorem same_next {l : List Int} (h : listOk l = true) {j i p q : Nat} (hi : (nextL (turnF l))[j]? = some i) (hj : (ordN l)[j]? = some p) (hq : (ordN l)[i]? = some q) : rotK l (prv l q) = rotK l p := by
  have := congrArg (fun u => u[j]?) (rows_next h)
  simp only [List.getElem?_map, hi, hj, Option.map_some, Option.some.injEq] at this
  rwa [List.getD_eq_getElem?_getD, hq] at this
end Go.Proofs.Ytamljhjbmeikiaa
/- What is turned can be turned back: plain facts; no program in sight. -/
namespace Go.Proofs.Ytamljhjbmeikiaa
open Go Go.RowKit

theorem placeK_at {ps : List Nat} : ∀ {k i : Nat}, i < k → ps[i]? = some 0 → ps[placeK ps k]? = some 0
  | k + 1, i, hi, h => by
    rw [placeK]
    split
    · assumption
    · rename_i hn
      exact placeK_at (k := k) (by rcases Nat.lt_or_ge i k with h' | h'; exact h'; exact absurd (show ps[k]? = some 0 by rwa [show k = i by omega]) hn) h
theorem turnAt_zero {l : List Int} (hn : 0 < l.length) : (ordN l)[turnAt l]? = some 0 := by
  have h0 : (0 : Nat) ∈ ordN l := ordK_mem.2 hn
  obtain ⟨i, hi, he⟩ := List.mem_iff_getElem.1 h0
  rw [ordN_length] at hi
  exact placeK_at hi (by rw [← he]; simp [ordN_length, hi])
theorem turnAt_lt {l : List Int} (hn : 0 < l.length) : turnAt l < l.length := by
  have := (List.getElem?_eq_some_iff.1 (turnAt_zero hn)).1
  rwa [ordN_length] at this
theorem ord_some {l : List Int} {i : Nat} (hi : i < l.length) : ∃ q, (ordN l)[i]? = some q := ⟨_, List.getElem?_eq_getElem (by rw [ordN_length]; exact hi)⟩
theorem rowS_same {l : List Int} (h : listOk l = true) (hn : 0 < l.length) : ∀ j, ∃ q, (ordN l)[rowS (turnF l) (turnAt l) j]? = some q ∧ sameR l q j
  | 0 => ⟨0, turnAt_zero hn, fun _ => rfl⟩
  | j + 1 => by
    obtain ⟨p, hp, hs⟩ := rowS_same h hn j
    have hr := rowS_lt (turnF_ok h) (by rw [turnF_length]; exact turnAt_lt hn) (a := turnAt l) j
    have hi : (nextL (turnF l))[rowS (turnF l) (turnAt l) j]? = some (rowS (turnF l) (turnAt l) (j + 1)) := by
      rw [rowS]; simp [nextL_length (turnF_ok h), hr]
    have hr2 := nextL_lt (turnF_ok h) hi
    rw [turnF_length] at hr2
    obtain ⟨q, hq⟩ := ord_some hr2
    refine ⟨q, hq, fun k => ?_⟩
    have h1 := sameR_of (same_next h hi hp hq) hn (k + 1)
    rw [prv_rat, hs, show q + l.length - 1 + (k + 1) = q + k + l.length by omega, rat_n] at h1
    rw [h1]; congr 1; omega
theorem rowI_same {l : List Int} (h : listOk l = true) (hn : 0 < l.length) : ∀ j, j ≤ l.length → ∃ q, (ordN l)[rowI (turnF l) (turnAt l) j]? = some q ∧ sameR l q (l.length - j)
  | 0, _ => ⟨0, turnAt_zero hn, fun k => by rw [Nat.sub_zero, ← rat_n l (0 + k)]; congr 1; omega⟩
  | j + 1, hj => by
    obtain ⟨p, hp, hs⟩ := rowI_same h hn j (by omega)
    have hr := rowI_lt (turnF_ok h) (by rw [turnF_length]; exact turnAt_lt hn) (a := turnAt l) j
    have hi := next_lf (turnF_ok h) hr
    have hr2 := rowI_lt (turnF_ok h) (by rw [turnF_length]; exact turnAt_lt hn) (a := turnAt l) (j + 1)
    rw [turnF_length] at hr2
    obtain ⟨q, hq⟩ := ord_some hr2
    refine ⟨q, hq, fun k => ?_⟩
    have h1 := sameR_of (same_next h hi hq hp) hn k
    rw [prv_rat, show p + l.length - 1 + k = p + (l.length - 1 + k) by omega, hs] at h1
    rw [← h1, ← rat_n l (l.length - (j + 1) + k)]
    congr 1; omega
theorem turnF_getD {l : List Int} {i q : Nat} (h : (ordN l)[i]? = some q) : (turnF l).getD i 0 = rat l (q + l.length - 1) := by
  rw [List.getD_eq_getElem?_getD, turnF_at h]; rfl
theorem rat_at' {l : List Int} {k : Nat} (hk : k < l.length) : l[k]? = some (rat l k) := by
  unfold rat
  rw [Nat.mod_eq_of_lt hk]
  exact getD_at hk
theorem turn_backS {l : List Int} (h : listOk l = true) : outS (turnF l) (turnAt l) = l := by
  refine List.ext_getElem? fun k => ?_
  unfold outS
  rw [List.getElem?_map, turnF_length]
  by_cases hk : k < l.length
  · obtain ⟨q, hq, hs⟩ := rowS_same h (by omega) (k + 1)
    rw [List.getElem?_range hk, rat_at' hk, Option.map_some, turnF_getD hq, show q + l.length - 1 = q + (l.length - 1) by omega, hs, show k + 1 + (l.length - 1) = k + l.length by omega, rat_n]
  · rw [List.getElem?_eq_none (by simpa using hk), List.getElem?_eq_none (by omega)]; rfl
theorem turn_backI {l : List Int} (h : listOk l = true) : outI (turnF l) (turnAt l) = l := by
  refine List.ext_getElem? fun k => ?_
  unfold outI
  rw [List.getElem?_map, turnF_length]
  by_cases hk : k < l.length
  · obtain ⟨q, hq, hs⟩ := rowI_same h (by omega) (l.length - 1 - k) (by omega)
    rw [List.getElem?_range hk, rat_at' hk, Option.map_some, turnF_getD hq, show q + l.length - 1 = q + (l.length - 1) by omega, hs, show l.length - (l.length - 1 - k) + (l.length - 1) = k + l.length by omega, rat_n]
  · rw [List.getElem?_eq_none (by simpa using hk), List.getElem?_eq_none (by omega)]; rfl

def atOk (L : List Int) (a : Int) : Bool := inB 0 (max ((L.length : Int) - 1) 0) a
def tbI (L : List Int) (a : Int) : Option (List Int) := if listOk L = true ∧ atOk L a = true ∧ turnOf (outI L a.toNat) = (L, a, true) then some (outI L a.toNat) else none
def tbS (L : List Int) (a : Int) : Option (List Int) := if listOk L = true ∧ atOk L a = true ∧ turnOf (outS L a.toNat) = (L, a, true) then some (outS L a.toNat) else none
theorem turnOf_is {l L : List Int} {a : Int} (h : turnOf l = (L, a, true)) : listOk l = true ∧ L = turnF l ∧ a = (turnAt l : Int) := by
  unfold turnOf at h
  split at h
  · rename_i hl
    injection h with h1 h2
    injection h2 with h2 _
    exact ⟨hl, h1.symm, h2.symm⟩
  · simp at h
theorem backS_of {l L : List Int} {a : Int} (h : turnOf l = (L, a, true)) : outS L a.toNat = l := by
  obtain ⟨hl, rfl, rfl⟩ := turnOf_is h
  exact turn_backS hl
theorem backI_of {l L : List Int} {a : Int} (h : turnOf l = (L, a, true)) : outI L a.toNat = l := by
  obtain ⟨hl, rfl, rfl⟩ := turnOf_is h
  exact turn_backI hl
theorem tb_same (L : List Int) (a : Int) : tbS L a = tbI L a := by
  unfold tbI tbS
  by_cases h1 : listOk L = true ∧ atOk L a = true
  · by_cases h2 : turnOf (outI L a.toNat) = (L, a, true)
    · have e := backS_of h2
      rw [e]
    · have h4 : ¬ turnOf (outS L a.toNat) = (L, a, true) := fun h3 => by
        have e := backI_of h3
        rw [e] at h2
        exact h2 h3
      rw [if_neg (fun h => h4 h.2.2), if_neg (fun h => h2 h.2.2)]
  · rw [if_neg (fun h => h1 ⟨h.1, h.2.1⟩), if_neg (fun h => h1 ⟨h.1, h.2.1⟩)]
theorem turn_there {l : List Int} (h : listOk l = true) : turnOf l = (turnF l, (turnAt l : Int), true) := by unfold turnOf; rw [if_pos h]
theorem atOk_turn {l : List Int} : atOk (turnF l) (turnAt l : Int) = true := by
  unfold atOk
  rw [turnF_length, inB_true]
  have := placeK_lt (ordN l) l.length
  rcases Nat.eq_zero_or_pos l.length with h0 | hn
  · unfold turnAt; omega
  · have := turnAt_lt hn; omega
/-- What was turned is turned back. -/
theorem tb_turn {l : List Int} (h : listOk l = true) : tbI (turnF l) (turnAt l : Int) = some l := by
  have e := turn_backI h
  unfold tbI
  rw [Int.toNat_natCast, e, if_pos ⟨turnF_ok h, atOk_turn, turn_there h⟩]
theorem outOk_of {L : List Int} (h : listOk L = true) {f : Nat → Nat} (hf : ∀ k, k < L.length → f k < L.length) : listOk ((List.range L.length).map fun k => L.getD (f k) 0) = true := by
  refine Bool.and_eq_true_iff.2 ⟨by simpa using (Bool.and_eq_true_iff.1 h).1, List.all_eq_true.2 fun x hx => ?_⟩
  obtain ⟨k, hk, rfl⟩ := List.mem_map.1 hx
  exact inB_true.2 (listOk_at h (getD_at (hf k (List.mem_range.1 hk))))
theorem tb_len {L : List Int} {a : Int} {n : Nat} (h : L.length ≤ n) : ((tbI L a).getD []).length ≤ n := by
  unfold tbI
  split
  · simpa [outI] using h
  · simp
end Go.Proofs.Ytamljhjbmeikiaa
/- Turned lists: further plain facts; no program in sight. -/
namespace Go.Proofs.Ytamljhjbmeikiaa
open Go Go.RowKit

theorem turn_true {xs : List Int} (h : (turnOf xs).2.2 = true) : listOk xs = true := by
  unfold turnOf at h
  split at h
  · assumption
  · cases h
theorem rots_there {xs : List Int} (h : listOk xs = true) : rotsOf xs = nints (ordN xs) := by unfold rotsOf; rw [if_pos h]
theorem map_rat (xs : List Int) : (List.range xs.length).map (rat xs) = xs := by
  refine List.ext_getElem? fun k => ?_
  rw [List.getElem?_map]
  by_cases hk : k < xs.length
  · rw [List.getElem?_range hk, rat_at' hk]; rfl
  · rw [List.getElem?_eq_none (by simpa using hk), List.getElem?_eq_none (by omega)]; rfl
theorem turnF_perm (xs : List Int) : (turnF xs).Perm xs := by
  have p1 : (turnF xs).Perm ((List.range xs.length).map fun p => rat xs (p + xs.length - 1)) := (ordK_perm xs xs.length).map _
  have p2 : ((List.range xs.length).map fun p => rat xs (p + xs.length - 1)).Perm xs := by
    have h := (prv_perm (l := xs)).map (rat xs)
    rw [List.map_map, map_rat] at h
    have e : ((List.range xs.length).map fun p => rat xs (p + xs.length - 1)) = (List.range xs.length).map (rat xs ∘ prv xs) :=
      List.map_congr_left fun p _ => by simp only [Function.comp, prv]; rw [rat_mod]
    rw [e]; exact h
  exact p1.trans p2
theorem grp_count (L : List Int) (s : Nat) : (grp L L.length s).length = (L.filter fun x => decide (x = (s : Int))).length := by
  have e : L = (List.range L.length).map fun j => L.getD j 0 := by
    refine List.ext_getElem? fun k => ?_
    rw [List.getElem?_map]
    by_cases hk : k < L.length
    · rw [List.getElem?_range hk, getD_at hk]; rfl
    · rw [List.getElem?_eq_none (by omega), List.getElem?_eq_none (by simpa using hk)]; rfl
  have h : (((List.range L.length).map fun j => L.getD j 0).filter fun x => decide (x = (s : Int))).length = (grp L L.length s).length := by
    rw [List.filter_map, List.length_map]; rfl
  rw [← e] at h
  exact h.symm
theorem grp_turn (xs : List Int) (s : Nat) : (grp (turnF xs) (turnF xs).length s).length = (grp xs xs.length s).length := by
  rw [grp_count, grp_count]
  exact ((turnF_perm xs).filter _).length_eq
/-- A run. -/
theorem rat_run {m : Nat} {v : Int} (hm : 0 < m) (i : Nat) : rat (List.replicate m v) i = v := by
  unfold rat
  have := Nat.mod_lt i hm
  simp [this]
theorem rotLt_run {m : Nat} {v : Int} (hm : 0 < m) (a b : Nat) : rotLt (List.replicate m v) a b = decide (a < b) :=
  rotLt_same (List.map_congr_left fun j _ => by rw [rat_run hm, rat_run hm])
theorem ordK_run {m : Nat} {v : Int} (hm : 0 < m) : ∀ k, ordK (List.replicate m v) k = List.range k
  | 0 => rfl
  | k + 1 => by
    rw [ordK, ordK_run hm k, insR_at _ _ _ k (fun e he => by
      rw [rotLt_run hm, decide_eq_true_eq]
      have := List.mem_of_mem_take he
      exact List.mem_range.1 this) (fun e he => by simp at he)]
    simp [List.range_succ]
theorem run_ok {m : Nat} {v : Int} (hm : m ≤ 40) (hv : 0 ≤ v) (hv' : v ≤ 7) : listOk (List.replicate m v) = true := by
  refine Bool.and_eq_true_iff.2 ⟨by simpa using hm, List.all_eq_true.2 fun x hx => ?_⟩
  rw [(List.mem_replicate.1 hx).2]
  exact inB_true.2 ⟨hv, hv'⟩
theorem placeK_range : ∀ k, placeK (List.range k) k = 0 := by
  have h : ∀ n k, k ≤ n → placeK (List.range n) k = 0 := by
    intro n k
    induction k with
    | zero => intro _; rfl
    | succ k ih =>
      intro hk
      rw [placeK, List.getElem?_range (by omega)]
      by_cases e : k = 0
      · simp [e]
      · rw [if_neg (by simpa using e)]; exact ih (by omega)
  exact fun k => h k k (Nat.le_refl _)
theorem turn_run {m : Nat} {v : Int} (hm : m ≤ 40) (hv : 0 ≤ v) (hv' : v ≤ 7) : turnOf (List.replicate m v) = (List.replicate m v, 0, true) := by
  rw [turn_there (run_ok hm hv hv')]
  rcases Nat.eq_zero_or_pos m with h0 | h0
  · subst h0; rfl
  · have e : ordN (List.replicate m v) = List.range m := by
      unfold ordN; rw [ordK_run h0, List.length_replicate]
    have e1 : turnF (List.replicate m v) = List.replicate m v := by
      unfold turnF lastOf
      rw [e]
      refine List.eq_replicate_iff.2 ⟨by simp, fun x hx => ?_⟩
      obtain ⟨p, _, rfl⟩ := List.mem_map.1 hx
      exact rat_run h0 _
    have e2 : turnAt (List.replicate m v) = 0 := by
      unfold turnAt; rw [e, List.length_replicate, placeK_range]
    rw [e1, e2]; rfl
theorem tb_is {L l : List Int} {a : Int} (h : tbI L a = some l) : turnOf l = (L, a, true) := by
  unfold tbI at h
  split at h
  · rename_i h1
    injection h with h
    rw [← h]; exact h1.2.2
  · cases h
/-! A list that is rotated has the same rotations. -/
def rotd (xs : List Int) (k : Nat) : List Int := xs.drop k ++ xs.take k
theorem rotd_length {xs : List Int} {k : Nat} (hk : k ≤ xs.length) : (rotd xs k).length = xs.length := by simp [rotd]; omega
theorem rotd_rat {xs : List Int} {k : Nat} (hk : k ≤ xs.length) (i : Nat) : rat (rotd xs k) i = rat xs (k + i) := by
  rcases Nat.eq_zero_or_pos xs.length with h0 | hn
  · have : xs = [] := List.eq_nil_of_length_eq_zero h0
    subst this; simp [rotd, rat]
  · unfold rat
    rw [rotd_length hk, List.getD_eq_getElem?_getD, List.getD_eq_getElem?_getD]
    congr 1
    have hi := Nat.mod_lt i hn
    have hj := Nat.mod_lt (k + i) hn
    have e : (k + i) % xs.length = (k + i % xs.length) % xs.length := by rw [Nat.add_mod_mod]
    rw [e]
    generalize i % xs.length = r at *
    unfold rotd
    by_cases h : r < xs.length - k
    · rw [List.getElem?_append_left (by simpa using h), List.getElem?_drop, Nat.mod_eq_of_lt (by omega)]
    · rw [List.getElem?_append_right (by simp; omega), List.length_drop, List.getElem?_take, if_pos (by omega)]
      congr 1
      rw [Nat.mod_eq_sub_mod (by omega), Nat.mod_eq_of_lt (by omega)]; omega
theorem rotd_rotK {xs : List Int} {k : Nat} (hk : k ≤ xs.length) (a : Nat) : rotK (rotd xs k) a = rotK xs (k + a) := by
  unfold rotK
  rw [rotd_length hk]
  exact List.map_congr_left fun j _ => by rw [rotd_rat hk, Nat.add_assoc]
theorem rotK_mod (xs : List Int) (a : Nat) : rotK xs (a % xs.length) = rotK xs a :=
  List.map_congr_left fun j _ => by unfold rat; rw [Nat.mod_add_mod]
theorem shift_perm (n k : Nat) (hk : k ≤ n) : ((List.range n).map fun p => (k + p) % n).Perm (List.range n) := by
  have e1 : n = (n - k) + k := by omega
  have e : ((List.range n).map fun p => (k + p) % n) = (List.range (n - k)).map (k + ·) ++ List.range k := by
    conv => lhs; arg 2; rw [e1]
    rw [List.range_add, List.map_append, List.map_map]
    congr 1
    · exact List.map_congr_left fun p hp => Nat.mod_eq_of_lt (by have := List.mem_range.1 hp; omega)
    · have : List.range k = (List.range k).map id := by simp
      conv => rhs; rw [this]
      refine List.map_congr_left fun p hp => ?_
      have := List.mem_range.1 hp
      simp only [Function.comp, id]
      rw [show k + (n - k + p) = p + n by omega, Nat.add_mod_right, Nat.mod_eq_of_lt (by omega)]
  rw [e]
  have e2 : List.range n = List.range k ++ (List.range (n - k)).map (k + ·) := by
    conv => lhs; rw [show n = k + (n - k) by omega]
    exact List.range_add
  rw [e2]
  exact List.perm_append_comm
/-- The ordered rows of a list. -/
theorem rows_rotd {xs : List Int} {k : Nat} (hk : k ≤ xs.length) : (ordN (rotd xs k)).map (rotK (rotd xs k)) = (ordN xs).map (rotK xs) := by
  refine List.Perm.eq_of_pairwise (le := fun u v : List Int => ¬ v < u) (fun a b _ _ h1 h2 => list_tri h2 h1) ?_ ?_ ?_
  · rw [List.pairwise_map]; exact (ordK_sor _ _).imp fun h => row_le h
  · rw [List.pairwise_map]; exact (ordK_sor _ _).imp fun h => row_le h
  · have p1 : ((ordN (rotd xs k)).map (rotK (rotd xs k))).Perm ((List.range xs.length).map fun p => rotK xs ((k + p) % xs.length)) := by
      have h := (ordK_perm (rotd xs k) (rotd xs k).length).map (rotK (rotd xs k))
      rw [rotd_length hk] at h
      unfold ordN
      rw [rotd_length hk]
      refine h.trans (List.Perm.of_eq (List.map_congr_left fun p _ => ?_))
      rw [rotd_rotK hk, rotK_mod]
    have p2 := (shift_perm xs.length k hk).map (rotK xs)
    rw [List.map_map] at p2
    exact p1.trans (p2.trans ((ordK_perm xs xs.length).map _).symm)
theorem last_row {xs : List Int} (hn : 0 < xs.length) (p : Nat) : (rotK xs p)[xs.length - 1]? = some (rat xs (p + xs.length - 1)) := by
  unfold rotK
  rw [List.getElem?_map, List.getElem?_range (by omega), Option.map_some, show p + (xs.length - 1) = p + xs.length - 1 by omega]
theorem turn_rotd {xs : List Int} {k : Nat} (hk : k ≤ xs.length) : turnF (rotd xs k) = turnF xs := by
  rcases Nat.eq_zero_or_pos xs.length with h0 | hn
  · have : xs = [] := List.eq_nil_of_length_eq_zero h0
    subst this; simp [rotd]
  · have h := congrArg (List.map fun r : List Int => r.getD (xs.length - 1) 0) (rows_rotd hk)
    rw [List.map_map, List.map_map] at h
    have e1 : (ordN (rotd xs k)).map ((fun r : List Int => r.getD (xs.length - 1) 0) ∘ rotK (rotd xs k)) = turnF (rotd xs k) := by
      unfold turnF lastOf
      refine List.map_congr_left fun p _ => ?_
      simp only [Function.comp]
      rw [List.getD_eq_getElem?_getD, ← rotd_length hk, last_row (by rw [rotd_length hk]; exact hn)]; rfl
    have e2 : (ordN xs).map ((fun r : List Int => r.getD (xs.length - 1) 0) ∘ rotK xs) = turnF xs := by
      unfold turnF lastOf
      refine List.map_congr_left fun p _ => ?_
      simp only [Function.comp]
      rw [List.getD_eq_getElem?_getD, last_row hn]; rfl
    rw [e1, e2] at h
    exact h
theorem listOk_iff' {xs : List Int} : listOk xs = true ↔ xs.length ≤ 40 ∧ ∀ x ∈ xs, 0 ≤ x ∧ x ≤ 7 := by
  simp [listOk, inB_true]
theorem rotd_ok {xs : List Int} (k : Nat) (h : listOk xs = true) : listOk (rotd xs k) = true := by
  rw [listOk_iff'] at *
  refine ⟨by simp [rotd]; omega, fun x hx => h.2 x ?_⟩
  rcases List.mem_append.1 hx with hx | hx
  · exact List.mem_of_mem_drop hx
  · exact List.mem_of_mem_take hx
/-- The sum of the places. -/
theorem sum_perm {xs ys : List Int} (h : xs.Perm ys) : xs.sum = ys.sum := by
  induction h with
  | nil => rfl
  | cons x _ ih => simp [ih]
  | swap x y l => simp; omega
  | trans _ _ h1 h2 => exact h1.trans h2
theorem sum_range (n : Nat) : (nints (List.range n)).sum * 2 = (n : Int) * ((n : Int) - 1) := by
  induction n with
  | zero => rfl
  | succ n ih =>
    rw [List.range_succ]
    simp only [nints, List.map_append, List.map_cons, List.map_nil, List.sum_append, List.sum_cons, List.sum_nil] at ih ⊢
    rw [Int.add_mul, ih]
    simp only [Int.add_zero]
    rw [show ((n + 1 : Nat) : Int) = (n : Int) + 1 by omega, show (n : Int) + 1 - 1 = n by omega, Int.add_mul, Int.mul_sub]
    omega
theorem sum_ord (xs : List Int) : (nints (ordN xs)).sum * 2 = (xs.length : Int) * ((xs.length : Int) - 1) := by
  rw [← sum_range]
  congr 1
  exact sum_perm ((ordK_perm xs xs.length).map _)
end Go.Proofs.Ytamljhjbmeikiaa
/- Tags: plain facts; no program in sight. -/
namespace Go.Proofs.Ytamljhjbmeikiaa
open Go Go.RowKit

def byOk (bs : List Int) : Bool := bs.all (inB 0 255)
def tagStep (A t n : Int) : Int := (t * A + n % 251 + n / 251) % 251
def tagF (A B : Int) (bs : List Int) : Int := (bs.foldl (tagStep A) 1 + B) % 251
def tagOk (A B : Int) (bs : List Int) : Bool := inB 2 250 A && (inB 1 250 B && (byOk bs && decide (bs.length ≤ 400)))
def tagOf (A B : Int) (bs : List Int) : Int := if tagOk A B bs then tagF A B bs else -1
def sealPut (A B : Int) (bs : List Int) : Option (List Int) := if tagOk A B bs then some (bs ++ [tagF A B bs]) else none
def sealOpen (A B : Int) (bs : List Int) : Option (List Int) :=
  if bs = [] then none else if tagOk A B bs.dropLast && (bs.getLast? == some (tagF A B bs.dropLast)) then some bs.dropLast else none

theorem byOk_at {bs : List Int} (h : byOk bs = true) {k : Nat} {x : Int} (hx : bs[k]? = some x) : 0 ≤ x ∧ x ≤ 255 := by
  have := List.all_eq_true.1 h x (List.mem_of_getElem? hx)
  exact inB_true.1 this
theorem tagStep_bd (A t n : Int) : 0 ≤ tagStep A t n ∧ tagStep A t n ≤ 250 := by unfold tagStep; omega
theorem tagFold_bd (A : Int) (bs : List Int) : ∀ t : Int, 0 ≤ t → t ≤ 250 → 0 ≤ bs.foldl (tagStep A) t ∧ bs.foldl (tagStep A) t ≤ 250 := by
  induction bs with
  | nil => intro t h0 h1; exact ⟨h0, h1⟩
  | cons b bs ih => intro t _ _; exact ih _ (tagStep_bd A t b).1 (tagStep_bd A t b).2
theorem tagFold_take (A : Int) {bs : List Int} {k : Nat} {x : Int} (h : bs[k]? = some x) : (bs.take (k + 1)).foldl (tagStep A) 1 = tagStep A ((bs.take k).foldl (tagStep A) 1) x := by
  rw [take_snoc' h, List.foldl_append]; rfl
theorem tagF_bd (A B : Int) (bs : List Int) : 0 ≤ tagF A B bs ∧ tagF A B bs ≤ 250 := by unfold tagF; omega
theorem tagOf_neg {A B : Int} {bs : List Int} : tagOf A B bs < 0 ↔ tagOk A B bs = false := by
  unfold tagOf
  have := tagF_bd A B bs
  split
  · rename_i h
    exact ⟨fun h' => by omega, fun h' => by rw [h] at h'; cases h'⟩
  · rename_i h
    exact ⟨fun _ => by cases hh : tagOk A B bs; rfl; exact absurd hh h, fun _ => by omega⟩
theorem tagOk_key {A B : Int} {bs : List Int} (h : tagOk A B bs = true) : 2 ≤ A ∧ A ≤ 250 ∧ 1 ≤ B ∧ B ≤ 250 ∧ byOk bs = true ∧ bs.length ≤ 400 := by
  simp only [tagOk, Bool.and_eq_true, inB_true, decide_eq_true_eq] at h
  exact ⟨h.1.1, h.1.2, h.2.1.1, h.2.1.2, h.2.2.1, h.2.2.2⟩
theorem tagOk_mk {A B : Int} {bs : List Int} (h0 : 2 ≤ A) (h1 : A ≤ 250) (h2 : 1 ≤ B) (h3 : B ≤ 250) (h4 : byOk bs = true) (h5 : bs.length ≤ 400) : tagOk A B bs = true := by
  simp only [tagOk, Bool.and_eq_true, inB_true, decide_eq_true_eq]
  exact ⟨⟨h0, h1⟩, ⟨h2, h3⟩, h4, h5⟩

/-- Every number from 1 to 250 has a partner with which it is 1 modulo 251. -/
theorem inv_tab : ∀ a, a < 251 → 1 ≤ a → ∃ b, b < 251 ∧ a * b % 251 = 1 := by decide +kernel
theorem step_inj {A t t' c : Int} (h1 : 1 ≤ A) (h2 : A ≤ 250) (ht : 0 ≤ t) (ht' : t ≤ 250) (hs : 0 ≤ t') (hs' : t' ≤ 250) (h : (t * A + c) % 251 = (t' * A + c) % 251) : t = t' := by
  obtain ⟨b, hb, hab⟩ := inv_tab A.toNat (by omega) (by omega)
  have hA : (A.toNat : Int) = A := by omega
  have hab' : A * (b : Int) % 251 = 1 := by rw [← hA, ← Int.natCast_mul]; omega
  have hd : (251 : Int) ∣ (t - t') * A := by
    have := Int.emod_emod_of_dvd (t * A + c) (Int.dvd_refl 251)
    have h' : (t * A + c - (t' * A + c)) % 251 = 0 := Int.emod_eq_emod_iff_emod_sub_eq_zero.1 h
    have he : t * A + c - (t' * A + c) = (t - t') * A := by rw [Int.sub_mul]; omega
    rw [he] at h'
    exact Int.dvd_of_emod_eq_zero h'
  have hd2 : (251 : Int) ∣ (t - t') * (A * b) := by
    rw [← Int.mul_assoc]; exact Int.dvd_trans hd (Int.dvd_mul_right _ _)
  obtain ⟨q, hq⟩ := hd2
  have hA1 : A * (b : Int) = 251 * (A * (b : Int) / 251) + 1 := by omega
  rw [hA1] at hq
  have hq2 : (t - t') * (251 * (A * (b : Int) / 251) + 1) = 251 * ((t - t') * (A * (b : Int) / 251)) + (t - t') := by
    rw [Int.mul_add, Int.mul_one, ← Int.mul_assoc, Int.mul_comm (t - t') 251, Int.mul_assoc]
  rw [hq2] at hq
  omega
theorem fold_inj {A : Int} (h1 : 1 ≤ A) (h2 : A ≤ 250) (bs : List Int) : ∀ t t' : Int, 0 ≤ t → t ≤ 250 → 0 ≤ t' → t' ≤ 250 → bs.foldl (tagStep A) t = bs.foldl (tagStep A) t' → t = t' := by
  induction bs with
  | nil => intro t t' _ _ _ _ h; exact h
  | cons b bs ih =>
    intro t t' a0 a1 b0 b1 h
    have := ih _ _ (tagStep_bd A t b).1 (tagStep_bd A t b).2 (tagStep_bd A t' b).1 (tagStep_bd A t' b).2 h
    refine step_inj (c := b % 251 + b / 251) h1 h2 a0 a1 b0 b1 ?_
    unfold tagStep at this
    rw [← Int.add_assoc, ← Int.add_assoc]
    exact this
/-- What a changed byte becomes. -/
def nextB (x : Int) : Int := if x = 255 then 254 else x + 1
theorem nextB_bd {x : Int} (h0 : 0 ≤ x) (h1 : x ≤ 255) : 0 ≤ nextB x ∧ nextB x ≤ 255 := by unfold nextB; split <;> omega
theorem byte_ne {A t x : Int} (_ : 0 ≤ x) (_ : x ≤ 255) : tagStep A t x ≠ tagStep A t (nextB x) := by
  unfold tagStep nextB
  generalize t * A = u
  split <;> omega
theorem byOk_set {bs : List Int} (h : byOk bs = true) (k : Nat) {y : Int} (hy : 0 ≤ y ∧ y ≤ 255) : byOk (bs.set k y) = true := by
  unfold byOk at h ⊢
  rw [List.all_eq_true] at h ⊢
  intro x hx
  rcases List.mem_or_eq_of_mem_set hx with hx | rfl
  · exact h x hx
  · exact inB_true.2 hy
/-- A changed byte changes the tag. -/
theorem tag_change {A B : Int} {bs : List Int} {k : Nat} {x : Int} (h : tagOk A B bs = true) (hx : bs[k]? = some x) : tagOf A B (bs.set k (nextB x)) ≠ tagOf A B bs := by
  obtain ⟨a0, a1, b0, b1, hy, hl⟩ := tagOk_key h
  have hxb := byOk_at hy hx
  have h' : tagOk A B (bs.set k (nextB x)) = true := tagOk_mk a0 a1 b0 b1 (byOk_set hy k (nextB_bd hxb.1 hxb.2)) (by rw [List.length_set]; exact hl)
  unfold tagOf
  rw [if_pos h, if_pos h']
  have hk : k < bs.length := (List.getElem?_eq_some_iff.1 hx).1
  have hx' : bs[k] = x := (List.getElem?_eq_some_iff.1 hx).2
  have e1 : bs = bs.take k ++ (x :: bs.drop (k + 1)) := by
    rw [← hx', ← List.drop_eq_getElem_cons hk, List.take_append_drop]
  have e2 : bs.set k (nextB x) = bs.take k ++ (nextB x :: bs.drop (k + 1)) := by
    rw [List.set_eq_take_append_cons_drop, if_pos hk]
  intro he
  unfold tagF at he
  rw [e2] at he
  conv at he => rhs; rw [e1]
  rw [List.foldl_append, List.foldl_append, List.foldl_cons, List.foldl_cons] at he
  generalize hu : (bs.take k).foldl (tagStep A) 1 = u at he
  have n1 := tagStep_bd A u (nextB x)
  have n2 := tagStep_bd A u x
  have f1 := tagFold_bd A (bs.drop (k + 1)) _ n1.1 n1.2
  have f2 := tagFold_bd A (bs.drop (k + 1)) _ n2.1 n2.2
  have hf : (bs.drop (k + 1)).foldl (tagStep A) (tagStep A u (nextB x)) = (bs.drop (k + 1)).foldl (tagStep A) (tagStep A u x) := by omega
  exact byte_ne hxb.1 hxb.2 (fold_inj (by omega) a1 _ _ _ n1.1 n1.2 n2.1 n2.2 hf).symm
theorem tag_key {A B : Int} {bs : List Int} (h : tagOk A B bs = true) (hB : B < 250) : tagOf A (B + 1) bs = (tagOf A B bs + 1) % 251 := by
  obtain ⟨a0, a1, b0, b1, hy, hl⟩ := tagOk_key h
  have h' : tagOk A (B + 1) bs = true := tagOk_mk a0 a1 (by omega) (by omega) hy hl
  unfold tagOf
  rw [if_pos h, if_pos h']
  unfold tagF
  omega
theorem tag_nil {A B : Int} {bs : List Int} (h : tagOk A B bs = true) : tagOf A B [] = (1 + B) % 251 := by
  obtain ⟨a0, a1, b0, b1, _, _⟩ := tagOk_key h
  unfold tagOf
  rw [if_pos (tagOk_mk a0 a1 b0 b1 rfl (by simp))]; rfl
theorem tag_zero {A B : Int} {bs : List Int} (h : tagOk A B bs = true) : tagOf A B [0] = (A + B) % 251 := by
  obtain ⟨a0, a1, b0, b1, _, _⟩ := tagOk_key h
  unfold tagOf
  rw [if_pos (tagOk_mk a0 a1 b0 b1 rfl (by simp))]
  simp [tagF, tagStep]
theorem seal_open {A B : Int} {bs xs : List Int} (h : sealPut A B bs = some xs) : sealOpen A B xs = some bs := by
  unfold sealPut at h
  split at h
  · rename_i h1
    injection h with h
    subst h
    simp [sealOpen, h1]
  · cases h
theorem open_seal {A B : Int} {bs xs : List Int} (h : sealOpen A B bs = some xs) : sealPut A B xs = some bs ∧ bs ≠ [] := by
  unfold sealOpen at h
  split at h
  · cases h
  · rename_i hne
    split at h
    · rename_i h1
      injection h with h
      subst h
      simp only [Bool.and_eq_true, beq_iff_eq] at h1
      refine ⟨?_, hne⟩
      unfold sealPut
      rw [if_pos h1.1, ← Option.some.inj ((List.getLast?_eq_some_getLast hne).symm.trans h1.2)]
      rw [List.dropLast_concat_getLast]
    · cases h
/-- A changed byte of what was opened is noticed. -/
theorem damage {A B : Int} {bs xs : List Int} {k : Nat} {x : Int} (h : sealOpen A B bs = some xs) (hx : bs[k]? = some x) : sealOpen A B (bs.set k (nextB x)) = none := by
  obtain ⟨hp, hne⟩ := open_seal h
  unfold sealPut at hp
  split at hp
  · rename_i hok
    injection hp with hp
    subst hp
    obtain ⟨a0, a1, b0, b1, hy, hl⟩ := tagOk_key hok
    have ht := tagF_bd A B xs
    unfold sealOpen
    split
    · rfl
    · split
      · rename_i h2
        exfalso
        simp only [Bool.and_eq_true, beq_iff_eq] at h2
        rcases Nat.lt_or_ge k xs.length with hk | hk
        · rw [List.getElem?_append_left hk] at hx
          rw [List.set_append_left _ _ hk, List.dropLast_concat, List.getLast?_concat] at h2
          have h3 := tag_change hok hx
          unfold tagOf at h3
          rw [if_pos h2.1, if_pos hok] at h3
          exact h3 (Option.some.inj h2.2).symm
        · have hk2 : k = xs.length := by
            have := (List.getElem?_eq_some_iff.1 hx).1
            simp at this; omega
          subst hk2
          rw [List.getElem?_append_right (Nat.le_refl _), Nat.sub_self] at hx
          rw [List.set_append_right _ _ (Nat.le_refl _), Nat.sub_self] at h2
          simp at hx
          subst hx
          simp only [List.set_cons_zero, List.dropLast_concat, List.getLast?_concat] at h2
          have h4 := Option.some.inj h2.2
          unfold nextB at h4
          split at h4 <;> omega
      · rfl
  · cases hp
end Go.Proofs.Ytamljhjbmeikiaa
/- Bits and numbers: plain facts; no program in sight. -/
namespace Go.Proofs.Ytamljhjbmeikiaa
open Go Go.RowKit

def bitOk (xs : List Int) : Bool := decide (xs.length ≤ 600) && xs.all (inB 0 1)
/-- The low w bits of a number, the highest first. -/
def bitsF (n : Nat) : Nat → List Int
  | 0 => []
  | w + 1 => bitsF (n / 2) w ++ [((n % 2 : Nat) : Int)]
theorem bitsF_length : ∀ w n, (bitsF n w).length = w
  | 0, _ => rfl
  | w + 1, n => by rw [bitsF, List.length_append, bitsF_length w]; rfl
theorem bitsF_head : ∀ w n, bitsF n (w + 1) = ((n / 2 ^ w % 2 : Nat) : Int) :: bitsF n w
  | 0, n => by simp [bitsF]
  | w + 1, n => by
    rw [bitsF, bitsF_head w (n / 2), List.cons_append, Nat.div_div_eq_div_mul, Nat.pow_succ, Nat.mul_comm 2]
    rfl
theorem bitsF_bit : ∀ w n, ∀ x ∈ bitsF n w, 0 ≤ x ∧ x ≤ 1
  | 0, _, x, h => by simp [bitsF] at h
  | w + 1, n, x, h => by
    rw [bitsF] at h
    rcases List.mem_append.1 h with h | h
    · exact bitsF_bit w _ x h
    · simp at h; omega
def numF (bs : List Int) : Int := bs.foldl (fun n b => 2 * n + b) 0
theorem numF_snoc (bs : List Int) (b : Int) : numF (bs ++ [b]) = 2 * numF bs + b := by simp [numF]
theorem numF_nil : numF [] = 0 := rfl
theorem numF_bitsF : ∀ w n, numF (bitsF n w) = ((n % 2 ^ w : Nat) : Int)
  | 0, n => by simp [bitsF, numF, Nat.mod_one]
  | w + 1, n => by
    rw [bitsF, numF_snoc, numF_bitsF w]
    have h : n % 2 ^ (w + 1) = 2 * (n / 2 % 2 ^ w) + n % 2 := by
      rw [Nat.pow_succ, Nat.mul_comm (2 ^ w) 2, Nat.mod_mul]
      omega
    omega
theorem list_snoc_b {P : List Int → Prop} (h0 : P []) (h1 : ∀ l x, P l → P (l ++ [x])) (l : List Int) : P l := by
  have h : ∀ l : List Int, P l.reverse := by
    intro l
    induction l with
    | nil => simpa using h0
    | cons x l ih => rw [List.reverse_cons]; exact h1 _ _ ih
  have := h l.reverse
  rwa [List.reverse_reverse] at this
theorem numF_bd : ∀ bs : List Int, (∀ x ∈ bs, 0 ≤ x ∧ x ≤ 1) → 0 ≤ numF bs ∧ numF bs < 2 ^ bs.length := by
  refine list_snoc_b (P := fun bs => (∀ x ∈ bs, 0 ≤ x ∧ x ≤ 1) → 0 ≤ numF bs ∧ numF bs < 2 ^ bs.length) (fun _ => by decide) fun l x ih h => ?_
  have h1 := ih fun y hy => h y (List.mem_append.2 (.inl hy))
  have h2 := h x (by simp)
  rw [numF_snoc, List.length_append]
  have : (2 : Int) ^ (l.length + [x].length) = 2 * 2 ^ l.length := by
    show (2 : Int) ^ (l.length + 1) = _
    rw [Int.pow_succ]; omega
  omega
theorem pow_bd {w : Nat} (h : w ≤ 16) : 1 ≤ 2 ^ w ∧ 2 ^ w ≤ 65536 := ⟨Nat.pos_of_ne_zero (by simp), Nat.pow_le_pow_right (by omega) h⟩
theorem bits_and_one (m : Nat) (h : m < 9223372036854775808) : bits .and .i64 (m : Int) 1 = ((m % 2 : Nat) : Int) := by
  have h1 : (BitVec.ofInt 64 (m : Int)).toNat = m := by
    rw [BitVec.ofInt_natCast, BitVec.toNat_ofNat]; exact Nat.mod_eq_of_lt (by omega)
  have h2 : (BitVec.ofInt 64 (1 : Int)).toNat = 1 := by decide
  show IntKind.i64.wrap ((BitVec.ofInt 64 (m : Int) &&& BitVec.ofInt 64 (1 : Int)).toNat : Int) = _
  rw [BitVec.toNat_and, h1, h2, Nat.and_one_is_mod]
  exact IntWalk.i64_in _ (by omega)
theorem div_pow (n k : Nat) : (n : Int) / 2 ^ k = ((n / 2 ^ k : Nat) : Int) := by simp
theorem shr_and (n k : Nat) (h : n < 9223372036854775808) : bits .and .i64 ((n : Int) / 2 ^ k) 1 = ((n / 2 ^ k % 2 : Nat) : Int) := by
  rw [div_pow]
  exact bits_and_one _ (Nat.lt_of_le_of_lt (Nat.div_le_self _ _) h)
theorem bits_or_nat (a b : Nat) (ha : a < 9223372036854775808) (hb : b < 9223372036854775808) : bits .or .i64 (a : Int) (b : Int) = ((a ||| b : Nat) : Int) := by
  have hx : a ||| b < 2 ^ 63 := Nat.or_lt_two_pow (by omega) (by omega)
  have h1 : (BitVec.ofInt 64 (a : Int)).toNat = a := by
    rw [BitVec.ofInt_natCast, BitVec.toNat_ofNat]; exact Nat.mod_eq_of_lt (by omega)
  have h2 : (BitVec.ofInt 64 (b : Int)).toNat = b := by
    rw [BitVec.ofInt_natCast, BitVec.toNat_ofNat]; exact Nat.mod_eq_of_lt (by omega)
  show IntKind.i64.wrap ((BitVec.ofInt 64 (a : Int) ||| BitVec.ofInt 64 (b : Int)).toNat : Int) = _
  rw [BitVec.toNat_or, h1, h2]
  exact IntWalk.i64_in _ (by omega)
/-- Bits that lie below: 'or' is a sum. -/
theorem or_low (q i b : Nat) (hb : b < 2 ^ i) (h : 2 ^ i * q + b < 9223372036854775808) : bits .or .i64 ((2 ^ i * q : Nat) : Int) (b : Int) = ((2 ^ i * q + b : Nat) : Int) := by
  rw [bits_or_nat _ _ (by omega) (by omega), ← Nat.two_pow_add_eq_or_of_lt hb]
theorem or_one (q : Nat) (x : Int) (h0 : 0 ≤ x) (h1 : x ≤ 1) (hq : q < 100000) : bits .or .i64 ((q : Int) * 2) x = 2 * (q : Int) + x := by
  obtain ⟨b, rfl⟩ : ∃ b : Nat, x = (b : Int) := ⟨x.toNat, by omega⟩
  have h := or_low q 1 b (by omega) (by omega)
  have e : ((2 ^ 1 * q : Nat) : Int) = (q : Int) * 2 := by omega
  rw [e] at h
  rw [h]
  omega
/-- A list of numbers, made of zeroes: the places from k on are told. -/
theorem tail_set {k : Nat} {v : Int} {ys : List Int} : (List.replicate (k + 1) 0 ++ ys).set k v = List.replicate k 0 ++ v :: ys := by
  rw [List.replicate_succ', List.append_assoc, List.set_append_right _ _ (by simp)]
  simp
end Go.Proofs.Ytamljhjbmeikiaa
/- Bits as bytes: plain facts; no program in sight. -/
namespace Go.Proofs.Ytamljhjbmeikiaa
open Go Go.RowKit
theorem numF_zeros (c : List Int) : ∀ j, numF (c ++ List.replicate j 0) = numF c * 2 ^ j
  | 0 => by simp
  | j + 1 => by
    rw [List.replicate_succ', ← List.append_assoc, numF_snoc, numF_zeros c j, Int.pow_succ]
    rw [Int.mul_comm (2 ^ j) 2, Int.add_zero, Int.mul_left_comm]
/-- The i-th byte of bits, as far as there are bits. -/
def chunk (ys : List Int) (i : Nat) : List Int := (ys.drop (8 * i)).take 8
def byteV (ys : List Int) (i : Nat) : Int := numF (chunk ys i ++ List.replicate (8 - (chunk ys i).length) 0)
def bytesOf (bs : List Int) : List Int := (List.range ((bs.length + 7) / 8)).map (byteV bs)
theorem bytesOf_length (bs : List Int) : (bytesOf bs).length = (bs.length + 7) / 8 := by simp [bytesOf]
theorem byteV_nil (i : Nat) : byteV [] i = 0 := by
  unfold byteV chunk
  rw [List.drop_nil, List.take_nil, List.nil_append]
  have h := numF_zeros [] (8 - ([] : List Int).length)
  rw [List.nil_append] at h
  rw [h, numF_nil, Int.zero_mul]
theorem chunk_other {ys : List Int} {b : Int} {i : Nat} (h : i ≠ ys.length / 8) : chunk (ys ++ [b]) i = chunk ys i := by
  unfold chunk
  by_cases hi : 8 * i ≤ ys.length
  · rw [List.drop_append_of_le_length hi, List.take_append_of_le_length (by rw [List.length_drop]; omega)]
  · rw [List.drop_eq_nil_of_le (by simp; omega), List.drop_eq_nil_of_le (by omega)]
theorem byteV_other {ys : List Int} {b : Int} {i : Nat} (h : i ≠ ys.length / 8) : byteV (ys ++ [b]) i = byteV ys i := by unfold byteV; rw [chunk_other h]
theorem chunk_len (ys : List Int) : (chunk ys (ys.length / 8)).length = ys.length % 8 := by
  unfold chunk; rw [List.length_take, List.length_drop]; omega
theorem chunk_here (ys : List Int) (b : Int) : chunk (ys ++ [b]) (ys.length / 8) = chunk ys (ys.length / 8) ++ [b] := by
  have hl := chunk_len ys
  unfold chunk at *
  rw [List.drop_append_of_le_length (by omega)]
  rw [List.length_take, List.length_drop] at hl
  rw [List.take_of_length_le (by rw [List.length_append, List.length_drop]; simp; omega), List.take_of_length_le (by rw [List.length_drop]; omega)]
theorem chunk_bits {ys : List Int} (h : ∀ x ∈ ys, 0 ≤ x ∧ x ≤ 1) (i : Nat) : ∀ x ∈ chunk ys i, 0 ≤ x ∧ x ≤ 1 := fun x hx => h x (List.mem_of_mem_drop (List.mem_of_mem_take hx))
/-- The program's step: a bit is or-ed in. -/
theorem byteV_here {ys : List Int} {b : Int} (hy : ∀ x ∈ ys, 0 ≤ x ∧ x ≤ 1) (hb : 0 ≤ b ∧ b ≤ 1) :
    bits .or .i64 (byteV ys (ys.length / 8)) (b * 2 ^ (7 - ys.length % 8)) = byteV (ys ++ [b]) (ys.length / 8) := by
  have hl := chunk_len ys
  have hbd := numF_bd _ (chunk_bits hy (ys.length / 8))
  unfold byteV
  rw [chunk_here, List.length_append, hl, numF_zeros, numF_zeros, numF_snoc, show 8 - (ys.length % 8 + [b].length) = 7 - ys.length % 8 by simp only [List.length_singleton]; omega, show 8 - ys.length % 8 = (7 - ys.length % 8) + 1 by omega]
  obtain ⟨r, hr⟩ : ∃ r, r = 7 - ys.length % 8 := ⟨_, rfl⟩
  have hr7 : r ≤ 7 := by omega
  rw [hl, show ys.length % 8 = 7 - r by omega] at hbd
  rw [← hr]
  obtain ⟨q, hq⟩ : ∃ q : Nat, numF (chunk ys (ys.length / 8)) = (q : Int) := ⟨(numF (chunk ys (ys.length / 8))).toNat, by omega⟩
  obtain ⟨c, rfl⟩ : ∃ c : Nat, b = (c : Int) := ⟨b.toNat, by omega⟩
  rw [hq] at hbd ⊢
  have hq2 : (q : Int) < 128 := Int.lt_of_lt_of_le hbd.2 (by
    have : (2 : Nat) ^ (7 - r) ≤ 2 ^ 7 := Nat.pow_le_pow_right (by omega) (by omega)
    have e : (2 : Int) ^ (7 - r) = ((2 ^ (7 - r) : Nat) : Int) := by simp
    omega)
  have hp : 2 ^ r ≤ 2 ^ 7 := Nat.pow_le_pow_right (by omega) hr7
  have hp0 : 0 < 2 ^ r := Nat.pos_of_ne_zero (by simp)
  have hc : c * 2 ^ r < 2 ^ (r + 1) := by
    rw [Nat.pow_succ]
    have : c ≤ 1 := by omega
    rcases Nat.le_one_iff_eq_zero_or_eq_one.1 this with rfl | rfl <;> omega
  have hs : 2 ^ (r + 1) * q + c * 2 ^ r < 9223372036854775808 := by
    have h1 : 2 ^ (r + 1) * q ≤ 256 * 128 := Nat.mul_le_mul (by rw [Nat.pow_succ]; omega) (by omega)
    have h2 : 2 ^ (r + 1) ≤ 256 := by rw [Nat.pow_succ]; omega
    omega
  have h := or_low q (r + 1) (c * 2 ^ r) hc hs
  have e1 : ((2 ^ (r + 1) * q : Nat) : Int) = (q : Int) * 2 ^ (r + 1) := by simp [Int.mul_comm]
  have e2 : ((c * 2 ^ r : Nat) : Int) = (c : Int) * 2 ^ r := by simp
  rw [e1, e2] at h
  rw [h]
  have e3 : (2 ^ (r + 1) * q + c * 2 ^ r : Nat) = (2 * q + c) * 2 ^ r := by rw [Nat.pow_succ, Nat.add_mul]; congr 1; rw [Nat.mul_comm (2 ^ r) 2, Nat.mul_assoc, Nat.mul_comm (2 ^ r) q, ← Nat.mul_assoc]
  rw [e3]
  simp
theorem byteV_bd {ys : List Int} (hy : ∀ x ∈ ys, 0 ≤ x ∧ x ≤ 1) (i : Nat) : 0 ≤ byteV ys i ∧ byteV ys i ≤ 255 := by
  have hl : (chunk ys i).length ≤ 8 := by unfold chunk; rw [List.length_take]; omega
  have h := numF_bd (chunk ys i ++ List.replicate (8 - (chunk ys i).length) 0) fun x hx => by
    rcases List.mem_append.1 hx with hx | hx
    · exact chunk_bits hy i x hx
    · rw [List.eq_of_mem_replicate hx]; omega
  rw [List.length_append, List.length_replicate, show (chunk ys i).length + (8 - (chunk ys i).length) = 8 by omega] at h
  unfold byteV
  omega
/-- The specification's step: the padded list's chunks. -/
theorem byteV_pad (bs : List Int) (j i : Nat) (h : (bs ++ List.replicate j 0).length = 8 * ((bs.length + 7) / 8)) (hi : i < (bs.length + 7) / 8) : numF (((bs ++ List.replicate j 0).take (8 * i + 8)).drop (8 * i)) = byteV bs i := by
  have hj : bs.length + j = 8 * ((bs.length + 7) / 8) := by simpa using h
  unfold byteV chunk
  congr 1
  rw [List.drop_take, show 8 * i + 8 - 8 * i = 8 by omega, List.drop_append_of_le_length (by omega), List.take_append, List.take_replicate, List.length_take, List.length_drop]
  congr 2
  omega
end Go.Proofs.Ytamljhjbmeikiaa
/- The codes of lengths: plain facts; no program in sight. -/
namespace Go.Proofs.Ytamljhjbmeikiaa
open Go Go.RowKit
def len8 (ls : List Int) (j : Nat) : Nat := (ls.getD j 0).toNat
def termC (ls : List Int) (w i j : Nat) : Nat := if 0 < len8 ls j ∧ (len8 ls j < w ∨ (len8 ls j = w ∧ j < i)) then 2 ^ (w - len8 ls j) else 0
def sum8 (f : Nat → Nat) : Nat := f 0 + f 1 + f 2 + f 3 + f 4 + f 5 + f 6 + f 7
/-- The code that comes next at place i of width w. -/
def codeAt (ls : List Int) (w i : Nat) : Nat := sum8 (termC ls w i)
theorem termC_bd {ls : List Int} {w i j : Nat} (hw : w ≤ 8) : termC ls w i j ≤ 256 := by
  unfold termC
  split
  · exact Nat.le_trans (Nat.pow_le_pow_right (by omega) (Nat.le_trans (Nat.sub_le _ _) hw)) (by decide)
  · omega
theorem codeAt_bd {ls : List Int} {w i : Nat} (hw : w ≤ 8) : codeAt ls w i ≤ 2048 := by
  unfold codeAt sum8
  have h := fun j => termC_bd (ls := ls) (i := i) (j := j) hw
  have := h 0; have := h 1; have := h 2; have := h 3; have := h 4; have := h 5; have := h 6; have := h 7
  omega
theorem termC_next {ls : List Int} {w j : Nat} (hj : j < 8) : termC ls (w + 1) 0 j = 2 * termC ls w 8 j := by
  unfold termC
  by_cases h0 : 0 < len8 ls j
  · by_cases h1 : len8 ls j ≤ w
    · rw [if_pos ⟨h0, .inl (by omega)⟩, if_pos ⟨h0, by omega⟩, show w + 1 - len8 ls j = (w - len8 ls j) + 1 by omega, Nat.pow_succ, Nat.mul_comm]
    · rw [if_neg (by omega), if_neg (by omega)]
  · rw [if_neg (by omega), if_neg (by omega)]
theorem codeAt_next (ls : List Int) (w : Nat) : codeAt ls (w + 1) 0 = 2 * codeAt ls w 8 := by
  unfold codeAt sum8
  have h := fun j hj => termC_next (ls := ls) (w := w) (j := j) hj
  have := h 0 (by omega); have := h 1 (by omega); have := h 2 (by omega); have := h 3 (by omega)
  have := h 4 (by omega); have := h 5 (by omega); have := h 6 (by omega); have := h 7 (by omega)
  omega
theorem termC_step {ls : List Int} {w i j : Nat} (hw : 1 ≤ w) : termC ls w (i + 1) j = termC ls w i j + if j = i ∧ len8 ls i = w then 1 else 0 := by
  unfold termC
  by_cases hji : j = i
  · subst hji
    by_cases hl : len8 ls j = w
    · rw [if_pos ⟨by omega, .inr ⟨hl, by omega⟩⟩, if_neg (by omega), if_pos ⟨rfl, hl⟩, hl, Nat.sub_self]
    · rw [if_neg (c := j = j ∧ len8 ls j = w) (by omega)]
      by_cases h2 : 0 < len8 ls j ∧ len8 ls j < w
      · rw [if_pos ⟨h2.1, .inl h2.2⟩, if_pos ⟨h2.1, .inl h2.2⟩, Nat.add_zero]
      · rw [if_neg (by omega), if_neg (by omega)]
  · rw [if_neg (c := j = i ∧ len8 ls i = w) (by omega)]
    by_cases h2 : 0 < len8 ls j ∧ (len8 ls j < w ∨ (len8 ls j = w ∧ j < i))
    · rw [if_pos ⟨h2.1, by omega⟩, if_pos h2, Nat.add_zero]
    · rw [if_neg (by omega), if_neg h2]
theorem codeAt_step {ls : List Int} {w i : Nat} (hw : 1 ≤ w) (hi : i < 8) : codeAt ls w (i + 1) = codeAt ls w i + if len8 ls i = w then 1 else 0 := by
  unfold codeAt sum8
  have h := fun j => termC_step (ls := ls) (i := i) (j := j) hw
  rw [h 0, h 1, h 2, h 3, h 4, h 5, h 6, h 7]
  by_cases hl : len8 ls i = w
  · simp only [hl, and_true, if_true]
    have : i = 0 ∨ i = 1 ∨ i = 2 ∨ i = 3 ∨ i = 4 ∨ i = 5 ∨ i = 6 ∨ i = 7 := by omega
    rcases this with rfl | rfl | rfl | rfl | rfl | rfl | rfl | rfl <;> simp <;> omega
  · simp only [hl, and_false, if_false, Nat.add_zero]
theorem codeAt_zero (ls : List Int) : codeAt ls 1 0 = 0 := by
  unfold codeAt sum8
  have h : ∀ j, termC ls 1 0 j = 0 := fun j => by unfold termC; rw [if_neg (by omega)]
  rw [h 0, h 1, h 2, h 3, h 4, h 5, h 6, h 7]
/-- What has been told of the codes at place i of width w; the codes. -/
def codeK (ls : List Int) (w i j : Nat) : Int := if 0 < len8 ls j ∧ (len8 ls j < w ∨ (len8 ls j = w ∧ j < i)) then (codeAt ls (len8 ls j) j : Int) else -1
def codesL (ls : List Int) : List Int := (List.range 8).map fun j => if 0 < len8 ls j then (codeAt ls (len8 ls j) j : Int) else -1
theorem codeK_zero (ls : List Int) (j : Nat) : codeK ls 1 0 j = -1 := by unfold codeK; rw [if_neg (by omega)]
theorem codeK_next {ls : List Int} {w j : Nat} (hj : j < 8) : codeK ls (w + 1) 0 j = codeK ls w 8 j := by
  unfold codeK
  by_cases h : 0 < len8 ls j ∧ len8 ls j ≤ w
  · rw [if_pos ⟨h.1, .inl (by omega)⟩, if_pos ⟨h.1, by omega⟩]
  · rw [if_neg (by omega), if_neg (by omega)]
theorem codeK_here {ls : List Int} {w i : Nat} (hw : 1 ≤ w) (h : len8 ls i = w) : codeK ls w (i + 1) i = (codeAt ls w i : Int) := by
  unfold codeK
  rw [if_pos ⟨by omega, .inr ⟨h, by omega⟩⟩, h]
theorem codeK_other {ls : List Int} {w i j : Nat} (h : ¬ (j = i ∧ len8 ls i = w)) : codeK ls w (i + 1) j = codeK ls w i j := by
  unfold codeK
  by_cases h2 : 0 < len8 ls j ∧ (len8 ls j < w ∨ (len8 ls j = w ∧ j < i))
  · rw [if_pos ⟨h2.1, by omega⟩, if_pos h2]
  · have h3 : ¬ (0 < len8 ls j ∧ (len8 ls j < w ∨ (len8 ls j = w ∧ j < i + 1))) := by
      intro h3
      by_cases hji : j = i
      · subst hji; omega
      · omega
    rw [if_neg h3, if_neg h2]
theorem codeK_end {ls : List Int} {j : Nat} (hj : len8 ls j ≤ 8) : codeK ls 9 0 j = if 0 < len8 ls j then (codeAt ls (len8 ls j) j : Int) else -1 := by
  unfold codeK
  by_cases h : 0 < len8 ls j
  · rw [if_pos ⟨h, .inl (by omega)⟩, if_pos h]
  · rw [if_neg (by omega), if_neg h]
end Go.Proofs.Ytamljhjbmeikiaa
/- Bits, counts, lengths and codes: what the contracts say; no program in sight. -/
namespace Go.Proofs.Ytamljhjbmeikiaa
open Go Go.RowKit
theorem ipow_bd {w : Nat} (h : w ≤ 16) : 1 ≤ (2 : Int) ^ w ∧ (2 : Int) ^ w ≤ 65536 := by
  have h1 := pow_bd h
  have e : (2 : Int) ^ w = ((2 ^ w : Nat) : Int) := by simp
  omega
theorem bitOk_iff {xs : List Int} : bitOk xs = true ↔ xs.length ≤ 600 ∧ ∀ x ∈ xs, 0 ≤ x ∧ x ≤ 1 := by
  simp [bitOk, inB_true]
def bytesBits (bs : List Int) : List Int := bs.flatMap fun b => bitsF b.toNat 8
theorem bytesBits_snoc (bs : List Int) (b : Int) : bytesBits (bs ++ [b]) = bytesBits bs ++ bitsF b.toNat 8 := by simp [bytesBits]
theorem bytesBits_length (bs : List Int) : (bytesBits bs).length = 8 * bs.length := by
  induction bs with
  | nil => rfl
  | cons b bs ih => unfold bytesBits at *; rw [List.flatMap_cons, List.length_append, ih, bitsF_length, List.length_cons]; omega
theorem bytesBits_bit {bs : List Int} : ∀ x ∈ bytesBits bs, 0 ≤ x ∧ x ≤ 1 := fun x hx => by
  obtain ⟨b, _, h⟩ := List.mem_flatMap.1 hx
  exact bitsF_bit _ _ x h
def lenOk (ls : List Int) : Bool := decide (ls.length = 8) && ls.all (inB 0 8)
/-- What a length takes of the codes. -/
def krStep (n l : Int) : Int := if 0 < l then n + 2 ^ (8 - l).toNat else n
def krF (ls : List Int) : Int := ls.foldl krStep 0
def kraft (ls : List Int) : Int := if lenOk ls then krF ls else -1
def lenVal (ls : List Int) : Bool := decide (1 ≤ kraft ls) && decide (kraft ls ≤ 256)
theorem krF_take {ls : List Int} {k : Nat} {l : Int} (h : ls[k]? = some l) : krF (ls.take (k + 1)) = krStep (krF (ls.take k)) l := by
  rw [take_snoc' h]; simp [krF]
theorem shr_len : ∀ m : Nat, m ≤ 8 → (256 : Int) / 2 ^ m = 2 ^ (8 - m) := by decide
theorem krStep_bd (n l : Int) (h0 : 0 ≤ l) (h1 : l ≤ 8) : n ≤ krStep n l ∧ krStep n l ≤ n + 256 := by
  unfold krStep
  split
  · have h := ipow_bd (w := (8 - l).toNat) (by omega)
    have h2 : (2 : Int) ^ (8 - l).toNat ≤ 2 ^ 8 := by
      have : (2 : Nat) ^ (8 - l).toNat ≤ 2 ^ 8 := Nat.pow_le_pow_right (by omega) (by omega)
      have e : (2 : Int) ^ (8 - l).toNat = ((2 ^ (8 - l).toNat : Nat) : Int) := by simp
      omega
    omega
  · omega
theorem lenOk_iff {ls : List Int} : lenOk ls = true ↔ ls.length = 8 ∧ ∀ x ∈ ls, 0 ≤ x ∧ x ≤ 8 := by
  simp [lenOk, inB_true]
theorem lenVal_ok {ls : List Int} (h : lenVal ls = true) : ls.length = 8 ∧ ∀ x ∈ ls, 0 ≤ x ∧ x ≤ 8 := by
  unfold lenVal at h
  by_cases hk : lenOk ls
  · exact lenOk_iff.1 hk
  · unfold kraft at h
    rw [if_neg hk] at h
    simp at h
theorem len8_at {ls : List Int} {i : Nat} {x : Int} (h : ls[i]? = some x) (h0 : 0 ≤ x) : (len8 ls i : Int) = x := by
  unfold len8
  rw [List.getD_eq_getElem?_getD, h]
  simp
  omega
def codesV (ls : List Int) : List Int := if lenVal ls then codesL ls else []
def cntOk (ls : List Int) : Bool := decide (ls.length = 8) && ls.all (inB 0 999)
/-- Does symbol i's code stand at a place of bits? The first that does. -/
def symP (bits : List Int) (a : Nat) (ls cs : List Int) (i : Nat) : Bool := decide (0 ≤ cs.getD i 0) && (decide (a + len8 ls i ≤ bits.length) && decide (numF ((bits.drop a).take (len8 ls i)) = cs.getD i 0))
def symF (bits : List Int) (a : Nat) (ls cs : List Int) : Int := match (List.range 8).find? (symP bits a ls cs) with
  | some i => i
  | none => -1
def symN (bits : List Int) (a : Nat) (ls cs : List Int) (k : Nat) : Prop := ∀ j, j < k → symP bits a ls cs j = false
theorem symF_yes {bits : List Int} {a : Nat} {ls cs : List Int} {k : Nat} (hk : k < 8) (hn : symN bits a ls cs k) (hp : symP bits a ls cs k = true) : symF bits a ls cs = k := by
  have h : (List.range 8).find? (symP bits a ls cs) = some k := by
    rw [List.find?_range_eq_some]
    exact ⟨hp, by simp [hk], fun j hj => by rw [hn j hj]; rfl⟩
  unfold symF
  rw [h]
theorem symF_no {bits : List Int} {a : Nat} {ls cs : List Int} (hn : symN bits a ls cs 8) : symF bits a ls cs = -1 := by
  have h : (List.range 8).find? (symP bits a ls cs) = none := by
    rw [List.find?_range_eq_none]
    exact fun j hj => by rw [hn j hj]; rfl
  unfold symF
  rw [h]
theorem symN_snoc {bits : List Int} {a : Nat} {ls cs : List Int} {k : Nat} (hn : symN bits a ls cs k) (hp : symP bits a ls cs k = false) : symN bits a ls cs (k + 1) := fun j hj => by
  by_cases h : j = k
  · rw [h]; exact hp
  · exact hn j (by omega)
/-- Two lengths in each byte. -/
def halves (bs : List Int) : List Int := bs.flatMap fun b => [b / 16, b % 16]
theorem halves_snoc (bs : List Int) (b : Int) : halves (bs ++ [b]) = halves bs ++ [b / 16, b % 16] := by simp [halves]
/-- The lengths, those of the first k symbols only where they are counted. -/
def usedP (cs ls os : List Int) (k : Nat) : Prop := os.length = ls.length ∧ ∀ j, j < ls.length → os[j]? = some (if j < k ∧ cs.getD j 0 = 0 then 0 else ls.getD j 0)
def usedL (cs ls : List Int) : List Int := (List.range ls.length).map fun j => if cs.getD j 0 = 0 then 0 else ls.getD j 0
theorem usedP_start (cs ls : List Int) : usedP cs ls ls 0 := ⟨rfl, fun j hj => by rw [if_neg (by omega), List.getD_eq_getElem?_getD, List.getElem?_eq_getElem hj]; rfl⟩
theorem usedP_zero {cs ls os : List Int} {k : Nat} (h : usedP cs ls os k) (hk : k < ls.length) (hc : cs.getD k 0 = 0) : usedP cs ls (os.set k 0) (k + 1) := by
  refine ⟨by rw [List.length_set]; exact h.1, fun j hj => ?_⟩
  by_cases hjk : j = k
  · subst hjk
    rw [if_pos ⟨by omega, hc⟩]
    simp [h.1, hj]
  · rw [List.getElem?_set_ne (by omega), h.2 j hj]
    by_cases h2 : j < k ∧ cs.getD j 0 = 0
    · rw [if_pos h2, if_pos ⟨by omega, h2.2⟩]
    · rw [if_neg h2, if_neg (by omega)]
theorem usedP_keep {cs ls os : List Int} {k : Nat} (h : usedP cs ls os k) (hc : ¬ cs.getD k 0 = 0) : usedP cs ls os (k + 1) := by
  refine ⟨h.1, fun j hj => ?_⟩
  rw [h.2 j hj]
  by_cases hjk : j = k
  · subst hjk
    rw [if_neg (by omega), if_neg (by omega)]
  · by_cases h2 : j < k ∧ cs.getD j 0 = 0
    · rw [if_pos h2, if_pos ⟨by omega, h2.2⟩]
    · rw [if_neg h2, if_neg (by omega)]
theorem usedP_end {cs ls os : List Int} {k : Nat} (h : usedP cs ls os k) (hk : ls.length ≤ k) : os = usedL cs ls := by
  apply List.ext_getElem?
  intro j
  by_cases hj : j < ls.length
  · rw [h.2 j hj]
    unfold usedL
    by_cases hc : cs.getD j 0 = 0
    · rw [if_pos ⟨by omega, hc⟩]; simp [hj] at hc ⊢; exact fun h => absurd hc h
    · rw [if_neg (by omega)]; simp [hj] at hc ⊢; exact fun h => absurd h hc
  · rw [List.getElem?_eq_none (by rw [h.1]; omega), List.getElem?_eq_none (by simp [usedL]; omega)]
def sumL (xs : List Int) : Int := xs.foldl (· + ·) 0
theorem sumL_take {xs : List Int} {k : Nat} {x : Int} (h : xs[k]? = some x) : sumL (xs.take (k + 1)) = sumL (xs.take k) + x := by
  rw [take_snoc' h]; simp [sumL]
/-- How often each symbol stands among the first k. -/
def countsK (L : List Int) (k : Nat) : List Int := (List.range 8).map fun s => ((grp L k s).length : Int)
def countsL (L : List Int) : List Int := countsK L L.length
theorem countsK_length (L : List Int) (k : Nat) : (countsK L k).length = 8 := by simp [countsK]
theorem countsK_at {L : List Int} {k s : Nat} (h : s < 8) : (countsK L k)[s]? = some ((grp L k s).length : Int) := by simp [countsK, h]
theorem countsK_zero (L : List Int) : countsK L 0 = List.replicate 8 0 := by simp [countsK, grp, List.replicate, List.range_succ]
theorem tab_set {f g : Nat → Int} {n s : Nat} (hs : s < n) {v : Int} (h1 : g s = v) (h2 : ∀ t, t ≠ s → g t = f t) : ((List.range n).map f).set s v = (List.range n).map g := by
  refine List.ext_getElem? fun t => ?_
  rw [List.getElem?_set, List.getElem?_map, List.getElem?_map]
  by_cases ht : s = t
  · subst ht; simp [hs, h1]
  · rw [if_neg ht]
    by_cases htn : t < n
    · simp [htn, h2 t (Ne.symm ht)]
    · simp [htn]
theorem countsK_snoc {L : List Int} {k s : Nat} (h : L[k]? = some (s : Int)) (hs : s < 8) : (countsK L k).set s (((grp L k s).length : Int) + 1) = countsK L (k + 1) := by
  refine tab_set hs ?_ fun t ht => ?_
  · rw [grp_succ h, if_pos rfl]; simp
  · rw [grp_succ h, if_neg (by omega)]
theorem grp_le (L : List Int) (k s : Nat) : (grp L k s).length ≤ k := by
  unfold grp
  exact Nat.le_trans (List.length_filter_le _ _) (by simp)
def allSym (L : List Int) : Prop := ∀ (k : Nat) (x : Int), L[k]? = some x → 0 ≤ x ∧ x ≤ 7
theorem allSym_of {L : List Int} (h : listOk L = true) : allSym L := fun _ _ hx => listOk_at h hx
def countsF (xs : List Int) : List Int := if listOk xs then countsL xs else []
end Go.Proofs.Ytamljhjbmeikiaa
/- Matches and the best tokens: plain facts; no program in sight. -/
namespace Go.Proofs.Ytamljhjbmeikiaa
open Go Go.RowKit

/-- Does the match go on at its n-th symbol? -/
def mrun (xs : List Int) (at_ back n : Nat) : Bool := decide (n < 9) && (decide (at_ + n < xs.length) && decide (xs.getD (at_ + n) 0 = xs.getD (at_ + n - back) 0))
def mlenF (xs : List Int) (at_ back : Nat) : Nat → Nat → Nat
  | 0, n => n
  | f + 1, n => if mrun xs at_ back n then mlenF xs at_ back f (n + 1) else n
def mlen (xs : List Int) (at_ back : Nat) : Nat := mlenF xs at_ back 9 0
theorem mlenF_bd (xs : List Int) (at_ back : Nat) : ∀ f n, n ≤ mlenF xs at_ back f n ∧ mlenF xs at_ back f n ≤ n + f
  | 0, n => by simp [mlenF]
  | f + 1, n => by
    rw [mlenF]
    have := mlenF_bd xs at_ back f (n + 1)
    split <;> omega
theorem mlen_le (xs : List Int) (at_ back : Nat) : mlen xs at_ back ≤ 9 := by have := (mlenF_bd xs at_ back 9 0).2; unfold mlen; omega
theorem mlenF_run (xs : List Int) (at_ back : Nat) : ∀ f n m, n ≤ m → m < mlenF xs at_ back f n → mrun xs at_ back m = true
  | 0, n, m, h1, h2 => by simp [mlenF] at h2; omega
  | f + 1, n, m, h1, h2 => by
    rw [mlenF] at h2
    split at h2
    · rename_i h
      by_cases e : m = n
      · rw [e]; exact h
      · exact mlenF_run xs at_ back f (n + 1) m (by omega) h2
    · omega
theorem mlen_run {xs : List Int} {at_ back m : Nat} (h : m < mlen xs at_ back) : mrun xs at_ back m = true := mlenF_run xs at_ back 9 0 m (Nat.zero_le _) h
theorem mlen_in {xs : List Int} {at_ back : Nat} (h : at_ ≤ xs.length) : at_ + mlen xs at_ back ≤ xs.length := by
  rcases Nat.eq_zero_or_pos (mlen xs at_ back) with h0 | h0
  · omega
  · have h1 := mlen_run (xs := xs) (at_ := at_) (back := back) (m := mlen xs at_ back - 1) (by omega)
    unfold mrun at h1
    simp only [Bool.and_eq_true, decide_eq_true_eq] at h1
    omega
theorem mlen_step {xs : List Int} {at_ back n : Nat} (h : mlenF xs at_ back (9 - n) n = mlen xs at_ back) (hn : n < 9) (hr : mrun xs at_ back n = true) : mlenF xs at_ back (9 - (n + 1)) (n + 1) = mlen xs at_ back := by
  rw [← h, show 9 - n = (9 - (n + 1)) + 1 by omega, mlenF, if_pos hr]
theorem mlen_stop {xs : List Int} {at_ back n : Nat} (h : mlenF xs at_ back (9 - n) n = mlen xs at_ back) (hr : mrun xs at_ back n = false) : n = mlen xs at_ back := by
  rw [← h]
  cases hf : 9 - n with
  | zero => rfl
  | succ f => rw [mlenF, hr]; rfl
theorem mrun_yes {xs : List Int} {at_ back n : Nat} {x : Int} (h9 : n < 9) (hx : xs[at_ + n]? = some x) (hy : xs[at_ + n - back]? = some x) : mrun xs at_ back n = true := by
  have := (List.getElem?_eq_some_iff.1 hx).1
  unfold mrun
  rw [List.getD_eq_getElem?_getD, List.getD_eq_getElem?_getD, hx, hy]
  simp [h9, this]
theorem mrun_no {xs : List Int} {at_ back n : Nat} {x y : Int} (hx : xs[at_ + n]? = some x) (hy : xs[at_ + n - back]? = some y) (hne : x ≠ y) : mrun xs at_ back n = false := by
  unfold mrun
  rw [List.getD_eq_getElem?_getD, List.getD_eq_getElem?_getD, hx, hy]
  simp [hne]
theorem mrun_end {xs : List Int} {at_ back n : Nat} (h : xs.length ≤ at_ + n) : mrun xs at_ back n = false := by
  unfold mrun
  have : ¬ at_ + n < xs.length := by omega
  simp [this]
theorem mrun_nine {xs : List Int} {at_ back n : Nat} (h : 9 ≤ n) : mrun xs at_ back n = false := by
  unfold mrun
  have : ¬ n < 9 := by omega
  simp [this]

theorem list_snoc {α : Type} {P : List α → Prop} (h0 : P []) (h1 : ∀ l x, P l → P (l ++ [x])) (l : List α) : P l := by
  have h : ∀ l : List α, P l.reverse := by
    intro l
    induction l with
    | nil => simpa using h0
    | cons x l ih => rw [List.reverse_cons]; exact h1 _ _ ih
  have := h l.reverse
  rwa [List.reverse_reverse] at this
/-! The best tokens. -/
/-- The matches at a place, the nearest first, the shortest first. -/
def candsB (xs : List Int) (at_ b : Nat) : List (Nat × Nat) := (List.range (mlen xs at_ (b + 1) - 1)).map fun i => (b + 1, i + 2)
def candsP (xs : List Int) (at_ b k : Nat) : List (Nat × Nat) := (List.range b).flatMap (candsB xs at_) ++ (List.range k).map fun i => (b + 1, i + 2)
def cands (xs : List Int) (at_ : Nat) : List (Nat × Nat) := (List.range (min 16 at_)).flatMap (candsB xs at_)
theorem candsP_zero (xs : List Int) (at_ : Nat) : candsP xs at_ 0 0 = [] := rfl
theorem candsP_snoc (xs : List Int) (at_ b k : Nat) : candsP xs at_ b (k + 1) = candsP xs at_ b k ++ [(b + 1, k + 2)] := by
  unfold candsP; rw [List.range_succ, List.map_append, List.append_assoc]; rfl
theorem candsP_next {xs : List Int} {at_ b k : Nat} (h : k = mlen xs at_ (b + 1) - 1) : candsP xs at_ b k = candsP xs at_ (b + 1) 0 := by
  subst h
  unfold candsP
  rw [List.range_succ, List.flatMap_append]
  simp [candsB]
theorem candsP_end (xs : List Int) (at_ : Nat) : candsP xs at_ (min 16 at_) 0 = cands xs at_ := by simp [candsP, cands]
theorem cands_mem {xs : List Int} {at_ : Nat} {x : Nat × Nat} (h : x ∈ cands xs at_) : 1 ≤ x.1 ∧ x.1 ≤ 16 ∧ x.1 ≤ at_ ∧ 2 ≤ x.2 ∧ x.2 ≤ mlen xs at_ x.1 := by
  obtain ⟨b, hb, hx⟩ := List.mem_flatMap.1 h
  obtain ⟨i, hi, rfl⟩ := List.mem_map.1 hx
  have h1 := List.mem_range.1 hb
  have h2 := List.mem_range.1 hi
  simp only
  omega
/-- What a match costs, what comes behind it being told by cs (from the next place on). -/
def mcost (cs : List Int) (x : Nat × Nat) : Int := 8 + cs.getD (x.2 - 1) 0
def stepC (cs : List Int) (st : Int × (Int × Int × Int)) (x : Nat × Nat) : Int × (Int × Int × Int) := if mcost cs x < st.1 then (mcost cs x, (0, (x.1 : Int), (x.2 : Int))) else st
def bestC (cs : List Int) (s : Int) (l : List (Nat × Nat)) : Int × (Int × Int × Int) := l.foldl (stepC cs) (4 + cs.getD 0 0, (s, 0, 0))
theorem bestC_snoc (cs : List Int) (s : Int) (l : List (Nat × Nat)) (x : Nat × Nat) : bestC cs s (l ++ [x]) = stepC cs (bestC cs s l) x := by simp [bestC]
theorem bestC_fst (cs : List Int) (s : Int) (l : List (Nat × Nat)) (x : Nat × Nat) : (bestC cs s (l ++ [x])).1 = min (bestC cs s l).1 (mcost cs x) := by
  rw [bestC_snoc]
  unfold stepC
  split
  · show mcost cs x = _; omega
  · omega
/-- What the walk through all matches leaves. -/
theorem bestC_spec (cs : List Int) (s : Int) : ∀ l : List (Nat × Nat), (bestC cs s l).1 ≤ 4 + cs.getD 0 0 ∧ (∀ x ∈ l, (bestC cs s l).1 ≤ mcost cs x) ∧
    (((bestC cs s l).1 = 4 + cs.getD 0 0 ∧ (bestC cs s l).2 = (s, 0, 0)) ∨
     ((bestC cs s l).1 < 4 + cs.getD 0 0 ∧ ∃ p x q, l = p ++ x :: q ∧ mcost cs x = (bestC cs s l).1 ∧ (∀ y ∈ p, mcost cs y ≠ (bestC cs s l).1) ∧ (bestC cs s l).2 = (0, (x.1 : Int), (x.2 : Int)))) := by
  refine list_snoc (by simp [bestC]) fun l x ih => ?_
  · skip
    obtain ⟨h1, h2, h3⟩ := ih
    rw [bestC_snoc]
    unfold stepC
    split
    · rename_i hlt
      refine ⟨by simp only; omega, fun y hy => ?_, .inr ⟨by simp only; omega, l, x, [], rfl, rfl, fun y hy => ?_, rfl⟩⟩
      · rcases List.mem_append.1 hy with hy | hy
        · have := h2 y hy; simp only; omega
        · simp at hy; subst hy; exact Int.le_refl _
      · have := h2 y hy; simp only; omega
    · rename_i hge
      refine ⟨h1, fun y hy => ?_, ?_⟩
      · rcases List.mem_append.1 hy with hy | hy
        · exact h2 y hy
        · simp at hy; subst hy; omega
      · rcases h3 with h3 | ⟨h4, p, y, q, he, h5, h6, h7⟩
        · exact .inl h3
        · exact .inr ⟨h4, p, y, q ++ [x], by rw [he]; simp, h5, h6, h7⟩

/-- The least costs of the last d places, and of the end. -/
def costF (xs : List Int) : Nat → List Int
  | 0 => [0]
  | d + 1 => (bestC (costF xs d) (xs.getD (xs.length - (d + 1)) 0) (cands xs (xs.length - (d + 1)))).1 :: costF xs d
theorem costF_length (xs : List Int) : ∀ d, (costF xs d).length = d + 1
  | 0 => rfl
  | d + 1 => by rw [costF, List.length_cons, costF_length xs d]
theorem getD_bd {cs : List Int} {m : Int} (h : ∀ x ∈ cs, 0 ≤ x ∧ x ≤ m) (hm : 0 ≤ m) (k : Nat) : 0 ≤ cs.getD k 0 ∧ cs.getD k 0 ≤ m := by
  rw [List.getD_eq_getElem?_getD]
  cases he : cs[k]? with
  | none => exact ⟨Int.le_refl _, hm⟩
  | some x => exact h x (List.mem_of_getElem? he)
theorem bestC_bd {cs : List Int} {s m : Int} (h : ∀ x ∈ cs, 0 ≤ x ∧ x ≤ m) (hm : 0 ≤ m) (l : List (Nat × Nat)) : 0 ≤ (bestC cs s l).1 ∧ (bestC cs s l).1 ≤ m + 4 := by
  obtain ⟨h1, _, h3⟩ := bestC_spec cs s l
  have h0 := getD_bd h hm 0
  refine ⟨?_, by omega⟩
  rcases h3 with ⟨h3, _⟩ | ⟨_, p, x, q, _, h5, _, _⟩
  · omega
  · have := getD_bd h hm (x.2 - 1)
    unfold mcost at h5
    omega
theorem costF_bd (xs : List Int) : ∀ d, ∀ x ∈ costF xs d, 0 ≤ x ∧ x ≤ 4 * (d : Int)
  | 0, x, h => by simp [costF] at h; omega
  | d + 1, x, h => by
    rw [costF] at h
    rcases List.mem_cons.1 h with rfl | h
    · have := bestC_bd (s := xs.getD (xs.length - (d + 1)) 0) (costF_bd xs d) (by omega) (cands xs (xs.length - (d + 1)))
      omega
    · have := costF_bd xs d x h; omega
/-- What is not filled yet, a number, and what is behind it. -/
def arr (j : Nat) (v : Int) (cs : List Int) : List Int := List.replicate j 0 ++ v :: cs
theorem arr_length (j : Nat) (v : Int) (cs : List Int) : (arr j v cs).length = j + 1 + cs.length := by simp [arr]; omega
theorem arr_here (j : Nat) (v : Int) (cs : List Int) : (arr j v cs)[j]? = some v := by simp [arr]
theorem arr_there {j n : Nat} (v : Int) (cs : List Int) (hn : 1 ≤ n) : (arr j v cs)[j + n]? = cs[n - 1]? := by
  obtain ⟨m, rfl⟩ : ∃ m, n = m + 1 := ⟨n - 1, by omega⟩
  unfold arr
  rw [List.getElem?_append_right (by simp), List.length_replicate, Nat.add_sub_cancel_left]
  simp
theorem arr_set (j : Nat) (v u : Int) (cs : List Int) : (arr j v cs).set j u = arr j u cs := by
  unfold arr
  rw [List.set_append_right _ _ (by simp)]
  simp
theorem arr_open (j : Nat) (cs : List Int) : List.replicate (j + 1) 0 ++ cs = arr j 0 cs := by
  unfold arr; rw [List.replicate_succ', List.append_assoc]; rfl
theorem arr_zero (v : Int) (cs : List Int) : arr 0 v cs = v :: cs := rfl
/-- The costs from each place on. -/
def costsL (xs : List Int) : List Int := costF xs xs.length
end Go.Proofs.Ytamljhjbmeikiaa
/- The best tokens: further plain facts; no program in sight. -/
namespace Go.Proofs.Ytamljhjbmeikiaa
open Go Go.RowKit

theorem costF_drop (xs : List Int) : ∀ e d, (costF xs (d + e)).drop e = costF xs d
  | 0, d => rfl
  | e + 1, d => by
    rw [← Nat.add_assoc, costF, List.drop_succ_cons]
    exact costF_drop xs e d
theorem costsL_at {xs : List Int} {a i : Nat} (ha : a ≤ xs.length) : (costsL xs)[a + i]? = (costF xs (xs.length - a))[i]? := by
  have h := costF_drop xs a (xs.length - a)
  rw [show xs.length - a + a = xs.length by omega] at h
  rw [← h, List.getElem?_drop]; rfl
/-- The costs behind a place; the best token at it; what it costs from there. -/
def behind (xs : List Int) (a : Nat) : List Int := costF xs (xs.length - (a + 1))
def bestS (xs : List Int) (a : Nat) : Int × (Int × Int × Int) := bestC (behind xs a) (xs.getD a 0) (cands xs a)
def tokAt (xs : List Int) (a : Nat) : Int × Int × Int := (bestS xs a).2
theorem cost_here {xs : List Int} {a : Nat} (ha : a < xs.length) : (costsL xs)[a]? = some (bestS xs a).1 := by
  have h := costsL_at (xs := xs) (a := a) (i := 0) (by omega)
  rw [Nat.add_zero] at h
  rw [h, show xs.length - a = (xs.length - (a + 1)) + 1 by omega, costF, show xs.length - (xs.length - (a + 1) + 1) = a by omega]
  rfl
theorem cost_there {xs : List Int} {a n : Nat} (ha : a < xs.length) (hn : 1 ≤ n) : (costsL xs)[a + n]? = (behind xs a)[n - 1]? := by
  have h := costsL_at (xs := xs) (a := a + 1) (i := n - 1) (by omega)
  rw [show a + 1 + (n - 1) = a + n by omega] at h
  exact h
theorem behind_length {xs : List Int} {a : Nat} (ha : a < xs.length) : (behind xs a).length = xs.length - a := by unfold behind; rw [costF_length]; omega
theorem behind_bd {xs : List Int} {a : Nat} (hn : xs.length ≤ 100000) : ∀ x ∈ behind xs a, 0 ≤ x ∧ x ≤ 400000 := fun x hx => by
  have := costF_bd xs _ x hx; omega
theorem cands_split {xs : List Int} {a b k : Nat} (hb : b < min 16 a) (hk : k < mlen xs a (b + 1) - 1) : ∃ r, cands xs a = candsP xs a b k ++ (b + 1, k + 2) :: r := by
  have e1 : List.range (min 16 a) = List.range b ++ b :: (List.range (min 16 a - (b + 1))).map (b + 1 + ·) := by
    have h : min 16 a = b + (1 + (min 16 a - (b + 1))) := by omega
    conv => lhs; rw [h]
    rw [List.range_add, List.range_add]
    simp [Nat.add_assoc]
  have e2 : candsB xs a b = ((List.range k).map fun i => (b + 1, i + 2)) ++ (b + 1, k + 2) :: ((List.range (mlen xs a (b + 1) - 1 - (k + 1))).map fun i => (b + 1, k + 1 + i + 2)) := by
    unfold candsB
    have h : mlen xs a (b + 1) - 1 = k + (1 + (mlen xs a (b + 1) - 1 - (k + 1))) := by omega
    conv => lhs; rw [h]
    rw [List.range_add, List.range_add]
    simp [Nat.add_assoc]
  unfold cands candsP
  rw [e1, List.flatMap_append, List.flatMap_cons, e2]
  exact ⟨_, by rw [List.append_assoc, List.append_assoc]; rfl⟩
theorem first_same {α : Type} {P : α → Prop} {p p' q q' : List α} {x x' : α} (he : p ++ x :: q = p' ++ x' :: q') (hx : P x) (hx' : P x') (hp : ∀ y ∈ p, ¬ P y) (hp' : ∀ y ∈ p', ¬ P y) : x = x' := by
  induction p generalizing p' with
  | nil =>
    cases p' with
    | nil => simp at he; exact he.1
    | cons y p' => simp at he; exact absurd (he.1 ▸ hx) (hp' y (by simp))
  | cons z p ih =>
    cases p' with
    | nil => simp at he; exact absurd (he.1 ▸ hx') (hp z (by simp))
    | cons y p' =>
      simp at he
      exact ih he.2 (fun w hw => hp w (by simp [hw])) (fun w hw => hp' w (by simp [hw]))
theorem tok_sym {xs : List Int} {a : Nat} (h : (bestS xs a).1 = 4 + (behind xs a).getD 0 0) : tokAt xs a = (xs.getD a 0, 0, 0) := by
  obtain ⟨_, _, h3⟩ := bestC_spec (behind xs a) (xs.getD a 0) (cands xs a)
  rcases h3 with ⟨_, h4⟩ | ⟨h4, _⟩
  · exact h4
  · unfold bestS at h; omega
theorem tok_match {xs : List Int} {a b k : Nat} (h : (bestS xs a).1 ≠ 4 + (behind xs a).getD 0 0) (hb : b < min 16 a) (hk : k < mlen xs a (b + 1) - 1) (hm : mcost (behind xs a) (b + 1, k + 2) = (bestS xs a).1)
    (hall : ∀ y ∈ candsP xs a b k, mcost (behind xs a) y ≠ (bestS xs a).1) : tokAt xs a = (0, (b : Int) + 1, (k : Int) + 2) := by
  obtain ⟨_, _, h3⟩ := bestC_spec (behind xs a) (xs.getD a 0) (cands xs a)
  rcases h3 with ⟨h4, _⟩ | ⟨_, p, x, q, he, h5, h6, h7⟩
  · exact absurd h4 h
  · obtain ⟨r, hr⟩ := cands_split hb hk
    have hx : x = (b + 1, k + 2) := first_same (P := fun y => mcost (behind xs a) y = (bestS xs a).1) (he.symm.trans hr) h5 hm h6 hall
    unfold tokAt
    have h8 : (bestS xs a).2 = (0, (x.1 : Int), (x.2 : Int)) := h7
    rw [h8, hx]
    simp
theorem tok_none {xs : List Int} {a : Nat} (h : (bestS xs a).1 ≠ 4 + (behind xs a).getD 0 0) (hall : ∀ y ∈ cands xs a, mcost (behind xs a) y ≠ (bestS xs a).1) : False := by
  obtain ⟨_, _, h3⟩ := bestC_spec (behind xs a) (xs.getD a 0) (cands xs a)
  rcases h3 with ⟨h4, _⟩ | ⟨_, p, x, q, he, h5, _, _⟩
  · exact h h4
  · exact hall x (by rw [he]; simp) h5
/-- A token is a symbol, or a match that is there. -/
theorem tok_is (xs : List Int) (a : Nat) : tokAt xs a = (xs.getD a 0, 0, 0) ∨ ∃ b n : Nat, tokAt xs a = (0, (b : Int), (n : Int)) ∧ 1 ≤ b ∧ b ≤ 16 ∧ b ≤ a ∧ 2 ≤ n ∧ n ≤ mlen xs a b := by
  obtain ⟨_, _, h3⟩ := bestC_spec (behind xs a) (xs.getD a 0) (cands xs a)
  rcases h3 with ⟨_, h4⟩ | ⟨_, p, x, q, he, _, _, h7⟩
  · exact .inl h4
  · have := cands_mem (xs := xs) (at_ := a) (x := x) (by rw [he]; simp)
    exact .inr ⟨x.1, x.2, h7, this⟩
def tokLen (t : Int × Int × Int) : Nat := max t.2.2.toNat 1
theorem tok_len {xs : List Int} {a : Nat} (ha : a < xs.length) : 1 ≤ tokLen (tokAt xs a) ∧ tokLen (tokAt xs a) ≤ 9 ∧ a + tokLen (tokAt xs a) ≤ xs.length ∧ 0 ≤ (tokAt xs a).2.2 ∧ (tokAt xs a).2.2 ≤ 9 ∧ 0 ≤ (tokAt xs a).2.1 ∧ (tokAt xs a).2.1 ≤ 16 := by
  rcases tok_is xs a with h | ⟨b, n, h, h1, h2, h3, h4, h5⟩
  · unfold tokLen; rw [h]; simp; omega
  · have h6 := mlen_le xs a b
    have h7 := mlen_in (xs := xs) (at_ := a) (back := b) (by omega)
    unfold tokLen; rw [h]; simp only [Int.toNat_natCast]; omega
/-- The tokens from a place on. -/
def parseF (xs : List Int) : Nat → Nat → List (Int × Int × Int)
  | 0, _ => []
  | f + 1, a => if a < xs.length then tokAt xs a :: parseF xs f (a + tokLen (tokAt xs a)) else []
theorem parse_fuel {xs : List Int} : ∀ f g a, xs.length - a ≤ f → xs.length - a ≤ g → parseF xs f a = parseF xs g a
  | 0, 0, _, _, _ => rfl
  | 0, g + 1, a, h, _ => by rw [parseF, parseF, if_neg (by omega)]
  | f + 1, 0, a, _, h => by rw [parseF, parseF, if_neg (by omega)]
  | f + 1, g + 1, a, h1, h2 => by
    rw [parseF, parseF]
    split
    · rename_i ha
      have := (tok_len ha).1
      rw [parse_fuel f g _ (by omega) (by omega)]
    · rfl
theorem parse_step {xs : List Int} {a : Nat} (ha : a < xs.length) : parseF xs xs.length a = tokAt xs a :: parseF xs xs.length (a + tokLen (tokAt xs a)) := by
  obtain ⟨f, hf⟩ : ∃ f, xs.length = f + 1 := ⟨xs.length - 1, by omega⟩
  have := (tok_len ha).1
  rw [parse_fuel xs.length (f + 1) a (by omega) (by omega), parseF, if_pos ha, parse_fuel f xs.length _ (by omega) (by omega)]
theorem parse_end {xs : List Int} {a : Nat} (ha : xs.length ≤ a) : parseF xs xs.length a = [] := by
  rw [parse_fuel xs.length 0 a (by omega) (by omega)]; rfl
def parseL (xs : List Int) : List (Int × Int × Int) := parseF xs xs.length 0
def parseB (xs : List Int) : List (Int × Int × Int) := if listOk xs then parseL xs else []
end Go.Proofs.Ytamljhjbmeikiaa
/- Runs: plain facts; no program in sight. -/
namespace Go.Proofs.Ytamljhjbmeikiaa
open Go Go.RowKit

/-- A symbol more. -/
def runStep (rs : List (Int × Int)) (s : Int) : List (Int × Int) :=
  match rs.getLast? with
  | some (t, m) => if t = s then rs.dropLast ++ [(t, m + 1)] else rs ++ [(s, 1)]
  | none => [(s, 1)]
def runsL (xs : List Int) : List (Int × Int) := xs.foldl runStep []
def runsF (xs : List Int) : List (Int × Int) := if listOk xs then runsL xs else []
theorem runsL_snoc (xs : List Int) (s : Int) : runsL (xs ++ [s]) = runStep (runsL xs) s := by simp [runsL]
theorem runStep_same (rs : List (Int × Int)) (s m : Int) : runStep (rs ++ [(s, m)]) s = rs ++ [(s, m + 1)] := by simp [runStep]
theorem runStep_other {rs : List (Int × Int)} {s t m : Int} (h : t ≠ s) : runStep (rs ++ [(t, m)]) s = rs ++ [(t, m)] ++ [(s, 1)] := by simp [runStep, h]
theorem runStep_none (s : Int) : runStep [] s = [(s, 1)] := rfl
/-- What stands behind at least one symbol: its last run. -/
theorem runsL_last : ∀ (k : Nat) (xs : List Int) (t : Int), k + 1 ≤ xs.length → xs[k]? = some t → ∃ rs m, runsL (xs.take (k + 1)) = rs ++ [(t, m)] ∧ 1 ≤ m ∧ m ≤ (k : Int) + 1 ∧ rs.length ≤ k
  | 0, xs, t, _, h => by
    rw [take_snoc' h]
    exact ⟨[], 1, by simp [runsL, runStep], by omega, by omega, by simp⟩
  | k + 1, xs, t, hk, h => by
    obtain ⟨u, hu⟩ : ∃ u, xs[k]? = some u := ⟨xs[k]'(by omega), List.getElem?_eq_getElem (by omega)⟩
    obtain ⟨rs, m, he, h1, h2, h3⟩ := runsL_last k xs u (by omega) hu
    rw [take_snoc' h, runsL_snoc, he]
    by_cases e : u = t
    · subst e
      rw [runStep_same]
      exact ⟨rs, m + 1, rfl, by omega, by omega, by omega⟩
    · rw [runStep_other e]
      exact ⟨rs ++ [(u, m)], 1, rfl, by omega, by omega, by simp; omega⟩
theorem set_last {rs : List (Int × Int)} {a b : Int × Int} : (rs ++ [a]).set rs.length b = rs ++ [b] := by simp
theorem at_last {rs : List (Int × Int)} {a : Int × Int} : (rs ++ [a])[rs.length]? = some a := by simp
end Go.Proofs.Ytamljhjbmeikiaa
/- Runs are joined, tokens are expanded; plain facts, no program in sight. -/
namespace Go.Proofs.Ytamljhjbmeikiaa
open Go Go.RowKit
/-- A run more. -/
def joinOk (o : List Int) (r : Int × Int) : Bool := inB 0 7 r.1 && (inB 1 (40 - (o.length : Int)) r.2 && decide (o.getLast? ≠ some r.1))
def joinStep (st : Option (List Int)) (r : Int × Int) : Option (List Int) :=
  match st with
  | none => none
  | some o => if joinOk o r = true then some (o ++ List.replicate r.2.toNat r.1) else none
def joinL (rs : List (Int × Int)) : Option (List Int) := rs.foldl joinStep (some [])
theorem joinL_snoc (rs : List (Int × Int)) (r : Int × Int) : joinL (rs ++ [r]) = joinStep (joinL rs) r := by simp [joinL]
theorem joinL_none : ∀ (rs : List (Int × Int)), rs.foldl joinStep none = none
  | [] => rfl
  | _ :: rs => joinL_none rs
theorem joinL_take {rs : List (Int × Int)} {k : Nat} (h : joinL (rs.take k) = none) : joinL rs = none := by
  have e : joinL rs = (rs.drop k).foldl joinStep (joinL (rs.take k)) := by
    unfold joinL; rw [← List.foldl_append, List.take_append_drop]
  rw [e, h, joinL_none]
theorem join_len {rs : List (Int × Int)} : ∀ {o : List Int}, joinL rs = some o → o.length ≤ 40 := by
  refine list_snoc (P := fun rs => ∀ {o : List Int}, joinL rs = some o → o.length ≤ 40) (fun {o} h => by simp [joinL] at h; subst h; simp) (fun l r ih => fun {o} h => ?_) rs
  rw [joinL_snoc] at h
  cases hl : joinL l with
  | none => rw [hl] at h; cases h
  | some p =>
    rw [hl] at h
    unfold joinStep joinOk at h
    by_cases hc : (inB 0 7 r.1 && (inB 1 (40 - (p.length : Int)) r.2 && decide (p.getLast? ≠ some r.1))) = true
    · simp only [if_pos hc, Option.some.injEq] at h
      simp only [Bool.and_eq_true, inB_true] at hc
      subst h
      rw [List.length_append, List.length_replicate]
      omega
    · simp only [if_neg hc] at h; cases h
theorem last_rep {o : List Int} {m : Nat} {t : Int} (h : 0 < m) : (o ++ List.replicate m t).getLast? = some t := by
  obtain ⟨k, rfl⟩ : ∃ k, m = k + 1 := ⟨m - 1, by omega⟩
  rw [List.replicate_succ', ← List.append_assoc]; simp
theorem runsL_or (xs : List Int) : xs = [] ∨ ∃ rs t m, runsL xs = rs ++ [(t, m)] ∧ xs.getLast? = some t := by
  rcases nil_or_snoc xs with h | ⟨ys, t, rfl⟩
  · exact .inl h
  · obtain ⟨rs, m, h, _⟩ := runsL_last ys.length (ys ++ [t]) t (by simp) (by simp)
    rw [List.take_of_length_le (by simp)] at h
    exact .inr ⟨rs, t, m, h, by simp⟩
/-- Joining the runs of a list. -/
theorem join_runs {xs : List Int} : listOk xs = true → joinL (runsL xs) = some xs := by
  refine list_snoc (P := fun xs => listOk xs = true → joinL (runsL xs) = some xs) (fun _ => rfl) (fun l x ih h => ?_) xs
  unfold listOk at h ih
  simp only [Bool.and_eq_true, decide_eq_true_eq, List.length_append, List.length_singleton, List.all_append, List.all_cons, List.all_nil, Bool.and_true] at h ih
  obtain ⟨h1, h2, h3⟩ := h
  have h4 := ih ⟨by omega, h2⟩
  rw [runsL_snoc]
  rcases runsL_or l with rfl | ⟨rs, t, m, he, hlast⟩
  · show joinL [(x, 1)] = some [x]
    unfold joinL
    simp only [List.foldl_cons, List.foldl_nil, joinStep]
    rw [if_pos (by unfold joinOk; rw [h3]; simp [inB])]
    rfl
  · rw [he] at h4 ⊢
    by_cases e : t = x
    · subst e
      rw [runStep_same]
      rw [joinL_snoc] at h4 ⊢
      cases hl : joinL rs with
      | none => rw [hl] at h4; cases h4
      | some p =>
        rw [hl] at h4
        simp only [joinStep] at h4 ⊢
        by_cases hc : joinOk p (t, m) = true
        · rw [if_pos hc] at h4
          injection h4 with h4
          unfold joinOk at hc
          simp only [Bool.and_eq_true, inB_true] at hc
          have hlen : l.length = p.length + m.toNat := by rw [← h4]; simp
          rw [if_pos (by unfold joinOk; simp only [Bool.and_eq_true, inB_true]; exact ⟨hc.1, ⟨by omega, by omega⟩, hc.2.2⟩)]
          rw [show (m + 1).toNat = m.toNat + 1 by omega, List.replicate_succ', ← List.append_assoc, h4]
        · rw [if_neg hc] at h4; cases h4
    · rw [runStep_other e, joinL_snoc, h4]
      simp only [joinStep]
      rw [if_pos (by
        unfold joinOk
        rw [h3, hlast]
        simp only [Bool.true_and, Bool.and_eq_true, inB_true, decide_eq_true_eq]
        exact ⟨⟨by omega, by omega⟩, fun h => e (Option.some.inj h)⟩)]
      rfl
/-! Tokens. -/
def tokOk (t : Int × Int × Int) (n : Nat) : Bool :=
  if t.2.1 = 0 then decide (t.2.2 = 0) && (inB 0 7 t.1 && decide (n < 40)) else decide (t.1 = 0) && (inB 1 (min 16 (n : Int)) t.2.1 && (inB 2 9 t.2.2 && decide ((n : Int) + t.2.2 ≤ 40)))
/-- Some symbols more, each the one that stands b places before. -/
def cpy (o : List Int) (b : Nat) : Nat → List Int
  | 0 => o
  | k + 1 => cpy o b k ++ [(cpy o b k).getD ((cpy o b k).length - b) 0]
theorem cpy_length (o : List Int) (b : Nat) : ∀ k, (cpy o b k).length = o.length + k
  | 0 => rfl
  | k + 1 => by rw [cpy, List.length_append, cpy_length o b k]; rfl
def expStep (st : Option (List Int)) (t : Int × Int × Int) : Option (List Int) :=
  match st with
  | none => none
  | some o => if tokOk t o.length = true then some (if t.2.1 = 0 then o ++ [t.1] else cpy o t.2.1.toNat t.2.2.toNat) else none
def expL (ts : List (Int × Int × Int)) : Option (List Int) := ts.foldl expStep (some [])
theorem expL_snoc (ts : List (Int × Int × Int)) (t : Int × Int × Int) : expL (ts ++ [t]) = expStep (expL ts) t := by simp [expL]
theorem expL_none : ∀ (ts : List (Int × Int × Int)), ts.foldl expStep none = none
  | [] => rfl
  | _ :: ts => expL_none ts
theorem expL_take {ts : List (Int × Int × Int)} {k : Nat} (h : expL (ts.take k) = none) : expL ts = none := by
  have e : expL ts = (ts.drop k).foldl expStep (expL (ts.take k)) := by
    unfold expL; rw [← List.foldl_append, List.take_append_drop]
  rw [e, h, expL_none]
theorem cpy_take {xs : List Int} {a b : Nat} (hb : 1 ≤ b) (hba : b ≤ a) : ∀ n, n ≤ mlen xs a b → a ≤ xs.length → cpy (xs.take a) b n = xs.take (a + n)
  | 0, _, _ => rfl
  | n + 1, h, ha => by
    have hin := mlen_in (xs := xs) (at_ := a) (back := b) ha
    rw [cpy, cpy_take hb hba n (by omega) ha]
    have hr := mlen_run (xs := xs) (at_ := a) (back := b) (m := n) (by omega)
    unfold mrun at hr
    simp only [Bool.and_eq_true, decide_eq_true_eq] at hr
    have hl : (xs.take (a + n)).length = a + n := by rw [List.length_take]; omega
    have e : (xs.take (a + n)).getD (a + n - b) 0 = xs.getD (a + n) 0 := by
      rw [hr.2.2, List.getD_eq_getElem?_getD, List.getD_eq_getElem?_getD, List.getElem?_take, if_pos (by omega)]
    rw [hl, e, ← Nat.add_assoc]
    exact (take_snoc' (getD_at (by omega))).symm
theorem exp_parse {xs : List Int} (h : listOk xs = true) : ∀ f a, xs.length - a ≤ f → a ≤ xs.length → (parseF xs f a).foldl expStep (some (xs.take a)) = some xs
  | 0, a, hf, ha => by rw [parseF, List.take_of_length_le (by omega)]; rfl
  | f + 1, a, hf, ha => by
    rw [parseF]
    split
    · rename_i hlt
      have hok := h
      unfold listOk at hok
      simp only [Bool.and_eq_true, decide_eq_true_eq] at hok
      have htl := tok_len hlt
      have hl : (xs.take a).length = a := by rw [List.length_take]; omega
      rw [List.foldl_cons]
      have key : expStep (some (xs.take a)) (tokAt xs a) = some (xs.take (a + tokLen (tokAt xs a))) := by
        rcases tok_is xs a with ht | ⟨b, n, ht, h1, h2, h3, h4, h5⟩
        · have hx := getD_at hlt
          have hb := listOk_at h hx
          rw [ht]
          simp only [expStep, hl]
          rw [if_pos (by unfold tokOk; rw [if_pos rfl]; simp only [Bool.and_eq_true, decide_eq_true_eq, inB_true]; exact ⟨trivial, by omega, by omega⟩)]
          rw [if_pos trivial]
          show some _ = some (xs.take (a + 1))
          rw [take_snoc' hx]
        · have h6 := mlen_le xs a b
          have h7 := mlen_in (xs := xs) (at_ := a) (back := b) (by omega)
          rw [ht]
          simp only [expStep, hl]
          have hb0 : ¬ (b : Int) = 0 := by omega
          rw [if_pos (by unfold tokOk; rw [if_neg hb0]; simp only [Bool.and_eq_true, decide_eq_true_eq, inB_true]; exact ⟨trivial, by omega, by omega, by omega⟩)]
          rw [if_neg hb0]
          have e : tokLen (0, (b : Int), (n : Int)) = n := by unfold tokLen; simp only [Int.toNat_natCast]; omega
          rw [e]
          simp only [Int.toNat_natCast]
          rw [cpy_take h1 h3 n h5 ha]
      rw [key]
      exact exp_parse h f _ (by omega) (by omega)
    · rw [List.take_of_length_le (by omega)]; rfl
theorem exp_parseL {xs : List Int} (h : listOk xs = true) : expL (parseL xs) = some xs := by
  have := exp_parse h xs.length 0 (by omega) (by omega)
  exact this
/-- A token as a byte, and back. -/
def tokByte (t : Int × Int × Int) : Int := if t.2.1 = 0 then t.1 else 128 + 16 * (t.2.2 - 2) + t.2.1 - 1
def byteTok (b : Int) : Int × Int × Int := if b < 128 then (b, 0, 0) else (0, b % 16 + 1, (b - 128) / 16 + 2)
theorem parse_mem {xs : List Int} : ∀ f a, ∀ t ∈ parseF xs f a, ∃ p, p < xs.length ∧ t = tokAt xs p
  | 0, _, t, h => by cases h
  | f + 1, a, t, h => by
    rw [parseF] at h
    split at h
    · rename_i hlt
      rcases List.mem_cons.1 h with h | h
      · exact ⟨a, hlt, h⟩
      · exact parse_mem f _ t h
    · cases h
theorem tok_back {xs : List Int} (h : listOk xs = true) {p : Nat} (hp : p < xs.length) : byteTok (tokByte (tokAt xs p)) = tokAt xs p ∧ 0 ≤ tokByte (tokAt xs p) ∧ tokByte (tokAt xs p) ≤ 255 := by
  rcases tok_is xs p with ht | ⟨b, n, ht, h1, h2, h3, h4, h5⟩
  · have hb := listOk_at h (getD_at hp)
    rw [ht]
    have e : tokByte (xs.getD p 0, 0, 0) = xs.getD p 0 := if_pos rfl
    rw [e]
    unfold byteTok
    rw [if_pos (by omega)]
    exact ⟨rfl, by omega, by omega⟩
  · have h6 := mlen_le xs p b
    rw [ht]
    have hb0 : ¬ (b : Int) = 0 := by omega
    have e : tokByte (0, (b : Int), (n : Int)) = 128 + 16 * ((n : Int) - 2) + (b : Int) - 1 := if_neg hb0
    rw [e]
    unfold byteTok
    rw [if_neg (by omega)]
    refine ⟨?_, by omega, by omega⟩
    rw [show (128 + 16 * ((n : Int) - 2) + (b : Int) - 1) % 16 + 1 = (b : Int) by omega, show (128 + 16 * ((n : Int) - 2) + (b : Int) - 1 - 128) / 16 + 2 = (n : Int) by omega]
theorem parse_length {xs : List Int} : ∀ f a, (parseF xs f a).length ≤ xs.length - a
  | 0, _ => by simp [parseF]
  | f + 1, a => by
    rw [parseF]
    split
    · rename_i hlt
      have := (tok_len hlt).1
      have := parse_length (xs := xs) f (a + tokLen (tokAt xs a))
      rw [List.length_cons]; omega
    · simp
theorem toks_back {xs : List Int} (h : listOk xs = true) : ((parseL xs).map tokByte).map byteTok = parseL xs := by
  rw [List.map_map]
  conv => rhs; rw [← List.map_id (parseL xs)]
  refine List.map_congr_left fun t ht => ?_
  obtain ⟨p, hp, rfl⟩ := parse_mem _ _ t ht
  exact (tok_back h hp).1
theorem runs_length : ∀ (xs : List Int), (runsL xs).length ≤ xs.length := by
  refine list_snoc (by simp [runsL]) fun l x ih => ?_
  rw [runsL_snoc, List.length_append]
  rcases runsL_or l with rfl | ⟨rs, t, m, he, _⟩
  · simp [runsL, runStep]
  · rw [he] at ih ⊢
    by_cases e : t = x
    · subst e; rw [runStep_same]; simp at ih ⊢; omega
    · rw [runStep_other e]; simp at ih ⊢; omega
theorem runs_bd : ∀ (xs : List Int), (∀ x ∈ xs, 0 ≤ x ∧ x ≤ 7) → ∀ r ∈ runsL xs, 0 ≤ r.1 ∧ r.1 ≤ 7 ∧ 1 ≤ r.2 ∧ r.2 ≤ xs.length := by
  refine list_snoc (P := fun xs => (∀ x ∈ xs, 0 ≤ x ∧ x ≤ 7) → ∀ r ∈ runsL xs, 0 ≤ r.1 ∧ r.1 ≤ 7 ∧ 1 ≤ r.2 ∧ r.2 ≤ xs.length) (fun _ r h => by simp [runsL] at h) fun l x ih hx r hr => ?_
  have hx0 := hx x (by simp)
  have hl : (l ++ [x]).length = l.length + 1 := by simp
  have h1 := ih fun y hy => hx y (List.mem_append.2 (.inl hy))
  rw [runsL_snoc] at hr
  rcases runsL_or l with rfl | ⟨rs, t, m, he, _⟩
  · have e : runStep (runsL []) x = [(x, 1)] := rfl
    rw [e] at hr
    simp at hr
    subst hr
    simp; omega
  · rw [he] at hr h1
    by_cases e : t = x
    · subst e
      rw [runStep_same] at hr
      rcases List.mem_append.1 hr with hr | hr
      · have := h1 r (List.mem_append.2 (.inl hr)); omega
      · have h2 := h1 (t, m) (by simp)
        simp at hr
        subst hr
        simp only at h2 ⊢
        omega
    · rw [runStep_other e] at hr
      rcases List.mem_append.1 hr with hr | hr
      · have := h1 r hr; omega
      · simp at hr
        subst hr
        simp only
        omega
end Go.Proofs.Ytamljhjbmeikiaa
