/- Turning back: plain facts; no program in sight. -/
import Derived.Test.YtiaheikoifnbaaaPlRt2
namespace Go.Proofs.Ytiaheikoifnbaaa
open Go Go.RowKit

/-- The places below i at which the symbol s stands. -/
def grp (L : List Int) (i s : Nat) : List Nat := (List.range i).filter fun j => decide (L.getD j 0 = (s : Int))
/-- All places, by their symbols. -/
def nextP (L : List Int) (s i : Nat) : List Nat := ((List.range s).flatMap fun t => grp L L.length t) ++ grp L i s
def nextL (L : List Int) : List Nat := (List.range 8).flatMap fun t => grp L L.length t
theorem grp_succ {L : List Int} {i s : Nat} {x : Int} (h : L[i]? = some x) : grp L (i + 1) s = if x = (s : Int) then grp L i s ++ [i] else grp L i s := by
  unfold grp
  rw [List.range_succ, List.filter_append]
  by_cases e : x = (s : Int)
  · rw [if_pos e]; subst e; simp [h]
  · rw [if_neg e]; simp [h, e]
theorem nextP_zero (L : List Int) : nextP L 0 0 = [] := rfl
theorem nextP_next (L : List Int) (s : Nat) : nextP L s L.length = nextP L (s + 1) 0 := by
  simp [nextP, List.range_succ, List.flatMap_append, grp]
theorem nextP_end (L : List Int) : nextP L 8 0 = nextL L := by simp [nextP, nextL, grp]
theorem nextP_yes {L : List Int} {s i : Nat} {x : Int} (h : L[i]? = some x) (e : x = (s : Int)) : nextP L s (i + 1) = nextP L s i ++ [i] := by
  unfold nextP; rw [grp_succ h, if_pos e, List.append_assoc]
theorem nextP_no {L : List Int} {s i : Nat} {x : Int} (h : L[i]? = some x) (e : x ≠ (s : Int)) : nextP L s (i + 1) = nextP L s i := by
  unfold nextP; rw [grp_succ h, if_neg e]

theorem parts_perm {R : List Nat} {f : Nat → Int} : ∀ m : Nat, ((List.range m).flatMap fun (s : Nat) => R.filter fun j => decide (f j = (s : Int))).Perm (R.filter fun j => decide (0 ≤ f j ∧ f j < (m : Int)))
  | 0 => by
    have : (R.filter fun j => decide (0 ≤ f j ∧ f j < ((0 : Nat) : Int))) = [] := List.filter_eq_nil_iff.2 fun j _ => by rw [decide_eq_true_eq]; omega
    rw [this]; simp
  | m + 1 => by
    rw [List.range_succ, List.flatMap_append]
    refine ((parts_perm m).append_right _).trans ?_
    have h := List.filter_append_perm (fun j => decide (f j < (m : Int))) (R.filter fun j => decide (0 ≤ f j ∧ f j < ((m + 1 : Nat) : Int)))
    rw [List.filter_filter, List.filter_filter] at h
    have e1 : (R.filter fun j => decide (f j < (m : Int)) && decide (0 ≤ f j ∧ f j < ((m + 1 : Nat) : Int))) = R.filter fun j => decide (0 ≤ f j ∧ f j < (m : Int)) := by
      refine List.filter_congr fun j _ => ?_
      rw [Bool.eq_iff_iff]; simp; omega
    have e2 : (R.filter fun j => (!decide (f j < (m : Int))) && decide (0 ≤ f j ∧ f j < ((m + 1 : Nat) : Int))) = R.filter fun j => decide (f j = (m : Int)) := by
      refine List.filter_congr fun j _ => ?_
      rw [Bool.eq_iff_iff]; simp; omega
    rw [e1, e2] at h
    simpa using h
theorem listOk_at {L : List Int} (h : listOk L = true) {k : Nat} {x : Int} (hx : L[k]? = some x) : 0 ≤ x ∧ x ≤ 7 := by
  have := (Bool.and_eq_true_iff.1 h).2
  exact inB_true.1 (List.all_eq_true.1 this x (List.mem_of_getElem? hx))
theorem getD_at {L : List Int} {k : Nat} (hk : k < L.length) : L[k]? = some (L.getD k 0) := by simp [hk]
theorem nextL_perm {L : List Int} (h : listOk L = true) : (nextL L).Perm (List.range L.length) := by
  have h1 := parts_perm (R := List.range L.length) (f := fun j => L.getD j 0) 8
  have e : ((List.range L.length).filter fun j => decide (0 ≤ L.getD j 0 ∧ L.getD j 0 < ((8 : Nat) : Int))) = List.range L.length := by
    refine List.filter_eq_self.2 fun j hj => ?_
    have := listOk_at h (getD_at (List.mem_range.1 hj))
    rw [decide_eq_true_eq]; omega
  rw [e] at h1
  exact h1
theorem nextL_length {L : List Int} (h : listOk L = true) : (nextL L).length = L.length := by simpa using (nextL_perm h).length_eq
theorem nextL_lt {L : List Int} (h : listOk L = true) {j i : Nat} (hj : (nextL L)[j]? = some i) : i < L.length := by
  have := (nextL_perm h).mem_iff.1 (List.mem_of_getElem? hj)
  simpa using this

/-- Where the symbol s begins in the order of symbols; and where place k's symbol is in it. -/
def begs (L : List Int) (s : Nat) : Nat := ((List.range s).flatMap fun t => grp L L.length t).length
def lfN (L : List Int) (k : Nat) : Nat := begs L (L.getD k 0).toNat + (grp L k (L.getD k 0).toNat).length
theorem next_lf {L : List Int} (h : listOk L = true) {k : Nat} (hk : k < L.length) : (nextL L)[lfN L k]? = some k := by
  have hx := listOk_at h (getD_at hk)
  obtain ⟨s, hs⟩ := Int.eq_ofNat_of_zero_le hx.1
  have hs8 : s < 8 := by omega
  have hst : (L.getD k 0).toNat = s := by omega
  have e : List.range 8 = List.range s ++ s :: (List.range (7 - s)).map (s + 1 + ·) := by
    have e1 : 8 = s + (1 + (7 - s)) := by omega
    rw [e1, List.range_add, List.range_add]
    simp [Nat.add_assoc]
  have e2 : grp L L.length s = grp L k s ++ k :: ((List.range (L.length - (k + 1))).map (k + 1 + ·)).filter fun j => decide (L.getD j 0 = (s : Int)) := by
    have e1 : L.length = (k + 1) + (L.length - (k + 1)) := by omega
    have e3 : List.range L.length = List.range (k + 1) ++ (List.range (L.length - (k + 1))).map (k + 1 + ·) := by
      conv => lhs; rw [e1]
      rw [List.range_add]
    have e4 : grp L L.length s = grp L (k + 1) s ++ ((List.range (L.length - (k + 1))).map (k + 1 + ·)).filter fun j => decide (L.getD j 0 = (s : Int)) := by
      unfold grp
      rw [e3, List.filter_append]
    rw [e4, grp_succ (getD_at hk), if_pos hs, List.append_assoc]
    rfl
  unfold lfN nextL begs
  rw [hst, e, List.flatMap_append, List.flatMap_cons, e2, List.getElem?_append_right (by omega)]
  rw [List.append_assoc, List.getElem?_append_right (by omega)]
  rw [show ∀ a b : Nat, a + b - a - b = 0 from fun a b => by omega]
  rfl
theorem lfN_lt {L : List Int} (h : listOk L = true) {k : Nat} (hk : k < L.length) : lfN L k < L.length := by
  have := (List.getElem?_eq_some_iff.1 (next_lf h hk)).1
  rwa [nextL_length h] at this

/-- The two ways back. -/
def rowI (L : List Int) (at_ : Nat) : Nat → Nat
  | 0 => at_
  | j + 1 => lfN L (rowI L at_ j)
def outI (L : List Int) (at_ : Nat) : List Int := (List.range L.length).map fun k => L.getD (rowI L at_ (L.length - 1 - k)) 0
def rowS (L : List Int) (at_ : Nat) : Nat → Nat
  | 0 => at_
  | j + 1 => (nextL L).getD (rowS L at_ j) 0
def outS (L : List Int) (at_ : Nat) : List Int := (List.range L.length).map fun k => L.getD (rowS L at_ (k + 1)) 0
theorem rowI_lt {L : List Int} (h : listOk L = true) {a : Nat} (ha : a < L.length) : ∀ j, rowI L a j < L.length
  | 0 => ha
  | j + 1 => lfN_lt h (rowI_lt h ha j)
theorem rowS_lt {L : List Int} (h : listOk L = true) {a : Nat} (ha : a < L.length) : ∀ j, rowS L a j < L.length
  | 0 => ha
  | j + 1 => by
    have h1 := rowS_lt h ha j
    rw [rowS]
    have h2 : (nextL L)[rowS L a j]? = some ((nextL L).getD (rowS L a j) 0) := by simp [nextL_length h, h1]
    exact nextL_lt h h2

/-! Rows. -/
/-- Two rotations are the same. -/
def sameR (l : List Int) (a b : Nat) : Prop := ∀ k, rat l (a + k) = rat l (b + k)
theorem rat_n (l : List Int) (a : Nat) : rat l (a + l.length) = rat l a := by unfold rat; rw [Nat.add_mod_right]
theorem rat_mod (l : List Int) (a : Nat) : rat l (a % l.length) = rat l a := by unfold rat; rw [Nat.mod_mod]
theorem sameR_of {l : List Int} {a b : Nat} (h : rotK l a = rotK l b) (hn : 0 < l.length) : sameR l a b := by
  intro k
  have e : ∀ x, rat l (x + k) = rat l (x + k % l.length) := fun x => by unfold rat; rw [Nat.add_mod_mod]
  rw [e a, e b]
  have := congrArg (fun u => u[k % l.length]?) h
  simpa [rotK, Nat.mod_lt _ hn] using this
theorem rotK_of {l : List Int} {a b : Nat} (h : sameR l a b) : rotK l a = rotK l b := List.map_congr_left fun k _ => h k
/-- The rotation that begins one place earlier. -/
def prv (l : List Int) (p : Nat) : Nat := (p + l.length - 1) % l.length
theorem prv_rat (l : List Int) (p k : Nat) : rat l (prv l p + k) = rat l (p + l.length - 1 + k) := by
  unfold prv rat; rw [Nat.mod_add_mod]
theorem rotK_cons {l : List Int} (hn : 0 < l.length) (p : Nat) : rotK l (prv l p) = rat l (p + l.length - 1) :: (rotK l p).take (l.length - 1) := by
  obtain ⟨m, hm⟩ : ∃ m, l.length = m + 1 := ⟨l.length - 1, by omega⟩
  have e : rotK l (prv l p) = (List.range (m + 1)).map fun k => rat l (p + l.length - 1 + k) := by
    unfold rotK; rw [hm]; exact List.map_congr_left fun k _ => by rw [prv_rat, hm]
  rw [e, List.range_succ_eq_map]
  simp only [List.map_cons, List.map_map, Nat.add_zero, List.cons.injEq, true_and]
  unfold rotK
  rw [← List.map_take, hm]
  simp only [Nat.add_sub_cancel, List.take_range, Nat.min_eq_left (Nat.le_succ m)]
  refine List.map_congr_left fun k _ => ?_
  simp only [Function.comp]
  rw [← rat_n l (p + k), hm]
  congr 1; omega
theorem take_mono {u v : List Int} (m : Nat) (h : ¬ v < u) : ¬ v.take m < u.take m := by
  induction m generalizing u v with
  | zero => simp
  | succ m ih =>
    cases u with
    | nil => simp
    | cons x u =>
      cases v with
      | nil => exact absurd (by simp) h
      | cons y v =>
        simp only [List.take_succ_cons, List.cons_lt_cons_iff, not_or, not_and] at h ⊢
        exact ⟨h.1, fun e => ih (h.2 e)⟩
theorem row_le {l : List Int} {a b : Nat} (h : rotLt l a b = true) : ¬ rotK l b < rotK l a := by
  intro h2
  unfold rotLt rkey at h
  rw [decide_eq_true_eq] at h
  have hl : (rotK l a).length = (rotK l b).length := by rw [rotK_length, rotK_length]
  have key : ∀ {u v s t : List Int}, u.length = v.length → v < u → ¬ u ++ s < v ++ t := by
    intro u
    induction u with
    | nil => intro v s t hl h; cases v with
      | nil => simp at h
      | cons y v => simp at hl
    | cons x u ih =>
      intro v s t hl h
      cases v with
      | nil => simp at hl
      | cons y v =>
        simp only [List.length_cons, Nat.add_right_cancel_iff] at hl
        simp only [List.cons_append, List.cons_lt_cons_iff, not_or, not_and] at h ⊢
        rcases h with h | ⟨rfl, h⟩
        · exact ⟨by omega, fun e => by omega⟩
        · exact ⟨by omega, fun _ => ih hl h⟩
  exact key hl h2 h

theorem prv_perm {l : List Int} : ((List.range l.length).map (prv l)).Perm (List.range l.length) := by
  rcases Nat.eq_zero_or_pos l.length with h0 | hn
  · rw [h0]; exact List.Perm.refl _
  · obtain ⟨m, hm⟩ : ∃ m, l.length = m + 1 := ⟨l.length - 1, by omega⟩
    have e : (List.range l.length).map (prv l) = m :: List.range m := by
      rw [hm, List.range_succ_eq_map, List.map_cons, List.map_map]
      congr 1
      · unfold prv; rw [hm]; simp
      · rw [show List.range m = (List.range m).map id by simp]
        simp only [List.map_map]
        refine List.map_congr_left fun k hk => ?_
        have := List.mem_range.1 hk
        simp only [Function.comp, prv, hm, id]
        rw [show k.succ + (m + 1) - 1 = k + (m + 1) by omega, Nat.add_mod_right, Nat.mod_eq_of_lt (by omega)]
    rw [e, hm, List.range_succ]
    exact List.perm_append_comm (l₁ := [m])
theorem turnF_at {l : List Int} {i p : Nat} (h : (ordN l)[i]? = some p) : (turnF l)[i]? = some (rat l (p + l.length - 1)) := by
  rw [turnF, lastOf, List.getElem?_map, h]; rfl
theorem turnF_ok {l : List Int} (h : listOk l = true) : listOk (turnF l) = true := by
  have h1 := (Bool.and_eq_true_iff.1 h)
  refine Bool.and_eq_true_iff.2 ⟨by rw [turnF_length]; exact h1.1, List.all_eq_true.2 fun x hx => ?_⟩
  rw [turnF, lastOf, List.mem_map] at hx
  obtain ⟨p, hp, rfl⟩ := hx
  have hp' : p < l.length := ordK_mem.1 hp
  have : (p + l.length - 1) % l.length < l.length := Nat.mod_lt _ (by omega)
  refine List.all_eq_true.1 h1.2 _ ?_
  unfold rat
  rw [List.getD_eq_getElem?_getD, List.getElem?_eq_getElem this]
  exact List.getElem_mem _
/-- The places by their symbols: the rows one place earlier come in order. -/
theorem rows_next {l : List Int} (h : listOk l = true) : (nextL (turnF l)).map (fun i => rotK l (prv l ((ordN l).getD i 0))) = (ordN l).map (rotK l) := by
  rcases Nat.eq_zero_or_pos l.length with h0 | hn
  · have e1 : ordN l = [] := List.eq_nil_of_length_eq_zero (by rw [ordN_length, h0])
    have e2 : nextL (turnF l) = [] := List.eq_nil_of_length_eq_zero (by rw [nextL_length (turnF_ok h), turnF_length, h0])
    rw [e1, e2]; rfl
  have hps : ∀ {i : Nat}, i < l.length → (ordN l)[i]? = some ((ordN l).getD i 0) := fun {i} hi => by simp [ordN_length, hi]
  have hL : ∀ {i : Nat}, i < l.length → (turnF l).getD i 0 = rat l ((ordN l).getD i 0 + l.length - 1) := fun {i} hi => by
    rw [List.getD_eq_getElem?_getD, turnF_at (hps hi)]; rfl
  refine List.Perm.eq_of_pairwise (le := fun u v : List Int => ¬ v < u) (fun a b _ _ h1 h2 => list_tri h2 h1) ?_ ?_ ?_
  · rw [List.pairwise_map]
    have hsort : ∀ {i j : Nat}, i < j → j < l.length → ¬ rotK l ((ordN l).getD j 0) < rotK l ((ordN l).getD i 0) := fun {i j} hij hj => by
      have h1 := List.pairwise_iff_getElem.1 (ordK_sor l l.length) i j (by rw [ordK_length]; omega) (by rw [ordK_length]; omega) hij
      have e1 : (ordN l).getD i 0 = (ordK l l.length)[i]'(by rw [ordK_length]; omega) := by simp [ordN, ordK_length, show i < l.length by omega]
      have e2 : (ordN l).getD j 0 = (ordK l l.length)[j]'(by rw [ordK_length]; omega) := by simp [ordN, ordK_length, hj]
      rw [e1, e2]
      exact row_le h1
    have hgrp : ∀ s : Nat, (grp (turnF l) (turnF l).length s).Pairwise fun a b => ¬ rotK l (prv l ((ordN l).getD b 0)) < rotK l (prv l ((ordN l).getD a 0)) := fun s => by
      unfold grp
      rw [List.pairwise_filter]
      refine List.Pairwise.imp_of_mem ?_ (List.pairwise_lt_range (n := (turnF l).length))
      intro a b ha hb hab hsa hsb
      have ha' := List.mem_range.1 ha
      have hb' := List.mem_range.1 hb
      rw [turnF_length] at ha' hb'
      rw [decide_eq_true_eq] at hsa hsb
      rw [hL ha'] at hsa
      rw [hL hb'] at hsb
      rw [rotK_cons hn, rotK_cons hn, hsa, hsb]
      simp only [List.cons_lt_cons_iff, not_or, not_and]
      exact ⟨by omega, fun _ => take_mono _ (hsort hab hb')⟩
    have hall : ∀ m : Nat, (((List.range m).flatMap fun t => grp (turnF l) (turnF l).length t)).Pairwise fun a b => ¬ rotK l (prv l ((ordN l).getD b 0)) < rotK l (prv l ((ordN l).getD a 0)) := by
      intro m
      induction m with
      | zero => simp
      | succ m ih =>
        rw [List.range_succ, List.flatMap_append, List.pairwise_append]
        refine ⟨ih, by simpa using hgrp m, fun a ha b hb => ?_⟩
        obtain ⟨t, ht, ha⟩ := List.mem_flatMap.1 ha
        have hb : b ∈ grp (turnF l) (turnF l).length m := by simpa using hb
        have htm := List.mem_range.1 ht
        unfold grp at ha hb
        rw [List.mem_filter, List.mem_range, turnF_length, decide_eq_true_eq] at ha hb
        rw [hL ha.1] at ha
        rw [hL hb.1] at hb
        rw [rotK_cons hn, rotK_cons hn, ha.2, hb.2]
        simp only [List.cons_lt_cons_iff, not_or, not_and]
        exact ⟨by omega, fun e => by omega⟩
    exact hall 8
  · rw [List.pairwise_map]
    exact (ordK_sor l l.length).imp fun h => row_le h
  · have p1 := (nextL_perm (turnF_ok h)).map fun i => rotK l (prv l ((ordN l).getD i 0))
    rw [turnF_length] at p1
    refine p1.trans ?_
    have e : (List.range l.length).map (fun i => rotK l (prv l ((ordN l).getD i 0))) = (ordN l).map fun p => rotK l (prv l p) := by
      refine List.ext_getElem? fun i => ?_
      rw [List.getElem?_map, List.getElem?_map]
      by_cases hi : i < l.length
      · rw [hps hi]; simp [hi]
      · rw [List.getElem?_eq_none (by simpa using hi), List.getElem?_eq_none (by rw [ordN_length]; omega)]; rfl
    rw [e]
    have p2 : ((ordN l).map fun p => rotK l (prv l p)).Perm ((List.range l.length).map fun p => rotK l (prv l p)) := (ordK_perm l l.length).map _
    have p3 : ((List.range l.length).map fun p => rotK l (prv l p)).Perm ((List.range l.length).map (rotK l)) := by
      have := (prv_perm (l := l)).map (rotK l)
      rwa [List.map_map] at this
    exact p2.trans (p3.trans ((ordK_perm l l.length).map _).symm)
/-- Where the rows stand: the row of 'next' is the rotation that begins one place later. -/
theorem same_next {l : List Int} (h : listOk l = true) {j i p q : Nat} (hi : (nextL (turnF l))[j]? = some i) (hj : (ordN l)[j]? = some p) (hq : (ordN l)[i]? = some q) : rotK l (prv l q) = rotK l p := by
  have := congrArg (fun u => u[j]?) (rows_next h)
  simp only [List.getElem?_map, hi, hj, Option.map_some, Option.some.injEq] at this
  rwa [List.getD_eq_getElem?_getD, hq] at this
end Go.Proofs.Ytiaheikoifnbaaa
