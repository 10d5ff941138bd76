/- Tags: plain facts; no program in sight. -/
import Derived.Test.YtadjjcjhlndpkaaPl
namespace Go.Proofs.Ytadjjcjhlndpkaa
open Go Go.RowKit

def byOk (bs : List Int) : Bool := bs.all (inB 0 255)
def tagStep (A t n : Int) : Int := (t * A + n % 251 + n / 251) % 251
def tagF (A B : Int) (bs : List Int) : Int := (bs.foldl (tagStep A) 1 + B) % 251
def tagOk (A B : Int) (bs : List Int) : Bool := inB 2 250 A && (inB 1 250 B && (byOk bs && decide (bs.length ≤ 400)))
def tagOf (A B : Int) (bs : List Int) : Int := if tagOk A B bs then tagF A B bs else -1
def sealPut (A B : Int) (bs : List Int) : Option (List Int) := if tagOk A B bs then some (bs ++ [tagF A B bs]) else none
def sealOpen (A B : Int) (bs : List Int) : Option (List Int) :=
  if bs = [] then none else if tagOk A B bs.dropLast && (bs.getLast? == some (tagF A B bs.dropLast)) then some bs.dropLast else none

theorem byOk_at {bs : List Int} (h : byOk bs = true) {k : Nat} {x : Int} (hx : bs[k]? = some x) : 0 ≤ x ∧ x ≤ 255 := by
  have := List.all_eq_true.1 h x (List.mem_of_getElem? hx)
  exact inB_true.1 this
theorem tagStep_bd (A t n : Int) : 0 ≤ tagStep A t n ∧ tagStep A t n ≤ 250 := by unfold tagStep; omega
theorem tagFold_bd (A : Int) (bs : List Int) : ∀ t : Int, 0 ≤ t → t ≤ 250 → 0 ≤ bs.foldl (tagStep A) t ∧ bs.foldl (tagStep A) t ≤ 250 := by
  induction bs with
  | nil => intro t h0 h1; exact ⟨h0, h1⟩
  | cons b bs ih => intro t _ _; exact ih _ (tagStep_bd A t b).1 (tagStep_bd A t b).2
theorem tagFold_take (A : Int) {bs : List Int} {k : Nat} {x : Int} (h : bs[k]? = some x) : (bs.take (k + 1)).foldl (tagStep A) 1 = tagStep A ((bs.take k).foldl (tagStep A) 1) x := by
  rw [take_snoc' h, List.foldl_append]; rfl
theorem tagF_bd (A B : Int) (bs : List Int) : 0 ≤ tagF A B bs ∧ tagF A B bs ≤ 250 := by unfold tagF; omega
theorem tagOf_neg {A B : Int} {bs : List Int} : tagOf A B bs < 0 ↔ tagOk A B bs = false := by
  unfold tagOf
  have := tagF_bd A B bs
  split
  · rename_i h
    exact ⟨fun h' => by omega, fun h' => by rw [h] at h'; cases h'⟩
  · rename_i h
    exact ⟨fun _ => by cases hh : tagOk A B bs; rfl; exact absurd hh h, fun _ => by omega⟩
theorem tagOk_key {A B : Int} {bs : List Int} (h : tagOk A B bs = true) : 2 ≤ A ∧ A ≤ 250 ∧ 1 ≤ B ∧ B ≤ 250 ∧ byOk bs = true ∧ bs.length ≤ 400 := by
  simp only [tagOk, Bool.and_eq_true, inB_true, decide_eq_true_eq] at h
  exact ⟨h.1.1, h.1.2, h.2.1.1, h.2.1.2, h.2.2.1, h.2.2.2⟩
theorem tagOk_mk {A B : Int} {bs : List Int} (h0 : 2 ≤ A) (h1 : A ≤ 250) (h2 : 1 ≤ B) (h3 : B ≤ 250) (h4 : byOk bs = true) (h5 : bs.length ≤ 400) : tagOk A B bs = true := by
  simp only [tagOk, Bool.and_eq_true, inB_true, decide_eq_true_eq]
  exact ⟨⟨h0, h1⟩, ⟨h2, h3⟩, h4, h5⟩

/-- Every number from 1 to 250 has a partner with which it is 1 modulo 251. -/
theorem inv_tab : ∀ a, a < 251 → 1 ≤ a → ∃ b, b < 251 ∧ a * b % 251 = 1 := by decide +kernel
theorem step_inj {A t t' c : Int} (h1 : 1 ≤ A) (h2 : A ≤ 250) (ht : 0 ≤ t) (ht' : t ≤ 250) (hs : 0 ≤ t') (hs' : t' ≤ 250) (h : (t * A + c) % 251 = (t' * A + c) % 251) : t = t' := by
  obtain ⟨b, hb, hab⟩ := inv_tab A.toNat (by omega) (by omega)
  have hA : (A.toNat : Int) = A := by omega
  have hab' : A * (b : Int) % 251 = 1 := by rw [← hA, ← Int.natCast_mul]; omega
  have hd : (251 : Int) ∣ (t - t') * A := by
    have := Int.emod_emod_of_dvd (t * A + c) (Int.dvd_refl 251)
    have h' : (t * A + c - (t' * A + c)) % 251 = 0 := Int.emod_eq_emod_iff_emod_sub_eq_zero.1 h
    have he : t * A + c - (t' * A + c) = (t - t') * A := by rw [Int.sub_mul]; omega
    rw [he] at h'
    exact Int.dvd_of_emod_eq_zero h'
  have hd2 : (251 : Int) ∣ (t - t') * (A * b) := by
    rw [← Int.mul_assoc]; exact Int.dvd_trans hd (Int.dvd_mul_right _ _)
  obtain ⟨q, hq⟩ := hd2
  have hA1 : A * (b : Int) = 251 * (A * (b : Int) / 251) + 1 := by omega
  rw [hA1] at hq
  have hq2 : (t - t') * (251 * (A * (b : Int) / 251) + 1) = 251 * ((t - t') * (A * (b : Int) / 251)) + (t - t') := by
    rw [Int.mul_add, Int.mul_one, ← Int.mul_assoc, Int.mul_comm (t - t') 251, Int.mul_assoc]
  rw [hq2] at hq
  omega
theorem fold_inj {A : Int} (h1 : 1 ≤ A) (h2 : A ≤ 250) (bs : List Int) : ∀ t t' : Int, 0 ≤ t → t ≤ 250 → 0 ≤ t' → t' ≤ 250 → bs.foldl (tagStep A) t = bs.foldl (tagStep A) t' → t = t' := by
  induction bs with
  | nil => intro t t' _ _ _ _ h; exact h
  | cons b bs ih =>
    intro t t' a0 a1 b0 b1 h
    have := ih _ _ (tagStep_bd A t b).1 (tagStep_bd A t b).2 (tagStep_bd A t' b).1 (tagStep_bd A t' b).2 h
    refine step_inj (c := b % 251 + b / 251) h1 h2 a0 a1 b0 b1 ?_
    unfold tagStep at this
    rw [← Int.add_assoc, ← Int.add_assoc]
    exact this
/-- What a changed byte becomes. -/
def nextB (x : Int) : Int := if x = 255 then 254 else x + 1
theorem nextB_bd {x : Int} (h0 : 0 ≤ x) (h1 : x ≤ 255) : 0 ≤ nextB x ∧ nextB x ≤ 255 := by unfold nextB; split <;> omega
theorem byte_ne {A t x : Int} (_ : 0 ≤ x) (_ : x ≤ 255) : tagStep A t x ≠ tagStep A t (nextB x) := by
  unfold tagStep nextB
  generalize t * A = u
  split <;> omega
theorem byOk_set {bs : List Int} (h : byOk bs = true) (k : Nat) {y : Int} (hy : 0 ≤ y ∧ y ≤ 255) : byOk (bs.set k y) = true := by
  unfold byOk at h ⊢
  rw [List.all_eq_true] at h ⊢
  intro x hx
  rcases List.mem_or_eq_of_mem_set hx with hx | rfl
  · exact h x hx
  · exact inB_true.2 hy
/-- A changed byte changes the tag. -/
theorem tag_change {A B : Int} {bs : List Int} {k : Nat} {x : Int} (h : tagOk A B bs = true) (hx : bs[k]? = some x) : tagOf A B (bs.set k (nextB x)) ≠ tagOf A B bs := by
  obtain ⟨a0, a1, b0, b1, hy, hl⟩ := tagOk_key h
  have hxb := byOk_at hy hx
  have h' : tagOk A B (bs.set k (nextB x)) = true := tagOk_mk a0 a1 b0 b1 (byOk_set hy k (nextB_bd hxb.1 hxb.2)) (by rw [List.length_set]; exact hl)
  unfold tagOf
  rw [if_pos h, if_pos h']
  have hk : k < bs.length := (List.getElem?_eq_some_iff.1 hx).1
  have hx' : bs[k] = x := (List.getElem?_eq_some_iff.1 hx).2
  have e1 : bs = bs.take k ++ (x :: bs.drop (k + 1)) := by
    rw [← hx', ← List.drop_eq_getElem_cons hk, List.take_append_drop]
  have e2 : bs.set k (nextB x) = bs.take k ++ (nextB x :: bs.drop (k + 1)) := by
    rw [List.set_eq_take_append_cons_drop, if_pos hk]
  intro he
  unfold tagF at he
  rw [e2] at he
  conv at he => rhs; rw [e1]
  rw [List.foldl_append, List.foldl_append, List.foldl_cons, List.foldl_cons] at he
  generalize hu : (bs.take k).foldl (tagStep A) 1 = u at he
  have n1 := tagStep_bd A u (nextB x)
  have n2 := tagStep_bd A u x
  have f1 := tagFold_bd A (bs.drop (k + 1)) _ n1.1 n1.2
  have f2 := tagFold_bd A (bs.drop (k + 1)) _ n2.1 n2.2
  have hf : (bs.drop (k + 1)).foldl (tagStep A) (tagStep A u (nextB x)) = (bs.drop (k + 1)).foldl (tagStep A) (tagStep A u x) := by omega
  exact byte_ne hxb.1 hxb.2 (fold_inj (by omega) a1 _ _ _ n1.1 n1.2 n2.1 n2.2 hf).symm
theorem tag_key {A B : Int} {bs : List Int} (h : tagOk A B bs = true) (hB : B < 250) : tagOf A (B + 1) bs = (tagOf A B bs + 1) % 251 := by
  obtain ⟨a0, a1, b0, b1, hy, hl⟩ := tagOk_key h
  have h' : tagOk A (B + 1) bs = true := tagOk_mk a0 a1 (by omega) (by omega) hy hl
  unfold tagOf
  rw [if_pos h, if_pos h']
  unfold tagF
  omega
theorem tag_nil {A B : Int} {bs : List Int} (h : tagOk A B bs = true) : tagOf A B [] = (1 + B) % 251 := by
  obtain ⟨a0, a1, b0, b1, _, _⟩ := tagOk_key h
  unfold tagOf
  rw [if_pos (tagOk_mk a0 a1 b0 b1 rfl (by simp))]; rfl
theorem tag_zero {A B : Int} {bs : List Int} (h : tagOk A B bs = true) : tagOf A B [0] = (A + B) % 251 := by
  obtain ⟨a0, a1, b0, b1, _, _⟩ := tagOk_key h
  unfold tagOf
  rw [if_pos (tagOk_mk a0 a1 b0 b1 rfl (by simp))]
  simp [tagF, tagStep]
theorem seal_open {A B : Int} {bs xs : List Int} (h : sealPut A B bs = some xs) : sealOpen A B xs = some bs := by
  unfold sealPut at h
  split at h
  · rename_i h1
    injection h with h
    subst h
    simp [sealOpen, h1]
  · cases h
theorem open_seal {A B : Int} {bs xs : List Int} (h : sealOpen A B bs = some xs) : sealPut A B xs = some bs ∧ bs ≠ [] := by
  unfold sealOpen at h
  split at h
  · cases h
  · rename_i hne
    split at h
    · rename_i h1
      injection h with h
      subst h
      simp only [Bool.and_eq_true, beq_iff_eq] at h1
      refine ⟨?_, hne⟩
      unfold sealPut
      rw [if_pos h1.1, ← Option.some.inj ((List.getLast?_eq_some_getLast hne).symm.trans h1.2)]
      rw [List.dropLast_concat_getLast]
    · cases h
/-- A changed byte of what was opened is noticed. -/
theorem damage {A B : Int} {bs xs : List Int} {k : Nat} {x : Int} (h : sealOpen A B bs = some xs) (hx : bs[k]? = some x) : sealOpen A B (bs.set k (nextB x)) = none := by
  obtain ⟨hp, hne⟩ := open_seal h
  unfold sealPut at hp
  split at hp
  · rename_i hok
    injection hp with hp
    subst hp
    obtain ⟨a0, a1, b0, b1, hy, hl⟩ := tagOk_key hok
    have ht := tagF_bd A B xs
    unfold sealOpen
    split
    · rfl
    · split
      · rename_i h2
        exfalso
        simp only [Bool.and_eq_true, beq_iff_eq] at h2
        rcases Nat.lt_or_ge k xs.length with hk | hk
        · rw [List.getElem?_append_left hk] at hx
          rw [List.set_append_left _ _ hk, List.dropLast_concat, List.getLast?_concat] at h2
          have h3 := tag_change hok hx
          unfold tagOf at h3
          rw [if_pos h2.1, if_pos hok] at h3
          exact h3 (Option.some.inj h2.2).symm
        · have hk2 : k = xs.length := by
            have := (List.getElem?_eq_some_iff.1 hx).1
            simp at this; omega
          subst hk2
          rw [List.getElem?_append_right (Nat.le_refl _), Nat.sub_self] at hx
          rw [List.set_append_right _ _ (Nat.le_refl _), Nat.sub_self] at h2
          simp at hx
          subst hx
          simp only [List.set_cons_zero, List.dropLast_concat, List.getLast?_concat] at h2
          have h4 := Option.some.inj h2.2
          unfold nextB at h4
          split at h4 <;> omega
      · rfl
  · cases hp
end Go.Proofs.Ytadjjcjhlndpkaa
