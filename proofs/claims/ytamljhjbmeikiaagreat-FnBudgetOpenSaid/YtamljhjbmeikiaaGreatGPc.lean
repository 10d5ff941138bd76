/- Joined texts: contracts and plain facts that the laws share. No condition. -/
import Derived.Test.YtamljhjbmeikiaaGreatGPb
/- Budgets and frames: plain facts, no program in sight. -/
namespace Go.Proofs.YtamljhjbmeikiaaGreat
open Go Go.RowKit
/-- Some blocks one behind the other, with their sizes. -/
def fn (bs : List Int) (a : Nat) : Nat → Option (List (List Int × Int) × Nat)
  | 0 => some ([], a)
  | m + 1 =>
    match fn bs a m with
    | none => none
    | some (xs, e) =>
      match opF (bs.drop e) with
      | none => none
      | some (l, n) => some (xs ++ [(l, (n : Int))], e + n)
theorem fn_none {bs : List Int} {a m : Nat} (h : fn bs a m = none) : ∀ k, fn bs a (m + k) = none
  | 0 => h
  | k + 1 => by rw [show m + (k + 1) = (m + k) + 1 by omega, fn, fn_none h k]
theorem fn_no {bs : List Int} {a m M : Nat} (h : fn bs a m = none) (hm : m ≤ M) : fn bs a M = none := by
  have := fn_none h (M - m); rwa [show m + (M - m) = M by omega] at this
theorem fn_stop {bs : List Int} {a m e : Nat} {xs : List (List Int × Int)} (h : fn bs a m = some (xs, e)) (ho : opF (bs.drop e) = none) : fn bs a (m + 1) = none := by rw [fn, h]; simp only; rw [ho]
theorem fn_step {bs : List Int} {a m e n : Nat} {xs : List (List Int × Int)} {l : List Int} (h : fn bs a m = some (xs, e)) (ho : opF (bs.drop e) = some (l, n)) : fn bs a (m + 1) = some (xs ++ [(l, (n : Int))], e + n) := by rw [fn, h]; simp only; rw [ho]
theorem fn_fb (bs : List Int) (a : Nat) : ∀ m, fb bs a m = (fn bs a m).map fun x => (x.1.map Prod.fst, x.2)
  | 0 => rfl
  | m + 1 => by
    rw [fb, fn, fn_fb bs a m]
    cases fn bs a m with
    | none => rfl
    | some r =>
      obtain ⟨xs, e⟩ := r
      simp only [Option.map_some]
      cases opF (bs.drop e) with
      | none => rfl
      | some r => obtain ⟨l, n⟩ := r; simp
theorem fn_size {bs : List Int} {a : Nat} : ∀ {m e : Nat} {xs : List (List Int × Int)}, fn bs a m = some (xs, e) → xs.length = m ∧ ∀ x ∈ xs, 2 ≤ x.2 ∧ x.2 ≤ bs.length ∧ x.1.length ≤ 40
  | 0, e, xs, h => by
    injection h with h
    injection h with h1 h2
    subst h1
    exact ⟨rfl, fun x hx => by simp at hx⟩
  | m + 1, e, xs, h => by
    rw [fn] at h
    cases h1 : fn bs a m with
    | none => rw [h1] at h; cases h
    | some r =>
      obtain ⟨ys, e'⟩ := r
      rw [h1] at h
      simp only at h
      cases h2 : opF (bs.drop e') with
      | none => rw [h2] at h; cases h
      | some r =>
        obtain ⟨l, n⟩ := r
        rw [h2] at h
        simp only at h
        injection h with h
        injection h with h3 h4
        subst h3
        obtain ⟨i1, i2⟩ := fn_size h1
        obtain ⟨b, ha, _, _, _, hn, _, hn2⟩ := op_split h2
        rw [List.length_drop] at hn
        refine ⟨by rw [List.length_append, i1]; rfl, fun x hx => ?_⟩
        rcases List.mem_append.1 hx with hx | hx
        · exact i2 x hx
        · simp at hx; subst hx; exact ⟨by show (2 : Int) ≤ (n : Int); omega, by show (n : Int) ≤ _; omega, (listOk_iff'.1 (asL_ok ha).1).1⟩
def frN (bs : List Int) : Option (List (List Int × Int) × Nat) :=
  if byOk bs = true ∧ 0 < bs.length ∧ bs.getD 0 0 = 90 then
    match vgL (bs.drop 1) with
    | none => none
    | some (m, l) =>
      if 120 < m then none
      else
        match fn bs (1 + l) m with
        | none => none
        | some (xs, e) => if bs.length = e + 2 then some (xs, e) else none
  else none
theorem frN_frP (bs : List Int) : frP bs = (frN bs).map fun x => (x.1.map Prod.fst, x.2) := by
  unfold frP frN
  split
  · cases vgL (bs.drop 1) with
    | none => rfl
    | some r =>
      obtain ⟨m, l⟩ := r
      simp only
      split
      · rfl
      · rw [fn_fb]
        cases fn bs (1 + l) m with
        | none => rfl
        | some r =>
          obtain ⟨xs, e⟩ := r
          simp only [Option.map_some]
          split <;> rfl
  · rfl
theorem frN_no {bs : List Int} (h : ¬ (byOk bs = true ∧ 0 < bs.length ∧ bs.getD 0 0 = 90)) : frN bs = none := by unfold frN; rw [if_neg h]
theorem frN_on {bs ds : List Int} (h : byOk bs = true ∧ 0 < bs.length ∧ bs.getD 0 0 = 90) (hd : ds = bs.drop 1) : frN bs = match vgL ds with
    | none => none
    | some (m, l) => if 120 < m then none else match fn bs (1 + l) m with
      | none => none
      | some (ls, e) => if bs.length = e + 2 then some (ls, e) else none := by subst hd; unfold frN; rw [if_pos h]
theorem frN_is {bs : List Int} {xs : List (List Int × Int)} {e : Nat} (h : frN bs = some (xs, e)) : ∃ l, vgL (bs.drop 1) = some (xs.length, l) ∧ xs.length ≤ 120 ∧ fn bs (1 + l) xs.length = some (xs, e) ∧ ∀ x ∈ xs, 2 ≤ x.2 ∧ x.2 ≤ bs.length ∧ x.1.length ≤ 40 := by
  unfold frN at h
  split at h
  · cases h1 : vgL (bs.drop 1) with
    | none => rw [h1] at h; cases h
    | some x =>
      obtain ⟨m, l⟩ := x
      rw [h1] at h
      simp only at h
      split at h
      · cases h
      · rename_i hm
        cases h2 : fn bs (1 + l) m with
        | none => rw [h2] at h; cases h
        | some y =>
          obtain ⟨ls', e'⟩ := y
          rw [h2] at h
          simp only at h
          split at h
          · injection h with h
            injection h with h3 h4
            subst h3; subst h4
            obtain ⟨a3, a4⟩ := fn_size h2
            subst a3
            exact ⟨l, rfl, by omega, h2, a4⟩
          · cases h
  · cases h
abbrev Bu := Int × Int × Int
/-- A block is taken out of a budget, and what it had in bytes given back. -/
def boS (b : Bu) (x : List Int × Int) : Option Bu := if x.2 + x.1.length ≤ b.2.1 then some (b.1, b.2.1 - x.1.length, max b.2.2 (b.1 - (b.2.1 - (x.2 + x.1.length)))) else none
def boR (b : Bu) (xs : List (List Int × Int)) : Option Bu := xs.foldl (fun o x => o.bind fun b => boS b x) (some b)
theorem boR_snoc (b : Bu) (xs : List (List Int × Int)) (x : List Int × Int) : boR b (xs ++ [x]) = (boR b xs).bind fun b => boS b x := by unfold boR; rw [List.foldl_append]; rfl
theorem bo_dead (xs : List (List Int × Int)) : xs.foldl (fun o x => o.bind fun b => boS b x) none = none := by
  induction xs with
  | nil => rfl
  | cons x xs ih => exact ih
theorem boR_cons (b : Bu) (x : List Int × Int) (xs : List (List Int × Int)) : boR b (x :: xs) = (boS b x).bind fun b => boR b xs := by
  unfold boR
  rw [List.foldl_cons, Option.bind_some]
  cases boS b x with
  | none => exact bo_dead xs
  | some b' => rfl
theorem boR_no {b : Bu} {xs : List (List Int × Int)} {k : Nat} (h : boR b (xs.take k) = none) : boR b xs = none := by
  have e : boR b xs = (xs.drop k).foldl (fun o x => o.bind fun b => boS b x) (boR b (xs.take k)) := by
    unfold boR
    rw [← List.foldl_append, List.take_append_drop]
  rw [e, h]
  exact bo_dead _
end Go.Proofs.YtamljhjbmeikiaaGreat
