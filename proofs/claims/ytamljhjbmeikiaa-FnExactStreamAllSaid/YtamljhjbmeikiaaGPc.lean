/- Joined texts: contracts and plain facts that the laws share. No condition. -/
import Derived.Test.YtamljhjbmeikiaaGPb
/- States of blocks: a part waits, what is no block stays so; plain facts, no program in sight. -/
namespace Go.Proofs.Ytamljhjbmeikiaa
open Go Go.RowKit
theorem symF_pre {P r ls : List Int} {a s : Nat} (hv : lenVal ls = true) (hb : ∀ x ∈ P ++ r, 0 ≤ x ∧ x ≤ 1) (h : symF P a ls (codesL ls) = s) : symF (P ++ r) a ls (codesL ls) = s := by
  obtain ⟨hs, hl⟩ := symF_len h
  rcases symF_or P a ls (codesL ls) with h1 | ⟨s', hs', h1, hp⟩
  · rw [h] at h1; omega
  · have e : s' = s := by rw [h] at h1; omega
    subst e
    refine symF_is hv hb hs ?_
    unfold symP at hp ⊢
    rw [List.drop_append_of_le_length (by omega), List.take_append_of_le_length (by rw [List.length_drop]; omega), List.length_append]
    simp only [Bool.and_eq_true, decide_eq_true_eq] at hp ⊢
    refine ⟨hp.1, ?_, hp.2.2⟩
    omega
theorem runA_pre {P r ls : List Int} (hv : lenVal ls = true) (hb : ∀ x ∈ P ++ r, 0 ≤ x ∧ x ≤ 1) : ∀ k, (runA P ls k).2 = true ∨ (runA P ls k).1 + 8 ≤ P.length → runA (P ++ r) ls k = runA P ls k
  | 0, _ => rfl
  | k + 1, h => by
    by_cases h1 : (runA P ls k).2 = true
    · have ih := runA_pre hv hb k (.inl h1)
      rw [runA, runA, ih]
      rw [runA] at h
      rw [if_pos h1, if_pos h1]
      rw [if_pos h1] at h
      by_cases h2 : symF P (runA P ls k).1 ls (codesL ls) < 0
      · rw [if_pos h2] at h
        rcases h with h | h
        · cases h
        · rw [symF_more hv h]
      · rcases symF_or P (runA P ls k).1 ls (codesL ls) with h3 | ⟨s, _, h3, _⟩
        · omega
        · rw [symF_pre hv hb h3, h3]
    · have h2 : runA P ls (k + 1) = runA P ls k := by rw [runA, if_neg h1]
      rw [h2] at h
      have h3 := h.resolve_left h1
      have ih := runA_pre hv hb k (.inr h3)
      rw [runA, ih, if_neg h1, h2]
theorem getD_pre {p t : List Int} {k : Nat} (h : k < p.length) : (p ++ t).getD k 0 = p.getD k 0 := by
  rw [List.getD_eq_getElem?_getD, List.getD_eq_getElem?_getD, List.getElem?_append_left h]
theorem bitsAt_pre {p : List Int} (t : List Int) (h : 6 ≤ p.length) : ∃ r, bitsAt (p ++ t) 40 = bitsAt p 40 ++ r := by
  refine ⟨bytesBits (t.take (40 - (p.drop 6).length)), ?_⟩
  unfold bitsAt
  rw [List.drop_append_of_le_length h, List.take_append, bytesBits_app]
theorem lensAt_pre {p : List Int} (t : List Int) (h : 6 ≤ p.length) : lensAt (p ++ t) = lensAt p := by
  unfold lensAt
  rw [List.drop_append_of_le_length (by omega), List.take_append_of_le_length (by rw [List.length_drop]; omega)]
/-- What the head of some bytes tells of their need. -/
theorem need_pre (p t : List Int) : (needW 40 p = none ∧ needW 40 (p ++ t) = none) ∨ (∃ n, needW 40 p = some n ∧ needW 40 (p ++ t) = some n) ∨ ∃ n, needW 40 p = some n ∧ p.length < n := by
  by_cases h0 : p.length = 0
  · refine .inr (.inr ⟨2, ?_, by omega⟩)
    unfold needW; rw [if_pos h0]
  have hl : (p ++ t).length = p.length + t.length := List.length_append
  have e0 := getD_pre (p := p) (t := t) (k := 0) (by omega)
  by_cases h1 : 3 < p.getD 0 0
  · refine .inl ⟨?_, ?_⟩
    · unfold needW; rw [if_neg h0, if_pos h1]
    · unfold needW; rw [if_neg (by omega), e0, if_pos h1]
  by_cases h2 : p.length < 2
  · refine .inr (.inr ⟨2, ?_, h2⟩)
    unfold needW; rw [if_neg h0, if_neg h1, if_pos h2]
  have e1 := getD_pre (p := p) (t := t) (k := 1) (by omega)
  by_cases h3 : 40 < p.getD 1 0 ∨ (p.getD 0 0 = 2 ∧ p.getD 1 0 = 0)
  · refine .inl ⟨?_, ?_⟩
    · unfold needW; rw [if_neg h0, if_neg h1, if_neg h2, if_pos h3]
    · unfold needW; rw [if_neg (by omega), e0, e1, if_neg h1, if_neg (by omega), if_pos h3]
  by_cases w1 : p.getD 0 0 = 1
  · refine .inr (.inl ⟨2 + 2 * (p.getD 1 0).toNat, ?_, ?_⟩)
    · unfold needW; rw [if_neg h0, if_neg h1, if_neg h2, if_neg h3, if_pos w1]
    · unfold needW; rw [if_neg (by omega), e0, e1, if_neg h1, if_neg (by omega), if_neg h3, if_pos w1]
  by_cases w2 : p.getD 0 0 = 2
  rotate_left
  · refine .inr (.inl ⟨2 + (p.getD 1 0).toNat, ?_, ?_⟩)
    · unfold needW; rw [if_neg h0, if_neg h1, if_neg h2, if_neg h3, if_neg w1, if_neg w2]
    · unfold needW; rw [if_neg (by omega), e0, e1, if_neg h1, if_neg (by omega), if_neg h3, if_neg w1, if_neg w2]
  by_cases h6 : p.length < 6
  · refine .inr (.inr ⟨6, ?_, h6⟩)
    unfold needW; rw [if_neg h0, if_neg h1, if_neg h2, if_neg h3, if_neg w1, if_pos w2, if_pos h6]
  have hp : needW 40 p = needP 40 p := by unfold needW; rw [if_neg h0, if_neg h1, if_neg h2, if_neg h3, if_neg w1, if_pos w2, if_neg h6]
  have hq : needW 40 (p ++ t) = needP 40 (p ++ t) := by unfold needW; rw [if_neg (by omega), e0, e1, if_neg h1, if_neg (by omega), if_neg h3, if_neg w1, if_pos w2, if_neg (by omega)]
  rw [hp, hq]
  unfold needP
  rw [lensAt_pre t (by omega), e1]
  obtain ⟨r, hr⟩ := bitsAt_pre t (show 6 ≤ p.length by omega)
  by_cases hv : lenVal (lensAt p) = true
  rotate_left
  · rw [if_neg hv, if_neg hv]; exact .inl ⟨rfl, rfl⟩
  rw [if_pos hv, if_pos hv, hr]
  have hb : ∀ x ∈ bitsAt p 40 ++ r, 0 ≤ x ∧ x ≤ 1 := by rw [← hr]; unfold bitsAt; exact bytesBits_bit
  by_cases hT : (runA (bitsAt p 40) (lensAt p) (p.getD 1 0).toNat).2 = true
  · rw [runA_pre hv hb _ (.inl hT), if_pos hT, if_pos hT]
    exact .inr (.inl ⟨_, rfl, rfl⟩)
  · by_cases h8 : (bitsAt p 40).length < (runA (bitsAt p 40) (lensAt p) (p.getD 1 0).toNat).1 + 8
    · rw [if_neg hT, if_pos h8]
      exact .inr (.inr ⟨_, rfl, by omega⟩)
    · rw [runA_pre hv hb _ (.inr (by omega)), if_neg hT, if_neg hT, if_neg h8, if_neg (by rw [List.length_append]; omega)]
      exact .inl ⟨rfl, rfl⟩
theorem byOk_take {a : List Int} (h : byOk a = true) (k : Nat) : byOk (a.take k) = true := byOk_all.2 fun x hx => byOk_all.1 h x (List.mem_of_mem_take hx)
/-- A part of a block waits. -/
theorem st_torn {bs l : List Int} {n k : Nat} (h : opF bs = some (l, n)) (hk : k < n) : stF (bs.take k) = 0 := by
  obtain ⟨b, ha, hb, htk, hsp, hle, hok, _⟩ := op_split h
  have e : bs.take k = b.take k := by rw [← htk, List.take_take, Nat.min_eq_left (by omega)]
  rw [e]
  have hn := need_as ha []
  rw [List.append_nil] at hn
  have hp := need_pre (b.take k) (b.drop k)
  rw [List.take_append_drop, hn] at hp
  have hl : (b.take k).length = k := by rw [List.length_take]; omega
  have hby : byOk (b.take k) = true := byOk_take (as_bytes ha) k
  have key : ∀ m, needW 40 (b.take k) = some m → k < m → stF (b.take k) = 0 := fun m h1 h2 => by
    unfold stF
    rw [if_pos hby, h1]
    simp only
    rw [if_pos (by omega)]
  rcases hp with ⟨_, h1⟩ | ⟨m, h1, h2⟩ | ⟨m, h1, h2⟩
  · cases h1
  · injection h2 with h2
    exact key m h1 (by omega)
  · exact key m h1 (by omega)
theorem st_open {bs : List Int} : (stF bs = 1 ↔ (opF bs).isSome = true) ∧ 0 ≤ stF bs ∧ stF bs ≤ 2 := by
  constructor
  · constructor
    · intro h
      unfold stF at h
      split at h
      · cases hn : needW 40 bs with
        | none => rw [hn] at h; simp at h
        | some n =>
          rw [hn] at h
          simp only at h
          split at h
          · simp at h
          · split at h
            · assumption
            · simp at h
      · simp at h
    · intro h
      cases ho : opF bs with
      | none => rw [ho] at h; cases h
      | some x =>
        obtain ⟨l, n⟩ := x
        obtain ⟨b, ha, _, _, hsp, _, hok, _⟩ := op_split ho
        rw [hsp]
        exact st_as ha (byOk_all.2 fun y hy => byOk_all.1 hok y (List.mem_of_mem_drop hy))
  · unfold stF
    split
    · cases needW 40 bs with
      | none => simp
      | some n =>
        simp only
        split
        · simp
        · split <;> simp
    · simp
/-- What is no block, or is one, stays so. -/
theorem st_stay {bs t : List Int} (ht : byOk t = true) (h : stF bs ≠ 0) : stF (bs ++ t) = stF bs := by
  by_cases hok : byOk bs = true
  rotate_left
  · have h2 : ¬ byOk (bs ++ t) = true := fun h => hok (byOk_app.1 h).1
    unfold stF
    rw [if_neg hok, if_neg h2]
  cases ho : opF bs with
  | some x =>
    obtain ⟨l, n⟩ := x
    obtain ⟨b, ha, _, _, hsp, _, _, _⟩ := op_split ho
    have hd : byOk (bs.drop n) = true := byOk_all.2 fun y hy => byOk_all.1 hok y (List.mem_of_mem_drop hy)
    rw [hsp, List.append_assoc, st_as ha (byOk_app.2 ⟨hd, ht⟩), st_as ha hd]
  | none =>
    have h1 : stF bs = 2 := by
      have h3 := (st_open (bs := bs)).1
      rw [ho] at h3
      have h4 := (st_open (bs := bs)).2
      have h5 : stF bs ≠ 1 := fun h => by cases h3.1 h
      omega
    rw [h1]
    have hby : byOk (bs ++ t) = true := byOk_app.2 ⟨hok, ht⟩
    unfold stF at h1 ⊢
    rw [if_pos hok] at h1
    rw [if_pos hby]
    rcases need_pre bs t with ⟨_, h3⟩ | ⟨n, h2, h3⟩ | ⟨n, h2, h3⟩
    · rw [h3]
    · rw [h2] at h1
      simp only at h1
      rw [h3]
      simp only
      by_cases hlt : bs.length < n
      · rw [if_pos hlt] at h1; cases h1
      · rw [if_neg (by rw [List.length_append]; omega)]
        cases ho2 : opF (bs ++ t) with
        | none => rfl
        | some x =>
          exfalso
          obtain ⟨l, m⟩ := x
          obtain ⟨b, ha, hb, htk, hsp, _, _, _⟩ := op_split ho2
          have hn := need_as ha ((bs ++ t).drop m)
          rw [← hsp, h3] at hn
          injection hn with hn
          have e : bs = b ++ bs.drop m := by
            conv => lhs; rw [← List.take_append_drop m bs]
            rw [← htk, List.take_append_of_le_length (by omega)]
          have hop := op_as ha (t := bs.drop m) (byOk_all.2 fun y hy => byOk_all.1 hok y (List.mem_of_mem_drop hy))
          rw [← e, ho] at hop
          cases hop
    · rw [h2] at h1
      simp only at h1
      rw [if_pos h3] at h1
      cases h1
theorem st_nil : stF [] = 0 := by decide
theorem st_few {x : Int} (h0 : 0 ≤ x) (h1 : x ≤ 3) : stF [x] = 0 := by
  unfold stF needW
  rw [if_pos (byOk_all.2 fun y hy => by simp at hy; omega), if_neg (by simp), if_neg (by show ¬ 3 < x; omega), if_pos (by simp)]
  rfl
theorem st_bad {x : Int} (h0 : 4 ≤ x) : stF [x] = 2 := by
  unfold stF needW
  by_cases hb : byOk [x] = true
  · rw [if_pos hb, if_neg (by simp), if_pos (by show 3 < x; omega)]
  · rw [if_neg hb]
end Go.Proofs.Ytamljhjbmeikiaa
/- Budgets and frames: plain facts, no program in sight. -/
namespace Go.Proofs.Ytamljhjbmeikiaa
open Go Go.RowKit
/-- Some blocks one behind the other, with their sizes. -/
def fn (bs : List Int) (a : Nat) : Nat → Option (List (List Int × Int) × Nat)
  | 0 => some ([], a)
  | m + 1 =>
    match fn bs a m with
    | none => none
    | some (xs, e) =>
      match opF (bs.drop e) with
      | none => none
      | some (l, n) => some (xs ++ [(l, (n : Int))], e + n)
theorem fn_none {bs : List Int} {a m : Nat} (h : fn bs a m = none) : ∀ k, fn bs a (m + k) = none
  | 0 => h
  | k + 1 => by rw [show m + (k + 1) = (m + k) + 1 by omega, fn, fn_none h k]
theorem fn_no {bs : List Int} {a m M : Nat} (h : fn bs a m = none) (hm : m ≤ M) : fn bs a M = none := by
  have := fn_none h (M - m); rwa [show m + (M - m) = M by omega] at this
theorem fn_stop {bs : List Int} {a m e : Nat} {xs : List (List Int × Int)} (h : fn bs a m = some (xs, e)) (ho : opF (bs.drop e) = none) : fn bs a (m + 1) = none := by rw [fn, h]; simp only; rw [ho]
theorem fn_step {bs : List Int} {a m e n : Nat} {xs : List (List Int × Int)} {l : List Int} (h : fn bs a m = some (xs, e)) (ho : opF (bs.drop e) = some (l, n)) : fn bs a (m + 1) = some (xs ++ [(l, (n : Int))], e + n) := by rw [fn, h]; simp only; rw [ho]
theorem fn_fb (bs : List Int) (a : Nat) : ∀ m, fb bs a m = (fn bs a m).map fun x => (x.1.map Prod.fst, x.2)
  | 0 => rfl
  | m + 1 => by
    rw [fb, fn, fn_fb bs a m]
    cases fn bs a m with
    | none => rfl
    | some r =>
      obtain ⟨xs, e⟩ := r
      simp only [Option.map_some]
      cases opF (bs.drop e) with
      | none => rfl
      | some r => obtain ⟨l, n⟩ := r; simp
theorem fn_size {bs : List Int} {a : Nat} : ∀ {m e : Nat} {xs : List (List Int × Int)}, fn bs a m = some (xs, e) → xs.length = m ∧ ∀ x ∈ xs, 2 ≤ x.2 ∧ x.2 ≤ bs.length ∧ x.1.length ≤ 40
  | 0, e, xs, h => by
    injection h with h
    injection h with h1 h2
    subst h1
    exact ⟨rfl, fun x hx => by simp at hx⟩
  | m + 1, e, xs, h => by
    rw [fn] at h
    cases h1 : fn bs a m with
    | none => rw [h1] at h; cases h
    | some r =>
      obtain ⟨ys, e'⟩ := r
      rw [h1] at h
      simp only at h
      cases h2 : opF (bs.drop e') with
      | none => rw [h2] at h; cases h
      | some r =>
        obtain ⟨l, n⟩ := r
        rw [h2] at h
        simp only at h
        injection h with h
        injection h with h3 h4
        subst h3
        obtain ⟨i1, i2⟩ := fn_size h1
        obtain ⟨b, ha, _, _, _, hn, _, hn2⟩ := op_split h2
        rw [List.length_drop] at hn
        refine ⟨by rw [List.length_append, i1]; rfl, fun x hx => ?_⟩
        rcases List.mem_append.1 hx with hx | hx
        · exact i2 x hx
        · simp at hx; subst hx; exact ⟨by show (2 : Int) ≤ (n : Int); omega, by show (n : Int) ≤ _; omega, (listOk_iff'.1 (asL_ok ha).1).1⟩
def frN (bs : List Int) : Option (List (List Int × Int) × Nat) :=
  if byOk bs = true ∧ 0 < bs.length ∧ bs.getD 0 0 = 90 then
    match vgL (bs.drop 1) with
    | none => none
    | some (m, l) =>
      if 120 < m then none
      else
        match fn bs (1 + l) m with
        | none => none
        | some (xs, e) => if bs.length = e + 2 then some (xs, e) else none
  else none
theorem frN_frP (bs : List Int) : frP bs = (frN bs).map fun x => (x.1.map Prod.fst, x.2) := by
  unfold frP frN
  split
  · cases vgL (bs.drop 1) with
    | none => rfl
    | some r =>
      obtain ⟨m, l⟩ := r
      simp only
      split
      · rfl
      · rw [fn_fb]
        cases fn bs (1 + l) m with
        | none => rfl
        | some r =>
          obtain ⟨xs, e⟩ := r
          simp only [Option.map_some]
          split <;> rfl
  · rfl
theorem frN_no {bs : List Int} (h : ¬ (byOk bs = true ∧ 0 < bs.length ∧ bs.getD 0 0 = 90)) : frN bs = none := by unfold frN; rw [if_neg h]
theorem frN_on {bs ds : List Int} (h : byOk bs = true ∧ 0 < bs.length ∧ bs.getD 0 0 = 90) (hd : ds = bs.drop 1) : frN bs = match vgL ds with
    | none => none
    | some (m, l) => if 120 < m then none else match fn bs (1 + l) m with
      | none => none
      | some (ls, e) => if bs.length = e + 2 then some (ls, e) else none := by subst hd; unfold frN; rw [if_pos h]
theorem frN_is {bs : List Int} {xs : List (List Int × Int)} {e : Nat} (h : frN bs = some (xs, e)) : ∃ l, vgL (bs.drop 1) = some (xs.length, l) ∧ xs.length ≤ 120 ∧ fn bs (1 + l) xs.length = some (xs, e) ∧ ∀ x ∈ xs, 2 ≤ x.2 ∧ x.2 ≤ bs.length ∧ x.1.length ≤ 40 := by
  unfold frN at h
  split at h
  · cases h1 : vgL (bs.drop 1) with
    | none => rw [h1] at h; cases h
    | some x =>
      obtain ⟨m, l⟩ := x
      rw [h1] at h
      simp only at h
      split at h
      · cases h
      · rename_i hm
        cases h2 : fn bs (1 + l) m with
        | none => rw [h2] at h; cases h
        | some y =>
          obtain ⟨ls', e'⟩ := y
          rw [h2] at h
          simp only at h
          split at h
          · injection h with h
            injection h with h3 h4
            subst h3; subst h4
            obtain ⟨a3, a4⟩ := fn_size h2
            subst a3
            exact ⟨l, rfl, by omega, h2, a4⟩
          · cases h
  · cases h
abbrev Bu := Int × Int × Int
/-- A block is taken out of a budget, and what it had in bytes given back. -/
def boS (b : Bu) (x : List Int × Int) : Option Bu := if x.2 + x.1.length ≤ b.2.1 then some (b.1, b.2.1 - x.1.length, max b.2.2 (b.1 - (b.2.1 - (x.2 + x.1.length)))) else none
def boR (b : Bu) (xs : List (List Int × Int)) : Option Bu := xs.foldl (fun o x => o.bind fun b => boS b x) (some b)
theorem boR_snoc (b : Bu) (xs : List (List Int × Int)) (x : List Int × Int) : boR b (xs ++ [x]) = (boR b xs).bind fun b => boS b x := by unfold boR; rw [List.foldl_append]; rfl
theorem bo_dead (xs : List (List Int × Int)) : xs.foldl (fun o x => o.bind fun b => boS b x) none = none := by
  induction xs with
  | nil => rfl
  | cons x xs ih => exact ih
theorem boR_cons (b : Bu) (x : List Int × Int) (xs : List (List Int × Int)) : boR b (x :: xs) = (boS b x).bind fun b => boR b xs := by
  unfold boR
  rw [List.foldl_cons, Option.bind_some]
  cases boS b x with
  | none => exact bo_dead xs
  | some b' => rfl
theorem boR_no {b : Bu} {xs : List (List Int × Int)} {k : Nat} (h : boR b (xs.take k) = none) : boR b xs = none := by
  have e : boR b xs = (xs.drop k).foldl (fun o x => o.bind fun b => boS b x) (boR b (xs.take k)) := by
    unfold boR
    rw [← List.foldl_append, List.take_append_drop]
  rw [e, h]
  exact bo_dead _
end Go.Proofs.Ytamljhjbmeikiaa
