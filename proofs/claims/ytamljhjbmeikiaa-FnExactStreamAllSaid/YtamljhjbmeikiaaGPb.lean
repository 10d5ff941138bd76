/- Joined texts: contracts and plain facts that the laws share. No condition. -/
import Derived.Test.YtamljhjbmeikiaaGPa
/- Lengths of codes: groups of symbols that are joined; plain facts, no program in sight. -/
namespace Go.Proofs.Ytamljhjbmeikiaa
open Go Go.RowKit
/-- A group of symbols: its weight, its number, its symbols. -/
abbrev Gp := Int × Nat × List Nat
def gp0 : Gp := (0, 0, [])
/-- The first place of the least weight among the first k. -/
def leastK (gs : List Gp) : Nat → Nat
  | 0 => 0
  | k + 1 => if (gs.getD k gp0).1 < (gs.getD (leastK gs k) gp0).1 then k else leastK gs k
def least (gs : List Gp) : Nat := leastK gs gs.length
theorem leastK_lt (gs : List Gp) : ∀ k, 0 < k → leastK gs k < k
  | 0, h => by omega
  | k + 1, _ => by
    rw [leastK]
    split
    · omega
    · rcases Nat.eq_zero_or_pos k with rfl | h
      · simp [leastK]
      · have := leastK_lt gs k h; omega
theorem leastK_le (gs : List Gp) (k : Nat) : leastK gs k ≤ k := by
  rcases Nat.eq_zero_or_pos k with rfl | h
  · simp [leastK]
  · exact Nat.le_of_lt (leastK_lt gs k h)
theorem leastK_is (gs : List Gp) : ∀ k, ∀ j, j < k → (gs.getD (leastK gs k) gp0).1 ≤ (gs.getD j gp0).1 ∧ (j < leastK gs k → (gs.getD (leastK gs k) gp0).1 < (gs.getD j gp0).1)
  | 0, j, h => by omega
  | k + 1, j, h => by
    have ih := leastK_is gs k
    have hle := leastK_le gs k
    rw [leastK]
    split
    · rename_i hlt
      by_cases hj : j = k
      · subst hj; omega
      · have := (ih j (by omega)).1; omega
    · rename_i hge
      by_cases hj : j = k
      · subst hj; omega
      · exact ih j (by omega)
theorem gA_one (g : Gp) : [g].getD (least [g]) gp0 = g := by
  have : least [g] = 0 := by have := leastK_lt [g] [g].length (by simp); simp only [List.length_singleton] at this; unfold least; simp only [List.length_singleton]; omega
  rw [this]; rfl
theorem least_lt {gs : List Gp} (h : 0 < gs.length) : least gs < gs.length := leastK_lt gs _ h
/-- One more of each symbol told. -/
def bump (out : List Int) (ss : List Nat) : List Int := ss.foldl (fun o s => o.set s (o.getD s 0 + 1)) out
theorem bump_length : ∀ (ss : List Nat) (out : List Int), (bump out ss).length = out.length
  | [], _ => rfl
  | s :: ss, out => by
    show (bump (out.set s (out.getD s 0 + 1)) ss).length = _
    rw [bump_length ss, List.length_set]
theorem bump_snoc (out : List Int) (ss : List Nat) (s : Nat) : bump out (ss ++ [s]) = (bump out ss).set s ((bump out ss).getD s 0 + 1) := by simp [bump]
theorem bump_at : ∀ (ss : List Nat) (out : List Int), ss.Nodup → (∀ s ∈ ss, s < out.length) → ∀ j, (bump out ss).getD j 0 = out.getD j 0 + if j ∈ ss then 1 else 0
  | [], out, _, _, j => by simp [bump]
  | s :: ss, out, hn, hb, j => by
    have hs := hb s (by simp)
    rw [List.nodup_cons] at hn
    show (bump (out.set s (out.getD s 0 + 1)) ss).getD j 0 = _
    rw [bump_at ss _ hn.2 (fun t ht => by rw [List.length_set]; exact hb t (by simp [ht])) j]
    by_cases hj : j = s
    · subst hj
      have e : (out.set j (out.getD j 0 + 1)).getD j 0 = out.getD j 0 + 1 := by simp [List.getD_eq_getElem?_getD, hs]
      rw [e, if_neg hn.1, if_pos (by simp)]
      omega
    · have e : (out.set s (out.getD s 0 + 1)).getD j 0 = out.getD j 0 := by
        simp only [List.getD_eq_getElem?_getD, List.getElem?_set_ne (Ne.symm hj)]
      rw [e]
      by_cases hm : j ∈ ss
      · rw [if_pos hm, if_pos (by simp [hm])]
      · rw [if_neg hm, if_neg (by simp [hm, hj])]
/-- The groups at first; the joining of the two least ones, until one is left. -/
def groups0 (cs : List Int) : List Gp := ((List.range 8).filter fun s => decide (0 < cs.getD s 0)).map fun s => (cs.getD s 0, s, [s])
def gA (gs : List Gp) : Gp := gs.getD (least gs) gp0
def gR (gs : List Gp) : List Gp := gs.eraseIdx (least gs)
def gC (gs : List Gp) (n : Nat) : Gp := ((gA gs).1 + (gA (gR gs)).1, n, (gA gs).2.2 ++ (gA (gR gs)).2.2)
def gNext (gs : List Gp) (n : Nat) : List Gp := gR (gR gs) ++ [gC gs n]
def huS : Nat → List Gp → List Int → Nat → List Int
  | 0, _, out, _ => out
  | f + 1, gs, out, n => if 1 < gs.length then huS f (gNext gs n) (bump out (gC gs n).2.2) (n + 1) else out
def zero8 : List Int := List.replicate 8 0
def out0 (cs : List Int) : List Int := if (groups0 cs).length = 1 then zero8.set ((gA (groups0 cs)).2.2.getD 0 0) 1 else zero8
def huff (cs : List Int) : List Int := huS 8 (groups0 cs) (out0 cs) 8
theorem gR_length {gs : List Gp} (h : 0 < gs.length) : (gR gs).length = gs.length - 1 := by
  unfold gR; rw [List.length_eraseIdx, if_pos (least_lt h)]
theorem gNext_length {gs : List Gp} (n : Nat) (h : 1 < gs.length) : (gNext gs n).length = gs.length - 1 := by
  have h1 := gR_length (gs := gs) (by omega)
  have h2 := gR_length (gs := gR gs) (by omega)
  unfold gNext; rw [List.length_append, h2, h1]; simp; omega
theorem gR_perm {gs : List Gp} (h : 0 < gs.length) : gs.Perm (gA gs :: gR gs) := by
  have hl := least_lt h
  unfold gA gR
  rw [List.getD_eq_getElem?_getD, List.getElem?_eq_getElem hl]
  show gs.Perm (gs[least gs] :: gs.eraseIdx (least gs))
  rw [List.eraseIdx_eq_take_drop_succ]
  have e : gs = gs.take (least gs) ++ gs[least gs] :: gs.drop (least gs + 1) := by rw [← List.drop_eq_getElem_cons hl, List.take_append_drop]
  exact (List.Perm.of_eq e).trans List.perm_middle
theorem g2_perm {gs : List Gp} (h : 1 < gs.length) : gs.Perm (gA gs :: gA (gR gs) :: gR (gR gs)) :=
  (gR_perm (by omega)).trans ((gR_perm (by have := gR_length (gs := gs) (by omega); omega)).cons _)
theorem huS_fuel : ∀ f g gs out n, gs.length ≤ f + 1 → gs.length ≤ g + 1 → huS f gs out n = huS g gs out n
  | 0, 0, _, _, _, _, _ => rfl
  | 0, g + 1, gs, out, n, h, _ => by rw [huS, huS, if_neg (by omega)]
  | f + 1, 0, gs, out, n, _, h => by rw [huS, huS, if_neg (by omega)]
  | f + 1, g + 1, gs, out, n, h1, h2 => by
    rw [huS, huS]
    split
    · rename_i h
      have := gNext_length n h
      exact huS_fuel f g _ _ _ (by omega) (by omega)
    · rfl
theorem huS_step {gs : List Gp} {out : List Int} {n : Nat} (h : 1 < gs.length) (h8 : gs.length ≤ 8) : huS 8 gs out n = huS 8 (gNext gs n) (bump out (gC gs n).2.2) (n + 1) := by
  have := gNext_length n h
  rw [huS_fuel 8 (7 + 1) gs out n (by omega) (by omega), huS, if_pos h]
  exact huS_fuel _ _ _ _ _ (by omega) (by omega)
theorem huS_end {gs : List Gp} {out : List Int} {n : Nat} (h : gs.length ≤ 1) : huS 8 gs out n = out := by rw [huS, if_neg (by omega)]
theorem groups0_le (cs : List Int) : (groups0 cs).length ≤ 8 := by
  unfold groups0; rw [List.length_map]
  exact Nat.le_trans (List.length_filter_le _ _) (by simp)
/-! What the joining keeps. -/
/-- All symbols of some groups. -/
def syms (gs : List Gp) : List Nat := gs.flatMap fun g => g.2.2
theorem syms_perm {gs hs : List Gp} (h : gs.Perm hs) : (syms gs).Perm (syms hs) := h.flatMap_right _
theorem syms_next {gs : List Gp} (n : Nat) (h : 1 < gs.length) : (syms (gNext gs n)).Perm (syms gs) := by
  refine List.Perm.trans ?_ (syms_perm (g2_perm h)).symm
  unfold gNext syms
  rw [List.flatMap_append, List.flatMap_cons, List.flatMap_cons, List.flatMap_cons, List.flatMap_nil, List.append_nil, ← List.append_assoc]
  exact List.perm_append_comm
/-- What a group takes of the codes. -/
def kS (out : List Int) (ss : List Nat) : Nat := (ss.map fun s => 2 ^ (8 - (out.getD s 0).toNat)).sum
structure GOk (out : List Int) (g : Gp) : Prop where
  ks : kS out g.2.2 = 256
  lo : ∀ s ∈ g.2.2, 0 ≤ out.getD s 0 ∧ out.getD s 0 + 1 ≤ (g.2.2.length : Int)
  up : 1 < g.2.2.length → ∀ s ∈ g.2.2, 1 ≤ out.getD s 0
  ne : 0 < g.2.2.length
structure HOk (us : List Nat) (gs : List Gp) (out : List Int) : Prop where
  len : out.length = 8
  nd : (syms gs).Nodup
  pm : (syms gs).Perm us
  lt : ∀ s ∈ us, s < 8
  ok : ∀ g ∈ gs, GOk out g
  oth : ∀ s, s ∉ us → out.getD s 0 = 0
theorem kS_half {out out' : List Int} : ∀ ss : List Nat, (∀ s ∈ ss, 0 ≤ out.getD s 0 ∧ out.getD s 0 ≤ 7 ∧ out'.getD s 0 = out.getD s 0 + 1) → 2 * kS out' ss = kS out ss
  | [], _ => rfl
  | s :: ss, h => by
    have ih := kS_half ss fun t ht => h t (by simp [ht])
    obtain ⟨h0, h1, h2⟩ := h s (by simp)
    unfold kS at *
    rw [List.map_cons, List.map_cons, List.sum_cons, List.sum_cons, h2]
    have e : 8 - (out.getD s 0).toNat = (8 - (out.getD s 0 + 1).toNat) + 1 := by omega
    rw [e, Nat.pow_succ]
    omega
theorem kS_same {out out' : List Int} (ss : List Nat) (h : ∀ s ∈ ss, out'.getD s 0 = out.getD s 0) : kS out' ss = kS out ss := by
  unfold kS
  congr 1
  exact List.map_congr_left fun s hs => by rw [h s hs]
theorem kS_app (out : List Int) (a b : List Nat) : kS out (a ++ b) = kS out a + kS out b := by simp [kS]
theorem len_le_syms {gs : List Gp} {g : Gp} (h : g ∈ gs) : g.2.2.length ≤ (syms gs).length := by
  obtain ⟨p, q, rfl⟩ := List.append_of_mem h
  unfold syms; rw [List.flatMap_append, List.flatMap_cons, List.length_append, List.length_append]; omega
theorem us_le {us : List Nat} (hn : us.Nodup) (h : ∀ s ∈ us, s < 8) : us.length ≤ 8 := by
  have := hn.length_le_of_subset (l₂ := List.range 8) fun s hs => List.mem_range.2 (h s hs)
  simpa using this
theorem HOk.step {us : List Nat} {gs : List Gp} {out : List Int} (h : HOk us gs out) (n : Nat) (hl : 1 < gs.length) : HOk us (gNext gs n) (bump out (gC gs n).2.2) := by
  have hp := g2_perm hl
  have hs := syms_perm hp
  have hnd : (syms (gA gs :: gA (gR gs) :: gR (gR gs))).Nodup := hs.nodup_iff.1 h.nd
  have e : syms (gA gs :: gA (gR gs) :: gR (gR gs)) = (gC gs n).2.2 ++ syms (gR (gR gs)) := by
    unfold syms gC; rw [List.flatMap_cons, List.flatMap_cons, List.append_assoc]
  rw [e] at hnd hs
  have hcn := (List.nodup_append.1 hnd).1
  have hdis := (List.nodup_append.1 hnd).2.2
  have hus8 : us.length ≤ 8 := us_le (h.pm.nodup_iff.1 h.nd) h.lt
  have hmem : ∀ s, s ∈ (gC gs n).2.2 → s ∈ us := fun s hs' => h.pm.mem_iff.1 (hs.symm.mem_iff.1 (List.mem_append.2 (.inl hs')))
  have hclt : ∀ s ∈ (gC gs n).2.2, s < out.length := fun s hs' => by rw [h.len]; exact h.lt s (hmem s hs')
  have hat := bump_at (gC gs n).2.2 out hcn hclt
  have ha : GOk out (gA gs) := h.ok _ (hp.mem_iff.2 (by simp))
  have hb : GOk out (gA (gR gs)) := h.ok _ (hp.mem_iff.2 (by simp))
  have hcl : (gC gs n).2.2.length = (gA gs).2.2.length + (gA (gR gs)).2.2.length := by unfold gC; simp
  have hc8 : (gC gs n).2.2.length ≤ 8 := by
    have h1 := hs.length_eq
    have h2 := h.pm.length_eq
    rw [List.length_append] at h1
    omega
  have hin : ∀ s ∈ (gC gs n).2.2, (bump out (gC gs n).2.2).getD s 0 = out.getD s 0 + 1 := fun s hs' => by rw [hat, if_pos hs']
  have hbd : ∀ s ∈ (gC gs n).2.2, 0 ≤ out.getD s 0 ∧ out.getD s 0 ≤ 7 ∧ out.getD s 0 + 2 ≤ ((gC gs n).2.2.length : Int) := fun s hs' => by
    have na := ha.ne
    have nb := hb.ne
    rcases List.mem_append.1 hs' with hs' | hs'
    · have := ha.lo s hs'; omega
    · have := hb.lo s hs'; omega
  refine ⟨by rw [bump_length]; exact h.len, (syms_next n hl).nodup_iff.2 h.nd, (syms_next n hl).trans h.pm, h.lt, fun g hg => ?_, fun s hs' => ?_⟩
  · rcases List.mem_append.1 hg with hg | hg
    · have ho := h.ok g (hp.mem_iff.2 (by simp [hg]))
      have hsame : ∀ s ∈ g.2.2, (bump out (gC gs n).2.2).getD s 0 = out.getD s 0 := fun s hs' => by
        rw [hat, if_neg (fun hc => hdis s hc s (List.mem_flatMap.2 ⟨g, hg, hs'⟩) rfl)]; omega
      refine ⟨by rw [kS_same _ hsame]; exact ho.ks, fun s hs' => by rw [hsame s hs']; exact ho.lo s hs', fun h1 s hs' => by rw [hsame s hs']; exact ho.up h1 s hs', ho.ne⟩
    · rw [List.mem_singleton] at hg
      subst hg
      have h2 := kS_half (out := out) (out' := bump out (gC gs n).2.2) (gC gs n).2.2 fun s hs' => ⟨(hbd s hs').1, (hbd s hs').2.1, hin s hs'⟩
      have h3 : kS out (gC gs n).2.2 = 512 := by
        show kS out ((gA gs).2.2 ++ (gA (gR gs)).2.2) = 512
        rw [kS_app, ha.ks, hb.ks]
      have na := ha.ne
      refine ⟨by omega, fun s hs' => by rw [hin s hs']; have := hbd s hs'; omega, fun _ s hs' => by rw [hin s hs']; have := hbd s hs'; omega, by omega⟩
  · rw [hat, if_neg (fun hc => hs' (hmem s hc)), h.oth s hs']; omega
theorem huS_ok {us : List Nat} : ∀ f (gs : List Gp) (out : List Int) (n : Nat), HOk us gs out → gs.length ≤ f + 1 → 0 < gs.length → ∃ g, HOk us [g] (huS f gs out n)
  | 0, gs, out, n, h, h1, h2 => by
    obtain ⟨g, rfl⟩ := List.length_eq_one_iff.1 (show gs.length = 1 by omega)
    exact ⟨g, h⟩
  | f + 1, gs, out, n, h, h1, h2 => by
    rw [huS]
    split
    · rename_i hl
      have := gNext_length n hl
      exact huS_ok f _ _ _ (h.step n hl) (by omega) (by omega)
    · obtain ⟨g, rfl⟩ := List.length_eq_one_iff.1 (show gs.length = 1 by omega)
      exact ⟨g, h⟩
/-- The symbols that are used. -/
def used (cs : List Int) : List Nat := (List.range 8).filter fun s => decide (0 < cs.getD s 0)
theorem used_nd (cs : List Int) : (used cs).Nodup := List.Nodup.sublist List.filter_sublist List.nodup_range
theorem used_mem {cs : List Int} {s : Nat} : s ∈ used cs ↔ s < 8 ∧ 0 < cs.getD s 0 := by simp [used]
theorem syms0 (cs : List Int) : syms (groups0 cs) = used cs := by
  unfold syms groups0
  rw [List.flatMap_map]
  show (used cs).flatMap (fun s => [s]) = used cs
  induction used cs with
  | nil => rfl
  | cons x xs ih => rw [List.flatMap_cons, ih]; rfl
theorem groups0_length (cs : List Int) : (groups0 cs).length = (used cs).length := by unfold groups0 used; rw [List.length_map]
theorem zero8_at (s : Nat) : zero8.getD s 0 = 0 := by
  rw [List.getD_eq_getElem?_getD]
  cases h : zero8[s]? with
  | none => rfl
  | some x => exact List.eq_of_mem_replicate (List.mem_of_getElem? h)
theorem groups0_ok (cs : List Int) : HOk (used cs) (groups0 cs) zero8 := by
  refine ⟨rfl, by rw [syms0]; exact used_nd cs, by rw [syms0], fun s hs => (used_mem.1 hs).1, fun g hg => ?_, fun s _ => zero8_at s⟩
  obtain ⟨s, hs, rfl⟩ := List.mem_map.1 hg
  refine ⟨?_, fun t _ => by rw [zero8_at]; exact ⟨by omega, by simp⟩, fun h => by simp at h, by simp⟩
  show kS zero8 [s] = 256
  unfold kS
  rw [List.map_singleton, zero8_at]
  rfl
/-- What all symbols take of the codes. -/
theorem krF_sum : ∀ (ls : List Int), krF ls = (ls.map fun l => if 0 < l then (2 : Int) ^ (8 - l).toNat else 0).sum := by
  refine list_snoc_b rfl fun l x ih => ?_
  have e : krF (l ++ [x]) = krStep (krF l) x := by simp [krF]
  rw [e, ih, List.map_append, List.sum_append]
  unfold krStep
  simp only [List.map_cons, List.map_nil, List.sum_cons, List.sum_nil, Int.add_zero]
  split <;> omega
theorem krN {ls : List Int} (h8 : ls.length = 8) : krF ls = (((List.range 8).map fun s => if 0 < ls.getD s 0 then 2 ^ (8 - (ls.getD s 0).toNat) else 0).sum : Nat) := by
  have e : ls = (List.range 8).map fun s => ls.getD s 0 := by
    apply List.ext_getElem?
    intro j
    by_cases hj : j < 8
    · rw [List.getElem?_map, List.getElem?_range hj, Option.map_some, List.getD_eq_getElem?_getD, List.getElem?_eq_getElem (by omega)]; rfl
    · rw [List.getElem?_eq_none (by omega), List.getElem?_eq_none (by simp; omega)]
  rw [krF_sum]
  conv => lhs; rw [e]
  rw [List.map_map]
  generalize List.range 8 = L
  induction L with
  | nil => rfl
  | cons s L ih =>
    rw [List.map_cons, List.map_cons, List.sum_cons, List.sum_cons, ih, Int.natCast_add]
    congr 1
    simp only [Function.comp]
    split
    · rw [show (8 - ls.getD s 0).toNat = 8 - (ls.getD s 0).toNat by omega]; simp
    · rfl
theorem sum_filter (p : Nat → Bool) (f : Nat → Nat) : ∀ L : List Nat, ((L.filter p).map f).sum = (L.map fun s => if p s = true then f s else 0).sum
  | [] => rfl
  | s :: L => by
    rw [List.filter_cons, List.map_cons, List.sum_cons, ← sum_filter p f L]
    by_cases h : p s = true
    · rw [if_pos h, if_pos h, List.map_cons, List.sum_cons]
    · rw [if_neg h, if_neg h, Nat.zero_add]
theorem used_range (cs : List Int) : ∀ s, s < 8 → (s ∈ used cs ↔ 0 < cs.getD s 0) := fun s hs => by rw [used_mem]; exact ⟨fun h => h.2, fun h => ⟨hs, h⟩⟩
/-- The lengths that are found: all valid, and each used symbol has one. -/
theorem huff_ok {cs : List Int} (hne : used cs ≠ []) : lenVal (huff cs) = true ∧ (∀ s, s ∈ used cs → 1 ≤ (huff cs).getD s 0) ∧ (∀ s, s ∉ used cs → (huff cs).getD s 0 = 0) ∧ (huff cs).length = 8 := by
  have hpos : 0 < (used cs).length := List.length_pos_iff.2 hne
  have hg := groups0_length cs
  have h8 := groups0_le cs
  by_cases h1 : (groups0 cs).length = 1
  · obtain ⟨s, hs⟩ := List.length_eq_one_iff.1 (hg.symm.trans h1)
    have hs8 : s < 8 := (used_mem.1 (by rw [hs]; simp : s ∈ used cs)).1
    have e0 : groups0 cs = [(cs.getD s 0, s, [s])] := by
      show (used cs).map _ = _
      rw [hs]; rfl
    have e : huff cs = zero8.set s 1 := by
      unfold huff
      rw [huS_end (by omega)]
      unfold out0
      rw [if_pos h1, e0]; unfold gA; rw [gA_one]
      rfl
    have hat : ∀ t, (zero8.set s 1).getD t 0 = if t = s then 1 else 0 := fun t => by
      by_cases ht : t = s
      · subst ht; simp [List.getD_eq_getElem?_getD, zero8, hs8]
      · rw [if_neg ht]
        have := zero8_at t
        simp only [List.getD_eq_getElem?_getD, List.getElem?_set_ne (Ne.symm ht)] at this ⊢
        exact this
    rw [e, hs]
    refine ⟨?_, fun t ht => by rw [hat, if_pos (by simpa using ht)]; exact Int.le_refl _, fun t ht => by rw [hat, if_neg (by simpa using ht)], by simp [zero8]⟩
    have : s = 0 ∨ s = 1 ∨ s = 2 ∨ s = 3 ∨ s = 4 ∨ s = 5 ∨ s = 6 ∨ s = 7 := by omega
    rcases this with rfl | rfl | rfl | rfl | rfl | rfl | rfl | rfl <;> decide +kernel
  · have e : out0 cs = zero8 := by unfold out0; rw [if_neg h1]
    unfold huff
    rw [e]
    obtain ⟨g, hk⟩ := huS_ok 8 _ _ 8 (groups0_ok cs) (by omega) (by omega)
    generalize huS 8 (groups0 cs) zero8 8 = out at hk
    have hgo := hk.ok g (by simp)
    have hgl : g.2.2.length = (used cs).length := by have := hk.pm.length_eq; simpa [syms] using this
    have hgp : g.2.2.Perm (used cs) := by have := hk.pm; simpa [syms] using this
    have hl8 : (used cs).length ≤ 8 := us_le (used_nd cs) fun s hs => (used_mem.1 hs).1
    have hlo : ∀ s, s ∈ used cs → 1 ≤ out.getD s 0 ∧ out.getD s 0 ≤ 7 := fun s hs => by
      have h2 := hgo.lo s (hgp.mem_iff.2 hs)
      exact ⟨hgo.up (by omega) s (hgp.mem_iff.2 hs), by omega⟩
    have hall : ∀ s, 0 ≤ out.getD s 0 ∧ out.getD s 0 ≤ 8 := fun s => by
      by_cases hs : s ∈ used cs
      · have := hlo s hs; omega
      · rw [hk.oth s hs]; omega
    refine ⟨?_, fun s hs => (hlo s hs).1, hk.oth, hk.len⟩
    have hok : lenOk out = true := lenOk_iff.2 ⟨hk.len, fun x hx => by
      obtain ⟨k, hk', rfl⟩ := List.mem_iff_getElem.1 hx
      have := hall k
      rwa [List.getD_eq_getElem?_getD, List.getElem?_eq_getElem hk'] at this⟩
    have hkr : krF out = 256 := by
      rw [krN hk.len]
      have h3 : ((List.range 8).map fun s => if 0 < out.getD s 0 then 2 ^ (8 - (out.getD s 0).toNat) else 0).sum = kS out (used cs) := by
        unfold kS used
        rw [sum_filter]
        congr 1
        refine List.map_congr_left fun s hs => ?_
        have hs8 := List.mem_range.1 hs
        by_cases hc : 0 < cs.getD s 0
        · have := hlo s (used_mem.2 ⟨hs8, hc⟩)
          rw [if_pos (by omega), if_pos (by simpa using hc)]
        · rw [hk.oth s (fun h => hc (used_mem.1 h).2), if_neg (by omega), if_neg (by simpa using hc)]
      rw [h3, show kS out (used cs) = kS out g.2.2 from ?_, hgo.ks]
      · rfl
      · exact ((hgp.map _).sum_nat).symm
    unfold lenVal kraft
    rw [if_pos hok, hkr]
    decide
end Go.Proofs.Ytamljhjbmeikiaa
/- Lengths of codes: the specification's arrays, told by the groups; plain facts, no program in sight. -/
namespace Go.Proofs.Ytamljhjbmeikiaa
open Go Go.RowKit
/-- What the walk through the weights has found at its k-th place. -/
def lwP (W : List Int) (k : Nat) (b : Int) : Prop :=
  (b = -1 ∧ ∀ j, j < k → W.getD j 0 ≤ 0) ∨ (∃ i : Nat, b = i ∧ i < k ∧ 0 < W.getD i 0 ∧ ∀ j, j < k → 0 < W.getD j 0 → W.getD i 0 ≤ W.getD j 0 ∧ (j < i → W.getD i 0 < W.getD j 0))
theorem lwP_zero (W : List Int) : lwP W 0 (-1) := .inl ⟨rfl, fun j hj => by omega⟩
theorem lwP_skip {W : List Int} {k : Nat} {b : Int} (h : lwP W k b) (hk : W.getD k 0 ≤ 0) : lwP W (k + 1) b := by
  rcases h with ⟨h1, h2⟩ | ⟨i, h1, h2, h3, h4⟩
  · exact .inl ⟨h1, fun j hj => by by_cases e : j = k; subst e; exact hk; exact h2 j (by omega)⟩
  · exact .inr ⟨i, h1, by omega, h3, fun j hj hp => by by_cases e : j = k; subst e; omega; exact h4 j (by omega) hp⟩
theorem lwP_first {W : List Int} {k : Nat} (h : lwP W k (-1)) (hk : 0 < W.getD k 0) : lwP W (k + 1) (k : Int) := by
  rcases h with ⟨_, h2⟩ | ⟨i, h1, _⟩
  · refine .inr ⟨k, rfl, by omega, hk, fun j hj hp => ?_⟩
    by_cases e : j = k
    · subst e; omega
    · have := h2 j (by omega); omega
  · omega
theorem lwP_keep {W : List Int} {k i : Nat} (h : lwP W k (i : Int)) (hk : ¬ W.getD k 0 < W.getD i 0) : lwP W (k + 1) (i : Int) := by
  rcases h with ⟨h1, _⟩ | ⟨i', h1, h2, h3, h4⟩
  · omega
  · have e : i' = i := by omega
    subst e
    refine .inr ⟨i', rfl, by omega, h3, fun j hj hp => ?_⟩
    by_cases e : j = k
    · subst e; omega
    · exact h4 j (by omega) hp
theorem lwP_new {W : List Int} {k i : Nat} (h : lwP W k (i : Int)) (hp : 0 < W.getD k 0) (hk : W.getD k 0 < W.getD i 0) : lwP W (k + 1) (k : Int) := by
  rcases h with ⟨h1, _⟩ | ⟨i', h1, h2, h3, h4⟩
  · omega
  · have e : i' = i := by omega
    subst e
    refine .inr ⟨k, rfl, by omega, hp, fun j hj hq => ?_⟩
    by_cases e : j = k
    · subst e; omega
    · have := (h4 j (by omega) hq).1; omega
theorem lwP_at {W : List Int} {k i : Nat} (h : lwP W k (i : Int)) : i < k ∧ 0 < W.getD i 0 := by
  rcases h with ⟨h1, _⟩ | ⟨i', h1, h2, h3, _⟩
  · omega
  · have e : i' = i := by omega
    subst e; exact ⟨h2, h3⟩
theorem lwP_or {W : List Int} {k : Nat} {b : Int} (h : lwP W k b) : b = -1 ∨ ∃ i : Nat, b = i ∧ i < k := by
  rcases h with ⟨h1, _⟩ | ⟨i, h1, h2, _⟩
  · exact .inl h1
  · exact .inr ⟨i, h1, h2⟩
/-- The weights are those of the groups, each at its number. -/
structure arrW (gs : List Gp) (W : List Int) : Prop where
  asc : gs.Pairwise fun a b => a.2.1 < b.2.1
  pos : ∀ g ∈ gs, g.2.1 < W.length ∧ 0 < g.1 ∧ W.getD g.2.1 0 = g.1
  oth : ∀ i, (∀ g ∈ gs, g.2.1 ≠ i) → W.getD i 0 = 0
theorem gs_at {gs : List Gp} {k : Nat} (h : k < gs.length) : gs.getD k gp0 = gs[k] := by rw [List.getD_eq_getElem?_getD, List.getElem?_eq_getElem h]; rfl
theorem arrW_least {gs : List Gp} {W : List Int} {b : Int} (h : arrW gs W) (hb : lwP W W.length b) : (gs = [] ∧ b = -1) ∨ (0 < gs.length ∧ b = ((gA gs).2.1 : Int)) := by
  rcases Nat.eq_zero_or_pos gs.length with h0 | h0
  · have e := List.eq_nil_of_length_eq_zero h0
    subst e
    rcases hb with ⟨h1, _⟩ | ⟨i, h1, h2, h3, _⟩
    · exact .inl ⟨rfl, h1⟩
    · have := h.oth i (fun g hg => by cases hg); omega
  · refine .inr ⟨h0, ?_⟩
    have hl := least_lt h0
    obtain ⟨p1, p2, p3⟩ := h.pos (gs[least gs]) (List.getElem_mem hl)
    rcases hb with ⟨_, h2⟩ | ⟨i, h1, h2, h3, h4⟩
    · have := h2 _ p1; omega
    · have hex : ∃ p, ∃ hp : p < gs.length, (gs[p]).2.1 = i := by
        refine Classical.byContradiction fun hno => ?_
        have := h.oth i fun g hg e => hno (by
          obtain ⟨p, hp, rfl⟩ := List.mem_iff_getElem.1 hg
          exact ⟨p, hp, e⟩)
        omega
      obtain ⟨p, hp, hpi⟩ := hex
      obtain ⟨q1, q2, q3⟩ := h.pos (gs[p]) (List.getElem_mem hp)
      have k1 := leastK_is gs gs.length p hp
      have e0 : leastK gs gs.length = least gs := rfl
      rw [e0, gs_at hl, gs_at hp] at k1
      have k2 := h4 (gs[least gs]).2.1 p1 (by omega)
      rw [hpi] at q3
      have hpl : p = least gs := by
        rcases Nat.lt_trichotomy p (least gs) with hlt | heq | hgt
        · have := k1.2 hlt; omega
        · exact heq
        · have h5 := List.pairwise_iff_getElem.1 h.asc (least gs) p hl hp hgt
          have := k2.2 (by omega); omega
      subst hpl
      unfold gA
      rw [gs_at hl, h1, hpi]
theorem eraseIdx_mem {α : Type} {l : List α} {k : Nat} {x : α} (h : x ∈ l.eraseIdx k) : x ∈ l := List.mem_of_mem_eraseIdx h
theorem gA_mem {gs : List Gp} (h : 0 < gs.length) : gA gs ∈ gs := by unfold gA; rw [gs_at (least_lt h)]; exact List.getElem_mem _
/-- The least group is taken. -/
theorem arrW_take {gs : List Gp} {W : List Int} (h : arrW gs W) (h0 : 0 < gs.length) : arrW (gR gs) (W.set (gA gs).2.1 0) := by
  have hp := gR_perm h0
  have hl := (h.pos _ (gA_mem h0)).1
  have hne : ∀ g ∈ gR gs, g.2.1 ≠ (gA gs).2.1 := fun g hg e => by
    have hnd : (gs.map fun g => g.2.1).Nodup := by
      have := h.asc
      rw [List.nodup_iff_pairwise_ne, List.pairwise_map]
      exact this.imp fun h => by omega
    have h2 := (hp.map fun g => g.2.1).nodup_iff.1 hnd
    rw [List.map_cons, List.nodup_cons] at h2
    exact h2.1 (List.mem_map.2 ⟨g, hg, e⟩)
  refine ⟨h.asc.sublist (List.eraseIdx_sublist _ _), fun g hg => ?_, fun i hi => ?_⟩
  · have h1 := h.pos g (eraseIdx_mem hg)
    refine ⟨by rw [List.length_set]; exact h1.1, h1.2.1, ?_⟩
    rw [List.getD_eq_getElem?_getD, List.getElem?_set_ne (Ne.symm (hne g hg)), ← List.getD_eq_getElem?_getD]
    exact h1.2.2
  · by_cases e : i = (gA gs).2.1
    · subst e
      simp [List.getD_eq_getElem?_getD, hl]
    · rw [List.getD_eq_getElem?_getD, List.getElem?_set_ne (Ne.symm e), ← List.getD_eq_getElem?_getD]
      refine h.oth i fun g hg => ?_
      rcases List.mem_cons.1 (hp.mem_iff.1 hg) with rfl | hg
      · exact fun h' => e h'.symm
      · exact hi g hg
theorem arrW_add {gs : List Gp} {W : List Int} {v : Int} {ss : List Nat} (h : arrW gs W) (hv : 0 < v) : arrW (gs ++ [(v, W.length, ss)]) (W ++ [v]) := by
  refine ⟨?_, fun g hg => ?_, fun i hi => ?_⟩
  · rw [List.pairwise_append]
    refine ⟨h.asc, by simp, fun a ha b hb => ?_⟩
    simp at hb
    subst hb
    exact (h.pos a ha).1
  · rcases List.mem_append.1 hg with hg | hg
    · have h1 := h.pos g hg
      refine ⟨by rw [List.length_append]; omega, h1.2.1, ?_⟩
      rw [List.getD_eq_getElem?_getD, List.getElem?_append_left h1.1, ← List.getD_eq_getElem?_getD]
      exact h1.2.2
    · simp at hg
      subst hg
      refine ⟨by simp, hv, ?_⟩
      simp [List.getD_eq_getElem?_getD]
  · have hne : i ≠ W.length := fun e => hi (v, W.length, ss) (by simp) e.symm
    by_cases hlt : i < W.length
    · rw [List.getD_eq_getElem?_getD, List.getElem?_append_left hlt, ← List.getD_eq_getElem?_getD]
      exact h.oth i fun g hg => hi g (by simp [hg])
    · rw [List.getD_eq_getElem?_getD, List.getElem?_eq_none (by simp; omega)]; rfl
theorem arrW_next {gs : List Gp} {W : List Int} (h : arrW gs W) (hl : 1 < gs.length) : arrW (gNext gs W.length) (((W.set (gA gs).2.1 0).set (gA (gR gs)).2.1 0) ++ [(gA gs).1 + (gA (gR gs)).1]) := by
  have h1 := arrW_take h (by omega)
  have hr := gR_length (gs := gs) (by omega)
  have h2 := arrW_take h1 (by omega)
  have h3 := arrW_add (v := (gA gs).1 + (gA (gR gs)).1) (ss := (gA gs).2.2 ++ (gA (gR gs)).2.2) h2 (by
    have := (h.pos _ (gA_mem (by omega))).2.1
    have := (h1.pos _ (gA_mem (by omega))).2.1
    omega)
  rw [List.length_set, List.length_set] at h3
  exact h3
/-- All weights together. -/
def sumW (gs : List Gp) : Int := (gs.map fun g => g.1).sum
theorem sum_permI {xs ys : List Int} (h : xs.Perm ys) : xs.sum = ys.sum := by
  induction h with
  | nil => rfl
  | cons x _ ih => rw [List.sum_cons, List.sum_cons, ih]
  | swap x y l => simp only [List.sum_cons]; omega
  | trans _ _ ih1 ih2 => exact ih1.trans ih2
theorem sumW_next {gs : List Gp} (n : Nat) (hl : 1 < gs.length) : sumW (gNext gs n) = sumW gs := by
  have h := sum_permI ((g2_perm hl).map fun g => g.1)
  unfold sumW at *
  rw [h]
  unfold gNext gC
  rw [List.map_append, List.sum_append, List.map_cons, List.map_cons, List.map_cons, List.map_nil, List.sum_cons, List.sum_cons, List.sum_cons, List.sum_nil]
  omega
theorem sumW_mem : ∀ {gs : List Gp}, (∀ g ∈ gs, 0 < g.1) → ∀ g ∈ gs, g.1 ≤ sumW gs
  | [], _, g, hg => by cases hg
  | x :: gs, h, g, hg => by
    have hx := h x (by simp)
    have hnn : 0 ≤ sumW gs := by
      have hs : ∀ l : List Gp, (∀ g ∈ l, 0 < g.1) → 0 ≤ (l.map fun g => g.1).sum := by
        intro l
        induction l with
        | nil => intro _; simp
        | cons y l ih =>
          intro hy
          have := hy y (by simp)
          have := ih fun g hg => hy g (by simp [hg])
          rw [List.map_cons, List.sum_cons]; omega
      exact hs gs fun g hg => h g (by simp [hg])
    have e : sumW (x :: gs) = x.1 + sumW gs := by unfold sumW; rw [List.map_cons, List.sum_cons]
    rcases List.mem_cons.1 hg with rfl | hg
    · omega
    · have := sumW_mem (fun g hg => h g (by simp [hg])) g hg; omega
theorem arrW_bd {gs : List Gp} {W : List Int} (h : arrW gs W) : ∀ x ∈ W, 0 ≤ x ∧ x ≤ max 0 (sumW gs) := fun x hx => by
  obtain ⟨i, hi, rfl⟩ := List.mem_iff_getElem.1 hx
  have e : W.getD i 0 = W[i] := by rw [List.getD_eq_getElem?_getD, List.getElem?_eq_getElem hi]; rfl
  by_cases hex : ∃ g ∈ gs, g.2.1 = i
  · obtain ⟨g, hg, hgi⟩ := hex
    have h1 := h.pos g hg
    have h2 := sumW_mem (fun g hg => (h.pos g hg).2.1) g hg
    rw [hgi] at h1
    omega
  · have := h.oth i fun g hg e => hex ⟨g, hg, e⟩
    omega
/-- The number of each symbol's group. -/
structure grpR (gs : List Gp) (G : List Int) (n : Nat) : Prop where
  len : G.length = 8
  lt : ∀ s, s < 8 → 0 ≤ G.getD s 0 ∧ G.getD s 0 < (n : Int)
  is : ∀ g ∈ gs, ∀ s, s < 8 → (s ∈ g.2.2 ↔ G.getD s 0 = (g.2.1 : Int))
/-- The symbols of one group go to another one, their codes longer by a bit; the first k symbols. -/
structure joinP (G L : List Int) (a b : Int) (k : Nat) (G' L' : List Int) : Prop where
  lg : G'.length = 8
  ll : L'.length = 8
  gr : ∀ j, j < 8 → G'.getD j 0 = if j < k ∧ G.getD j 0 = a then b else G.getD j 0
  le : ∀ j, j < 8 → L'.getD j 0 = L.getD j 0 + if j < k ∧ G.getD j 0 = a then 1 else 0
theorem joinP_start {G L : List Int} (a b : Int) (hg : G.length = 8) (hl : L.length = 8) : joinP G L a b 0 G L :=
  ⟨hg, hl, fun j _ => by rw [if_neg (by omega)], fun j _ => by rw [if_neg (by omega)]; omega⟩
theorem getD_set {L : List Int} {k j : Nat} {v : Int} (hk : k < L.length) : (L.set k v).getD j 0 = if j = k then v else L.getD j 0 := by
  by_cases h : j = k
  · subst h; simp [List.getD_eq_getElem?_getD, hk]
  · rw [if_neg h, List.getD_eq_getElem?_getD, List.getElem?_set_ne (Ne.symm h), ← List.getD_eq_getElem?_getD]
theorem joinP_yes {G L G' L' : List Int} {a b : Int} {k : Nat} (h : joinP G L a b k G' L') (hk : k < 8) (ha : G.getD k 0 = a) : joinP G L a b (k + 1) (G'.set k b) (L'.set k (L'.getD k 0 + 1)) := by
  have hlg := h.lg
  have hll := h.ll
  refine ⟨by rw [List.length_set, hlg], by rw [List.length_set, hll], fun j hj => ?_, fun j hj => ?_⟩
  · rw [getD_set (by omega)]
    by_cases e : j = k
    · subst e; rw [if_pos rfl, if_pos ⟨by omega, ha⟩]
    · rw [if_neg e, h.gr j hj]
      by_cases h2 : j < k ∧ G.getD j 0 = a
      · rw [if_pos h2, if_pos ⟨by omega, h2.2⟩]
      · rw [if_neg h2, if_neg (by omega)]
  · rw [getD_set (by omega)]
    by_cases e : j = k
    · subst e; rw [if_pos rfl, h.le j hj, if_neg (by omega), if_pos ⟨by omega, ha⟩]; omega
    · rw [if_neg e, h.le j hj]
      by_cases h2 : j < k ∧ G.getD j 0 = a
      · rw [if_pos h2, if_pos ⟨by omega, h2.2⟩]
      · rw [if_neg h2, if_neg (by omega)]
theorem joinP_no {G L G' L' : List Int} {a b : Int} {k : Nat} (h : joinP G L a b k G' L') (ha : ¬ G.getD k 0 = a) : joinP G L a b (k + 1) G' L' := by
  refine ⟨h.lg, h.ll, fun j hj => ?_, fun j hj => ?_⟩
  · rw [h.gr j hj]
    by_cases e : j = k
    · subst e; rw [if_neg (by omega), if_neg (by omega)]
    · by_cases h2 : j < k ∧ G.getD j 0 = a
      · rw [if_pos h2, if_pos ⟨by omega, h2.2⟩]
      · rw [if_neg h2, if_neg (by omega)]
  · rw [h.le j hj]
    by_cases e : j = k
    · subst e; rw [if_neg (by omega), if_neg (by omega)]
    · by_cases h2 : j < k ∧ G.getD j 0 = a
      · rw [if_pos h2, if_pos ⟨by omega, h2.2⟩]
      · rw [if_neg h2, if_neg (by omega)]
theorem list8_ext {A B : List Int} (ha : A.length = 8) (hb : B.length = 8) (h : ∀ j, j < 8 → A.getD j 0 = B.getD j 0) : A = B := by
  apply List.ext_getElem?
  intro j
  by_cases hj : j < 8
  · have := h j hj
    rw [List.getD_eq_getElem?_getD, List.getD_eq_getElem?_getD, List.getElem?_eq_getElem (by omega), List.getElem?_eq_getElem (by omega)] at this
    rw [List.getElem?_eq_getElem (by omega), List.getElem?_eq_getElem (by omega)]
    exact congrArg some this
  · rw [List.getElem?_eq_none (by omega), List.getElem?_eq_none (by omega)]
/-- Both least groups are joined. -/
theorem join_two {us : List Nat} {gs : List Gp} {W G L G1 L1 G2 L2 : List Int} (hW : arrW gs W) (hG : grpR gs G W.length) (hk : HOk us gs L) (hl : 1 < gs.length)
    (h1 : joinP G L ((gA gs).2.1 : Int) (W.length : Int) 8 G1 L1) (h2 : joinP G1 L1 ((gA (gR gs)).2.1 : Int) (W.length : Int) 8 G2 L2) :
    grpR (gNext gs W.length) G2 (W.length + 1) ∧ L2 = bump L (gC gs W.length).2.2 := by
  have hp := g2_perm hl
  have hrl := gR_length (gs := gs) (by omega)
  have ma : gA gs ∈ gs := gA_mem (by omega)
  have mb : gA (gR gs) ∈ gs := hp.mem_iff.2 (by simp)
  have pa := hW.pos _ ma
  have pb := hW.pos _ mb
  have hnd : (gs.map fun g => g.2.1).Nodup := by
    have := hW.asc
    rw [List.nodup_iff_pairwise_ne, List.pairwise_map]
    exact this.imp fun h => by omega
  have hnd2 := (hp.map fun g => g.2.1).nodup_iff.1 hnd
  rw [List.map_cons, List.map_cons, List.nodup_cons, List.nodup_cons] at hnd2
  have hab : (gA gs).2.1 ≠ (gA (gR gs)).2.1 := fun e => hnd2.1 (by rw [e]; simp)
  have hra : ∀ g ∈ gR (gR gs), g.2.1 ≠ (gA gs).2.1 ∧ g.2.1 ≠ (gA (gR gs)).2.1 := fun g hg =>
    ⟨fun e => hnd2.1 (by rw [← e]; exact List.mem_cons_of_mem _ (List.mem_map.2 ⟨g, hg, rfl⟩)), fun e => hnd2.2.1 (List.mem_map.2 ⟨g, hg, e⟩)⟩
  have ia := hG.is _ ma
  have ib := hG.is _ mb
  generalize hA : gA gs = ga at *
  generalize hB : gA (gR gs) = gb at *
  have e1 : ∀ s, s < 8 → G1.getD s 0 = if G.getD s 0 = (ga.2.1 : Int) then (W.length : Int) else G.getD s 0 := fun s hs => by
    rw [h1.gr s hs]
    by_cases h : G.getD s 0 = (ga.2.1 : Int)
    · rw [if_pos ⟨hs, h⟩, if_pos h]
    · rw [if_neg (by omega), if_neg h]
  have e2 : ∀ s, s < 8 → G2.getD s 0 = if G1.getD s 0 = (gb.2.1 : Int) then (W.length : Int) else G1.getD s 0 := fun s hs => by
    rw [h2.gr s hs]
    by_cases h : G1.getD s 0 = (gb.2.1 : Int)
    · rw [if_pos ⟨hs, h⟩, if_pos h]
    · rw [if_neg (by omega), if_neg h]
  have eC : (gC gs W.length).2.2 = ga.2.2 ++ gb.2.2 := by unfold gC; rw [hA, hB]
  have eI : (gC gs W.length).2.1 = W.length := rfl
  have hcases : ∀ s, s < 8 → (G.getD s 0 = (ga.2.1 : Int) ∧ G2.getD s 0 = (W.length : Int)) ∨ (G.getD s 0 = (gb.2.1 : Int) ∧ G2.getD s 0 = (W.length : Int)) ∨ (G.getD s 0 ≠ (ga.2.1 : Int) ∧ G.getD s 0 ≠ (gb.2.1 : Int) ∧ G2.getD s 0 = G.getD s 0) := fun s hs => by
    have hlt := hG.lt s hs
    have f1 := e1 s hs
    have f2 := e2 s hs
    by_cases ha : G.getD s 0 = (ga.2.1 : Int)
    · rw [if_pos ha] at f1
      rw [if_neg (by omega)] at f2
      exact .inl ⟨ha, by omega⟩
    · rw [if_neg ha] at f1
      by_cases hb : G.getD s 0 = (gb.2.1 : Int)
      · rw [if_pos (by omega)] at f2
        exact .inr (.inl ⟨hb, f2⟩)
      · rw [if_neg (by omega)] at f2
        exact .inr (.inr ⟨ha, hb, by omega⟩)
  refine ⟨⟨h2.lg, fun s hs => ?_, fun g hg s hs => ?_⟩, ?_⟩
  · have hlt := hG.lt s hs
    rcases hcases s hs with h | h | h <;> omega
  · have hlt := hG.lt s hs
    rcases List.mem_append.1 hg with hg | hg
    · have hgm : g ∈ gs := hp.mem_iff.2 (by simp [hg])
      have hr := hra g hg
      have hq := (hW.pos g hgm).1
      rw [hG.is g hgm s hs]
      rcases hcases s hs with h | h | h <;> omega
    · rw [List.mem_singleton] at hg
      subst hg
      rw [eC, eI, List.mem_append, ia s hs, ib s hs]
      rcases hcases s hs with h | h | h <;> omega
  · have hnb := hk.step W.length hl
    have hsy := syms_perm hp
    have hndS : (syms (ga :: gb :: gR (gR gs))).Nodup := hsy.nodup_iff.1 hk.nd
    have eS : syms (ga :: gb :: gR (gR gs)) = (gC gs W.length).2.2 ++ syms (gR (gR gs)) := by
      rw [eC]; unfold syms; rw [List.flatMap_cons, List.flatMap_cons, List.append_assoc]
    rw [eS] at hndS hsy
    have hcn := (List.nodup_append.1 hndS).1
    have hclt : ∀ s ∈ (gC gs W.length).2.2, s < L.length := fun s hs' => by
      rw [hk.len]
      exact hk.lt s (hk.pm.mem_iff.1 (hsy.symm.mem_iff.1 (List.mem_append.2 (.inl hs'))))
    refine list8_ext h2.ll hnb.len fun s hs => ?_
    rw [bump_at _ _ hcn hclt, h2.le s hs, h1.le s hs, eC]
    have f1 := e1 s hs
    have hlt := hG.lt s hs
    by_cases ha : G.getD s 0 = (ga.2.1 : Int)
    · rw [if_pos ha] at f1
      rw [if_pos ⟨hs, ha⟩, if_neg (by omega), if_pos (List.mem_append.2 (.inl ((ia s hs).2 ha)))]
      omega
    · rw [if_neg ha] at f1
      rw [if_neg (by omega)]
      by_cases hb : G.getD s 0 = (gb.2.1 : Int)
      · rw [if_pos ⟨hs, by omega⟩, if_pos (List.mem_append.2 (.inr ((ib s hs).2 hb)))]; omega
      · rw [if_neg (by omega), if_neg (fun hc => by rcases List.mem_append.1 hc with hc | hc; exact ha ((ia s hs).1 hc); exact hb ((ib s hs).1 hc))]; omega
/-! The start and the end. -/
theorem cnt_bd {cs : List Int} (h : cntOk cs = true) : cs.length = 8 ∧ ∀ x ∈ cs, 0 ≤ x ∧ x ≤ 999 := by simpa [cntOk, inB_true] using h
theorem cnt_at {cs : List Int} (h : cntOk cs = true) (s : Nat) : 0 ≤ cs.getD s 0 ∧ cs.getD s 0 ≤ 999 := by
  rw [List.getD_eq_getElem?_getD]
  cases he : cs[s]? with
  | none => exact ⟨Int.le_refl _, by decide⟩
  | some x => exact (cnt_bd h).2 x (List.mem_of_getElem? he)
theorem arrW_start {cs : List Int} (h : cntOk cs = true) : arrW (groups0 cs) cs := by
  have h8 := (cnt_bd h).1
  refine ⟨?_, fun g hg => ?_, fun i hi => ?_⟩
  · unfold groups0
    rw [List.pairwise_map]
    exact List.Pairwise.sublist List.filter_sublist List.pairwise_lt_range
  · obtain ⟨s, hs, rfl⟩ := List.mem_map.1 hg
    have := used_mem.1 hs
    exact ⟨by show s < cs.length; omega, this.2, rfl⟩
  · refine Decidable.byContradiction fun hne => ?_
    have h0 := cnt_at h i
    have hi8 : i < 8 := by
      refine Decidable.byContradiction fun h9 => hne ?_
      rw [List.getD_eq_getElem?_getD, List.getElem?_eq_none (by omega)]; rfl
    exact hi (cs.getD i 0, i, [i]) (List.mem_map.2 ⟨i, used_mem.2 ⟨hi8, by omega⟩, rfl⟩) rfl
theorem order_at {s : Nat} (hs : s < 8) : ((List.range 8).map fun i : Nat => (i : Int)).getD s 0 = s := by
  rw [List.getD_eq_getElem?_getD, List.getElem?_map, List.getElem?_range hs]; rfl
theorem grpR_start (cs : List Int) : grpR (groups0 cs) ((List.range 8).map fun i : Nat => (i : Int)) 8 := by
  refine ⟨by simp, fun s hs => by rw [order_at hs]; omega, fun g hg s hs => ?_⟩
  obtain ⟨t, ht, rfl⟩ := List.mem_map.1 hg
  rw [order_at hs, List.mem_singleton]
  show s = t ↔ (s : Int) = (t : Int)
  omega
theorem sumL_sum : ∀ xs : List Int, sumL xs = xs.sum := by
  refine list_snoc_b rfl fun l x ih => ?_
  have e : sumL (l ++ [x]) = sumL l + x := by simp [sumL]
  rw [e, ih]; simp
theorem sum_filterI (p : Nat → Bool) (f : Nat → Int) : ∀ L : List Nat, (∀ s ∈ L, p s = false → f s = 0) → ((L.filter p).map f).sum = (L.map f).sum
  | [], _ => rfl
  | s :: L, h => by
    rw [List.filter_cons, List.map_cons, List.sum_cons]
    have ih := sum_filterI p f L fun t ht => h t (by simp [ht])
    by_cases hp : p s = true
    · rw [if_pos hp, List.map_cons, List.sum_cons, ih]
    · rw [if_neg hp, ih, h s (by simp) (by simpa using hp)]; omega
theorem sumL_start {cs : List Int} (h : cntOk cs = true) : sumL cs = sumW (groups0 cs) := by
  have h8 := (cnt_bd h).1
  have e : cs = (List.range 8).map fun s => cs.getD s 0 := by
    refine list8_ext h8 (by simp) fun j hj => ?_
    conv => rhs; rw [List.getD_eq_getElem?_getD, List.getElem?_map, List.getElem?_range hj]
    rfl
  rw [sumL_sum]
  unfold sumW groups0
  rw [List.map_map]
  show _ = (((List.range 8).filter fun s => decide (0 < cs.getD s 0)).map fun s => cs.getD s 0).sum
  rw [sum_filterI _ _ _ (fun s _ hs => by have := cnt_at h s; have hs := of_decide_eq_false hs; omega), ← e]
theorem sum_one {cs : List Int} (h : cntOk cs = true) (h0 : 0 < (groups0 cs).length) : sumL cs = (gA (groups0 cs)).1 ↔ (groups0 cs).length = 1 := by
  rw [sumL_start h]
  constructor
  · intro he
    refine Decidable.byContradiction fun hne => ?_
    have hp := g2_perm (gs := groups0 cs) (by omega)
    have hs := sum_permI (hp.map fun g => g.1)
    have hpos := (arrW_start h).pos
    have hb := (hpos _ (hp.mem_iff.2 (by simp : gA (gR (groups0 cs)) ∈ _))).2.1
    have hr : 0 ≤ ((gR (gR (groups0 cs))).map fun g => g.1).sum := by
      have hs : ∀ l : List Gp, (∀ g ∈ l, 0 < g.1) → 0 ≤ (l.map fun g => g.1).sum := by
        intro l
        induction l with
        | nil => intro _; simp
        | cons y l ih =>
          intro hy
          have := hy y (by simp)
          have := ih fun g hg => hy g (by simp [hg])
          rw [List.map_cons, List.sum_cons]; omega
      exact hs _ fun g hg => (hpos g (hp.mem_iff.2 (by simp [hg]))).2.1
    unfold sumW at he
    rw [hs, List.map_cons, List.map_cons, List.sum_cons, List.sum_cons] at he
    omega
  · intro h1
    obtain ⟨g, hg⟩ := List.length_eq_one_iff.1 h1
    rw [hg]
    unfold gA
    rw [gA_one]
    simp [sumW]
theorem used_end {us : List Nat} {gs : List Gp} {cs out : List Int} (hus : us = used cs) (hk : HOk us gs out) : usedL cs out = out := by
  refine list8_ext (by unfold usedL; simp [hk.len]) hk.len fun j hj => ?_
  unfold usedL
  rw [List.getD_eq_getElem?_getD, List.getElem?_map, List.getElem?_range (by rw [hk.len]; exact hj)]
  show (if cs.getD j 0 = 0 then 0 else out.getD j 0) = _
  by_cases hc : cs.getD j 0 = 0
  · rw [if_pos hc, hk.oth j (by rw [hus]; exact fun hm => by have := (used_mem.1 hm).2; omega)]
  · rw [if_neg hc]
end Go.Proofs.Ytamljhjbmeikiaa
/- Codes of valid lengths: none begins with another one; bits are decoded. Plain facts, no program in sight. -/
namespace Go.Proofs.Ytamljhjbmeikiaa
open Go Go.RowKit
/-- Is symbol j's code before that of symbol i of width w? -/
def befC (ls : List Int) (w i j : Nat) : Prop := 0 < len8 ls j ∧ (len8 ls j < w ∨ (len8 ls j = w ∧ j < i))
instance (ls : List Int) (w i j : Nat) : Decidable (befC ls w i j) := by unfold befC; exact inferInstance
def partC (ls : List Int) (j : Nat) : Nat := if 0 < len8 ls j then 2 ^ (8 - len8 ls j) else 0
def befS (ls : List Int) (w i : Nat) : Nat := sum8 fun j => if befC ls w i j then 2 ^ (8 - len8 ls j) else 0
theorem sum8_le {f g : Nat → Nat} (h : ∀ j, j < 8 → f j ≤ g j) : sum8 f ≤ sum8 g := by
  have := h 0 (by omega); have := h 1 (by omega); have := h 2 (by omega); have := h 3 (by omega); have := h 4 (by omega); have := h 5 (by omega); have := h 6 (by omega); have := h 7 (by omega)
  unfold sum8; omega
theorem sum8_add (f g : Nat → Nat) : sum8 (fun j => f j + g j) = sum8 f + sum8 g := by simp only [sum8]; omega
theorem sum8_one {s K : Nat} (hs : s < 8) : sum8 (fun j => if j = s then K else 0) = K := by
  have : s = 0 ∨ s = 1 ∨ s = 2 ∨ s = 3 ∨ s = 4 ∨ s = 5 ∨ s = 6 ∨ s = 7 := by omega
  rcases this with rfl | rfl | rfl | rfl | rfl | rfl | rfl | rfl <;> simp [sum8]
theorem sum8_mul (f : Nat → Nat) (c : Nat) : sum8 (fun j => f j * c) = sum8 f * c := by unfold sum8; simp only [Nat.add_mul]
theorem codeAt_scale {ls : List Int} {w i : Nat} (hw : w ≤ 8) : codeAt ls w i * 2 ^ (8 - w) = befS ls w i := by
  unfold codeAt befS
  rw [← sum8_mul]
  congr 1
  funext j
  unfold termC
  by_cases h : 0 < len8 ls j ∧ (len8 ls j < w ∨ (len8 ls j = w ∧ j < i))
  · rw [if_pos h, if_pos (show befC ls w i j from h), ← Nat.pow_add]
    congr 1
    omega
  · rw [if_neg h, if_neg (show ¬ befC ls w i j from h), Nat.zero_mul]
theorem getD_bd8 {ls : List Int} (h : ∀ x ∈ ls, 0 ≤ x ∧ x ≤ 8) (j : Nat) : 0 ≤ ls.getD j 0 ∧ ls.getD j 0 ≤ 8 := by
  rw [List.getD_eq_getElem?_getD]
  cases he : ls[j]? with
  | none => exact ⟨Int.le_refl _, by decide⟩
  | some x => exact h x (List.mem_of_getElem? he)
theorem lenVal_bd {ls : List Int} (h : lenVal ls = true) : (∀ j, len8 ls j ≤ 8) ∧ sum8 (partC ls) ≤ 256 := by
  obtain ⟨h8, hall⟩ := lenVal_ok h
  have hg : ∀ j, 0 ≤ ls.getD j 0 ∧ ls.getD j 0 ≤ 8 := fun j => getD_bd8 hall j
  refine ⟨fun j => by unfold len8; have := hg j; omega, ?_⟩
  have hok : lenOk ls = true := lenOk_iff.2 ⟨h8, hall⟩
  unfold lenVal kraft at h
  rw [if_pos hok, krN h8] at h
  simp only [Bool.and_eq_true, decide_eq_true_eq] at h
  have e : ((List.range 8).map fun s => if 0 < ls.getD s 0 then 2 ^ (8 - (ls.getD s 0).toNat) else 0).sum = sum8 (partC ls) := by
    have hp : ∀ s, (if 0 < ls.getD s 0 then 2 ^ (8 - (ls.getD s 0).toNat) else 0) = partC ls s := fun s => by
      unfold partC len8
      have := hg s
      by_cases h0 : 0 < ls.getD s 0
      · rw [if_pos h0, if_pos (by omega)]
      · rw [if_neg h0, if_neg (by omega)]
    rw [List.map_congr_left (g := partC ls) fun s _ => hp s]
    show (List.map (partC ls) [0, 1, 2, 3, 4, 5, 6, 7]).sum = _
    simp only [List.map_cons, List.map_nil, List.sum_cons, List.sum_nil, sum8]
    omega
  omega
/-- A code's part lies behind the parts of those before it. -/
theorem bef_total {ls : List Int} {s : Nat} (hs : s < 8) (h0 : 0 < len8 ls s) : befS ls (len8 ls s) s + 2 ^ (8 - len8 ls s) ≤ sum8 (partC ls) := by
  conv => lhs; rhs; rw [← sum8_one (K := 2 ^ (8 - len8 ls s)) hs]
  unfold befS
  rw [← sum8_add]
  refine sum8_le fun j _ => ?_
  unfold partC
  by_cases hj : j = s
  · subst hj
    rw [if_neg (show ¬ befC ls (len8 ls j) j j by unfold befC; omega), if_pos rfl, if_pos h0]; omega
  · rw [if_neg hj]
    by_cases h : befC ls (len8 ls s) s j
    · rw [if_pos h, if_pos h.1]; omega
    · rw [if_neg h]; omega
theorem bef_step {ls : List Int} {s t : Nat} (hs : s < 8) (h : befC ls (len8 ls t) t s) : befS ls (len8 ls s) s + 2 ^ (8 - len8 ls s) ≤ befS ls (len8 ls t) t := by
  conv => lhs; rhs; rw [← sum8_one (K := 2 ^ (8 - len8 ls s)) hs]
  unfold befS
  rw [← sum8_add]
  refine sum8_le fun j _ => ?_
  by_cases hj : j = s
  · subst hj
    rw [if_neg (show ¬ befC ls (len8 ls j) j j by unfold befC; omega), if_pos rfl, if_pos h]; omega
  · rw [if_neg hj]
    by_cases h2 : befC ls (len8 ls s) s j
    · rw [if_pos h2, if_pos (show befC ls (len8 ls t) t j by unfold befC at *; omega)]; omega
    · rw [if_neg h2]; omega
theorem code_lt {ls : List Int} {s : Nat} (hv : lenVal ls = true) (hs : s < 8) (h0 : 0 < len8 ls s) : codeAt ls (len8 ls s) s < 2 ^ len8 ls s := by
  obtain ⟨h8, hsum⟩ := lenVal_bd hv
  have h1 := bef_total hs h0
  rw [← codeAt_scale (h8 s)] at h1
  have h2 : (codeAt ls (len8 ls s) s + 1) * 2 ^ (8 - len8 ls s) ≤ 2 ^ len8 ls s * 2 ^ (8 - len8 ls s) := by
    rw [← Nat.pow_add, show len8 ls s + (8 - len8 ls s) = 8 by have := h8 s; omega, Nat.add_mul]
    omega
  exact Nat.le_of_mul_le_mul_right h2 (Nat.pos_of_ne_zero (by simp))
/-- No code begins with another one. -/
theorem code_free {ls : List Int} {s t v : Nat} (hv : lenVal ls = true) (hs : s < 8) (ht : t < 8) (hs0 : 0 < len8 ls s) (hst : s ≠ t) (hle : len8 ls s ≤ len8 ls t)
    (h1 : v * 2 ^ (len8 ls t - len8 ls s) ≤ codeAt ls (len8 ls t) t) (h2 : codeAt ls (len8 ls t) t < (v + 1) * 2 ^ (len8 ls t - len8 ls s)) : codeAt ls (len8 ls s) s ≠ v := by
  obtain ⟨h8, -⟩ := lenVal_bd hv
  intro e
  subst e
  have st := codeAt_scale (ls := ls) (i := t) (h8 t)
  have ss := codeAt_scale (ls := ls) (i := s) (h8 s)
  have hp : 0 < 2 ^ (8 - len8 ls t) := Nat.pos_of_ne_zero (by simp)
  have hm : 2 ^ (len8 ls t - len8 ls s) * 2 ^ (8 - len8 ls t) = 2 ^ (8 - len8 ls s) := by
    rw [← Nat.pow_add]; congr 1; have := h8 t; omega
  have k1 := Nat.mul_le_mul_right (2 ^ (8 - len8 ls t)) h1
  have k2 := Nat.mul_lt_mul_of_pos_right h2 hp
  rw [Nat.mul_assoc, hm, st, ss] at k1
  rw [Nat.mul_assoc, hm, st, Nat.add_mul, ss] at k2
  by_cases hb : befC ls (len8 ls t) t s
  · have := bef_step hs hb; omega
  · have hb2 : befC ls (len8 ls s) s t := by unfold befC at *; omega
    have h3 := bef_step ht hb2
    omega
theorem numF_app (a : List Int) : ∀ b : List Int, numF (a ++ b) = numF a * 2 ^ b.length + numF b := by
  refine list_snoc_b (by simp [numF_nil]) fun l x ih => ?_
  rw [← List.append_assoc, numF_snoc, numF_snoc, ih, List.length_append]
  show _ = numF a * 2 ^ (l.length + 1) + _
  rw [Int.pow_succ, Int.mul_add, Int.mul_comm (2 ^ l.length) 2, ← Int.mul_assoc, ← Int.mul_assoc, Int.mul_comm 2 (numF a)]
  omega
theorem codesL_at {ls : List Int} {s : Nat} (hs : s < 8) : (codesL ls).getD s 0 = if 0 < len8 ls s then (codeAt ls (len8 ls s) s : Int) else -1 := by
  rw [List.getD_eq_getElem?_getD]
  unfold codesL
  rw [List.getElem?_map, List.getElem?_range hs]
  rfl
theorem codesL_length (ls : List Int) : (codesL ls).length = 8 := by simp [codesL]
/-- At most one symbol's code stands at a place. -/
theorem sym_le {ls bits : List Int} {a s t : Nat} (hv : lenVal ls = true) (hb : ∀ x ∈ bits, 0 ≤ x ∧ x ≤ 1) (hs : s < 8) (ht : t < 8) (hps : symP bits a ls (codesL ls) s = true) (hpt : symP bits a ls (codesL ls) t = true) (hle : len8 ls s ≤ len8 ls t) : s = t := by
  unfold symP at hps hpt
  rw [codesL_at hs] at hps
  rw [codesL_at ht] at hpt
  simp only [Bool.and_eq_true, decide_eq_true_eq] at hps hpt
  by_cases hs0 : 0 < len8 ls s
  · by_cases ht0 : 0 < len8 ls t
    · rw [if_pos hs0] at hps
      rw [if_pos ht0] at hpt
      refine Decidable.byContradiction fun hne => ?_
      obtain ⟨m, hm⟩ : ∃ m, len8 ls t = len8 ls s + m := ⟨len8 ls t - len8 ls s, by omega⟩
      have hsplit : (bits.drop a).take (len8 ls t) = (bits.drop a).take (len8 ls s) ++ ((bits.drop a).drop (len8 ls s)).take m := by rw [hm, List.take_add]
      have hml : (((bits.drop a).drop (len8 ls s)).take m).length = m := by
        rw [List.length_take, List.length_drop, List.length_drop]; omega
      have hbd := numF_bd (((bits.drop a).drop (len8 ls s)).take m) fun x hx => hb x (List.mem_of_mem_drop (List.mem_of_mem_drop (List.mem_of_mem_take hx)))
      have h3 := numF_app ((bits.drop a).take (len8 ls s)) (((bits.drop a).drop (len8 ls s)).take m)
      rw [← hsplit, hml, hpt.2.2, hps.2.2] at h3
      rw [hml] at hbd
      have e : (2 : Int) ^ m = ((2 ^ m : Nat) : Int) := by simp
      rw [e] at h3 hbd
      refine code_free (v := codeAt ls (len8 ls s) s) hv hs ht hs0 hne hle ?_ ?_ rfl
      · rw [show len8 ls t - len8 ls s = m by omega]
        generalize 2 ^ m = M at h3 hbd
        have h4 : ((codeAt ls (len8 ls s) s * M : Nat) : Int) = (codeAt ls (len8 ls s) s : Int) * (M : Int) := Int.natCast_mul _ _
        omega
      · rw [show len8 ls t - len8 ls s = m by omega]
        generalize 2 ^ m = M at h3 hbd
        have h4 : (((codeAt ls (len8 ls s) s + 1) * M : Nat) : Int) = ((codeAt ls (len8 ls s) s : Int)) * (M : Int) + M := by
          rw [Nat.add_mul, Nat.one_mul, Int.natCast_add, Int.natCast_mul]
        omega
    · rw [if_neg ht0] at hpt; omega
  · rw [if_neg hs0] at hps; omega
theorem sym_one {ls bits : List Int} {a s t : Nat} (hv : lenVal ls = true) (hb : ∀ x ∈ bits, 0 ≤ x ∧ x ≤ 1) (hs : s < 8) (ht : t < 8) (hps : symP bits a ls (codesL ls) s = true) (hpt : symP bits a ls (codesL ls) t = true) : s = t := by
  by_cases h : len8 ls s ≤ len8 ls t
  · exact sym_le hv hb hs ht hps hpt h
  · exact (sym_le hv hb ht hs hpt hps (by omega)).symm
theorem symF_is {ls bits : List Int} {a s : Nat} (hv : lenVal ls = true) (hb : ∀ x ∈ bits, 0 ≤ x ∧ x ≤ 1) (hs : s < 8) (hp : symP bits a ls (codesL ls) s = true) : symF bits a ls (codesL ls) = s := by
  refine symF_yes hs (fun j hj => ?_) hp
  cases h : symP bits a ls (codesL ls) j
  · rfl
  · have := sym_one hv hb (by omega) hs h hp; omega
/-- What the walk through all symbols finds. -/
theorem symF_or (bits : List Int) (a : Nat) (ls cs : List Int) : symF bits a ls cs = -1 ∨ ∃ s : Nat, s < 8 ∧ symF bits a ls cs = s ∧ symP bits a ls cs s = true := by
  unfold symF
  cases h : (List.range 8).find? (symP bits a ls cs) with
  | none => exact .inl rfl
  | some s =>
    have h1 := List.find?_some h
    have h2 := List.mem_of_find?_eq_some h
    exact .inr ⟨s, List.mem_range.1 h2, rfl, h1⟩
theorem symF_len {bits : List Int} {a : Nat} {ls cs : List Int} {s : Nat} (h : symF bits a ls cs = s) : s < 8 ∧ a + len8 ls s ≤ bits.length := by
  rcases symF_or bits a ls cs with h1 | ⟨t, ht, h1, h2⟩
  · omega
  · have e : t = s := by omega
    subst e
    unfold symP at h2
    simp only [Bool.and_eq_true, decide_eq_true_eq] at h2
    exact ⟨ht, h2.2.1⟩
/-! Encoding. -/
def encS (ls : List Int) (s : Nat) : List Int := bitsF (codeAt ls (len8 ls s) s) (len8 ls s)
def encL (ls xs : List Int) : List Int := xs.flatMap fun x => encS ls x.toNat
theorem encL_snoc (ls xs : List Int) (x : Int) : encL ls (xs ++ [x]) = encL ls xs ++ encS ls x.toNat := by simp [encL]
theorem encS_length (ls : List Int) (s : Nat) : (encS ls s).length = len8 ls s := bitsF_length _ _
theorem encL_bit {ls xs : List Int} : ∀ b ∈ encL ls xs, 0 ≤ b ∧ b ≤ 1 := fun b hb => by
  obtain ⟨x, _, h⟩ := List.mem_flatMap.1 hb
  exact bitsF_bit _ _ b h
theorem encL_len {ls : List Int} (h : ∀ j, len8 ls j ≤ 8) (xs : List Int) : (encL ls xs).length ≤ 8 * xs.length := by
  induction xs with
  | nil => simp [encL]
  | cons x xs ih =>
    have e : encL ls (x :: xs) = encS ls x.toNat ++ encL ls xs := by simp [encL]
    have := h x.toNat
    rw [e, List.length_append, encS_length, List.length_cons]
    omega
/-- A symbol's code at a place is found there. -/
theorem sym_there {ls bits p r : List Int} {s : Nat} (hv : lenVal ls = true) (hb : ∀ x ∈ bits, 0 ≤ x ∧ x ≤ 1) (hs : s < 8) (h0 : 0 < len8 ls s) (he : bits = p ++ (encS ls s ++ r)) : symF bits p.length ls (codesL ls) = s := by
  refine symF_is hv hb hs ?_
  have hl := encS_length ls s
  have hc := code_lt hv hs h0
  unfold symP
  rw [codesL_at hs, if_pos h0, he]
  simp only [Bool.and_eq_true, decide_eq_true_eq]
  refine ⟨by omega, by rw [List.length_append, List.length_append]; omega, ?_⟩
  rw [List.drop_left' rfl, List.take_left' hl]
  unfold encS
  rw [numF_bitsF, Nat.mod_eq_of_lt hc]
/-! Decoding: a step, and the walk. -/
def decStep (bits ls : List Int) : Option (List Int × Nat) → Option (List Int × Nat)
  | none => none
  | some (o, a) => if symF bits a ls (codesL ls) < 0 then none else some (o ++ [symF bits a ls (codesL ls)], a + len8 ls (symF bits a ls (codesL ls)).toNat)
def decR (bits ls : List Int) : Nat → Option (List Int × Nat)
  | 0 => some ([], 0)
  | k + 1 => decStep bits ls (decR bits ls k)
theorem decR_snoc {ls bits l : List Int} {x : Int} (hv : lenVal ls = true) (hb : ∀ x ∈ bits, 0 ≤ x ∧ x ≤ 1)
    (ih : ∀ (r : List Int), (∀ x ∈ l, 0 ≤ x ∧ x ≤ 7 ∧ 0 < len8 ls x.toNat) → bits = encL ls l ++ r → decR bits ls l.length = some (l, (encL ls l).length)) (r : List Int)
    (hx : ∀ y ∈ l ++ [x], 0 ≤ y ∧ y ≤ 7 ∧ 0 < len8 ls y.toNat) (he : bits = encL ls (l ++ [x]) ++ r) : decR bits ls (l ++ [x]).length = some (l ++ [x], (encL ls (l ++ [x])).length) := by
  obtain ⟨h0, h7, hl⟩ := hx x (by simp)
  have h1 := ih (encS ls x.toNat ++ r) (fun y hy => hx y (List.mem_append.2 (.inl hy))) (by rw [he, encL_snoc, List.append_assoc])
  have h2 := sym_there (p := encL ls l) (r := r) (s := x.toNat) hv hb (by omega) hl (by rw [he, encL_snoc, List.append_assoc])
  rw [List.length_append]
  show decStep bits ls (decR bits ls l.length) = _
  rw [h1]
  show (if symF bits (encL ls l).length ls (codesL ls) < 0 then none else some (l ++ [symF bits (encL ls l).length ls (codesL ls)], (encL ls l).length + len8 ls (symF bits (encL ls l).length ls (codesL ls)).toNat)) = _
  rw [h2]
  show (if ((x.toNat : Nat) : Int) < 0 then none else some (l ++ [((x.toNat : Nat) : Int)], (encL ls l).length + len8 ls ((x.toNat : Nat) : Int).toNat)) = _
  rw [if_neg (by omega), encL_snoc, List.length_append, encS_length, show ((x.toNat : Nat) : Int) = x by omega]
theorem decR_enc {ls bits r : List Int} (xs : List Int) (hv : lenVal ls = true) (hb : ∀ x ∈ bits, 0 ≤ x ∧ x ≤ 1) (hx : ∀ x ∈ xs, 0 ≤ x ∧ x ≤ 7 ∧ 0 < len8 ls x.toNat) (he : bits = encL ls xs ++ r) : decR bits ls xs.length = some (xs, (encL ls xs).length) := by
  have key := fun hv hb => list_snoc_b (P := fun xs => ∀ (r : List Int), (∀ x ∈ xs, 0 ≤ x ∧ x ≤ 7 ∧ 0 < len8 ls x.toNat) → bits = encL ls xs ++ r → decR bits ls xs.length = some (xs, (encL ls xs).length)) (fun r _ _ => by simp [decR, encL]) (fun l x ih r hx he => decR_snoc hv hb ih r hx he)
  exact key hv hb xs r hx he
end Go.Proofs.Ytamljhjbmeikiaa
/- Blocks: what is written is read; plain facts, no program in sight. -/
namespace Go.Proofs.Ytamljhjbmeikiaa
open Go Go.RowKit
theorem bitsF_numF : ∀ c : List Int, (∀ x ∈ c, 0 ≤ x ∧ x ≤ 1) → bitsF (numF c).toNat c.length = c := by
  refine list_snoc_b (P := fun c => (∀ x ∈ c, 0 ≤ x ∧ x ≤ 1) → bitsF (numF c).toNat c.length = c) (fun _ => rfl) fun l x ih h => ?_
  have h0 := h x (by simp)
  have hl := fun y hy => h y (List.mem_append.2 (.inl hy))
  have hb := numF_bd l hl
  rw [numF_snoc, List.length_append]
  show bitsF _ (l.length + 1) = _
  rw [bitsF, show (2 * numF l + x).toNat / 2 = (numF l).toNat by omega, ih hl, show (((2 * numF l + x).toNat % 2 : Nat) : Int) = x by omega]
theorem cut_all {α : Type} (ps : List α) : ∀ m, ps.length = 8 * m → (List.range m).flatMap (fun i => (ps.take (8 * i + 8)).drop (8 * i)) = ps
  | m, h => by
    have key : ∀ k, k ≤ m → (List.range k).flatMap (fun i => (ps.take (8 * i + 8)).drop (8 * i)) = ps.take (8 * k) := by
      intro k
      induction k with
      | zero => intro _; simp
      | succ k ih =>
        intro hk
        rw [List.range_succ, List.flatMap_append, ih (by omega)]
        simp only [List.flatMap_cons, List.flatMap_nil, List.append_nil]
        rw [show 8 * (k + 1) = 8 * k + 8 by omega, List.take_add, List.drop_left' (by rw [List.length_take]; omega)]
    rw [key m (Nat.le_refl _), List.take_of_length_le (by omega)]
/-- Bits as bytes, and back. -/
theorem bits_back {bs : List Int} (h : ∀ x ∈ bs, 0 ≤ x ∧ x ≤ 1) : bytesBits (bytesOf bs) = bs ++ List.replicate (8 * ((bs.length + 7) / 8) - bs.length) 0 := by
  obtain ⟨j, hj⟩ : ∃ j, j = 8 * ((bs.length + 7) / 8) - bs.length := ⟨_, rfl⟩
  rw [← hj]
  have hl : (bs ++ List.replicate j 0).length = 8 * ((bs.length + 7) / 8) := by simp; omega
  have hb : ∀ x ∈ bs ++ List.replicate j 0, 0 ≤ x ∧ x ≤ 1 := fun x hx => by
    rcases List.mem_append.1 hx with hx | hx
    · exact h x hx
    · rw [List.eq_of_mem_replicate hx]; omega
  have e := cut_all (bs ++ List.replicate j 0) _ hl
  conv => rhs; rw [← e]
  unfold bytesBits bytesOf
  rw [List.flatMap_map]
  have hm : ∀ i ∈ List.range ((bs.length + 7) / 8), bitsF (byteV bs i).toNat 8 = ((bs ++ List.replicate j 0).take (8 * i + 8)).drop (8 * i) := fun i hi => by
    have hi := List.mem_range.1 hi
    rw [← byteV_pad bs j i hl hi]
    have hc : (((bs ++ List.replicate j 0).take (8 * i + 8)).drop (8 * i)).length = 8 := by rw [List.length_drop, List.length_take]; omega
    have h1 := bitsF_numF (((bs ++ List.replicate j 0).take (8 * i + 8)).drop (8 * i)) fun x hx => hb x (List.mem_of_mem_take (List.mem_of_mem_drop hx))
    rw [hc] at h1
    exact h1
  generalize List.range ((bs.length + 7) / 8) = L at hm
  induction L with
  | nil => rfl
  | cons i L ih => rw [List.flatMap_cons, List.flatMap_cons, hm i (by simp), ih fun y hy => hm y (by simp [hy])]
theorem bytesBits_app (a b : List Int) : bytesBits (a ++ b) = bytesBits a ++ bytesBits b := by simp [bytesBits]
/-- Two lengths in each byte. -/
def packL (ls : List Int) : List Int := [16 * ls.getD 0 0 + ls.getD 1 0, 16 * ls.getD 2 0 + ls.getD 3 0, 16 * ls.getD 4 0 + ls.getD 5 0, 16 * ls.getD 6 0 + ls.getD 7 0]
theorem pack_halves {ls : List Int} (h8 : ls.length = 8) (h : ∀ x ∈ ls, 0 ≤ x ∧ x ≤ 8) : halves (packL ls) = ls := by
  have hg := getD_bd8 h
  have h0 := hg 0; have h1 := hg 1; have h2 := hg 2; have h3 := hg 3; have h4 := hg 4; have h5 := hg 5; have h6 := hg 6; have h7 := hg 7
  have e : ls = [ls.getD 0 0, ls.getD 1 0, ls.getD 2 0, ls.getD 3 0, ls.getD 4 0, ls.getD 5 0, ls.getD 6 0, ls.getD 7 0] := by
    match ls, h8 with
    | [a, b, c, d, e, f, g, h], _ => rfl
  have d : ∀ a b : Int, 0 ≤ b → b ≤ 8 → (16 * a + b) / 16 = a ∧ (16 * a + b) % 16 = b := fun a b _ _ => by omega
  conv => rhs; rw [e]
  unfold halves packL
  simp only [List.flatMap_cons, List.flatMap_nil, List.cons_append, List.nil_append]
  rw [(d _ _ h1.1 h1.2).1, (d _ _ h1.1 h1.2).2, (d _ _ h3.1 h3.2).1, (d _ _ h3.1 h3.2).2, (d _ _ h5.1 h5.2).1, (d _ _ h5.1 h5.2).2, (d _ _ h7.1 h7.2).1, (d _ _ h7.1 h7.2).2]
/-- The lengths of a list's symbols. -/
def lensOf (xs : List Int) : List Int := huff (countsL xs)
theorem grp_pos {xs : List Int} {x : Int} (h : x ∈ xs) (h0 : 0 ≤ x) : 0 < (grp xs xs.length x.toNat).length := by
  obtain ⟨k, hk, rfl⟩ := List.mem_iff_getElem.1 h
  refine List.length_pos_iff.2 fun e => ?_
  have : k ∈ grp xs xs.length (xs[k]).toNat := by
    unfold grp
    rw [List.mem_filter]
    refine ⟨List.mem_range.2 hk, ?_⟩
    simp only [decide_eq_true_eq, List.getD_eq_getElem?_getD, List.getElem?_eq_getElem hk]
    show xs[k] = _
    omega
  rw [e] at this
  cases this
theorem lens_ok {xs : List Int} (h : listOk xs = true) (hne : xs ≠ []) : lenVal (lensOf xs) = true ∧ ∀ x ∈ xs, 0 ≤ x ∧ x ≤ 7 ∧ 0 < len8 (lensOf xs) x.toNat := by
  have hx : ∀ x ∈ xs, 0 ≤ x ∧ x ≤ 7 := fun x hx => by
    obtain ⟨k, hk, rfl⟩ := List.mem_iff_getElem.1 hx
    exact listOk_at h (List.getElem?_eq_getElem hk)
  have hu : ∀ x ∈ xs, x.toNat ∈ used (countsL xs) := fun x hm => by
    have h1 := hx x hm
    rw [used_mem]
    refine ⟨by omega, ?_⟩
    have h2 := countsK_at (L := xs) (k := xs.length) (s := x.toNat) (by omega)
    unfold countsL
    rw [List.getD_eq_getElem?_getD, h2]
    have := grp_pos hm h1.1
    simp only [Option.getD_some]
    omega
  have hne2 : used (countsL xs) ≠ [] := by
    cases xs with
    | nil => exact absurd rfl hne
    | cons x xs => exact List.ne_nil_of_mem (hu x (by simp))
  obtain ⟨h1, h2, _⟩ := huff_ok hne2
  refine ⟨h1, fun x hm => ⟨(hx x hm).1, (hx x hm).2, ?_⟩⟩
  have := h2 _ (hu x hm)
  unfold len8 lensOf
  omega
/-- A list as a block. -/
def flatR (rs : List (Int × Int)) : List Int := rs.flatMap fun r => [r.1, r.2]
def asB (xs : List Int) (way : Int) : Option (List Int) :=
  if way = 0 then some ([0, (xs.length : Int)] ++ xs)
  else if way = 1 then some ([1, ((runsL xs).length : Int)] ++ flatR (runsL xs))
  else if way = 2 then if xs.length = 0 then none else some ([2, (xs.length : Int)] ++ (packL (lensOf xs) ++ bytesOf (encL (lensOf xs) xs)))
  else if way = 3 then some ([3, ((parseL xs).length : Int)] ++ (parseL xs).map tokByte)
  else none
def asL (xs : List Int) (way : Int) : Option (List Int) := if listOk xs = true then asB xs way else none
theorem asL_ok {xs b : List Int} {way : Int} (h : asL xs way = some b) : listOk xs = true ∧ asB xs way = some b := by
  unfold asL at h
  split at h
  · rename_i h1; exact ⟨h1, h⟩
  · cases h
/-- Reading: runs, codes, tokens, as the program and as the specification do it. -/
def pairsOf (rest : List Int) (n : Nat) : List (Int × Int) := (List.range n).map fun k => (rest.getD (2 * k) 0, rest.getD (2 * k + 1) 0)
def decL (bits ls : List Int) (n : Int) : Option (List Int × Nat) := if bitOk bits = true ∧ lenVal ls = true ∧ inB 0 40 n = true then decR bits ls n.toNat else none
def bitsAt (bs : List Int) (m : Nat) : List Int := bytesBits ((bs.drop 6).take m)
def lensAt (bs : List Int) : List Int := halves ((bs.drop 2).take 4)
def inI (bs : List Int) : Option (List Int) :=
  if bs.getD 0 0 = 0 then if (bs.drop 2).length < (bs.getD 1 0).toNat then none else some ((bs.drop 2).take (bs.getD 1 0).toNat)
  else if bs.getD 0 0 = 1 then if 2 * (bs.getD 1 0).toNat ≤ (bs.drop 2).length then joinL (pairsOf (bs.drop 2) (bs.getD 1 0).toNat) else none
  else if bs.getD 0 0 = 2 then if (bs.drop 2).length < 4 then none else (decL (bitsAt bs 40) (lensAt bs) (bs.getD 1 0)).map Prod.fst
  else if bs.getD 0 0 = 3 then if (bs.drop 2).length < (bs.getD 1 0).toNat then none else expL (((bs.drop 2).take (bs.getD 1 0).toNat).map byteTok)
  else none
def inS (bs : List Int) : Option (List Int) :=
  if bs.getD 0 0 = 1 then joinL (pairsOf (bs.drop 2) (min (bs.getD 1 0).toNat ((bs.drop 2).length / 2)))
  else if bs.getD 0 0 = 2 then (decL (bitsAt bs 75) (lensAt bs) (bs.getD 1 0)).map Prod.fst
  else if bs.getD 0 0 = 3 then expL (((bs.drop 2).take (bs.getD 1 0).toNat).map byteTok)
  else if bs.getD 0 0 = 0 then some ((bs.drop 2).take (bs.getD 1 0).toNat)
  else none
theorem flatR_length (rs : List (Int × Int)) : (flatR rs).length = 2 * rs.length := by
  induction rs with
  | nil => rfl
  | cons r rs ih => unfold flatR at *; rw [List.flatMap_cons, List.length_append, ih]; simp; omega
theorem flatR_cons (r : Int × Int) (rs : List (Int × Int)) : flatR (r :: rs) = r.1 :: r.2 :: flatR rs := by simp [flatR]
theorem flatR_at : ∀ (rs : List (Int × Int)) (t : List Int) (k : Nat) (r : Int × Int), rs[k]? = some r → (flatR rs ++ t)[2 * k]? = some r.1 ∧ (flatR rs ++ t)[2 * k + 1]? = some r.2
  | [], _, _, _, h => by simp at h
  | q :: rs, t, 0, r, h => by
    simp at h
    subst h
    rw [flatR_cons]
    exact ⟨rfl, rfl⟩
  | q :: rs, t, k + 1, r, h => by
    rw [flatR_cons, show 2 * (k + 1) = 2 * k + 1 + 1 by omega]
    simp only [List.cons_append, List.getElem?_cons_succ]
    exact flatR_at rs t k r (by simpa using h)
theorem pairs_flat (rs : List (Int × Int)) (t : List Int) : pairsOf (flatR rs ++ t) rs.length = rs := by
  apply List.ext_getElem?
  intro k
  unfold pairsOf
  by_cases hk : k < rs.length
  · obtain ⟨h1, h2⟩ := flatR_at rs t k rs[k] (List.getElem?_eq_getElem hk)
    rw [List.getElem?_map, List.getElem?_range hk, Option.map_some, List.getD_eq_getElem?_getD, List.getD_eq_getElem?_getD, h1, h2, List.getElem?_eq_getElem hk]
    rfl
  · rw [List.getElem?_eq_none (by simp; omega), List.getElem?_eq_none (by omega)]
theorem bytesOf_le {bs : List Int} {n : Nat} (h : bs.length ≤ 8 * n) : (bytesOf bs).length ≤ n := by rw [bytesOf_length]; omega
theorem dec_there {xs t : List Int} {m : Nat} (h : listOk xs = true) (hne : xs ≠ []) (h1 : 40 ≤ m) (h2 : m ≤ 75) :
    decL (bytesBits ((bytesOf (encL (lensOf xs) xs) ++ t).take m)) (lensOf xs) (xs.length : Int) = some (xs, (encL (lensOf xs) xs).length) ∧ ∃ r, bytesBits ((bytesOf (encL (lensOf xs) xs) ++ t).take m) = encL (lensOf xs) xs ++ r := by
  obtain ⟨hv, hx⟩ := lens_ok h hne
  have h40 : xs.length ≤ 40 := (listOk_iff'.1 h).1
  have hel := encL_len (lenVal_bd hv).1 xs
  have hbl := bytesOf_le (n := 40) (bs := encL (lensOf xs) xs) (by omega)
  have hb : bytesBits ((bytesOf (encL (lensOf xs) xs) ++ t).take m) = encL (lensOf xs) xs ++ (List.replicate (8 * (((encL (lensOf xs) xs).length + 7) / 8) - (encL (lensOf xs) xs).length) 0 ++ bytesBits (t.take (m - (bytesOf (encL (lensOf xs) xs)).length))) := by
    rw [List.take_append, List.take_of_length_le (by omega), bytesBits_app, bits_back encL_bit, List.append_assoc]
  refine ⟨?_, _, hb⟩
  have hd := decR_enc (bits := bytesBits ((bytesOf (encL (lensOf xs) xs) ++ t).take m)) xs hv bytesBits_bit hx hb
  unfold decL
  rw [if_pos ⟨bitOk_iff.2 ⟨by rw [bytesBits_length, List.length_take]; omega, bytesBits_bit⟩, hv, inB_true.2 ⟨by omega, by omega⟩⟩]
  exact hd
theorem listOk_nil_or (xs : List Int) : xs.length = 0 ∨ xs ≠ [] := by
  cases xs <;> simp
/-- What was written is read, whatever comes behind it. -/
theorem in_as {xs b : List Int} {way : Int} (h : asL xs way = some b) (t : List Int) : inI (b ++ t) = some xs ∧ inS (b ++ t) = some xs ∧ b.getD 0 0 = way ∧ 2 ≤ b.length := by
  obtain ⟨hok, hb⟩ := asL_ok h
  have h40 : xs.length ≤ 40 := (listOk_iff'.1 hok).1
  unfold asB at hb
  by_cases w0 : way = 0
  · subst w0
    rw [if_pos rfl] at hb
    injection hb with hb
    subst hb
    have e0 : ([0, (xs.length : Int)] ++ xs ++ t).getD 0 0 = 0 := rfl
    have e1 : (([0, (xs.length : Int)] ++ xs ++ t).getD 1 0).toNat = xs.length := by show ((xs.length : Int)).toNat = _; omega
    have e2 : ([0, (xs.length : Int)] ++ xs ++ t).drop 2 = xs ++ t := rfl
    refine ⟨?_, ?_, rfl, by simp⟩
    · unfold inI
      rw [e0, if_pos rfl, e1, e2, if_neg (by simp), List.take_left' rfl]
    · unfold inS
      rw [e0, if_neg (by decide), if_neg (by decide), if_neg (by decide), if_pos rfl, e1, e2, List.take_left' rfl]
  · rw [if_neg w0] at hb
    by_cases w1 : way = 1
    · subst w1
      rw [if_pos rfl] at hb
      injection hb with hb
      subst hb
      have e0 : ([1, ((runsL xs).length : Int)] ++ flatR (runsL xs) ++ t).getD 0 0 = 1 := rfl
      have e1 : (([1, ((runsL xs).length : Int)] ++ flatR (runsL xs) ++ t).getD 1 0).toNat = (runsL xs).length := by show (((runsL xs).length : Int)).toNat = _; omega
      have e2 : ([1, ((runsL xs).length : Int)] ++ flatR (runsL xs) ++ t).drop 2 = flatR (runsL xs) ++ t := rfl
      have hl : (flatR (runsL xs) ++ t).length = 2 * (runsL xs).length + t.length := by rw [List.length_append, flatR_length]
      refine ⟨?_, ?_, rfl, by simp⟩
      · unfold inI
        rw [e0, if_neg (by decide), if_pos rfl, e1, e2, if_pos (by omega), pairs_flat, join_runs hok]
      · unfold inS
        rw [e0, if_pos rfl, e1, e2, Nat.min_eq_left (by omega), pairs_flat, join_runs hok]
    · rw [if_neg w1] at hb
      by_cases w2 : way = 2
      · subst w2
        rw [if_pos rfl] at hb
        by_cases hn : xs.length = 0
        · rw [if_pos hn] at hb; cases hb
        · rw [if_neg hn] at hb
          injection hb with hb
          subst hb
          have hne : xs ≠ [] := fun e => hn (by rw [e]; rfl)
          obtain ⟨hv, hx⟩ := lens_ok hok hne
          obtain ⟨h8, hall⟩ := lenVal_ok hv
          obtain ⟨E, hE⟩ : ∃ E, E = bytesOf (encL (lensOf xs) xs) := ⟨_, rfl⟩
          rw [← hE]
          have e0 : ([2, (xs.length : Int)] ++ (packL (lensOf xs) ++ E) ++ t).getD 0 0 = 2 := rfl
          have e1 : ([2, (xs.length : Int)] ++ (packL (lensOf xs) ++ E) ++ t).getD 1 0 = xs.length := rfl
          have e3 : lensAt ([2, (xs.length : Int)] ++ (packL (lensOf xs) ++ E) ++ t) = lensOf xs := pack_halves h8 hall
          have e4 : ∀ m, bitsAt ([2, (xs.length : Int)] ++ (packL (lensOf xs) ++ E) ++ t) m = bytesBits ((E ++ t).take m) := fun m => rfl
          have d1 := (dec_there (t := t) (m := 40) hok hne (by omega) (by omega)).1
          have d2 := (dec_there (t := t) (m := 75) hok hne (by omega) (by omega)).1
          rw [← hE] at d1 d2
          refine ⟨?_, ?_, rfl, by simp⟩
          · unfold inI
            rw [e0, if_neg (by decide), if_neg (by decide), if_pos rfl, if_neg (by simp [packL]), e1, e3, e4, d1]
            rfl
          · unfold inS
            rw [e0, if_neg (by decide), if_pos rfl, e1, e3, e4, d2]
            rfl
      · rw [if_neg w2] at hb
        by_cases w3 : way = 3
        · subst w3
          rw [if_pos rfl] at hb
          injection hb with hb
          subst hb
          have e0 : ([3, ((parseL xs).length : Int)] ++ (parseL xs).map tokByte ++ t).getD 0 0 = 3 := rfl
          have e1 : (([3, ((parseL xs).length : Int)] ++ (parseL xs).map tokByte ++ t).getD 1 0).toNat = (parseL xs).length := by show (((parseL xs).length : Int)).toNat = _; omega
          have e2 : ([3, ((parseL xs).length : Int)] ++ (parseL xs).map tokByte ++ t).drop 2 = (parseL xs).map tokByte ++ t := rfl
          have e3 : ((parseL xs).map tokByte ++ t).take (parseL xs).length = (parseL xs).map tokByte := List.take_left' (by simp)
          refine ⟨?_, ?_, rfl, by simp⟩
          · unfold inI
            rw [e0, if_neg (by decide), if_neg (by decide), if_neg (by decide), if_pos rfl, e1, e2, if_neg (by simp), e3, toks_back hok, exp_parseL hok]
          · unfold inS
            rw [e0, if_neg (by decide), if_neg (by decide), if_pos rfl, e1, e2, e3, toks_back hok, exp_parseL hok]
        · rw [if_neg w3] at hb; cases hb
end Go.Proofs.Ytamljhjbmeikiaa
/- Blocks: what is read was written; how many bytes are needed; the shortest way. Plain facts, no program in sight. -/
namespace Go.Proofs.Ytamljhjbmeikiaa
open Go Go.RowKit
/-- What was read, written again, must be what stands there. -/
def opW (d : List Int → Option (List Int)) (bs : List Int) : Option (List Int × Nat) :=
  if byOk bs = true ∧ 2 ≤ bs.length then
    match d bs with
    | none => none
    | some l =>
      match asL l (bs.getD 0 0) with
      | none => none
      | some b => if b.length ≤ bs.length ∧ b = bs.take b.length then some (l, b.length) else none
  else none
def opF (bs : List Int) : Option (List Int × Nat) := opW inI bs
def opS (bs : List Int) : Option (List Int × Nat) := opW inS bs
/-- A block at the head of some bytes. -/
def isB (bs l : List Int) (n : Nat) : Prop := byOk bs = true ∧ 2 ≤ bs.length ∧ ∃ b, asL l (bs.getD 0 0) = some b ∧ n = b.length ∧ b.length ≤ bs.length ∧ b = bs.take b.length
theorem opW_is {d : List Int → Option (List Int)} {bs l : List Int} {n : Nat} (h : opW d bs = some (l, n)) : isB bs l n := by
  unfold opW at h
  split at h
  · rename_i h0
    cases hd : d bs with
    | none => rw [hd] at h; cases h
    | some l' =>
      rw [hd] at h
      simp only at h
      cases ha : asL l' (bs.getD 0 0) with
      | none => rw [ha] at h; cases h
      | some b =>
        rw [ha] at h
        simp only at h
        split at h
        · rename_i h1
          injection h with h
          injection h with h2 h3
          subst h2
          exact ⟨h0.1, h0.2, b, ha, h3.symm, h1.1, h1.2⟩
        · cases h
  · cases h
theorem isB_in {bs l : List Int} {n : Nat} (h : isB bs l n) : inI bs = some l ∧ inS bs = some l := by
  obtain ⟨_, _, b, ha, _, _, he⟩ := h
  have := in_as ha (bs.drop b.length)
  have e : b ++ bs.drop b.length = bs := by
    conv => lhs; lhs; rw [he]
    exact List.take_append_drop _ _
  rw [e] at this
  exact ⟨this.1, this.2.1⟩
theorem isB_op {d : List Int → Option (List Int)} {bs l : List Int} {n : Nat} (h : isB bs l n) (hd : d bs = some l) : opW d bs = some (l, n) := by
  obtain ⟨h1, h2, b, ha, hn, hl, he⟩ := h
  unfold opW
  rw [if_pos ⟨h1, h2⟩, hd]
  simp only
  rw [ha]
  simp only
  rw [if_pos ⟨hl, he⟩, hn]
theorem opF_iff {bs l : List Int} {n : Nat} : opF bs = some (l, n) ↔ isB bs l n := ⟨opW_is, fun h => isB_op h (isB_in h).1⟩
theorem opS_iff {bs l : List Int} {n : Nat} : opS bs = some (l, n) ↔ isB bs l n := ⟨opW_is, fun h => isB_op h (isB_in h).2⟩
theorem opS_opF (bs : List Int) : opS bs = opF bs := by
  cases h : opF bs with
  | some x =>
    obtain ⟨l, n⟩ := x
    exact opS_iff.2 (opF_iff.1 h)
  | none =>
    cases k : opS bs with
    | none => rfl
    | some x =>
      obtain ⟨l, n⟩ := x
      rw [opF_iff.2 (opS_iff.1 k)] at h
      cases h
theorem byOk_app {a b : List Int} : byOk (a ++ b) = true ↔ byOk a = true ∧ byOk b = true := by unfold byOk; rw [List.all_append, Bool.and_eq_true]
theorem byOk_all {a : List Int} : byOk a = true ↔ ∀ x ∈ a, 0 ≤ x ∧ x ≤ 255 := by simp [byOk, inB_true]
/-- All numbers of a block are bytes. -/
theorem as_bytes {xs b : List Int} {way : Int} (h : asL xs way = some b) : byOk b = true := by
  obtain ⟨hok, hb⟩ := asL_ok h
  obtain ⟨h40, hx⟩ := listOk_iff'.1 hok
  have hxb : byOk xs = true := byOk_all.2 fun x hm => by have := hx x hm; omega
  have two : ∀ a n : Int, 0 ≤ a → a ≤ 255 → 0 ≤ n → n ≤ 255 → byOk [a, n] = true := fun a n _ _ _ _ => by
    rw [byOk_all]
    intro x hx
    simp at hx
    omega
  unfold asB at hb
  by_cases w0 : way = 0
  · rw [if_pos w0] at hb
    injection hb with hb
    subst hb
    exact byOk_app.2 ⟨two 0 _ (by omega) (by omega) (by omega) (by omega), hxb⟩
  · rw [if_neg w0] at hb
    by_cases w1 : way = 1
    · rw [if_pos w1] at hb
      injection hb with hb
      subst hb
      have hl := runs_length xs
      refine byOk_app.2 ⟨two 1 _ (by omega) (by omega) (by omega) (by omega), byOk_all.2 fun y hy => ?_⟩
      obtain ⟨r, hr, hy⟩ := List.mem_flatMap.1 hy
      have := runs_bd xs hx r hr
      simp at hy
      omega
    · rw [if_neg w1] at hb
      by_cases w2 : way = 2
      · rw [if_pos w2] at hb
        by_cases hn : xs.length = 0
        · rw [if_pos hn] at hb; cases hb
        · rw [if_neg hn] at hb
          injection hb with hb
          subst hb
          have hne : xs ≠ [] := fun e => hn (by rw [e]; rfl)
          obtain ⟨h8, hall⟩ := lenVal_ok (lens_ok hok hne).1
          have hg := getD_bd8 hall
          have h0 := hg 0; have h1 := hg 1; have h2 := hg 2; have h3 := hg 3; have h4 := hg 4; have h5 := hg 5; have h6 := hg 6; have h7 := hg 7
          refine byOk_app.2 ⟨two 2 _ (by omega) (by omega) (by omega) (by omega), byOk_app.2 ⟨byOk_all.2 fun y hy => ?_, byOk_all.2 fun y hy => ?_⟩⟩
          · unfold packL at hy
            simp only [List.mem_cons, List.not_mem_nil, or_false] at hy
            omega
          · obtain ⟨i, _, rfl⟩ := List.mem_map.1 hy
            exact byteV_bd encL_bit i
      · rw [if_neg w2] at hb
        by_cases w3 : way = 3
        · rw [if_pos w3] at hb
          injection hb with hb
          subst hb
          have hl := parse_length (xs := xs) xs.length 0
          refine byOk_app.2 ⟨two 3 _ (by omega) (by omega) (by omega) (by unfold parseL; omega), byOk_all.2 fun y hy => ?_⟩
          obtain ⟨t, ht, rfl⟩ := List.mem_map.1 hy
          obtain ⟨p, hp, rfl⟩ := parse_mem _ _ t ht
          exact (tok_back hok hp).2
        · rw [if_neg w3] at hb; cases hb
theorem take_app {α : Type} (b t : List α) : (b ++ t).take b.length = b := List.take_left' rfl
/-- A block is read, whatever bytes come behind it. -/
theorem op_as {xs b t : List Int} {way : Int} (h : asL xs way = some b) (ht : byOk t = true) : opF (b ++ t) = some (xs, b.length) := by
  have hi := in_as h t
  have hb := as_bytes h
  refine opF_iff.2 ⟨byOk_app.2 ⟨hb, ht⟩, by rw [List.length_append]; omega, b, ?_, rfl, by rw [List.length_append]; omega, (take_app b t).symm⟩
  have e : (b ++ t).getD 0 0 = b.getD 0 0 := by
    rw [List.getD_eq_getElem?_getD, List.getD_eq_getElem?_getD, List.getElem?_append_left (by omega)]
  rw [e, hi.2.2.1]; exact h
theorem op_self {xs b : List Int} {way : Int} (h : asL xs way = some b) : opF b = some (xs, b.length) := by
  have := op_as (t := []) h rfl
  rwa [List.append_nil] at this
/-- What was read: its block, and what is behind it. -/
theorem op_split {bs l : List Int} {n : Nat} (h : opF bs = some (l, n)) : ∃ b, asL l (bs.getD 0 0) = some b ∧ b.length = n ∧ bs.take n = b ∧ bs = b ++ bs.drop n ∧ n ≤ bs.length ∧ byOk bs = true ∧ 2 ≤ n := by
  obtain ⟨h1, _, b, ha, hn, hl, he⟩ := opF_iff.1 h
  subst hn
  refine ⟨b, ha, rfl, he.symm, ?_, hl, h1, (in_as ha []).2.2.2⟩
  conv => rhs; lhs; rw [he]
  exact (List.take_append_drop _ _).symm
/-! How many bytes a block needs. -/
def runA (bits ls : List Int) : Nat → Nat × Bool
  | 0 => (0, true)
  | k + 1 => if (runA bits ls k).2 = true then if symF bits (runA bits ls k).1 ls (codesL ls) < 0 then ((runA bits ls k).1, false) else ((runA bits ls k).1 + len8 ls (symF bits (runA bits ls k).1 ls (codesL ls)).toNat, true) else runA bits ls k
theorem runA_dec {bits ls : List Int} : ∀ {k : Nat} {o : List Int} {a : Nat}, decR bits ls k = some (o, a) → runA bits ls k = (a, true)
  | 0, o, a, h => by simp [decR] at h; simp [runA, h.2]
  | k + 1, o, a, h => by
    rw [decR] at h
    cases hd : decR bits ls k with
    | none => rw [hd] at h; cases h
    | some x =>
      obtain ⟨o', a'⟩ := x
      have ih := runA_dec hd
      rw [hd] at h
      simp only [decStep] at h
      by_cases hs : symF bits a' ls (codesL ls) < 0
      · rw [if_pos hs] at h; cases h
      · rw [if_neg hs] at h
        injection h with h
        injection h with _ h
        rw [runA, ih]
        simp only [if_true]
        rw [if_neg hs, h]
theorem runA_dead {bits ls : List Int} {k : Nat} (h : (runA bits ls k).2 = false) : ∀ m, runA bits ls (k + m) = runA bits ls k
  | 0 => rfl
  | m + 1 => by
    rw [← Nat.add_assoc, runA, runA_dead h m, h]
    simp
theorem runA_step {bits ls : List Int} {k a : Nat} (h : runA bits ls k = (a, true)) {s : Nat} (hs : symF bits a ls (codesL ls) = s) : runA bits ls (k + 1) = (a + len8 ls s, true) := by
  rw [runA, h]
  simp only [if_true]
  rw [if_neg (by omega), hs]
  rfl
theorem runA_stop {bits ls : List Int} {k a : Nat} (h : runA bits ls k = (a, true)) (hs : symF bits a ls (codesL ls) = -1) {n : Nat} (hn : k < n) : runA bits ls n = (a, false) := by
  have h1 : runA bits ls (k + 1) = (a, false) := by
    rw [runA, h]
    simp only [if_true]
    rw [if_pos (by omega)]
  obtain ⟨m, rfl⟩ : ∃ m, n = k + 1 + m := ⟨n - (k + 1), by omega⟩
  rw [runA_dead (by rw [h1]) m, h1]
theorem runA_le {bits ls : List Int} (hv : lenVal ls = true) : ∀ k, (runA bits ls k).1 ≤ 8 * k
  | 0 => by simp [runA]
  | k + 1 => by
    have ih := runA_le (bits := bits) hv k
    have h8 := (lenVal_bd hv).1
    rw [runA]
    split
    · split
      · simp only; omega
      · have := h8 (symF bits (runA bits ls k).1 ls (codesL ls)).toNat
        simp only; omega
    · omega
theorem runA_in {bits ls : List Int} : ∀ k, (runA bits ls k).1 ≤ bits.length
  | 0 => by simp [runA]
  | k + 1 => by
    have ih := runA_in (bits := bits) (ls := ls) k
    rw [runA]
    split
    · split
      · exact ih
      · rename_i h
        rcases symF_or bits (runA bits ls k).1 ls (codesL ls) with h1 | ⟨s, _, h1, _⟩
        · omega
        · have := (symF_len h1).2
          rw [h1]
          simp only [Int.toNat_natCast]
          exact this
    · exact ih
/-- As far as there are bits for any code, further bits do not matter. -/
theorem symF_more {bits r ls : List Int} {a : Nat} (hv : lenVal ls = true) (ha : a + 8 ≤ bits.length) : symF (bits ++ r) a ls (codesL ls) = symF bits a ls (codesL ls) := by
  have h8 := (lenVal_bd hv).1
  have e : symP (bits ++ r) a ls (codesL ls) = symP bits a ls (codesL ls) := by
    funext s
    have := h8 s
    unfold symP
    rw [List.drop_append_of_le_length (by omega), List.take_append_of_le_length (by rw [List.length_drop]; omega), List.length_append]
    congr 2
    rw [decide_eq_decide]
    omega
  unfold symF
  rw [e]
theorem runA_more {bits r ls : List Int} (hv : lenVal ls = true) : ∀ k, 8 * k ≤ bits.length → runA (bits ++ r) ls k = runA bits ls k
  | 0, _ => rfl
  | k + 1, h => by
    have h1 := runA_le (bits := bits) hv k
    rw [runA, runA, runA_more hv k (by omega), symF_more hv (by omega)]
def needP (m : Nat) (bs : List Int) : Option Nat :=
  if lenVal (lensAt bs) = true then
    if (runA (bitsAt bs m) (lensAt bs) (bs.getD 1 0).toNat).2 = true then some (6 + ((runA (bitsAt bs m) (lensAt bs) (bs.getD 1 0).toNat).1 + 7) / 8)
    else if (bitsAt bs m).length < (runA (bitsAt bs m) (lensAt bs) (bs.getD 1 0).toNat).1 + 8 then some (bs.length + 1) else none
  else none
/-- How many bytes are needed as far as can be told; none where no more can help. -/
def needW (m : Nat) (bs : List Int) : Option Nat :=
  if bs.length = 0 then some 2
  else if 3 < bs.getD 0 0 then none
  else if bs.length < 2 then some 2
  else if 40 < bs.getD 1 0 ∨ (bs.getD 0 0 = 2 ∧ bs.getD 1 0 = 0) then none
  else if bs.getD 0 0 = 1 then some (2 + 2 * (bs.getD 1 0).toNat)
  else if bs.getD 0 0 = 2 then if bs.length < 6 then some 6 else needP m bs
  else some (2 + (bs.getD 1 0).toNat)
def stF (bs : List Int) : Int :=
  if byOk bs = true then
    match needW 40 bs with
    | none => 2
    | some n => if bs.length < n then 0 else if (opF bs).isSome = true then 1 else 2
  else 2
theorem needP_same {bs : List Int} (h6 : 6 ≤ bs.length) (hn : bs.getD 1 0 ≤ 40) : needP 75 bs = needP 40 bs := by
  unfold needP
  by_cases hv : lenVal (lensAt bs) = true
  · rw [if_pos hv, if_pos hv]
    by_cases h : bs.length ≤ 46
    · have e : bitsAt bs 75 = bitsAt bs 40 := by
        unfold bitsAt
        rw [List.take_of_length_le (by rw [List.length_drop]; omega), List.take_of_length_le (by rw [List.length_drop]; omega)]
      rw [e]
    · have hl : (bitsAt bs 40).length = 320 := by unfold bitsAt; rw [bytesBits_length, List.length_take, List.length_drop]; omega
      have hl75 : 328 ≤ (bitsAt bs 75).length := by unfold bitsAt; rw [bytesBits_length, List.length_take, List.length_drop]; omega
      obtain ⟨r, hr⟩ : ∃ r, bitsAt bs 75 = bitsAt bs 40 ++ r := by
        refine ⟨bytesBits (((bs.drop 6).drop 40).take 35), ?_⟩
        unfold bitsAt
        rw [← bytesBits_app, ← List.take_add]
      have e : runA (bitsAt bs 75) (lensAt bs) (bs.getD 1 0).toNat = runA (bitsAt bs 40) (lensAt bs) (bs.getD 1 0).toNat := by
        rw [hr]; exact runA_more hv _ (by omega)
      rw [e]
      split
      · rfl
      · rename_i hd
        have hb := runA_le (bits := bitsAt bs 40) hv ((bs.getD 1 0).toNat - 1)
        have hq : (runA (bitsAt bs 40) (lensAt bs) (bs.getD 1 0).toNat).1 ≤ 312 := by
          rcases Nat.eq_zero_or_pos (bs.getD 1 0).toNat with h0 | h0
          · rw [h0]; simp [runA]
          · obtain ⟨k, hk⟩ : ∃ k, (bs.getD 1 0).toNat = k + 1 := ⟨(bs.getD 1 0).toNat - 1, by omega⟩
            rw [hk, Nat.add_sub_cancel] at hb
            rw [hk] at hd ⊢
            rw [runA] at hd ⊢
            split at hd
            · split at hd
              · rename_i h1 h2
                rw [if_pos h1, if_pos h2]
                simp only; omega
              · exact absurd rfl hd
            · rename_i h1
              rw [if_neg h1]; omega
        rw [if_neg (by omega), if_neg (by omega)]
  · rw [if_neg hv, if_neg hv]
theorem needW_same (bs : List Int) : needW 75 bs = needW 40 bs := by
  unfold needW
  by_cases h0 : bs.length = 0
  · rw [if_pos h0, if_pos h0]
  rw [if_neg h0, if_neg h0]
  by_cases h1 : 3 < bs.getD 0 0
  · rw [if_pos h1, if_pos h1]
  rw [if_neg h1, if_neg h1]
  by_cases h2 : bs.length < 2
  · rw [if_pos h2, if_pos h2]
  rw [if_neg h2, if_neg h2]
  by_cases h3 : 40 < bs.getD 1 0 ∨ (bs.getD 0 0 = 2 ∧ bs.getD 1 0 = 0)
  · rw [if_pos h3, if_pos h3]
  rw [if_neg h3, if_neg h3]
  by_cases h4 : bs.length < 6
  · rw [if_pos h4, if_pos h4]
  rw [if_neg h4, if_neg h4, needP_same (by omega) (by omega)]
/-- What a block needs: its own bytes. -/
theorem need_as {xs b : List Int} {way : Int} (h : asL xs way = some b) (t : List Int) : needW 40 (b ++ t) = some b.length := by
  obtain ⟨hok, hb⟩ := asL_ok h
  have h40 : xs.length ≤ 40 := (listOk_iff'.1 hok).1
  unfold asB at hb
  by_cases w0 : way = 0
  · subst w0
    rw [if_pos rfl] at hb
    injection hb with hb
    subst hb
    have e0 : ([0, (xs.length : Int)] ++ xs ++ t).getD 0 0 = 0 := rfl
    have e1 : ([0, (xs.length : Int)] ++ xs ++ t).getD 1 0 = xs.length := rfl
    have el : ([0, (xs.length : Int)] ++ xs ++ t).length = 2 + xs.length + t.length := by simp; omega
    unfold needW
    rw [e0, e1, el, if_neg (by omega), if_neg (by omega), if_neg (by omega), if_neg (by omega), if_neg (by omega), if_neg (by omega)]
    congr 1; simp; omega
  · rw [if_neg w0] at hb
    by_cases w1 : way = 1
    · subst w1
      rw [if_pos rfl] at hb
      injection hb with hb
      subst hb
      have hl := runs_length xs
      have e0 : ([1, ((runsL xs).length : Int)] ++ flatR (runsL xs) ++ t).getD 0 0 = 1 := rfl
      have e1 : ([1, ((runsL xs).length : Int)] ++ flatR (runsL xs) ++ t).getD 1 0 = (runsL xs).length := rfl
      have el : ([1, ((runsL xs).length : Int)] ++ flatR (runsL xs) ++ t).length = 2 + 2 * (runsL xs).length + t.length := by simp [flatR_length]; omega
      have el2 : ([1, ((runsL xs).length : Int)] ++ flatR (runsL xs)).length = 2 + 2 * (runsL xs).length := by simp [flatR_length]; omega
      unfold needW
      rw [e0, e1, el, el2, if_neg (by omega), if_neg (by omega), if_neg (by omega), if_neg (by omega), if_pos rfl]
      congr 1
    · rw [if_neg w1] at hb
      by_cases w2 : way = 2
      · subst w2
        rw [if_pos rfl] at hb
        by_cases hn : xs.length = 0
        · rw [if_pos hn] at hb; cases hb
        · rw [if_neg hn] at hb
          injection hb with hb
          subst hb
          have hne : xs ≠ [] := fun e => hn (by rw [e]; rfl)
          obtain ⟨hv, hx⟩ := lens_ok hok hne
          obtain ⟨h8, hall⟩ := lenVal_ok hv
          have hd := (dec_there (t := t) (m := 40) hok hne (by omega) (by omega)).1
          have hbl : (bytesOf (encL (lensOf xs) xs)).length = ((encL (lensOf xs) xs).length + 7) / 8 := bytesOf_length _
          obtain ⟨E, hE⟩ : ∃ E, E = bytesOf (encL (lensOf xs) xs) := ⟨_, rfl⟩
          rw [← hE] at hd hbl ⊢
          have e0 : ([2, (xs.length : Int)] ++ (packL (lensOf xs) ++ E) ++ t).getD 0 0 = 2 := rfl
          have e1 : ([2, (xs.length : Int)] ++ (packL (lensOf xs) ++ E) ++ t).getD 1 0 = xs.length := rfl
          have e3 : lensAt ([2, (xs.length : Int)] ++ (packL (lensOf xs) ++ E) ++ t) = lensOf xs := pack_halves h8 hall
          have e4 : bitsAt ([2, (xs.length : Int)] ++ (packL (lensOf xs) ++ E) ++ t) 40 = bytesBits ((E ++ t).take 40) := rfl
          have el : ([2, (xs.length : Int)] ++ (packL (lensOf xs) ++ E) ++ t).length = 6 + E.length + t.length := by simp [packL]; omega
          have el2 : ([2, (xs.length : Int)] ++ (packL (lensOf xs) ++ E)).length = 6 + E.length := by simp [packL]; omega
          unfold decL at hd
          split at hd
          · have hr := runA_dec hd
            unfold needW needP
            rw [e0, e1, e3, e4, el, el2, if_neg (by omega), if_neg (by omega), if_neg (by omega), if_neg (by omega), if_neg (by omega), if_pos rfl, if_neg (by omega), if_pos hv, hr]
            simp only [if_true]
            rw [hbl]
          · cases hd
      · rw [if_neg w2] at hb
        by_cases w3 : way = 3
        · subst w3
          rw [if_pos rfl] at hb
          injection hb with hb
          subst hb
          have hl := parse_length (xs := xs) xs.length 0
          have hl2 : (parseL xs).length ≤ 40 := by unfold parseL; omega
          have e0 : ([3, ((parseL xs).length : Int)] ++ (parseL xs).map tokByte ++ t).getD 0 0 = 3 := rfl
          have e1 : ([3, ((parseL xs).length : Int)] ++ (parseL xs).map tokByte ++ t).getD 1 0 = (parseL xs).length := rfl
          have el : ([3, ((parseL xs).length : Int)] ++ (parseL xs).map tokByte ++ t).length = 2 + (parseL xs).length + t.length := by simp; omega
          have el2 : ([3, ((parseL xs).length : Int)] ++ (parseL xs).map tokByte).length = 2 + (parseL xs).length := by simp; omega
          unfold needW
          rw [e0, e1, el, el2, if_neg (by omega), if_neg (by omega), if_neg (by omega), if_neg (by omega), if_neg (by omega), if_neg (by omega)]
          congr 1
        · rw [if_neg w3] at hb; cases hb
/-- A block's state, with or without bytes behind it. -/
theorem st_as {xs b t : List Int} {way : Int} (h : asL xs way = some b) (ht : byOk t = true) : stF (b ++ t) = 1 := by
  unfold stF
  rw [if_pos (byOk_app.2 ⟨as_bytes h, ht⟩), need_as h t, op_as h ht]
  simp only
  rw [if_neg (by rw [List.length_append]; omega)]
  rfl
theorem st_self {xs b : List Int} {way : Int} (h : asL xs way = some b) : stF b = 1 := by
  have := st_as (t := []) h rfl
  rwa [List.append_nil] at this
/-! The shortest way. -/
def pickB (best : List Int) (o : Option (List Int)) : List Int :=
  match o with
  | none => best
  | some b => if b.length < best.length then b else best
def packF (xs : List Int) : List Int := if listOk xs = true then pickB (pickB (pickB ([0, (xs.length : Int)] ++ xs) (asB xs 1)) (asB xs 2)) (asB xs 3) else []
theorem pickB_or (best : List Int) (o : Option (List Int)) : (pickB best o = best ∨ o = some (pickB best o)) ∧ (pickB best o).length ≤ best.length ∧ (∀ b, o = some b → (pickB best o).length ≤ b.length) ∧ (pickB best o ≠ best → (pickB best o).length < best.length) := by
  cases o with
  | none => exact ⟨.inl rfl, Nat.le_refl _, fun b h => (by cases h), fun h => absurd rfl h⟩
  | some b =>
    unfold pickB
    simp only
    split
    · rename_i h
      exact ⟨.inr rfl, by omega, fun b' h' => by injection h' with h'; rw [h']; exact Nat.le_refl _, fun _ => h⟩
    · rename_i h
      exact ⟨.inl rfl, Nat.le_refl _, fun b' h' => by injection h' with h'; rw [← h']; omega, fun h' => absurd rfl h'⟩
theorem asL_zero {xs : List Int} (h : listOk xs = true) : asL xs 0 = some ([0, (xs.length : Int)] ++ xs) := by unfold asL asB; rw [if_pos h, if_pos rfl]
theorem asL_asB {xs : List Int} (h : listOk xs = true) (way : Int) : asL xs way = asB xs way := by unfold asL; rw [if_pos h]
/-- The block that is taken: it is of some way, none is shorter, and none as short is of a way before. -/
theorem pack_is {xs : List Int} (h : listOk xs = true) : ∃ way : Int, 0 ≤ way ∧ way ≤ 3 ∧ asL xs way = some (packF xs) ∧ (packF xs).length ≤ xs.length + 2 ∧
    ∀ w b, asL xs w = some b → ¬ (b.length < (packF xs).length ∨ (b.length = (packF xs).length ∧ w < way)) := by
  obtain ⟨p0, hp0⟩ : ∃ p, p = [0, (xs.length : Int)] ++ xs := ⟨_, rfl⟩
  obtain ⟨p1, hp1⟩ : ∃ p, p = pickB p0 (asB xs 1) := ⟨_, rfl⟩
  obtain ⟨p2, hp2⟩ : ∃ p, p = pickB p1 (asB xs 2) := ⟨_, rfl⟩
  obtain ⟨p3, hp3⟩ : ∃ p, p = pickB p2 (asB xs 3) := ⟨_, rfl⟩
  have e : packF xs = p3 := by unfold packF; rw [if_pos h, hp3, hp2, hp1, hp0]
  have hl0 : p0.length = xs.length + 2 := by rw [hp0]; simp
  have h0 : asL xs 0 = some p0 := by rw [hp0]; exact asL_zero h
  obtain ⟨a1, b1, c1, d1⟩ := pickB_or p0 (asB xs 1)
  obtain ⟨a2, b2, c2, d2⟩ := pickB_or p1 (asB xs 2)
  obtain ⟨a3, b3, c3, d3⟩ := pickB_or p2 (asB xs 3)
  rw [← hp1] at a1 b1 c1 d1
  rw [← hp2] at a2 b2 c2 d2
  rw [← hp3] at a3 b3 c3 d3
  have hways : ∀ w b, asL xs w = some b → w = 0 ∨ w = 1 ∨ w = 2 ∨ w = 3 := fun w b hb => by
    have hb := (asL_ok hb).2
    unfold asB at hb
    by_cases w0 : w = 0
    · omega
    by_cases w1 : w = 1
    · omega
    by_cases w2 : w = 2
    · omega
    by_cases w3 : w = 3
    · omega
    rw [if_neg w0, if_neg w1, if_neg w2, if_neg w3] at hb
    cases hb
  have hle : ∀ w b, asL xs w = some b → p3.length ≤ b.length := fun w b hb => by
    rcases hways w b hb with rfl | rfl | rfl | rfl
    · rw [h0] at hb; injection hb with hb; subst hb; omega
    · rw [asL_asB h] at hb; have := c1 b hb; omega
    · rw [asL_asB h] at hb; have := c2 b hb; omega
    · rw [asL_asB h] at hb; exact c3 b hb
  rw [e]
  by_cases q3 : p3 = p2
  · by_cases q2 : p2 = p1
    · by_cases q1 : p1 = p0
      · refine ⟨0, by omega, by omega, by rw [q3, q2, q1]; exact h0, by omega, fun w b hb => ?_⟩
        have := hle w b hb
        have := hways w b hb
        omega
      · refine ⟨1, by omega, by omega, ?_, by omega, fun w b hb => ?_⟩
        · rw [asL_asB h, q3, q2]
          exact a1.resolve_left q1
        · have h1 := hle w b hb
          have h2 := d1 q1
          rcases hways w b hb with rfl | rfl | rfl | rfl
          · rw [h0] at hb; injection hb with hb; subst hb; rw [q3, q2]; omega
          all_goals omega
    · refine ⟨2, by omega, by omega, ?_, by omega, fun w b hb => ?_⟩
      · rw [asL_asB h, q3]
        exact a2.resolve_left q2
      · have h1 := hle w b hb
        have h2 := d2 q2
        rcases hways w b hb with rfl | rfl | rfl | rfl
        · rw [h0] at hb; injection hb with hb; subst hb; rw [q3]; omega
        · rw [asL_asB h] at hb; have := c1 b hb; rw [q3]; omega
        all_goals omega
  · refine ⟨3, by omega, by omega, ?_, by omega, fun w b hb => ?_⟩
    · rw [asL_asB h]
      exact a3.resolve_left q3
    · have h1 := hle w b hb
      have h2 := d3 q3
      rcases hways w b hb with rfl | rfl | rfl | rfl
      · rw [h0] at hb; injection hb with hb; subst hb; omega
      · rw [asL_asB h] at hb; have := c1 b hb; omega
      · rw [asL_asB h] at hb; have := c2 b hb; omega
      · omega
theorem pack_bad {xs : List Int} (h : listOk xs = false) : packF xs = [] := by unfold packF; rw [if_neg (by rw [h]; decide)]
end Go.Proofs.Ytamljhjbmeikiaa
/- Frames: numbers as bytes, two sums, a text as blocks. Plain facts, no program in sight. -/
namespace Go.Proofs.Ytamljhjbmeikiaa
open Go Go.RowKit
/-- A number as bytes of seven bits. -/
def varR (n : Nat) : List Int := if n < 128 then [(n : Int)] else (128 + (n % 128 : Nat) : Int) :: varR (n / 128)
termination_by n
decreasing_by omega
theorem varR_end {n : Nat} (h : n < 128) : varR n = [(n : Int)] := by rw [varR, if_pos h]
theorem varR_go {n : Nat} (h : 128 ≤ n) : varR n = (128 + (n % 128 : Nat) : Int) :: varR (n / 128) := by rw [varR, if_neg (by omega)]
theorem varR_len {n : Nat} (h : n ≤ 2097151) : 1 ≤ (varR n).length ∧ (varR n).length ≤ 3 := by
  by_cases h1 : n < 128
  · rw [varR_end h1]; simp
  rw [varR_go (by omega)]
  by_cases h2 : n / 128 < 128
  · rw [varR_end h2]; simp
  rw [varR_go (by omega), varR_end (by omega)]; simp
def varL (n : Int) : List Int := if inB 0 2097151 n = true then varR n.toNat else []
/-- The two sums. -/
def pairG (p : Int × Int) (x : Int) : Int × Int := ((p.1 + x) % 251, (p.2 + (p.1 + x) % 251) % 251)
def pairS (xs : List Int) : Int × Int := xs.foldl pairG (1, 0)
theorem pairS_snoc (xs : List Int) (x : Int) : pairS (xs ++ [x]) = pairG (pairS xs) x := by unfold pairS; rw [List.foldl_append]; rfl
theorem pairS_bd : ∀ xs : List Int, 0 ≤ (pairS xs).1 ∧ (pairS xs).1 ≤ 250 ∧ 0 ≤ (pairS xs).2 ∧ (pairS xs).2 ≤ 250 :=
  list_snoc_b (P := fun xs => 0 ≤ (pairS xs).1 ∧ (pairS xs).1 ≤ 250 ∧ 0 ≤ (pairS xs).2 ∧ (pairS xs).2 ≤ 250) (by decide) fun l x _ => by
    rw [pairS_snoc]
    unfold pairG
    simp only
    omega
def pairF (xs : List Int) : Int × Int × Bool := if byOk xs = true ∧ xs.length ≤ 400 then ((pairS xs).1, (pairS xs).2, true) else (0, 0, false)
/-- A text in pieces. -/
def chunks (s : Nat) (xs : List Int) : List (List Int) := if 0 < s ∧ 0 < xs.length then xs.take s :: chunks s (xs.drop s) else []
termination_by xs.length
decreasing_by rw [List.length_drop]; omega
theorem chunks_nil {s : Nat} {xs : List Int} (h : xs.length = 0) : chunks s xs = [] := by rw [chunks, if_neg (by omega)]
theorem chunks_go {s : Nat} {xs : List Int} (h0 : 0 < s) (h : 0 < xs.length) : chunks s xs = xs.take s :: chunks s (xs.drop s) := by rw [chunks, if_pos ⟨h0, h⟩]
theorem chunks_at {s a : Nat} {xs : List Int} (h0 : 0 < s) (h : a < xs.length) : chunks s (xs.drop a) = (xs.drop a).take s :: chunks s (xs.drop (a + s)) := by
  rw [chunks_go h0 (by rw [List.length_drop]; omega), List.drop_drop]
theorem chunks_all {s : Nat} (h0 : 0 < s) (n : Nat) : ∀ xs : List Int, xs.length ≤ n → (chunks s xs).flatten = xs := by
  induction n with
  | zero => intro xs h; rw [chunks_nil (by omega)]; simp only [List.flatten_nil]; exact (List.length_eq_zero_iff.1 (by omega)).symm
  | succ n ih =>
    intro xs h
    by_cases hx : xs.length = 0
    · rw [chunks_nil hx]; simp only [List.flatten_nil]; exact (List.length_eq_zero_iff.1 hx).symm
    · rw [chunks_go h0 (by omega), List.flatten_cons, ih _ (by rw [List.length_drop]; omega), List.take_append_drop]
theorem chunks_len {s : Nat} (h0 : 0 < s) (n : Nat) : ∀ xs : List Int, xs.length ≤ n → (chunks s xs).length = (xs.length + s - 1) / s := by
  induction n with
  | zero => intro xs h; rw [chunks_nil (by omega)]; simp only [List.length_nil]; exact (Nat.div_eq_of_lt (by omega)).symm
  | succ n ih =>
    intro xs h
    by_cases hx : xs.length = 0
    · rw [chunks_nil hx]; simp only [List.length_nil]; exact (Nat.div_eq_of_lt (by omega)).symm
    · rw [chunks_go h0 (by omega), List.length_cons, ih _ (by rw [List.length_drop]; omega), List.length_drop]
      by_cases hs : s ≤ xs.length
      · rw [show xs.length + s - 1 = (xs.length - s + s - 1) + s by omega, Nat.add_div_right _ h0]
      · rw [show xs.length - s = 0 by omega, show xs.length + s - 1 = (xs.length - 1) + s by omega, Nat.add_div_right _ h0, Nat.div_eq_of_lt (show 0 + s - 1 < s by omega), Nat.div_eq_of_lt (show xs.length - 1 < s by omega)]
theorem chunks_le {s : Nat} (n : Nat) : ∀ xs : List Int, xs.length ≤ n → (chunks s xs).length ≤ xs.length := by
  induction n with
  | zero => intro xs h; rw [chunks_nil (by omega)]; simp
  | succ n ih =>
    intro xs h
    by_cases hx : 0 < s ∧ 0 < xs.length
    · rw [chunks_go hx.1 hx.2, List.length_cons]
      have := ih (xs.drop s) (by rw [List.length_drop]; omega)
      rw [List.length_drop] at this
      omega
    · rw [chunks, if_neg hx]; simp
/-- The blocks of a text. -/
def blksL (s : Nat) (xs : List Int) : List Int := (chunks s xs).flatMap packF
theorem blksL_nil {s : Nat} {xs : List Int} (h : xs.length = 0) : blksL s xs = [] := by unfold blksL; rw [chunks_nil h]; rfl
theorem blksL_at {s a : Nat} {xs : List Int} (h0 : 0 < s) (h : a < xs.length) : blksL s (xs.drop a) = packF ((xs.drop a).take s) ++ blksL s (xs.drop (a + s)) := by
  unfold blksL; rw [chunks_at h0 h, List.flatMap_cons]
theorem packF_le (xs : List Int) : (packF xs).length ≤ xs.length + 2 := by
  cases h : listOk xs with
  | true => obtain ⟨_, _, _, _, h1, _⟩ := pack_is h; exact h1
  | false => rw [pack_bad h]; simp
theorem blksL_len {s : Nat} (n : Nat) : ∀ xs : List Int, xs.length ≤ n → (blksL s xs).length ≤ 3 * xs.length := by
  induction n with
  | zero => intro xs h; rw [blksL_nil (by omega)]; simp
  | succ n ih =>
    intro xs h
    by_cases hx : 0 < s ∧ 0 < xs.length
    · have e := blksL_at (a := 0) hx.1 hx.2
      rw [List.drop_zero, Nat.zero_add] at e
      rw [e, List.length_append]
      have h1 := ih (xs.drop s) (by rw [List.length_drop]; omega)
      have h2 := packF_le (xs.take s)
      rw [List.length_drop] at h1
      rw [List.length_take] at h2
      omega
    · unfold blksL; rw [chunks, if_neg hx]; simp
/-- A text as a frame. -/
def frameB (s : Nat) (xs : List Int) : List Int := [90] ++ varR (chunks s xs).length ++ blksL s xs ++ [(pairS xs).1, (pairS xs).2]
def txOk (xs : List Int) : Bool := decide (xs.length ≤ 120) && xs.all (inB 0 7)
theorem txOk_iff {xs : List Int} : txOk xs = true ↔ xs.length ≤ 120 ∧ ∀ x ∈ xs, 0 ≤ x ∧ x ≤ 7 := by simp [txOk, inB_true]
def frameF (xs : List Int) (n : Int) : Option (List Int) := if txOk xs = true ∧ inB 1 40 n = true then some (frameB n.toNat xs) else none
theorem txOk_by {xs : List Int} (h : txOk xs = true) : byOk xs = true := byOk_all.2 fun x hx => by have := (txOk_iff.1 h).2 x hx; omega
theorem pairF_tx {xs : List Int} (h : txOk xs = true) : pairF xs = ((pairS xs).1, (pairS xs).2, true) := by
  unfold pairF; rw [if_pos ⟨txOk_by h, by have := (txOk_iff.1 h).1; omega⟩]
end Go.Proofs.Ytamljhjbmeikiaa
/- Frames are opened: plain facts, no program in sight. -/
namespace Go.Proofs.Ytamljhjbmeikiaa
open Go Go.RowKit
/-- The number in the first bytes, seven bits in each. -/
def valK (ds : List Int) : Nat → Nat
  | 0 => 0
  | j + 1 => valK ds j + (ds.getD j 0 % 128).toNat * 128 ^ j
/-- A number at the head of some bytes, and how many bytes it has. -/
def vgG (ds : List Int) : Nat → Nat → Option (Nat × Nat)
  | 0, _ => none
  | f + 1, j => if j < ds.length then (if ds.getD j 0 < 128 then (if (varR (valK ds (j + 1))).length = j + 1 then some (valK ds (j + 1), j + 1) else none) else vgG ds f (j + 1)) else none
def vgL (ds : List Int) : Option (Nat × Nat) := vgG ds 3 0
theorem varR_two {n : Nat} (h : 128 ≤ n) (h2 : n < 16384) : varR n = [(128 + (n % 128 : Nat) : Int), ((n / 128 : Nat) : Int)] := by rw [varR_go h, varR_end (by omega)]
theorem varR_three {n : Nat} (h : 16384 ≤ n) (h2 : n ≤ 2097151) : varR n = [(128 + (n % 128 : Nat) : Int), (128 + (n / 128 % 128 : Nat) : Int), ((n / 16384 : Nat) : Int)] := by
  rw [varR_go (by omega), varR_go (by omega), varR_end (by omega), Nat.div_div_eq_div_mul]
theorem byOk_hd {x : Int} {xs : List Int} (h : byOk (x :: xs) = true) : (0 ≤ x ∧ x ≤ 255) ∧ byOk xs = true := ⟨byOk_all.1 h x (by simp), byOk_all.2 fun y hy => byOk_all.1 h y (by simp [hy])⟩
theorem vg_same {ds : List Int} {j : Nat} (hok : byOk ds = true) (hj : j ≤ 2) (hl : j < ds.length) (h : ∀ i, i < j → 128 ≤ ds.getD i 0) (h1 : ds.getD j 0 < 128) :
    valK ds (j + 1) ≤ 2097151 ∧ ((varR (valK ds (j + 1))).length = j + 1 ↔ varR (valK ds (j + 1)) = ds.take (j + 1)) := by
  match ds, hl with
  | b0 :: t, hl =>
    obtain ⟨hb0, hok⟩ := byOk_hd hok
    rcases Nat.eq_zero_or_pos j with rfl | hj0
    · have h1 : b0 < 128 := h1
      have e : valK (b0 :: t) 1 = b0.toNat := by show 0 + (b0 % 128).toNat * 1 = _; omega
      rw [e, varR_end (by omega)]
      refine ⟨by omega, ⟨fun _ => ?_, fun _ => rfl⟩⟩
      show [((b0.toNat : Nat) : Int)] = [b0]
      rw [Int.toNat_of_nonneg hb0.1]
    · have h0 : 128 ≤ b0 := h 0 hj0
      match t, hl with
      | [], hl => simp at hl; omega
      | b1 :: u, hl =>
        obtain ⟨hb1, hok⟩ := byOk_hd hok
        rcases (show j = 1 ∨ j = 2 by omega) with rfl | rfl
        · have h1 : b1 < 128 := h1
          have e : valK (b0 :: b1 :: u) 2 = (b0 - 128).toNat + 128 * b1.toNat := by show 0 + (b0 % 128).toNat * 1 + (b1 % 128).toNat * 128 = _; omega
          rw [e]
          refine ⟨by omega, ?_⟩
          by_cases hz : b1 = 0
          · subst hz
            rw [varR_end (by omega)]
            constructor
            · intro h; simp at h
            · intro h; have := congrArg List.length h; simp at this
          · rw [varR_two (by omega) (by omega)]
            refine ⟨fun _ => ?_, fun _ => rfl⟩
            show [_, _] = [b0, b1]
            rw [show (128 + (((b0 - 128).toNat + 128 * b1.toNat) % 128 : Nat) : Int) = b0 by omega, show ((((b0 - 128).toNat + 128 * b1.toNat) / 128 : Nat) : Int) = b1 by omega]
        · have h2 : 128 ≤ b1 := h 1 (by omega)
          match u, hl with
          | [], hl => simp at hl
          | b2 :: v, hl =>
            obtain ⟨hb2, hok⟩ := byOk_hd hok
            have h1 : b2 < 128 := h1
            have e : valK (b0 :: b1 :: b2 :: v) 3 = (b0 - 128).toNat + 128 * (b1 - 128).toNat + 16384 * b2.toNat := by
              show 0 + (b0 % 128).toNat * 1 + (b1 % 128).toNat * 128 + (b2 % 128).toNat * 16384 = _
              omega
            rw [e]
            refine ⟨by omega, ?_⟩
            by_cases hz : b2 = 0
            · subst hz
              constructor
              · intro h
                by_cases hq : (b0 - 128).toNat + 128 * (b1 - 128).toNat < 128
                · rw [varR_end (by omega)] at h; simp at h
                · rw [varR_two (by omega) (by omega)] at h; simp at h
              · intro h
                have hq := congrArg List.length h
                by_cases hq2 : (b0 - 128).toNat + 128 * (b1 - 128).toNat < 128
                · rw [varR_end (by omega)] at hq; simp at hq
                · rw [varR_two (by omega) (by omega)] at hq; simp at hq
            · rw [varR_three (by omega) (by omega)]
              refine ⟨fun _ => ?_, fun _ => rfl⟩
              show [_, _, _] = [b0, b1, b2]
              rw [show (128 + (((b0 - 128).toNat + 128 * (b1 - 128).toNat + 16384 * b2.toNat) % 128 : Nat) : Int) = b0 by omega, show (128 + (((b0 - 128).toNat + 128 * (b1 - 128).toNat + 16384 * b2.toNat) / 128 % 128 : Nat) : Int) = b1 by omega, show ((((b0 - 128).toNat + 128 * (b1 - 128).toNat + 16384 * b2.toNat) / 16384 : Nat) : Int) = b2 by omega]
theorem vgG_yes {ds : List Int} {f j : Nat} (hl : j < ds.length) (h1 : ds.getD j 0 < 128) : vgG ds (f + 1) j = if (varR (valK ds (j + 1))).length = j + 1 then some (valK ds (j + 1), j + 1) else none := by
  rw [vgG, if_pos hl, if_pos h1]
theorem vgG_go {ds : List Int} {f j : Nat} (hl : j < ds.length) (h1 : 128 ≤ ds.getD j 0) : vgG ds (f + 1) j = vgG ds f (j + 1) := by
  rw [vgG, if_pos hl, if_neg (by omega)]
theorem vgG_no {ds : List Int} {f j : Nat} (hl : ds.length ≤ j) : vgG ds f j = none := by
  cases f with
  | zero => rfl
  | succ f => rw [vgG, if_neg (by omega)]
theorem vgG_is {ds : List Int} (hok : byOk ds = true) {n l : Nat} : ∀ f j, f + j = 3 → (∀ i, i < j → 128 ≤ ds.getD i 0) → vgG ds f j = some (n, l) → n ≤ 2097151 ∧ l = (varR n).length ∧ varR n = ds.take l
  | 0, _, _, _, h => by cases h
  | f + 1, j, hf, hj, h => by
    by_cases hl : j < ds.length
    · by_cases h1 : ds.getD j 0 < 128
      · rw [vgG_yes hl h1] at h
        obtain ⟨ha, hb⟩ := vg_same hok (by omega) hl hj h1
        split at h
        · rename_i he
          injection h with h
          injection h with h2 h3
          subst h2; subst h3
          exact ⟨ha, he.symm, hb.1 he⟩
        · cases h
      · rw [vgG_go hl (by omega)] at h
        exact vgG_is hok f (j + 1) (by omega) (fun i hi => by rcases (show i < j ∨ i = j by omega) with h | rfl; exact hj i h; omega) h
    · rw [vgG_no (by omega)] at h; cases h
theorem vg_is {ds : List Int} (hok : byOk ds = true) {n l : Nat} (h : vgL ds = some (n, l)) : n ≤ 2097151 ∧ l = (varR n).length ∧ ds = varR n ++ ds.drop l := by
  obtain ⟨h1, h2, h3⟩ := vgG_is hok 3 0 rfl (fun i hi => by omega) h
  refine ⟨h1, h2, ?_⟩
  rw [h3, List.take_append_drop]
theorem vg_put {n : Nat} (h : n ≤ 2097151) (t : List Int) : vgL (varR n ++ t) = some (n, (varR n).length) := by
  unfold vgL
  by_cases h1 : n < 128
  · rw [varR_end h1]
    have e : valK ([(n : Int)] ++ t) 1 = n := by show 0 + ((n : Int) % 128).toNat * 1 = n; omega
    have hy := vgG_yes (ds := [(n : Int)] ++ t) (f := 2) (j := 0) (by simp) (show (n : Int) < 128 by omega)
    rw [hy, e, varR_end h1]
    rfl
  by_cases h2 : n < 16384
  · have hv := varR_two (by omega) h2
    have e : valK (varR n ++ t) 2 = n := by
      rw [hv]
      show 0 + ((128 + (n % 128 : Nat) : Int) % 128).toNat * 1 + (((n / 128 : Nat) : Int) % 128).toNat * 128 = n
      omega
    have g0 := vgG_go (ds := varR n ++ t) (f := 2) (j := 0) (by rw [hv]; simp) (by rw [hv]; show 128 ≤ (128 + (n % 128 : Nat) : Int); omega)
    have g1 := vgG_yes (ds := varR n ++ t) (f := 1) (j := 1) (by rw [hv]; simp) (by rw [hv]; show ((n / 128 : Nat) : Int) < 128; omega)
    rw [g0, g1, e, hv]
    rfl
  · have hv := varR_three (by omega) h
    have e : valK (varR n ++ t) 3 = n := by
      rw [hv]
      show 0 + ((128 + (n % 128 : Nat) : Int) % 128).toNat * 1 + ((128 + (n / 128 % 128 : Nat) : Int) % 128).toNat * 128 + (((n / 16384 : Nat) : Int) % 128).toNat * 16384 = n
      omega
    have g0 := vgG_go (ds := varR n ++ t) (f := 2) (j := 0) (by rw [hv]; simp) (by rw [hv]; show 128 ≤ (128 + (n % 128 : Nat) : Int); omega)
    have g1 := vgG_go (ds := varR n ++ t) (f := 1) (j := 1) (by rw [hv]; simp) (by rw [hv]; show 128 ≤ (128 + (n / 128 % 128 : Nat) : Int); omega)
    have g2 := vgG_yes (ds := varR n ++ t) (f := 0) (j := 2) (by rw [hv]; simp) (by rw [hv]; show ((n / 16384 : Nat) : Int) < 128; omega)
    rw [g0, g1, g2, e, hv]
    rfl
def vgF (bs : List Int) (a : Int) : Int × Int × Bool :=
  if byOk bs = true ∧ 0 ≤ a ∧ a ≤ bs.length then
    match vgL (bs.drop a.toNat) with
    | some (n, l) => ((n : Int), a + (l : Int), true)
    | none => (0, 0, false)
  else (0, 0, false)
/-- Some blocks one behind the other: their lists, and the place behind them. -/
def fb (bs : List Int) (a : Nat) : Nat → Option (List (List Int) × Nat)
  | 0 => some ([], a)
  | m + 1 =>
    match fb bs a m with
    | none => none
    | some (ls, e) =>
      match opF (bs.drop e) with
      | none => none
      | some (l, n) => some (ls ++ [l], e + n)
theorem fb_none {bs : List Int} {a m : Nat} (h : fb bs a m = none) : ∀ k, fb bs a (m + k) = none
  | 0 => h
  | k + 1 => by rw [show m + (k + 1) = (m + k) + 1 by omega, fb, fb_none h k]
theorem fb_no {bs : List Int} {a m M : Nat} (h : fb bs a m = none) (hm : m ≤ M) : fb bs a M = none := by
  have := fb_none h (M - m); rwa [show m + (M - m) = M by omega] at this
theorem fb_stop {bs : List Int} {a m e : Nat} {ls : List (List Int)} (h : fb bs a m = some (ls, e)) (ho : opF (bs.drop e) = none) : fb bs a (m + 1) = none := by rw [fb, h]; simp only; rw [ho]
theorem fb_step {bs : List Int} {a m e n : Nat} {ls : List (List Int)} {l : List Int} (h : fb bs a m = some (ls, e)) (ho : opF (bs.drop e) = some (l, n)) : fb bs a (m + 1) = some (ls ++ [l], e + n) := by rw [fb, h]; simp only; rw [ho]
theorem fb_inv {bs : List Int} {a m e : Nat} {ls : List (List Int)} (h : fb bs a (m + 1) = some (ls, e)) : ∃ ls' e' l n, fb bs a m = some (ls', e') ∧ opF (bs.drop e') = some (l, n) ∧ ls = ls' ++ [l] ∧ e = e' + n := by
  rw [fb] at h
  cases h1 : fb bs a m with
  | none => rw [h1] at h; cases h
  | some x =>
    obtain ⟨ls', e'⟩ := x
    rw [h1] at h
    simp only at h
    cases h2 : opF (bs.drop e') with
    | none => rw [h2] at h; cases h
    | some y =>
      obtain ⟨l, n⟩ := y
      rw [h2] at h
      simp only at h
      injection h with h
      injection h with h3 h4
      exact ⟨ls', e', l, n, rfl, h2, h3.symm, h4.symm⟩
theorem fb_bd {bs : List Int} {a : Nat} : ∀ {m e : Nat} {ls : List (List Int)}, fb bs a m = some (ls, e) → a ≤ e ∧ (a ≤ bs.length → e ≤ bs.length) ∧ ls.length = m ∧ ∀ l ∈ ls, listOk l = true
  | 0, e, ls, h => by
    injection h with h
    injection h with h1 h2
    subst h1; subst h2
    exact ⟨Nat.le_refl _, fun h => h, rfl, fun l hl => by simp at hl⟩
  | m + 1, e, ls, h => by
    obtain ⟨ls', e', l, n, h1, h2, rfl, rfl⟩ := fb_inv h
    obtain ⟨a1, a2, a3, a4⟩ := fb_bd h1
    obtain ⟨b, ha, hb, _, _, hn, _, _⟩ := op_split h2
    rw [List.length_drop] at hn
    refine ⟨by omega, fun h => by have := a2 h; omega, by rw [List.length_append, a3]; rfl, fun x hx => ?_⟩
    rcases List.mem_append.1 hx with hx | hx
    · exact a4 x hx
    · simp at hx; subst hx; exact (asL_ok ha).1
/-- What stands behind the blocks does not matter. -/
theorem fb_ext {bs : List Int} {a : Nat} (hok : byOk bs = true) (ha : a ≤ bs.length) : ∀ {m e : Nat} {ls : List (List Int)} (t : List Int), byOk t = true → fb bs a m = some (ls, e) → fb (bs.take e ++ t) a m = some (ls, e)
  | 0, e, ls, _, _, h => h
  | m + 1, e, ls, t, ht, h => by
    obtain ⟨ls', e', l, n, h1, h2, rfl, rfl⟩ := fb_inv h
    have hle := (fb_bd h1).2.1 ha
    obtain ⟨b, hb, hn, htk, _, hnl, _, _⟩ := op_split h2
    have e1 : bs.take (e' + n) ++ t = bs.take e' ++ (b ++ t) := by rw [List.take_add, htk, List.append_assoc]
    have h3 := fb_ext hok ha (b ++ t) (byOk_app.2 ⟨as_bytes hb, ht⟩) h1
    rw [e1]
    refine fb_step h3 ?_
    rw [List.drop_left' (by rw [List.length_take]; omega), op_as hb ht, hn]
/-- Blocks that were written are read. -/
theorem fb_blks {p t : List Int} {cs : List (List Int)} (ht : byOk t = true) (hcs : ∀ c ∈ cs, listOk c = true) : ∀ k, k ≤ cs.length → fb (p ++ cs.flatMap packF ++ t) p.length k = some (cs.take k, (p ++ (cs.take k).flatMap packF).length)
  | 0, _ => by simp [fb]
  | k + 1, hk => by
    have h1 := fb_blks (p := p) ht hcs k (by omega)
    obtain ⟨c, hc⟩ : ∃ c, cs[k]? = some c := ⟨_, List.getElem?_eq_getElem (by omega)⟩
    have hcm := hcs c (List.mem_of_getElem? hc)
    have e0 : cs = cs.take k ++ (c :: cs.drop (k + 1)) := by
      obtain ⟨hk', rfl⟩ := List.getElem?_eq_some_iff.1 hc
      rw [← List.drop_eq_getElem_cons hk', List.take_append_drop]
    obtain ⟨way, _, _, ha, _⟩ := pack_is hcm
    have hb : byOk ((cs.drop (k + 1)).flatMap packF ++ t) = true := by
      refine byOk_app.2 ⟨byOk_all.2 fun x hx => ?_, ht⟩
      obtain ⟨d, hd, hx⟩ := List.mem_flatMap.1 hx
      obtain ⟨_, _, _, h, _⟩ := pack_is (hcs d (List.mem_of_mem_drop hd))
      exact byOk_all.1 (as_bytes h) x hx
    have e1 : p ++ cs.flatMap packF ++ t = (p ++ (cs.take k).flatMap packF) ++ (packF c ++ ((cs.drop (k + 1)).flatMap packF ++ t)) := by
      conv => lhs; rw [e0]
      simp [List.flatMap_append]
    have h2 := fb_step h1 (l := c) (n := (packF c).length) (by rw [e1, List.drop_left' rfl]; exact op_as ha hb)
    rw [take_snoc' hc]
    refine h2.trans ?_
    rw [List.flatMap_append, List.length_append, List.length_append, List.length_append]
    simp only [List.flatMap_cons, List.flatMap_nil, List.append_nil, Nat.add_assoc]
/-- A frame: the lists of its blocks, and the place of its sums. -/
def frP (bs : List Int) : Option (List (List Int) × Nat) :=
  if byOk bs = true ∧ 0 < bs.length ∧ bs.getD 0 0 = 90 then
    match vgL (bs.drop 1) with
    | none => none
    | some (m, l) =>
      if 120 < m then none
      else
        match fb bs (1 + l) m with
        | none => none
        | some (ls, e) => if bs.length = e + 2 then some (ls, e) else none
  else none
theorem frP_is {bs : List Int} {ls : List (List Int)} {e : Nat} (h : frP bs = some (ls, e)) : byOk bs = true ∧ 0 < bs.length ∧ bs.getD 0 0 = 90 ∧ ∃ l, vgL (bs.drop 1) = some (ls.length, l) ∧ ls.length ≤ 120 ∧ fb bs (1 + l) ls.length = some (ls, e) ∧ bs.length = e + 2 ∧ 1 + l ≤ bs.length ∧ 1 + l ≤ e ∧ ∀ x ∈ ls, listOk x = true := by
  unfold frP at h
  split at h
  · rename_i h0
    cases h1 : vgL (bs.drop 1) with
    | none => rw [h1] at h; cases h
    | some x =>
      obtain ⟨m, l⟩ := x
      rw [h1] at h
      simp only at h
      split at h
      · cases h
      · rename_i hm
        cases h2 : fb bs (1 + l) m with
        | none => rw [h2] at h; cases h
        | some y =>
          obtain ⟨ls', e'⟩ := y
          rw [h2] at h
          simp only at h
          split at h
          · rename_i he
            injection h with h
            injection h with h3 h4
            subst h3; subst h4
            obtain ⟨a1, a2, a3, a4⟩ := fb_bd h2
            subst a3
            have hv := vg_is (byOk_all.2 fun x hx => byOk_all.1 h0.1 x (List.mem_of_mem_drop hx)) h1
            have hlen := congrArg List.length hv.2.2
            rw [List.length_append, List.length_drop, List.length_drop, ← hv.2.1] at hlen
            have := (varR_len hv.1).1
            exact ⟨h0.1, h0.2.1, h0.2.2, l, rfl, by omega, h2, he, by omega, a1, a4⟩
          · cases h
  · cases h
theorem frP_ext {bs t : List Int} {ls : List (List Int)} {e : Nat} (h : frP bs = some (ls, e)) (ht : byOk t = true) : frP (bs.take e ++ t) = if t.length = 2 then some (ls, e) else none := by
  obtain ⟨h0, h1, h2, l, hv, hm, hf, he, hl, hle, _⟩ := frP_is h
  have hB : byOk (bs.take e ++ t) = true := byOk_app.2 ⟨byOk_all.2 fun x hx => byOk_all.1 h0 x (List.mem_of_mem_take hx), ht⟩
  have hlt : (bs.take e).length = e := by rw [List.length_take]; omega
  have hg : (bs.take e ++ t).getD 0 0 = 90 := by
    rw [← h2, List.getD_eq_getElem?_getD, List.getD_eq_getElem?_getD, List.getElem?_append_left (by omega), List.getElem?_take, if_pos (by omega)]
  have hvs := vg_is (byOk_all.2 fun x hx => byOk_all.1 h0 x (List.mem_of_mem_drop hx)) hv
  have hv2 : vgL ((bs.take e ++ t).drop 1) = some (ls.length, l) := by
    have hd : (bs.take e ++ t).drop 1 = varR ls.length ++ (((bs.drop 1).drop l).take (e - 1 - l) ++ t) := by
      rw [List.drop_append_of_le_length (by omega), List.drop_take]
      conv => lhs; lhs; rw [hvs.2.2]
      rw [List.take_append, List.take_of_length_le (by omega), ← hvs.2.1, List.append_assoc]
    rw [hd, vg_put hvs.1, ← hvs.2.1]
  unfold frP
  rw [if_pos ⟨hB, by rw [List.length_append]; omega, hg⟩, hv2]
  simp only
  rw [if_neg (by omega), fb_ext h0 hl t ht hf]
  simp only
  rw [List.length_append, hlt]
  by_cases ht2 : t.length = 2
  · rw [if_pos ht2, if_pos (by omega)]
  · rw [if_neg ht2, if_neg (by omega)]
theorem chunks_ok {s : Nat} {xs : List Int} (hs : s ≤ 40) (hx : ∀ x ∈ xs, 0 ≤ x ∧ x ≤ 7) (n : Nat) : ∀ (ys : List Int), ys.length ≤ n → (∀ y ∈ ys, y ∈ xs) → ∀ c ∈ chunks s ys, listOk c = true := by
  induction n with
  | zero => intro ys h _ c hc; rw [chunks_nil (by omega)] at hc; simp at hc
  | succ n ih =>
    intro ys h hy c hc
    by_cases h0 : 0 < s ∧ 0 < ys.length
    · rw [chunks_go h0.1 h0.2] at hc
      rcases List.mem_cons.1 hc with rfl | hc
      · exact listOk_iff'.2 ⟨by rw [List.length_take]; omega, fun x hx' => hx x (hy x (List.mem_of_mem_take hx'))⟩
      · exact ih _ (by rw [List.length_drop]; omega) (fun y hy' => hy y (List.mem_of_mem_drop hy')) c hc
    · rw [chunks, if_neg h0] at hc; simp at hc
theorem frameB_split (s : Nat) (xs : List Int) : frameB s xs = ([90] ++ varR (chunks s xs).length) ++ (chunks s xs).flatMap packF ++ [(pairS xs).1, (pairS xs).2] := rfl
theorem varR_by {n : Nat} (h : n ≤ 2097151) : byOk (varR n) = true := by
  rw [byOk_all]
  intro x hx
  by_cases h1 : n < 128
  · rw [varR_end h1] at hx; simp at hx; omega
  by_cases h2 : n < 16384
  · rw [varR_two (by omega) h2] at hx; simp at hx; omega
  · rw [varR_three (by omega) h] at hx; simp at hx; omega
theorem frP_self {s : Nat} {xs : List Int} (h : txOk xs = true) (h2 : s ≤ 40) : frP (frameB s xs) = some (chunks s xs, (frameB s xs).length - 2) ∧ byOk (frameB s xs) = true := by
  obtain ⟨hl, hx⟩ := txOk_iff.1 h
  have hcs := chunks_ok h2 hx _ xs (Nat.le_refl _) (fun y hy => hy)
  have hcl := chunks_le (s := s) _ xs (Nat.le_refl _)
  have hp := pairS_bd xs
  have ht : byOk [(pairS xs).1, (pairS xs).2] = true := byOk_all.2 fun x hx => by simp at hx; omega
  have hb := fb_blks (p := [90] ++ varR (chunks s xs).length) ht hcs _ (Nat.le_refl _)
  rw [← frameB_split, List.take_length, List.length_append] at hb
  have hbk : byOk (frameB s xs) = true := by
    rw [frameB_split]
    refine byOk_app.2 ⟨byOk_app.2 ⟨byOk_app.2 ⟨by decide, varR_by (by omega)⟩, byOk_all.2 fun x hx' => ?_⟩, ht⟩
    obtain ⟨d, hd, hx2⟩ := List.mem_flatMap.1 hx'
    obtain ⟨_, _, _, h', _⟩ := pack_is (hcs d hd)
    exact byOk_all.1 (as_bytes h') x hx2
  have hd1 : (frameB s xs).drop 1 = varR (chunks s xs).length ++ (blksL s xs ++ [(pairS xs).1, (pairS xs).2]) := by unfold frameB; simp
  have hfl : (frameB s xs).length = (([90] ++ varR (chunks s xs).length) ++ (chunks s xs).flatMap packF).length + 2 := by
    conv => lhs; rw [frameB_split, List.length_append]
    rfl
  refine ⟨?_, hbk⟩
  unfold frP
  rw [if_pos ⟨hbk, by omega, by unfold frameB; rfl⟩, hd1, vg_put (by omega)]
  simp only
  rw [if_neg (by omega)]
  rw [show ([90] : List Int).length = 1 from rfl] at hb
  rw [hb]
  simp only
  rw [if_pos hfl, hfl, Nat.add_sub_cancel]
/-- What the opening of a frame answers: a text and a code. -/
def foF (bs : List Int) (most : Int) : List Int × Int :=
  match frP bs with
  | none => ([], 1)
  | some (ls, e) => if most < (ls.flatten.length : Int) ∨ 120 < ls.flatten.length then ([], 2) else if pairS ls.flatten = (bs.getD e 0, bs.getD (e + 1) 0) then (ls.flatten, 0) else ([], 3)
def fkF (bs : List Int) : Int :=
  match frP bs with
  | none => -1
  | some (ls, _) => ls.length
theorem flat_by {ls : List (List Int)} (h : ∀ x ∈ ls, listOk x = true) : byOk ls.flatten = true ∧ ∀ x ∈ ls.flatten, 0 ≤ x ∧ x ≤ 7 := by
  have h7 : ∀ x ∈ ls.flatten, 0 ≤ x ∧ x ≤ 7 := fun x hx => by
    obtain ⟨l, hl, hx⟩ := List.mem_flatten.1 hx
    exact (listOk_iff'.1 (h l hl)).2 x hx
  exact ⟨byOk_all.2 fun x hx => by have := h7 x hx; omega, h7⟩
end Go.Proofs.Ytamljhjbmeikiaa
/- Frames: what was packed is opened; plain facts, no program in sight. -/
namespace Go.Proofs.Ytamljhjbmeikiaa
open Go Go.RowKit
theorem blksL_len2 {s : Nat} (n : Nat) : ∀ xs : List Int, xs.length ≤ n → (blksL s xs).length ≤ xs.length + 2 * (chunks s xs).length := by
  induction n with
  | zero => intro xs h; rw [blksL_nil (by omega)]; simp
  | succ n ih =>
    intro xs h
    by_cases hx : 0 < s ∧ 0 < xs.length
    · have e := blksL_at (a := 0) hx.1 hx.2
      have e2 := chunks_at (a := 0) hx.1 hx.2
      rw [List.drop_zero, Nat.zero_add] at e e2
      rw [e, e2, List.length_append, List.length_cons]
      have h1 := ih (xs.drop s) (by rw [List.length_drop]; omega)
      have h2 := packF_le (xs.take s)
      rw [List.length_drop] at h1
      rw [List.length_take] at h2
      omega
    · unfold blksL; rw [chunks, if_neg hx]; simp
/-- A frame is its body and two sums. -/
def bodyB (s : Nat) (xs : List Int) : List Int := [90] ++ varR (chunks s xs).length ++ blksL s xs
theorem frameB_body (s : Nat) (xs : List Int) : frameB s xs = bodyB s xs ++ [(pairS xs).1, (pairS xs).2] := rfl
theorem frameB_body_len (s : Nat) (xs : List Int) : (frameB s xs).length = (bodyB s xs).length + 2 := by rw [frameB_body, List.length_append]; rfl
theorem frameB_bound {s : Nat} {xs : List Int} (h : xs.length ≤ 120) : (frameB s xs).length ≤ xs.length + 2 * (chunks s xs).length + 4 ∧ 4 ≤ (frameB s xs).length := by
  have h1 := blksL_len2 (s := s) _ xs (Nat.le_refl _)
  have h2 := chunks_le (s := s) _ xs (Nat.le_refl _)
  have h3 : (varR (chunks s xs).length).length = 1 := by rw [varR_end (by omega)]; rfl
  unfold frameB
  rw [List.length_append, List.length_append, List.length_append, h3]
  simp only [List.length_cons, List.length_nil]
  omega
theorem frP_body {s : Nat} {xs t : List Int} (h : txOk xs = true) (h2 : s ≤ 40) (ht : byOk t = true) : frP (bodyB s xs ++ t) = if t.length = 2 then some (chunks s xs, (bodyB s xs).length) else none := by
  have h3 := frP_self h h2
  rw [frameB_body_len, Nat.add_sub_cancel] at h3
  have h4 := frP_ext h3.1 ht
  rwa [frameB_body, List.take_left' rfl] at h4
theorem getD_left {a b : List Int} : ∀ k, (a ++ b).getD (a.length + k) 0 = b.getD k 0 := fun k => by
  rw [List.getD_eq_getElem?_getD, List.getD_eq_getElem?_getD, List.getElem?_append_right (by omega), Nat.add_sub_cancel_left]
theorem foF_self {s : Nat} {xs : List Int} {u v most : Int} (h : txOk xs = true) (h1 : 1 ≤ s) (h2 : s ≤ 40) (hb : byOk [u, v] = true) : foF (bodyB s xs ++ [u, v]) most = if most < (xs.length : Int) then ([], 2) else if pairS xs = (u, v) then (xs, 0) else ([], 3) := by
  have hf := frP_body h h2 hb
  rw [if_pos (show [u, v].length = 2 from rfl)] at hf
  have hc := chunks_all (s := s) h1 _ xs (Nat.le_refl _)
  have h120 := (txOk_iff.1 h).1
  unfold foF
  rw [hf]
  simp only
  rw [hc]
  have e0 := getD_left (a := bodyB s xs) (b := [u, v]) 0
  have e1 := getD_left (a := bodyB s xs) (b := [u, v]) 1
  rw [Nat.add_zero] at e0
  rw [e0, e1]
  by_cases hm : most < (xs.length : Int)
  · rw [if_pos (.inl hm), if_pos hm]
  · rw [if_neg (by omega), if_neg hm]
    rfl
theorem pair_by (xs : List Int) : byOk [(pairS xs).1, (pairS xs).2] = true := byOk_all.2 fun x hx => by have := pairS_bd xs; simp at hx; omega
theorem foF_frame {s : Nat} {xs : List Int} {most : Int} (h : txOk xs = true) (h1 : 1 ≤ s) (h2 : s ≤ 40) : foF (frameB s xs) most = if most < (xs.length : Int) then ([], 2) else (xs, 0) := by
  rw [frameB_body, foF_self h h1 h2 (pair_by xs)]
  split
  · rfl
  · rw [if_pos rfl]
theorem fkF_frame {s : Nat} {xs : List Int} (h : txOk xs = true) (h2 : s ≤ 40) : fkF (frameB s xs) = ((chunks s xs).length : Int) := by
  unfold fkF
  rw [frameB_body, frP_body h h2 (pair_by xs), if_pos (show [(pairS xs).1, (pairS xs).2].length = 2 from rfl)]
theorem frameF_some {xs ys : List Int} {n : Int} (h : frameF xs n = some ys) : txOk xs = true ∧ ∃ s : Nat, n = (s : Int) ∧ 1 ≤ s ∧ s ≤ 40 ∧ ys = frameB s xs := by
  unfold frameF at h
  split at h
  · rename_i h0
    have hb := inB_true.1 h0.2
    injection h with h
    exact ⟨h0.1, n.toNat, by omega, by omega, by omega, h.symm⟩
  · cases h
theorem foF_done {bs ys : List Int} {most : Int} (h : foF bs most = (ys, 0)) : ∃ ls p, frP bs = some (ls, p) ∧ ys = ls.flatten ∧ (ys.length : Int) ≤ most ∧ ys.length ≤ 120 ∧ pairS ys = (bs.getD p 0, bs.getD (p + 1) 0) ∧ bs.length = p + 2 ∧ txOk ys = true := by
  unfold foF at h
  cases hf : frP bs with
  | none => rw [hf] at h; simp at h
  | some r =>
    obtain ⟨ls, p⟩ := r
    rw [hf] at h
    simp only at h
    split at h
    · simp at h
    · rename_i hm
      split at h
      · rename_i hp
        have e : ls.flatten = ys := congrArg Prod.fst h
        subst e
        obtain ⟨_, _, _, _, _, _, _, hl, _, _, hlo⟩ := frP_is hf
        exact ⟨ls, p, rfl, rfl, by omega, by omega, hp, hl, txOk_iff.2 ⟨by omega, (flat_by hlo).2⟩⟩
      · simp at h
theorem foF_more {bs ys : List Int} {most m : Int} (h : foF bs most = (ys, 0)) (hm : most ≤ m) : foF bs m = (ys, 0) := by
  obtain ⟨ls, p, hf, rfl, h1, h2, hp, _, _⟩ := foF_done h
  unfold foF
  rw [hf]
  simp only
  rw [if_neg (by omega), if_pos hp]
theorem foF_code {bs ys : List Int} {most n : Int} (h : foF bs most = (ys, n)) : (n = 1 ↔ fkF bs = -1) ∧ (n = 0 ∨ ys = []) := by
  unfold foF fkF at *
  cases hf : frP bs with
  | none => rw [hf] at h; simp only at h; injection h with h1 h2; subst h1; subst h2; simp
  | some r =>
    obtain ⟨ls, p⟩ := r
    rw [hf] at h
    simp only at h ⊢
    split at h
    · injection h with h1 h2; subst h1; subst h2; exact ⟨⟨fun h => absurd h (by decide), fun h => by omega⟩, .inr rfl⟩
    · split at h
      · injection h with h1 h2; subst h1; subst h2; exact ⟨⟨fun h => absurd h (by decide), fun h => by omega⟩, .inl rfl⟩
      · injection h with h1 h2; subst h1; subst h2; exact ⟨⟨fun h => absurd h (by decide), fun h => by omega⟩, .inr rfl⟩
theorem fkF_some {bs : List Int} (h : ¬ fkF bs < 0) : ∃ ls p, frP bs = some (ls, p) := by
  unfold fkF at h
  cases hf : frP bs with
  | none => rw [hf] at h; simp at h
  | some r => exact ⟨r.1, r.2, rfl⟩
theorem fkF_cut {bs : List Int} {ls : List (List Int)} {p : Nat} (h : frP bs = some (ls, p)) : fkF (bs.take (bs.length - 1)) = -1 ∧ ∀ x, 0 ≤ x → x ≤ 255 → fkF (bs ++ [x]) = -1 := by
  obtain ⟨hby, _, _, _, _, _, _, hl, _, _, _⟩ := frP_is h
  have hd : byOk (bs.drop p) = true := byOk_all.2 fun x hx => byOk_all.1 hby x (List.mem_of_mem_drop hx)
  have hdl : (bs.drop p).length = 2 := by rw [List.length_drop]; omega
  constructor
  · have e : bs.take (bs.length - 1) = bs.take p ++ (bs.drop p).take 1 := by rw [← List.take_add]; congr 1; omega
    unfold fkF
    rw [e, frP_ext h (byOk_all.2 fun x hx => byOk_all.1 hd x (List.mem_of_mem_take hx)), if_neg (by rw [List.length_take]; omega)]
  · intro x h0 h1
    have e : bs ++ [x] = bs.take p ++ (bs.drop p ++ [x]) := by rw [← List.append_assoc, List.take_append_drop]
    unfold fkF
    rw [e, frP_ext h (byOk_app.2 ⟨hd, byOk_all.2 fun y hy => by simp at hy; omega⟩), if_neg (by rw [List.length_append]; simp; omega)]
theorem frameB_set (s : Nat) (xs : List Int) (z : Int) : (frameB s xs).set ((frameB s xs).length - 1) z = bodyB s xs ++ [(pairS xs).1, z] := by
  rw [frameB_body_len, frameB_body, show (bodyB s xs).length + 2 - 1 = (bodyB s xs).length + 1 by omega, List.set_append_right _ _ (by omega), Nat.add_sub_cancel_left]
  rfl
theorem frameB_take (s : Nat) (xs : List Int) : (frameB s xs).take ((frameB s xs).length - 1) = bodyB s xs ++ [(pairS xs).1] := by
  rw [frameB_body_len, frameB_body, show (bodyB s xs).length + 2 - 1 = (bodyB s xs).length + 1 by omega, List.take_length_add_append]
  rfl
theorem foF_none9 {bs : List Int} {most : Int} (h : frP bs = none) : foF bs most = ([], 1) := by unfold foF; rw [h]
theorem fo_lenD (bs : List Int) (n : Int) : (foF bs n).1.length ≤ 100000000 := by
  unfold foF
  cases frP bs with
  | none => simp
  | some r =>
    obtain ⟨ls, p⟩ := r
    simp only
    split
    · simp
    · split
      · simp only; omega
      · simp
end Go.Proofs.Ytamljhjbmeikiaa
