/- Joined texts: contracts and plain facts that the laws share. No condition. -/
import Derived.Test.YtamljhjbmeikiaaGPc
import Derived.Test.YtamljhjbmeikiaaGPb
import Derived.Test.YtamljhjbmeikiaaGCm
import Derived.Test.YtamljhjbmeikiaaGCh
import Derived.Deep.RegionHeld3
/- Streams of blocks: plain facts, no program in sight. -/
namespace Go.Proofs.Ytamljhjbmeikiaa
open Go Go.RowKit
/-- The blocks that are whole are read: what waits then, and the text. -/
def rdS : Nat → List Int → List Int → Option (List Int × List Int)
  | 0, _, _ => none
  | f + 1, wt, tx =>
    if stF wt = 0 then some (wt, tx)
    else
      match opF wt with
      | none => none
      | some (l, n) => if 120 < tx.length + l.length then none else rdS f (wt.drop n) (tx ++ l)
def rdF (wt tx : List Int) : Option (List Int × List Int) := rdS (wt.length + 1) wt tx
theorem rdS_fuel : ∀ (f g : Nat) (wt tx : List Int), wt.length < f → wt.length < g → rdS f wt tx = rdS g wt tx
  | 0, _, _, _, h, _ => by omega
  | _ + 1, 0, _, _, _, h => by omega
  | f + 1, g + 1, wt, tx, hf, hg => by
    rw [rdS, rdS]
    split
    · rfl
    · cases ho : opF wt with
      | none => rfl
      | some r =>
        obtain ⟨l, n⟩ := r
        simp only
        split
        · rfl
        · obtain ⟨_, _, _, _, _, hn, _, h2⟩ := op_split ho
          exact rdS_fuel f g _ _ (by rw [List.length_drop]; omega) (by rw [List.length_drop]; omega)
theorem rdF_stop {wt tx : List Int} (h : stF wt = 0) : rdF wt tx = some (wt, tx) := by unfold rdF; rw [rdS, if_pos h]
theorem rdF_bad {wt tx : List Int} (h : stF wt = 2) : rdF wt tx = none := by
  unfold rdF
  rw [rdS, if_neg (by rw [h]; decide)]
  have h3 := (st_open (bs := wt)).1
  cases ho : opF wt with
  | none => rfl
  | some r => rw [ho] at h3; have := h3.2 rfl; omega
theorem rdF_go {wt tx l : List Int} {n : Nat} (h : opF wt = some (l, n)) : rdF wt tx = if 120 < tx.length + l.length then none else rdF (wt.drop n) (tx ++ l) := by
  have h3 := (st_open (bs := wt)).1
  rw [h] at h3
  have h1 : stF wt = 1 := h3.2 rfl
  unfold rdF
  rw [rdS, if_neg (by rw [h1]; decide), h]
  simp only
  split
  · rfl
  · obtain ⟨_, _, _, _, _, hn, _, h2⟩ := op_split h
    exact rdS_fuel _ _ _ _ (by rw [List.length_drop]; omega) (by rw [List.length_drop]; omega)
theorem st_cases (wt : List Int) : (stF wt = 0 ∧ opF wt = none) ∨ (stF wt = 2 ∧ opF wt = none) ∨ (stF wt = 1 ∧ ∃ l n, opF wt = some (l, n) ∧ 2 ≤ n ∧ n ≤ wt.length ∧ l.length ≤ 40) := by
  obtain ⟨h1, h2, h3⟩ := st_open (bs := wt)
  cases ho : opF wt with
  | none =>
    rw [ho] at h1
    have : stF wt ≠ 1 := fun h => by cases h1.1 h
    rcases (show stF wt = 0 ∨ stF wt = 2 by omega) with h | h
    · exact .inl ⟨h, rfl⟩
    · exact .inr (.inl ⟨h, rfl⟩)
  | some r =>
    rw [ho] at h1
    obtain ⟨l, n⟩ := r
    obtain ⟨b, ha, _, _, _, hn, _, hn2⟩ := op_split ho
    exact .inr (.inr ⟨h1.2 rfl, l, n, rfl, hn2, hn, (listOk_iff'.1 (asL_ok ha).1).1⟩)
end Go.Proofs.Ytamljhjbmeikiaa
/- What a whole reading of a stream answers: plain facts, no program in sight. -/
namespace Go.Proofs.Ytamljhjbmeikiaa
open Go Go.RowKit
def saF (bs : List Int) : Option (List Int) :=
  if byOk bs = true then
    match rdF bs [] with
    | none => none
    | some (wt, tx) => if seF wt tx false = true then some tx else none
  else none
theorem saF_no {bs : List Int} (h : false = byOk bs) : saF bs = none := by unfold saF; rw [← h]; rfl
theorem seF_badF (xs ys : List Int) : seF xs ys true = false := by unfold seF; simp
theorem saF_off {bs xs ys : List Int} {bad : Bool} (h : true = byOk bs) (hn : bad = true → rdF bs [] = none) (hs : bad = false → rdF bs [] = some (xs, ys)) (hq : false = seF xs ys bad) : saF bs = none := by
  unfold saF
  rw [← h, if_pos rfl]
  cases bad with
  | true => rw [hn rfl]
  | false => rw [hs rfl]; simp only; rw [← hq]; rfl
theorem saF_on {bs xs ys : List Int} {bad : Bool} (h : true = byOk bs) (hs : bad = false → rdF bs [] = some (xs, ys)) (hq : true = seF xs ys bad) : saF bs = some ys := by
  unfold saF
  rw [← h, if_pos rfl]
  cases bad with
  | true => rw [seF_badF] at hq; cases hq
  | false => rw [hs rfl]; simp only; rw [← hq, if_pos rfl]
theorem sa_lenD (bs : List Int) : ((saF bs).getD []).length ≤ 100000000 := by
  unfold saF
  split
  · cases rdF bs [] with
    | none => simp
    | some p =>
      obtain ⟨wt, tx⟩ := p
      simp only
      split
      · rename_i h
        have ht : txOk tx = true := by
          cases hx : txOk tx with
          | true => rfl
          | false => unfold seF at h; rw [svF_no1 hx] at h; cases h
        have := (txOk_iff.1 ht).1
        simp only [Option.getD_some]
        omega
      · simp
  · simp
end Go.Proofs.Ytamljhjbmeikiaa
/- Contracts: the reference reads the blocks that are whole. No condition. -/
namespace Go.Proofs.Ytamljhjbmeikiaa
open Go Go.RowKit
def sLen (u : Option Value) : Nat := match u with
  | some (.slice _ n _) => n
  | _ => 0
def sOn (u : Option Value) : Nat := match u with
  | some (.bool true) => 0
  | _ => 1
def mSt (w : World) (b : Nat) : Nat := 2 * sLen (w.cell? ⟨b, 0, none⟩) + sOn (w.cell? ⟨b, 2, none⟩)
theorem mSt_is {w : World} {b : Nat} {A B : Option Addr} {n c m d : Nat} {q : Bool} {T : TypeId} (h : BX w b #[.slice A n c, .slice B m d, .bool q] T) : mSt w b = 2 * n + (if q = true then 0 else 1) := by
  unfold mSt
  rw [h.c0, h.c2]
  cases q <;> rfl
/-- Apart from both boxes. -/
def apart (A : Option Addr) (b : Nat) : Prop := ∀ g, blk A = some g → g ≠ b ∧ g ≠ b + 1
theorem OI.setB {w : World} {base c : Nat} {A : Option Addr} {xs : List Int} (h : OI w base A c xs) (b i : Nat) (v : Value) (hne : ∀ g, blk A = some g → g ≠ b) : OI (w.setCell ⟨b, i, none⟩ v) base A c xs :=
  OI.grown h (gb_setCell w ⟨b, i, none⟩ v) (fun g hg e => hne g hg (by injection e with e; exact e.symm))
def PRd (w : World) (base : Nat) (f : Option (List Int × List Int)) (e : Ending) (w' : World) : Prop :=
  ∃ A c xs B d ys bad, e = .returned (.agg #[.slice A xs.length c, .slice B ys.length d, .bool bad]) ∧ OI w' base A c xs ∧ OI w' base B d ys ∧ Hid (bad = true → f = none) ∧ Hid (bad = false → f = some (xs, ys)) ∧ ys.length ≤ 120 ∧ Below w.heap.size w w'
set_option maxRecDepth 100000 in
set_option maxHeartbeats 2000000 in
theorem l32Read_any (A : Option Addr) (c : Nat) (xs : List Int) (B : Option Addr) (d : Nat) (ys : List Int) (base : Nat) (w : World) (hA : OI w base A c xs) (hB : OI w base B d ys) (hb : base ≤ w.heap.size) (hn : xs.length ≤ 1099511627776) (hm : ys.length ≤ 120) :
    Calls Try.prog 91 #[.agg #[.slice A xs.length c, .slice B ys.length d, .bool false]] w (PRd w base (rdF xs ys)) := by
  have hbw0 := below_on (below_new w (.cells #[.slice A xs.length c, .slice B ys.length d, .bool false] 44)) (below_new (w.alloc (.cells #[.slice A xs.length c, .slice B ys.length d, .bool false] 44)) (.cells #[.slice none 0 0, .slice none 0 0, .bool false] 44))
  have S0 := (BX.new w #[.slice A xs.length c, .slice B ys.length d, .bool false] 44).alloc (.cells #[.slice none 0 0, .slice none 0 0, .bool false] 44)
  have R0 := BX.new (w.alloc (.cells #[.slice A xs.length c, .slice B ys.length d, .bool false] 44)) #[.slice none 0 0, .slice none 0 0, .bool false] 44
  rw [show (w.alloc (.cells #[.slice A xs.length c, .slice B ys.length d, .bool false] 44)).heap.size = w.heap.size + 1 by simp] at R0
  have hA0 := (hA.alloc (.cells #[.slice A xs.length c, .slice B ys.length d, .bool false] 44)).alloc (.cells #[.slice none 0 0, .slice none 0 0, .bool false] 44)
  have hB0 := (hB.alloc (.cells #[.slice A xs.length c, .slice B ys.length d, .bool false] 44)).alloc (.cells #[.slice none 0 0, .slice none 0 0, .bool false] 44)
  have HAP : Hid (apart A w.heap.size) := hid fun g hg => by have := (OI.lt hA hg).2; omega
  have HBP : Hid (apart B w.heap.size) := hid fun g hg => by have := (OI.lt hB hg).2; omega
  clear hA hB
  go_enter Try.func91, Try.ntmps91
  go_wp2_with fail
  go_loopw [3] (fun _ wr => ∃ (A' : Option Addr) (c' : Nat) (us : List Int) (B' : Option Addr) (d' : Nat) (vs : List Int) (bad : Bool), BX wr w.heap.size #[.slice A' us.length c', .slice B' vs.length d', .bool bad] 44 ∧ BX wr (w.heap.size + 1) #[.slice none 0 0, .slice none 0 0, .bool false] 44 ∧ OI wr base A' c' us ∧ OI wr base B' d' vs ∧ Hid (apart A' w.heap.size) ∧ Hid (apart B' w.heap.size) ∧ us.length ≤ xs.length ∧ vs.length ≤ 120 ∧ Hid (bad = true → rdF xs ys = none) ∧ Hid (bad = false → rdF xs ys = rdF us vs) ∧ Below w.heap.size w wr) (fun _ wr => mSt wr w.heap.size)
  case atStart => exact ⟨A, c, xs, B, d, ys, false, S0, R0, hA0, hB0, HAP, HBP, Nat.le_refl _, hm, hid (fun h => by cases h), hid (fun _ => rfl), hbw0⟩
  case round =>
    clear S0 R0 hA0 hB0 HAP HBP hbw0
    obtain ⟨A', c', us, B', d', vs, bad, S, R, hA, hB, HAP, HBP, hul, hvl, HT, HF, hbw⟩ := hrel
    obtain ⟨wo, rfl⟩ : ∃ wo : World, wo = wr := ⟨_, rfl⟩
    have hsS := S.lt
    have hsR := R.lt
    have HMS := hid (mSt_is S)
    cases bad with
    | true =>
      have HN : Hid (rdF xs ys = none) := hid (HT.out rfl)
      have s0 := S.c0
      have s1 := S.c1
      have s2 := S.c2
      have fs0 := S.frozen 0
      have fs1 := S.frozen 1
      have fs2 := S.frozen 2
      have r0 := R.c0
      have r1 := R.c1
      have r2 := R.c2
      have fr0 := R.frozen 0
      have fr1 := R.frozen 1
      have fr2 := R.frozen 2
      go_wp2_with fail
      have G := (((R.other (a := ⟨w.heap.size, 2, none⟩) (.bool true) (by simp)).other (a := ⟨w.heap.size, 0, none⟩) (.slice (some ⟨wo.heap.size, 0, none⟩) 0 0) (by simp)).set3 (.slice (some ⟨wo.heap.size, 0, none⟩) 0 0) (.slice B' vs.length d') (.bool true)).alloc (.cells #[] 3)
      have g0 := G.c0
      have g1 := G.c1
      have g2 := G.c2
      refine bodyPost_ret (v := .agg #[.slice (some ⟨wo.heap.size, 0, none⟩) 0 0, .slice B' vs.length d', .bool true]) (by simp [results, Try.results91, go_sem, g0, g1, g2]) rfl ?_
      have hsz1 : (((((wo.setCell ⟨w.heap.size, 2, none⟩ (.bool true)).setCell ⟨w.heap.size, 0, none⟩ (.slice (some ⟨wo.heap.size, 0, none⟩) 0 0)).setCell ⟨w.heap.size + 1, 0, none⟩ (.slice (some ⟨wo.heap.size, 0, none⟩) 0 0)).setCell ⟨w.heap.size + 1, 1, none⟩ (.slice B' vs.length d')).setCell ⟨w.heap.size + 1, 2, none⟩ (.bool true)).heap.size = wo.heap.size := by simp
      have hE := OI.empty (((((wo.setCell ⟨w.heap.size, 2, none⟩ (.bool true)).setCell ⟨w.heap.size, 0, none⟩ (.slice (some ⟨wo.heap.size, 0, none⟩) 0 0)).setCell ⟨w.heap.size + 1, 0, none⟩ (.slice (some ⟨wo.heap.size, 0, none⟩) 0 0)).setCell ⟨w.heap.size + 1, 1, none⟩ (.slice B' vs.length d')).setCell ⟨w.heap.size + 1, 2, none⟩ (.bool true)) base (by rw [hsz1]; omega)
      rw [hsz1] at hE
      have hk := (((((hB.setB w.heap.size 2 (.bool true) (fun g hg => (HBP.out g hg).1)).setB w.heap.size 0 (.slice (some ⟨wo.heap.size, 0, none⟩) 0 0) (fun g hg => (HBP.out g hg).1)).setB (w.heap.size + 1) 0 (.slice (some ⟨wo.heap.size, 0, none⟩) 0 0) (fun g hg => (HBP.out g hg).2)).setB (w.heap.size + 1) 1 (.slice B' vs.length d') (fun g hg => (HBP.out g hg).2)).setB (w.heap.size + 1) 2 (.bool true) (fun g hg => (HBP.out g hg).2)).alloc (.cells #[] 3)
      have hbS : Below w.heap.size w ((wo.setCell ⟨w.heap.size, 2, none⟩ (.bool true)).setCell ⟨w.heap.size, 0, none⟩ (.slice (some ⟨wo.heap.size, 0, none⟩) 0 0)) := (hbw.setCell (Nat.le_refl _) _).setCell (Nat.le_refl _) _
      exact ⟨_, 0, [], B', d', vs, true, rfl, hE, hk, hid (fun _ => HN.out), hid (fun h => by cases h), hvl, below_on (below_set3 hbS (by omega) _ _ _) (below_new _ _)⟩
    | false =>
      have HF1 : Hid (rdF xs ys = rdF us vs) := hid (HF.out rfl)
      have s0 := S.c0
      have s1 := S.c1
      have s2 := S.c2
      have fs0 := S.frozen 0
      have fs1 := S.frozen 1
      have fs2 := S.frozen 2
      have r0 := R.c0
      have r1 := R.c1
      have r2 := R.c2
      have fr0 := R.frozen 0
      have fr1 := R.frozen 1
      have fr2 := R.frozen 2
      go_wp2_with fail
      refine (sBlockState_any _ _ _ _ hA.ri).mono ?_
      rintro e w1 ⟨m, hm', rfl, hb1⟩
      have S1 := S.below hb1
      have R1 := R.below hb1
      have hA1 := hA.below hb1
      have hB1 := hB.below hb1
      have hbw1 := below_on hbw hb1
      have hw1 := hb1.size
      clear s0 s1 s2 fs0 fs1 fs2 r0 r1 r2 fr0 fr1 fr2 S R hA hB hbw hb1
      have s0 := S1.c0
      have s1 := S1.c1
      have s2 := S1.c2
      have fs0 := S1.frozen 0
      have fs1 := S1.frozen 1
      have fs2 := S1.frozen 2
      have r0 := R1.c0
      have r1 := R1.c1
      have r2 := R1.c2
      have fr0 := R1.frozen 0
      have fr1 := R1.frozen 1
      have fr2 := R1.frozen 2
      rcases st_cases us with ⟨h0, hop⟩ | ⟨h0, hop⟩ | ⟨h0, l, n, hop, hn2, hnl, hl40⟩
      · obtain rfl : m = 0 := hm'.out.trans h0
        have H0 := hid h0
        have HN : Hid (rdF xs ys = some (us, vs)) := by unfold Hid; rw [HF1.out]; exact rdF_stop h0
        clear hm' h0 hop
        go_wp2_with fail
        refine (sBlockState_any _ _ _ _ hA1.ri).mono ?_
        rintro e w2 ⟨m, hm', rfl, hb2⟩
        obtain rfl : m = 0 := hm'.out.trans H0.out
        have S2 := S1.below hb2
        have R2 := R1.below hb2
        have hA2 := hA1.below hb2
        have hB2 := hB1.below hb2
        have hbw2 := below_on hbw1 hb2
        have hS2 := S2.lt
        have hR2 := R2.lt
        clear s0 s1 s2 fs0 fs1 fs2 r0 r1 r2 fr0 fr1 fr2 S1 R1 hA1 hB1 hbw1 hb2 hm'
        have s0 := S2.c0
        have s1 := S2.c1
        have s2 := S2.c2
        have fs0 := S2.frozen 0
        have fs1 := S2.frozen 1
        have fs2 := S2.frozen 2
        have r0 := R2.c0
        have r1 := R2.c1
        have r2 := R2.c2
        have fr0 := R2.frozen 0
        have fr1 := R2.frozen 1
        have fr2 := R2.frozen 2
        go_wp2_with fail
        have G := R2.set3 (.slice A' us.length c') (.slice B' vs.length d') (.bool false)
        have g0 := G.c0
        have g1 := G.c1
        have g2 := G.c2
        refine bodyPost_ret (v := .agg #[.slice A' us.length c', .slice B' vs.length d', .bool false]) (by simp [results, Try.results91, go_sem, g0, g1, g2]) rfl ?_
        have hk : ∀ {E : Option Addr} {k : Nat} {ws : List Int}, apart E w.heap.size → OI w2 base E k ws → OI (((w2.setCell ⟨w.heap.size + 1, 0, none⟩ (.slice A' us.length c')).setCell ⟨w.heap.size + 1, 1, none⟩ (.slice B' vs.length d')).setCell ⟨w.heap.size + 1, 2, none⟩ (.bool false)) base E k ws := fun ha h => ((h.setB _ _ _ (fun g hg => (ha g hg).2)).setB _ _ _ (fun g hg => (ha g hg).2)).setB _ _ _ (fun g hg => (ha g hg).2)
        exact ⟨A', c', us, B', d', vs, false, rfl, hk HAP.out hA2, hk HBP.out hB2, hid (fun h => by cases h), hid (fun _ => HN.out), hvl, below_set3 hbw2 (by omega) _ _ _⟩
      · obtain rfl : m = 2 := hm'.out.trans h0
        have H0 := hid h0
        have HN : Hid (rdF xs ys = none) := by unfold Hid; rw [HF1.out]; exact rdF_bad h0
        clear hm' h0 hop
        go_wp2_with fail
        refine (sBlockState_any _ _ _ _ hA1.ri).mono ?_
        rintro e w2 ⟨m, hm', rfl, hb2⟩
        obtain rfl : m = 2 := hm'.out.trans H0.out
        have S2 := S1.below hb2
        have R2 := R1.below hb2
        have hA2 := hA1.below hb2
        have hB2 := hB1.below hb2
        have hbw2 := below_on hbw1 hb2
        have hS2 := S2.lt
        have hR2 := R2.lt
        have hw2 := hb2.size
        clear s0 s1 s2 fs0 fs1 fs2 r0 r1 r2 fr0 fr1 fr2 S1 R1 hA1 hB1 hbw1 hb2 hm'
        have s0 := S2.c0
        have s1 := S2.c1
        have s2 := S2.c2
        have fs0 := S2.frozen 0
        have fs1 := S2.frozen 1
        have fs2 := S2.frozen 2
        have r0 := R2.c0
        have r1 := R2.c1
        have r2 := R2.c2
        have fr0 := R2.frozen 0
        have fr1 := R2.frozen 1
        have fr2 := R2.frozen 2
        go_wp2_with fail
        have G := (((R2.other (a := ⟨w.heap.size, 2, none⟩) (.bool true) (by simp)).other (a := ⟨w.heap.size, 0, none⟩) (.slice (some ⟨w2.heap.size, 0, none⟩) 0 0) (by simp)).set3 (.slice (some ⟨w2.heap.size, 0, none⟩) 0 0) (.slice B' vs.length d') (.bool true)).alloc (.cells #[] 3)
        have g0 := G.c0
        have g1 := G.c1
        have g2 := G.c2
        refine bodyPost_ret (v := .agg #[.slice (some ⟨w2.heap.size, 0, none⟩) 0 0, .slice B' vs.length d', .bool true]) (by simp [results, Try.results91, go_sem, g0, g1, g2]) rfl ?_
        have hsz1 : (((((w2.setCell ⟨w.heap.size, 2, none⟩ (.bool true)).setCell ⟨w.heap.size, 0, none⟩ (.slice (some ⟨w2.heap.size, 0, none⟩) 0 0)).setCell ⟨w.heap.size + 1, 0, none⟩ (.slice (some ⟨w2.heap.size, 0, none⟩) 0 0)).setCell ⟨w.heap.size + 1, 1, none⟩ (.slice B' vs.length d')).setCell ⟨w.heap.size + 1, 2, none⟩ (.bool true)).heap.size = w2.heap.size := by simp
        have hE := OI.empty (((((w2.setCell ⟨w.heap.size, 2, none⟩ (.bool true)).setCell ⟨w.heap.size, 0, none⟩ (.slice (some ⟨w2.heap.size, 0, none⟩) 0 0)).setCell ⟨w.heap.size + 1, 0, none⟩ (.slice (some ⟨w2.heap.size, 0, none⟩) 0 0)).setCell ⟨w.heap.size + 1, 1, none⟩ (.slice B' vs.length d')).setCell ⟨w.heap.size + 1, 2, none⟩ (.bool true)) base (by rw [hsz1]; omega)
        rw [hsz1] at hE
        have hk := (((((hB2.setB w.heap.size 2 (.bool true) (fun g hg => (HBP.out g hg).1)).setB w.heap.size 0 (.slice (some ⟨w2.heap.size, 0, none⟩) 0 0) (fun g hg => (HBP.out g hg).1)).setB (w.heap.size + 1) 0 (.slice (some ⟨w2.heap.size, 0, none⟩) 0 0) (fun g hg => (HBP.out g hg).2)).setB (w.heap.size + 1) 1 (.slice B' vs.length d') (fun g hg => (HBP.out g hg).2)).setB (w.heap.size + 1) 2 (.bool true) (fun g hg => (HBP.out g hg).2)).alloc (.cells #[] 3)
        have hbS : Below w.heap.size w ((w2.setCell ⟨w.heap.size, 2, none⟩ (.bool true)).setCell ⟨w.heap.size, 0, none⟩ (.slice (some ⟨w2.heap.size, 0, none⟩) 0 0)) := (hbw2.setCell (Nat.le_refl _) _).setCell (Nat.le_refl _) _
        exact ⟨_, 0, [], B', d', vs, true, rfl, hE, hk, hid (fun _ => HN.out), hid (fun h => by cases h), hvl, below_on (below_set3 hbS (by omega) _ _ _) (below_new _ _)⟩
      · obtain rfl : m = 1 := hm'.out.trans h0
        have HOP := hid hop
        have HGO : Hid (rdF us vs = if 120 < vs.length + l.length then none else rdF (us.drop n) (vs ++ l)) := hid (rdF_go hop)
        clear hm' h0 hop
        go_wp2_with fail
        refine (sBlockOpen_any _ _ _ _ hA1.ri).mono ?_
        rintro _ w2 ⟨A2, c2, ls, n2, ok, hls, hn2', hok, hol, rfl, hb2⟩
        rw [HOP.out] at hls hn2' hok
        obtain rfl : ls = l := hls.out
        obtain rfl : n2 = (n : Int) := hn2'.out
        have S2 := S1.below hb2
        have R2 := R1.below hb2
        have hA2 := hA1.below hb2
        have hB2 := hB1.below hb2
        have hbw2 := below_on hbw1 hb2
        have hS2 := S2.lt
        have hR2 := R2.lt
        have hw2 := hb2.size
        clear s0 s1 s2 fs0 fs1 fs2 r0 r1 r2 fr0 fr1 fr2 S1 R1 hA1 hB1 hbw1 hb2 hls hn2' hok
        have s0 := S2.c0
        have s1 := S2.c1
        have s2 := S2.c2
        have fs0 := S2.frozen 0
        have fs1 := S2.frozen 1
        have fs2 := S2.frozen 2
        have r0 := R2.c0
        have r1 := R2.c1
        have r2 := R2.c2
        have fr0 := R2.frozen 0
        have fr1 := R2.frozen 1
        have fr2 := R2.frozen 2
        by_cases hlong : 120 < vs.length + ls.length
        · have hg : (vs.length : Int) + (ls.length : Int) > 120 := by omega
          have HN : Hid (rdF xs ys = none) := by unfold Hid; rw [HF1.out, HGO.out, if_pos hlong]
          clear hlong
          go_wp2_with fail
          have S3 : BX (w2.setCell ⟨w.heap.size, 2, none⟩ (.bool true)) w.heap.size #[.slice A' us.length c', .slice B' vs.length d', .bool true] 44 := by simpa using S2.set 2 (.bool true)
          have R3 := R2.other (a := ⟨w.heap.size, 2, none⟩) (.bool true) (by simp)
          have hA3 := hA2.setB w.heap.size 2 (.bool true) (fun g hg => (HAP.out g hg).1)
          have hB3 := hB2.setB w.heap.size 2 (.bool true) (fun g hg => (HBP.out g hg).1)
          have hbw3 : Below w.heap.size w (w2.setCell ⟨w.heap.size, 2, none⟩ (.bool true)) := hbw2.setCell (Nat.le_refl _) _
          have HM3 := hid (mSt_is S3)
          clear s0 s1 s2 fs0 fs1 fs2 r0 r1 r2 fr0 fr1 fr2
          go_roundw
          case rel => exact ⟨A', c', us, B', d', vs, true, S3, R3, hA3, hB3, HAP, HBP, hul, hvl, hid (fun _ => HN.out), hid (fun h => by cases h), hbw3⟩
          case measure => rw [HM3.out, HMS.out]; simp
        · have hg : ¬ (vs.length : Int) + (ls.length : Int) > 120 := by omega
          have HN : Hid (rdF xs ys = rdF (us.drop n) (vs ++ ls)) := by unfold Hid; rw [HF1.out, HGO.out, if_neg hlong]
          go_upto_region 6 with (first | (at_builtin; refine wpl_app (xs := ts) (ys := ls) intT rfl _ _ rfl rfl hou rfl (hol.below hbw5).ri (by omega) (by omega) ?_; intro A6 c6 w6 qs hq ho6 hg6 hat6; clear hat6; have hbw6 := OI.belowOwn hbw5 hou hg6 (Nat.le_refl _); have S6 := S2.below hbw6; have t0 := S6.c0; have t1 := S6.c1; have t2 := S6.c2; have ft0 := S6.frozen 0; have ft1 := S6.frozen 1; have ft2 := S6.frozen 2) | (at_builtin; refine wpl_app (xs := []) (ys := vs) intT rfl _ _ rfl rfl (OI.empty w2 w2.heap.size (Nat.le_refl _)) rfl (hB2.ri.alloc _) (by simp; omega) (by simp) ?_; intro A5 c5 w5 ts ht hou hg5 hat5; clear hat5; have hbw5 := OI.belowOwn (below_new w2 (.cells #[] 3)) (OI.empty w2 w2.heap.size (Nat.le_refl _)) hg5 (Nat.le_refl _); have htl : ts.length ≤ 120 := (by rw [ht.out]; simpa using hvl); have hs5 := hbw5.size))
          have HQ : Hid (qs = vs ++ ls) := by unfold Hid; rw [hq.out, ht.out]; rfl
          have hql : qs.length ≤ 120 := by rw [HQ.out, List.length_append]; omega
          have hs6 := hbw6.size
          have S7 : BX (w6.setCell ⟨w.heap.size, 1, none⟩ (.slice A6 qs.length c6)) w.heap.size #[.slice A' us.length c', .slice A6 qs.length c6, .bool false] 44 := by simpa using S6.set 1 (.slice A6 qs.length c6)
          have R7 := (R2.below hbw6).other (a := ⟨w.heap.size, 1, none⟩) (.slice A6 qs.length c6) (by simp)
          have hA7 := (hA2.below hbw6).setB w.heap.size 1 (.slice A6 qs.length c6) (fun g hg => (HAP.out g hg).1)
          have HQP : Hid (apart A6 w.heap.size) := hid fun g hg => by have := (OI.lt ho6 hg).1; omega
          have hQ7 := (ho6.mono (show base ≤ w2.heap.size by omega)).setB w.heap.size 1 (.slice A6 qs.length c6) (fun g hg => (HQP.out g hg).1)
          have hbw7 : Below w.heap.size w (w6.setCell ⟨w.heap.size, 1, none⟩ (.slice A6 qs.length c6)) := (below_on hbw2 hbw6).setCell (Nat.le_refl _) _
          have hsz7 : w6.heap.size ≤ (w6.setCell ⟨w.heap.size, 1, none⟩ (.slice A6 qs.length c6)).heap.size := by simp
          clear s0 s1 s2 fs0 fs1 fs2 r0 r1 r2 fr0 fr1 fr2 t0 t1 t2 ft0 ft1 ft2 S6 S2 R2 hA2 hB2 hbw2 ho6 hg6 hbw6 hou hg5 hbw5 hol hq ht hlong
          generalize w6.setCell ⟨w.heap.size, 1, none⟩ (.slice A6 qs.length c6) = w7 at *
          have hS7 := S7.lt
          have hR7 := R7.lt
          have s0 := S7.c0
          have s1 := S7.c1
          have s2 := S7.c2
          have fs0 := S7.frozen 0
          have fs1 := S7.frozen 1
          have fs2 := S7.frozen 2
          have r0 := R7.c0
          have r1 := R7.c1
          have r2 := R7.c2
          have fr0 := R7.frozen 0
          have fr1 := R7.frozen 1
          have fr2 := R7.frozen 2
          go_wp2_with (first | (at_builtin; refine wpl_app (xs := []) (ys := zs) intT rfl _ _ rfl rfl (OI.empty w7 w7.heap.size (Nat.le_refl _)) rfl hr3 (by simp; omega) (by simp) ?_; intro A8 c8 w8 ps hp ho8 hg8 hat8; clear hat8; have hbw8 := OI.belowOwn (below_new w7 (.cells #[] 3)) (OI.empty w7 w7.heap.size (Nat.le_refl _)) hg8 (Nat.le_refl _); have S8 := S7.below hbw8; have t0 := S8.c0; have t1 := S8.c1; have t2 := S8.c2; have ft0 := S8.frozen 0; have ft1 := S8.frozen 1; have ft2 := S8.frozen 2) | (refine wpl_cutI intT rfl _ _ _ rfl rfl (hA7.ri.alloc _) n us.length ⟨_, _, rfl, rfl⟩ rfl hnl (Nat.le_refl _) ?_; intro A9 c9 zs hzs hr3 hb3 hlz1 hlz2))
          have HPS : Hid (ps = us.drop n) := by unfold Hid; rw [hp.out, hzs.out, List.take_of_length_le (Nat.le_refl _)]; rfl
          have hpl : ps.length + 2 ≤ us.length := by rw [HPS.out, List.length_drop]; omega
          have S9 : BX (w8.setCell ⟨w.heap.size, 0, none⟩ (.slice A8 ps.length c8)) w.heap.size #[.slice A8 ps.length c8, .slice A6 qs.length c6, .bool false] 44 := by simpa using S8.set 0 (.slice A8 ps.length c8)
          have R9 := (R7.below hbw8).other (a := ⟨w.heap.size, 0, none⟩) (.slice A8 ps.length c8) (by simp)
          have HPP : Hid (apart A8 w.heap.size) := hid fun g hg => by have := (OI.lt ho8 hg).1; omega
          have hA9 := (ho8.mono (show base ≤ w7.heap.size by omega)).setB w.heap.size 0 (.slice A8 ps.length c8) (fun g hg => (HPP.out g hg).1)
          have hQ9 := (hQ7.below hbw8).setB w.heap.size 0 (.slice A8 ps.length c8) (fun g hg => (HQP.out g hg).1)
          have hbw9 : Below w.heap.size w (w8.setCell ⟨w.heap.size, 0, none⟩ (.slice A8 ps.length c8)) := (below_on hbw7 hbw8).setCell (Nat.le_refl _) _
          have HM9 := hid (mSt_is S9)
          have HN9 : Hid (rdF xs ys = rdF ps qs) := by unfold Hid; rw [HN.out, HPS.out, HQ.out]
          have hpx : ps.length ≤ xs.length := by omega
          clear s0 s1 s2 fs0 fs1 fs2 r0 r1 r2 fr0 fr1 fr2 t0 t1 t2 ft0 ft1 ft2 S7 S8 R7 hA7 hQ7 hbw7 hbw8 hr3 hb3 hzs hp ho8 hg8
          go_roundw
          case rel => exact ⟨A8, c8, ps, A6, c6, qs, false, S9, R9, hA9, hQ9, HPP, HQP, hpx, hql, hid (fun h => by cases h), hid (fun _ => HN9.out), hbw9⟩
          case measure => rw [HM9.out, HMS.out]; simp; omega
end Go.Proofs.Ytamljhjbmeikiaa
/- Readers whose lists are empty, apart from each other: what the walks of StreamFeed share. No condition. -/
namespace Go.Proofs.Ytamljhjbmeikiaa
open Go Go.RowKit
theorem RI.nil (w : World) (A : Option Addr) (c : Nat) (hc : c ≤ 1000) : RI w A c [] := RG.nil w 1 A c (by unfold maxLen; omega)
theorem sv_nil : svF [] [] false = true := by decide
/-- A reader's box at bx, its lists empty, all apart. -/
def PX (w wx : World) (bx : Nat) (A9 : Option Addr) (c9 : Nat) (Ab : Option Addr) (cb : Nat) : Prop :=
  BX wx bx #[.slice A9 0 c9, .slice Ab 0 cb, .bool false] 44 ∧ BX wx (w.heap.size + 1) #[.slice none 0 0, .slice none 0 0, .bool false] 44 ∧ BX wx w.heap.size #[.slice none 0 0, .slice none 0 0, .bool false] 44 ∧ OI wx (w.heap.size + 2) A9 c9 [] ∧ OI wx (w.heap.size + 2) Ab cb [] ∧ w.heap.size + 2 ≤ bx ∧
    Hid (∀ g, blk A9 = some g → g ≠ bx) ∧ Hid (∀ g, blk Ab = some g → g ≠ bx ∧ blk A9 ≠ some g) ∧ Below w.heap.size w wx
theorem BX.keepRow9 {w w' : World} {b : Nat} {vs : Array Value} {T : TypeId} (h : BX w b vs T) {row : Option Nat} (hg : w.grownBy w' row) (hne : row ≠ some b) : BX w' b vs T := (hg.block b h.lt (fun e => hne e.symm)).trans h
def PFeed (w : World) (bs : List Int) (e : Ending) (w' : World) : Prop :=
  ∃ A c xs B d ys bad ok, e = .returned (.tuple #[.agg #[.slice A xs.length c, .slice B ys.length d, .bool bad], .bool ok]) ∧ Hid (ok = byOk bs) ∧ OI w' w.heap.size A c xs ∧ OI w' w.heap.size B d ys ∧ Hid (ok = true → bad = true → rdF bs [] = none) ∧ Hid (ok = true → bad = false → rdF bs [] = some (xs, ys)) ∧ Below w.heap.size w w'
theorem PX_new {w wb : World} {A9 : Option Addr} {c9 : Nat} {Ab : Option Addr} {cb : Nat} (hR : BX wb (w.heap.size + 1) #[.slice none 0 0, .slice none 0 0, .bool false] 44) (hS : BX wb w.heap.size #[.slice none 0 0, .slice none 0 0, .bool false] 44) (h9 : OI wb (w.heap.size + 2) A9 c9 []) (hb : OI wb (w.heap.size + 2) Ab cb []) (hd : ∀ g, blk Ab = some g → blk A9 ≠ some g) (hw : Below w.heap.size w wb) :
    PX w (wb.alloc (.cells #[.slice A9 0 c9, .slice Ab 0 cb, .bool false] 44)) wb.heap.size A9 c9 Ab cb := by
  have hr := hR.lt
  refine ⟨BX.new _ _ _, hR.alloc _, hS.alloc _, h9.alloc _, hb.alloc _, by omega, hid fun g hg => ?_, hid fun g hg => ⟨?_, hd g hg⟩, below_on hw (below_new _ _)⟩
  · have := (OI.lt h9 hg).2; omega
  · have := (OI.lt hb hg).2; omega
theorem PX_set {w wb : World} {bx : Nat} {A9 : Option Addr} {c9 : Nat} {Ab : Option Addr} {cb : Nat} (hX : BX wb bx #[.slice none 0 0, .slice none 0 0, .bool false] 44) (hbx : w.heap.size + 2 ≤ bx) (hR : BX wb (w.heap.size + 1) #[.slice none 0 0, .slice none 0 0, .bool false] 44) (hS : BX wb w.heap.size #[.slice none 0 0, .slice none 0 0, .bool false] 44) (h9 : OI wb (w.heap.size + 2) A9 c9 []) (hb : OI wb (w.heap.size + 2) Ab cb []) (h9x : ∀ g, blk A9 = some g → g ≠ bx) (hd : ∀ g, blk Ab = some g → g ≠ bx ∧ blk A9 ≠ some g) (hw : Below w.heap.size w wb) :
    PX w (((wb.setCell ⟨bx, 0, none⟩ (.slice A9 0 c9)).setCell ⟨bx, 1, none⟩ (.slice Ab 0 cb)).setCell ⟨bx, 2, none⟩ (.bool false)) bx A9 c9 Ab cb := by
  have hg := gb_set3 wb bx (.slice A9 0 c9) (.slice Ab 0 cb) (.bool false)
  exact ⟨hX.set3 _ _ _, hR.other3 _ _ _ (by omega), hS.other3 _ _ _ (by omega), OI.grown h9 hg (fun g h e => h9x g h (by injection e with e; exact e.symm)), OI.grown hb hg (fun g h e => (hd g h).1 (by injection e with e; exact e.symm)), hbx, hid h9x, hid hd, below_set3 hw (by omega) _ _ _⟩
end Go.Proofs.Ytamljhjbmeikiaa
/- Contracts: the program feeds an empty reader. No condition. -/
namespace Go.Proofs.Ytamljhjbmeikiaa
open Go Go.RowKit
set_option maxRecDepth 100000 in
set_option maxHeartbeats 4000000 in
theorem StreamFeed_any (A : Option Addr) (c : Nat) (bs : List Int) (w : World) (hr : RI w A c bs) (hn : bs.length ≤ 1048576) :
    Calls Try.prog 61 #[.agg #[.slice none 0 0, .slice none 0 0, .bool false], .slice A bs.length c] w (PFeed w bs) := by
  have hbw0 := below_on (below_new w (.cells #[.slice none 0 0, .slice none 0 0, .bool false] 44)) (below_new (w.alloc (.cells #[.slice none 0 0, .slice none 0 0, .bool false] 44)) (.cells #[.slice none 0 0, .slice none 0 0, .bool false] 44))
  have S0 := (BX.new w #[.slice none 0 0, .slice none 0 0, .bool false] 44).alloc (.cells #[.slice none 0 0, .slice none 0 0, .bool false] 44)
  have R0 := BX.new (w.alloc (.cells #[.slice none 0 0, .slice none 0 0, .bool false] 44)) #[.slice none 0 0, .slice none 0 0, .bool false] 44
  rw [show (w.alloc (.cells #[.slice none 0 0, .slice none 0 0, .bool false] 44)).heap.size = w.heap.size + 1 by simp] at R0
  go_enter Try.func61, Try.ntmps61
  go_wp2_with fail
  refine (StreamValid_any none 0 [] none 0 [] false _ (RI.nil _ _ _ (by omega)) (RI.nil _ _ _ (by omega))).mono ?_
  rintro e w1 ⟨q, hq, rfl, hb1⟩
  obtain rfl : q = true := hq.out.trans sv_nil
  have S1 := S0.below hb1
  have R1 := R0.below hb1
  have hbw1 := below_on hbw0 hb1
  clear hq S0 R0 hbw0 hb1
  go_wp2_with fail
  refine (bytesOk_any _ _ _ _ (hr.below hbw1)).mono ?_
  rintro e w' ⟨q, hq, rfl, rfl⟩
  cases q with
  | false =>
    have hr1 := R1.lt
    have r0 := R1.c0
    have r1 := R1.c1
    have r2 := R1.c2
    have fr0 := R1.frozen 0
    have fr1 := R1.frozen 1
    have fr2 := R1.frozen 2
    go_wp2_with fail
    have G := R1.set3 (.slice none 0 0) (.slice none 0 0) (.bool false)
    have g0 := G.c0
    have g1 := G.c1
    have g2 := G.c2
    refine bodyPost_ret (v := .tuple #[.agg #[.slice none 0 0, .slice none 0 0, .bool false], .bool false]) (by simp [results, Try.results61, go_sem, g0, g1, g2]) rfl ?_
    exact ⟨none, 0, [], none, 0, [], false, false, rfl, hq, OG.nil _ _ _ _, OG.nil _ _ _ _, hid (fun h => by cases h), hid (fun h => by cases h), below_set3 hbw1 (by omega) _ _ _⟩
  | true =>
  have HB : Hid (byOk bs = true) := hid hq.out.symm
  have hs1 := S1.lt
  have hr1 := R1.lt
  have s10 := S1.c0
  have s11 := S1.c1
  have s12 := S1.c2
  have sd0 := S1.drew.c0
  have sd1 := S1.drew.c1
  have sd2 := S1.drew.c2
  have sa := S1.alloc (.cells #[.slice none 0 0, .slice none 0 0, .bool false] 44)
  have sa0 := sa.c0
  have sa1 := sa.c1
  have sa2 := sa.c2
  clear hq
  go_upto_region 3 with fail
  go_cut [6] from 20 to 28 (fun v wx => ∃ (bx : Nat) (A9 : Option Addr) (c9 : Nat) (Ab : Option Addr) (cb : Nat), v = .pointer (some ⟨bx, 0, none⟩) ∧ PX w wx bx A9 c9 Ab cb)
  case first => 
    go_region_held3 (fun w' => w'.cell? ⟨w.heap.size, 0, none⟩ = some (.slice none 0 0) ∧ w'.cell? ⟨w.heap.size, 1, none⟩ = some (.slice none 0 0) ∧ w'.cell? ⟨w.heap.size, 2, none⟩ = some (.bool false)) (first | exact ⟨by assumption, by assumption, by assumption⟩ | go_keep) (first | (go_at_call 42; have hXg := X9; have hGate := ho9; refine (cloned_any _ _ [] _ (RI.nil _ _ _ (by omega)) (by simp)).mono ?_; rintro e wb ⟨Ab, cb, zb, hzb, hob, rfl, hbb⟩; have hbz : zb = [] := hzb.out; subst hbz; have Rb : BX wb (w.heap.size + 1) #[.slice none 0 0, .slice none 0 0, .bool false] 44 := BX.below (by repeat (first | assumption | refine BX.drew ?_ | refine BX.alloc ?_ _)) hbb; have Sb : BX wb w.heap.size #[.slice none 0 0, .slice none 0 0, .bool false] 44 := BX.below (by repeat (first | assumption | refine BX.drew ?_ | refine BX.alloc ?_ _)) hbb; have hwb : Below w.heap.size w wb := below_on (by repeat (first | assumption | refine Below.drew ?_ | refine below_on ?_ (below_new _ _))) hbb; have hSb := Sb.lt; have hRb := Rb.lt; have hPb := hid (fun g (hg : blk Ab = some g) => OI.lt hob hg); have hQb := hbb.size; have hOb9 : OI wb (w.heap.size + 2) A9 c9 [] := OI.below (by repeat (first | assumption | refine OI.drew ?_ | refine OI.alloc ?_ _)) hbb; have hObb := hob.mono (show w.heap.size + 2 ≤ _ from (by first | omega | (simp; omega))); have sb0 := Sb.c0; have sb1 := Sb.c1; have sb2 := Sb.c2; have Xb : BX wb w1.heap.size #[.slice none 0 0, .slice none 0 0, .bool false] 44 := BX.below (by repeat (first | assumption | refine BX.drew ?_ | refine BX.alloc ?_ _)) hbb; have xb0 := Xb.c0; have xb1 := Xb.c1; have xb2 := Xb.c2; have fx0 := Xb.frozen 0; have fx1 := Xb.frozen 1; have fx2 := Xb.frozen 2; have hXb := Xb.lt; have Sk := Sb.other3 (b := w1.heap.size) (.slice A9 0 c9) (.slice Ab 0 cb) (.bool false) (by omega); have sk0 := Sk.c0; have sk1 := Sk.c1; have sk2 := Sk.c2) | (go_at_call 42; have hGate := ho9; (with_reducible show Calls _ _ _ (World.alloc _ _) _); refine (cloned_any _ _ [] _ (RI.nil _ _ _ (by omega)) (by simp)).mono ?_; rintro e wb ⟨Ab, cb, zb, hzb, hob, rfl, hbb⟩; have hbz : zb = [] := hzb.out; subst hbz; have Rb : BX wb (w.heap.size + 1) #[.slice none 0 0, .slice none 0 0, .bool false] 44 := BX.below (by repeat (first | assumption | refine BX.drew ?_ | refine BX.alloc ?_ _)) hbb; have Sb : BX wb w.heap.size #[.slice none 0 0, .slice none 0 0, .bool false] 44 := BX.below (by repeat (first | assumption | refine BX.drew ?_ | refine BX.alloc ?_ _)) hbb; have hwb : Below w.heap.size w wb := below_on (by repeat (first | assumption | refine Below.drew ?_ | refine below_on ?_ (below_new _ _))) hbb; have hSb := Sb.lt; have hRb := Rb.lt; have hPb := hid (fun g (hg : blk Ab = some g) => OI.lt hob hg); have hQb := hbb.size; have hOb9 : OI wb (w.heap.size + 2) A9 c9 [] := OI.below (by repeat (first | assumption | refine OI.drew ?_ | refine OI.alloc ?_ _)) hbb; have hObb := hob.mono (show w.heap.size + 2 ≤ _ from (by first | omega | (simp; omega))); have sb0 := Sb.c0; have sb1 := Sb.c1; have sb2 := Sb.c2; have Xb : BX wb w9.heap.size #[.slice none 0 0, .slice none 0 0, .bool false] 44 := BX.below (BX.new _ _ _) hbb; have xb0 := Xb.c0; have xb1 := Xb.c1; have xb2 := Xb.c2; have fx0 := Xb.frozen 0; have fx1 := Xb.frozen 1; have fx2 := Xb.frozen 2; have hXb := Xb.lt; have Sk := Sb.other3 (b := w9.heap.size) (.slice A9 0 c9) (.slice Ab 0 cb) (.bool false) (by omega); have sk0 := Sk.c0; have sk1 := Sk.c1; have sk2 := Sk.c2) | (go_at_call 42; have hGate := ho9; refine (cloned_any _ _ [] _ (RI.nil _ _ _ (by omega)) (by simp)).mono ?_; rintro e wb ⟨Ab, cb, zb, hzb, hob, rfl, hbb⟩; have hbz : zb = [] := hzb.out; subst hbz; have Rb : BX wb (w.heap.size + 1) #[.slice none 0 0, .slice none 0 0, .bool false] 44 := BX.below (by repeat (first | assumption | refine BX.drew ?_ | refine BX.alloc ?_ _)) hbb; have Sb : BX wb w.heap.size #[.slice none 0 0, .slice none 0 0, .bool false] 44 := BX.below (by repeat (first | assumption | refine BX.drew ?_ | refine BX.alloc ?_ _)) hbb; have hwb : Below w.heap.size w wb := below_on (by repeat (first | assumption | refine Below.drew ?_ | refine below_on ?_ (below_new _ _))) hbb; have hSb := Sb.lt; have hRb := Rb.lt; have hPb := hid (fun g (hg : blk Ab = some g) => OI.lt hob hg); have hQb := hbb.size; have hOb9 : OI wb (w.heap.size + 2) A9 c9 [] := OI.below (by repeat (first | assumption | refine OI.drew ?_ | refine OI.alloc ?_ _)) hbb; have hObb := hob.mono (show w.heap.size + 2 ≤ _ from (by first | omega | (simp; omega))); have sb0 := Sb.c0; have sb1 := Sb.c1; have sb2 := Sb.c2; have se := Sb.alloc (.cells #[.slice none 0 0, .slice none 0 0, .bool false] 44); have se0 := se.c0; have se1 := se.c1; have se2 := se.c2; have sf := Sb.alloc (.cells #[.slice A9 0 c9, .slice Ab 0 cb, .bool false] 44); have sf0 := sf.c0; have sf1 := sf.c1; have sf2 := sf.c2) | (go_at_call 42; (with_reducible show Calls _ _ _ (World.drew (World.alloc _ _)) _); refine (cloned_any _ _ [] _ (RI.nil _ _ _ (by omega)) (by simp)).mono ?_; rintro e w9 ⟨A9, c9, z9, hz9, ho9, rfl, hb9⟩; have h9z : z9 = [] := hz9.out; subst h9z; have S9 : BX w9 w.heap.size #[.slice none 0 0, .slice none 0 0, .bool false] 44 := BX.below (by repeat (first | assumption | refine BX.drew ?_ | refine BX.alloc ?_ _)) hb9; have R9 : BX w9 (w.heap.size + 1) #[.slice none 0 0, .slice none 0 0, .bool false] 44 := BX.below (by repeat (first | assumption | refine BX.drew ?_ | refine BX.alloc ?_ _)) hb9; have hw9 : Below w.heap.size w w9 := below_on (by repeat (first | assumption | refine Below.drew ?_ | refine below_on ?_ (below_new _ _))) hb9; have hS9 := S9.lt; have hR9 := R9.lt; have hP9 := hid (fun g (hg : blk A9 = some g) => OI.lt ho9 hg); have hQ9 := hb9.size; have hO9 := ho9.mono (show w.heap.size + 2 ≤ _ from (by first | omega | (simp; omega))); have s90 := S9.c0; have s91 := S9.c1; have s92 := S9.c2; have X9 : BX w9 w1.heap.size #[.slice none 0 0, .slice none 0 0, .bool false] 44 := BX.below (BX.drew (BX.new _ _ _)) hb9) | (go_at_call 42; refine (cloned_any _ _ [] _ (RI.nil _ _ _ (by omega)) (by simp)).mono ?_; rintro e w9 ⟨A9, c9, z9, hz9, ho9, rfl, hb9⟩; have h9z : z9 = [] := hz9.out; subst h9z; have S9 : BX w9 w.heap.size #[.slice none 0 0, .slice none 0 0, .bool false] 44 := BX.below (by repeat (first | assumption | refine BX.drew ?_ | refine BX.alloc ?_ _)) hb9; have R9 : BX w9 (w.heap.size + 1) #[.slice none 0 0, .slice none 0 0, .bool false] 44 := BX.below (by repeat (first | assumption | refine BX.drew ?_ | refine BX.alloc ?_ _)) hb9; have hw9 : Below w.heap.size w w9 := below_on (by repeat (first | assumption | refine Below.drew ?_ | refine below_on ?_ (below_new _ _))) hb9; have hS9 := S9.lt; have hR9 := R9.lt; have hP9 := hid (fun g (hg : blk A9 = some g) => OI.lt ho9 hg); have hQ9 := hb9.size; have hO9 := ho9.mono (show w.heap.size + 2 ≤ _ from (by first | omega | (simp; omega))); have s90 := S9.c0; have s91 := S9.c1; have s92 := S9.c2; have sc := S9.alloc (.cells #[.slice none 0 0, .slice none 0 0, .bool false] 44); have sc0 := sc.c0; have sc1 := sc.c1; have sc2 := sc.c2))
    all_goals
      go_wp2_with fail
      go_meet
      first
        | exact ⟨wb.heap.size, A9, c9, Ab, cb, rfl, PX_new Rb Sb hOb9 hObb (fun g hg e => by have h1 := (hP9.out g e).2; have h2 := (hPb.out g hg).1; (try simp at h2); omega) hwb⟩
        | exact ⟨w1.heap.size, A9, c9, Ab, cb, rfl, PX_set Xb (by omega) Rb Sb hOb9 hObb (fun g hg => by have h1 := (hP9.out g hg).1; simp at h1; omega) (fun g hg => ⟨by have h1 := (hPb.out g hg).1; have hq := hQ9; simp at hq; omega, fun e => by have h1 := (hP9.out g e).2; have h2 := (hPb.out g hg).1; omega⟩) hwb⟩
        | exact ⟨w9.heap.size, A9, c9, Ab, cb, rfl, PX_set Xb (by omega) Rb Sb hOb9 hObb (fun g hg => by have h1 := (hP9.out g hg).2; omega) (fun g hg => ⟨by have h1 := (hPb.out g hg).1; simp at h1; omega, fun e => by have h1 := (hP9.out g e).2; have h2 := (hPb.out g hg).1; simp at h2; omega⟩) hwb⟩
  case rest => 
    obtain ⟨bx, A9, c9, Ab, cb, rfl, hX, hR, hS, h9, hb, hbx, HP9, HPb, hbw⟩ := hcut
    clear s10 s11 s12 sd0 sd1 sd2 S1 R1 hbw1 hs1 hr1
    have t0 := hS.c0
    have t1 := hS.c1
    have t2 := hS.c2
    have x0 := hX.c0
    have x1 := hX.c1
    have x2 := hX.c2
    have fx0 := hX.frozen 0
    have hlX := hX.lt
    have hlS := hS.lt
    have hlR := hR.lt
    go_upto_region 7 with (at_builtin; refine wpl_app (xs := []) (ys := bs) intT rfl _ _ rfl rfl h9 rfl (hr.below hbw) (by simp; omega) (by omega) ?_; intro A5 c5 w5 us hu ho5 hg5 hat5; have hat6 := hid hat5; clear hat5; have hX5 := BX.keepRow9 hX hg5 (fun e => HP9.out bx e rfl); have y0 := hX5.c0; have y1 := hX5.c1; have y2 := hX5.c2; have fy0 := hX5.frozen 0; have hR5 := BX.keepRow9 hR hg5 (fun e => by have := (OI.lt h9 e).1; omega); have hb5 := OI.grown hb hg5 (fun g hg e => (HPb.out g hg).2 e); have hbw5 := OI.belowOwn hbw h9 hg5 (by omega))
    have HU : Hid (us = bs) := hid hu.out
    have hul : us.length ≤ bs.length := by rw [HU.out]; exact Nat.le_refl _
    have HA5 : Hid (∀ g, blk A5 = some g → g ≠ bx ∧ blk Ab ≠ some g) := hid fun g hg => by
      rcases hat6.out with h | h
      · exact ⟨HP9.out g (by rw [← h]; exact hg), fun e => (HPb.out g e).2 (by rw [← h]; exact hg)⟩
      · rw [h] at hg
        injection hg with hg
        exact ⟨by omega, fun e => by have := (OI.lt hb e).2; omega⟩
    have hX7 : BX (w5.setCell ⟨bx, 0, none⟩ (.slice A5 us.length c5)) bx #[.slice A5 us.length c5, .slice Ab ([] : List Int).length cb, .bool false] 44 := by simpa using hX5.set 0 (.slice A5 us.length c5)
    have hR7 := hR5.other (a := ⟨bx, 0, none⟩) (.slice A5 us.length c5) (by simp; omega)
    have hA7 := ho5.setB bx 0 (.slice A5 us.length c5) (fun g hg => (HA5.out g hg).1)
    have hB7 := hb5.setB bx 0 (.slice A5 us.length c5) (fun g hg => (HPb.out g hg).1)
    have HB7 : Hid (∀ g, blk Ab = some g → g ≠ bx) := hid fun g hg => (HPb.out g hg).1
    have hbw7 : Below w.heap.size w (w5.setCell ⟨bx, 0, none⟩ (.slice A5 us.length c5)) := hbw5.setCell (by simp; omega) _
    have HF0 : Hid (rdF us [] = rdF bs []) := by unfold Hid; rw [HU.out]
    clear t0 t1 t2 x0 x1 x2 fx0 y0 y1 y2 fy0 hX hR hS h9 hb HP9 HPb hbw hX5 hR5 hb5 hbw5 ho5 hg5 hu hat6 hlX hlS hlR
    generalize w5.setCell ⟨bx, 0, none⟩ (.slice A5 us.length c5) = w7 at *
    go_loopw [7] (fun _ wr => ∃ (A' : Option Addr) (c' : Nat) (us : List Int) (B' : Option Addr) (d' : Nat) (vs : List Int), BX wr bx #[.slice A' us.length c', .slice B' vs.length d', .bool false] 44 ∧ BX wr (w.heap.size + 1) #[.slice none 0 0, .slice none 0 0, .bool false] 44 ∧ OI wr (w.heap.size + 2) A' c' us ∧ OI wr (w.heap.size + 2) B' d' vs ∧ Hid (∀ g, blk A' = some g → g ≠ bx ∧ blk B' ≠ some g) ∧ Hid (∀ g, blk B' = some g → g ≠ bx) ∧ us.length ≤ bs.length ∧ vs.length ≤ 120 ∧ Hid (rdF us vs = rdF bs []) ∧ Below w.heap.size w wr) (fun _ wr => mSt wr bx)
    case atStart => exact ⟨A5, c5, us, Ab, cb, [], hX7, hR7, hA7, hB7, HA5, HB7, hul, by simp, HF0, hbw7⟩
    case round =>
      clear hX7 hR7 hA7 hB7 HA5 HB7 hul HF0 hbw7 HU
      obtain ⟨A', c', us, B', d', vs, S, R, hA, hB, HAP, HBP, hul, hvl, HF, hbw⟩ := hrel
      obtain ⟨wo, rfl⟩ : ∃ wo : World, wo = wr := ⟨_, rfl⟩
      have hsS := S.lt
      have hsR := R.lt
      have HMS := hid (mSt_is S)
      have s0 := S.c0
      have s1 := S.c1
      have s2 := S.c2
      have fs0 := S.frozen 0
      have fs1 := S.frozen 1
      have fs2 := S.frozen 2
      have r0 := R.c0
      have r1 := R.c1
      have r2 := R.c2
      have fr0 := R.frozen 0
      have fr1 := R.frozen 1
      have fr2 := R.frozen 2
      go_wp2_with fail
      refine (BlockState_any _ _ _ _ hA.ri).mono ?_
      rintro e w1 ⟨m, hm', rfl, hb1⟩
      have S1 := S.below hb1
      have R1 := R.below hb1
      have hA1 := hA.below hb1
      have hB1 := hB.below hb1
      have hbw1 := below_on hbw hb1
      have hw1 := hb1.size
      have hS1 := S1.lt
      have hR1 := R1.lt
      clear s0 s1 s2 fs0 fs1 fs2 r0 r1 r2 fr0 fr1 fr2 S R hA hB hbw hb1
      have s0 := S1.c0
      have s1 := S1.c1
      have s2 := S1.c2
      have fs0 := S1.frozen 0
      have fs1 := S1.frozen 1
      have fs2 := S1.frozen 2
      have r0 := R1.c0
      have r1 := R1.c1
      have r2 := R1.c2
      have fr0 := R1.frozen 0
      have fr1 := R1.frozen 1
      have fr2 := R1.frozen 2
      by_cases h0 : stF us = 0
      · obtain rfl : m = 0 := hm'.out.trans h0
        have HN : Hid (rdF bs [] = some (us, vs)) := by unfold Hid; rw [← HF.out]; exact rdF_stop h0
        clear hm' h0
        go_wp2_with fail
        have G := R1.set3 (.slice A' us.length c') (.slice B' vs.length d') (.bool false)
        have g0 := G.c0
        have g1 := G.c1
        have g2 := G.c2
        refine bodyPost_ret (v := .tuple #[.agg #[.slice A' us.length c', .slice B' vs.length d', .bool false], .bool true]) (by simp [results, Try.results61, go_sem, g0, g1, g2]) rfl ?_
        have hneA : ∀ g, blk A' = some g → g ≠ w.heap.size + 1 := fun g hg => by have := (OI.lt hA1 hg).1; omega
        have hneB : ∀ g, blk B' = some g → g ≠ w.heap.size + 1 := fun g hg => by have := (OI.lt hB1 hg).1; omega
        have hkA := (((hA1.setB (w.heap.size + 1) 0 (.slice A' us.length c') hneA).setB (w.heap.size + 1) 1 (.slice B' vs.length d') hneA).setB (w.heap.size + 1) 2 (.bool false) hneA).mono (show w.heap.size ≤ w.heap.size + 2 by omega)
        have hkB := (((hB1.setB (w.heap.size + 1) 0 (.slice A' us.length c') hneB).setB (w.heap.size + 1) 1 (.slice B' vs.length d') hneB).setB (w.heap.size + 1) 2 (.bool false) hneB).mono (show w.heap.size ≤ w.heap.size + 2 by omega)
        exact ⟨A', c', us, B', d', vs, false, true, rfl, hid HB.out.symm, hkA, hkB, hid (fun _ h => by cases h), hid (fun _ _ => HN.out), below_set3 hbw1 (by omega) _ _ _⟩
      have hm0 : (m == 0) = false := by rw [beq_eq_false_iff_ne, hm'.out]; exact h0
      go_wp2_with fail
      refine (BlockOpen_any _ _ _ _ hA1.ri).mono ?_
      rintro _ w2 ⟨A2, c2, ls, n2, ok, hls, hn2', hok, hol, rfl, hb2⟩
      have S2 := S1.below hb2
      have R2 := R1.below hb2
      have hA2 := hA1.below hb2
      have hB2 := hB1.below hb2
      have hbw2 := below_on hbw1 hb2
      have hw2 := hb2.size
      have hS2 := S2.lt
      have hR2 := R2.lt
      clear s0 s1 s2 fs0 fs1 fs2 r0 r1 r2 fr0 fr1 fr2 S1 R1 hA1 hB1 hbw1 hb2
      have s0 := S2.c0
      have s1 := S2.c1
      have s2 := S2.c2
      have fs0 := S2.frozen 0
      have fs1 := S2.frozen 1
      have fs2 := S2.frozen 2
      have r0 := R2.c0
      have r1 := R2.c1
      have r2 := R2.c2
      have fr0 := R2.frozen 0
      have fr1 := R2.frozen 1
      have fr2 := R2.frozen 2
      rcases st_cases us with ⟨h2, hop⟩ | ⟨h2, hop⟩ | ⟨h2, l, n, hop, hn2, hnl, hl40⟩
      · exact absurd h2 h0
      · have hq2 : (m == 2) = true := by rw [hm'.out, h2]; rfl
        have HN : Hid (rdF bs [] = none) := by unfold Hid; rw [← HF.out]; exact rdF_bad h2
        clear hm' h2 h0 hop hls hn2' hok hol
        go_wp2_with fail
        have G := (((R2.other (a := ⟨bx, 2, none⟩) (.bool true) (by simp; omega)).other (a := ⟨bx, 0, none⟩) (.slice (some ⟨w2.heap.size, 0, none⟩) 0 0) (by simp; omega)).set3 (.slice (some ⟨w2.heap.size, 0, none⟩) 0 0) (.slice B' vs.length d') (.bool true)).alloc (.cells #[] 3)
        have g0 := G.c0
        have g1 := G.c1
        have g2 := G.c2
        refine bodyPost_ret (v := .tuple #[.agg #[.slice (some ⟨w2.heap.size, 0, none⟩) 0 0, .slice B' vs.length d', .bool true], .bool true]) (by simp [results, Try.results61, go_sem, g0, g1, g2]) rfl ?_
        have hsz1 : (((((w2.setCell ⟨bx, 2, none⟩ (.bool true)).setCell ⟨bx, 0, none⟩ (.slice (some ⟨w2.heap.size, 0, none⟩) 0 0)).setCell ⟨w.heap.size + 1, 0, none⟩ (.slice (some ⟨w2.heap.size, 0, none⟩) 0 0)).setCell ⟨w.heap.size + 1, 1, none⟩ (.slice B' vs.length d')).setCell ⟨w.heap.size + 1, 2, none⟩ (.bool true)).heap.size = w2.heap.size := by simp
        have hE := OI.empty (((((w2.setCell ⟨bx, 2, none⟩ (.bool true)).setCell ⟨bx, 0, none⟩ (.slice (some ⟨w2.heap.size, 0, none⟩) 0 0)).setCell ⟨w.heap.size + 1, 0, none⟩ (.slice (some ⟨w2.heap.size, 0, none⟩) 0 0)).setCell ⟨w.heap.size + 1, 1, none⟩ (.slice B' vs.length d')).setCell ⟨w.heap.size + 1, 2, none⟩ (.bool true)) w.heap.size (by rw [hsz1]; omega)
        rw [hsz1] at hE
        have hne : ∀ g, blk B' = some g → g ≠ w.heap.size + 1 := fun g hg => by have := (OI.lt hB2 hg).1; omega
        have hk := ((((((hB2.setB bx 2 (.bool true) (fun g hg => HBP.out g hg)).setB bx 0 (.slice (some ⟨w2.heap.size, 0, none⟩) 0 0) (fun g hg => HBP.out g hg)).setB (w.heap.size + 1) 0 (.slice (some ⟨w2.heap.size, 0, none⟩) 0 0) hne).setB (w.heap.size + 1) 1 (.slice B' vs.length d') hne).setB (w.heap.size + 1) 2 (.bool true) hne).alloc (.cells #[] 3)).mono (show w.heap.size ≤ w.heap.size + 2 by omega)
        have hbS : Below w.heap.size w ((w2.setCell ⟨bx, 2, none⟩ (.bool true)).setCell ⟨bx, 0, none⟩ (.slice (some ⟨w2.heap.size, 0, none⟩) 0 0)) := (hbw2.setCell (by simp; omega) _).setCell (by simp; omega) _
        exact ⟨_, 0, [], B', d', vs, true, true, rfl, hid HB.out.symm, hE, hk, hid (fun _ _ => HN.out), hid (fun _ h => by cases h), below_on (below_set3 hbS (by omega) _ _ _) (below_new _ _)⟩
      · have hq2 : (m == 2) = false := by rw [hm'.out, h2]; rfl
        have HOP := hid hop
        rw [hop] at hls hn2' hok
        obtain rfl : ls = l := hls.out
        obtain rfl : n2 = (n : Int) := hn2'.out
        have HGO : Hid (rdF us vs = if 120 < vs.length + ls.length then none else rdF (us.drop n) (vs ++ ls)) := hid (rdF_go hop)
        clear hm' h2 h0 hop hls hn2' hok
        by_cases hlong : 120 < vs.length + ls.length
        · have hg : (vs.length : Int) + (ls.length : Int) > 120 := by omega
          have HN : Hid (rdF bs [] = none) := by unfold Hid; rw [← HF.out, HGO.out, if_pos hlong]
          clear hlong hol
          go_wp2_with fail
          have G := (((R2.other (a := ⟨bx, 2, none⟩) (.bool true) (by simp; omega)).other (a := ⟨bx, 0, none⟩) (.slice (some ⟨w2.heap.size, 0, none⟩) 0 0) (by simp; omega)).set3 (.slice (some ⟨w2.heap.size, 0, none⟩) 0 0) (.slice B' vs.length d') (.bool true)).alloc (.cells #[] 3)
          have g0 := G.c0
          have g1 := G.c1
          have g2 := G.c2
          refine bodyPost_ret (v := .tuple #[.agg #[.slice (some ⟨w2.heap.size, 0, none⟩) 0 0, .slice B' vs.length d', .bool true], .bool true]) (by simp [results, Try.results61, go_sem, g0, g1, g2]) rfl ?_
          have hsz1 : (((((w2.setCell ⟨bx, 2, none⟩ (.bool true)).setCell ⟨bx, 0, none⟩ (.slice (some ⟨w2.heap.size, 0, none⟩) 0 0)).setCell ⟨w.heap.size + 1, 0, none⟩ (.slice (some ⟨w2.heap.size, 0, none⟩) 0 0)).setCell ⟨w.heap.size + 1, 1, none⟩ (.slice B' vs.length d')).setCell ⟨w.heap.size + 1, 2, none⟩ (.bool true)).heap.size = w2.heap.size := by simp
          have hE := OI.empty (((((w2.setCell ⟨bx, 2, none⟩ (.bool true)).setCell ⟨bx, 0, none⟩ (.slice (some ⟨w2.heap.size, 0, none⟩) 0 0)).setCell ⟨w.heap.size + 1, 0, none⟩ (.slice (some ⟨w2.heap.size, 0, none⟩) 0 0)).setCell ⟨w.heap.size + 1, 1, none⟩ (.slice B' vs.length d')).setCell ⟨w.heap.size + 1, 2, none⟩ (.bool true)) w.heap.size (by rw [hsz1]; omega)
          rw [hsz1] at hE
          have hne : ∀ g, blk B' = some g → g ≠ w.heap.size + 1 := fun g hg => by have := (OI.lt hB2 hg).1; omega
          have hk := ((((((hB2.setB bx 2 (.bool true) (fun g hg => HBP.out g hg)).setB bx 0 (.slice (some ⟨w2.heap.size, 0, none⟩) 0 0) (fun g hg => HBP.out g hg)).setB (w.heap.size + 1) 0 (.slice (some ⟨w2.heap.size, 0, none⟩) 0 0) hne).setB (w.heap.size + 1) 1 (.slice B' vs.length d') hne).setB (w.heap.size + 1) 2 (.bool true) hne).alloc (.cells #[] 3)).mono (show w.heap.size ≤ w.heap.size + 2 by omega)
          have hbS : Below w.heap.size w ((w2.setCell ⟨bx, 2, none⟩ (.bool true)).setCell ⟨bx, 0, none⟩ (.slice (some ⟨w2.heap.size, 0, none⟩) 0 0)) := (hbw2.setCell (by simp; omega) _).setCell (by simp; omega) _
          exact ⟨_, 0, [], B', d', vs, true, true, rfl, hid HB.out.symm, hE, hk, hid (fun _ _ => HN.out), hid (fun _ h => by cases h), below_on (below_set3 hbS (by omega) _ _ _) (below_new _ _)⟩
        · have hg : ¬ (vs.length : Int) + (ls.length : Int) > 120 := by omega
          have HN : Hid (rdF (us.drop n) (vs ++ ls) = rdF bs []) := by unfold Hid; rw [← HF.out, HGO.out, if_neg hlong]
          go_upto_region 16 with (at_builtin; refine wpl_app (xs := vs) (ys := ls) intT rfl _ _ rfl rfl hB2 rfl hol.ri (by omega) (by omega) ?_; intro A6 c6 w6 qs hq ho6 hg6 hat6; have hat7 := hid hat6; clear hat6; have S6 := BX.keepRow9 S2 hg6 (fun e => HBP.out bx e rfl); have t0 := S6.c0; have t1 := S6.c1; have t2 := S6.c2; have ft0 := S6.frozen 0; have ft1 := S6.frozen 1; have ft2 := S6.frozen 2)
          have HQ : Hid (qs = vs ++ ls) := hid hq.out
          have hql : qs.length ≤ 120 := by rw [HQ.out, List.length_append]; omega
          have hs6 := hg6.size
          have R6 := BX.keepRow9 R2 hg6 (fun e => by have := (OI.lt hB2 e).1; omega)
          have hA6 := OI.grown hA2 hg6 (fun g hg e => (HAP.out g hg).2 e)
          have HQP : Hid (∀ g, blk A6 = some g → g ≠ bx ∧ blk A' ≠ some g) := hid fun g hg => by
            rcases hat7.out with h | h
            · exact ⟨HBP.out g (by rw [← h]; exact hg), fun e => (HAP.out g e).2 (by rw [← h]; exact hg)⟩
            · rw [h] at hg
              injection hg with hg
              exact ⟨by omega, fun e => by have := (OI.lt hA2 e).2; omega⟩
          have hbw6 := OI.belowOwn hbw2 hB2 hg6 (by omega)
          have S7 : BX (w6.setCell ⟨bx, 1, none⟩ (.slice A6 qs.length c6)) bx #[.slice A' us.length c', .slice A6 qs.length c6, .bool false] 44 := by simpa using S6.set 1 (.slice A6 qs.length c6)
          have R7 := R6.other (a := ⟨bx, 1, none⟩) (.slice A6 qs.length c6) (by simp; omega)
          have hA7 := hA6.setB bx 1 (.slice A6 qs.length c6) (fun g hg => (HAP.out g hg).1)
          have hQ7 := ho6.setB bx 1 (.slice A6 qs.length c6) (fun g hg => (HQP.out g hg).1)
          have hbw7 : Below w.heap.size w (w6.setCell ⟨bx, 1, none⟩ (.slice A6 qs.length c6)) := hbw6.setCell (by simp; omega) _
          have hsz7 : w6.heap.size ≤ (w6.setCell ⟨bx, 1, none⟩ (.slice A6 qs.length c6)).heap.size := by simp
          clear s0 s1 s2 fs0 fs1 fs2 r0 r1 r2 fr0 fr1 fr2 t0 t1 t2 ft0 ft1 ft2 S6 S2 R2 R6 hA2 hB2 hA6 hbw2 hbw6 ho6 hg6 hol hq hlong hat7 HAP HBP
          generalize w6.setCell ⟨bx, 1, none⟩ (.slice A6 qs.length c6) = w7 at *
          have hS7 := S7.lt
          have hR7 := R7.lt
          have s0 := S7.c0
          have s1 := S7.c1
          have s2 := S7.c2
          have fs0 := S7.frozen 0
          have fs1 := S7.frozen 1
          have fs2 := S7.frozen 2
          have r0 := R7.c0
          have r1 := R7.c1
          have r2 := R7.c2
          have fr0 := R7.frozen 0
          have fr1 := R7.frozen 1
          have fr2 := R7.frozen 2
          go_wp2_with (first | (refine wpl_cutI intT rfl _ _ _ rfl rfl hA7.ri n us.length ⟨_, _, rfl, rfl⟩ rfl hnl (Nat.le_refl _) ?_; intro A9 c9 zs hzs hr3 hb3 hlz1 hlz2))
          refine (cloned_any _ _ zs _ hr3 (by omega)).mono ?_
          rintro e w8 ⟨A8, c8, ps, hp, ho8, rfl, hb8⟩
          have HPS : Hid (ps = us.drop n) := by unfold Hid; rw [hp.out, hzs.out, List.take_of_length_le (Nat.le_refl _)]
          have hpl : ps.length + 2 ≤ us.length := by rw [HPS.out, List.length_drop]; omega
          have S8 := S7.below hb8
          have R8 := R7.below hb8
          have hQ8 := hQ7.below hb8
          have hbw8 := below_on hbw7 hb8
          clear s0 s1 s2 fs0 fs1 fs2 r0 r1 r2 fr0 fr1 fr2
          have s0 := S8.c0
          have s1 := S8.c1
          have s2 := S8.c2
          have fs0 := S8.frozen 0
          have fs1 := S8.frozen 1
          have fs2 := S8.frozen 2
          have r0 := R8.c0
          have r1 := R8.c1
          have r2 := R8.c2
          have fr0 := R8.frozen 0
          have fr1 := R8.frozen 1
          have fr2 := R8.frozen 2
          go_wp2_with fail
          have S9 : BX (w8.setCell ⟨bx, 0, none⟩ (.slice A8 ps.length c8)) bx #[.slice A8 ps.length c8, .slice A6 qs.length c6, .bool false] 44 := by simpa using S8.set 0 (.slice A8 ps.length c8)
          have R9 := R8.other (a := ⟨bx, 0, none⟩) (.slice A8 ps.length c8) (by simp; omega)
          have HPP : Hid (∀ g, blk A8 = some g → g ≠ bx ∧ blk A6 ≠ some g) := hid fun g hg => by
            have h1 := (OI.lt ho8 hg).1
            exact ⟨by omega, fun e => by have := (OI.lt hQ7 e).2; omega⟩
          have hA9 := (ho8.mono (show w.heap.size + 2 ≤ w7.heap.size by omega)).setB bx 0 (.slice A8 ps.length c8) (fun g hg => (HPP.out g hg).1)
          have hQ9 := hQ8.setB bx 0 (.slice A8 ps.length c8) (fun g hg => (HQP.out g hg).1)
          have HQ9 : Hid (∀ g, blk A6 = some g → g ≠ bx) := hid fun g hg => (HQP.out g hg).1
          have hbw9 : Below w.heap.size w (w8.setCell ⟨bx, 0, none⟩ (.slice A8 ps.length c8)) := hbw8.setCell (by simp; omega) _
          have HM9 := hid (mSt_is S9)
          have HN9 : Hid (rdF ps qs = rdF bs []) := by unfold Hid; rw [← HN.out, HPS.out, HQ.out]
          have hpx : ps.length ≤ bs.length := by omega
          clear s0 s1 s2 fs0 fs1 fs2 r0 r1 r2 fr0 fr1 fr2 S7 S8 R7 R8 hA7 hQ7 hQ8 hbw7 hbw8 hr3 hb3 hzs hp ho8 hb8
          go_roundw
          case rel => exact ⟨A8, c8, ps, A6, c6, qs, S9, R9, hA9, hQ9, HPP, HQ9, hpx, hql, HN9, hbw9⟩
          case measure => rw [HM9.out, HMS.out]; simp; omega

end Go.Proofs.Ytamljhjbmeikiaa
