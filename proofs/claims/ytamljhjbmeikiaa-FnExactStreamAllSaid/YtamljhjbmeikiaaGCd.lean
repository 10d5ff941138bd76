/- Joined texts: contracts and plain facts that the laws share. No condition. -/
import Derived.Test.YtamljhjbmeikiaaGCc
import Derived.Test.YtamljhjbmeikiaaGPb
import Derived.Test.YtamljhjbmeikiaaGCa
import Derived.Test.YtamljhjbmeikiaaGMa
import Derived.Test.YtamljhjbmeikiaaGCb
/- Contracts: the least group, groups joined. No condition. -/
namespace Go.Proofs.Ytamljhjbmeikiaa
open Go Go.RowKit
/-- What a call answers: the first place of the least weight. -/
def PLw (w : World) (W : List Int) (e : Ending) (w' : World) : Prop := ∃ b : Int, Hid (lwP W W.length b) ∧ e = .returned (.int .i64 b) ∧ Below w.heap.size w w'
theorem getD_hid {xs : List Int} {k : Nat} {x : Int} (h : xs[k]? = some x) : xs.getD k 0 = x := by rw [List.getD_eq_getElem?_getD, h]; rfl
set_option maxHeartbeats 1000000 in
theorem l11Least_any (A : Option Addr) (c : Nat) (W : List Int) (w : World) (hr : RI w A c W) (hn : W.length ≤ 1000) : Calls Try.prog 132 #[.slice A W.length c] w (PLw w W) := by
  go_enter Try.func132, Try.ntmps132
  go_wp2_with fail
  go_loopw [3, 4] (fun v t wr => ∃ (k : Nat) (b : Int), k ≤ W.length ∧ t = .int .i64 k ∧ v = .int .i64 b ∧ Hid (lwP W k b) ∧ Below w.heap.size w wr) (fun _ t _ => W.length - (intOf t).toNat)
  case atStart => exact ⟨0, -1, by omega, rfl, rfl, hid (lwP_zero W), Below.refl _ _⟩
  case round =>
    obtain ⟨k, b, hk, rfl, rfl, hb, hbw⟩ := hrel
    obtain ⟨wo, rfl⟩ : ∃ wo : World, wo = wr := ⟨_, rfl⟩
    by_cases hlt : k < W.length
    · obtain ⟨ad, x, rfl, HX, hc⟩ := (hr.below hbw).get hlt
      have HG := hid (getD_hid HX.out)
      by_cases hx : 0 < x
      · have hd : decide (x > 0) = true := by simp [hx]
        rcases lwP_or hb.out with rfl | ⟨i, rfl, hik⟩
        · have HN := hid (lwP_first hb.out (by rw [HG.out]; exact hx))
          go_wp2_with fail
          go_quiet (fail)
          go_wp2_with fail
          go_roundw
          case rel => exact ⟨k + 1, _, by omega, by go_num, rfl, HN, below_drewN hbw _⟩
          case measure => simp [intOf]; omega
        · obtain ⟨ad2, y, he, HY, hc2⟩ := (hr.below hbw).get (k := i) (by omega)
          injection he with he
          subst he
          have HG2 := hid (getD_hid HY.out)
          have hi0 : ¬ (i : Int) < 0 := by omega
          have hd2 : decide ((i : Int) < 0) = false := by simp
          by_cases hxy : x < y
          · have hd3 : decide (x < y) = true := by simp [hxy]
            have HN := hid (lwP_new hb.out (by rw [HG.out]; exact hx) (by rw [HG.out, HG2.out]; exact hxy))
            go_wp2_with fail
            go_quiet (fail)
            go_wp2_with fail
            go_roundw
            case rel => exact ⟨k + 1, _, by omega, by go_num, rfl, HN, below_drewN hbw _⟩
            case measure => simp [intOf]; omega
          · have hd3 : decide (x < y) = false := by simp; omega
            have HN := hid (lwP_keep hb.out (by rw [HG.out, HG2.out]; exact hxy))
            go_wp2_with fail
            go_quiet (fail)
            go_wp2_with fail
            go_roundw
            case rel => exact ⟨k + 1, _, by omega, by go_num, rfl, HN, below_drewN hbw _⟩
            case measure => simp [intOf]; omega
      · have hd : decide (x > 0) = false := by simp; omega
        have HN := hid (lwP_skip hb.out (by rw [HG.out]; omega))
        go_wp2_with fail
        go_quiet (fail)
        go_wp2_with fail
        go_roundw
        case rel => exact ⟨k + 1, _, by omega, by go_num, rfl, HN, below_drewN hbw _⟩
        case measure => simp [intOf]; omega
    · have HB : Hid (lwP W W.length b) := by unfold Hid; rw [show W.length = k by omega]; exact hb.out
      go_wp2_with fail
      go_ret
      exact ⟨b, HB, rfl, hbw⟩
/-- What else has turned: two rows of the caller's. -/
structure Two (w w' : World) (A B : Option Nat) : Prop where
  os : w'.os = w.os
  tape : w'.tape = w.tape
  output : w'.output = w.output
  size : w.heap.size ≤ w'.heap.size
  block : ∀ k, k < w.heap.size → A ≠ some k → B ≠ some k → w'.heap[k]? = w.heap[k]?
theorem Two.refl (w : World) (A B : Option Nat) : Two w w A B := ⟨rfl, rfl, rfl, Nat.le_refl _, fun _ _ _ _ => rfl⟩
theorem Two.gb1 {w a b : World} {A B : Option Nat} (h : Two w a A B) (k : a.grownBy b A) : Two w b A B :=
  ⟨k.os.trans h.os, k.tape.trans h.tape, k.output.trans h.output, Nat.le_trans h.size k.size, fun i hi h1 h2 => (k.block i (Nat.lt_of_lt_of_le hi h.size) (fun e => h1 e.symm)).trans (h.block i hi h1 h2)⟩
theorem Two.gb2 {w a b : World} {A B : Option Nat} (h : Two w a A B) (k : a.grownBy b B) : Two w b A B :=
  ⟨k.os.trans h.os, k.tape.trans h.tape, k.output.trans h.output, Nat.le_trans h.size k.size, fun i hi h1 h2 => (k.block i (Nat.lt_of_lt_of_le hi h.size) (fun e => h2 e.symm)).trans (h.block i hi h1 h2)⟩
theorem Two.trans {w a b : World} {A B : Option Nat} (h : Two w a A B) (k : Two a b A B) : Two w b A B :=
  ⟨k.os.trans h.os, k.tape.trans h.tape, k.output.trans h.output, Nat.le_trans h.size k.size, fun i hi h1 h2 => (k.block i (Nat.lt_of_lt_of_le hi h.size) h1 h2).trans (h.block i hi h1 h2)⟩
theorem Two.oi {w w' : World} {A B : Option Nat} (h : Two w w' A B) {base c : Nat} {S : Option Addr} {xs : List Int} (ho : OI w base S c xs) (ha : ∀ g, blk S = some g → A ≠ some g) (hb : ∀ g, blk S = some g → B ≠ some g) : OI w' base S c xs :=
  OG.keep ho fun g hg => h.block g (OG.lt ho hg).2 (ha g hg) (hb g hg)
theorem Two.below {w0 w w' : World} {A B : Option Nat} (h : Below w0.heap.size w0 w) (k : Two w w' A B) (ha : ∀ g, A = some g → w0.heap.size ≤ g) (hb : ∀ g, B = some g → w0.heap.size ≤ g) : Below w0.heap.size w0 w' :=
  ⟨k.os.trans h.os, k.tape.trans h.tape, k.output.trans h.output, Nat.le_trans h.size k.size, fun i hi => (k.block i (Nat.lt_of_lt_of_le hi h.size) (fun e => by have := ha i e; omega) (fun e => by have := hb i e; omega)).trans (h.block i hi)⟩
/-- What the joining of a group leaves. -/
def PJoin (w : World) (bA bB : Nat) (A B : Option Addr) (ca cb : Nat) (G L : List Int) (a b : Int) (e : Ending) (w' : World) : Prop :=
  ∃ G' L', Hid (joinP G L a b 8 G' L') ∧ OI w' bA A ca G' ∧ OI w' bB B cb L' ∧ e = .returned (.tuple #[]) ∧ Two w w' (blk A) (blk B)
set_option maxHeartbeats 1000000 in
theorem l11Join_any (bA bB : Nat) (A B : Option Addr) (ca cb : Nat) (G L : List Int) (a b : Int) (w : World) (hg : OI w bA A ca G) (hl : OI w bB B cb L) (hg8 : G.length = 8) (hl8 : L.length = 8) (hne : ∀ g, blk A = some g → blk B ≠ some g) (hb : ∀ x ∈ L, 0 ≤ x ∧ x ≤ 1000) :
    Calls Try.prog 134 #[.slice A G.length ca, .slice B L.length cb, .int .i64 a, .int .i64 b] w (PJoin w bA bB A B ca cb G L a b) := by
  have HNE := hid hne
  have HB := hid hb
  have H8 := hid hg8
  have H9 := hid hl8
  rw [hg8, hl8]
  clear hne hb hg8 hl8
  go_enter Try.func134, Try.ntmps134
  go_wp2_with fail
  go_loopw [8] (fun t wr => ∃ (k : Nat) (G' L' : List Int), k ≤ 8 ∧ t = .int .i64 k ∧ Hid (joinP G L a b k G' L') ∧ OI wr bA A ca G' ∧ OI wr bB B cb L' ∧ Two w wr (blk A) (blk B)) (fun t _ => 8 - (intOf t).toNat)
  case atStart => exact ⟨0, G, L, by omega, rfl, hid (joinP_start a b H8.out H9.out), hg, hl, Two.refl _ _ _⟩
  case round =>
    clear hg hl
    obtain ⟨k, G', L', hk, rfl, hj, hg, hl, ht⟩ := hrel
    obtain ⟨wo, rfl⟩ : ∃ wo : World, wo = wr := ⟨_, rfl⟩
    by_cases hlt : k < 8
    · obtain ⟨ad, x, rfl, HX, hc⟩ := hg.ri.get (k := k) (by rw [hj.out.lg]; exact hlt)
      have hk8 : (k : Int) < 8 := by omega
      have HG : Hid (G.getD k 0 = x) := by
        unfold Hid
        have h1 := hj.out.gr k hlt
        rw [getD_hid HX.out, if_neg (by omega)] at h1
        exact h1.symm
      by_cases hx : x = a
      · have hq : (x == a) = true := by simp [hx]
        obtain ⟨ad2, y, rfl, HY, hc2⟩ := hl.ri.get (k := k) (by rw [hj.out.ll]; exact hlt)
        have hy : 0 ≤ y ∧ y ≤ 1001 := by
          have h1 := hj.out.le k hlt
          rw [getD_hid HY.out] at h1
          have h2 : 0 ≤ L.getD k 0 ∧ L.getD k 0 ≤ 1000 := by
            rw [List.getD_eq_getElem?_getD]
            cases he : L[k]? with
            | none => exact ⟨Int.le_refl _, by decide⟩
            | some z => exact HB.out z (List.mem_of_getElem? he)
          split at h1 <;> omega
        obtain ⟨hs1, hs2, hs3⟩ := hl.store k (y + 1)
        have hg2 : OI (wo.setCell (ad2.add k) (.int .i64 (y + 1))) bA (some ad) ca G' := hg.grown hs2 (fun g hg' e => HNE.out g hg' e)
        have hc3 := hg2.ri.cellAt HX.out
        obtain ⟨ht1, ht2, ht3⟩ := hg2.store k b
        have hl2 : OI ((wo.setCell (ad2.add k) (.int .i64 (y + 1))).setCell (ad.add k) (.int .i64 b)) bB (some ad2) cb (L'.set k (y + 1)) := hs1.grown ht2 (fun g hg' e => HNE.out g e hg')
        have hT := (ht.gb2 hs2).gb1 ht2
        have HJ : Hid (joinP G L a b (k + 1) (G'.set k b) (L'.set k (y + 1))) := by
          unfold Hid
          have := joinP_yes hj.out hlt (HG.out.trans hx)
          rwa [getD_hid HY.out] at this
        obtain ⟨hy0, hy1⟩ := hy
        clear hg hl ht hs1 hs2 hg2 ht2 hj HX HY HG hx
        go_wp2_with fail
        go_roundw
        case rel => exact ⟨k + 1, _, _, by omega, by go_num, HJ, ht1, hl2, hT⟩
        case measure => simp [intOf]; omega
      · have hq : (x == a) = false := by simp [hx]
        have HJ := hid (joinP_no hj.out (by rw [HG.out]; exact hx))
        clear hj hx HG
        go_wp2_with fail
        go_roundw
        case rel => exact ⟨k + 1, _, _, by omega, by go_num, HJ, hg, hl, ht⟩
        case measure => simp [intOf]; omega
    · have hk8 : ¬ (k : Int) < 8 := by omega
      have HJ : Hid (joinP G L a b 8 G' L') := by unfold Hid; rw [show 8 = k by omega]; exact hj.out
      clear hj
      go_wp2_with fail
      go_end0
      exact ⟨G', L', HJ, hg, hl, rfl, ht⟩
end Go.Proofs.Ytamljhjbmeikiaa
/- Contracts: lengths of codes, of the specification. No condition. -/
namespace Go.Proofs.Ytamljhjbmeikiaa
open Go Go.RowKit
/-- What the loop through the groups keeps. -/
structure huP (cs : List Int) (gs : List Gp) (W G L : List Int) : Prop where
  arr : arrW gs W
  grp : grpR gs G W.length
  ok : HOk (used cs) gs L
  eq : huS 8 gs L W.length = huff cs
  pos : 0 < gs.length
  le : gs.length + W.length ≤ 16
  sum : sumW gs ≤ 8000
theorem huP_bd {cs : List Int} {gs : List Gp} {W G L : List Int} (h : huP cs gs W G L) : ∀ x ∈ W, 0 ≤ x ∧ x ≤ 8000 := fun x hx => by
  have h1 := arrW_bd h.arr x hx
  have h2 := h.sum
  omega
theorem us_lt {cs : List Int} : ∀ s ∈ used cs, s < 8 := fun _ hs => (used_mem.1 hs).1
theorem huP_len {cs : List Int} {gs : List Gp} {W G L : List Int} (h : huP cs gs W G L) : ∀ x ∈ L, 0 ≤ x ∧ x ≤ 8 := fun x hx => by
  obtain ⟨s, hs, rfl⟩ := List.mem_iff_getElem.1 hx
  have e : L.getD s 0 = L[s] := by rw [List.getD_eq_getElem?_getD, List.getElem?_eq_getElem hs]; rfl
  rw [← e]
  by_cases hm : s ∈ used cs
  · obtain ⟨g, hg, hsg⟩ := List.mem_flatMap.1 (h.ok.pm.mem_iff.2 hm)
    have h1 := (h.ok.ok g hg).lo s hsg
    have h2 := len_le_syms hg
    have h3 := h.ok.pm.length_eq
    have h4 := us_le (used_nd cs) us_lt
    omega
  · rw [h.ok.oth s hm]; omega
theorem huP_start {cs : List Int} (h : cntOk cs = true) (hn : 1 < (groups0 cs).length) : huP cs (groups0 cs) cs ((List.range 8).map fun i : Nat => (i : Int)) zero8 := by
  have h8 := (cnt_bd h).1
  have hg := groups0_le cs
  refine ⟨arrW_start h, by rw [h8]; exact grpR_start cs, groups0_ok cs, ?_, by omega, by omega, ?_⟩
  · rw [h8]
    unfold huff out0
    rw [if_neg (by omega)]
  · rw [← sumL_start h]
    have hb := cnt_at h
    have h0 := hb 0; have h1 := hb 1; have h2 := hb 2; have h3 := hb 3; have h4 := hb 4; have h5 := hb 5; have h6 := hb 6; have h7 := hb 7
    match cs, h8 with
    | [a, b, c, d, e, f, g, i], _ =>
      have : sumL [a, b, c, d, e, f, g, i] = a + b + c + d + e + f + g + i := by simp [sumL]
      simp only [List.getD_cons_zero, List.getD_cons_succ] at h0 h1 h2 h3 h4 h5 h6 h7
      omega
theorem huP_next {cs : List Int} {gs : List Gp} {W G L G1 L1 G2 L2 : List Int} (h : huP cs gs W G L) (hl : 1 < gs.length)
    (h1 : joinP G L ((gA gs).2.1 : Int) (W.length : Int) 8 G1 L1) (h2 : joinP G1 L1 ((gA (gR gs)).2.1 : Int) (W.length : Int) 8 G2 L2) :
    huP cs (gNext gs W.length) (((W.set (gA gs).2.1 0).set (gA (gR gs)).2.1 0) ++ [(gA gs).1 + (gA (gR gs)).1]) G2 L2 := by
  obtain ⟨k1, k2⟩ := join_two h.arr h.grp h.ok hl h1 h2
  have hw := arrW_next h.arr hl
  have hlw : (((W.set (gA gs).2.1 0).set (gA (gR gs)).2.1 0) ++ [(gA gs).1 + (gA (gR gs)).1]).length = W.length + 1 := by simp
  have hgl := gNext_length W.length hl
  have hle := h.le
  subst k2
  refine ⟨hw, by rw [hlw]; exact k1, h.ok.step _ hl, ?_, by omega, by rw [hlw]; omega, by rw [sumW_next _ hl]; exact h.sum⟩
  rw [hlw, ← h.eq]
  have : gs.length ≤ 8 := by
    have h1 := h.ok.pm.length_eq
    have h2 := us_le (used_nd cs) us_lt
    have h3 : gs.length ≤ (syms gs).length := by
      have hs : ∀ l : List Gp, (∀ g ∈ l, 0 < g.2.2.length) → l.length ≤ (syms l).length := by
        intro l
        induction l with
        | nil => intro _; simp
        | cons y l ih =>
          intro hy
          have := hy y (by simp)
          have := ih fun g hg => hy g (by simp [hg])
          have e : syms (y :: l) = y.2.2 ++ syms l := by simp [syms]
          rw [e, List.length_append, List.length_cons]; omega
      exact hs gs fun g hg => (h.ok.ok g hg).ne
    omega
  exact (huS_step hl this).symm
theorem huP_pos {cs : List Int} {gs : List Gp} {W G L : List Int} (h : huP cs gs W G L) : 0 < sumL W := by
  rw [sumL_sum]
  have hm := gA_mem h.pos
  have hp := h.arr.pos _ hm
  have hx : (gA gs).1 ∈ W := by
    rw [← hp.2.2, List.getD_eq_getElem?_getD, List.getElem?_eq_getElem hp.1]
    exact List.getElem_mem _
  have hs : ∀ l : List Int, (∀ x ∈ l, 0 ≤ x) → ∀ x ∈ l, x ≤ l.sum ∧ 0 ≤ l.sum := by
    intro l
    induction l with
    | nil => intro _ x hx; cases hx
    | cons y l ih =>
      intro hy x hx
      have h0 := hy y (by simp)
      rw [List.sum_cons]
      have hl : 0 ≤ l.sum := by
        cases l with
        | nil => simp
        | cons z l => exact (ih (fun x hx => hy x (by simp [hx])) z (by simp)).2
      rcases List.mem_cons.1 hx with rfl | hx
      · omega
      · have := (ih (fun x hx => hy x (by simp [hx])) x hx).1; omega
  have := (hs W (fun x hx => (huP_bd h x hx).1) _ hx).1
  omega
theorem joinP_bd {G L G' L' : List Int} {a b m : Int} {k : Nat} (h : joinP G L a b k G' L') (hm : 0 ≤ m) (hb : ∀ x ∈ L, 0 ≤ x ∧ x ≤ m) : ∀ x ∈ L', 0 ≤ x ∧ x ≤ m + 1 := fun x hx => by
  obtain ⟨s, hs, rfl⟩ := List.mem_iff_getElem.1 hx
  have e : L'.getD s 0 = L'[s] := by rw [List.getD_eq_getElem?_getD, List.getElem?_eq_getElem hs]; rfl
  have hl := h.ll
  have h1 := h.le s (by omega)
  have h2 : 0 ≤ L.getD s 0 ∧ L.getD s 0 ≤ m := by
    rw [List.getD_eq_getElem?_getD]
    cases he : L[s]? with
    | none => exact ⟨Int.le_refl _, hm⟩
    | some x => exact hb x (List.mem_of_getElem? he)
  rw [e] at h1
  split at h1 <;> omega
set_option maxHeartbeats 2000000 in
set_option maxRecDepth 100000 in
theorem sLengthsOf_any (A : Option Addr) (c : Nat) (cs : List Int) (w : World) (hr : RI w A c cs) (hok : cntOk cs = true) (hne : used cs ≠ []) : Calls Try.prog 123 #[.slice A cs.length c] w (PLB w (some (huff cs))) := by
  have HOK := hid hok
  have hgl0 : 0 < (groups0 cs).length := by rw [groups0_length]; exact List.length_pos_iff.2 hne
  obtain ⟨h8, hbd⟩ := cnt_bd hok
  have HBD := hid hbd
  have h8a : cs.length ≤ 8 := by omega
  have h8b : 8 ≤ cs.length := by omega
  have HS0 : Hid (0 < sumL cs) := by
    unfold Hid
    rw [sumL_start hok]
    have hm := gA_mem hgl0
    have h1 := sumW_mem (fun g hg => ((arrW_start hok).pos g hg).2.1) _ hm
    have h2 := ((arrW_start hok).pos _ hm).2.1
    omega
  have HGL := hid hgl0
  have HR := hid hr
  clear hok hne hbd h8 hgl0
  go_enter Try.func123, Try.ntmps123
  go_wp2_with fail
  refine (sCountsValid_any _ _ _ _ hr).mono ?_
  rintro e w' ⟨b3, hb3, rfl, rfl⟩
  obtain rfl : b3 = true := hb3.out.trans HOK.out
  clear hb3
  go_wp2_with fail
  refine (l3Sum_any _ _ _ _ hr (by omega) (fun x hx => by have := HBD.out x hx; omega)).mono ?_
  rintro e w' ⟨n, hn, rfl, rfl⟩
  have hq : (n == 0) = false := by
    have := HS0.out
    have := hn.out
    rw [beq_eq_false_iff_ne]; omega
  clear hn
  go_wp2_with (at_builtin; refine wpl_app (xs := []) intT rfl _ _ rfl rfl (OI.empty w w.heap.size (Nat.le_refl _)) rfl (hr.alloc _) (by simp; omega) (by simp) ?_; intro A1 c1 w1 zs hz ho1 hg1 hat1; clear hat1)
  obtain rfl : cs = zs := by have := hz.out; simpa using this.symm
  have hbw1 : Below w.heap.size w w1 := below_grown (below_new _ _) (OI.empty w w.heap.size (Nat.le_refl _)) hg1 (Nat.le_refl _) (by simp)
  have hr1 := hr.below hbw1
  have HA1 : Hid (∀ b, blk A1 = some b → b < w1.heap.size) := hid fun b hb => (OI.lt ho1 hb).2
  clear hz hg1 hr
  refine (l4Order_any _).mono ?_
  rintro _ w2 ⟨A2, c2, G0, hG0, ho2, rfl, hb2⟩
  have hr2 := hr1.below hb2
  have ho12 := ho1.below hb2
  have hbw2 := below_on hbw1 hb2
  have hG8 : G0.length = 8 := by rw [hG0.out]; simp
  rw [hG8]
  have HG8 := hid hG8
  have HS2 := hid hb2.size
  have HS1 := hid hbw1.size
  clear hr1 ho1 hb2 hG8 hbw1
  go_wp2_with (refine wpl_make intT rfl _ _ rfl 8 rfl rfl rfl rfl (by omega) w2.heap.size (Nat.le_refl _) ?_; intro A3 w3 L0 hz hz1 hz2 ho3 hg3 hb3)
  have HL0 : Hid (L0 = zero8) := hid hz.out
  have e8 : L0.length = 8 := by omega
  rw [e8]
  have hb23 : Below w2.heap.size w2 w3 := (Below.refl _ _).grown hg3 (Nat.le_refl _) (by simp)
  have hr3 := hr2.below hb23
  have ho13 := ho12.below hb23
  have ho23 := ho2.below hb23
  have hbw3 := below_on hbw2 hb23
  have HS3 := hid hb23.size
  have HD12 : Hid (∀ b, blk A1 = some b → blk A2 ≠ some b) := hid fun b h1 h2 => by
    have := (OI.lt ho2 h2).1; have := HA1.out b h1; omega
  have HD13 : Hid (∀ b, blk A1 = some b → blk A3 ≠ some b) := hid fun b h1 h2 => by
    rw [hb3] at h2; injection h2 with h2; have := HA1.out b h1; have := HS2.out; omega
  have HD23 : Hid (∀ b, blk A2 = some b → blk A3 ≠ some b) := hid fun b h1 h2 => by
    rw [hb3] at h2; injection h2 with h2; have := (OI.lt ho2 h1).2; omega
  clear hr2 ho12 ho2 hb23 hg3 hbw2 hz hz1 hz2 e8 hb3 HA1
  refine (l11Least_any _ _ cs _ ho13.ri (by omega)).mono ?_
  rintro _ w4 ⟨b, hb, rfl, hb4⟩
  have hba : b = ((gA (groups0 cs)).2.1 : Int) := by
    rcases arrW_least (arrW_start HOK.out) hb.out with ⟨h1, _⟩ | ⟨_, h1⟩
    · have := HGL.out; rw [h1] at this; simp at this
    · exact h1
  obtain ⟨ia, hia⟩ : ∃ ia, ia = (gA (groups0 cs)).2.1 := ⟨_, rfl⟩
  rw [← hia] at hba
  subst hba
  have hia8 : ia < cs.length := by rw [hia]; exact ((arrW_start HOK.out).pos _ (gA_mem HGL.out)).1
  have HX0 : Hid (cs.getD ia 0 = (gA (groups0 cs)).1) := by unfold Hid; rw [hia]; exact ((arrW_start HOK.out).pos _ (gA_mem HGL.out)).2.2
  have HIA := hid hia
  have hr4 := hr3.below hb4
  have ho14 := ho13.below hb4
  have ho24 := ho23.below hb4
  have ho34 := ho3.below hb4
  have hbw4 := below_on hbw3 hb4
  have HS4 := hid hb4.size
  obtain ⟨ad, x, rfl, hx, hcx⟩ := hr4.get hia8
  have HX : Hid (x = (gA (groups0 cs)).1) := by unfold Hid; rw [← HX0.out, getD_hid hx.out]
  obtain ⟨S, hS⟩ : ∃ S, S = sumL cs := ⟨_, rfl⟩
  have hsum : ∀ s : Ext w4, Calls Try.prog 130 #[.slice (some ad) cs.length c] s.val (PN s.val S) := fun s => hS ▸ l3Sum_any _ _ _ _ (hr4.below s.bel) (by omega) (fun x hx => by have := HBD.out x hx; omega)
  have kc : ∀ s : Ext w4, s.val.cell? (ad.add ia) = some (.int .i64 x) := fun s => RI.cellAt (hr4.below s.bel) hx.out
  have HSX : Hid (S = x ↔ (groups0 cs).length = 1) := by unfold Hid; rw [hS, HX.out]; exact sum_one HOK.out HGL.out
  clear hia hb hS hr3 ho13 ho23 ho3 hbw3 hb4 hx hcx HX0 HX
  by_cases h1 : (groups0 cs).length = 1
  · have hq2 : (S == x) = true := by rw [beq_iff_eq]; exact HSX.out.2 h1
    have HF : Hid (huff cs = L0.set ia 1) := by
      unfold Hid huff
      rw [huS_end (by omega)]
      unfold out0
      rw [if_pos h1, HL0.out, HIA.out]
      congr 1
      obtain ⟨g, hg⟩ := List.length_eq_one_iff.1 h1
      have hm : g ∈ groups0 cs := by rw [hg]; simp
      obtain ⟨s, hs, rfl⟩ := List.mem_map.1 hm
      rw [hg]
      unfold gA
      rw [gA_one]; rfl
    clear h1
    go_wp2_with fail
    refine wp_region_ext (by kernel_rfl) (by kernel_rfl) ?_; (repeat (go_big_quiet_step (first | (go_at_call 130; exact ext_PN (hsum _))))); refine wpQuiet_nil ?_; intro _ hw_; obtain ⟨sx, hw2_⟩ := hw_; subst hw2_
    have ho5 := ho34.below sx.bel
    have hbw5 := below_on hbw4 sx.bel
    have HL8 : Hid (L0.length = 8) := by unfold Hid; rw [HL0.out]; rfl
    obtain ⟨ad3, y, rfl, HY, hc3⟩ := ho5.ri.get (k := ia) (by rw [HL8.out]; omega)
    obtain ⟨hs1, hs2, hs3⟩ := ho5.store ia 1
    have hbw6 := OI.belowOwn hbw5 ho5 hs2 (by have := HS1.out; have := HS2.out; omega)
    have hi8 : (ia : Int) < 8 := by omega
    go_wp2_with fail
    go_ret2
    have e : (L0.set ia 1).length = 8 := by rw [List.length_set]; exact HL8.out
    exact ⟨_, _, L0.set ia 1, true, hid (by rw [HF.out]; rfl), hid rfl, hs1.mono (by have := HS1.out; have := HS2.out; omega), by rw [e]; rfl, hbw6⟩
  · have hq2 : (S == x) = false := by rw [beq_eq_false_iff_ne]; exact fun h => h1 (HSX.out.1 h)
    have HP : Hid (huP cs (groups0 cs) cs G0 L0) := by
      unfold Hid
      rw [hG0.out, HL0.out]
      exact huP_start HOK.out (by have := HGL.out; omega)
    clear h1 HSX hG0 HL0 HIA hq
    go_wp2_with fail
    refine wp_region_ext (by kernel_rfl) (by kernel_rfl) ?_; (repeat (go_big_quiet_step (first | (go_at_call 130; exact ext_PN (hsum _))))); refine wpQuiet_nil ?_; intro _ hw_; obtain ⟨sx, hw2_⟩ := hw_; subst hw2_
    have hr5 := hr4.below sx.bel
    have ho15 := (ho14.below sx.bel)
    have ho25 := (ho24.below sx.bel).mono (show w.heap.size ≤ w1.heap.size from HS1.out)
    have ho35 := (ho34.below sx.bel).mono (show w.heap.size ≤ w2.heap.size by have := HS1.out; have := HS2.out; omega)
    have hbw5 := below_on hbw4 sx.bel
    clear hsum kc hr4 ho14 ho24 ho34 hbw4
    go_wp2_with fail
    go_loopg [4] 8 (fun m v wr => ∃ (gs : List Gp) (W G L : List Int) (A4 : Option Addr) (c4 : Nat), m + W.length = 16 ∧ v = .slice A4 W.length c4 ∧ Hid (huP cs gs W G L) ∧ OI wr w.heap.size A4 c4 W ∧ OI wr w.heap.size A2 c2 G ∧ OI wr w.heap.size A3 8 L ∧ Hid (∀ b, blk A4 = some b → blk A2 ≠ some b) ∧ Hid (∀ b, blk A4 = some b → blk A3 ≠ some b) ∧ Below w.heap.size w wr)
    case atStart => exact ⟨groups0 cs, cs, G0, L0, A1, c1, by omega, rfl, HP, ho15, ho25, ho35, HD12, HD13, hbw5⟩
    case round =>
      clear HP ho15 ho25 ho35 HD12 HD13 hbw5
      obtain ⟨gs, W, G, L, A4, c4, hm, rfl, hp, ho1, ho2, ho3, hd12, hd13, hbw⟩ := hrel
      obtain ⟨wo, rfl⟩ : ∃ wo : World, wo = wr := ⟨_, rfl⟩
      obtain ⟨n, hn⟩ : ∃ n, n = W.length := ⟨_, rfl⟩
      have hpos := hp.out.pos
      have hle := hp.out.le
      have HWB := hid (huP_bd hp.out)
      have hW16 : W.length ≤ 15 := by omega
      have HSP := hid (huP_pos hp.out)
      have HG8' := hid hp.out.grp.len
      have HL8 := hid hp.out.ok.len
      go_wp2_with fail
      refine (l3Sum_any _ _ _ _ ho1.ri (by omega) (fun x hx => by have := HWB.out x hx; omega)).mono ?_
      rintro e w' ⟨S2, hS2, rfl, rfl⟩
      have hS3 : 0 < S2 := by rw [hS2.out]; exact HSP.out
      clear hS2 HSP
      go_wp2_with fail
      refine (l11Least_any _ _ W _ ho1.ri (by omega)).mono ?_
      rintro _ w1 ⟨b, hb, rfl, hb1⟩
      have hba : b = ((gA gs).2.1 : Int) := by
        rcases arrW_least hp.out.arr hb.out with ⟨h1, _⟩ | ⟨_, h1⟩
        · rw [h1] at hpos; simp at hpos
        · exact h1
      obtain ⟨ia, hia⟩ : ∃ ia, ia = (gA gs).2.1 := ⟨_, rfl⟩
      rw [← hia] at hba
      subst hba
      have hpa := hp.out.arr.pos _ (gA_mem hpos)
      rw [← hia] at hpa
      have hiaW : ia < W.length := hpa.1
      have HXA := hid hpa.2.2
      have HIA := hid hia
      clear hb hpa hia
      have ho11 := ho1.below hb1
      have ho21 := ho2.below hb1
      have ho31 := ho3.below hb1
      have hbw1 := below_on hbw hb1
      clear ho1 ho2 ho3 hbw hb1
      obtain ⟨ad4, x, rfl, HX, hcx⟩ := ho11.ri.get hiaW
      have HXX : Hid (x = (gA gs).1) := by unfold Hid; rw [← HXA.out, getD_hid HX.out]
      obtain ⟨hs1, hs2, hs3⟩ := ho11.store ia 0
      have ho22 := ho21.grown hs2 (fun g hg e => hd12.out _ (Option.some.inj e ▸ rfl) hg)
      have ho32 := ho31.grown hs2 (fun g hg e => hd13.out _ (Option.some.inj e ▸ rfl) hg)
      have hbw2 := OI.belowOwn hbw1 ho11 hs2 (Nat.le_refl _)
      have hx8 : 0 ≤ x ∧ x ≤ 8000 := HWB.out x (List.mem_of_getElem? HX.out)
      obtain ⟨hx0, hx1⟩ := hx8
      have HW1 : Hid (arrW (gR gs) (W.set ia 0)) := by unfold Hid; rw [HIA.out]; exact arrW_take hp.out.arr hpos
      have HWL1 : Hid ((W.set ia 0).length = W.length) := by unfold Hid; rw [List.length_set]
      clear ho11 ho21 ho31 hbw1 hs2 HX HXA
      obtain ⟨W1, hW1⟩ : ∃ W1, W1 = W.set ia 0 := ⟨_, rfl⟩
      rw [← hW1] at hs1 HW1 HWL1
      have HWW := hid hW1
      go_wp2_with fail
      have hl2 := l11Least_any (some ad4) c4 W1 _ hs1.ri (by have := HWL1.out; omega)
      rw [HWL1.out] at hl2
      refine hl2.mono ?_
      clear hl2
      rintro _ w3 ⟨b, hb, rfl, hb3⟩
      have hs13 := hs1.below hb3
      have ho23 := ho22.below hb3
      have ho33 := ho32.below hb3
      have hbw3 := below_on hbw2 hb3
      clear hs1 ho22 ho32 hbw2 hb3
      by_cases h1 : gs.length = 1
      · have hbm : b = -1 := by
          rcases arrW_least HW1.out hb.out with ⟨_, h2⟩ | ⟨h2, _⟩
          · exact h2
          · have := gR_length hpos; omega
        subst hbm
        have HF : Hid (huff cs = L) := by unfold Hid; rw [← hp.out.eq, huS_end (by omega)]
        have HU : Hid (usedL cs L = L) := hid (used_end rfl hp.out.ok)
        clear hb h1
        go_wp2_with fail
        have hu := l11Used_any (some ad) A3 c 8 cs L w3 (HR.out.below hbw3) ho33.ri (by have := HL8.out; omega) (by have := HL8.out; omega)
        rw [HL8.out, HU.out] at hu
        refine hu.mono ?_
        clear hu
        rintro _ w5 ⟨A5, c5, ys, hys, ho5, rfl, hb5⟩
        go_wp2_with fail
        go_ret2
        exact PLB_some (by rw [HF.out, hys.out]) (ho5.mono hbw3.size) (below_on hbw3 hb5)
      · have hl1 : 1 < gs.length := by omega
        have hrl := gR_length hpos
        have hbb : b = ((gA (gR gs)).2.1 : Int) := by
          rcases arrW_least HW1.out hb.out with ⟨h2, _⟩ | ⟨_, h2⟩
          · rw [h2] at hrl; simp at hrl; omega
          · exact h2
        obtain ⟨ib, hib⟩ : ∃ ib, ib = (gA (gR gs)).2.1 := ⟨_, rfl⟩
        rw [← hib] at hbb
        subst hbb
        have hpb := HW1.out.pos _ (gA_mem (by omega))
        rw [← hib] at hpb
        have hibW : ib < W.length := by have := hpb.1; have := HWL1.out; omega
        have hibW1 : ib < W1.length := hpb.1
        have HYB := hid hpb.2.2
        have HIB := hid hib
        have HL1 := hid hl1
        clear hb hpb hib h1 hl1 hrl
        have hib0 : ¬ (ib : Int) < 0 := by omega
        obtain ⟨_, y, he, HY, hcy⟩ := hs13.ri.get hibW1
        injection he with he
        subst he
        have HYY : Hid (y = (gA (gR gs)).1) := by unfold Hid; rw [← HYB.out, getD_hid HY.out]
        have hyb : 0 ≤ y ∧ y ≤ 8000 := by
          have hm := List.mem_of_getElem? HY.out
          rw [HWW.out] at hm
          rcases List.mem_or_eq_of_mem_set hm with hm | hm
          · exact HWB.out y hm
          · omega
        obtain ⟨hy0, hy1⟩ := hyb
        obtain ⟨ht1, ht2, ht3⟩ := hs13.store ib 0
        have ho24 := ho23.grown ht2 (fun g hg e => hd12.out _ (Option.some.inj e ▸ rfl) hg)
        have ho34 := ho33.grown ht2 (fun g hg e => hd13.out _ (Option.some.inj e ▸ rfl) hg)
        have hbw4 := OI.belowOwn hbw3 hs13 ht2 (Nat.le_refl _)
        clear hs13 ho23 ho33 hbw3 ht2 HY HYB
        go_wp2_with fail
        have hj := l11Join_any w.heap.size w.heap.size A2 A3 c2 8 G L ia W.length _ ho24 ho34 HG8'.out HL8.out HD23.out (fun x hx => by have := huP_len hp.out x hx; omega)
        rw [HG8'.out, HL8.out] at hj
        refine hj.mono ?_
        clear hj
        rintro _ w5 ⟨G1, L1, hj1, hg1, hl1, rfl, ht⟩
        have hv1 := ht.oi ht1 (fun g hg => fun e => hd12.out g hg e) (fun g hg => fun e => hd13.out g hg e)
        have hbw5 := Two.below hbw4 ht (fun g hg => (OI.lt ho24 hg).1) (fun g hg => (OI.lt ho34 hg).1)
        have HG1 := hid hj1.out.lg
        have HL1' := hid hj1.out.ll
        have HB1 := hid (joinP_bd hj1.out (by omega) (huP_len hp.out))
        clear ht1 ho24 ho34 hbw4 ht
        go_wp2_with fail
        have hj := l11Join_any w.heap.size w.heap.size A2 A3 c2 8 G1 L1 ib W.length _ hg1 hl1 HG1.out HL1'.out HD23.out (fun x hx => by have := HB1.out x hx; omega)
        rw [HG1.out, HL1'.out] at hj
        refine hj.mono ?_
        clear hj
        rintro _ w6 ⟨G2, L2, hj2, hg2, hl2, rfl, ht⟩
        have hv2 := ht.oi hv1 (fun g hg => fun e => hd12.out g hg e) (fun g hg => fun e => hd13.out g hg e)
        have hbw6 := Two.below hbw5 ht (fun g hg => (OI.lt hg1 hg).1) (fun g hg => (OI.lt hl1 hg).1)
        have HN : Hid (huP cs (gNext gs W.length) (W1.set ib 0 ++ [x + y]) G2 L2) := by
          unfold Hid
          have h1 := hj1.out
          have h2 := hj2.out
          rw [HIA.out] at h1
          rw [HIB.out] at h2
          rw [HWW.out, HIA.out, HIB.out, HXX.out, HYY.out]
          exact huP_next hp.out HL1.out h1 h2
        have HWL2 : Hid ((W1.set ib 0).length = W.length) := by unfold Hid; rw [List.length_set, HWL1.out]
        obtain ⟨W2, hW2⟩ : ∃ W2, W2 = W1.set ib 0 := ⟨_, rfl⟩
        rw [← hW2] at hv2 HN HWL2
        clear hW2 hv1 hg1 hl1 hbw5 ht hj1 hj2
        have hsz := hbw6.size
        go_wp2_with (at_builtin; refine wpl_app2 intT rfl _ _ rfl W2 rfl HWL2.out.symm (hv2.alloc _) [x + y] rfl rfl (RI.one w6 (x + y)) (by have := HWL2.out; simp; omega) (by simp; omega) ?_; intro A7 c7 w7 us hu ho7 hg7 hat7; have hat8 := hid hat7; clear hat7)
        have hg8 := (hg2.alloc (.cells #[.int .i64 (x + y)] 3)).grown hg7 (fun g hg e => hd12.out g e hg)
        have hl8 := (hl2.alloc (.cells #[.int .i64 (x + y)] 3)).grown hg7 (fun g hg e => hd13.out g e hg)
        have hbw7 := OI.belowOwn (below_on hbw6 (below_new _ _)) (hv2.alloc _) hg7 (Nat.le_refl _)
        have HD2 : Hid (∀ b, blk A7 = some b → blk A2 ≠ some b) := hid fun b h1 h2 => by
          have h3 := (OI.lt hg2 h2).2
          rcases hat8.out with h | h
          · exact hd12.out b (h ▸ h1) h2
          · rw [h] at h1; injection h1 with h1; simp at h1; omega
        have HD3 : Hid (∀ b, blk A7 = some b → blk A3 ≠ some b) := hid fun b h1 h2 => by
          have h3 := (OI.lt hl2 h2).2
          rcases hat8.out with h | h
          · exact hd13.out b (h ▸ h1) h2
          · rw [h] at h1; injection h1 with h1; simp at h1; omega
        have HN2 : Hid (huP cs (gNext gs W.length) us G2 L2) := by unfold Hid; rw [hu.out]; exact HN.out
        have hul : us.length = W.length + 1 := by rw [hu.out, List.length_append, HWL2.out]; rfl
        clear hg2 hl2 hg7 hv2 hbw6 hu HN
        go_roundg (gk - 1)
        case measure => omega
        case rel => exact ⟨gNext gs W.length, us, G2, L2, A7, c7, by omega, rfl, HN2, ho7, hg8, hl8, HD2, HD3, hbw7⟩
end Go.Proofs.Ytamljhjbmeikiaa
/- Contracts: the least group is taken. No condition. -/
namespace Go.Proofs.Ytamljhjbmeikiaa
open Go Go.RowKit
def gm0 : Gm := (gp0, none, 0)
def gps (ms : List Gm) : List Gp := ms.map fun m => m.1
def mA (ms : List Gm) : Gm := ms.getD (least (gps ms)) gm0
def mR (ms : List Gm) : List Gm := ms.eraseIdx (least (gps ms))
theorem gps_length (ms : List Gm) : (gps ms).length = ms.length := by simp [gps]
theorem gps_at {ms : List Gm} {k : Nat} {m : Gm} (h : ms[k]? = some m) : (gps ms).getD k gp0 = m.1 := by
  rw [List.getD_eq_getElem?_getD]; unfold gps; rw [List.getElem?_map, h]; rfl
theorem gps_R (ms : List Gm) : gps (mR ms) = gR (gps ms) := by unfold gps mR gR gps; rw [List.eraseIdx_eq_take_drop_succ, List.eraseIdx_eq_take_drop_succ, List.map_append, List.map_take, List.map_drop]
theorem gps_A {ms : List Gm} (h : 0 < ms.length) : (mA ms).1 = gA (gps ms) ∧ ms[least (gps ms)]? = some (mA ms) ∧ least (gps ms) < ms.length := by
  have hl := least_lt (gs := gps ms) (by rw [gps_length]; exact h)
  rw [gps_length] at hl
  have e : ms[least (gps ms)]? = some (mA ms) := by unfold mA; rw [List.getD_eq_getElem?_getD, List.getElem?_eq_getElem hl]; rfl
  exact ⟨(gps_at e).symm, e, hl⟩
theorem gmAt {w : World} {base c : Nat} {E : TypeId} {ad : Addr} {ms : List Gm} (h : OS eGm w base E (some ad) c ms) {k : Nat} {m : Gm} (hm : ms[k]? = some m) :
    w.cell? (ad.add (k * 2)) = some (.int .i64 m.1.1) ∧ w.cell? ⟨(ad.add (k * 2)).block, (ad.add (k * 2)).off + 1, none⟩ = some (.slice m.2.1 m.1.2.2.length m.2.2) := by
  obtain ⟨ad', e, _, hc⟩ := RS.at_ h.rs hm (by decide)
  injection e with e
  subst e
  have c0 := hc 0 (by decide)
  have c1 := hc 1 (by decide)
  have e1 : ad.add (k * eGm.sz + 1) = ⟨(ad.add (k * 2)).block, (ad.add (k * 2)).off + 1, none⟩ := add_field ad (k * 2) (by decide)
  rw [e1] at c1
  exact ⟨c0, c1⟩
theorem BX.keepRow {w w' : World} {b : Nat} {vs : Array Value} {T : TypeId} (h : BX w b vs T) {row : Option Nat} (hg : w.grownBy w' row) (hne : row ≠ some b) : BX w' b vs T := (hg.block b h.lt (fun e => hne e.symm)).trans h
/-- What the taking of the least group leaves: only the variable's block has turned. -/
def PTake (w : World) (X : Nat) (ms : List Gm) (e : Ending) (w' : World) : Prop :=
  ∃ Ag' cg', e = .returned (.agg #[.int .i64 (mA ms).1.1, .slice (mA ms).2.1 (mA ms).1.2.2.length (mA ms).2.2]) ∧ BX w' X #[.slice Ag' (mR ms).length cg'] 93 ∧
    OS eGm w' w.heap.size 95 Ag' cg' (mR ms) ∧ w.grownBy w' (some X)
set_option maxHeartbeats 1000000 in
theorem take_any (X : Nat) (Ag : Option Addr) (cg base : Nat) (ms : List Gm) (w : World) (hx : BX w X #[.slice Ag ms.length cg] 93) (ho : OS eGm w base 95 Ag cg ms) (h0 : 0 < ms.length) (hn : ms.length ≤ 100) :
    Calls Try.prog 98 #[.pointer (some ⟨X, 0, none⟩)] w (PTake w X ms) := by
  obtain ⟨ad, rfl⟩ := OS.some ho h0 (by decide)
  have hX := hx.lt
  have k0 := hx.cell 0
  simp at k0
  have hb0 := below_new w (.cells #[.int .i64 0, .slice none 0 0] 95)
  have k0' : (w.alloc (.cells #[.int .i64 0, .slice none 0 0] 95)).cell? ⟨X, 0, none⟩ = some (.slice (some ad) ms.length cg) := (hb0.cell (by exact hX)).trans k0
  go_enter Try.func98, Try.ntmps98
  go_wp2_with fail
  go_loopw [2, 8] (fun v t wr => ∃ k b : Nat, k ≤ ms.length ∧ t = .int .i64 k ∧ v = .int .i64 b ∧ b ≤ k ∧ Hid (b = leastK (gps ms) k) ∧ Below w.heap.size w wr ∧ w.heap.size + 1 ≤ wr.heap.size ∧ BX wr w.heap.size #[.int .i64 0, .slice none 0 0] 95) (fun _ t _ => ms.length - (intOf t).toNat)
  case atStart => exact ⟨0, 0, by omega, rfl, rfl, by omega, hid rfl, hb0, by simp, BX.new _ _ _⟩
  case round =>
    obtain ⟨k, b, hk, rfl, rfl, hbk, hb, hbw, hsz, hR⟩ := hrel
    obtain ⟨wo, rfl⟩ : ∃ wo : World, wo = wr := ⟨_, rfl⟩
    by_cases hlt : k < ms.length
    · have HB : Hid (leastK (gps ms) (k + 1) = if ((gps ms).getD k gp0).1 < ((gps ms).getD b gp0).1 then k else b) := by unfold Hid; rw [leastK, ← hb.out]
      have hbl : b < ms.length := by omega
      obtain ⟨m, hm⟩ : ∃ m, ms[k]? = some m := ⟨_, List.getElem?_eq_getElem hlt⟩
      obtain ⟨m2, hm2⟩ : ∃ m, ms[b]? = some m := ⟨_, List.getElem?_eq_getElem hbl⟩
      rw [gps_at hm, gps_at hm2] at HB
      obtain ⟨c0, c1⟩ := gmAt (ho.below hbw) hm
      obtain ⟨d0, d1⟩ := gmAt (ho.below hbw) hm2
      have kx := (hx.below hbw).cell 0
      simp at kx
      have d2 := (gmAt ((ho.below hbw).alloc (.cells #[.int .i64 m.1.1, .slice m.2.1 m.1.2.2.length m.2.2] 95)) hm2).1
      have ky := ((hx.below hbw).alloc (.cells #[.int .i64 m.1.1, .slice m.2.1 m.1.2.2.length m.2.2] 95)).cell 0
      simp at ky
      have hb2 := below_on hbw (below_new wo (.cells #[.int .i64 m.1.1, .slice m.2.1 m.1.2.2.length m.2.2] 95))
      have hR2 := hR.alloc (.cells #[.int .i64 m.1.1, .slice m.2.1 m.1.2.2.length m.2.2] 95)
      clear hm hm2
      by_cases hlw : m.1.1 < m2.1.1
      · have hd : decide (m.1.1 < m2.1.1) = true := by simp [hlw]
        have HN : Hid (k = leastK (gps ms) (k + 1)) := by unfold Hid; rw [HB.out, if_pos hlw]
        clear hlw HB
        go_wp2_with fail
        go_quiet (fail)
        go_wp2_with fail
        go_roundw
        case rel => exact ⟨k + 1, k, by omega, by go_num, rfl, by omega, HN, below_drewN hb2 _, by simp; omega, hR2⟩
        case measure => simp [intOf]; omega
      · have hd : decide (m.1.1 < m2.1.1) = false := by simp; omega
        have HN : Hid (b = leastK (gps ms) (k + 1)) := by unfold Hid; rw [HB.out, if_neg hlw]
        clear hlw HB
        go_wp2_with fail
        go_quiet (fail)
        go_wp2_with fail
        go_roundw
        case rel => exact ⟨k + 1, b, by omega, by go_num, rfl, by omega, HN, below_drewN hb2 _, by simp; omega, hR2⟩
        case measure => simp [intOf]; omega
    · have hb' : b = least (gps ms) := by rw [hb.out, show k = ms.length by omega, ← gps_length]; rfl
      obtain ⟨g1, g2, g3⟩ := gps_A h0
      rw [← hb'] at g2 g3
      have HBB := hid hb'
      obtain ⟨mm, hmm⟩ : ∃ mm, mm = mA ms := ⟨_, rfl⟩
      rw [← hmm] at g2
      obtain ⟨c0, c1⟩ := gmAt (ho.below hbw) g2
      have kx := (hx.below hbw).cell 0
      simp at kx
      have HMM := hid hmm
      clear hb hb' g1 g2 hmm
      go_wp2_with fail
      have hR2 := hR.alloc (.cells #[.int .i64 mm.1.1, .slice mm.2.1 mm.1.2.2.length mm.2.2] 95)
      have hG2 := BX.new wo #[.int .i64 mm.1.1, .slice mm.2.1 mm.1.2.2.length mm.2.2] 95
      have hx2 := (hx.below hbw).alloc (.cells #[.int .i64 mm.1.1, .slice mm.2.1 mm.1.2.2.length mm.2.2] 95)
      have ho2 := (ho.below hbw).alloc (.cells #[.int .i64 mm.1.1, .slice mm.2.1 mm.1.2.2.length mm.2.2] 95)
      have hb2 := below_on hbw (below_new wo (.cells #[.int .i64 mm.1.1, .slice mm.2.1 mm.1.2.2.length mm.2.2] 95))
      have hbsz := hbw.size
      have hsz2 : w.heap.size + 1 ≤ (wo.alloc (.cells #[.int .i64 mm.1.1, .slice mm.2.1 mm.1.2.2.length mm.2.2] 95)).heap.size := by simp; omega
      generalize (wo.alloc (.cells #[.int .i64 mm.1.1, .slice mm.2.1 mm.1.2.2.length mm.2.2] 95)) = w2 at *
      clear hR c0 c1 kx hbw k0 k0' hb0
      have hcap := ho2.rs.cap
      have hcap0 : b ≤ cg := by omega
      have hcap1 : b + 1 ≤ cg := by omega
      have hcap2 : (0 : Int) ≤ (b : Int) + 1 := by omega
      have hcap3 : (b : Int) + 1 ≤ (ms.length : Int) := by omega
      have hw1 : IntKind.i64.wrap ((b : Int) + 1) = (b : Int) + 1 := IntWalk.i64_in _ (by omega)
      have kx2 : ((w2.alloc (.cells #[] 95)).drew).cell? ⟨X, 0, none⟩ = some (.slice (some ad) ms.length cg) := by simpa using ((hx2.alloc (.cells #[] 95)).drew).cell 0
      have kx1 := hx2.cell 0
      simp at kx1
      go_region_law (first | ((refine stp_appS2 grT rfl _ _ rfl us rfl rfl hou (ms.drop (b + 1)) rfl (by simp) (RS.cutAt (k := b + 1) ho7.rs (by omega)) (by simp; omega) (by omega) (by simp at hs7; omega) ?_; intro A8 c8 w8 vs hv hov hg8 hat8; clear hat8; have hx8 := hx7.keepRow hg8 (fun e => by have := (OS.lt hou e).1; have := hx2.lt; omega); have kx8 := hx8.cell 0; simp at kx8; have kf8 := hx8.frozen 0)) | ((refine stp_appS2 grT rfl _ _ rfl [] rfl rfl (OS.empty eGm w2 w2.heap.size 95 (Nat.le_refl _)).drew (ms.take b) rfl (by simp; omega) (RS.takeAt (k := b) ((ho2.alloc (.cells #[] 95)).drew).rs (by omega)) (by simp; omega) (by omega) (by simp) ?_; intro A7 c7 w7 us hu hou hg7 hat7; clear hat7; have ho7 := OS.grown ((ho2.alloc (.cells #[] 95)).drew) hg7 (fun g hg e => by have := (OS.lt ho2 hg).2; simp [blk] at e; omega); have hs7 := hg7.size; have hul : us.length ≤ 100 := (by have := congrArg List.length hu.out; simp at this; omega); have hx7 := ((hx2.alloc (.cells #[] 95)).drew).keepRow hg7 (fun e => by have := hx2.lt; simp [blk] at e; omega); have kx7 := hx7.cell 0; simp at kx7)))
      all_goals
        have HV : Hid (vs = mR ms) := by unfold Hid mR; rw [hv.out, hu.out, List.eraseIdx_eq_take_drop_succ, ← HBB.out]; rfl
        have hG7 := ((hG2.alloc (.cells #[] 95)).drew).keepRow hg7 (fun e => by have := hG2.lt; simp [blk] at e; omega)
        have hR7 := ((hR2.alloc (.cells #[] 95)).drew).keepRow hg7 (fun e => by have := hR2.lt; simp [blk] at e; omega)
        have hG8 := hG7.keepRow hg8 (fun e => by have := (OS.lt hou e).1; have := hG2.lt; omega)
        have hR8 := hR7.keepRow hg8 (fun e => by have := (OS.lt hou e).1; have := hR2.lt; omega)
        have hgb8 := gb_own (gb_own (gb_of (below_on hb2 (below_new w2 (.cells #[] 95))).drew (some X)) hg7 (fun g hg => by simp [blk] at hg; omega)) hg8 (fun g hg => by have := (OS.lt hou hg).1; omega)
        have hgb9 := gb_trans hgb8 (gb_setCell w8 ⟨X, 0, none⟩ (.slice A8 vs.length c8))
        have hX9 := hx8.set 0 (.slice A8 vs.length c8)
        have hG9 := hG8.other (a := ⟨X, 0, none⟩) (.slice A8 vs.length c8) (by simp; omega)
        have hR9 := hR8.other (a := ⟨X, 0, none⟩) (.slice A8 vs.length c8) (by simp; omega)
        have hov9 := hov.past (gb_setCell w8 ⟨X, 0, none⟩ (.slice A8 vs.length c8)) (by simp; omega)
        have hblk9 : ∀ g, blk A8 = some g → w2.heap.size ≤ g := fun g hg => (OS.lt hov9 hg).1
        clear hv hu hg7 hg8 hG7 hR7 hG8 hR8 hgb8 hov kx8 kf8 kx7 hx7 ho7 hou hx8 kx2 kx1 ho2 hx2 hG2 hR2
        generalize w8.setCell ⟨X, 0, none⟩ (.slice A8 vs.length c8) = w9 at *
        have g0 := hG9.cell 0
        have g1 := hG9.cell 1
        have r0 := hR9.cell 0
        have r1 := hR9.cell 1
        have f0 := hR9.frozen 0
        have f1 := hR9.frozen 1
        simp at g0 g1 r0 r1
        have hR10 := (hR9.set 0 (.int .i64 mm.1.1)).set 1 (.slice mm.2.1 mm.1.2.2.length mm.2.2)
        have t0 := hR10.cell 0
        have t1 := hR10.cell 1
        simp at t0 t1
        have hX10 := (hX9.other (a := ⟨w.heap.size, 0, none⟩) (.int .i64 mm.1.1) (by simp; omega)).other (a := ⟨w.heap.size, 1, none⟩) (.slice mm.2.1 mm.1.2.2.length mm.2.2) (by simp; omega)
        simp at hX10
        have hgbA := gb_own (gb_own hgb9 (gb_setCell w9 ⟨w.heap.size, 0, none⟩ (.int .i64 mm.1.1)) (fun g hg => by simp at hg; omega)) (gb_setCell _ ⟨w.heap.size, 1, none⟩ (.slice mm.2.1 mm.1.2.2.length mm.2.2)) (fun g hg => by simp at hg; omega)
        have hov10 := ((hov9.past (gb_setCell w9 ⟨w.heap.size, 0, none⟩ (.int .i64 mm.1.1)) (by simp; omega)).past (gb_setCell _ ⟨w.heap.size, 1, none⟩ (.slice mm.2.1 mm.1.2.2.length mm.2.2)) (by simp; omega)).mono (show w.heap.size ≤ w2.heap.size by omega)
        clear hov9 hX9 hgb9 hR9 hG9 hblk9
        go_wp2_with fail
      all_goals
        refine bodyPost_ret (v := .agg #[.int .i64 mm.1.1, .slice mm.2.1 mm.1.2.2.length mm.2.2]) (by simp [results, Try.results98, go_sem, t0, t1]) rfl ?_
        have e := HV.out
        subst e
        exact ⟨A8, c8, by rw [← HMM.out], hX10, hov10, hgbA⟩
end Go.Proofs.Ytamljhjbmeikiaa
/- Contracts: lengths of codes, of the program. No condition. -/
namespace Go.Proofs.Ytamljhjbmeikiaa
open Go Go.RowKit
/-- The groups of the first k symbols. -/
def g0K (cs : List Int) (k : Nat) : List Gp := ((List.range k).filter fun s => decide (0 < cs.getD s 0)).map fun s => (cs.getD s 0, s, [s])
theorem g0K_yes {cs : List Int} {k : Nat} {x : Int} (h : cs[k]? = some x) (hx : 0 < x) : g0K cs (k + 1) = g0K cs k ++ [(x, k, [k])] := by
  unfold g0K
  rw [List.range_succ, List.filter_append, List.map_append]
  simp [List.getD_eq_getElem?_getD, h, hx]
theorem g0K_no {cs : List Int} {k : Nat} {x : Int} (h : cs[k]? = some x) (hx : ¬ 0 < x) : g0K cs (k + 1) = g0K cs k := by
  unfold g0K
  rw [List.range_succ, List.filter_append, List.map_append]
  simp [List.getD_eq_getElem?_getD, h, hx]
theorem g0K_le (cs : List Int) (k : Nat) : (g0K cs k).length ≤ k := by
  unfold g0K; rw [List.length_map]
  exact Nat.le_trans (List.length_filter_le _ _) (by simp)
/-- The groups in memory: the variable's block X, the lengths' block O. -/
structure GSt (w0 w : World) (X O : Nat) (ms : List Gm) (Ag : Option Addr) (cg : Nat) : Prop where
  box : BX w X #[.slice Ag ms.length cg] 93
  row : OS eGm w w0.heap.size 95 Ag cg ms
  sy : ∀ m ∈ ms, OI w (X + 1) m.2.1 m.2.2 (nints m.1.2.2)
  dis : ∀ m ∈ ms, ∀ b, blk m.2.1 = some b → blk Ag ≠ some b
  agX : blk Ag ≠ some X
  agO : blk Ag ≠ some O
  hOX : O < X
  hO : w0.heap.size ≤ O
  bel : Below w0.heap.size w0 w
section
variable {w0 w w' : World} {X O cg : Nat} {ms : List Gm} {Ag : Option Addr}
theorem GSt.below (h : GSt w0 w X O ms Ag cg) (hb : Below w.heap.size w w') : GSt w0 w' X O ms Ag cg :=
  ⟨h.box.below hb, h.row.below hb, fun m hm => (h.sy m hm).below hb, h.dis, h.agX, h.agO, h.hOX, h.hO, below_on h.bel hb⟩
/-- The lengths' block has turned. -/
theorem GSt.outs (h : GSt w0 w X O ms Ag cg) (hg : w.grownBy w' (some O)) : GSt w0 w' X O ms Ag cg :=
  ⟨h.box.past hg (by have := h.hOX; omega), h.row.grown hg (fun g hg' e => h.agO (hg'.trans e.symm)), fun m hm => (h.sy m hm).past hg (by have := h.hOX; omega), h.dis, h.agX, h.agO, h.hOX, h.hO,
    below_gb (gb_trans (gb_of h.bel _) hg) h.hO⟩
theorem GSt.take (h : GSt w0 w X O ms Ag cg) (h0 : 0 < ms.length) {Ag' : Option Addr} {cg' : Nat} (hx : BX w' X #[.slice Ag' (mR ms).length cg'] 93) (ho : OS eGm w' w.heap.size 95 Ag' cg' (mR ms)) (hg : w.grownBy w' (some X)) :
    GSt w0 w' X O (mR ms) Ag' cg' ∧ OI w' (X + 1) (mA ms).2.1 (mA ms).2.2 (nints (mA ms).1.2.2) ∧ mA ms ∈ ms := by
  have hm := List.mem_of_getElem? (gps_A h0).2.1
  have hXl := h.box.lt
  have hOX := h.hOX
  refine ⟨⟨hx, ho.mono h.bel.size, fun m hm => (h.sy m (eraseIdx_mem hm)).past hg (by omega), fun m hm b hb1 hb2 => ?_, fun e => ?_, fun e => ?_, h.hOX, h.hO, below_gb (gb_trans (gb_of h.bel _) hg) (by have := h.hO; omega)⟩, (h.sy _ hm).past hg (by omega), hm⟩
  · have := (OI.lt (h.sy m (eraseIdx_mem hm)) hb1).2
    have := (OS.lt ho hb2).1
    omega
  · have := (OS.lt ho e).1; omega
  · have := (OS.lt ho e).1; omega
/-- A group more: the row has turned (or is new), then the variable. -/
theorem GSt.add {w1 : World} {A' : Option Addr} {c' : Nat} {zs : List Gm} {m : Gm} (h : GSt w0 w X O ms Ag cg) (hm : OI w (X + 1) m.2.1 m.2.2 (nints m.1.2.2)) (hne : ∀ b, blk m.2.1 = some b → blk Ag ≠ some b) (hz : zs = ms ++ [m])
    (ho : OS eGm w1 w0.heap.size 95 A' c' zs) (hg : w.grownBy w1 (blk Ag)) (hat : blk A' = blk Ag ∨ blk A' = some w.heap.size) :
    GSt w0 (w1.setCell ⟨X, 0, none⟩ (.slice A' zs.length c')) X O zs A' c' := by
  have hXl := h.box.lt
  have hOX := h.hOX
  have hO := h.hO
  have hbx : BX w1 X #[.slice Ag ms.length cg] 93 := h.box.keepRow hg h.agX
  have hsy : ∀ k ∈ zs, OI w (X + 1) k.2.1 k.2.2 (nints k.1.2.2) ∧ ∀ b, blk k.2.1 = some b → blk Ag ≠ some b := fun k hk => by
    rw [hz] at hk
    rcases List.mem_append.1 hk with hk | hk
    · exact ⟨h.sy k hk, h.dis k hk⟩
    · simp at hk; subst hk; exact ⟨hm, hne⟩
  have hgX := gb_setCell w1 ⟨X, 0, none⟩ (.slice A' zs.length c')
  have hA'X : blk A' ≠ some X := fun e => by
    rcases hat with h1 | h1
    · exact h.agX (h1.symm.trans e)
    · rw [h1] at e; injection e with e; omega
  have hA'O : blk A' ≠ some O := fun e => by
    rcases hat with h1 | h1
    · exact h.agO (h1.symm.trans e)
    · rw [h1] at e; injection e with e; omega
  refine ⟨by simpa using hbx.set 0 (.slice A' zs.length c'), ho.grown hgX (fun g hg' e => hA'X (by injection e with e; rw [hg', ← e])), fun k hk => ?_, fun k hk b hb1 hb2 => ?_, hA'X, hA'O, h.hOX, h.hO, ?_⟩
  · exact ((hsy k hk).1.grown hg (fun g hg' => (hsy k hk).2 g hg')).past hgX (by simp)
  · rcases hat with h1 | h1
    · exact (hsy k hk).2 b hb1 (h1.symm.trans hb2)
    · rw [h1] at hb2
      injection hb2 with hb2
      have := (OI.lt (hsy k hk).1 hb1).2
      omega
  · exact below_gb (gb_trans (gb_own (gb_of h.bel (some X)) hg (fun g hg' => (OS.lt h.row hg').1)) hgX) (by omega)
end
theorem add0 (a : Addr) : a.add 0 = a := by simp [Addr.add]
theorem OI.past' {w w' : World} {base c g : Nat} {A : Option Addr} {xs : List Int} (h : OI w base A c xs) (hg : w.grownBy w' (some g)) (hne : ∀ b, blk A = some b → some g ≠ some b) : OI w' base A c xs := OI.grown h hg fun b hb => hne b hb
theorem os_one1 {α : Type} (F : Enc α) (w : World) (o : Obj) (E : TypeId) (x : α) (cs : Array Value) (hc : cs.toList = F.enc x) : OS F ((w.alloc o).alloc (.cells cs E)) (w.heap.size + 1) E (some ⟨w.heap.size + 1, 0, none⟩) 1 [x] := by
  have h := OS.one F (w.alloc o) (w.alloc o).heap.size E x cs hc (Nat.le_refl _)
  have hs : (w.alloc o).heap.size = w.heap.size + 1 := by simp
  rw [hs] at h
  exact h
/-- What the joining keeps. -/
structure huI (cs : List Int) (ms : List Gm) (L : List Int) : Prop where
  eq : ∃ n, huS 8 (gps ms) L n = huff cs
  ok : HOk (used cs) (gps ms) L
  gt : ∀ g ∈ gps ms, 0 < g.1
  sum : sumW (gps ms) ≤ 8000
  pos : 0 < ms.length
theorem ok_bd {us : List Nat} {gs : List Gp} {L : List Int} (h : HOk us gs L) : ∀ x ∈ L, 0 ≤ x ∧ x ≤ 8 := fun x hx => by
  obtain ⟨s, hs, rfl⟩ := List.mem_iff_getElem.1 hx
  have e : L.getD s 0 = L[s] := by rw [List.getD_eq_getElem?_getD, List.getElem?_eq_getElem hs]; rfl
  rw [← e]
  by_cases hm : s ∈ us
  · obtain ⟨g, hg, hsg⟩ := List.mem_flatMap.1 (h.pm.mem_iff.2 hm)
    have h1 := (h.ok g hg).lo s hsg
    have h2 := len_le_syms hg
    have h3 := h.pm.length_eq
    have h4 := us_le (h.pm.nodup_iff.1 h.nd) h.lt
    omega
  · rw [h.oth s hm]; omega
theorem sum_le8 {cs : List Int} (h : cntOk cs = true) : sumL cs ≤ 8000 := by
  have h8 := (cnt_bd h).1
  have hb := cnt_at h
  have h0 := hb 0; have h1 := hb 1; have h2 := hb 2; have h3 := hb 3; have h4 := hb 4; have h5 := hb 5; have h6 := hb 6; have h7 := hb 7
  match cs, h8 with
  | [a, b, c, d, e, f, g, i], _ =>
    have : sumL [a, b, c, d, e, f, g, i] = a + b + c + d + e + f + g + i := by simp [sumL]
    simp only [List.getD_cons_zero, List.getD_cons_succ] at h0 h1 h2 h3 h4 h5 h6 h7
    omega
theorem nints_app (a b : List Nat) : nints (a ++ b) = nints a ++ nints b := by simp [nints]
theorem nints_one (k : Nat) : nints [k] = [(k : Int)] := rfl
set_option maxHeartbeats 2000000 in
set_option maxRecDepth 100000 in
theorem LengthsOf_any (A : Option Addr) (c : Nat) (cs : List Int) (w : World) (hr : RI w A c cs) (hok : cntOk cs = true) (hne : used cs ≠ []) : Calls Try.prog 73 #[.slice A cs.length c] w (PLB w (some (huff cs))) := by
  have HOK := hid hok
  have hgl0 : 0 < (groups0 cs).length := by rw [groups0_length]; exact List.length_pos_iff.2 hne
  obtain ⟨h8, hbd⟩ := cnt_bd hok
  have HBD := hid hbd
  have h8a : cs.length ≤ 8 := by omega
  have h8b : 8 ≤ cs.length := by omega
  have HS0 : Hid (0 < sumL cs) := by
    unfold Hid
    rw [sumL_start hok]
    have hm := gA_mem hgl0
    have h1 := sumW_mem (fun g hg => ((arrW_start hok).pos g hg).2.1) _ hm
    have h2 := ((arrW_start hok).pos _ hm).2.1
    omega
  have HGL := hid hgl0
  have HR := hid hr
  clear hok hne hbd h8 hgl0
  go_enter Try.func73, Try.ntmps73
  go_wp2_with fail
  refine (CountsValid_any _ _ _ _ hr).mono ?_
  rintro e w' ⟨b3, hb3, rfl, rfl⟩
  obtain rfl : b3 = true := hb3.out.trans HOK.out
  clear hb3
  go_wp2_with fail
  refine (total_any _ _ _ _ hr (by omega) (fun x hx => by have := HBD.out x hx; omega)).mono ?_
  rintro e w' ⟨n, hn, rfl, rfl⟩
  have hq : (n == 0) = false := by
    have := HS0.out
    have := hn.out
    rw [beq_eq_false_iff_ne]; omega
  clear hn
  go_wp2_with (refine wpl_make intT rfl _ _ rfl 8 rfl rfl rfl rfl (by omega) w.heap.size (Nat.le_refl _) ?_; intro A1 w1 L0 hz hz1 hz2 ho1 hg1 hb1)
  have HL0 : Hid (L0 = zero8) := hid hz.out
  have e8 : L0.length = 8 := by omega
  rw [e8]
  have HO1 : Hid (blk A1 = some w.heap.size) := hid hb1
  have hbw1 : Below w.heap.size w w1 := (Below.refl _ _).grown hg1 (Nat.le_refl _) (by simp)
  have hsz1 : w.heap.size < w1.heap.size := (OI.lt ho1 hb1).2
  have hG0 : GSt w ((w1.alloc (.cells #[] 95)).alloc (.cells #[.slice (some ⟨w1.heap.size, 0, none⟩) 0 0] 93)) (w1.heap.size + 1) w.heap.size [] (some ⟨w1.heap.size, 0, none⟩) 0 := by
    refine ⟨?_, ((OS.empty eGm w1 w1.heap.size 95 (Nat.le_refl _)).alloc _).mono (Nat.le_of_lt hsz1), fun m hm => (by cases hm), fun m hm => (by cases hm), by simp [blk], by simp [blk]; omega, by omega, Nat.le_refl _, below_on (below_on hbw1 (below_new _ _)) (below_new _ _)⟩
    have := BX.new (w1.alloc (.cells #[] 95)) #[.slice (some ⟨w1.heap.size, 0, none⟩) 0 0] 93
    have hs : (w1.alloc (.cells #[] 95)).heap.size = w1.heap.size + 1 := by simp
    rw [hs] at this
    exact this
  have hoL := (ho1.alloc (.cells #[] 95)).alloc (.cells #[.slice (some ⟨w1.heap.size, 0, none⟩) 0 0] 93)
  generalize ((w1.alloc (.cells #[] 95)).alloc (.cells #[.slice (some ⟨w1.heap.size, 0, none⟩) 0 0] 93)) = w2 at *
  obtain ⟨X, hX⟩ : ∃ X, X = w1.heap.size + 1 := ⟨_, rfl⟩
  rw [← hX] at hG0 ⊢
  have hOX : w.heap.size < X := by omega
  generalize hAg0 : (some ⟨w1.heap.size, 0, none⟩ : Option Addr) = Ag0 at *
  clear hz hz1 hz2 hg1 hb1 ho1 hbw1 hsz1 hX hAg0 e8
  go_loopw [27] (fun t wr => ∃ (k : Nat) (ms : List Gm) (Ag : Option Addr) (cg : Nat), k ≤ cs.length ∧ t = .int .i64 k ∧ Hid (gps ms = g0K cs k) ∧ ms.length ≤ k ∧ GSt w wr X w.heap.size ms Ag cg ∧ OI wr w.heap.size A1 8 L0) (fun t _ => cs.length - (intOf t).toNat)
  case atStart => exact ⟨0, [], Ag0, 0, by omega, rfl, hid rfl, by simp, hG0, hoL⟩
  case round =>
    clear hG0 hoL
    obtain ⟨k, ms, Ag, cg, hk, rfl, hgs, hmk, hG, hoL⟩ := hrel
    obtain ⟨wo, rfl⟩ : ∃ wo : World, wo = wr := ⟨_, rfl⟩
    by_cases hlt : k < cs.length
    · obtain ⟨ad, x, rfl, HX, hc⟩ := (HR.out.below hG.bel).get hlt
      by_cases hx : 0 < x
      · have hd : x > 0 := hx
        have hbox := hG.box.cell 0
        simp at hbox
        have hXw := hG.box.lt
        have hsz := hG.bel.size
        have hG2 := (hG.below (below_new wo (.cells #[.int .i64 (k : Int)] 3))).below (below_new _ (.cells #[.int .i64 x, .slice (some ⟨wo.heap.size, 0, none⟩) 1 1] 95))
        have hbox2 := hG2.box.cell 0
        have hboxf := hG2.box.frozen 0
        simp at hbox2
        have HN : Hid (g0K cs (k + 1) = gps ms ++ [(x, k, [k])]) := by unfold Hid; rw [g0K_yes HX.out hx, hgs.out]
        have hone := os_one1 eGm wo (.cells #[.int .i64 (k : Int)] 3) 95 ((x, k, [k]), some ⟨wo.heap.size, 0, none⟩, 1) #[.int .i64 x, .slice (some ⟨wo.heap.size, 0, none⟩) 1 1] rfl
        have hoi : OI ((wo.alloc (.cells #[.int .i64 (k : Int)] 3)).alloc (.cells #[.int .i64 x, .slice (some ⟨wo.heap.size, 0, none⟩) 1 1] 95)) (X + 1) (some ⟨wo.heap.size, 0, none⟩) 1 (nints [k]) := ((OI.one wo wo.heap.size (k : Int) (Nat.le_refl _)).alloc _).mono (by omega)
        have hoL2 := (hoL.alloc (.cells #[.int .i64 (k : Int)] 3)).alloc (.cells #[.int .i64 x, .slice (some ⟨wo.heap.size, 0, none⟩) 1 1] 95)
        clear hgs hx
        go_wp2_with (at_builtin; refine wpl_appS2 grT rfl _ _ rfl ms rfl rfl hG2.row [((x, k, [k]), some ⟨wo.heap.size, 0, none⟩, 1)] rfl rfl hone.rs (by simp; omega) (by omega) (by simp; omega) ?_; intro A3 c3 w3 zs hz ho3 hg3 hat3; have hat4 := hid hat3; clear hat3; have hbx3 := hG2.box.keepRow hg3 hG2.agX; have kb3 := hbx3.cell 0; simp at kb3; have kf3 := hbx3.frozen 0)
        have hG4 := hG2.add (m := ((x, k, [k]), some ⟨wo.heap.size, 0, none⟩, 1)) hoi (fun b hb1 hb2 => by have := (OS.lt hG.row hb2).2; simp [blk] at hb1; omega) hz.out ho3 hg3 hat4.out
        have hoL4 := (hoL2.grown hg3 (fun g hg e => hG2.agO (by rw [e, ← hg]; exact HO1.out))).past' (gb_setCell w3 ⟨X, 0, none⟩ (.slice A3 zs.length c3)) (fun g hg e => by rw [HO1.out] at hg; injection hg; injection e; simp at *; omega)
        have HZ : Hid (gps zs = g0K cs (k + 1)) := by unfold Hid; rw [hz.out, HN.out]; simp [gps]
        have hzl : zs.length = ms.length + 1 := by rw [hz.out]; simp
        clear hG hoL hG2 hoi hone hoL2 hbx3 hg3 ho3 hz
        go_roundw
        case rel => exact ⟨k + 1, zs, A3, c3, by omega, by go_num, HZ, by omega, hG4, hoL4⟩
        case measure => simp [intOf]; omega
      · have hd : ¬ x > 0 := hx
        have HN : Hid (gps ms = g0K cs (k + 1)) := by unfold Hid; rw [g0K_no HX.out hx, hgs.out]
        clear hgs hx
        go_wp2_with fail
        go_roundw
        case rel => exact ⟨k + 1, ms, Ag, cg, by omega, by go_num, HN, by omega, hG, hoL⟩
        case measure => simp [intOf]; omega
    · have HK : Hid (gps ms = groups0 cs) := by unfold Hid; rw [hgs.out, show k = 8 by omega]; rfl
      clear hgs
      have hbox := hG.box.cell 0
      simp at hbox
      by_cases h1 : ms.length = 1
      · obtain ⟨m, rfl⟩ := List.length_eq_one_iff.1 h1
        have HG1 : Hid (groups0 cs = [m.1]) := by unfold Hid; rw [← HK.out]; rfl
        obtain ⟨s, hs⟩ : ∃ s, m.1.2.2 = [s] ∧ s < 8 := by
          have hm : m.1 ∈ groups0 cs := by rw [HG1.out]; simp
          obtain ⟨s, hs, he⟩ := List.mem_map.1 hm
          exact ⟨s, by rw [← he], (used_mem.1 hs).1⟩
        obtain ⟨hs, hs8⟩ := hs
        have HF : Hid (huff cs = L0.set s 1) := by
          unfold Hid huff
          rw [huS_end (by rw [HG1.out]; simp)]
          unfold out0
          rw [HL0.out, HG1.out]
          unfold gA
          rw [gA_one, hs]; rfl
        have hsy := hG.sy m (by simp)
        rw [hs, nints_one] at hsy
        have hrow := hG.row
        obtain ⟨adg, rfl⟩ := OS.some hrow (by simp) (by decide)
        obtain ⟨g0, g1⟩ := gmAt hrow (k := 0) (m := m) rfl
        rw [hs] at g1
        obtain ⟨adm, y, hA, HY, hcy⟩ := hsy.ri.get (k := 0) (by simp)
        obtain rfl : y = (s : Int) := by have := HY.out; simp at this; exact this.symm
        rw [hA] at g1
        have HL8 : Hid (L0.length = 8) := by unfold Hid; rw [HL0.out]; rfl
        obtain ⟨ad3, z, rfl, HZ, hc3⟩ := hoL.ri.get (k := s) (by rw [HL8.out]; exact hs8)
        obtain ⟨hs1, hs2, hs3⟩ := hoL.store s 1
        have hs8' : (s : Int) < 8 := by omega
        have hO1 := HO1.out
        have hbx4 := (hG.outs (by rw [← HO1.out]; exact hs2)).box
        have hbw4 := (hG.outs (by rw [← HO1.out]; exact hs2)).bel
        have hbox4 := hbx4.cell 0
        simp at hbox4
        simp at g0 g1 hcy
        rw [add0] at g0 g1 hcy
        clear HK hs hO1
        go_wp2_with fail
        go_loopg [] 1 (fun _ wr => wr = (wo.setCell (ad3.add s) (.int .i64 1)))
        case atStart => rfl
        case round =>
          subst hrel
          go_wp2_with fail
          go_ret2
          have e : (L0.set s 1).length = 8 := by rw [List.length_set]; exact HL8.out
          exact ⟨_, _, L0.set s 1, true, hid (by rw [HF.out]; rfl), hid rfl, hs1, by rw [e]; rfl, hbw4⟩
      · have HI : Hid (huI cs ms L0) := by
          unfold Hid
          have hl : 1 < ms.length := by
            have := HGL.out
            rw [← HK.out, gps_length] at this
            omega
          refine ⟨?_, by rw [HK.out, HL0.out]; exact groups0_ok cs, fun g hg => ?_, ?_, by omega⟩
          · rw [HK.out, HL0.out]
            refine ⟨8, ?_⟩
            unfold huff out0
            rw [if_neg (by rw [← HK.out, gps_length]; omega)]
          · rw [HK.out] at hg
            exact ((arrW_start HOK.out).pos g hg).2.1
          · rw [HK.out, ← sumL_start HOK.out]
            exact sum_le8 HOK.out
        have hm8 : ms.length ≤ 8 := by rw [← gps_length, HK.out]; exact groups0_le cs
        have hne1 : ((ms.length : Int) == 1) = false := by rw [beq_eq_false_iff_ne]; omega
        clear HK h1 hmk
        go_wp2_with fail
        go_loopg [] 8 (fun m wr => ∃ (ms : List Gm) (Ag : Option Addr) (cg : Nat) (L : List Int), Hid (huI cs ms L) ∧ ms.length ≤ m ∧ m ≤ 8 ∧ GSt w wr X w.heap.size ms Ag cg ∧ OI wr w.heap.size A1 8 L)
        case atStart => exact ⟨ms, Ag, cg, L0, HI, hm8, by omega, hG, hoL⟩
        case round =>
          clear hG hoL HI hbox hne1 HL0
          obtain ⟨fu, rfl⟩ : ∃ fu : Nat, fu = gk := ⟨_, rfl⟩
          obtain ⟨ns, Bg, dg, L, HI, hm1, hm2, hG, hoL⟩ := hrel
          obtain ⟨wo, rfl⟩ : ∃ wo : World, wo = wr := ⟨_, rfl⟩
          have hbox := hG.box.cell 0
          simp at hbox
          have hpos := HI.out.pos
          by_cases h1 : ns.length ≤ 1
          · have hng : ¬ (ns.length : Int) > 1 := by omega
            have HF : Hid (huff cs = L) := by
              unfold Hid
              obtain ⟨n, hn⟩ := HI.out.eq
              rw [← hn, huS_end (by rw [gps_length]; exact h1)]
            have HL8 : Hid (L.length = 8) := hid HI.out.ok.len
            have hbw := hG.bel
            clear h1 hm1
            go_wp2_with fail
            go_ret2
            exact ⟨_, _, L, true, hid (by rw [HF.out]; rfl), hid rfl, hoL, by rw [HL8.out]; rfl, hbw⟩
          · have hgt : (ns.length : Int) > 1 := by omega
            have hl1 : 1 < ns.length := by omega
            clear h1
            have htk := take_any X Bg dg w.heap.size ns wo hG.box hG.row hpos (by omega)
            obtain ⟨e1, -, -⟩ := gps_A hpos
            have hrl : (mR ns).length = ns.length - 1 := by rw [← gps_length, gps_R, gR_length (by rw [gps_length]; exact hpos), gps_length]
            obtain ⟨e2, -, -⟩ := gps_A (ms := mR ns) (by omega)
            rw [gps_R] at e2
            have hrl2 : (mR (mR ns)).length = ns.length - 2 := by
              rw [← gps_length, gps_R, gR_length (by rw [gps_length]; omega), gps_length, hrl]; omega
            obtain ⟨ma, hma⟩ : ∃ ma, ma = mA ns := ⟨_, rfl⟩
            obtain ⟨mb, hmb⟩ : ∃ mb, mb = mA (mR ns) := ⟨_, rfl⟩
            obtain ⟨M1, hM1⟩ : ∃ M1, M1 = mR ns := ⟨_, rfl⟩
            obtain ⟨M2, hM2⟩ : ∃ M2, M2 = mR (mR ns) := ⟨_, rfl⟩
            rw [← hma] at e1
            rw [← hmb] at e2
            have hp2 := g2_perm (gs := gps ns) (by rw [gps_length]; exact hl1)
            have hva := HI.out.gt ma.1 (by rw [e1]; exact hp2.mem_iff.2 (by simp))
            have hvb := HI.out.gt mb.1 (by rw [e2]; exact hp2.mem_iff.2 (by simp))
            have hva8 : ma.1.1 ≤ 8000 := Int.le_trans (sumW_mem HI.out.gt ma.1 (by rw [e1]; exact hp2.mem_iff.2 (by simp))) HI.out.sum
            have hvb8 : mb.1.1 ≤ 8000 := Int.le_trans (sumW_mem HI.out.gt mb.1 (by rw [e2]; exact hp2.mem_iff.2 (by simp))) HI.out.sum
            have hla : ma.1.2.2.length ≤ 8 := by
              have h1 := len_le_syms (gs := gps ns) (g := ma.1) (by rw [e1]; exact hp2.mem_iff.2 (by simp))
              have h2 := HI.out.ok.pm.length_eq
              have h3 := us_le (used_nd cs) us_lt
              omega
            have hlb : mb.1.2.2.length ≤ 8 := by
              have h1 := len_le_syms (gs := gps ns) (g := mb.1) (by rw [e2]; exact hp2.mem_iff.2 (by simp))
              have h2 := HI.out.ok.pm.length_eq
              have h3 := us_le (used_nd cs) us_lt
              omega
            have E1 := hid e1
            have E2 := hid e2
            have HM2 := hid hM2
            clear hp2 e1 e2
            go_wp2_with (go_at_call 98; refine htk.mono ?_; rintro e w2 ⟨Bg2, dg2, rfl, hx2, ho2, hg2⟩)
            obtain ⟨hG2, hoa, hma2⟩ := hG.take hpos hx2 ho2 hg2
            have htk2 := take_any X Bg2 dg2 wo.heap.size (mR ns) w2 hx2 ho2 (by omega) (by omega)
            have hoL2 := hoL.past' hg2 (fun g hg e => by rw [HO1.out] at hg; injection hg; injection e; omega)
            refine htk2.mono ?_
            rintro e w3 ⟨Bg3, dg3, rfl, hx3, ho3, hg3⟩
            obtain ⟨hG3, hob, hmb2⟩ := hG2.take (by omega) hx3 ho3 hg3
            have hoa3 := hoa.past hg3 (by omega)
            have hoL3 := hoL2.past' hg3 (fun g hg e => by rw [HO1.out] at hg; injection hg; injection e; omega)
            have hsb : ∀ b, blk mb.2.1 = some b → b < w3.heap.size := fun b hb => (OI.lt hob (hmb ▸ hb)).2
            rw [← hma] at hoa3 ⊢
            rw [← hmb] at hob ⊢
            rw [← hM2] at hG3
            clear htk htk2 hG hG2 hoa hma2 hmb2 hoL hoL2 hx2 ho2 hg2 hx3 ho3 hg3 hma hmb hM1 hbox
            go_wp2_with fail
            have hG4 := (hG3.below (below_new w3 (.cells #[.int .i64 ma.1.1, .slice ma.2.1 ma.1.2.2.length ma.2.2] 95))).below (below_new _ (.cells #[.int .i64 mb.1.1, .slice mb.2.1 mb.1.2.2.length mb.2.2] 95))
            have hob4 := (hob.alloc (.cells #[.int .i64 ma.1.1, .slice ma.2.1 ma.1.2.2.length ma.2.2] 95)).alloc (.cells #[.int .i64 mb.1.1, .slice mb.2.1 mb.1.2.2.length mb.2.2] 95)
            have hoa4 := (hoa3.alloc (.cells #[.int .i64 ma.1.1, .slice ma.2.1 ma.1.2.2.length ma.2.2] 95)).alloc (.cells #[.int .i64 mb.1.1, .slice mb.2.1 mb.1.2.2.length mb.2.2] 95)
            have hoL4 := (hoL3.alloc (.cells #[.int .i64 ma.1.1, .slice ma.2.1 ma.1.2.2.length ma.2.2] 95)).alloc (.cells #[.int .i64 mb.1.1, .slice mb.2.1 mb.1.2.2.length mb.2.2] 95)
            have h94 := (BX.new w3 #[.int .i64 ma.1.1, .slice ma.2.1 ma.1.2.2.length ma.2.2] 95).alloc (.cells #[.int .i64 mb.1.1, .slice mb.2.1 mb.1.2.2.length mb.2.2] 95)
            have h104 : BX ((w3.alloc (.cells #[.int .i64 ma.1.1, .slice ma.2.1 ma.1.2.2.length ma.2.2] 95)).alloc (.cells #[.int .i64 mb.1.1, .slice mb.2.1 mb.1.2.2.length mb.2.2] 95)) (w3.heap.size + 1) #[.int .i64 mb.1.1, .slice mb.2.1 mb.1.2.2.length mb.2.2] 95 := by
              have := BX.new (w3.alloc (.cells #[.int .i64 ma.1.1, .slice ma.2.1 ma.1.2.2.length ma.2.2] 95)) #[.int .i64 mb.1.1, .slice mb.2.1 mb.1.2.2.length mb.2.2] 95
              have hs : (w3.alloc (.cells #[.int .i64 ma.1.1, .slice ma.2.1 ma.1.2.2.length ma.2.2] 95)).heap.size = w3.heap.size + 1 := by simp
              rw [hs] at this
              exact this
            have hw4 : ((w3.alloc (.cells #[.int .i64 ma.1.1, .slice ma.2.1 ma.1.2.2.length ma.2.2] 95)).alloc (.cells #[.int .i64 mb.1.1, .slice mb.2.1 mb.1.2.2.length mb.2.2] 95)).heap.size = w3.heap.size + 2 := by simp
            generalize ((w3.alloc (.cells #[.int .i64 ma.1.1, .slice ma.2.1 ma.1.2.2.length ma.2.2] 95)).alloc (.cells #[.int .i64 mb.1.1, .slice mb.2.1 mb.1.2.2.length mb.2.2] 95)) = w4 at *
            have hcl : ∀ w', RI w' ma.2.1 ma.2.2 (nints ma.1.2.2) → Calls Try.prog 42 #[.slice ma.2.1 ma.1.2.2.length ma.2.2] w' (PL w' (nints ma.1.2.2)) := fun w' h => by
              have := cloned_any _ _ _ w' h (by rw [nints_length]; omega)
              rwa [nints_length] at this
            have q04 := h94.cell 0
            have q14 := h94.cell 1
            have q24 := h104.cell 0
            have q34 := h104.cell 1
            simp at q04 q14 q24 q34
            have hw4a : w3.heap.size + 2 ≤ w4.heap.size := by omega
            have hw4b : w4.heap.size ≤ w3.heap.size + 2 := by omega
            clear hw4
            have naw4 : w3.heap.size < w4.heap.size := (by omega)
            have nbw4 : w3.heap.size + 1 < w4.heap.size := (by omega)
            have ncw4 : ¬ w3.heap.size = w4.heap.size := (by omega)
            have ndw4 : ¬ w3.heap.size + 1 = w4.heap.size := (by omega)
            have new4 : ¬ w4.heap.size = w3.heap.size := (by omega)
            have nfw4 : ¬ w4.heap.size = w3.heap.size + 1 := (by omega)
            have hXw3 := hG3.box.lt
            have hwv : IntKind.i64.wrap (ma.1.1 + mb.1.1) = ma.1.1 + mb.1.1 := IntWalk.i64_in _ (by omega)
            obtain ⟨ss, hss⟩ : ∃ ss, ss = ma.1.2.2 ++ mb.1.2.2 := ⟨_, rfl⟩
            have HSS := hid hss
            have hssl : ss.length ≤ 16 := by rw [hss, List.length_append]; omega
            clear hss
            have HBG : Hid (∀ b, blk Bg3 = some b → b < w3.heap.size) := hid fun b hb => (OS.lt hG3.row hb).2
            clear hG3 hob hoa3 hoL3
            go_cut [11] from 54 to 90 (fun p wx => ∃ (B : Nat) (Ac : Option Addr) (cc : Nat), p = .pointer (some ⟨B, 0, none⟩) ∧ BX wx B #[.int .i64 (ma.1.1 + mb.1.1), .slice Ac ss.length cc] 95 ∧ OI wx (X + 1) Ac cc (nints ss) ∧ (∀ b, blk Ac = some b → w3.heap.size ≤ b ∧ b ≠ B) ∧ GSt w wx X w.heap.size M2 Bg3 dg3 ∧ OI wx w.heap.size A1 8 L ∧ w3.heap.size ≤ B)
            case first =>
              go_region_held3 (fun w' => w'.cell? ⟨w3.heap.size, 0, none⟩ = some (.int .i64 ma.1.1) ∧ w'.cell? ⟨w3.heap.size, 1, none⟩ = some (.slice ma.2.1 ma.1.2.2.length ma.2.2) ∧ w'.cell? ⟨w3.heap.size + 1, 0, none⟩ = some (.int .i64 mb.1.1) ∧ w'.cell? ⟨w3.heap.size + 1, 1, none⟩ = some (.slice mb.2.1 mb.1.2.2.length mb.2.2)) (first | go_keep | exact ⟨by assumption, by assumption, by assumption, by assumption⟩) (first | ((refine stp_app2 intT rfl _ _ rfl ysa rfl rfl ho5a (nints mb.1.2.2) rfl (by rw [nints_length]) hob5a.ri (by rw [nints_length]; have := hyla; omega) (by first | omega | (simp; omega)) ?_; intro A6ai c6ai w6ai usai huai ho6ai hg6ai hat6ai; have hn6ai : ∀ g, blk A5a = some g → w3.heap.size + 2 ≤ g := (fun g hg => by have := (OI.lt ho5a hg).1; omega); have h96ai := h95a.keepRow hg6ai (fun e => by have := hn6ai _ e; omega); have h106ai := h105a.keepRow hg6ai (fun e => by have := hn6ai _ e; omega); have q06ai := h96ai.cell 0; have q16ai := h96ai.cell 1; have q26ai := h106ai.cell 0; have q36ai := h106ai.cell 1; simp at q06ai q16ai q26ai q36ai; have hZ6ai := hZ5a.keepRow hg6ai (fun e => by have := (OI.lt ho5a e).1; omega); have z06 := hZ6ai.cell 0; have z16 := hZ6ai.cell 1; have f06 := hZ6ai.frozen 0; have f16 := hZ6ai.frozen 1; simp at z06 z16)) | ((refine stp_app2 intT rfl _ _ rfl ysb rfl rfl (ho5b.alloc (.cells #[.int .i64 0, .slice none 0 0] 95)) (nints mb.1.2.2) rfl (by rw [nints_length]) (hob5b.alloc (.cells #[.int .i64 0, .slice none 0 0] 95)).ri (by rw [nints_length]; have := hylb; omega) (by first | omega | (simp; omega)) ?_; intro A6bi c6bi w6bi usbi hubi ho6bi hg6bi hat6bi; have hn6bi : ∀ g, blk A5b = some g → w3.heap.size + 2 ≤ g := (fun g hg => by have := (OI.lt ho5b hg).1; omega); have h96bi := (h95b.alloc (.cells #[.int .i64 0, .slice none 0 0] 95)).keepRow hg6bi (fun e => by have := hn6bi _ e; omega); have h106bi := (h105b.alloc (.cells #[.int .i64 0, .slice none 0 0] 95)).keepRow hg6bi (fun e => by have := hn6bi _ e; omega); have q06bi := h96bi.cell 0; have q16bi := h96bi.cell 1; have q26bi := h106bi.cell 0; have q36bi := h106bi.cell 1; simp at q06bi q16bi q26bi q36bi; have hZ6bi := (BX.new w5b #[.int .i64 0, .slice none 0 0] 95).keepRow hg6bi (fun e => by have := (OI.lt ho5b e).2; omega); have z07 := hZ6bi.cell 0; have z17 := hZ6bi.cell 1; have f07 := hZ6bi.frozen 0; have f17 := hZ6bi.frozen 1; simp at z07 z17)) | ((refine stp_app2 intT rfl _ _ rfl ysb rfl rfl ho5b (nints mb.1.2.2) rfl (by rw [nints_length]) hob5b.ri (by rw [nints_length]; have := hylb; omega) (by first | omega | (simp; omega)) ?_; intro A6bj c6bj w6bj usbj hubj ho6bj hg6bj hat6bj; have hn6bj : ∀ g, blk A5b = some g → w3.heap.size + 2 ≤ g := (fun g hg => by have := (OI.lt ho5b hg).1; omega); have h96bj := h95b.keepRow hg6bj (fun e => by have := hn6bj _ e; omega); have h106bj := h105b.keepRow hg6bj (fun e => by have := hn6bj _ e; omega); have q06bj := h96bj.cell 0; have q16bj := h96bj.cell 1; have q26bj := h106bj.cell 0; have q36bj := h106bj.cell 1; simp at q06bj q16bj q26bj q36bj; have hs6bj := hg6bj.size; have naw6bj : w3.heap.size < w6bj.heap.size := (by omega); have nbw6bj : w3.heap.size + 1 < w6bj.heap.size := (by omega); have ncw6bj : ¬ w3.heap.size = w6bj.heap.size := (by omega); have ndw6bj : ¬ w3.heap.size + 1 = w6bj.heap.size := (by omega); have new6bj : ¬ w6bj.heap.size = w3.heap.size := (by omega); have nfw6bj : ¬ w6bj.heap.size = w3.heap.size + 1 := (by omega))) | (go_at_call 42; refine (hcl _ (hoa4.alloc (.cells #[.int .i64 0, .slice none 0 0] 95)).drew.ri).mono ?_; rintro _ w5a ⟨A5a, c5a, ysa, hysa, ho5ax, rfl, hb5a⟩; have ho5a := OI.mono (base' := w3.heap.size + 3) ho5ax (by simp; omega); have hyla : ysa.length ≤ 8 := (by rw [hysa.out, nints_length]; exact hla); have hs5a : w3.heap.size + 3 ≤ w5a.heap.size := (by have := hb5a.size; simp at this; omega); have h95a := (h94.alloc (.cells #[.int .i64 0, .slice none 0 0] 95)).drew.below hb5a; have h105a := (h104.alloc (.cells #[.int .i64 0, .slice none 0 0] 95)).drew.below hb5a; have hob5a := ((hob4.alloc (.cells #[.int .i64 0, .slice none 0 0] 95)).drew).below hb5a; have q05a := h95a.cell 0; have q15a := h95a.cell 1; have q25a := h105a.cell 0; have q35a := h105a.cell 1; simp at q05a q15a q25a q35a; have naw5a : w3.heap.size < w5a.heap.size := (by omega); have nbw5a : w3.heap.size + 1 < w5a.heap.size := (by omega); have ncw5a : ¬ w3.heap.size = w5a.heap.size := (by omega); have ndw5a : ¬ w3.heap.size + 1 = w5a.heap.size := (by omega); have new5a : ¬ w5a.heap.size = w3.heap.size := (by omega); have nfw5a : ¬ w5a.heap.size = w3.heap.size + 1 := (by omega); have hZ5a := ((BX.new w4 #[.int .i64 0, .slice none 0 0] 95).drew).below hb5a) | (go_at_call 42; refine (hcl _ hoa4.drew.ri).mono ?_; rintro _ w5b ⟨A5b, c5b, ysb, hysb, ho5bx, rfl, hb5b⟩; have ho5b := OI.mono (base' := w3.heap.size + 2) ho5bx (by simp; omega); have hylb : ysb.length ≤ 8 := (by rw [hysb.out, nints_length]; exact hla); have hs5b : w3.heap.size + 2 ≤ w5b.heap.size := (by have := hb5b.size; simp at this; omega); have h95b := h94.drew.below hb5b; have h105b := h104.drew.below hb5b; have hob5b := (hob4.drew).below hb5b; have q05b := h95b.cell 0; have q15b := h95b.cell 1; have q25b := h105b.cell 0; have q35b := h105b.cell 1; simp at q05b q15b q25b q35b; have naw5b : w3.heap.size < w5b.heap.size := (by omega); have nbw5b : w3.heap.size + 1 < w5b.heap.size := (by omega); have ncw5b : ¬ w3.heap.size = w5b.heap.size := (by omega); have ndw5b : ¬ w3.heap.size + 1 = w5b.heap.size := (by omega); have new5b : ¬ w5b.heap.size = w3.heap.size := (by omega); have nfw5b : ¬ w5b.heap.size = w3.heap.size + 1 := (by omega)))
              · have hb46 : Below w4.heap.size w4 w6bj := OI.belowOwn (below_on (Below.drew (Below.refl _ _)) hb5b) ho5b hg6bj (by omega)
                have HU : Hid (usbj = nints ss) := by unfold Hid; rw [hubj.out, hysb.out, HSS.out, nints_app]
                have hul : usbj.length = ss.length := by rw [HU.out, nints_length]
                rw [hul]
                go_wp2_with fail
                go_meet
                exact ⟨_, A6bj, c6bj, rfl, BX.new w6bj _ _, ((HU.out ▸ ho6bj).mono (by omega)).alloc _, fun b hb => ⟨by have := (OI.lt ho6bj hb).1; omega, by have := (OI.lt ho6bj hb).2; omega⟩, (hG4.below hb46).below (below_new _ _), (hoL4.below hb46).alloc _, by omega⟩
              · have hb46 : Below w4.heap.size w4 w6bi := OI.belowOwn (below_on (below_on (Below.drew (Below.refl _ _)) hb5b) (below_new w5b (.cells #[.int .i64 0, .slice none 0 0] 95))) (ho5b.alloc (.cells #[.int .i64 0, .slice none 0 0] 95)) hg6bi (by omega)
                have HU : Hid (usbi = nints ss) := by unfold Hid; rw [hubi.out, hysb.out, HSS.out, nints_app]
                have hul : usbi.length = ss.length := by rw [HU.out, nints_length]
                have hne : ∀ b, blk A6bi = some b → b ≠ w5b.heap.size := fun b hb e => by
                  rcases hat6bi with h | h
                  · have := (OI.lt ho5b (h.symm.trans hb)).2; omega
                  · rw [h] at hb; injection hb with hb; simp at hb; omega
                have hbx := (hZ6bi.set 0 (.int .i64 (ma.1.1 + mb.1.1))).set 1 (.slice A6bi ss.length c6bi)
                have hoc := (HU.out ▸ ho6bi : OI w6bi (w3.heap.size + 2) A6bi c6bi (nints ss)).mono (show X + 1 ≤ w3.heap.size + 2 by omega)
                have hoc2 := (hoc.past' (gb_setCell w6bi ⟨w5b.heap.size, 0, none⟩ (.int .i64 (ma.1.1 + mb.1.1))) (fun b hb e => hne b hb (by injection e with e; exact e.symm))).past' (gb_setCell _ ⟨w5b.heap.size, 1, none⟩ (.slice A6bi ss.length c6bi)) (fun b hb e => hne b hb (by injection e with e; exact e.symm))
                have hb47 := (hb46.setCell (show w4.heap.size ≤ (⟨w5b.heap.size, 0, none⟩ : Addr).block from (by simp; omega)) (.int .i64 (ma.1.1 + mb.1.1))).setCell (show w4.heap.size ≤ (⟨w5b.heap.size, 1, none⟩ : Addr).block from (by simp; omega)) (.slice A6bi ss.length c6bi)
                rw [hul]
                go_wp2_with fail
                go_meet
                exact ⟨_, A6bi, c6bi, rfl, by simpa using hbx, hoc2, fun b hb => ⟨by have := (OI.lt ho6bi hb).1; omega, hne b hb⟩, hG4.below hb47, hoL4.below hb47, by omega⟩
              · have hb46 : Below w4.heap.size w4 w6ai := OI.belowOwn (below_on (below_on (below_new w4 (.cells #[.int .i64 0, .slice none 0 0] 95)) (Below.drew (Below.refl _ _))) hb5a) ho5a hg6ai (by omega)
                have HU : Hid (usai = nints ss) := by unfold Hid; rw [huai.out, hysa.out, HSS.out, nints_app]
                have hul : usai.length = ss.length := by rw [HU.out, nints_length]
                have hne : ∀ b, blk A6ai = some b → b ≠ w4.heap.size := fun b hb e => by
                  have := (OI.lt ho6ai hb).1; omega
                have hbx := (hZ6ai.set 0 (.int .i64 (ma.1.1 + mb.1.1))).set 1 (.slice A6ai ss.length c6ai)
                have hoc := (HU.out ▸ ho6ai : OI w6ai (w3.heap.size + 3) A6ai c6ai (nints ss)).mono (show X + 1 ≤ w3.heap.size + 3 by omega)
                have hoc2 := (hoc.past' (gb_setCell w6ai ⟨w4.heap.size, 0, none⟩ (.int .i64 (ma.1.1 + mb.1.1))) (fun b hb e => hne b hb (by injection e with e; exact e.symm))).past' (gb_setCell _ ⟨w4.heap.size, 1, none⟩ (.slice A6ai ss.length c6ai)) (fun b hb e => hne b hb (by injection e with e; exact e.symm))
                have hb47 := (hb46.setCell (show w4.heap.size ≤ (⟨w4.heap.size, 0, none⟩ : Addr).block from (by simp)) (.int .i64 (ma.1.1 + mb.1.1))).setCell (show w4.heap.size ≤ (⟨w4.heap.size, 1, none⟩ : Addr).block from (by simp)) (.slice A6ai ss.length c6ai)
                rw [hul]
                go_wp2_with fail
                go_meet
                exact ⟨_, A6ai, c6ai, rfl, by simpa using hbx, hoc2, fun b hb => ⟨by have := (OI.lt ho6ai hb).1; omega, hne b hb⟩, hG4.below hb47, hoL4.below hb47, by omega⟩
            case rest =>
              obtain ⟨B, Ac, cc, rfl, hB, hoc, hblk, hG5, hoL5, hBw⟩ := hcut
              have hXB : X < B := by omega
              have HS8 : Hid (∀ s ∈ ss, s < 8) := by
                unfold Hid
                rw [HSS.out, E1.out, E2.out]
                intro s hs
                refine HI.out.ok.lt s (HI.out.ok.pm.mem_iff.1 ?_)
                have hp2 := g2_perm (gs := gps ns) (by rw [gps_length]; exact hl1)
                refine (syms_perm hp2).mem_iff.2 ?_
                unfold syms
                rw [List.flatMap_cons, List.flatMap_cons, ← List.append_assoc]
                exact List.mem_append.2 (.inl hs)
              have b0 := hB.cell 0
              have b1 := hB.cell 1
              simp at b0 b1
              have HLB : Hid (∀ x ∈ L, 0 ≤ x ∧ x ≤ 8) := hid (ok_bd HI.out.ok)
              have HL8 : Hid (L.length = 8) := hid HI.out.ok.len
              go_wp2_with fail
              go_loopg [76] ss.length (fun m t wr => ∃ (j : Nat) (L' : List Int), m + j = ss.length ∧ t = .int .i64 j ∧ Hid (L' = bump L (ss.take j)) ∧ Hid (∀ x ∈ L', 0 ≤ x ∧ x ≤ 8 + (j : Int)) ∧ OI wr w.heap.size A1 8 L' ∧ wc.grownBy wr (some w.heap.size))
              case atStart => exact ⟨0, L, by omega, rfl, hid rfl, hid (fun x hx => by have := HLB.out x hx; omega), hoL5, gb_refl _ _⟩
              case round =>
                clear hoL5
                obtain ⟨j, L', hj, rfl, hL', hbd, hoL6, hgr⟩ := hrel
                obtain ⟨w6, rfl⟩ : ∃ w6 : World, w6 = wr := ⟨_, rfl⟩
                have hG6 := hG5.outs hgr
                have hB6 := hB.past hgr (by omega)
                have hoc6 := hoc.past hgr (by omega)
                have HL8' : Hid (L'.length = 8) := by unfold Hid; rw [hL'.out, bump_length]; exact HL8.out
                by_cases hlt : j < ss.length
                · obtain ⟨s, hs⟩ : ∃ s, ss[j]? = some s := ⟨_, List.getElem?_eq_getElem hlt⟩
                  have hs8 := HS8.out s (List.mem_of_getElem? hs)
                  obtain ⟨adc, y, rfl, HY, hcy⟩ := hoc6.ri.get (k := j) (by rw [nints_length]; exact hlt)
                  obtain rfl : y = (s : Int) := by
                    have h1 := HY.out
                    unfold nints at h1
                    rw [List.getElem?_map, hs] at h1
                    exact (Option.some.inj h1).symm
                  obtain ⟨ad3, z, rfl, HZ, hcz⟩ := hoL6.ri.get (k := s) (by rw [HL8'.out]; exact hs8)
                  obtain ⟨hz0, hz1⟩ := hbd.out z (List.mem_of_getElem? HZ.out)
                  obtain ⟨hs1, hs2, hs3⟩ := hoL6.store s (z + 1)
                  have hgr2 := gb_trans hgr (by rw [← HO1.out]; exact hs2)
                  have hjl : (j : Int) < (ss.length : Int) := by omega
                  have hs8' : (s : Int) < 8 := by omega
                  have HL2 : Hid (L'.set s (z + 1) = bump L (ss.take (j + 1))) := by
                    unfold Hid
                    rw [take_snoc' hs, bump_snoc, ← hL'.out, getD_hid HZ.out]
                  have HB2 : Hid (∀ x ∈ L'.set s (z + 1), 0 ≤ x ∧ x ≤ 8 + ((j + 1 : Nat) : Int)) := hid fun x hx => by
                    rcases List.mem_or_eq_of_mem_set hx with h | h
                    · have := hbd.out x h; omega
                    · omega
                  clear hoL6 hgr hs2 hL' hbd HY HZ hs hG6 hB6 hoc6
                  go_wp2_with fail
                  go_roundg (ss.length - (j + 1))
                  case measure => omega
                  case rel => exact ⟨j + 1, _, by omega, by go_num, HL2, HB2, hs1, hgr2⟩
                · have hjl : ¬ (j : Int) < (ss.length : Int) := by omega
                  have HL2 : Hid (L' = bump L ss) := by unfold Hid; rw [hL'.out, List.take_of_length_le (by omega)]
                  have x0 := hG6.box.cell 0
                  have b0 := hB6.cell 0
                  have b1 := hB6.cell 1
                  simp at x0 b0 b1
                  obtain ⟨n, hn⟩ := HI.out.eq
                  obtain ⟨m, hm⟩ : ∃ m : Gm, m = ((ma.1.1 + mb.1.1, n, ss), Ac, cc) := ⟨_, rfl⟩
                  have e0 : ma.1.1 + mb.1.1 = m.1.1 := by rw [hm]
                  have e1 : Ac = m.2.1 := by rw [hm]
                  have e2 : cc = m.2.2 := by rw [hm]
                  have e3 : ss = m.1.2.2 := by rw [hm]
                  have HNN : Hid (huI cs (M2 ++ [m]) L') := by
                    have eg : gps (M2 ++ [m]) = gNext (gps ns) n := by
                      unfold gNext gC
                      rw [HM2.out]
                      have h1 : gps (mR (mR ns)) = gR (gR (gps ns)) := by rw [gps_R, gps_R]
                      rw [← h1]
                      unfold gps
                      rw [List.map_append, List.map_singleton, hm, HSS.out, E1.out, E2.out]
                      rfl
                    have ec : ss = (gC (gps ns) n).2.2 := by unfold gC; rw [HSS.out, E1.out, E2.out]
                    have hp2 := g2_perm (gs := gps ns) (by rw [gps_length]; exact hl1)
                    have hl : 1 < (gps ns).length := by rw [gps_length]; exact hl1
                    refine ⟨⟨n + 1, ?_⟩, ?_, fun g hg => ?_, ?_, by simp⟩
                    · rw [eg, HL2.out, ec, ← huS_step hl (by rw [gps_length]; omega)]; exact hn
                    · rw [eg, HL2.out, ec]; exact HI.out.ok.step n hl
                    · rw [eg] at hg
                      rcases List.mem_append.1 hg with hg | hg
                      · exact HI.out.gt g (hp2.mem_iff.2 (by simp [hg]))
                      · rw [List.mem_singleton] at hg
                        rw [hg]
                        have h1 := HI.out.gt _ (hp2.mem_iff.2 (by simp : gA (gps ns) ∈ _))
                        have h2 := HI.out.gt _ (hp2.mem_iff.2 (by simp : gA (gR (gps ns)) ∈ _))
                        show 0 < (gA (gps ns)).1 + (gA (gR (gps ns))).1
                        omega
                    · rw [eg, sumW_next n hl]; exact HI.out.sum
                  have hG7 := hG6.below (below_new w6 (.cells #[.int .i64 m.1.1, .slice m.2.1 m.1.2.2.length m.2.2] 95))
                  have hm7 : OI (w6.alloc (.cells #[.int .i64 m.1.1, .slice m.2.1 m.1.2.2.length m.2.2] 95)) (X + 1) m.2.1 m.2.2 (nints m.1.2.2) := by
                    rw [← e1, ← e2, ← e3]; exact hoc6.alloc _
                  have hone := OS.one eGm w6 w6.heap.size 95 m #[.int .i64 m.1.1, .slice m.2.1 m.1.2.2.length m.2.2] rfl (Nat.le_refl _)
                  have hml : ∀ b, blk m.2.1 = some b → blk Bg3 ≠ some b := fun b h1 h2 => by
                    have := HBG.out b h2; have := (hblk b (by rw [e1]; exact h1)).1; omega
                  have hsz6 := hG6.bel.size
                  have hM2l : M2.length ≤ 8 := by rw [HM2.out, hrl2]; omega
                  have hoL7 := hoL6.alloc (.cells #[.int .i64 m.1.1, .slice m.2.1 m.1.2.2.length m.2.2] 95)
                  rw [e0] at b0
                  rw [e1, e2, e3] at b1
                  rw [e3] at hjl ⊢
                  clear hm e0 e1 e2 e3 hn hG6 hB6 hoc6 hoL6 hL' hbd hgr hM2 HSS
                  go_wp2_with (at_builtin; refine wpl_appS2 grT rfl _ _ rfl M2 rfl rfl hG7.row [m] rfl rfl hone.rs (by simp; omega) (by omega) (by simp; omega) ?_; intro A8 c8 w8 zs hz ho8 hg8 hat8; have hat9 := hid hat8; clear hat8; have hbx8 := hG7.box.keepRow hg8 hG7.agX; have kb8 := hbx8.cell 0; simp at kb8; have kf8 := hbx8.frozen 0)
                  have hG9 := hG7.add (m := m) hm7 hml hz.out ho8 hg8 hat9.out
                  have hoL9 := (hoL7.grown hg8 (fun g hg e => hG7.agO (by rw [e, ← hg]; exact HO1.out))).past' (gb_setCell w8 ⟨X, 0, none⟩ (.slice A8 zs.length c8)) (fun g hg e => by rw [HO1.out] at hg; have h1 := Option.some.inj hg; have h2 := Option.some.inj e; simp at h2; omega)
                  have HNZ : Hid (huI cs zs L') := by unfold Hid; rw [hz.out]; exact HNN.out
                  have hzl : zs.length = ns.length - 1 := by rw [hz.out, List.length_append, HM2.out, hrl2]; simp; omega
                  clear hG7 hm7 hone hoL7 hbx8 hg8 ho8 hz HNN
                  go_roundg (fu - 1)
                  case measure => omega
                  case rel => exact ⟨zs, A8, c8, L', HNZ, by omega, by omega, hG9, hoL9⟩
end Go.Proofs.Ytamljhjbmeikiaa
