/- Keys and damaged bytes are drawn. No condition. -/
import Derived.Test.YtadjjcjhlndpkaaDTg
namespace Go.Proofs.Ytadjjcjhlndpkaa
open Go Go.RowKit

/-- A box of the call's own, made by it. -/
def BX (w : World) (b : Nat) (vs : Array Value) (T : TypeId) : Prop := w.heap[b]? = some (.cells vs T (0, 0))
section
variable {w w' : World} {b : Nat} {vs : Array Value} {T : TypeId}
theorem BX.lt (h : BX w b vs T) : b < w.heap.size := (Array.getElem?_eq_some_iff.1 h).1
theorem BX.new (w : World) (vs : Array Value) (T : TypeId) : BX (w.alloc (.cells vs T)) w.heap.size vs T := heap_alloc_new w _
theorem BX.below (h : BX w b vs T) (hb : Below w.heap.size w w') : BX w' b vs T := (hb.block b h.lt).trans h
theorem BX.past (h : BX w b vs T) {g : Nat} (hg : w.grownBy w' (some g)) (hne : g ≠ b) : BX w' b vs T := (hg.block b h.lt (fun e => by injection e; omega)).trans h
theorem BX.alloc (h : BX w b vs T) (o : Obj) : BX (w.alloc o) b vs T := h.below (below_new _ _)
theorem BX.drew (h : BX w b vs T) : BX w.drew b vs T := h
theorem BX.cell (h : BX w b vs T) (i : Nat) : w.cell? ⟨b, i, none⟩ = vs[i]? := cell_of_row w b i _ _ _ h
theorem BX.frozen (h : BX w b vs T) (i : Nat) : w.frozen? ⟨b, i, none⟩ = false := frozen_of_row w b i _ _ h
theorem BX.set (h : BX w b vs T) (i : Nat) (v : Value) : BX (w.setCell ⟨b, i, none⟩ v) b (vs.setIfInBounds i v) T := heap_setCell_same w b i vs T v h
theorem BX.other (h : BX w b vs T) {a : Addr} (v : Value) (hne : b ≠ a.block) : BX (w.setCell a v) b vs T := (heap_setCell_other w a b v hne).trans h
end

theorem l92Key_any (g p : Nat) (w : World) (hR : Rd w g p) (hp : p ≤ 900000) :
    Calls Try.prog 48 #[.pointer (some ⟨g, 0, none⟩)] w fun e w' => ∃ a b q, e = .returned (.agg #[.int .i64 a, .int .i64 b]) ∧ q ≤ p + 4 ∧ DS w w' g q := by
  have hlt := hR.lt
  have D0 := (DS.refl hR).new (.cells #[.int .i64 0, .int .i64 0] 26)
  have B0 := BX.new w #[.int .i64 0, .int .i64 0] 26
  go_enter Try.func48, Try.ntmps48
  go_wp2_with fail
  refine (pick_ds D0 _ (by omega) (by omega) (by omega)).mono ?_
  rintro e w1 ⟨a, ha0, ha1, rfl, D1, hg1⟩
  have B1 := B0.past hg1 (by omega)
  go_wp2_with fail
  refine (pick_ds D1 _ (by omega) (by omega) (by omega)).mono ?_
  rintro e w2 ⟨b, hb0, hb1, rfl, D2, hg2⟩
  have B2 := B1.past hg2 (by omega)
  have C2 := BX.new w2 #[.int .i64 (2 + a), .int .i64 (1 + b)] 26
  have hs2 := B2.lt
  go_wp2_with fail
  refine (pick_ds (D2.new _) _ (by omega) (by omega) (by omega)).mono ?_
  rintro e w3 ⟨m, hm0, hm1, rfl, D3, hg3⟩
  have B3 := (B2.alloc _).past hg3 (by omega)
  have C3 := C2.past hg3 (by have := D2.rd.lt; omega)
  by_cases hm : m = 0
  · subst hm
    go_wp2_with fail
    have hlit := OI.litI w3 w3.heap.size [1, 250, 251] (Nat.le_refl _) (by simp)
    refine (pick_ds (D3.new _) _ (by omega) (by omega) (by omega)).mono ?_
    rintro e w4 ⟨m4, hm40, hm41, rfl, D4, hg4⟩
    have hl4 := OI.past hlit hg4 D3.rd.lt
    have hs3 := D2.rd.lt
    have hs4 := D3.rd.lt
    have B4 := (B3.alloc _).past hg4 (by omega)
    have C4 := (C3.alloc _).past hg4 (by omega)
    have c0 := C4.cell 0
    have c1 := C4.cell 1
    have b0 := B4.cell 0
    have b1 := B4.cell 1
    have e0 := C4.frozen 0
    have f0 := B4.frozen 0
    have f1 := B4.frozen 1
    go_wp2_with (first | (refine wpl_idx (xs := [1, 250, 251]) intT rfl _ _ rfl rfl rfl hl4.ri hm40 (by simp; omega) ?_; intro q1 v1 hv1 hc1 _))
    have F := ((C4.set 0 (.int .i64 v1)))
    have G := ((B4.other (a := ⟨w2.heap.size, 0, none⟩) (.int .i64 v1) (by simp; omega)).set 0 (.int .i64 v1)).set 1 (.int .i64 (1 + b))
    have g0 := G.cell 0
    have g1 := G.cell 1
    simp at g0 g1
    refine bodyPost_ret (v := .agg #[.int .i64 v1, .int .i64 (1 + b)]) (by simp [results, Try.results48, go_sem, g0, g1]) rfl ?_
    exact ⟨_, _, _, rfl, by omega, ((D4.setCell _ (by simp; omega) (by simp; omega)).setCell _ (by simp; omega) (by simp)).setCell _ (by simp; omega) (by simp)⟩
  · have hq : (m == 0) = false := by simp [hm]
    clear hm
    have c0 := C3.cell 0
    have c1 := C3.cell 1
    have b0 := B3.cell 0
    have b1 := B3.cell 1
    have f0 := B3.frozen 0
    have f1 := B3.frozen 1
    go_wp2_with fail
    have G := (B3.set 0 (.int .i64 (2 + a))).set 1 (.int .i64 (1 + b))
    have g0 := G.cell 0
    have g1 := G.cell 1
    simp at g0 g1
    refine bodyPost_ret (v := .agg #[.int .i64 (2 + a), .int .i64 (1 + b)]) (by simp [results, Try.results48, go_sem, g0, g1]) rfl ?_
    exact ⟨_, _, _, rfl, by omega, (D3.setCell _ (by simp; omega) (by simp)).setCell _ (by simp; omega) (by simp)⟩

theorem l92Damage_any (g p : Nat) (A : Option Addr) (c : Nat) (xs : List Int) (w : World) (base : Nat) (hR : Rd w g p) (hp : p ≤ 900000) (hr : OI w base A c xs) (hgb : g < base) (hbw : base ≤ w.heap.size) (hn : xs.length ≤ 900000) :
    Calls Try.prog 51 #[.pointer (some ⟨g, 0, none⟩), .slice A xs.length c] w fun e w' => ∃ A' c' ys q, e = .returned (.slice A' ys.length c') ∧ OI w' base A' c' ys ∧ ys.length ≤ xs.length + 1 ∧ q ≤ p + 4 ∧ DS w w' g q := by
  have hlt := hR.lt
  by_cases h0 : xs.length = 0
  · obtain rfl := List.eq_nil_of_length_eq_zero h0
    clear h0
    go_enter Try.func51, Try.ntmps51
    go_wp2_with fail
    go_ret
    exact ⟨_, _, [], p, rfl, hr, by simp, by omega, DS.refl hR⟩
  have hpos : 0 < (xs.length : Int) := by omega
  have hposN : 0 < xs.length := by omega
  have H0 := hid h0
  clear h0
  go_enter Try.func51, Try.ntmps51
  go_wp2_with fail
  refine (pick_ds (DS.refl hR) _ (by omega) (by omega) (by omega)).mono ?_
  rintro e w1 ⟨k, hk0, hk1, rfl, D1, hg1⟩
  have ho1 := OI.past hr hg1 hgb
  obtain ⟨K, rfl⟩ := Int.eq_ofNat_of_zero_le hk0
  have hK : K < xs.length := by omega
  go_wp2_with fail
  refine (pick_ds D1 _ (by omega) (by omega) (by omega)).mono ?_
  rintro e w2 ⟨m, hm0, hm1, rfl, D2, hg2⟩
  have ho2 := OI.past ho1 hg2 hgb
  have hs2 := D2.rd.lt
  have hw2 := D2.gb.size
  by_cases hm : m = 0
  · subst hm
    go_wp2_with (first | (refine wpl_cutI intT rfl _ _ _ rfl rfl (ho2.ri.alloc _) 0 K rfl ⟨_, _, rfl, rfl⟩ (by omega) (by omega) ?_; intro A3 c3 zs hz hr3 hb3 hlz1 hlz2) | (refine wpl_app (xs := []) intT rfl _ _ rfl rfl (OI.empty w2 w2.heap.size (Nat.le_refl _)) rfl hr3 (by simp; omega) (by simp) ?_; intro A4 c4 w4 us hu ho4 hg4 hat4))
    obtain ⟨hlu, hlu2⟩ : us.length ≤ zs.length ∧ zs.length ≤ us.length := by rw [hu.out]; simp
    have D4 := (D2.new _).own (OI.empty w2 w2.heap.size (Nat.le_refl _)) hg4 hs2 hw2
    go_ret
    exact ⟨_, _, us, _, rfl, ho4.mono (by omega), by omega, by omega, D4⟩
  have q0 : (m == 0) = false := by simp [hm]
  clear hm
  by_cases hm : m = 1
  · subst hm
    go_wp2_with (first | (refine wpl_app (xs := []) intT rfl _ _ rfl rfl (OI.empty w2 w2.heap.size (Nat.le_refl _)) rfl (ho2.ri.alloc _) (by simp; omega) (by simp) ?_; intro A4 c4 w4 us hu ho4 hg4 hat4))
    obtain ⟨hlu, hlu2⟩ : us.length ≤ xs.length ∧ xs.length ≤ us.length := by rw [hu.out]; simp
    have D4 := (D2.new _).own (OI.empty w2 w2.heap.size (Nat.le_refl _)) hg4 hs2 hw2
    have hKu : K < us.length := by omega
    refine (pick_ds D4 _ (by omega) (by omega) (by omega)).mono ?_
    rintro e w5 ⟨m5, hm50, hm51, rfl, D5, hg5⟩
    have ho5 := OI.past ho4 hg5 hs2
    obtain ⟨ad, y, rfl, hy, hcy⟩ := ho5.ri.get hKu
    have hfr := (ho5.store K 0).2.2
    go_wp2_with fail
    have ho6 := ho5.store K (m5 - 1)
    have D6 := D5.own ho5 ho6.2.1 hs2 hw2
    go_ret
    exact ⟨some ad, c4, us.set K (m5 - 1), _, ret_slice List.length_set.symm, ho6.1.mono (by omega), by rw [List.length_set]; omega, by omega, D6⟩
  have q1 : (m == 1) = false := by simp [hm]
  clear hm
  by_cases hm : m = 2
  · subst hm
    go_wp2_with (first | (refine wpl_app (xs := []) intT rfl _ _ rfl rfl (OI.empty w2 w2.heap.size (Nat.le_refl _)) rfl (ho2.ri.alloc _) (by simp; omega) (by simp) ?_; intro A4 c4 w4 us hu ho4 hg4 hat4))
    obtain ⟨hlu, hlu2⟩ : us.length ≤ xs.length ∧ xs.length ≤ us.length := by rw [hu.out]; simp
    have D4 := (D2.new _).own (OI.empty w2 w2.heap.size (Nat.le_refl _)) hg4 hs2 hw2
    have hs4 := D4.gb.size
    refine (pick_ds D4 _ (by omega) (by omega) (by omega)).mono ?_
    rintro e w5 ⟨m5, hm50, hm51, rfl, D5, hg5⟩
    have ho5 := OI.past ho4 hg5 hs2
    have hs5 := hg5.size
    have hs45 := hg4.size
    simp at hs45
    go_wp2_with (at_builtin; refine wpl_app (ys := [m5]) intT rfl _ _ rfl rfl (ho5.alloc _) rfl (RI.one w5 m5) (by simp; omega) (by simp; omega) ?_; intro A6 c6 w6 vs hv ho6 hg6 hat6)
    obtain ⟨hlv, hlv2⟩ : vs.length ≤ us.length + 1 ∧ us.length + 1 ≤ vs.length := by rw [hv.out]; simp
    have D6 := (D5.new _).own (ho5.alloc _) hg6 hs2 hw2
    go_ret
    exact ⟨_, _, vs, _, rfl, ho6.mono (by omega), by omega, by omega, D6⟩
  have q2 : (m == 2) = false := by simp [hm]
  clear hm
  go_wp2_with fail
  go_ret
  exact ⟨_, _, xs, _, rfl, ho2, by omega, by omega, D2⟩
end Go.Proofs.Ytadjjcjhlndpkaa
