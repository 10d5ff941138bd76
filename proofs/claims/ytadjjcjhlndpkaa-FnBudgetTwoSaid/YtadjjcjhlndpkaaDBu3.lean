/- A budget with a number is drawn. No condition. -/
import Derived.Test.YtadjjcjhlndpkaaDBu2
namespace Go.Proofs.Ytadjjcjhlndpkaa
open Go Go.RowKit

theorem below_set3 {w w' : World} {u v t : Value} (h : Below w.heap.size w w') : Below w.heap.size w (((w'.setCell ⟨w.heap.size, 0, none⟩ u).setCell ⟨w.heap.size, 1, none⟩ v).setCell ⟨w.heap.size, 2, none⟩ t) :=
  below_gb (gb_trans (gb_trans (gb_trans (gb_of h (some w.heap.size)) (gb_setCell w' ⟨w.heap.size, 0, none⟩ _)) (gb_setCell _ ⟨w.heap.size, 1, none⟩ _)) (gb_setCell _ ⟨w.heap.size, 2, none⟩ _)) (Nat.le_refl _)
/-- What a budget with a number is drawn as. -/
def PUN (w : World) (e : Ending) (w' : World) : Prop :=
  ∃ a l r n, e = .returned (.tuple #[.agg #[.int .i64 a, .int .i64 l, .int .i64 r], .int .i64 n]) ∧ Below w.heap.size w w'

theorem DrawBudgetTake_any (A : Option Addr) (c : Nat) (bs : List Int) (w : World) (hr : RY w A c bs) :
    Calls Try.prog 24 #[.slice A bs.length c] w (PUN w) := by
  have B0 := BX.new w #[.int .i64 0, .int .i64 0, .int .i64 0] 33
  go_enter Try.func24, Try.ntmps24
  go_wp2_with fail
  refine (l6Open_any _ _ _ _ (hr.below (below_new _ _))).mono ?_
  rintro e w1 ⟨g, rfl, hg, hR1, hb1⟩
  have B1 := B0.below hb1
  simp at hg
  have hbw := below_on (below_new w _) hb1
  go_wp2_with fail
  refine (l92Budget_any g 0 _ hR1 (by omega)).mono ?_
  rintro e w2 ⟨a, l, r, q2, rfl, hq2, D2⟩
  have B2 := B1.past D2.gb (by omega)
  have C2 := BX.new w2 #[.int .i64 a, .int .i64 l, .int .i64 r] 33
  have hs2 := D2.rd.lt
  have hl2 := B2.lt
  have c0 := C2.cell 0
  have c1 := C2.cell 1
  have c2 := C2.cell 2
  have n1 : ¬ w2.heap.size = w.heap.size := by omega
  have n2 : ¬ w.heap.size = w2.heap.size := by omega
  simp at c0 c1 c2
  go_wp2_with fail
  go_region_held3 (fun w' => w'.cell? ⟨w2.heap.size, 0, none⟩ = some (.int .i64 a) ∧ w'.cell? ⟨w2.heap.size, 1, none⟩ = some (.int .i64 l) ∧ w'.cell? ⟨w2.heap.size, 2, none⟩ = some (.int .i64 r)) (first | go_keep | exact ⟨by assumption, by assumption, by assumption⟩) (first | (go_at_call 43; refine (pick_ds D3 _ (by omega) (by omega) (by omega)).mono ?_; rintro e w4 ⟨m4, hm40, hm41, rfl, D4, hg4⟩; have C4 := C3.past hg4 (by omega); have B4 := B3.past hg4 (by omega); have kc0 := C4.cell 0; have kc1 := C4.cell 1; have kc2 := C4.cell 2; simp at kc0 kc1 kc2; have b40 := B4.cell 0; have b41 := B4.cell 1; have b42 := B4.cell 2; simp at b40 b41 b42; have f40 := B4.frozen 0; have f41 := B4.frozen 1; have f42 := B4.frozen 2) | (go_at_call 43; refine (pick_ds ((D2.new _).drew) _ (by omega) (by omega) (by omega)).mono ?_; rintro e w3 ⟨m, hm0, hm1, rfl, D3, hg3⟩; have C3 := (C2.drew).past hg3 (by omega); have B3 := ((B2.alloc _).drew).past hg3 (by omega); have kc0 := C3.cell 0; have kc1 := C3.cell 1; have kc2 := C3.cell 2; simp at kc0 kc1 kc2))
  go_wp2_with fail
  have G := B4.set3 (.int .i64 a) (.int .i64 l) (.int .i64 r)
  have g0 := G.cell 0
  have g1 := G.cell 1
  have g2 := G.cell 2
  simp at g0 g1 g2
  have hbF := D4.fin hbw (by omega)
  refine bodyPost_ret (v := .tuple #[.agg #[.int .i64 a, .int .i64 l, .int .i64 r], .int .i64 (IntKind.i64.wrap (m - IntKind.i64.wrap (m4.tdiv 19)))]) (by simp [results, Try.results24, go_sem, g0, g1, g2]) rfl ?_
  exact ⟨_, _, _, _, rfl, below_set3 hbF⟩

theorem DrawBudgetGive_any (A : Option Addr) (c : Nat) (bs : List Int) (w : World) (hr : RY w A c bs) :
    Calls Try.prog 21 #[.slice A bs.length c] w (PUN w) := by
  have B0 := BX.new w #[.int .i64 0, .int .i64 0, .int .i64 0] 33
  go_enter Try.func21, Try.ntmps21
  go_wp2_with fail
  refine (l6Open_any _ _ _ _ (hr.below (below_new _ _))).mono ?_
  rintro e w1 ⟨g, rfl, hg, hR1, hb1⟩
  have B1 := B0.below hb1
  simp at hg
  have hbw := below_on (below_new w _) hb1
  go_wp2_with fail
  refine (l92Budget_any g 0 _ hR1 (by omega)).mono ?_
  rintro e w2 ⟨a, l, r, q2, rfl, hq2, D2⟩
  have B2 := B1.past D2.gb (by omega)
  have C2 := BX.new w2 #[.int .i64 a, .int .i64 l, .int .i64 r] 33
  have hs2 := D2.rd.lt
  have hl2 := B2.lt
  have c0 := C2.cell 0
  have c1 := C2.cell 1
  have c2 := C2.cell 2
  have n1 : ¬ w2.heap.size = w.heap.size := by omega
  have n2 : ¬ w.heap.size = w2.heap.size := by omega
  simp at c0 c1 c2
  go_wp2_with fail
  go_region_held3 (fun w' => w'.cell? ⟨w2.heap.size, 0, none⟩ = some (.int .i64 a) ∧ w'.cell? ⟨w2.heap.size, 1, none⟩ = some (.int .i64 l) ∧ w'.cell? ⟨w2.heap.size, 2, none⟩ = some (.int .i64 r)) (first | go_keep | exact ⟨by assumption, by assumption, by assumption⟩) (first | (go_at_call 43; refine (pick_ds D3 _ (by omega) (by omega) (by omega)).mono ?_; rintro e w4 ⟨m4, hm40, hm41, rfl, D4, hg4⟩; have C4 := C3.past hg4 (by omega); have B4 := B3.past hg4 (by omega); have kc0 := C4.cell 0; have kc1 := C4.cell 1; have kc2 := C4.cell 2; simp at kc0 kc1 kc2; have b40 := B4.cell 0; have b41 := B4.cell 1; have b42 := B4.cell 2; simp at b40 b41 b42; have f40 := B4.frozen 0; have f41 := B4.frozen 1; have f42 := B4.frozen 2) | (go_at_call 43; refine (pick_ds ((D2.new _).drew) _ (by omega) (by omega) (by omega)).mono ?_; rintro e w3 ⟨m, hm0, hm1, rfl, D3, hg3⟩; have C3 := (C2.drew).past hg3 (by omega); have B3 := ((B2.alloc _).drew).past hg3 (by omega); have kc0 := C3.cell 0; have kc1 := C3.cell 1; have kc2 := C3.cell 2; simp at kc0 kc1 kc2))
  go_wp2_with fail
  have G := B4.set3 (.int .i64 a) (.int .i64 l) (.int .i64 r)
  have g0 := G.cell 0
  have g1 := G.cell 1
  have g2 := G.cell 2
  simp at g0 g1 g2
  have hbF := D4.fin hbw (by omega)
  refine bodyPost_ret (v := .tuple #[.agg #[.int .i64 a, .int .i64 l, .int .i64 r], .int .i64 (IntKind.i64.wrap (m - IntKind.i64.wrap (m4.tdiv 19)))]) (by simp [results, Try.results21, go_sem, g0, g1, g2]) rfl ?_
  exact ⟨_, _, _, _, rfl, below_set3 hbF⟩

end Go.Proofs.Ytadjjcjhlndpkaa
