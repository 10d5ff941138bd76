/- Keys and bytes for tags and seals are drawn. No condition. -/
import Derived.Test.YtadjjcjhlndpkaaDTg2
namespace Go.Proofs.Ytadjjcjhlndpkaa
open Go Go.RowKit

theorem gb_setCell (w : World) (a : Addr) (v : Value) : w.grownBy (w.setCell a v) (some a.block) :=
  ⟨rfl, rfl, rfl, by simp [World.setCell], fun k _ hk => heap_setCell_other w a k v (fun e => hk (by simp [e]))⟩
theorem OI.setOther {w : World} {base c : Nat} {A : Option Addr} {xs : List Int} (h : OI w base A c xs) (a : Addr) (v : Value) (hb : a.block < base) : OI (w.setCell a v) base A c xs := OI.past h (gb_setCell w a v) hb
theorem DS.fin {w0 w1 w : World} {g p : Nat} (h : DS w1 w g p) (hb : Below w0.heap.size w0 w1) (hg : w0.heap.size ≤ g) : Below w0.heap.size w0 w := below_gb (gb_trans (gb_of hb (some g)) h.gb) hg
theorem below_set2 {w w' : World} {u v : Value} (h : Below w.heap.size w w') : Below w.heap.size w ((w'.setCell ⟨w.heap.size, 0, none⟩ u).setCell ⟨w.heap.size, 1, none⟩ v) :=
  below_gb (gb_trans (gb_trans (gb_of h (some w.heap.size)) (gb_setCell w' ⟨w.heap.size, 0, none⟩ _)) (gb_setCell _ ⟨w.heap.size, 1, none⟩ _)) (Nat.le_refl _)
/-- What a key with bytes is drawn as. -/
def PKL (w : World) (n : Nat) (e : Ending) (w' : World) : Prop :=
  ∃ a b A c ys, e = .returned (.tuple #[.agg #[.int .i64 a, .int .i64 b], .slice A ys.length c]) ∧ OI w' w.heap.size A c ys ∧ ys.length ≤ n ∧ Below w.heap.size w w'

theorem DrawTagOf_any (A : Option Addr) (c : Nat) (bs : List Int) (w : World) (hr : RY w A c bs) :
    Calls Try.prog 27 #[.slice A bs.length c] w (PKL w 10000) := by
  have B0 := BX.new w #[.int .i64 0, .int .i64 0] 26
  go_enter Try.func27, Try.ntmps27
  go_wp2_with fail
  refine (l6Open_any _ _ _ _ (hr.below (below_new _ _))).mono ?_
  rintro e w1 ⟨g, rfl, hg, hR1, hb1⟩
  have B1 := B0.below hb1
  simp at hg
  have hbw := below_on (below_new w _) hb1
  go_wp2_with fail
  refine (l92Key_any g 0 _ hR1 (by omega)).mono ?_
  rintro e w2 ⟨a, b, q2, rfl, hq2, D2⟩
  have B2 := B1.past D2.gb (by omega)
  have C2 := BX.new w2 #[.int .i64 a, .int .i64 b] 26
  have hs2 := D2.rd.lt
  have hl2 := B2.lt
  have k0 : w2.drew.heap.size = w2.heap.size := rfl
  have c0 := C2.cell 0
  have c1 := C2.cell 1
  have b0 := B2.cell 0
  have b1 := B2.cell 1
  have n1 : ¬ w2.heap.size = w.heap.size := by omega
  have n2 : ¬ w.heap.size = w2.heap.size := by omega
  simp at c0 c1 b0 b1
  go_wp2_with fail
  go_region_held3 (fun w' => w'.cell? ⟨w2.heap.size, 0, none⟩ = some (.int .i64 a) ∧ w'.cell? ⟨w2.heap.size, 1, none⟩ = some (.int .i64 b)) (first | go_keep | exact ⟨by assumption, by assumption⟩) (first | (go_at_call 43; refine (pick_ds ((D2.new _).drew) _ (by omega) (by omega) (by omega)).mono ?_; rintro e w3 ⟨m, hm0, hm1, rfl, D3, hg3⟩; have C3 := (C2.drew).past hg3 (by omega); have B3 := ((B2.alloc _).drew).past hg3 (by omega); have kc0 := C3.cell 0; have kc1 := C3.cell 1; simp at kc0 kc1) | (go_at_call 49; refine (l91Bytes_any g _ _ _ D3.rd (by omega) (by omega) (by omega)).mono ?_; rintro e w4 ⟨A4, c4, ys, q4, rfl, ho4, hl4, hq4, D4⟩; have C4 := C3.past D4.gb (by omega); have kc0 := C4.cell 0; have kc1 := C4.cell 1; simp at kc0 kc1; have B4 := B3.past D4.gb (by omega); have b40 := B4.cell 0; have b41 := B4.cell 1; simp at b40 b41; have f40 := B4.frozen 0; have f41 := B4.frozen 1))
  go_wp2_with fail
  have G := (B4.set 0 (.int .i64 a)).set 1 (.int .i64 b)
  have g0 := G.cell 0
  have g1 := G.cell 1
  simp at g0 g1
  have ho5 := (ho4.setOther ⟨w.heap.size, 0, none⟩ (.int .i64 a) (by have := B3.lt; simpa using this)).setOther ⟨w.heap.size, 1, none⟩ (.int .i64 b) (by have := B3.lt; simpa using this)
  have hbF := (D3.trans D4).fin hbw (by omega)
  refine bodyPost_ret (v := .tuple #[.agg #[.int .i64 a, .int .i64 b], .slice A4 ys.length c4]) (by simp [results, Try.results27, go_sem, g0, g1]) rfl ?_
  exact ⟨_, _, _, _, _, rfl, ho5.mono (by have := B3.lt; omega), hl4, below_set2 hbF⟩

theorem sealPut_short {a b : Int} {xs : List Int} : ((sealPut a b xs).getD []).length ≤ xs.length + 1 := by
  unfold sealPut; split <;> simp
theorem DrawSealPut_any (A : Option Addr) (c : Nat) (bs : List Int) (w : World) (hr : RY w A c bs) :
    Calls Try.prog 34 #[.slice A bs.length c] w (PKL w 10000) := by
  have B0 := BX.new w #[.int .i64 0, .int .i64 0] 26
  go_enter Try.func34, Try.ntmps34
  go_wp2_with fail
  refine (DrawTagOf_any _ _ _ _ (hr.below (below_new _ _))).mono ?_
  rintro e w1 ⟨a, b, A1, c1, ys, rfl, ho1, hl1, hb1⟩
  have B1 := B0.below hb1
  have b0 := B1.cell 0
  have b1 := B1.cell 1
  have f0 := B1.frozen 0
  have f1 := B1.frozen 1
  simp at b0 b1
  go_wp2_with fail
  have G := (B1.set 0 (.int .i64 a)).set 1 (.int .i64 b)
  have g0 := G.cell 0
  have g1 := G.cell 1
  simp at g0 g1
  have ho5 := (ho1.setOther ⟨w.heap.size, 0, none⟩ (.int .i64 a) (by simp)).setOther ⟨w.heap.size, 1, none⟩ (.int .i64 b) (by simp)
  refine bodyPost_ret (v := .tuple #[.agg #[.int .i64 a, .int .i64 b], .slice A1 ys.length c1]) (by simp [results, Try.results34, go_sem, g0, g1]) rfl ?_
  exact ⟨_, _, _, _, _, rfl, ho5.mono (by simp), hl1, below_gb (gb_trans (gb_trans (gb_of (below_on (below_new _ _) hb1) _) (gb_setCell w1 ⟨w.heap.size, 0, none⟩ _)) (gb_setCell _ ⟨w.heap.size, 1, none⟩ _)) (by simp)⟩

theorem DrawSealOpen_any (A : Option Addr) (c : Nat) (bs : List Int) (w : World) (hr : RY w A c bs) :
    Calls Try.prog 36 #[.slice A bs.length c] w (PKL w 20000) := by
  have B0 := BX.new w #[.int .i64 0, .int .i64 0] 26
  go_enter Try.func36, Try.ntmps36
  go_wp2_with fail
  refine (l6Open_any _ _ _ _ (hr.below (below_new _ _))).mono ?_
  rintro e w1 ⟨g, rfl, hg, hR1, hb1⟩
  have B1 := B0.below hb1
  simp at hg
  have hbw := below_on (below_new w _) hb1
  go_wp2_with fail
  refine (l92Key_any g 0 _ hR1 (by omega)).mono ?_
  rintro e w2 ⟨a, b, q2, rfl, hq2, D2⟩
  have B2 := B1.past D2.gb (by omega)
  have C2 := BX.new w2 #[.int .i64 a, .int .i64 b] 26
  have hs2 := D2.rd.lt
  have hl2 := B2.lt
  have c0 := C2.cell 0
  have c1 := C2.cell 1
  have n1 : ¬ w2.heap.size = w.heap.size := by omega
  have n2 : ¬ w.heap.size = w2.heap.size := by omega
  simp at c0 c1
  go_wp2_with fail
  go_region_held3 (fun w' => w'.cell? ⟨w2.heap.size, 0, none⟩ = some (.int .i64 a) ∧ w'.cell? ⟨w2.heap.size, 1, none⟩ = some (.int .i64 b)) (first | go_keep | exact ⟨by assumption, by assumption⟩) (first | (go_at_call 43; refine (pick_ds ((D2.new _).drew) _ (by omega) (by omega) (by omega)).mono ?_; rintro e w3 ⟨m, hm0, hm1, rfl, D3, hg3⟩; have C3 := (C2.drew).past hg3 (by omega); have B3 := ((B2.alloc _).drew).past hg3 (by omega); have kc0 := C3.cell 0; have kc1 := C3.cell 1; simp at kc0 kc1) | (go_at_call 49; refine (l91Bytes_any g _ _ _ D3.rd (by omega) (by omega) (by omega)).mono ?_; rintro e w4 ⟨A4, c4, ys, q4, rfl, ho4, hl4, hq4, D4⟩; have C4 := C3.past D4.gb (by omega); have kc0 := C4.cell 0; have kc1 := C4.cell 1; simp at kc0 kc1; have B4 := B3.past D4.gb (by omega)) | (go_at_call 28; refine (sSealPut_any _ _ _ _ _ _ ho4.ri (by omega)).mono ?_; rintro e w5 ⟨A5, c5, zs, ok5, hz5, hok5, ho5, rfl, hb5⟩; have C5 := C4.below hb5; have B5 := B4.below hb5; have kc0 := C5.cell 0; have kc1 := C5.cell 1; simp at kc0 kc1))
  have D5 := (D3.trans D4).below hb5
  have hlz : zs.length ≤ 10001 := by rw [hz5.out]; exact Nat.le_trans sealPut_short (by omega)
  have hs4 := C3.lt
  have hs5 := D4.gb.size
  have hs6 := B3.lt
  have hs7 := D3.rd.lt
  go_wp2_with fail
  refine (pick_ds D5 _ (by omega) (by omega) (by omega)).mono ?_
  rintro e w6 ⟨m6, hm60, hm61, rfl, D6, hg6⟩
  have C6 := C5.past hg6 (by omega)
  have B6 := B5.past hg6 (by omega)
  have ho6 := OI.past ho5 hg6 (by omega)
  by_cases hm : m6 = 0
  · subst hm
    go_wp2_with fail
    refine (l92Key_any g _ _ D6.rd (by omega)).mono ?_
    rintro e w7 ⟨a7, b7, q7, rfl, hq7, D7⟩
    have B7 := B6.past D7.gb (by omega)
    have ho7 := OI.past ho6 D7.gb (by omega)
    have b70 := B7.cell 0
    have b71 := B7.cell 1
    have f70 := B7.frozen 0
    have f71 := B7.frozen 1
    simp at b70 b71
    go_wp2_with fail
    have G := (B7.set 0 (.int .i64 a7)).set 1 (.int .i64 b7)
    have g0 := G.cell 0
    have g1 := G.cell 1
    simp at g0 g1
    have ho8 := (ho7.setOther ⟨w.heap.size, 0, none⟩ (.int .i64 a7) (by simp; omega)).setOther ⟨w.heap.size, 1, none⟩ (.int .i64 b7) (by simp; omega)
    refine bodyPost_ret (v := .tuple #[.agg #[.int .i64 a7, .int .i64 b7], .slice A5 zs.length c5]) (by simp [results, Try.results36, go_sem, g0, g1]) rfl ?_
    exact ⟨_, _, _, _, _, rfl, ho8.mono (by omega), by omega, below_set2 ((D6.trans D7).fin hbw (by omega))⟩
  have hq : (m6 == 0) = false := by simp [hm]
  clear hm
  have c60 := C6.cell 0
  have c61 := C6.cell 1
  simp at c60 c61
  go_wp2_with fail
  go_region_held3 (fun w' => w'.cell? ⟨w2.heap.size, 0, none⟩ = some (.int .i64 a) ∧ w'.cell? ⟨w2.heap.size, 1, none⟩ = some (.int .i64 b)) (first | go_keep | exact ⟨by assumption, by assumption⟩) (first | (go_at_call 51; refine (l92Damage_any g _ _ _ _ _ w4.heap.size D6.drew.rd (by omega) ho6.drew (by omega) (by have := hb5.size; have := hg6.size; simp; omega) (by omega)).mono ?_; rintro e w7 ⟨A7, c7, us, q7, rfl, ho7, hl7, hq7, D7⟩; have C7 := (C6.drew).past D7.gb (by omega); have B7 := (B6.drew).past D7.gb (by omega); have kc0 := C7.cell 0; have kc1 := C7.cell 1; have b70 := B7.cell 0; have b71 := B7.cell 1; have f70 := B7.frozen 0; have f71 := B7.frozen 1; simp at b70 b71 kc0 kc1))
  go_wp2_with fail
  have G := (B7.set 0 (.int .i64 a)).set 1 (.int .i64 b)
  have g0 := G.cell 0
  have g1 := G.cell 1
  simp at g0 g1
  have ho8 := (ho7.setOther ⟨w.heap.size, 0, none⟩ (.int .i64 a) (by simp; omega)).setOther ⟨w.heap.size, 1, none⟩ (.int .i64 b) (by simp; omega)
  refine bodyPost_ret (v := .tuple #[.agg #[.int .i64 a, .int .i64 b], .slice A7 us.length c7]) (by simp [results, Try.results36, go_sem, g0, g1]) rfl ?_
  exact ⟨_, _, _, _, _, rfl, ho8.mono (by omega), by omega, below_set2 ((D6.drew.trans D7).fin hbw (by omega))⟩
end Go.Proofs.Ytadjjcjhlndpkaa
