/- Budgets that were used are drawn. No condition. -/
import Derived.Test.YtadjjcjhlndpkaaDr
import Derived.Test.YtadjjcjhlndpkaaCBu
namespace Go.Proofs.Ytadjjcjhlndpkaa
open Go Go.RowKit

/-- The budget's box at b, the result's box still empty, at most q numbers drawn. -/
def BL (w wx : World) (g b q : Nat) : Prop :=
  (∃ a l r, BX wx b #[.int .i64 a, .int .i64 l, .int .i64 r] 33) ∧ BX wx w.heap.size #[.int .i64 0, .int .i64 0, .int .i64 0] 33 ∧ ∃ q', q' ≤ q ∧ DS w wx g q'
set_option maxHeartbeats 8000000 in
theorem l92Budget_any (g p : Nat) (w : World) (hR : Rd w g p) (hp : p ≤ 900000) :
    Calls Try.prog 42 #[.pointer (some ⟨g, 0, none⟩)] w fun e w' => ∃ a l r q, e = .returned (.agg #[.int .i64 a, .int .i64 l, .int .i64 r]) ∧ q ≤ p + 30 ∧ DS w w' g q := by
  have hlt := hR.lt
  have D0 := (DS.refl hR).new (.cells #[.int .i64 0, .int .i64 0, .int .i64 0] 33)
  have B0 := BX.new w #[.int .i64 0, .int .i64 0, .int .i64 0] 33
  go_enter Try.func42, Try.ntmps42
  go_wp2_with fail
  refine (pick_ds D0 _ (by omega) (by omega) (by omega)).mono ?_
  rintro e w1 ⟨m1, hm10, hm11, rfl, D1, hg1⟩
  have B1 := B0.past hg1 (by omega)
  go_wp2_with fail
  refine (pick_ds D1 _ (by omega) (by omega) (by omega)).mono ?_
  rintro e w2 ⟨m2, hm20, hm21, rfl, D2, hg2⟩
  have B2 := B1.past hg2 (by omega)
  have hs2 := B2.lt
  obtain ⟨n0, n1⟩ : 0 ≤ m1 * (1 + m2) ∧ m1 * (1 + m2) ≤ 249 * 4 := ⟨Int.mul_nonneg hm10 (by omega), Int.mul_le_mul (by omega) (by omega) (by omega) (by omega)⟩
  go_wp2_with fail
  refine (sBudgetNew_any _ _).mono ?_
  rintro e w3 ⟨a, l, r, ok, hx, hok, rfl, hb3⟩
  have D3 := D2.below hb3
  have B3 := B2.below hb3
  have C3 := BX.new w3 #[.int .i64 a, .int .i64 l, .int .i64 r] 33
  have hs3 := B3.lt
  have hs3' := D3.rd.lt
  go_wp2_with fail
  refine (pick_ds (D3.new _) _ (by omega) (by omega) (by omega)).mono ?_
  rintro e w4 ⟨m4, hm40, hm41, rfl, D4, hg4⟩
  have B4 := (B3.alloc _).past hg4 (by omega)
  have C4 := C3.past hg4 (by omega)
  clear n0 n1 hx hok C3 B3 D3 B2 D2 B1 D1 B0 D0 hb3 hg1 hg2 hg4
  generalize w3.heap.size = b at *
  have n1 : ¬ b = w.heap.size := by omega
  have n2 : ¬ w.heap.size = b := by omega
  have hgb : g < b := by omega
  go_wp2_with fail
  go_loopw [6] (fun i wr => ∃ (k : Nat), (k : Int) ≤ m4 ∧ i = .int .i64 k ∧ BL w wr g b (p + 3 + 5 * k)) (fun i _ => 4 - (intOf i).toNat)
  case atStart => exact ⟨0, by omega, rfl, ⟨a, l, r, C4⟩, B4, _, by omega, D4⟩
  case round =>
    obtain ⟨k, hk, rfl, ⟨a', l', r', C⟩, B, q, hq, D⟩ := hrel
    have c0 := C.cell 0
    have c1 := C.cell 1
    have c2 := C.cell 2
    simp at c0 c1 c2
    have hsr := C.lt
    have hsg := D.rd.lt
    have nr1 : ¬ b = wr.heap.size := by omega
    have nr2 : ¬ wr.heap.size = b := by omega
    by_cases hlt2 : (k : Int) < m4
    · go_upto_region 6 with fail
      go_cut [7, 8] from 24 to 51 (fun p7 b8 wx => ∃ (B7 : Nat) (a6 l6 r6 : Int) (ok6 : Bool), p7 = .pointer (some ⟨B7, 0, none⟩) ∧ b8 = .bool ok6 ∧ BX wx B7 #[.int .i64 a6, .int .i64 l6, .int .i64 r6] 33 ∧ BL w wx g b (q + 1) ∧ b < B7 ∧ g < B7)
      case first =>
        go_region_held3 (fun w' => w'.cell? ⟨b, 0, none⟩ = some (.int .i64 a') ∧ w'.cell? ⟨b, 1, none⟩ = some (.int .i64 l') ∧ w'.cell? ⟨b, 2, none⟩ = some (.int .i64 r')) (first | go_keep | exact ⟨by assumption, by assumption, by assumption⟩) (first | (go_at_call 43; refine (pick_ds D.drew _ (by omega) (by omega) (by omega)).mono ?_; rintro e w5 ⟨m5, hm50, hm51, rfl, D5, hg5⟩; have C5 := (C.drew).past hg5 (by omega); have B5 := (B.drew).past hg5 (by omega); have kc05 := C5.cell 0; have kc15 := C5.cell 1; have kc25 := C5.cell 2; simp at kc05 kc15 kc25; have hs5 := C5.lt; have hg5 := D5.rd.lt; have n3 : ¬ b = w5.heap.size := (by omega); have n4 : ¬ w5.heap.size = b := (by omega)) | (go_at_call 43; refine (pick_ds (D.new _).drew _ (by omega) (by omega) (by omega)).mono ?_; rintro e w5 ⟨m5, hm50, hm51, rfl, D5, hg5⟩; have C5 := ((C.alloc _).drew).past hg5 (by omega); have B5 := ((B.alloc _).drew).past hg5 (by omega); have N5 := (BX.new wr #[.int .i64 0, .int .i64 0, .int .i64 0] 33).drew.past hg5 (by omega); have kc05 := C5.cell 0; have kc15 := C5.cell 1; have kc25 := C5.cell 2; simp at kc05 kc15 kc25; have hs5 := C5.lt; have hg5 := D5.rd.lt; have n3 : ¬ b = w5.heap.size := (by omega); have n4 : ¬ w5.heap.size = b := (by omega)) | (go_at_call 26; refine (sBudgetTake_any _ _ _ _ w5).mono ?_; rintro e w6 ⟨a6, l6, r6, ok6, _, _, rfl, hb6⟩; have C6 := C5.below hb6; have B6 := B5.below hb6; have D6 := D5.below hb6; have N6 := N5.below hb6; have kc06 := C6.cell 0; have kc16 := C6.cell 1; have kc26 := C6.cell 2; simp at kc06 kc16 kc26; have hs6 := C6.lt; have n5 : ¬ b = w6.heap.size := (by omega); have n6 : ¬ w6.heap.size = b := (by omega); have M61 := N6.frozen 0; have M62 := N6.frozen 1; have M63 := N6.frozen 2; have M64 := N6.cell 0; have M65 := N6.cell 1; have M66 := N6.cell 2; simp at M64 M65 M66) | (go_at_call 26; refine (sBudgetTake_any _ _ _ _ w5).mono ?_; rintro e w6 ⟨a6, l6, r6, ok6, _, _, rfl, hb6⟩; have C6 := C5.below hb6; have B6 := B5.below hb6; have D6 := D5.below hb6; have kc06 := C6.cell 0; have kc16 := C6.cell 1; have kc26 := C6.cell 2; simp at kc06 kc16 kc26; have hs6 := C6.lt; have n5 : ¬ b = w6.heap.size := (by omega); have n6 : ¬ w6.heap.size = b := (by omega)) | (go_at_call 26; refine (sBudgetTake_any _ _ _ _ _).mono ?_; rintro e w6 ⟨a6, l6, r6, ok6, _, _, rfl, hb6⟩; have C6 := (C5.alloc _).below hb6; have B6 := (B5.alloc _).below hb6; have D6 := (D5.new _).below hb6; have N6 := (BX.new w5 #[.int .i64 0, .int .i64 0, .int .i64 0] 33).below hb6; have kc06 := C6.cell 0; have kc16 := C6.cell 1; have kc26 := C6.cell 2; simp at kc06 kc16 kc26; have hs6 := C6.lt; have n5 : ¬ b = w6.heap.size := (by omega); have n6 : ¬ w6.heap.size = b := (by omega); have M61 := N6.frozen 0; have M62 := N6.frozen 1; have M63 := N6.frozen 2; have M64 := N6.cell 0; have M65 := N6.cell 1; have M66 := N6.cell 2; simp at M64 M65 M66))
        · go_wp2_with fail
          go_meet
          have hg6 := D6.rd.lt
          exact ⟨_, a6, l6, r6, ok6, rfl, rfl, BX.new w6 _ _, ⟨⟨_, _, _, C6.alloc _⟩, B6.alloc _, _, (by omega), D6.new _⟩, by omega, by omega⟩
        · go_wp2_with fail
          go_meet
          exact ⟨_, a6, l6, r6, ok6, rfl, rfl, N6.set3 _ _ _, ⟨⟨_, _, _, C6.other3 _ _ _ (by omega)⟩, B6.other3 _ _ _ (by omega), _, (by omega), D6.set3 _ _ _ (by omega) (by omega)⟩, by omega, by omega⟩
        · go_wp2_with fail
          go_meet
          exact ⟨_, a6, l6, r6, ok6, rfl, rfl, N6.set3 _ _ _, ⟨⟨_, _, _, C6.other3 _ _ _ (by omega)⟩, B6.other3 _ _ _ (by omega), _, (by omega), D6.set3 _ _ _ (by omega) (by omega)⟩, by omega, by omega⟩
      case rest =>
        obtain ⟨B7, a6, l6, r6, ok6, rfl, rfl, N7, ⟨⟨a7, l7, r7, C7⟩, B7', q7, hq7, D7⟩, hB7, hgB7⟩ := hcut
        clear c0 c1 c2 C B D hsr hsg nr1 nr2
        have n70 := N7.cell 0
        have n71 := N7.cell 1
        have n72 := N7.cell 2
        simp at n70 n71 n72
        have f70 := C7.frozen 0
        have f71 := C7.frozen 1
        have f72 := C7.frozen 2
        have x70 := C7.cell 0
        have x71 := C7.cell 1
        have x72 := C7.cell 2
        simp at x70 x71 x72
        go_upto_if 36 with fail
        go_cut [] from 24 to 51 (fun wx => BL w wx g b (q + 1))
        case first =>
          cases ok6
          · go_wp2_with fail
            go_meet
            exact ⟨⟨_, _, _, C7⟩, B7', _, hq7, D7⟩
          · go_wp2_with fail
            go_meet
            exact ⟨⟨_, _, _, C7.set3 _ _ _⟩, B7'.other3 _ _ _ (by omega), _, hq7, D7.set3 _ _ _ (by omega) (by omega)⟩
        case rest =>
          clear n70 n71 n72 f70 f71 f72 x70 x71 x72 N7 C7 B7' D7 hq7 hB7 hgB7
          obtain ⟨⟨a', l', r', C⟩, B, q8, hq8, D⟩ := hcut
          have c0 := C.cell 0
          have c1 := C.cell 1
          have c2 := C.cell 2
          simp at c0 c1 c2
          have hsr := C.lt
          have hsg := D.rd.lt
          have nr1 : ¬ b = wc.heap.size := by omega
          have nr2 : ¬ wc.heap.size = b := by omega
          go_upto_region 9 with fail
          go_cut [9, 10] from 24 to 51 (fun p7 b8 wx => ∃ (B7 : Nat) (a6 l6 r6 : Int) (ok6 : Bool), p7 = .pointer (some ⟨B7, 0, none⟩) ∧ b8 = .bool ok6 ∧ BX wx B7 #[.int .i64 a6, .int .i64 l6, .int .i64 r6] 33 ∧ BL w wx g b (q8 + 1) ∧ b < B7 ∧ g < B7)
          case first =>
            go_region_held3 (fun w' => w'.cell? ⟨b, 0, none⟩ = some (.int .i64 a') ∧ w'.cell? ⟨b, 1, none⟩ = some (.int .i64 l') ∧ w'.cell? ⟨b, 2, none⟩ = some (.int .i64 r')) (first | go_keep | exact ⟨by assumption, by assumption, by assumption⟩) (first | (go_at_call 43; refine (pick_ds D.drew _ (by omega) (by omega) (by omega)).mono ?_; rintro e w5 ⟨m5, hm50, hm51, rfl, D5, hg5⟩; have C5 := (C.drew).past hg5 (by omega); have B5 := (B.drew).past hg5 (by omega); have kc05 := C5.cell 0; have kc15 := C5.cell 1; have kc25 := C5.cell 2; simp at kc05 kc15 kc25; have hs5 := C5.lt; have hg5 := D5.rd.lt; have n3 : ¬ b = w5.heap.size := (by omega); have n4 : ¬ w5.heap.size = b := (by omega)) | (go_at_call 43; refine (pick_ds (D.new _).drew _ (by omega) (by omega) (by omega)).mono ?_; rintro e w5 ⟨m5, hm50, hm51, rfl, D5, hg5⟩; have C5 := ((C.alloc _).drew).past hg5 (by omega); have B5 := ((B.alloc _).drew).past hg5 (by omega); have N5 := (BX.new wc #[.int .i64 0, .int .i64 0, .int .i64 0] 33).drew.past hg5 (by omega); have kc05 := C5.cell 0; have kc15 := C5.cell 1; have kc25 := C5.cell 2; simp at kc05 kc15 kc25; have hs5 := C5.lt; have hg5 := D5.rd.lt; have n3 : ¬ b = w5.heap.size := (by omega); have n4 : ¬ w5.heap.size = b := (by omega)) | (go_at_call 23; refine (sBudgetGive_any _ _ _ _ w5).mono ?_; rintro e w6 ⟨a6, l6, r6, ok6, _, _, rfl, hb6⟩; have C6 := C5.below hb6; have B6 := B5.below hb6; have D6 := D5.below hb6; have N6 := N5.below hb6; have kc06 := C6.cell 0; have kc16 := C6.cell 1; have kc26 := C6.cell 2; simp at kc06 kc16 kc26; have hs6 := C6.lt; have n5 : ¬ b = w6.heap.size := (by omega); have n6 : ¬ w6.heap.size = b := (by omega); have M61 := N6.frozen 0; have M62 := N6.frozen 1; have M63 := N6.frozen 2; have M64 := N6.cell 0; have M65 := N6.cell 1; have M66 := N6.cell 2; simp at M64 M65 M66) | (go_at_call 23; refine (sBudgetGive_any _ _ _ _ w5).mono ?_; rintro e w6 ⟨a6, l6, r6, ok6, _, _, rfl, hb6⟩; have C6 := C5.below hb6; have B6 := B5.below hb6; have D6 := D5.below hb6; have kc06 := C6.cell 0; have kc16 := C6.cell 1; have kc26 := C6.cell 2; simp at kc06 kc16 kc26; have hs6 := C6.lt; have n5 : ¬ b = w6.heap.size := (by omega); have n6 : ¬ w6.heap.size = b := (by omega)) | (go_at_call 23; refine (sBudgetGive_any _ _ _ _ _).mono ?_; rintro e w6 ⟨a6, l6, r6, ok6, _, _, rfl, hb6⟩; have C6 := (C5.alloc _).below hb6; have B6 := (B5.alloc _).below hb6; have D6 := (D5.new _).below hb6; have N6 := (BX.new w5 #[.int .i64 0, .int .i64 0, .int .i64 0] 33).below hb6; have kc06 := C6.cell 0; have kc16 := C6.cell 1; have kc26 := C6.cell 2; simp at kc06 kc16 kc26; have hs6 := C6.lt; have n5 : ¬ b = w6.heap.size := (by omega); have n6 : ¬ w6.heap.size = b := (by omega); have M61 := N6.frozen 0; have M62 := N6.frozen 1; have M63 := N6.frozen 2; have M64 := N6.cell 0; have M65 := N6.cell 1; have M66 := N6.cell 2; simp at M64 M65 M66))
            · go_wp2_with fail
              go_meet
              have hg6 := D6.rd.lt
              exact ⟨_, a6, l6, r6, ok6, rfl, rfl, BX.new w6 _ _, ⟨⟨_, _, _, C6.alloc _⟩, B6.alloc _, _, (by omega), D6.new _⟩, by omega, by omega⟩
            · go_wp2_with fail
              go_meet
              exact ⟨_, a6, l6, r6, ok6, rfl, rfl, N6.set3 _ _ _, ⟨⟨_, _, _, C6.other3 _ _ _ (by omega)⟩, B6.other3 _ _ _ (by omega), _, (by omega), D6.set3 _ _ _ (by omega) (by omega)⟩, by omega, by omega⟩
            · go_wp2_with fail
              go_meet
              exact ⟨_, a6, l6, r6, ok6, rfl, rfl, N6.set3 _ _ _, ⟨⟨_, _, _, C6.other3 _ _ _ (by omega)⟩, B6.other3 _ _ _ (by omega), _, (by omega), D6.set3 _ _ _ (by omega) (by omega)⟩, by omega, by omega⟩
          case rest =>
            obtain ⟨B10, a9, l9, r9, ok9, rfl, rfl, N10, ⟨⟨a7, l7, r7, C10⟩, B10', q10, hq10, D10⟩, hB10, hgB10⟩ := hcut
            clear c0 c1 c2 C B D hsr hsg nr1 nr2
            cases ok9
            · go_wp2_with fail
              exact ⟨⟨k + 1, by omega, by go_num, ⟨_, _, _, C10⟩, B10', q10, by omega, D10⟩, by simp [intOf]; omega⟩
            · go_wp2_with fail
              refine (pick_ds D10 _ (by omega) (by omega) (by omega)).mono ?_
              rintro e w11 ⟨m11, hm110, hm111, rfl, D11, hg11⟩
              have hsg10 := D10.rd.lt
              have C11 := C10.past hg11 (by omega)
              have B11 := B10'.past hg11 (by omega)
              have N11 := N10.past hg11 (by omega)
              by_cases hm : m11 = 0
              · subst hm
                have n110 := N11.cell 0
                have n111 := N11.cell 1
                have n112 := N11.cell 2
                simp at n110 n111 n112
                have f110 := C11.frozen 0
                have f111 := C11.frozen 1
                have f112 := C11.frozen 2
                have x110 := C11.cell 0
                have x111 := C11.cell 1
                have x112 := C11.cell 2
                simp at x110 x111 x112
                go_wp2_with fail
                exact ⟨⟨k + 1, by omega, by go_num, ⟨_, _, _, C11.set3 _ _ _⟩, B11.other3 _ _ _ (by omega), _, by omega, D11.set3 _ _ _ (by omega) (by omega)⟩, by simp [intOf]; omega⟩
              · have hq11 : (m11 == 0) = false := by simp [hm]
                clear hm
                go_wp2_with fail
                exact ⟨⟨k + 1, by omega, by go_num, ⟨_, _, _, C11⟩, B11, _, by omega, D11⟩, by simp [intOf]; omega⟩
    · go_wp2_with fail
      refine (pick_ds D _ (by omega) (by omega) (by omega)).mono ?_
      rintro e w12 ⟨m12, hm120, hm121, rfl, D12, hg12⟩
      have C12 := C.past hg12 (by omega)
      have B12 := B.past hg12 (by omega)
      have f120 := B12.frozen 0
      have f121 := B12.frozen 1
      have f122 := B12.frozen 2
      have h120 := C12.frozen 0
      have h121 := C12.frozen 1
      have h122 := C12.frozen 2
      have b120 := B12.cell 0
      have b121 := B12.cell 1
      have b122 := B12.cell 2
      simp at b120 b121 b122
      have c120 := C12.cell 0
      have c121 := C12.cell 1
      have c122 := C12.cell 2
      simp at c120 c121 c122
      by_cases hm : m12 = 0
      · subst hm
        go_upto_region 14 with fail
        go_region_with (go_at_call 43; refine (pick_ds D12.drew _ (by omega) (by omega) (by omega)).mono ?_; rintro e w13 ⟨m13, hm130, hm131, rfl, D13, hg13⟩; have C13 := (C12.drew).past hg13 (by omega); have B13 := (B12.drew).past hg13 (by omega); have kc0 := C13.cell 2; have kf0 := C13.frozen 2; simp at kc0)
        all_goals
          generalize IntKind.i64.wrap (IntKind.i64.wrap (r' + m13) - 4) = z
          have C14 := C13.set 2 (.int .i64 z)
          have B14 := B13.other (a := ⟨b, 2, none⟩) (.int .i64 z) (by simp; omega)
          have D14 := D13.setCell (a := ⟨b, 2, none⟩) (.int .i64 z) (by simp; omega) (by simp; omega)
          simp at C14
          generalize w13.setCell ⟨b, 2, none⟩ (.int .i64 z) = w14 at *
          have e0 := C14.cell 0
          have e1 := C14.cell 1
          have e2 := C14.cell 2
          have j0 := B14.cell 0
          have j1 := B14.cell 1
          have j2 := B14.cell 2
          have i0 := B14.frozen 0
          have i1 := B14.frozen 1
          have i2 := B14.frozen 2
          simp at e0 e1 e2 j0 j1 j2
          go_wp2_with fail
          have G := B14.set3 (.int .i64 a') (.int .i64 l') (.int .i64 z)
          have g0 := G.cell 0
          have g1 := G.cell 1
          have g2 := G.cell 2
          simp at g0 g1 g2
          refine bodyPost_ret (v := .agg #[.int .i64 a', .int .i64 l', .int .i64 z]) (by simp [results, Try.results42, go_sem, g0, g1, g2]) rfl ?_
          exact ⟨_, _, _, _, rfl, by omega, D14.set3 _ _ _ (by omega) (by omega)⟩
      have hz0 : (m12 == 0) = false := by simp [hm]
      clear hm
      by_cases hm : m12 = 1
      · subst hm
        go_upto_region 16 with fail
        go_region_with (go_at_call 43; refine (pick_ds D12.drew _ (by omega) (by omega) (by omega)).mono ?_; rintro e w13 ⟨m13, hm130, hm131, rfl, D13, hg13⟩; have C13 := (C12.drew).past hg13 (by omega); have B13 := (B12.drew).past hg13 (by omega); have kc0 := C13.cell 1; have kf0 := C13.frozen 1; simp at kc0)
        all_goals
          generalize IntKind.i64.wrap (IntKind.i64.wrap (l' + m13) - 4) = z
          have C14 := C13.set 1 (.int .i64 z)
          have B14 := B13.other (a := ⟨b, 1, none⟩) (.int .i64 z) (by simp; omega)
          have D14 := D13.setCell (a := ⟨b, 1, none⟩) (.int .i64 z) (by simp; omega) (by simp; omega)
          simp at C14
          generalize w13.setCell ⟨b, 1, none⟩ (.int .i64 z) = w14 at *
          have e0 := C14.cell 0
          have e1 := C14.cell 1
          have e2 := C14.cell 2
          have j0 := B14.cell 0
          have j1 := B14.cell 1
          have j2 := B14.cell 2
          have i0 := B14.frozen 0
          have i1 := B14.frozen 1
          have i2 := B14.frozen 2
          simp at e0 e1 e2 j0 j1 j2
          go_wp2_with fail
          have G := B14.set3 (.int .i64 a') (.int .i64 z) (.int .i64 r')
          have g0 := G.cell 0
          have g1 := G.cell 1
          have g2 := G.cell 2
          simp at g0 g1 g2
          refine bodyPost_ret (v := .agg #[.int .i64 a', .int .i64 z, .int .i64 r']) (by simp [results, Try.results42, go_sem, g0, g1, g2]) rfl ?_
          exact ⟨_, _, _, _, rfl, by omega, D14.set3 _ _ _ (by omega) (by omega)⟩
      have hz1 : (m12 == 1) = false := by simp [hm]
      clear hm
      go_wp2_with fail
      have G := B12.set3 (.int .i64 a') (.int .i64 l') (.int .i64 r')
      have g0 := G.cell 0
      have g1 := G.cell 1
      have g2 := G.cell 2
      simp at g0 g1 g2
      refine bodyPost_ret (v := .agg #[.int .i64 a', .int .i64 l', .int .i64 r']) (by simp [results, Try.results42, go_sem, g0, g1, g2]) rfl ?_
      exact ⟨_, _, _, _, rfl, by omega, D12.set3 _ _ _ (by omega) (by omega)⟩
end Go.Proofs.Ytadjjcjhlndpkaa
