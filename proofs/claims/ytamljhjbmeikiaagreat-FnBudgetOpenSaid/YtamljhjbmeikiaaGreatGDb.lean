/- Joined texts: contracts and plain facts that the laws share. No condition. -/
import Derived.Test.YtamljhjbmeikiaaGreatGMa
import Derived.Test.YtamljhjbmeikiaaGreatGCl
import Derived.Test.YtamljhjbmeikiaaGreatGDa
/- Budgets that were used are drawn. No condition. -/
namespace Go.Proofs.YtamljhjbmeikiaaGreat
open Go Go.RowKit

/-- The budget's box at b, the result's box still empty, at most q numbers drawn. -/
def BL (w wx : World) (g b q : Nat) : Prop :=
  (∃ a l r, BX wx b #[.int .i64 a, .int .i64 l, .int .i64 r] 24) ∧ BX wx w.heap.size #[.int .i64 0, .int .i64 0, .int .i64 0] 24 ∧ ∃ q', q' ≤ q ∧ DS w wx g q'
set_option maxHeartbeats 8000000 in
theorem l92Budget_any (g p : Nat) (w : World) (hR : Rd w g p) (hp : p ≤ 900000) :
    Calls Tryz.prog 13 #[.pointer (some ⟨g, 0, none⟩)] w fun e w' => ∃ a l r q, e = .returned (.agg #[.int .i64 a, .int .i64 l, .int .i64 r]) ∧ q ≤ p + 30 ∧ DS w w' g q := by
  have hlt := hR.lt
  have D0 := (DS.refl hR).new (.cells #[.int .i64 0, .int .i64 0, .int .i64 0] 24)
  have B0 := BX.new w #[.int .i64 0, .int .i64 0, .int .i64 0] 24
  go_enter Tryz.func13, Tryz.ntmps13
  go_wp2_with fail
  refine (pick_ds D0 _ (by omega) (by omega) (by omega)).mono ?_
  rintro e w1 ⟨m1, hm10, hm11, rfl, D1, hg1⟩
  have B1 := B0.past hg1 (by omega)
  go_wp2_with fail
  refine (pick_ds D1 _ (by omega) (by omega) (by omega)).mono ?_
  rintro e w2 ⟨m2, hm20, hm21, rfl, D2, hg2⟩
  have B2 := B1.past hg2 (by omega)
  have hs2 := B2.lt
  obtain ⟨n0, n1⟩ : 0 ≤ m1 * (1 + m2) ∧ m1 * (1 + m2) ≤ 249 * 4 := ⟨Int.mul_nonneg hm10 (by omega), Int.mul_le_mul (by omega) (by omega) (by omega) (by omega)⟩
  go_wp2_with fail
  refine (sBudgetNew_any _ _).mono ?_
  rintro e w3 ⟨a, l, r, ok, hx, hok, rfl, hb3⟩
  have D3 := D2.below hb3
  have B3 := B2.below hb3
  have C3 := BX.new w3 #[.int .i64 a, .int .i64 l, .int .i64 r] 24
  have hs3 := B3.lt
  have hs3' := D3.rd.lt
  go_wp2_with fail
  refine (pick_ds (D3.new _) _ (by omega) (by omega) (by omega)).mono ?_
  rintro e w4 ⟨m4, hm40, hm41, rfl, D4, hg4⟩
  have B4 := (B3.alloc _).past hg4 (by omega)
  have C4 := C3.past hg4 (by omega)
  clear n0 n1 hx hok C3 B3 D3 B2 D2 B1 D1 B0 D0 hb3 hg1 hg2 hg4
  generalize w3.heap.size = b at *
  have n1 : ¬ b = w.heap.size := by omega
  have n2 : ¬ w.heap.size = b := by omega
  have hgb : g < b := by omega
  go_wp2_with fail
  go_loopw [6] (fun i wr => ∃ (k : Nat), (k : Int) ≤ m4 ∧ i = .int .i64 k ∧ BL w wr g b (p + 3 + 5 * k)) (fun i _ => 4 - (intOf i).toNat)
  case atStart => exact ⟨0, by omega, rfl, ⟨a, l, r, C4⟩, B4, _, by omega, D4⟩
  case round =>
    obtain ⟨k, hk, rfl, ⟨a', l', r', C⟩, B, q, hq, D⟩ := hrel
    have c0 := C.cell 0
    have c1 := C.cell 1
    have c2 := C.cell 2
    simp at c0 c1 c2
    have hsr := C.lt
    have hsg := D.rd.lt
    have nr1 : ¬ b = wr.heap.size := by omega
    have nr2 : ¬ wr.heap.size = b := by omega
    by_cases hlt2 : (k : Int) < m4
    · go_upto_region 6 with fail
      go_cut [7, 8] from 24 to 51 (fun p7 b8 wx => ∃ (B7 : Nat) (a6 l6 r6 : Int) (ok6 : Bool), p7 = .pointer (some ⟨B7, 0, none⟩) ∧ b8 = .bool ok6 ∧ BX wx B7 #[.int .i64 a6, .int .i64 l6, .int .i64 r6] 24 ∧ BL w wx g b (q + 1) ∧ b < B7 ∧ g < B7)
      case first =>
        go_region_held3 (fun w' => w'.cell? ⟨b, 0, none⟩ = some (.int .i64 a') ∧ w'.cell? ⟨b, 1, none⟩ = some (.int .i64 l') ∧ w'.cell? ⟨b, 2, none⟩ = some (.int .i64 r')) (first | go_keep | exact ⟨by assumption, by assumption, by assumption⟩) (first | (go_at_call 26; refine (pick_ds D.drew _ (by omega) (by omega) (by omega)).mono ?_; rintro e w5 ⟨m5, hm50, hm51, rfl, D5, hg5⟩; have C5 := (C.drew).past hg5 (by omega); have B5 := (B.drew).past hg5 (by omega); have kc05 := C5.cell 0; have kc15 := C5.cell 1; have kc25 := C5.cell 2; simp at kc05 kc15 kc25; have hs5 := C5.lt; have hg5 := D5.rd.lt; have n3 : ¬ b = w5.heap.size := (by omega); have n4 : ¬ w5.heap.size = b := (by omega)) | (go_at_call 26; refine (pick_ds (D.new _).drew _ (by omega) (by omega) (by omega)).mono ?_; rintro e w5 ⟨m5, hm50, hm51, rfl, D5, hg5⟩; have C5 := ((C.alloc _).drew).past hg5 (by omega); have B5 := ((B.alloc _).drew).past hg5 (by omega); have N5 := (BX.new wr #[.int .i64 0, .int .i64 0, .int .i64 0] 24).drew.past hg5 (by omega); have kc05 := C5.cell 0; have kc15 := C5.cell 1; have kc25 := C5.cell 2; simp at kc05 kc15 kc25; have hs5 := C5.lt; have hg5 := D5.rd.lt; have n3 : ¬ b = w5.heap.size := (by omega); have n4 : ¬ w5.heap.size = b := (by omega)) | (go_at_call 27; refine (sBudgetTake_any _ _ _ _ w5).mono ?_; rintro e w6 ⟨a6, l6, r6, ok6, _, _, rfl, hb6⟩; have C6 := C5.below hb6; have B6 := B5.below hb6; have D6 := D5.below hb6; have N6 := N5.below hb6; have kc06 := C6.cell 0; have kc16 := C6.cell 1; have kc26 := C6.cell 2; simp at kc06 kc16 kc26; have hs6 := C6.lt; have n5 : ¬ b = w6.heap.size := (by omega); have n6 : ¬ w6.heap.size = b := (by omega); have M61 := N6.frozen 0; have M62 := N6.frozen 1; have M63 := N6.frozen 2; have M64 := N6.cell 0; have M65 := N6.cell 1; have M66 := N6.cell 2; simp at M64 M65 M66) | (go_at_call 27; refine (sBudgetTake_any _ _ _ _ w5).mono ?_; rintro e w6 ⟨a6, l6, r6, ok6, _, _, rfl, hb6⟩; have C6 := C5.below hb6; have B6 := B5.below hb6; have D6 := D5.below hb6; have kc06 := C6.cell 0; have kc16 := C6.cell 1; have kc26 := C6.cell 2; simp at kc06 kc16 kc26; have hs6 := C6.lt; have n5 : ¬ b = w6.heap.size := (by omega); have n6 : ¬ w6.heap.size = b := (by omega)) | (go_at_call 27; refine (sBudgetTake_any _ _ _ _ _).mono ?_; rintro e w6 ⟨a6, l6, r6, ok6, _, _, rfl, hb6⟩; have C6 := (C5.alloc _).below hb6; have B6 := (B5.alloc _).below hb6; have D6 := (D5.new _).below hb6; have N6 := (BX.new w5 #[.int .i64 0, .int .i64 0, .int .i64 0] 24).below hb6; have kc06 := C6.cell 0; have kc16 := C6.cell 1; have kc26 := C6.cell 2; simp at kc06 kc16 kc26; have hs6 := C6.lt; have n5 : ¬ b = w6.heap.size := (by omega); have n6 : ¬ w6.heap.size = b := (by omega); have M61 := N6.frozen 0; have M62 := N6.frozen 1; have M63 := N6.frozen 2; have M64 := N6.cell 0; have M65 := N6.cell 1; have M66 := N6.cell 2; simp at M64 M65 M66))
        · go_wp2_with fail
          go_meet
          have hg6 := D6.rd.lt
          exact ⟨_, a6, l6, r6, ok6, rfl, rfl, BX.new w6 _ _, ⟨⟨_, _, _, C6.alloc _⟩, B6.alloc _, _, (by omega), D6.new _⟩, by omega, by omega⟩
        · go_wp2_with fail
          go_meet
          exact ⟨_, a6, l6, r6, ok6, rfl, rfl, N6.set3 _ _ _, ⟨⟨_, _, _, C6.other3 _ _ _ (by omega)⟩, B6.other3 _ _ _ (by omega), _, (by omega), D6.set3 _ _ _ (by omega) (by omega)⟩, by omega, by omega⟩
        · go_wp2_with fail
          go_meet
          exact ⟨_, a6, l6, r6, ok6, rfl, rfl, N6.set3 _ _ _, ⟨⟨_, _, _, C6.other3 _ _ _ (by omega)⟩, B6.other3 _ _ _ (by omega), _, (by omega), D6.set3 _ _ _ (by omega) (by omega)⟩, by omega, by omega⟩
      case rest =>
        obtain ⟨B7, a6, l6, r6, ok6, rfl, rfl, N7, ⟨⟨a7, l7, r7, C7⟩, B7', q7, hq7, D7⟩, hB7, hgB7⟩ := hcut
        clear c0 c1 c2 C B D hsr hsg nr1 nr2
        have n70 := N7.cell 0
        have n71 := N7.cell 1
        have n72 := N7.cell 2
        simp at n70 n71 n72
        have f70 := C7.frozen 0
        have f71 := C7.frozen 1
        have f72 := C7.frozen 2
        have x70 := C7.cell 0
        have x71 := C7.cell 1
        have x72 := C7.cell 2
        simp at x70 x71 x72
        go_upto_if 36 with fail
        go_cut [] from 24 to 51 (fun wx => BL w wx g b (q + 1))
        case first =>
          cases ok6
          · go_wp2_with fail
            go_meet
            exact ⟨⟨_, _, _, C7⟩, B7', _, hq7, D7⟩
          · go_wp2_with fail
            go_meet
            exact ⟨⟨_, _, _, C7.set3 _ _ _⟩, B7'.other3 _ _ _ (by omega), _, hq7, D7.set3 _ _ _ (by omega) (by omega)⟩
        case rest =>
          clear n70 n71 n72 f70 f71 f72 x70 x71 x72 N7 C7 B7' D7 hq7 hB7 hgB7
          obtain ⟨⟨a', l', r', C⟩, B, q8, hq8, D⟩ := hcut
          have c0 := C.cell 0
          have c1 := C.cell 1
          have c2 := C.cell 2
          simp at c0 c1 c2
          have hsr := C.lt
          have hsg := D.rd.lt
          have nr1 : ¬ b = wc.heap.size := by omega
          have nr2 : ¬ wc.heap.size = b := by omega
          go_upto_region 9 with fail
          go_cut [9, 10] from 24 to 51 (fun p7 b8 wx => ∃ (B7 : Nat) (a6 l6 r6 : Int) (ok6 : Bool), p7 = .pointer (some ⟨B7, 0, none⟩) ∧ b8 = .bool ok6 ∧ BX wx B7 #[.int .i64 a6, .int .i64 l6, .int .i64 r6] 24 ∧ BL w wx g b (q8 + 1) ∧ b < B7 ∧ g < B7)
          case first =>
            go_region_held3 (fun w' => w'.cell? ⟨b, 0, none⟩ = some (.int .i64 a') ∧ w'.cell? ⟨b, 1, none⟩ = some (.int .i64 l') ∧ w'.cell? ⟨b, 2, none⟩ = some (.int .i64 r')) (first | go_keep | exact ⟨by assumption, by assumption, by assumption⟩) (first | (go_at_call 26; refine (pick_ds D.drew _ (by omega) (by omega) (by omega)).mono ?_; rintro e w5 ⟨m5, hm50, hm51, rfl, D5, hg5⟩; have C5 := (C.drew).past hg5 (by omega); have B5 := (B.drew).past hg5 (by omega); have kc05 := C5.cell 0; have kc15 := C5.cell 1; have kc25 := C5.cell 2; simp at kc05 kc15 kc25; have hs5 := C5.lt; have hg5 := D5.rd.lt; have n3 : ¬ b = w5.heap.size := (by omega); have n4 : ¬ w5.heap.size = b := (by omega)) | (go_at_call 26; refine (pick_ds (D.new _).drew _ (by omega) (by omega) (by omega)).mono ?_; rintro e w5 ⟨m5, hm50, hm51, rfl, D5, hg5⟩; have C5 := ((C.alloc _).drew).past hg5 (by omega); have B5 := ((B.alloc _).drew).past hg5 (by omega); have N5 := (BX.new wc #[.int .i64 0, .int .i64 0, .int .i64 0] 24).drew.past hg5 (by omega); have kc05 := C5.cell 0; have kc15 := C5.cell 1; have kc25 := C5.cell 2; simp at kc05 kc15 kc25; have hs5 := C5.lt; have hg5 := D5.rd.lt; have n3 : ¬ b = w5.heap.size := (by omega); have n4 : ¬ w5.heap.size = b := (by omega)) | (go_at_call 28; refine (sBudgetGive_any _ _ _ _ w5).mono ?_; rintro e w6 ⟨a6, l6, r6, ok6, _, _, rfl, hb6⟩; have C6 := C5.below hb6; have B6 := B5.below hb6; have D6 := D5.below hb6; have N6 := N5.below hb6; have kc06 := C6.cell 0; have kc16 := C6.cell 1; have kc26 := C6.cell 2; simp at kc06 kc16 kc26; have hs6 := C6.lt; have n5 : ¬ b = w6.heap.size := (by omega); have n6 : ¬ w6.heap.size = b := (by omega); have M61 := N6.frozen 0; have M62 := N6.frozen 1; have M63 := N6.frozen 2; have M64 := N6.cell 0; have M65 := N6.cell 1; have M66 := N6.cell 2; simp at M64 M65 M66) | (go_at_call 28; refine (sBudgetGive_any _ _ _ _ w5).mono ?_; rintro e w6 ⟨a6, l6, r6, ok6, _, _, rfl, hb6⟩; have C6 := C5.below hb6; have B6 := B5.below hb6; have D6 := D5.below hb6; have kc06 := C6.cell 0; have kc16 := C6.cell 1; have kc26 := C6.cell 2; simp at kc06 kc16 kc26; have hs6 := C6.lt; have n5 : ¬ b = w6.heap.size := (by omega); have n6 : ¬ w6.heap.size = b := (by omega)) | (go_at_call 28; refine (sBudgetGive_any _ _ _ _ _).mono ?_; rintro e w6 ⟨a6, l6, r6, ok6, _, _, rfl, hb6⟩; have C6 := (C5.alloc _).below hb6; have B6 := (B5.alloc _).below hb6; have D6 := (D5.new _).below hb6; have N6 := (BX.new w5 #[.int .i64 0, .int .i64 0, .int .i64 0] 24).below hb6; have kc06 := C6.cell 0; have kc16 := C6.cell 1; have kc26 := C6.cell 2; simp at kc06 kc16 kc26; have hs6 := C6.lt; have n5 : ¬ b = w6.heap.size := (by omega); have n6 : ¬ w6.heap.size = b := (by omega); have M61 := N6.frozen 0; have M62 := N6.frozen 1; have M63 := N6.frozen 2; have M64 := N6.cell 0; have M65 := N6.cell 1; have M66 := N6.cell 2; simp at M64 M65 M66))
            · go_wp2_with fail
              go_meet
              have hg6 := D6.rd.lt
              exact ⟨_, a6, l6, r6, ok6, rfl, rfl, BX.new w6 _ _, ⟨⟨_, _, _, C6.alloc _⟩, B6.alloc _, _, (by omega), D6.new _⟩, by omega, by omega⟩
            · go_wp2_with fail
              go_meet
              exact ⟨_, a6, l6, r6, ok6, rfl, rfl, N6.set3 _ _ _, ⟨⟨_, _, _, C6.other3 _ _ _ (by omega)⟩, B6.other3 _ _ _ (by omega), _, (by omega), D6.set3 _ _ _ (by omega) (by omega)⟩, by omega, by omega⟩
            · go_wp2_with fail
              go_meet
              exact ⟨_, a6, l6, r6, ok6, rfl, rfl, N6.set3 _ _ _, ⟨⟨_, _, _, C6.other3 _ _ _ (by omega)⟩, B6.other3 _ _ _ (by omega), _, (by omega), D6.set3 _ _ _ (by omega) (by omega)⟩, by omega, by omega⟩
          case rest =>
            obtain ⟨B10, a9, l9, r9, ok9, rfl, rfl, N10, ⟨⟨a7, l7, r7, C10⟩, B10', q10, hq10, D10⟩, hB10, hgB10⟩ := hcut
            clear c0 c1 c2 C B D hsr hsg nr1 nr2
            cases ok9
            · go_wp2_with fail
              exact ⟨⟨k + 1, by omega, by go_num, ⟨_, _, _, C10⟩, B10', q10, by omega, D10⟩, by simp [intOf]; omega⟩
            · go_wp2_with fail
              refine (pick_ds D10 _ (by omega) (by omega) (by omega)).mono ?_
              rintro e w11 ⟨m11, hm110, hm111, rfl, D11, hg11⟩
              have hsg10 := D10.rd.lt
              have C11 := C10.past hg11 (by omega)
              have B11 := B10'.past hg11 (by omega)
              have N11 := N10.past hg11 (by omega)
              by_cases hm : m11 = 0
              · subst hm
                have n110 := N11.cell 0
                have n111 := N11.cell 1
                have n112 := N11.cell 2
                simp at n110 n111 n112
                have f110 := C11.frozen 0
                have f111 := C11.frozen 1
                have f112 := C11.frozen 2
                have x110 := C11.cell 0
                have x111 := C11.cell 1
                have x112 := C11.cell 2
                simp at x110 x111 x112
                go_wp2_with fail
                exact ⟨⟨k + 1, by omega, by go_num, ⟨_, _, _, C11.set3 _ _ _⟩, B11.other3 _ _ _ (by omega), _, by omega, D11.set3 _ _ _ (by omega) (by omega)⟩, by simp [intOf]; omega⟩
              · have hq11 : (m11 == 0) = false := by simp [hm]
                clear hm
                go_wp2_with fail
                exact ⟨⟨k + 1, by omega, by go_num, ⟨_, _, _, C11⟩, B11, _, by omega, D11⟩, by simp [intOf]; omega⟩
    · go_wp2_with fail
      refine (pick_ds D _ (by omega) (by omega) (by omega)).mono ?_
      rintro e w12 ⟨m12, hm120, hm121, rfl, D12, hg12⟩
      have C12 := C.past hg12 (by omega)
      have B12 := B.past hg12 (by omega)
      have f120 := B12.frozen 0
      have f121 := B12.frozen 1
      have f122 := B12.frozen 2
      have h120 := C12.frozen 0
      have h121 := C12.frozen 1
      have h122 := C12.frozen 2
      have b120 := B12.cell 0
      have b121 := B12.cell 1
      have b122 := B12.cell 2
      simp at b120 b121 b122
      have c120 := C12.cell 0
      have c121 := C12.cell 1
      have c122 := C12.cell 2
      simp at c120 c121 c122
      by_cases hm : m12 = 0
      · subst hm
        go_upto_region 14 with fail
        go_region_with (go_at_call 26; refine (pick_ds D12.drew _ (by omega) (by omega) (by omega)).mono ?_; rintro e w13 ⟨m13, hm130, hm131, rfl, D13, hg13⟩; have C13 := (C12.drew).past hg13 (by omega); have B13 := (B12.drew).past hg13 (by omega); have kc0 := C13.cell 2; have kf0 := C13.frozen 2; simp at kc0)
        all_goals
          generalize IntKind.i64.wrap (IntKind.i64.wrap (r' + m13) - 4) = z
          have C14 := C13.set 2 (.int .i64 z)
          have B14 := B13.other (a := ⟨b, 2, none⟩) (.int .i64 z) (by simp; omega)
          have D14 := D13.setCell (a := ⟨b, 2, none⟩) (.int .i64 z) (by simp; omega) (by simp; omega)
          simp at C14
          generalize w13.setCell ⟨b, 2, none⟩ (.int .i64 z) = w14 at *
          have e0 := C14.cell 0
          have e1 := C14.cell 1
          have e2 := C14.cell 2
          have j0 := B14.cell 0
          have j1 := B14.cell 1
          have j2 := B14.cell 2
          have i0 := B14.frozen 0
          have i1 := B14.frozen 1
          have i2 := B14.frozen 2
          simp at e0 e1 e2 j0 j1 j2
          go_wp2_with fail
          have G := B14.set3 (.int .i64 a') (.int .i64 l') (.int .i64 z)
          have g0 := G.cell 0
          have g1 := G.cell 1
          have g2 := G.cell 2
          simp at g0 g1 g2
          refine bodyPost_ret (v := .agg #[.int .i64 a', .int .i64 l', .int .i64 z]) (by simp [results, Tryz.results13, go_sem, g0, g1, g2]) rfl ?_
          exact ⟨_, _, _, _, rfl, by omega, D14.set3 _ _ _ (by omega) (by omega)⟩
      have hz0 : (m12 == 0) = false := by simp [hm]
      clear hm
      by_cases hm : m12 = 1
      · subst hm
        go_upto_region 16 with fail
        go_region_with (go_at_call 26; refine (pick_ds D12.drew _ (by omega) (by omega) (by omega)).mono ?_; rintro e w13 ⟨m13, hm130, hm131, rfl, D13, hg13⟩; have C13 := (C12.drew).past hg13 (by omega); have B13 := (B12.drew).past hg13 (by omega); have kc0 := C13.cell 1; have kf0 := C13.frozen 1; simp at kc0)
        all_goals
          generalize IntKind.i64.wrap (IntKind.i64.wrap (l' + m13) - 4) = z
          have C14 := C13.set 1 (.int .i64 z)
          have B14 := B13.other (a := ⟨b, 1, none⟩) (.int .i64 z) (by simp; omega)
          have D14 := D13.setCell (a := ⟨b, 1, none⟩) (.int .i64 z) (by simp; omega) (by simp; omega)
          simp at C14
          generalize w13.setCell ⟨b, 1, none⟩ (.int .i64 z) = w14 at *
          have e0 := C14.cell 0
          have e1 := C14.cell 1
          have e2 := C14.cell 2
          have j0 := B14.cell 0
          have j1 := B14.cell 1
          have j2 := B14.cell 2
          have i0 := B14.frozen 0
          have i1 := B14.frozen 1
          have i2 := B14.frozen 2
          simp at e0 e1 e2 j0 j1 j2
          go_wp2_with fail
          have G := B14.set3 (.int .i64 a') (.int .i64 z) (.int .i64 r')
          have g0 := G.cell 0
          have g1 := G.cell 1
          have g2 := G.cell 2
          simp at g0 g1 g2
          refine bodyPost_ret (v := .agg #[.int .i64 a', .int .i64 z, .int .i64 r']) (by simp [results, Tryz.results13, go_sem, g0, g1, g2]) rfl ?_
          exact ⟨_, _, _, _, rfl, by omega, D14.set3 _ _ _ (by omega) (by omega)⟩
      have hz1 : (m12 == 1) = false := by simp [hm]
      clear hm
      go_wp2_with fail
      have G := B12.set3 (.int .i64 a') (.int .i64 l') (.int .i64 r')
      have g0 := G.cell 0
      have g1 := G.cell 1
      have g2 := G.cell 2
      simp at g0 g1 g2
      refine bodyPost_ret (v := .agg #[.int .i64 a', .int .i64 l', .int .i64 r']) (by simp [results, Tryz.results13, go_sem, g0, g1, g2]) rfl ?_
      exact ⟨_, _, _, _, rfl, by omega, D12.set3 _ _ _ (by omega) (by omega)⟩
end Go.Proofs.YtamljhjbmeikiaaGreat
/- Budgets and frames, drawn and opened: what the laws share. No condition. -/
namespace Go.Proofs.YtamljhjbmeikiaaGreat
open Go Go.RowKit
theorem boR_is {a l p : Int} (h : budOk a l p = true) : ∀ {xs : List (List Int × Int)} {b : Bu}, (∀ x ∈ xs, 0 ≤ x.2) → boR (a, l, p) xs = some b → b.1 = a ∧ b.2.1 = l - (xs.map Prod.fst).flatten.length ∧ p ≤ b.2.2 ∧ budOk b.1 b.2.1 b.2.2 = true := by
  intro xs
  induction xs generalizing l p with
  | nil =>
    intro b _ hb
    have : (a, l, p) = b := Option.some.inj hb
    subst this
    exact ⟨rfl, by simp, Int.le_refl _, h⟩
  | cons x xs ih =>
    intro b hx hb
    rw [boR_cons] at hb
    cases hs : boS (a, l, p) x with
    | none => rw [hs] at hb; cases hb
    | some b1 =>
      rw [hs] at hb
      obtain ⟨a1, l1, p1⟩ := b1
      obtain ⟨h1, h2, h3, _, h5, _⟩ := boS_next h (hx x (by simp)) hs
      simp only at h1 h2 h3 h5
      subst h1
      obtain ⟨i1, i2, i3, i4⟩ := ih h3 (fun y hy => hx y (by simp [hy])) hb
      refine ⟨i1, ?_, by omega, i4⟩
      rw [i2, h2, List.map_cons, List.flatten_cons, List.length_append]
      omega
/-- A greater budget does no harm. -/
theorem boR_more {a l p : Int} : ∀ {xs : List (List Int × Int)} {b : Bu}, boR (a, l, p) xs = some b → boR (a + 1, l + 1, p) xs = some (b.1 + 1, b.2.1 + 1, b.2.2) := by
  intro xs
  induction xs generalizing l p with
  | nil =>
    intro b hb
    have : (a, l, p) = b := Option.some.inj hb
    subst this
    rfl
  | cons x xs ih =>
    intro b hb
    rw [boR_cons] at hb ⊢
    unfold boS at hb ⊢
    simp only at hb ⊢
    split at hb
    · rename_i hc
      rw [if_pos (by omega)]
      rw [Option.bind_some] at hb ⊢
      have := ih hb
      rw [show l + 1 - (x.1.length : Int) = l - x.1.length + 1 by omega, show a + 1 - (l + 1 - (x.2 + (x.1.length : Int))) = a - (l - (x.2 + x.1.length)) by omega]
      exact this
    · cases hb
theorem budOk_up {a l p : Int} (h : budOk a l p = true) (ha : a < 9999) : budOk (a + 1) (l + 1) p = true := by
  obtain ⟨h1, h2, h3, h4, h5, h6⟩ := budOk_bd h
  exact budOk_of (inB_true.2 ⟨by omega, by omega⟩) (inB_true.2 ⟨by omega, by omega⟩) (inB_true.2 ⟨by omega, by omega⟩)
theorem boF_is {a l p : Int} {bs : List Int} {b : Bu} (h : boF a l p bs = some b) : budOk a l p = true ∧ ∃ xs q, frN bs = some (xs, q) ∧ boR (a, l, p) xs = some b ∧ frP bs = some (xs.map Prod.fst, q) ∧ fkF bs = (xs.length : Int) ∧ ∀ x ∈ xs, 2 ≤ x.2 := by
  unfold boF at h
  split at h
  · rename_i hok
    cases hf : frN bs with
    | none => rw [hf] at h; cases h
    | some r =>
      obtain ⟨xs, q⟩ := r
      rw [hf] at h
      have hP := frN_frP bs
      rw [hf] at hP
      obtain ⟨_, _, _, _, hsz⟩ := frN_is hf
      refine ⟨hok, xs, q, rfl, h, hP, ?_, fun x hx => (hsz x hx).1⟩
      unfold fkF
      rw [hP]
      simp
  · cases h
theorem boF_more {a l p : Int} {bs : List Int} {b : Bu} (h : boF a l p bs = some b) (ha : a < 9999) : boF (a + 1) (l + 1) p bs = some (b.1 + 1, b.2.1 + 1, b.2.2) := by
  obtain ⟨hok, xs, q, hf, hr, _⟩ := boF_is h
  unfold boF
  rw [if_pos (budOk_up hok ha), hf]
  exact boR_more hr
theorem boF_open {a l p : Int} {bs : List Int} {b : Bu} (h : boF a l p bs = some b) : b.1 = a ∧ p ≤ b.2.2 ∧ ∀ ys, foF bs 120 = (ys, 0) → b.2.1 = l - (ys.length : Int) := by
  obtain ⟨hok, xs, q, hf, hr, hP, _, hx⟩ := boF_is h
  obtain ⟨h1, h2, h3, _⟩ := boR_is hok (fun x hx' => by have := hx x hx'; omega) hr
  refine ⟨h1, h3, fun ys hy => ?_⟩
  obtain ⟨ls, q', hP', hys, _⟩ := foF_done hy
  rw [hP] at hP'
  injection hP' with hP'
  injection hP' with hP' _
  rw [h2, hys, ← hP']
theorem boF_none {a l p : Int} {bs : List Int} {b : Bu} (h : boF a l p bs = some b) : budTake a l p l = some (a, 0, a) ∧ (fkF bs = 0 → boF a 0 a bs = some (a, 0, a)) ∧ (fkF bs ≠ 0 → boF a 0 a bs = none) := by
  obtain ⟨hok, xs, q, hf, hr, hP, hk, hx⟩ := boF_is h
  obtain ⟨h1, h2, h3, h4, h5, h6⟩ := budOk_bd hok
  have hok2 : budOk a 0 a = true := budOk_of (inB_true.2 ⟨by omega, by omega⟩) (inB_true.2 ⟨by omega, by omega⟩) (inB_true.2 ⟨by omega, by omega⟩)
  refine ⟨?_, fun h0 => ?_, fun h0 => ?_⟩
  · unfold budTake
    rw [if_pos (by rw [hok, inB_true.2 ⟨h3, Int.le_refl _⟩]; rfl), Int.sub_self, Int.sub_zero, Int.max_eq_right h6]
  · unfold boF
    rw [if_pos hok2, hf]
    have : xs = [] := List.eq_nil_of_length_eq_zero (by omega)
    subst this
    rfl
  · unfold boF
    rw [if_pos hok2, hf]
    cases xs with
    | nil => exact absurd hk h0
    | cons x xs =>
      show boR (a, 0, a) (x :: xs) = none
      rw [boR_cons]
      have := hx x (by simp)
      rw [show boS (a, 0, a) x = none from boS_not (by omega)]
      rfl
/-- What a budget with a list is drawn as. -/
def PUL (w : World) (n : Nat) (e : Ending) (w' : World) : Prop :=
  ∃ a l p A c ys, e = .returned (.tuple #[.agg #[.int .i64 a, .int .i64 l, .int .i64 p], .slice A ys.length c]) ∧ OI w' w.heap.size A c ys ∧ ys.length ≤ n ∧ Below w.heap.size w w'
set_option maxHeartbeats 1000000 in
theorem DrawBudgetOpen_any (A : Option Addr) (c : Nat) (bs : List Int) (w : World) (hr : RY w A c bs) :
    Calls Tryz.prog 6 #[.slice A bs.length c] w (PUL w 367) := by
  have B0 := BX.new w #[.int .i64 0, .int .i64 0, .int .i64 0] 24
  go_enter Tryz.func6, Tryz.ntmps6
  go_wp2_with fail
  refine (l6Open_any _ _ _ _ (hr.below (below_new _ _))).mono ?_
  rintro e w1 ⟨g, rfl, hg, hR1, hb1⟩
  have B1 := B0.below hb1
  simp at hg
  have hbw := below_on (below_new w _) hb1
  have hw1 := hbw.size
  go_wp2_with fail
  refine (l92Budget_any g 0 _ hR1 (by omega)).mono ?_
  rintro e w2 ⟨a, l, p, q2, rfl, hq2, D2⟩
  have B2 := B1.past D2.gb (by omega)
  have C2 := BX.new w2 #[.int .i64 a, .int .i64 l, .int .i64 p] 24
  have hs2 := D2.rd.lt
  have hl2 := B2.lt
  have hw2 := D2.gb.size
  have c0 := C2.c0
  have c1 := C2.c1
  have c2 := C2.c2
  have n1 : ¬ w2.heap.size = w.heap.size := by omega
  have n2 : ¬ w.heap.size = w2.heap.size := by omega
  have D3 := (D2.new (.cells #[.int .i64 a, .int .i64 l, .int .i64 p] 24)).drew
  go_wp2_with fail
  go_region_held3 (fun w' => w'.cell? ⟨w2.heap.size, 0, none⟩ = some (.int .i64 a) ∧ w'.cell? ⟨w2.heap.size, 1, none⟩ = some (.int .i64 l) ∧ w'.cell? ⟨w2.heap.size, 2, none⟩ = some (.int .i64 p)) (first | go_keep | exact ⟨by assumption, by assumption, by assumption⟩) (first | (go_at_call 14; refine (l92Frame_any g _ _ D3.rd (by omega)).mono ?_; rintro e w4 ⟨A4, c4, ys, q4, rfl, ho4, hl4, hq4, D4⟩; have C4 := C2.drew.past D4.gb (by omega); have B4 := (B2.alloc _).drew.past D4.gb (by omega); have k0 := C4.c0; have k1 := C4.c1; have k2 := C4.c2; have b0 := B4.c0; have b1 := B4.c1; have b2 := B4.c2; have f0 := B4.frozen 0; have f1 := B4.frozen 1; have f2 := B4.frozen 2))
  go_wp2_with fail
  have G := B4.set3 (.int .i64 a) (.int .i64 l) (.int .i64 p)
  have g0 := G.c0
  have g1 := G.c1
  have g2 := G.c2
  have hbF := (D3.trans D4).fin hbw (by omega)
  have hoF := ho4.past (gb_set3 w4 w.heap.size (.int .i64 a) (.int .i64 l) (.int .i64 p)) (by simp; omega)
  refine bodyPost_ret (v := .tuple #[.agg #[.int .i64 a, .int .i64 l, .int .i64 p], .slice A4 ys.length c4]) (by simp [results, Tryz.results6, go_sem, g0, g1, g2]) rfl ?_
  exact ⟨_, _, _, _, _, ys, rfl, hoF.mono (by simp; omega), hl4, below_set3 hbF (Nat.le_refl _) _ _ _⟩
end Go.Proofs.YtamljhjbmeikiaaGreat
