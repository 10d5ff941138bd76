/- Joined texts: contracts and plain facts that the laws share. No condition. -/
import Derived.Test.YtamljhjbmeikiaaGCa
import Derived.Test.YtamljhjbmeikiaaGPa
/- Contracts: codes. No condition. -/
namespace Go.Proofs.Ytamljhjbmeikiaa
open Go Go.RowKit
set_option maxRecDepth 100000 in
set_option maxHeartbeats 1000000 in
theorem sCodesOf_any (A : Option Addr) (c : Nat) (ls : List Int) (w : World) (hr : RI w A c ls) (hv : lenVal ls = true) : Calls Try.prog 109 #[.slice A ls.length c] w (PL w (codesL ls)) := by
  obtain ⟨h8, hall⟩ := lenVal_ok hv
  have HV := hid hv
  have HALL := hid hall
  have H8 := hid h8
  have hl1 : ls.length ≤ 8 := by omega
  have hl2 : 8 ≤ ls.length := by omega
  clear hv h8 hall
  go_enter Try.func109, Try.ntmps109
  go_wp2_with fail
  have hoe := OI.empty w w.heap.size (Nat.le_refl _)
  have hbe := below_new w (.cells #[] 3)
  go_loopw [3, 4] (fun v t wr => ∃ (k : Nat) (A' : Option Addr) (c' : Nat) (ys : List Int), k ≤ 8 ∧ t = .int .i64 k ∧ v = .slice A' ys.length c' ∧ Hid (ys = List.replicate k (-1)) ∧ ys.length ≤ k ∧ k ≤ ys.length ∧ OI wr w.heap.size A' c' ys ∧ Below w.heap.size w wr) (fun _ t _ => 8 - (intOf t).toNat)
  case atStart => exact ⟨0, _, _, [], by omega, rfl, rfl, hid rfl, by simp, by omega, hoe, hbe⟩
  case round =>
    clear hoe hbe
    obtain ⟨k, A', c', ys, hk, rfl, rfl, hys, hy1, hy2, ho, hbw⟩ := hrel
    obtain ⟨wo, rfl⟩ : ∃ wo : World, wo = wr := ⟨_, rfl⟩
    have hwz := hbw.size
    by_cases hlt : k < 8
    · have hlt2 : (k : Int) < (ls.length : Int) := by omega
      go_wp2_with fail
      refine (sLengthsValid_any _ _ _ _ (hr.below hbw)).mono ?_
      rintro e w' ⟨b, hb, rfl, rfl⟩
      obtain rfl : b = true := hb.out.trans HV.out
      clear hb
      go_wp2_with (at_builtin; refine wpl_app (ys := [-1]) intT rfl _ _ rfl rfl (ho.alloc _) rfl (RI.one wo (-1)) (by simp; omega) (by simp; omega) ?_; intro A5 c5 w5 vs hv ho5 hg5 hat5; clear hat5)
      have hbw5 := OI.belowOwn (below_on hbw (below_new _ _)) (ho.alloc _) hg5 (Nat.le_refl _)
      have hvl : vs.length = ys.length + 1 := by rw [hv.out]; simp
      have hvl1 : vs.length ≤ ys.length + 1 := by omega
      have hvl2 : ys.length + 1 ≤ vs.length := by omega
      clear hvl
      go_roundw
      case rel => exact ⟨k + 1, A5, c5, vs, by omega, by go_num, rfl, hid (by rw [hv.out, hys.out, List.replicate_succ']), by omega, by omega, ho5, hbw5⟩
      case measure => simp [intOf]; omega
    · have hlt2 : ¬ (k : Int) < (ls.length : Int) := by omega
      have hyl : ys.length = 8 := by omega
      have HYL := hid hyl
      rw [hyl]
      clear hyl hy1 hy2
      have HK : Hid (ys.length = 8 ∧ ∀ j, j < 8 → ys[j]? = some (codeK ls 1 0 j)) := hid ⟨HYL.out, fun j hj => by rw [hys.out, codeK_zero, List.getElem?_replicate, if_pos (by omega)]⟩
      clear HYL
      go_wp2_with fail
      go_loopw [5, 6] (fun v t wr => ∃ (wd : Nat) (nx : Int) (os : List Int), 1 ≤ wd ∧ wd ≤ 9 ∧ t = .int .i64 wd ∧ v = .int .i64 nx ∧ 0 ≤ nx ∧ nx ≤ 2048 ∧ Hid (2 * nx = codeAt ls wd 0) ∧ Hid (os.length = 8 ∧ ∀ j, j < 8 → os[j]? = some (codeK ls wd 0 j)) ∧ OI wr w.heap.size A' c' os ∧ Below w.heap.size w wr) (fun _ t _ => 9 - (intOf t).toNat)
      case atStart => exact ⟨1, 0, ys, by omega, by omega, rfl, rfl, by omega, by omega, hid (by rw [codeAt_zero]; rfl), HK, ho, hbw⟩
      case round =>
        clear HK ho hbw hys hwz
        obtain ⟨wd, nx, os, hw1, hw2, rfl, rfl, hn0, hn1, hnx, hos, ho, hbw⟩ := hrel
        obtain ⟨wi, rfl⟩ : ∃ wi : World, wi = wr := ⟨_, rfl⟩
        by_cases hlt : wd ≤ 8
        · go_wp2_with fail
          go_loopw [5, 7] (fun v t wr => ∃ (i : Nat) (nx : Int) (os : List Int), i ≤ 8 ∧ t = .int .i64 i ∧ v = .int .i64 nx ∧ 0 ≤ nx ∧ nx ≤ 2048 ∧ Hid (nx = codeAt ls wd i) ∧ Hid (os.length = 8 ∧ ∀ j, j < 8 → os[j]? = some (codeK ls wd i j)) ∧ OI wr w.heap.size A' c' os ∧ Below w.heap.size w wr) (fun _ t _ => 8 - (intOf t).toNat)
          case atStart => exact ⟨0, 2 * nx, os, by omega, rfl, by go_num, by omega, by have := hnx.out; have := codeAt_bd (ls := ls) (w := wd) (i := 0) hlt; omega, hnx, hos, ho, hbw⟩
          case round =>
            clear hos ho hbw hnx hn0 hn1
            obtain ⟨i, nx, os, hi, rfl, rfl, hn0, hn1, hnx, hos, ho, hbw⟩ := hrel
            obtain ⟨wj, rfl⟩ : ∃ wj : World, wj = wr := ⟨_, rfl⟩
            by_cases hi8 : i < 8
            · obtain ⟨ad, x, rfl, HX, hc⟩ := (hr.below hbw).get (k := i) (by omega)
              obtain ⟨hx0, hx1⟩ := HALL.out x (List.mem_of_getElem? HX.out)
              have hL := len8_at HX.out hx0
              have hbd := codeAt_bd (ls := ls) (w := wd) (i := i + 1) hlt
              have hstep := codeAt_step (ls := ls) hw1 hi8
              have hil : (i : Int) < (ls.length : Int) := by omega
              by_cases hxw : x = (wd : Int)
              · have hq : (x == (wd : Int)) = true := by simp [hxw]
                have hlw : len8 ls i = wd := by omega
                rw [if_pos hlw] at hstep
                obtain ⟨ad1, y1, rfl, -, k0⟩ := ho.ri.get (k := i) (by rw [hos.out.1]; exact hi8)
                obtain ⟨hs1, hs2, hs3⟩ := ho.store i nx
                have hbw2 := OI.belowOwn hbw ho hs2 (Nat.le_refl _)
                have HN : Hid (nx + 1 = codeAt ls wd (i + 1)) := by unfold Hid; rw [hstep, hnx.out]; rfl
                have hn2 : nx + 1 ≤ 2048 := by have := HN.out; omega
                have HO : Hid ((os.set i nx).length = 8 ∧ ∀ j, j < 8 → (os.set i nx)[j]? = some (codeK ls wd (i + 1) j)) := hid ⟨by rw [List.length_set]; exact hos.out.1, fun j hj => by
                  by_cases hji : j = i
                  · subst hji
                    rw [codeK_here hw1 hlw, ← hnx.out]
                    simp [hos.out.1, hj]
                  · rw [List.getElem?_set_ne (by omega), hos.out.2 j hj, codeK_other (by omega)]⟩
                clear hxw hlw hstep hL hbd ho hbw hs2 hos
                go_wp2_with fail
                go_roundw
                case rel => exact ⟨i + 1, nx + 1, _, by omega, by go_num, by go_num, by omega, by omega, HN, HO, hs1, hbw2⟩
                case measure => simp [intOf]; omega
              · have hq : (x == (wd : Int)) = false := by simp [hxw]
                have hlw : ¬ len8 ls i = wd := by omega
                rw [if_neg hlw, Nat.add_zero] at hstep
                have HN : Hid (nx = codeAt ls wd (i + 1)) := by unfold Hid; rw [hstep, hnx.out]; rfl
                have HO : Hid (os.length = 8 ∧ ∀ j, j < 8 → os[j]? = some (codeK ls wd (i + 1) j)) := hid ⟨hos.out.1, fun j hj => by rw [hos.out.2 j hj, codeK_other (by omega)]⟩
                clear hxw hlw hstep hL hbd hos
                go_wp2_with fail
                go_roundw
                case rel => exact ⟨i + 1, nx, _, by omega, by go_num, rfl, by omega, by omega, HN, HO, ho, hbw⟩
                case measure => simp [intOf]; omega
            · have hil : ¬ (i : Int) < (ls.length : Int) := by omega
              have HI : Hid (i = 8) := by unfold Hid; omega
              have HN : Hid (2 * nx = codeAt ls (wd + 1) 0) := by unfold Hid; rw [codeAt_next, hnx.out, HI.out]; omega
              have HO : Hid (os.length = 8 ∧ ∀ j, j < 8 → os[j]? = some (codeK ls (wd + 1) 0 j)) := hid ⟨hos.out.1, fun j hj => by rw [hos.out.2 j hj, codeK_next hj, HI.out]⟩
              clear hos
              go_wp2_with fail
              go_roundw
              case rel => exact ⟨wd + 1, nx, _, by omega, by omega, by go_num, rfl, by omega, by omega, HN, HO, ho, hbw⟩
              case measure => simp [intOf]; omega
        · have HW : Hid (wd = 9) := by unfold Hid; omega
          have HO : Hid (os = codesL ls) := by
            unfold Hid
            obtain ⟨h1, h2⟩ := hos.out
            apply List.ext_getElem?
            intro j
            by_cases hj : j < 8
            · rw [h2 j hj, HW.out, codeK_end (by
                obtain ⟨y, hy⟩ : ∃ y, ls[j]? = some y := ⟨_, List.getElem?_eq_getElem (by omega)⟩
                have h3 := HALL.out y (List.mem_of_getElem? hy)
                have h4 := len8_at hy h3.1
                omega)]
              unfold codesL
              simp [hj]
            · rw [List.getElem?_eq_none (by omega), List.getElem?_eq_none (by simp [codesL]; omega)]
          have hol : os.length = 8 := hos.out.1
          have HOL := hid hol
          clear hol hos
          go_wp2_with fail
          go_ret
          exact ⟨_, _, os, HO, ho, ret_slice HOL.out.symm, hbw⟩
end Go.Proofs.Ytamljhjbmeikiaa
/- Contracts: codes of the program. No condition. -/
namespace Go.Proofs.Ytamljhjbmeikiaa
open Go Go.RowKit
/-- What the program keeps: its last code and that code's width. -/
def codeSt (ls : List Int) (wd i nx la : Nat) : Prop := (la = 0 ∧ nx = 0 ∧ codeAt ls wd i = 0) ∨ (1 ≤ la ∧ la ≤ wd ∧ (nx + 1) * 2 ^ (wd - la) = codeAt ls wd i)
theorem codeSt_next {ls : List Int} {wd nx la : Nat} (h : codeSt ls wd 8 nx la) : codeSt ls (wd + 1) 0 nx la := by
  rcases h with ⟨h1, h2, h3⟩ | ⟨h1, h2, h3⟩
  · exact .inl ⟨h1, h2, by rw [codeAt_next, h3]⟩
  · refine .inr ⟨h1, by omega, ?_⟩
    rw [codeAt_next, ← h3, show wd + 1 - la = (wd - la) + 1 by omega, Nat.pow_succ]
    rw [← Nat.mul_assoc, Nat.mul_comm _ 2]
theorem codeSt_new {ls : List Int} {wd i : Nat} (hw : 1 ≤ wd) (hi : i < 8) (h : len8 ls i = wd) : codeSt ls wd (i + 1) (codeAt ls wd i) wd := by
  refine .inr ⟨hw, Nat.le_refl _, ?_⟩
  rw [codeAt_step hw hi, if_pos h, Nat.sub_self, Nat.pow_zero, Nat.mul_one]
theorem codeSt_same {ls : List Int} {wd i nx la : Nat} (hw : 1 ≤ wd) (hi : i < 8) (hn : ¬ len8 ls i = wd) (h : codeSt ls wd i nx la) : codeSt ls wd (i + 1) nx la := by
  unfold codeSt at *
  rw [codeAt_step hw hi, if_neg hn, Nat.add_zero]
  exact h
def negK (os : List Int) (k : Nat) : Prop := os.length = 8 ∧ ∀ j, j < k → os[j]? = some (-1)
set_option maxRecDepth 100000 in
set_option maxHeartbeats 1000000 in
theorem CodesOf_any (A : Option Addr) (c : Nat) (ls : List Int) (w : World) (hr : RI w A c ls) : Calls Try.prog 83 #[.slice A ls.length c] w (PL w (codesV ls)) := by
  go_enter Try.func83, Try.ntmps83
  go_wp2_with fail
  refine (LengthsValid_any _ _ _ _ hr).mono ?_
  rintro e w' ⟨b, hb, rfl, rfl⟩
  cases b
  · have HB := hid hb.out.symm
    clear hb
    go_wp2_with fail
    go_ret
    exact ⟨_, _, [], hid (by unfold codesV; rw [HB.out]; rfl), OI.empty w w.heap.size (Nat.le_refl _), rfl, below_new _ _⟩
  have hv := hb.out.symm
  obtain ⟨h8, hall⟩ := lenVal_ok hv
  have HV := hid hv
  have HALL := hid hall
  have H8 := hid h8
  have hl1 : ls.length ≤ 8 := by omega
  have hl2 : 8 ≤ ls.length := by omega
  clear hv h8 hall hb
  go_upto_region 4 with (refine wpl_make intT rfl _ _ rfl 8 rfl rfl rfl rfl (by omega) w.heap.size (Nat.le_refl _) ?_; intro A1 w1 zs hz hz1 hz2 ho1 hg1 hb1)
  have e8 : zs.length = 8 := by omega
  rw [e8]
  have HZ0 : Hid (negK zs 0) := hid ⟨e8, fun j hj => by omega⟩
  have hbw1 : Below w.heap.size w w1 := (Below.refl _ _).grown hg1 (Nat.le_refl _) (by simp)
  clear e8 hz hz1 hz2 hg1 hb1
  go_wp2_with fail
  go_loopw [16] (fun t wr => ∃ (k : Nat) (os : List Int), k ≤ 8 ∧ t = .int .i64 k ∧ Hid (negK os k) ∧ OI wr w.heap.size A1 8 os ∧ Below w.heap.size w wr) (fun t _ => 8 - (intOf t).toNat)
  case atStart => exact ⟨0, zs, by omega, rfl, HZ0, ho1, hbw1⟩
  case round =>
    clear HZ0 ho1 hbw1
    obtain ⟨k, os, hk, rfl, hos, ho, hbw⟩ := hrel
    obtain ⟨wo, rfl⟩ : ∃ wo : World, wo = wr := ⟨_, rfl⟩
    by_cases hlt : k < 8
    · obtain ⟨ad1, y1, rfl, -, k0⟩ := ho.ri.get (k := k) (by rw [hos.out.1]; exact hlt)
      obtain ⟨hs1, hs2, hs3⟩ := ho.store k (-1)
      have hbw2 := OI.belowOwn hbw ho hs2 (Nat.le_refl _)
      have HO : Hid (negK (os.set k (-1)) (k + 1)) := hid ⟨by rw [List.length_set]; exact hos.out.1, fun j hj => by
        by_cases hji : j = k
        · subst hji
          simp [hos.out.1, hlt]
        · rw [List.getElem?_set_ne (by omega), hos.out.2 j (by omega)]⟩
      clear ho hbw hs2 hos
      go_wp2_with fail
      go_roundw
      case rel => exact ⟨k + 1, _, by omega, by go_num, HO, hs1, hbw2⟩
      case measure => simp [intOf]; omega
    · have HK : Hid (os.length = 8 ∧ ∀ j, j < 8 → os[j]? = some (codeK ls 1 0 j)) := hid ⟨hos.out.1, fun j hj => by rw [codeK_zero, hos.out.2 j (by omega)]⟩
      clear hos
      go_wp2_with fail
      go_loopw [4, 5, 7] (fun v u t wr => ∃ (wd nx la : Nat) (os : List Int), 1 ≤ wd ∧ wd ≤ 9 ∧ t = .int .i64 wd ∧ v = .int .i64 nx ∧ u = .int .i64 la ∧ nx ≤ 2048 ∧ la ≤ wd ∧ Hid (codeSt ls wd 0 nx la) ∧ Hid (os.length = 8 ∧ ∀ j, j < 8 → os[j]? = some (codeK ls wd 0 j)) ∧ OI wr w.heap.size A1 8 os ∧ Below w.heap.size w wr) (fun _ _ t _ => 9 - (intOf t).toNat)
      case atStart => exact ⟨1, 0, 0, os, by omega, by omega, rfl, rfl, rfl, by omega, by omega, hid (.inl ⟨rfl, rfl, codeAt_zero ls⟩), HK, ho, hbw⟩
      case round =>
        clear HK ho hbw
        obtain ⟨wd, nx, la, os, hw1, hw2, rfl, rfl, rfl, hn1, hla, hst, hos, ho, hbw⟩ := hrel
        obtain ⟨wi, rfl⟩ : ∃ wi : World, wi = wr := ⟨_, rfl⟩
        by_cases hlt : wd ≤ 8
        · go_wp2_with fail
          go_loopw [4, 5, 29] (fun v u t wr => ∃ (i nx la : Nat) (os : List Int), i ≤ 8 ∧ t = .int .i64 i ∧ v = .int .i64 nx ∧ u = .int .i64 la ∧ nx ≤ 2048 ∧ la ≤ wd ∧ Hid (codeSt ls wd i nx la) ∧ Hid (os.length = 8 ∧ ∀ j, j < 8 → os[j]? = some (codeK ls wd i j)) ∧ OI wr w.heap.size A1 8 os ∧ Below w.heap.size w wr) (fun _ _ t _ => 8 - (intOf t).toNat)
          case atStart => exact ⟨0, nx, la, os, by omega, rfl, rfl, rfl, hn1, hla, hst, hos, ho, hbw⟩
          case round =>
            clear hos ho hbw hst hn1 hla
            obtain ⟨i, nx, la, os, hi, rfl, rfl, rfl, hn1, hla, hst, hos, ho, hbw⟩ := hrel
            obtain ⟨wj, rfl⟩ : ∃ wj : World, wj = wr := ⟨_, rfl⟩
            by_cases hi8 : i < 8
            · obtain ⟨ad, x, rfl, HX, hc⟩ := (hr.below hbw).get (k := i) (by omega)
              obtain ⟨hx0, hx1⟩ := HALL.out x (List.mem_of_getElem? HX.out)
              have hL := len8_at HX.out hx0
              have hbd := codeAt_bd (ls := ls) (w := wd) (i := i) hlt
              have hil : (i : Int) < (ls.length : Int) := by omega
              by_cases hxw : x = (wd : Int)
              · have hq : (x != (wd : Int)) = false := by simp [hxw]
                have hlw : len8 ls i = wd := by omega
                have HN := hid (codeSt_new hw1 hi8 hlw)
                obtain ⟨u, hu⟩ : ∃ u, u = codeAt ls wd i := ⟨_, rfl⟩
                obtain ⟨ad1, y1, rfl, -, k0⟩ := ho.ri.get (k := i) (by rw [hos.out.1]; exact hi8)
                obtain ⟨hs1, hs2, hs3⟩ := ho.store i (u : Int)
                have hbw2 := OI.belowOwn hbw ho hs2 (Nat.le_refl _)
                have HO : Hid ((os.set i (u : Int)).length = 8 ∧ ∀ j, j < 8 → (os.set i (u : Int))[j]? = some (codeK ls wd (i + 1) j)) := hid ⟨by rw [List.length_set]; exact hos.out.1, fun j hj => by
                  by_cases hji : j = i
                  · subst hji
                    rw [codeK_here hw1 hlw, ← hu]
                    simp [hos.out.1, hj]
                  · rw [List.getElem?_set_ne (by omega), hos.out.2 j hj, codeK_other (by omega)]⟩
                have hst' := hst.out
                unfold codeSt at hst'
                rw [← hu] at hst' HN hbd
                clear hu hxw hlw hL ho hbw hs2 hos hst
                by_cases hl0 : la = 0
                · obtain ⟨-, rfl, hu0⟩ : la = 0 ∧ nx = 0 ∧ u = 0 := by rcases hst' with h | h; exact h; omega
                  subst hu0 hl0
                  clear hst'
                  go_wp2_with fail
                  go_roundw
                  case rel => exact ⟨i + 1, 0, wd, _, by omega, by go_num, rfl, rfl, by omega, by omega, HN, HO, hs1, hbw2⟩
                  case measure => simp [intOf]; omega
                · have hl1' : 0 < la := by omega
                  have e0 : (nx + 1) * 2 ^ (wd - la) = u := by rcases hst' with h | h; omega; exact h.2.2
                  have e1 : ((nx : Int) + 1) * 2 ^ (wd - la) = (u : Int) := by rw [← e0]; simp
                  have e2 : ((wd : Int) - (la : Int)).toNat = wd - la := by omega
                  have e3 : (0 : Int) ≤ (wd : Int) - (la : Int) := by omega
                  clear hst' hl0 e0
                  go_wp2_with fail
                  go_roundw
                  case rel => exact ⟨i + 1, u, wd, _, by omega, by go_num, rfl, rfl, by omega, by omega, HN, HO, hs1, hbw2⟩
                  case measure => simp [intOf]; omega
              · have hq : (x != (wd : Int)) = true := by simp [hxw]
                have hlw : ¬ len8 ls i = wd := by omega
                have HN := hid (codeSt_same hw1 hi8 hlw hst.out)
                have HO : Hid (os.length = 8 ∧ ∀ j, j < 8 → os[j]? = some (codeK ls wd (i + 1) j)) := hid ⟨hos.out.1, fun j hj => by rw [hos.out.2 j hj, codeK_other (by omega)]⟩
                clear hxw hlw hL hbd hos hst
                go_wp2_with fail
                go_roundw
                case rel => exact ⟨i + 1, nx, la, _, by omega, by go_num, rfl, rfl, hn1, hla, HN, HO, ho, hbw⟩
                case measure => simp [intOf]; omega
            · have hil : ¬ (i : Int) < (ls.length : Int) := by omega
              have HI : Hid (i = 8) := by unfold Hid; omega
              have HN := hid (codeSt_next (by rw [← HI.out]; exact hst.out))
              have HO : Hid (os.length = 8 ∧ ∀ j, j < 8 → os[j]? = some (codeK ls (wd + 1) 0 j)) := hid ⟨hos.out.1, fun j hj => by rw [hos.out.2 j hj, codeK_next hj, HI.out]⟩
              clear hos hst
              go_wp2_with fail
              go_roundw
              case rel => exact ⟨wd + 1, nx, la, _, by omega, by omega, by go_num, rfl, rfl, hn1, by omega, HN, HO, ho, hbw⟩
              case measure => simp [intOf]; omega
        · have HW : Hid (wd = 9) := by unfold Hid; omega
          have HO : Hid (os = codesL ls) := by
            unfold Hid
            obtain ⟨h1, h2⟩ := hos.out
            apply List.ext_getElem?
            intro j
            by_cases hj : j < 8
            · rw [h2 j hj, HW.out, codeK_end (by
                obtain ⟨y, hy⟩ : ∃ y, ls[j]? = some y := ⟨_, List.getElem?_eq_getElem (by omega)⟩
                have h3 := HALL.out y (List.mem_of_getElem? hy)
                have h4 := len8_at hy h3.1
                omega)]
              unfold codesL
              simp [hj]
            · rw [List.getElem?_eq_none (by omega), List.getElem?_eq_none (by simp [codesL]; omega)]
          have hol : os.length = 8 := hos.out.1
          have HOL := hid hol
          clear hol hos
          go_wp2_with fail
          go_ret
          exact ⟨_, _, os, hid (by unfold codesV; rw [HV.out, HO.out]; rfl), ho, ret_slice HOL.out.symm, hbw⟩
end Go.Proofs.Ytamljhjbmeikiaa
/- Contracts: the symbol at a place of bits; valid counts. No condition. -/
namespace Go.Proofs.Ytamljhjbmeikiaa
open Go Go.RowKit
theorem CountsValid_any (A : Option Addr) (c : Nat) (xs : List Int) (w : World) (hr : RI w A c xs) : Calls Try.prog 96 #[.slice A xs.length c] w (PB w (cntOk xs)) := by
  by_cases h : xs.length = 8
  · have hq : ((xs.length : Int) == 8) = true := by simp; omega
    have H8 := hid h
    clear h
    go_enter Try.func96, Try.ntmps96
    go_wp2_with fail
    refine (every_any _ _ _ _ _ _ hr).mono ?_
    rintro e w' ⟨b, hb1, rfl, rfl⟩
    go_wp2_with fail
    go_ret
    exact ⟨_, hid (by simp [cntOk, H8.out, hb1.out]), rfl, rfl⟩
  · have hq : ((xs.length : Int) == 8) = false := by simp; omega
    have H8 := hid h
    clear h
    go_enter Try.func96, Try.ntmps96
    go_wp2_with fail
    go_ret
    exact ⟨_, hid (by simp [cntOk, H8.out]), rfl, rfl⟩
set_option maxHeartbeats 1000000 in
theorem symbolAt_any (A B C : Option Addr) (ca cb cc : Nat) (bits ls cs : List Int) (a : Nat) (w : World) (hr : RI w A ca bits) (hl : RI w B cb ls) (hc : RI w C cc cs) (hok : bitOk bits = true) (ha : a ≤ bits.length) (h8 : cs.length = 8) (hl8 : ls.length = 8) (hb : ∀ x ∈ ls, 0 ≤ x ∧ x ≤ 8) :
    Calls Try.prog 84 #[.slice A bits.length ca, .int .i64 a, .slice B ls.length cb, .slice C cs.length cc] w (PN w (symF bits a ls cs)) := by
  have HOK := hid hok
  have HB := hid hb
  have hc1 : cs.length ≤ 8 := by omega
  have hc2 : 8 ≤ cs.length := by omega
  have hl1 : 8 ≤ ls.length := by omega
  clear hok hb h8 hl8
  go_enter Try.func84, Try.ntmps84
  go_wp2_with fail
  go_loop [15] (fun i => ∃ k : Nat, k ≤ 8 ∧ i = .int .i64 k ∧ Hid (symN bits a ls cs k)) (fun i => 8 - (intOf i).toNat)
  case atStart => exact ⟨0, by omega, rfl, hid (fun j hj => by omega)⟩
  case round =>
    obtain ⟨k, hk, rfl, hn⟩ := hrel
    by_cases hlt : k < 8
    · obtain ⟨adc, x, rfl, HX, hcx⟩ := hc.get (k := k) (by omega)
      obtain ⟨adl, l, rfl, HL, hcl⟩ := hl.get (k := k) (by omega)
      obtain ⟨hl0, hl9⟩ := HB.out l (List.mem_of_getElem? HL.out)
      have hL := len8_at HL.out hl0
      obtain ⟨m, hm⟩ : ∃ m, m = len8 ls k := ⟨_, rfl⟩
      rw [← hm] at hL
      subst hL
      have HM := hid hm
      have hkc : (k : Int) < (cs.length : Int) := by omega
      have hkl : (k : Int) < (ls.length : Int) := by omega
      have hP : Hid (symP bits a ls cs k = (decide (0 ≤ x) && (decide (a + m ≤ bits.length) && decide (numF ((bits.drop a).take m) = x)))) := by
        unfold Hid symP
        rw [List.getD_eq_getElem?_getD, HX.out, ← HM.out]; rfl
      clear hm HL
      go_wp2_with fail
      refine (BitsGet_any _ _ _ a m _ hr HOK.out (by omega) ha).mono ?_
      rintro e w' ⟨b, n, hb, hv, rfl, rfl⟩
      have hcase : (0 ≤ x ∧ b = true ∧ n = x) ∨ ¬ (0 ≤ x ∧ b = true ∧ n = x) := Classical.em _
      rcases hcase with ⟨h0, rfl, rfl⟩ | hno
      · have HP : Hid (symP bits a ls cs k = true) := by
          unfold Hid
          have h1 : a + m ≤ bits.length := of_decide_eq_true hb.out.symm
          rw [hP.out, ← hv.out rfl]
          simp [h0, h1]
        clear hb hv
        go_wp2_with fail
        go_ret
        exact ⟨k, hid (symF_yes hlt hn.out HP.out).symm, rfl, rfl⟩
      · have HP : Hid (symP bits a ls cs k = false) := by
          unfold Hid
          rw [hP.out, ← hb.out]
          cases b
          · simp
          · rw [← hv.out rfl]
            simp
            intro h0 h1
            exact hno ⟨h0, rfl, h1⟩
        have HN := hid (symN_snoc hn.out HP.out)
        clear hv hb
        by_cases h0 : 0 ≤ x
        · cases b
          · clear hno
            go_wp2_with fail
            go_round
            case rel => exact ⟨k + 1, by omega, by go_num, HN⟩
            case measure => simp [intOf]; omega
          · have hnx : (n == x) = false := by
              have : ¬ n = x := fun e => hno ⟨h0, rfl, e⟩
              simp [this]
            clear hno
            go_wp2_with fail
            go_round
            case rel => exact ⟨k + 1, by omega, by go_num, HN⟩
            case measure => simp [intOf]; omega
        · clear hno
          go_wp2_with fail
          go_round
          case rel => exact ⟨k + 1, by omega, by go_num, HN⟩
          case measure => simp [intOf]; omega
    · have HK : Hid (k = 8) := by unfold Hid; omega
      have hkc : ¬ (k : Int) < (cs.length : Int) := by omega
      go_wp2_with fail
      go_ret
      exact ⟨-1, hid (symF_no (by rw [← HK.out]; exact hn.out)).symm, rfl, rfl⟩
end Go.Proofs.Ytamljhjbmeikiaa
/- Contracts: a block's lengths and bits. No condition. -/
namespace Go.Proofs.Ytamljhjbmeikiaa
open Go Go.RowKit
theorem RI.two (w : World) (x y : Int) : RI (w.alloc (.cells #[.int .i64 x, .int .i64 y] 3)) (some ⟨w.heap.size, 0, none⟩) 2 [x, y] := (OI.litI w w.heap.size [x, y] (Nat.le_refl _) (by simp)).ri
theorem lengthsIn4_any (A : Option Addr) (c : Nat) (bs : List Int) (w : World) (hr : RI w A c bs) (hok : byOk bs = true) (hn : bs.length ≤ 1000) : Calls Try.prog 69 #[.slice A bs.length c] w (PL w (halves bs)) := by
  have HOK := hid hok
  clear hok
  go_enter Try.func69, Try.ntmps69
  go_wp2_with fail
  have hoe := OI.empty w w.heap.size (Nat.le_refl _)
  have hbe := below_new w (.cells #[] 3)
  go_loopw [3, 9] (fun v t wr => ∃ (k : Nat) (A' : Option Addr) (c' : Nat) (ys : List Int), k ≤ bs.length ∧ t = .int .i64 k ∧ v = .slice A' ys.length c' ∧ Hid (ys = halves (bs.take k)) ∧ ys.length ≤ 2 * k ∧ OI wr w.heap.size A' c' ys ∧ Below w.heap.size w wr) (fun _ t _ => bs.length - (intOf t).toNat)
  case atStart => exact ⟨0, _, _, [], by omega, rfl, rfl, hid rfl, by simp, hoe, hbe⟩
  case round =>
    clear hoe hbe
    obtain ⟨k, A', c', ys, hk, rfl, rfl, hys, hl, ho, hbw⟩ := hrel
    obtain ⟨wo, rfl⟩ : ∃ wo : World, wo = wr := ⟨_, rfl⟩
    have hwz := hbw.size
    by_cases hlt : k < bs.length
    · obtain ⟨ad, x, rfl, HX, hc⟩ := (hr.below hbw).get hlt
      obtain ⟨hx0, hx1⟩ := byOk_at HOK.out HX.out
      go_wp2_with (at_builtin; refine wpl_app (ys := [x / 16, x % 16]) intT rfl _ _ rfl rfl (ho.alloc _) rfl (RI.two wo (x / 16) (x % 16)) (by simp; omega) (by simp; omega) ?_; intro A3 c3 w3 us hu ho3 hg3 hat3; clear hat3)
      have hbw3 := OI.belowOwn (below_on hbw (below_new _ _)) (ho.alloc _) hg3 (Nat.le_refl _)
      go_roundw
      case rel => exact ⟨k + 1, A3, c3, us, by omega, by go_num, rfl, hid (by rw [hu.out, hys.out, take_snoc' HX.out, halves_snoc]), by rw [hu.out]; simp; omega, ho3, hbw3⟩
      case measure => simp [intOf]; omega
    · have HK : Hid (ys = halves bs) := by unfold Hid; rw [hys.out, List.take_of_length_le (by omega)]
      go_wp2_with fail
      go_ret
      exact ⟨_, _, ys, HK, ho, rfl, hbw⟩
theorem firstBits_any (A : Option Addr) (c : Nat) (bs : List Int) (w : World) (hr : RI w A c bs) (hok : byOk bs = true) : Calls Try.prog 68 #[.slice A bs.length c] w (PL w (bytesBits (bs.take 40))) := by
  have hbig := hr.big
  have hcap := hr.cap
  unfold maxLen at hbig
  have HOK : Hid (byOk (bs.take 40) = true) := by
    unfold Hid byOk at *
    rw [List.all_eq_true] at *
    exact fun x hx => hok x (List.mem_of_mem_take hx)
  clear hok
  obtain ⟨K, hK⟩ : ∃ K, K = min bs.length 40 := ⟨_, rfl⟩
  have hK1 : K ≤ 40 := by omega
  have hK2 : K ≤ bs.length := by omega
  have hm : min (bs.length : Int) 40 = (K : Int) := by omega
  have HT : Hid (bs.take K = bs.take 40) := by
    unfold Hid
    rw [hK]
    by_cases h : bs.length ≤ 40
    · rw [Nat.min_eq_left h, List.take_of_length_le (Nat.le_refl _), List.take_of_length_le h]
    · rw [Nat.min_eq_right (by omega)]
  clear hK
  go_enter Try.func68, Try.ntmps68
  go_wp2_with (refine wpl_cutI intT rfl _ _ _ rfl rfl hr 0 K rfl ⟨_, _, rfl, by first | rfl | exact hm | omega⟩ (by omega) (by omega) ?_; intro A3 c3 zs hz hr3 hb3 hlz1 hlz2)
  all_goals
    have HZ : Hid (zs = bs.take 40) := by unfold Hid; rw [hz.out, List.drop_zero, HT.out]
    clear hz hb3
    refine (BytesBits_any _ _ _ _ hr3 (by rw [HZ.out]; exact HOK.out) (by omega)).mono ?_
    rintro _ w1 ⟨A4, c4, ys, b, hys, hb, ho4, rfl, hbw⟩
    go_wp2_with fail
    go_ret
    exact ⟨_, _, ys, hid (by rw [hys.out, HZ.out]; rfl), ho4, rfl, hbw⟩
end Go.Proofs.Ytamljhjbmeikiaa
/- Contracts: valid counts of the reference; runs joined. No condition. -/
namespace Go.Proofs.Ytamljhjbmeikiaa
open Go Go.RowKit
theorem sCountsValid_any (A : Option Addr) (c : Nat) (xs : List Int) (w : World) (hr : RI w A c xs) : Calls Try.prog 129 #[.slice A xs.length c] w (PB w (cntOk xs)) := by
  have hbig := hr.big
  have hcap := hr.cap
  unfold maxLen at hbig
  go_enter Try.func129, Try.ntmps129
  go_wp2_with fail
  go_loop [3] (fun i => ∃ k : Nat, k ≤ xs.length ∧ i = .int .i64 k ∧ Hid ((xs.take k).all (inB 0 999) = true)) (fun i => xs.length - (intOf i).toNat)
  case atStart => exact ⟨0, by omega, rfl, by simp [Hid]⟩
  case round =>
    obtain ⟨k, hk, rfl, hh⟩ := hrel
    by_cases hlt : k < xs.length
    · obtain ⟨ad, x, rfl, HX, hc⟩ := hr.get hlt
      go_wp2_with (go_at_call 78; refine (l6In_any _ _ _ _).mono ?_; rintro e w' ⟨b, hb1, rfl, rfl⟩; cases b)
      · go_ret
        exact ⟨_, hid (by simp only [cntOk, all_no HX.out hb1.out.symm, Bool.and_false]), rfl, rfl⟩
      · go_round
        case rel => exact ⟨k + 1, by omega, by go_num, hid (all_snoc HX.out hh.out hb1.out.symm)⟩
        case measure => simp [intOf]; omega
    · by_cases h8 : xs.length = 8
      · have hq : ((xs.length : Int) == 8) = true := by simp; omega
        have H8 := hid h8
        have HK : Hid (xs.all (inB 0 999) = true) := hid (all_done (by omega) hh.out)
        clear h8
        go_wp2_with fail
        go_ret
        exact ⟨_, hid (by simp [cntOk, H8.out, HK.out]), rfl, rfl⟩
      · have hq : ((xs.length : Int) == 8) = false := by simp; omega
        have H8 := hid h8
        clear h8
        go_wp2_with fail
        go_ret
        exact ⟨_, hid (by simp [cntOk, H8.out]), rfl, rfl⟩
theorem l4Order_any (w : World) : Calls Try.prog 131 #[] w (PL w ((List.range 8).map fun i : Nat => (i : Int))) := by
  go_enter Try.func131, Try.ntmps131
  go_wp2_with fail
  have hoe := OI.empty w w.heap.size (Nat.le_refl _)
  have hbe := below_new w (.cells #[] 3)
  go_loopw [1, 2] (fun v t wr => ∃ (k : Nat) (A' : Option Addr) (c' : Nat) (ys : List Int), k ≤ 8 ∧ t = .int .i64 k ∧ v = .slice A' ys.length c' ∧ Hid (ys = (List.range k).map fun i : Nat => (i : Int)) ∧ ys.length ≤ k ∧ OI wr w.heap.size A' c' ys ∧ Below w.heap.size w wr) (fun _ t _ => 8 - (intOf t).toNat)
  case atStart => exact ⟨0, _, _, [], by omega, rfl, rfl, hid rfl, by simp, hoe, hbe⟩
  case round =>
    clear hoe hbe
    obtain ⟨k, A', c', ys, hk, rfl, rfl, hys, hl, ho, hbw⟩ := hrel
    obtain ⟨wo, rfl⟩ : ∃ wo : World, wo = wr := ⟨_, rfl⟩
    have hwz := hbw.size
    by_cases hlt : k < 8
    · have hi : (k : Int) < 8 := by omega
      go_wp2_with (at_builtin; refine wpl_app (ys := [(k : Int)]) intT rfl _ _ rfl rfl (ho.alloc _) rfl (RI.one wo (k : Int)) (by simp; omega) (by simp; omega) ?_; intro A3 c3 w3 us hu ho3 hg3 hat3; clear hat3)
      have hbw3 := OI.belowOwn (below_on hbw (below_new _ _)) (ho.alloc _) hg3 (Nat.le_refl _)
      go_roundw
      case rel => exact ⟨k + 1, A3, c3, us, by omega, by go_num, rfl, hid (by rw [hu.out, hys.out, List.range_succ, List.map_append]; rfl), by rw [hu.out]; simp; omega, ho3, hbw3⟩
      case measure => simp [intOf]; omega
    · have hi : ¬ (k : Int) < 8 := by omega
      have HK : Hid (ys = (List.range 8).map fun i : Nat => (i : Int)) := by unfold Hid; rw [hys.out, show k = 8 by omega]
      go_wp2_with fail
      go_ret
      exact ⟨_, _, ys, HK, ho, rfl, hbw⟩
end Go.Proofs.Ytamljhjbmeikiaa
/- Contracts: the lengths of the symbols that are used. No condition. -/
namespace Go.Proofs.Ytamljhjbmeikiaa
open Go Go.RowKit
theorem l11Used_any (A B : Option Addr) (ca cb : Nat) (cs ls : List Int) (w : World) (hr : RI w A ca cs) (hs : RI w B cb ls) (hl : cs.length = ls.length) (hn : ls.length ≤ 1000) : Calls Try.prog 133 #[.slice A cs.length ca, .slice B ls.length cb] w (PL w (usedL cs ls)) := by
  have hl1 : cs.length ≤ ls.length := by omega
  have hl2 : ls.length ≤ cs.length := by omega
  clear hl
  go_enter Try.func133, Try.ntmps133
  go_wp2_with (at_builtin; refine wpl_app (xs := []) intT rfl _ _ rfl rfl (OI.empty w w.heap.size (Nat.le_refl _)) rfl (hs.alloc _) (by simp; omega) (by simp) ?_; intro A1 c1 w1 zs hz ho1 hg1 hat1; clear hat1)
  have hbw1 : Below w.heap.size w w1 := below_grown (below_new _ _) (OI.empty w w.heap.size (Nat.le_refl _)) hg1 (Nat.le_refl _) (by simp)
  have HZ0 : Hid (usedP cs ls zs 0) := by unfold Hid; rw [hz.out, List.nil_append]; exact usedP_start cs ls
  have hz1 : zs.length = ls.length := by rw [hz.out, List.nil_append]
  rw [hz1]
  clear hz hg1 hz1
  go_loopw [6] (fun t wr => ∃ (k : Nat) (os : List Int), k ≤ cs.length ∧ t = .int .i64 k ∧ Hid (usedP cs ls os k) ∧ OI wr w.heap.size A1 c1 os ∧ Below w.heap.size w wr) (fun t _ => cs.length - (intOf t).toNat)
  case atStart => exact ⟨0, zs, by omega, rfl, HZ0, ho1, hbw1⟩
  case round =>
    clear HZ0 ho1 hbw1
    obtain ⟨k, os, hk, rfl, hos, ho, hbw⟩ := hrel
    obtain ⟨wo, rfl⟩ : ∃ wo : World, wo = wr := ⟨_, rfl⟩
    by_cases hlt : k < cs.length
    · obtain ⟨ad, x, rfl, HX, hc⟩ := (hr.below hbw).get hlt
      have hg : Hid (cs.getD k 0 = x) := by unfold Hid; rw [List.getD_eq_getElem?_getD, HX.out]; rfl
      have hkl : (k : Int) < (ls.length : Int) := by omega
      by_cases hx : x = 0
      · have hq : (x == 0) = true := by simp [hx]
        obtain ⟨ad1, y1, rfl, -, k0⟩ := ho.ri.get (k := k) (by rw [hos.out.1]; omega)
        obtain ⟨hs1, hs2, hs3⟩ := ho.store k 0
        have hbw2 := OI.belowOwn hbw ho hs2 (Nat.le_refl _)
        have HO := hid (usedP_zero hos.out (by omega) (hg.out.trans hx))
        clear hx ho hbw hs2 hos
        go_wp2_with fail
        go_roundw
        case rel => exact ⟨k + 1, _, by omega, by go_num, HO, hs1, hbw2⟩
        case measure => simp [intOf]; omega
      · have hq : (x == 0) = false := by simp [hx]
        have HO := hid (usedP_keep hos.out (by rw [hg.out]; exact hx))
        clear hx hos
        go_wp2_with fail
        go_roundw
        case rel => exact ⟨k + 1, _, by omega, by go_num, HO, ho, hbw⟩
        case measure => simp [intOf]; omega
    · have HU : Hid (os = usedL cs ls) := hid (usedP_end hos.out (by omega))
      have HL : Hid (os.length = ls.length) := hid hos.out.1
      clear hos
      go_wp2_with fail
      go_ret
      exact ⟨_, _, os, HU, ho, ret_slice HL.out.symm, hbw⟩
end Go.Proofs.Ytamljhjbmeikiaa
