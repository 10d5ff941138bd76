/- Contracts: seals are opened. No condition. -/
import Derived.Test.YtadjjcjhlndpkaaCTg
namespace Go.Proofs.Ytadjjcjhlndpkaa
open Go Go.RowKit

theorem sealOpen_snoc (a b : Int) (ys : List Int) (t : Int) : sealOpen a b (ys ++ [t]) = if tagOk a b ys && (t == tagF a b ys) then some ys else none := by simp [sealOpen]

theorem SealOpen_any (a b : Int) (A : Option Addr) (c : Nat) (xs : List Int) (w : World) (hr : RI w A c xs) (hn : xs.length ≤ 17592186044415) :
    Calls Try.prog 33 #[.agg #[.int .i64 a, .int .i64 b], .slice A xs.length c] w (PLB w (sealOpen a b xs)) := by
  rcases nil_or_snoc xs with rfl | ⟨ys, t, rfl⟩
  · go_enter Try.func33, Try.ntmps33
    go_wp2_with fail
    go_ret2
    exact PLB_none rfl (below_new _ _)
  · have hrp := (hr.pre).below (below_new w (.cells #[.int .i64 a, .int .i64 b] 26))
    have hrw := hr.below (below_new w (.cells #[.int .i64 a, .int .i64 b] 26))
    have hcap := hr.cap
    have hbig := hr.big
    unfold maxLen at hbig
    obtain ⟨ad, x, rfl, hx, hc⟩ := hrw.get (k := ys.length) (by simp)
    obtain rfl : t = x := by simpa using hx.out
    rw [show (ys ++ [t]).length = ys.length + 1 by simp] at hn hcap ⊢
    have hc0 : (ys.length : Int) ≤ (c : Int) := by omega
    go_enter Try.func33, Try.ntmps33
    go_wp2_with fail
    go_region_held3 (fun w' => w'.cell? ⟨w.heap.size, 0, none⟩ = some (.int .i64 a) ∧ w'.cell? ⟨w.heap.size, 1, none⟩ = some (.int .i64 b)) (first | go_keep | exact ⟨by assumption, by assumption⟩) (first | (go_at_call 19; refine (TagOf_any _ _ _ _ _ _ (RI.drew hrp)).mono ?_; rintro e w1 ⟨tg, ht, rfl, hb1⟩; have hk0 : w1.cell? ⟨w.heap.size, 0, none⟩ = some (.int .i64 a) := (hb1.cell (by simp)).trans (by simp); have hk1 : w1.cell? ⟨w.heap.size, 1, none⟩ = some (.int .i64 b) := (hb1.cell (by simp)).trans (by simp)))
    have hbw : Below w.heap.size w w1 := below_on (Below.drew (below_new _ _)) hb1
    have hc1 : w1.cell? (ad.add ys.length) = some (.int .i64 t) := RI.cellAt (hr.below hbw) (by simp)
    have hpos : (0 : Int) ≤ (ys.length : Int) := by omega
    cases hok : tagOk a b ys
    · have hneg : tg < 0 := by rw [ht.out]; exact tagOf_neg.2 hok
      go_wp2_with fail
      go_ret2
      exact PLB_none (by simp [sealOpen_snoc, hok]) hbw
    · have htg : tg = tagF a b ys := by rw [ht.out]; unfold tagOf; rw [if_pos hok]
      have hpos : 0 ≤ tg := by have := tagF_bd a b ys; omega
      have HT := hid htg
      clear htg
      by_cases he : tg = t
      · subst he
        have hq : (tg != tg) = false := by simp
        go_wp2_with fail
        refine (cloned_any _ _ ys _ (hr.pre.below hbw) (by omega)).mono ?_
        rintro e w2 ⟨A2, c2, zs, hzs, ho2, rfl, hb2⟩
        go_wp2_with fail
        go_ret2
        exact PLB_some (by rw [sealOpen_snoc, if_pos (by simp [hok, ← HT.out]), hzs.out]) (ho2.mono hbw.size) (below_on hbw hb2)
      · have hq : (tg != t) = true := by simp [he]
        have HE := hid he
        clear he
        go_wp2_with fail
        go_ret2
        exact PLB_none (by rw [sealOpen_snoc, if_neg]; simp [hok]; intro h; exact HE.out (HT.out.trans h.symm)) hbw

theorem sSealPut_any (a b : Int) (A : Option Addr) (c : Nat) (xs : List Int) (w : World) (hr : RI w A c xs) (hn : xs.length ≤ 17592186044415) :
    Calls Try.prog 28 #[.agg #[.int .i64 a, .int .i64 b], .slice A xs.length c] w (PLB w (sealPut a b xs)) := by
  have hrw := hr.below (below_new w (.cells #[.int .i64 a, .int .i64 b] 26))
  go_enter Try.func28, Try.ntmps28
  go_wp2_with fail
  refine (l31Ok_any _ _ _ _ _ _ hrw).mono ?_
  rintro e w1 ⟨ok, hok, rfl, hb1⟩
  have hbw : Below w.heap.size w w1 := below_on (below_new _ _) hb1
  obtain ⟨hc1, hf1⟩ := bcell hb1
  have hz1 : w.heap.size < w1.heap.size := by have := hb1.size; simp at this; omega
  cases ok
  · go_wp2_with fail
    go_ret2
    exact PLB_none (by simp [sealPut, hok.out.symm]) hbw
  · go_wp2_with fail
    have k0 : w1.cell? ⟨w.heap.size, 0, none⟩ = some (.int .i64 a) := (hb1.cell (by simp)).trans (by simp)
    have k1 : w1.cell? ⟨w.heap.size, 1, none⟩ = some (.int .i64 b) := (hb1.cell (by simp)).trans (by simp)
    clear hc1 hf1
    go_region_held3 (fun w' => w'.cell? ⟨w.heap.size, 0, none⟩ = some (.int .i64 a) ∧ w'.cell? ⟨w.heap.size, 1, none⟩ = some (.int .i64 b)) (first | go_keep | exact ⟨by assumption, by assumption⟩) (first | (go_at_call 38; refine (l31Tag_any _ _ _ _ _ _ ((hr.below hbw).below hB2) hok.out.symm).mono ?_; rintro e w3 ⟨tg, ht, rfl, hb3⟩; have hj0 : w3.cell? ⟨w.heap.size, 0, none⟩ = some (.int .i64 a) := (hb3.cell (by have := hB2.size; simp; omega)).trans hk0; have hj1 : w3.cell? ⟨w.heap.size, 1, none⟩ = some (.int .i64 b) := (hb3.cell (by have := hB2.size; simp; omega)).trans hk1) | (refine stp_app (xs := []) intT rfl _ _ rfl rfl (OI.drew (OI.empty w1 w1.heap.size (Nat.le_refl _))) rfl (RI.drew (RI.alloc (hr.below hbw) _)) (by simp; omega) (by simp) ?_; intro A2 c2 w2 zs hzs ho2 hg2 hat2; have hB2 : Below w1.heap.size w1 w2 := below_grown (Below.drew (below_new w1 _)) (OI.drew (OI.empty w1 w1.heap.size (Nat.le_refl _))) hg2 (Nat.le_refl _) (by simp); have hk0 : w2.cell? ⟨w.heap.size, 0, none⟩ = some (.int .i64 a) := (hB2.cell (by simp; omega)).trans k0; have hk1 : w2.cell? ⟨w.heap.size, 1, none⟩ = some (.int .i64 b) := (hB2.cell (by simp; omega)).trans k1) | (refine stp_app (xs := zs) (ys := [tg]) intT rfl _ _ rfl rfl (OI.alloc (OI.below ho2 hb3) _) rfl (RI.one w3 tg) (by have := congrArg List.length hzs.out; simp at this; simp; omega) (by have := hB2.size; have := hb3.size; simp; omega) ?_; intro A4 c4 w4 zs4 hzs4 ho4 hg4 hat4; have hB4 : Below w1.heap.size w1 w4 := below_grown (below_on (below_on hB2 hb3) (below_new _ _)) (OI.alloc (OI.below ho2 hb3) _) hg4 (Nat.le_refl _) (by have := hB2.size; have := hb3.size; simp; omega); have hi0 : w4.cell? ⟨w.heap.size, 0, none⟩ = some (.int .i64 a) := (hB4.cell (by simp; omega)).trans k0; have hi1 : w4.cell? ⟨w.heap.size, 1, none⟩ = some (.int .i64 b) := (hB4.cell (by simp; omega)).trans k1))
    go_wp2_with fail
    go_ret2
    exact PLB_some (by rw [hzs4.out, hzs.out, ht.out]; simp [sealPut, hok.out.symm]) (ho4.mono hbw.size) (below_on hbw hB4)
end Go.Proofs.Ytadjjcjhlndpkaa
