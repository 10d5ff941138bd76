/- Contracts: seals are opened by the reference; keys; marks. No condition. -/
import Derived.Test.YtadjjcjhlndpkaaCTg2
import Derived.Test.YtadjjcjhlndpkaaExt
namespace Go.Proofs.Ytadjjcjhlndpkaa
open Go Go.RowKit

theorem sSealOpen_any (a b : Int) (A : Option Addr) (c : Nat) (xs : List Int) (w : World) (hr : RI w A c xs) (hn : xs.length ≤ 17592186044415) :
    Calls Try.prog 32 #[.agg #[.int .i64 a, .int .i64 b], .slice A xs.length c] w (PLB w (sealOpen a b xs)) := by
  rcases nil_or_snoc xs with rfl | ⟨ys, t, rfl⟩
  · have hlt : decide ((-1 : Int) < 0) = true := by simp
    go_enter Try.func32, Try.ntmps32
    go_wp2_with fail
    go_quiet (fail)
    go_wp2_with fail
    go_ret2
    exact PLB_none rfl (below_drewN (below_new _ _) _)
  · have hrp := (hr.pre).below (below_new w (.cells #[.int .i64 a, .int .i64 b] 26))
    have hrw := hr.below (below_new w (.cells #[.int .i64 a, .int .i64 b] 26))
    have hcap := hr.cap
    have hbig := hr.big
    unfold maxLen at hbig
    obtain ⟨ad, x, rfl, hx, hc⟩ := hrw.get (k := ys.length) (by simp)
    obtain rfl : t = x := by simpa using hx.out
    rw [show (ys ++ [t]).length = ys.length + 1 by simp] at hn hcap ⊢
    have hc0 : (ys.length : Int) ≤ (c : Int) := by omega
    have hlt : decide ((ys.length : Int) < 0) = false := by simp
    have hs0 : ∀ s : Ext (w.alloc (.cells #[.int .i64 a, .int .i64 b] 26)), s.val.cell? ⟨w.heap.size, 0, none⟩ = some (.int .i64 a) := fun s => (s.bel.cell (by simp)).trans (by simp)
    have hs1 : ∀ s : Ext (w.alloc (.cells #[.int .i64 a, .int .i64 b] 26)), s.val.cell? ⟨w.heap.size, 1, none⟩ = some (.int .i64 b) := fun s => (s.bel.cell (by simp)).trans (by simp)
    have hst : ∀ s : Ext (w.alloc (.cells #[.int .i64 a, .int .i64 b] 26)), s.val.cell? (ad.add ys.length) = some (.int .i64 t) := fun s => RI.cellAt (hrw.below s.bel) (by simp)
    cases hok : tagOk a b ys
    · go_enter Try.func32, Try.ntmps32
      go_wp2_with fail
      refine wp_region_ext (by kernel_rfl) (by kernel_rfl) ?_; (repeat (go_big_quiet_step (first | (go_at_call 37; exact ext_PBb (hok ▸ l31Ok_any _ _ _ _ _ _ (hrp.below (Ext.bel _))))))); refine wpQuiet_nil ?_; intro _ hw_; obtain ⟨sx, hw2_⟩ := hw_; subst hw2_
      go_wp2_with fail
      go_ret2
      exact PLB_none (by simp [sealOpen_snoc, hok]) (below_on (below_new _ _) sx.bel)
    · have htag := fun (s : Ext (w.alloc (.cells #[.int .i64 a, .int .i64 b] 26))) => l31Tag_any a b (some ad) c ys s.val (hrp.below s.bel) hok
      generalize htg : tagF a b ys = tg at htag
      have HT := hid htg
      clear htg
      by_cases he : t = tg
      · have hq : (t != tg) = false := by simp [he]
        have HE := hid he
        clear he
        go_enter Try.func32, Try.ntmps32
        go_wp2_with fail
        refine wp_region_ext (by kernel_rfl) (by kernel_rfl) ?_; (repeat (go_big_quiet_step (first | (go_at_call 37; exact ext_PBb (hok ▸ l31Ok_any _ _ _ _ _ _ (hrp.below (Ext.bel _)))) | (go_at_call 38; exact ext_PNb (htag _))))); refine wpQuiet_nil ?_; intro _ hw_; obtain ⟨sx, hw2_⟩ := hw_; subst hw2_
        have hbx : Below w.heap.size w sx.val := below_on (below_new _ _) sx.bel
        have hrx := (hr.pre).below hbx
        generalize sx.val = w2 at *
        go_wp2_with (at_builtin; refine wpl_app (xs := []) (ys := ys) intT rfl _ _ rfl rfl (OI.empty w2 w2.heap.size (Nat.le_refl _)) rfl (RI.alloc hrx _) (by simp; omega) (by simp) ?_; intro A3 c3 w3 zs hzs ho3 hg3 hat3)
        go_ret2
        exact PLB_some (by rw [hzs.out]; simp [sealOpen_snoc, hok, HE.out, HT.out]) (ho3.mono hbx.size) (below_on hbx (below_grown (below_new w2 _) (OI.empty w2 w2.heap.size (Nat.le_refl _)) hg3 (Nat.le_refl _) (by simp)))
      · have hq : (t != tg) = true := by simp [he]
        have HE := hid he
        clear he
        go_enter Try.func32, Try.ntmps32
        go_wp2_with fail
        refine wp_region_ext (by kernel_rfl) (by kernel_rfl) ?_; (repeat (go_big_quiet_step (first | (go_at_call 37; exact ext_PBb (hok ▸ l31Ok_any _ _ _ _ _ _ (hrp.below (Ext.bel _)))) | (go_at_call 38; exact ext_PNb (htag _))))); refine wpQuiet_nil ?_; intro _ hw_; obtain ⟨sx, hw2_⟩ := hw_; subst hw2_
        go_wp2_with fail
        go_ret2
        exact PLB_none (by rw [sealOpen_snoc, if_neg]; simp only [hok, Bool.true_and, beq_iff_eq]; intro h; exact HE.out (h.trans HT.out)) (below_on (below_new _ _) sx.bel)

theorem toKey_any (a b : Int) (w : World) : Calls Try.prog 17 #[.agg #[.int .i64 a, .int .i64 b]] w
    fun e w' => e = .returned (.agg #[.int .i64 a, .int .i64 b]) ∧ Below w.heap.size w w' := by
  go_enter Try.func17, Try.ntmps17
  go_wp2
  exact bodyPost_ret (v := .agg #[.int .i64 a, .int .i64 b]) (by simp [results, Try.results17, go_sem]) rfl ⟨rfl, (((Below.refl _ _).alloc (Nat.le_refl _) _).alloc (by simp) _).alloc (by simp; omega) _⟩
end Go.Proofs.Ytadjjcjhlndpkaa
