/- Bytes, keys and damaged bytes are drawn: what is drawn is of no matter, only that it is drawn. No condition. -/
import Derived.Test.YtadjjcjhlndpkaaCPk
import Derived.Test.YtadjjcjhlndpkaaCTg4
import Derived.Deep.RegionHeld3
namespace Go.Proofs.Ytadjjcjhlndpkaa
open Go Go.RowKit

/-- The reader at block g, p numbers drawn; of what was there in w0 only its block has turned. -/
structure DS (w0 w : World) (g p : Nat) : Prop where
  rd : Rd w g p
  gb : w0.grownBy w (some g)
section
variable {w0 w w' : World} {g p : Nat}
theorem DS.below (h : DS w0 w g p) (hb : Below w.heap.size w w') : DS w0 w' g p := ⟨h.rd.below hb, gb_below h.gb hb⟩
theorem DS.new (h : DS w0 w g p) (o : Obj) : DS w0 (w.alloc o) g p := h.below (below_new _ _)
theorem DS.drew (h : DS w0 w g p) : DS w0 w.drew g p := h.below (Below.drew (Below.refl _ _))
theorem DS.own (h : DS w0 w g p) {base c : Nat} {A : Option Addr} {xs : List Int} (ho : OI w base A c xs) (hg : w.grownBy w' (blk A)) (h1 : g < base) (h2 : w0.heap.size ≤ base) : DS w0 w' g p :=
  ⟨h.rd.grown hg fun r hr => by have := (OI.lt ho hr).1; omega, gb_own h.gb hg fun r hr => by have := (OI.lt ho hr).1; omega⟩
theorem DS.refl (h : Rd w g p) : DS w w g p := ⟨h, gb_refl _ _⟩
/-- A struct of one's own is written. -/
theorem DS.setCell (h : DS w0 w g p) {a : Addr} (v : Value) (h1 : g < a.block) (h2 : w0.heap.size ≤ a.block) : DS w0 (w.setCell a v) g p := by
  have hg : w.grownBy (w.setCell a v) (some a.block) := ⟨rfl, rfl, rfl, by simp [World.setCell], fun k _ hk => heap_setCell_other w a k v (fun e => hk (by simp [e]))⟩
  exact ⟨h.rd.grown hg fun r hr => by injection hr; omega, gb_own h.gb hg fun r hr => by injection hr; omega⟩
theorem DS.trans {w1 : World} {q : Nat} (h : DS w0 w g p) (k : DS w w1 g q) : DS w0 w1 g q := ⟨k.rd, gb_trans h.gb k.gb⟩
end
def PD (w0 w : World) (g p : Nat) (n : Int) (e : Ending) (w' : World) : Prop := ∃ m, 0 ≤ m ∧ m ≤ n - 1 ∧ e = .returned (.int .i64 m) ∧ DS w0 w' g (p + 1) ∧ w.grownBy w' (some g)
theorem pick_ds {w0 w : World} {g p : Nat} (h : DS w0 w g p) (n : Int) (hp : p ≤ 1000000) (hn : 1 ≤ n) (hn' : n ≤ 1000000) :
    Calls Try.prog 43 #[.pointer (some ⟨g, 0, none⟩), .int .i64 n] w (PD w0 w g p n) :=
  (pick_any g p n w h.rd hp hn hn').mono fun _ _ ⟨m, h0, h1, he, hR, hg⟩ => ⟨m, h0, h1, he, ⟨hR, gb_trans h.gb hg⟩, hg⟩

theorem l91Bytes_any (g p : Nat) (n : Int) (w : World) (hR : Rd w g p) (hp : p ≤ 900000) (hn : 0 ≤ n) (hn' : n ≤ 10000) :
    Calls Try.prog 49 #[.pointer (some ⟨g, 0, none⟩), .int .i64 n] w fun e w' => ∃ A c ys q, e = .returned (.slice A ys.length c) ∧ OI w' w.heap.size A c ys ∧ ys.length ≤ 10000 ∧ q ≤ p + 20000 ∧ DS w w' g q := by
  have hlt := hR.lt
  obtain ⟨N, rfl⟩ := Int.eq_ofNat_of_zero_le hn
  have hN : N ≤ 10000 := by omega
  have D0 := (DS.refl hR).new (.cells #[] 3)
  go_enter Try.func49, Try.ntmps49
  go_wp2_with fail
  go_loopw [5, 6] (fun v i wr => ∃ (k : Nat) (A : Option Addr) (c : Nat) (ys : List Int) (q : Nat), k ≤ N ∧ i = .int .i64 k ∧ v = .slice A ys.length c ∧ ys.length ≤ k ∧ k ≤ ys.length ∧ OI wr w.heap.size A c ys ∧ q ≤ p + k ∧ DS w wr g q) (fun _ i _ => N - (intOf i).toNat)
  case atStart => exact ⟨0, _, _, [], p, by omega, rfl, rfl, by simp, by simp, OI.empty w w.heap.size (Nat.le_refl _), by omega, D0⟩
  case round =>
    obtain ⟨k, A, c, ys, q, hk, rfl, rfl, hl1, hl2, ho, hq, D⟩ := hrel
    by_cases hlt2 : k < N
    · go_wp2_with fail
      refine (pick_ds D _ (by omega) (by omega) (by omega)).mono ?_
      rintro e w2 ⟨m, hm0, hm1, rfl, D2, hg2⟩
      have ho2 := OI.past ho hg2 hlt
      go_wp2_with (at_builtin; refine wpl_app (ys := [m]) intT rfl _ _ rfl rfl (ho2.alloc _) rfl (RI.one w2 m) (by simp; omega) (by have := D2.gb.size; simp; omega) ?_; intro A3 c3 w3 zs hz ho3 hg3 hat3)
      have D3 := (D2.new _).own (ho2.alloc _) hg3 hlt (Nat.le_refl _)
      have hlz : zs.length ≤ ys.length + 1 ∧ ys.length + 1 ≤ zs.length := by rw [hz.out]; simp
      obtain ⟨hlz1, hlz2⟩ := hlz
      go_roundw
      case rel => exact ⟨k + 1, A3, c3, zs, q + 1, by omega, by go_num, rfl, by omega, by omega, ho3, by omega, D3⟩
      case measure => simp [intOf]; omega
    · by_cases h0 : N = 0
      · subst h0
        go_wp2_with fail
        go_ret
        exact ⟨A, c, ys, q, rfl, ho, by omega, by omega, D⟩
      · have hpos : 0 < (N : Int) := by omega
        have HN := hid h0
        clear h0
        go_wp2_with fail
        refine (pick_ds D _ (by omega) (by omega) (by omega)).mono ?_
        rintro e w2 ⟨m, hm0, hm1, rfl, D2, hg2⟩
        have ho2 := OI.past ho hg2 hlt
        by_cases hm : m = 0
        · subst hm
          go_wp2_with fail
          refine (pick_ds D2 _ (by omega) (by omega) (by omega)).mono ?_
          rintro e w3 ⟨m3, hm30, hm31, rfl, D3, hg3⟩
          have ho3 := OI.past ho2 hg3 hlt
          obtain ⟨M, rfl⟩ := Int.eq_ofNat_of_zero_le hm30
          have hM : M < ys.length := by omega
          go_wp2_with fail
          have hlit := OI.litI w3 w3.heap.size [-1, 256] (Nat.le_refl _) (by simp)
          refine (pick_ds (D3.new _) _ (by omega) (by omega) (by omega)).mono ?_
          rintro e w4 ⟨m4, hm40, hm41, rfl, D4, hg4⟩
          have hl4 := OI.past hlit hg4 D3.rd.lt
          have ho4 := OI.past (ho3.alloc _) hg4 hlt
          obtain ⟨ad, y, rfl, hy, hcy⟩ := ho4.ri.get hM
          have hfr := (ho4.store M 0).2.2
          go_wp2_with (first | (refine wpl_idx (xs := [-1, 256]) intT rfl _ _ rfl rfl rfl hl4.ri hm40 (by simp; omega) ?_; intro q1 v1 hv1 hc1 _))
          have ho5 := ho4.store M v1
          have D5 := D4.own ho4 ho5.2.1 hlt (Nat.le_refl _)
          go_ret
          exact ⟨some ad, c, ys.set M v1, _, ret_slice List.length_set.symm, ho5.1, by rw [List.length_set]; omega, by omega, D5⟩
        · have hq : (m == 0) = false := by simp [hm]
          clear hm
          go_wp2_with fail
          go_ret
          exact ⟨A, c, ys, q + 1, rfl, ho2, by omega, by omega, D2⟩
end Go.Proofs.Ytadjjcjhlndpkaa
