/- The reader that draws: l6Open, pick. No condition. -/
import Derived.Test.YtiaheikoifnbaaaC1
import Derived.Laws.BitsAllLaws
import Derived.Laws.BitsLemmas
namespace Go.Proofs.Ytiaheikoifnbaaa
open Go Go.RowKit

theorem ofInt_i64 (a : Nat) (ha : a < 9223372036854775808) : (BitVec.ofInt 64 (a : Int)).toNat = a := by
  rw [BitVec.ofInt_natCast, BitVec.toNat_ofNat]; exact Nat.mod_eq_of_lt (by omega)
theorem i64_xor_nat (a b : Nat) (ha : a < 9223372036854775808) (hb : b < 9223372036854775808) : bits .xor .i64 (a : Int) (b : Int) = ((a ^^^ b : Nat) : Int) := by
  have hx : a ^^^ b < 2 ^ 63 := Nat.xor_lt_two_pow (by omega) (by omega)
  show IntKind.i64.wrap ((BitVec.ofInt 64 (a : Int) ^^^ BitVec.ofInt 64 (b : Int)).toNat : Int) = _
  rw [BitVec.toNat_xor, ofInt_i64 a ha, ofInt_i64 b hb, IntKind.wrap_i64]
  omega

/-- The reader at block g: its bytes, and how many numbers were drawn. -/
structure Rd (w : World) (g p : Nat) : Prop where
  ex : ∃ A c bs, w.heap[g]? = some (.cells #[.slice A bs.length c, .int .i64 (p : Int)] 46 (0, 0)) ∧ RY w A c bs ∧ bs.length ≤ 2000 ∧ (0 < bs.length → ∀ a, A = some a → a.block < g)
theorem Rd.lt {w : World} {g p : Nat} (h : Rd w g p) : g < w.heap.size := by
  obtain ⟨_, _, _, h, _⟩ := h.ex
  exact (Array.getElem?_eq_some_iff.1 h).1
/-- What the drawing of one number leaves: only the reader's block has turned. -/
def PP (w : World) (g p : Nat) (n : Int) (e : Ending) (w' : World) : Prop :=
  ∃ m, 0 ≤ m ∧ m ≤ n - 1 ∧ e = .returned (.int .i64 m) ∧ Rd w' g (p + 1) ∧ w.grownBy w' (some g)

theorem byT : SlT Try.prog 29 5 1 1 (.int .u8 0) :=
  ⟨Try.underlying29, info_parts (by kernel_rfl), rfl, by omega⟩

theorem l6Open_any (A : Option Addr) (c : Nat) (bs : List Int) (w : World) (hr : RY w A c bs) :
    Calls Try.prog 34 #[.slice A bs.length c] w fun e w' => ∃ g, e = .returned (.pointer (some ⟨g, 0, none⟩)) ∧ w.heap.size ≤ g ∧ Rd w' g 0 ∧ Below w.heap.size w w' := by
  have hblk : ∀ {A' : Option Addr}, (∀ b, blk A' = some b → blk A = some b) → 0 < bs.length → ∀ x, A' = some x → x.block < w.heap.size := by
    intro A' h hp x hx
    obtain ⟨ad, he, hb, _⟩ := hr.rg.at0 hp
    have := h x.block (by rw [hx]; rfl)
    rw [he] at this
    simp only [blk, Option.map_some, Option.some.injEq] at this
    omega
  by_cases h : 2000 < bs.length
  · go_enter Try.func34, Try.ntmps34
    go_wp2_with (refine wpl_cut byT rfl _ _ _ rfl rfl hr.rg 0 2000 rfl ⟨_, _, rfl, rfl⟩ (by omega) (by omega) ?_; intro A1 c1 h1 h2)
    go_ret
    have hl : ((bs.take 2000).length) = 2000 := by rw [List.length_take]; omega
    refine ⟨_, rfl, Nat.le_refl _, ⟨A1, c1, bs.take 2000, ?_, ⟨?_, fun b hb => hr.wf b (List.mem_of_mem_take hb)⟩, by omega, fun _ => hblk h2 (by omega)⟩, below_new _ _⟩
    · rw [hl]; exact heap_alloc_new w _
    · have h3 := h1.below (below_new w (.cells #[.slice A1 2000 c1, .int .i64 0] 46))
      rw [hl]
      simpa [List.map_take] using h3
  · have hle : bs.length ≤ 2000 := by omega
    go_enter Try.func34, Try.ntmps34
    go_wp2_with fail
    go_ret
    exact ⟨_, rfl, Nat.le_refl _, ⟨A, c, bs, heap_alloc_new w _, hr.below (below_new _ _), hle, fun hp => hblk (fun _ h => h) hp⟩, below_new _ _⟩

theorem Rd.step {w : World} {g p : Nat} {A : Option Addr} {c : Nat} {bs : List Int} (hh : w.heap[g]? = some (.cells #[.slice A bs.length c, .int .i64 (p : Int)] 46 (0, 0))) (hy : RY w A c bs) (hl : bs.length ≤ 2000)
    (hA : 0 < bs.length → ∀ a, A = some a → a.block < g) (q : Nat) : Rd (w.setCell ⟨g, 1, none⟩ (.int .i64 (q : Int))) g q ∧ w.grownBy (w.setCell ⟨g, 1, none⟩ (.int .i64 (q : Int))) (some g) := by
  have hg : w.grownBy (w.setCell ⟨g, 1, none⟩ (.int .i64 (q : Int))) (some g) :=
    ⟨rfl, rfl, rfl, by simp [World.setCell], fun k _ hk => heap_setCell_other w ⟨g, 1, none⟩ k _ (fun e => hk (by simp [e]))⟩
  refine ⟨⟨A, c, bs, ?_, ⟨⟨hy.rg.len, fun hp => ?_, hy.rg.cap, hy.rg.big⟩, hy.wf⟩, hl, hA⟩, hg⟩
  · rw [heap_setCell_same w g 1 _ _ _ hh]; simp
  · obtain ⟨ad, e, hb, hc⟩ := hy.rg.at0 hp
    have hlt := hA hp ad e
    exact ⟨ad, e, by simpa [World.setCell] using hb, fun j u hu => (World.cell?_setCell_other w ⟨g, 1, none⟩ (ad.add j) _ (fun e => by have := congrArg Addr.block e; rw [block_of_add] at this; simp at this; omega)).trans (hc j u hu)⟩

theorem PP_of {w : World} {g p : Nat} {n m : Int} (HS : Hid (Rd (w.setCell ⟨g, 1, none⟩ (.int .i64 ((p + 1 : Nat) : Int))) g (p + 1) ∧ w.grownBy (w.setCell ⟨g, 1, none⟩ (.int .i64 ((p + 1 : Nat) : Int))) (some g)))
    (h0 : 0 ≤ m) (h1 : m ≤ n - 1) : PP w g p n (.returned (.int .i64 m)) (w.setCell ⟨g, 1, none⟩ (.int .i64 ((p : Int) + 1))) :=
  ⟨m, h0, h1, rfl, by simpa using HS.out.1, by simpa using HS.out.2⟩

theorem PP_ofD {w : World} {g p k : Nat} {n m : Int} (HS : Hid (Rd (w.setCell ⟨g, 1, none⟩ (.int .i64 ((p + 1 : Nat) : Int))) g (p + 1) ∧ w.grownBy (w.setCell ⟨g, 1, none⟩ (.int .i64 ((p + 1 : Nat) : Int))) (some g)))
    (h0 : 0 ≤ m) (h1 : m ≤ n - 1) : PP w g p n (.returned (.int .i64 m)) ((w.setCell ⟨g, 1, none⟩ (.int .i64 ((p : Int) + 1))).drewN k) := by
  obtain ⟨m', a, b, c, ⟨A, cc, bs, d1, d2, d3⟩, e⟩ := PP_of (n := n) HS h0 h1
  exact ⟨m', a, b, c, ⟨A, cc, bs, d1, ⟨⟨d2.rg.len, d2.rg.at0, d2.rg.cap, d2.rg.big⟩, d2.wf⟩, d3⟩, ⟨e.os, e.tape, e.output, e.size, e.block⟩⟩
theorem pick_any (g p : Nat) (n : Int) (w : World) (hR : Rd w g p) (hp : p ≤ 1000000) (hn : 1 ≤ n) (hn' : n ≤ 1000000) :
    Calls Try.prog 43 #[.pointer (some ⟨g, 0, none⟩), .int .i64 n] w (PP w g p n) := by
  obtain ⟨A, c, bs, hh, hy, hl, hA⟩ := hR.ex
  have hs := Rd.step hh hy hl hA (p + 1)
  have c0 : w.cell? ⟨g, 0, none⟩ = some (.slice A bs.length c) := by rw [cell_of_row w g 0 _ _ _ hh]; rfl
  have c1 : w.cell? ⟨g, 1, none⟩ = some (.int .i64 (p : Int)) := by rw [cell_of_row w g 1 _ _ _ hh]; rfl
  have f1 : w.frozen? ⟨g, 1, none⟩ = false := frozen_of_row w g 1 _ _ hh
  have HS := hid hs
  have hd : decide (n < 1) = false := by simp; omega
  clear hs
  by_cases h0 : bs.length = 0
  · have hq : ((bs.length : Int) == 0) = true := by simp [h0]
    have H0 := hid h0
    clear h0 hA hh
    go_enter Try.func43, Try.ntmps43
    go_wp2_with fail
    go_ret
    exact PP_of HS (by omega) (by omega)
  · have hq : ((bs.length : Int) == 0) = false := by simp [h0]
    have hL : 0 < bs.length := by omega
    have hbyte : ∀ k, k < bs.length → ∃ ad x, A = some ad ∧ 0 ≤ x ∧ x ≤ 255 ∧ ∀ v, (w.setCell ⟨g, 1, none⟩ v).cell? (ad.add k) = some (.int .u8 x) := by
      intro k hk
      obtain ⟨ad, x, e, hx0, hx1, hc⟩ := hy.get hk
      refine ⟨ad, x, e, hx0, hx1, fun v => ?_⟩
      have hlt := hA hL ad e
      exact (World.cell?_setCell_other w ⟨g, 1, none⟩ (ad.add k) _ (fun e => by have := congrArg Addr.block e; rw [block_of_add] at this; simp at this; omega)).trans hc
    clear h0 hA hh
    by_cases hpl : p < bs.length
    · obtain ⟨ad, x, rfl, hx0, hx1, hc⟩ := hbyte p hpl
      clear hbyte
      have hm0 := Int.emod_nonneg x (show n ≠ 0 by omega)
      have hm1 := Int.emod_lt_of_pos x (show 0 < n by omega)
      go_enter Try.func43, Try.ntmps43
      go_wp2_with fail
      go_ret
      exact PP_of HS hm0 (by omega)
    · obtain ⟨ad, x, rfl, hx0, hx1, hc⟩ := hbyte (p % bs.length) (Nat.mod_lt _ hL)
      obtain ⟨ad', y, he, hy0, hy1, hc'⟩ := hbyte ((p * 7 + 3) % bs.length) (Nat.mod_lt _ hL)
      injection he with he
      subst he
      clear hbyte hy hR
      generalize bs.length = L at *
      have hm : (p : Int) % (L : Int) = ((p % L : Nat) : Int) := by omega
      have hd0 : (0 : Int) ≤ (p : Int) / (L : Int) := Int.ediv_nonneg (by omega) (by omega)
      have hd1 : (p : Int) / (L : Int) ≤ p := Int.ediv_le_self _ (by omega)
      clear hm
      have hL0 : ¬ L = 0 := by omega
      have he0 : 0 ≤ (p : Int) % (L : Int) := Int.emod_nonneg _ (by omega)
      have he1 : (p : Int) % (L : Int) < (L : Int) := Int.emod_lt_of_pos _ (by omega)
      have he2 : ((p : Int) % (L : Int)).toNat = p % L := by omega
      have hf0 : 0 ≤ ((p : Int) * 7 + 3) % (L : Int) := Int.emod_nonneg _ (by omega)
      have hf1 : ((p : Int) * 7 + 3) % (L : Int) < (L : Int) := Int.emod_lt_of_pos _ (by omega)
      have hf2 : (((p : Int) * 7 + 3) % (L : Int)).toNat = (p * 7 + 3) % L := by rw [show ((p : Int) * 7 + 3) = ((p * 7 + 3 : Nat) : Int) by omega, ← Int.natCast_emod, Int.toNat_natCast]
      go_enter Try.func43, Try.ntmps43
      go_wp2_with fail
      go_quiet (fail)
      obtain ⟨N, hN⟩ : ∃ N : Nat, x * 131 + y * 1117 + (p : Int) * 29 + (p : Int) / (L : Int) * 53 = (N : Int) := ⟨(x * 131 + y * 1117 + (p : Int) * 29 + (p : Int) / (L : Int) * 53).toNat, by omega⟩
      have hNb : N ≤ 100000000 := by omega
      rw [hN]
      clear hN hc hc' he0 he1 he2 hf0 hf1 hf2 hd0 hd1
      have hx : bits .xor .i64 (N : Int) ((N : Int) / 64) = ((N ^^^ (N / 64) : Nat) : Int) := i64_xor_nat N (N / 64) (by omega) (by omega)
      have hxb : N ^^^ (N / 64) < 2 ^ 27 := Nat.xor_lt_two_pow (by omega) (by omega)
      go_wp2_with fail
      go_ret
      exact PP_ofD HS (Int.emod_nonneg _ (by omega)) (by have := Int.emod_lt_of_pos ((N ^^^ N / 64 : Nat) : Int) (show 0 < n by omega); omega)

theorem Rd.below {w w' : World} {g p : Nat} (h : Rd w g p) (hb : Below w.heap.size w w') : Rd w' g p := by
  obtain ⟨A, c, bs, h1, h2, h3, h4⟩ := h.ex
  exact ⟨A, c, bs, (hb.block g (Array.getElem?_eq_some_iff.1 h1).1).trans h1, h2.below hb, h3, h4⟩
theorem Rd.grown {w w' : World} {g p : Nat} {row : Option Nat} (h : Rd w g p) (hb : w.grownBy w' row) (hr : ∀ r, row = some r → g < r) : Rd w' g p := by
  obtain ⟨A, c, bs, h1, h2, h3, h4⟩ := h.ex
  have hlt := (Array.getElem?_eq_some_iff.1 h1).1
  refine ⟨A, c, bs, (hb.block g hlt (fun e => by have := hr g e.symm; omega)).trans h1, ⟨⟨h2.rg.len, fun hp => ?_, h2.rg.cap, h2.rg.big⟩, h2.wf⟩, h3, h4⟩
  obtain ⟨ad, e, hbl, hc⟩ := h2.rg.at0 hp
  have hA := h4 hp ad e
  exact ⟨ad, e, by have := hb.size; omega, fun j u hu => (World.cell?_of_block (by rw [block_of_add]; exact hb.block ad.block hbl (fun e => by have := hr _ e.symm; omega))).trans (hc j u hu)⟩

end Go.Proofs.Ytiaheikoifnbaaa
