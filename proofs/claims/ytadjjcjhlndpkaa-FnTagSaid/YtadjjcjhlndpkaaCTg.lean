/- Contracts: bytes, clones, tags, seals. No condition. -/
import Derived.Test.YtadjjcjhlndpkaaC1
import Derived.Test.YtadjjcjhlndpkaaPlTg
import Derived.Deep.RegionHeld3
namespace Go.Proofs.Ytadjjcjhlndpkaa
open Go Go.RowKit

theorem bytesOk_any (A : Option Addr) (c : Nat) (xs : List Int) (w : World) (hr : RI w A c xs) : Calls Try.prog 40 #[.slice A xs.length c] w (PB w (byOk xs)) := by
  go_enter Try.func40, Try.ntmps40
  go_wp2_with fail
  refine (every_any _ _ _ _ _ _ hr).mono ?_
  rintro e w' ⟨b, hb1, rfl, rfl⟩
  go_wp2_with fail
  go_ret
  exact ⟨_, hb1, rfl, rfl⟩

theorem cloned_any (A : Option Addr) (c : Nat) (xs : List Int) (w : World) (hr : RI w A c xs) (hn : xs.length ≤ 17592186044416) : Calls Try.prog 50 #[.slice A xs.length c] w (PL w xs) := by
  go_enter Try.func50, Try.ntmps50
  go_wp2_with (at_builtin; refine wpl_app (xs := []) intT rfl _ _ rfl rfl (OI.empty w w.heap.size (Nat.le_refl _)) rfl (hr.alloc _) (by simpa using hn) (by simp) ?_; intro A1 c1 w1 zs hz ho hg hat)
  go_ret
  exact ⟨A1, c1, zs, hz, ho, rfl, below_grown (below_new _ _) (OI.empty w w.heap.size (Nat.le_refl _)) hg (Nat.le_refl _) (by simp)⟩

theorem l1Bytes_any (A : Option Addr) (c : Nat) (xs : List Int) (w : World) (hr : RI w A c xs) : Calls Try.prog 52 #[.slice A xs.length c] w (PB w (byOk xs)) := by
  have hbig := hr.big
  have hcap := hr.cap
  unfold maxLen at hbig
  go_enter Try.func52, Try.ntmps52
  go_wp2_with fail
  go_loop [3] (fun i => ∃ k : Nat, k ≤ xs.length ∧ i = .int .i64 k ∧ Hid ((xs.take k).all (inB 0 255) = true)) (fun i => xs.length - (intOf i).toNat)
  case atStart => exact ⟨0, by omega, rfl, by simp [Hid]⟩
  case round =>
    obtain ⟨k, hk, rfl, hh⟩ := hrel
    by_cases hlt : k < xs.length
    · obtain ⟨ad, x, rfl, HX, hc⟩ := hr.get hlt
      go_wp2_with (go_at_call 46; refine (l6In_any _ _ _ _).mono ?_; rintro e w' ⟨b, hb1, rfl, rfl⟩; cases b)
      · go_ret
        exact ⟨_, hid (all_no HX.out hb1.out.symm).symm, rfl, rfl⟩
      · go_round
        case rel => exact ⟨k + 1, by omega, by go_num, hid (all_snoc HX.out hh.out hb1.out.symm)⟩
        case measure => simp [intOf]; omega
    · go_wp2
      go_ret
      exact ⟨_, hid (all_done (by omega) hh.out).symm, rfl, rfl⟩

theorem tag_any_no1 {A B : Int} {bs : List Int} (h : inB 2 250 A = false) : tagOf A B bs = -1 := by simp [tagOf, tagOk, h]
theorem tag_any_no2 {A B : Int} {bs : List Int} (h : inB 1 250 B = false) : tagOf A B bs = -1 := by simp [tagOf, tagOk, h]
theorem tag_any_no3 {A B : Int} {bs : List Int} (h : byOk bs = false) : tagOf A B bs = -1 := by simp [tagOf, tagOk, h]
theorem tag_any_no4 {A B : Int} {bs : List Int} (h : ¬ bs.length ≤ 400) : tagOf A B bs = -1 := by simp [tagOf, tagOk, h]

theorem TagOf_any (a b : Int) (A : Option Addr) (c : Nat) (xs : List Int) (w : World) (hr : RI w A c xs) :
    Calls Try.prog 19 #[.agg #[.int .i64 a, .int .i64 b], .slice A xs.length c] w (PNb w (tagOf a b xs)) := by
  have hrw := hr.below (below_new w (.cells #[.int .i64 a, .int .i64 b] 26))
  go_enter Try.func19, Try.ntmps19
  go_wp2_with fail
  refine (within_or _ _ _ _).mono ?_
  rintro e w' (⟨hb1, h1, h2, rfl, rfl⟩ | ⟨hb1, rfl, rfl⟩)
  rotate_left
  · go_wp2_with fail
    go_ret
    exact ⟨_, hid (tag_any_no1 hb1.out).symm, rfl, below_new _ _⟩
  go_wp2_with fail
  refine (within_or _ _ _ _).mono ?_
  rintro e w' (⟨hb2, h3, h4, rfl, rfl⟩ | ⟨hb2, rfl, rfl⟩)
  rotate_left
  · go_wp2_with fail
    go_ret
    exact ⟨_, hid (tag_any_no2 hb2.out).symm, rfl, below_new _ _⟩
  go_wp2_with fail
  refine (bytesOk_any _ _ _ _ hrw).mono ?_
  rintro e w' ⟨b3, hb3, rfl, rfl⟩
  cases b3
  · go_wp2_with fail
    go_ret
    exact ⟨_, hid (tag_any_no3 hb3.out.symm).symm, rfl, below_new _ _⟩
  by_cases hl : xs.length ≤ 400
  rotate_left
  · have hl' : 400 < xs.length := by omega
    go_wp2_with fail
    go_ret
    exact ⟨_, hid (tag_any_no4 hl).symm, rfl, below_new _ _⟩
  go_wp2_with fail
  go_loop [5, 30] (fun t i => ∃ (k : Nat) (n : Int), k ≤ xs.length ∧ i = .int .i64 k ∧ t = .int .i64 n ∧ 0 ≤ n ∧ n ≤ 250 ∧ Hid (n = (xs.take k).foldl (tagStep a) 1)) (fun _ i => xs.length - (intOf i).toNat)
  case atStart => exact ⟨0, 1, by omega, rfl, rfl, by omega, by omega, hid rfl⟩
  case round =>
    obtain ⟨k, n, hk, rfl, rfl, hn0, hn1, hn⟩ := hrel
    by_cases hlt : k < xs.length
    · obtain ⟨ad, x, rfl, HX, hc⟩ := hrw.get hlt
      obtain ⟨hx0, hx1⟩ := byOk_at hb3.out.symm HX.out
      have hp0 : 0 ≤ n * a := Int.mul_nonneg hn0 (by omega)
      have hp1 : n * a ≤ 250 * 250 := Int.mul_le_mul hn1 h2 (by omega) (by omega)
      go_wp2_with fail
      go_round
      case rel => exact ⟨k + 1, _, by omega, by go_num, rfl, (tagStep_bd a n x).1, (tagStep_bd a n x).2, hid (by rw [tagFold_take a HX.out, ← hn.out]; rfl)⟩
      case measure => simp [intOf]; omega
    · go_wp2_with fail
      go_ret
      refine ⟨_, hid ?_, rfl, below_new _ _⟩
      unfold tagOf
      rw [if_pos (tagOk_mk h1 h2 h3 h4 hb3.out.symm hl)]
      unfold tagF
      rw [hn.out, List.take_of_length_le (by omega)]

theorem l31Ok_any (a b : Int) (A : Option Addr) (c : Nat) (xs : List Int) (w : World) (hr : RI w A c xs) :
    Calls Try.prog 37 #[.agg #[.int .i64 a, .int .i64 b], .slice A xs.length c] w (PBb w (tagOk a b xs)) := by
  have hrw := hr.below (below_new w (.cells #[.int .i64 a, .int .i64 b] 26))
  go_enter Try.func37, Try.ntmps37
  go_wp2_with fail
  refine (l6In_or _ _ _ _).mono ?_
  rintro e w' (⟨hb1, h1, h2, rfl, rfl⟩ | ⟨hb1, rfl, rfl⟩)
  rotate_left
  · go_wp2_with fail
    go_ret
    exact ⟨_, hid (by simp [tagOk, hb1.out]), rfl, below_new _ _⟩
  go_wp2_with fail
  refine (l6In_or _ _ _ _).mono ?_
  rintro e w' (⟨hb2, h3, h4, rfl, rfl⟩ | ⟨hb2, rfl, rfl⟩)
  rotate_left
  · go_wp2_with fail
    go_ret
    exact ⟨_, hid (by simp [tagOk, hb2.out]), rfl, below_new _ _⟩
  go_wp2_with fail
  refine (l1Bytes_any _ _ _ _ hrw).mono ?_
  rintro e w' ⟨b3, hb3, rfl, rfl⟩
  cases b3
  · go_wp2_with fail
    go_ret
    exact ⟨_, hid (by simp [tagOk, hb3.out.symm]), rfl, below_new _ _⟩
  by_cases hl : xs.length ≤ 400
  · go_wp2_with fail
    go_ret
    exact ⟨_, hid (by simp [tagOk, hb1.out, hb2.out, hb3.out.symm, hl]; omega), rfl, below_new _ _⟩
  · have hl' : 400 < xs.length := by omega
    go_wp2_with fail
    go_ret
    exact ⟨_, hid (by simp [tagOk, hb1.out, hb2.out, hb3.out.symm, hl]; omega), rfl, below_new _ _⟩

theorem l31Tag_any (a b : Int) (A : Option Addr) (c : Nat) (xs : List Int) (w : World) (hr : RI w A c xs) (hok : tagOk a b xs = true) :
    Calls Try.prog 38 #[.agg #[.int .i64 a, .int .i64 b], .slice A xs.length c] w (PNb w (tagF a b xs)) := by
  have hrw := hr.below (below_new w (.cells #[.int .i64 a, .int .i64 b] 26))
  obtain ⟨h1, h2, h3, h4, hy, hl⟩ := tagOk_key hok
  have HY := hid hy
  clear hy hok
  go_enter Try.func38, Try.ntmps38
  go_wp2_with fail
  go_loopw [5, 6] (fun t i wr => ∃ (k : Nat) (n : Int), k ≤ xs.length ∧ i = .int .i64 k ∧ t = .int .i64 n ∧ 0 ≤ n ∧ n ≤ 250 ∧ Hid (n = (xs.take k).foldl (tagStep a) 1) ∧ ∃ m, wr = (w.alloc (.cells #[.int .i64 a, .int .i64 b] 26)).drewN m) (fun _ i _ => xs.length - (intOf i).toNat)
  case atStart => exact ⟨0, 1, by omega, rfl, rfl, by omega, by omega, hid rfl, 0, rfl⟩
  case round =>
    obtain ⟨k, n, hk, rfl, rfl, hn0, hn1, hn, m, rfl⟩ := hrel
    by_cases hlt : k < xs.length
    · obtain ⟨ad, x, rfl, HX, hc⟩ := hrw.get hlt
      obtain ⟨hx0, hx1⟩ := byOk_at HY.out HX.out
      have hp0 : 0 ≤ n * a := Int.mul_nonneg hn0 (by omega)
      have hp1 : n * a ≤ 250 * 250 := Int.mul_le_mul hn1 h2 (by omega) (by omega)
      go_wp2_with fail
      go_quiet (fail)
      go_wp2_with fail
      go_roundw
      case rel => exact ⟨k + 1, _, by omega, by go_num, rfl, (tagStep_bd a n x).1, (tagStep_bd a n x).2, hid (by rw [tagFold_take a HX.out, ← hn.out]; rfl), _, rfl⟩
      case measure => simp [intOf]; omega
    · go_wp2_with fail
      go_ret
      refine ⟨_, hid ?_, rfl, below_drewN (below_new _ _) _⟩
      unfold tagF
      rw [hn.out, List.take_of_length_le (by omega)]

theorem SealPut_any (a b : Int) (A : Option Addr) (c : Nat) (xs : List Int) (w : World) (hr : RI w A c xs) (hn : xs.length ≤ 17592186044415) :
    Calls Try.prog 29 #[.agg #[.int .i64 a, .int .i64 b], .slice A xs.length c] w (PLB w (sealPut a b xs)) := by
  have hrw := hr.below (below_new w (.cells #[.int .i64 a, .int .i64 b] 26))
  go_enter Try.func29, Try.ntmps29
  go_wp2_with fail
  refine (TagOf_any _ _ _ _ _ _ hrw).mono ?_
  rintro e w1 ⟨t, ht, rfl, hb1⟩
  cases hok : tagOk a b xs
  · have hneg : t < 0 := by rw [ht.out]; exact tagOf_neg.2 hok
    go_wp2_with fail
    go_ret2
    exact PLB_none (by simp [sealPut, hok]) (below_on (below_new _ _) hb1)
  · have hpos : 0 ≤ t := by have := tagF_bd a b xs; rw [ht.out]; unfold tagOf; rw [if_pos hok]; omega
    go_wp2_with fail
    refine (cloned_any _ _ _ _ (hrw.below hb1) (by omega)).mono ?_
    rintro e w2 ⟨A2, c2, ys, hys, ho2, rfl, hb2⟩
    obtain rfl := hys.out
    go_wp2_with (at_builtin; refine wpl_app (ys := [t]) intT rfl _ _ rfl rfl (ho2.alloc _) rfl (RI.one w2 t) (by simp; omega) (by have := hb2.size; simp; omega) ?_; intro A3 c3 w3 zs hz ho3 hg3 hat3)
    go_ret2
    have hB : Below w.heap.size w w2 := below_on (below_on (below_new _ _) hb1) hb2
    refine PLB_some (by rw [hz.out]; simp [sealPut, hok]; rw [ht.out]; simp [tagOf, hok]) (ho3.mono (by have := hB.size; have := hb1.size; simp at this; omega)) ?_
    exact below_grown (below_on hB (below_new _ _)) (OI.alloc ho2 _) hg3 (by have := hb1.size; simp at this; omega) (by have := hB.size; simp; omega)
end Go.Proofs.Ytadjjcjhlndpkaa
