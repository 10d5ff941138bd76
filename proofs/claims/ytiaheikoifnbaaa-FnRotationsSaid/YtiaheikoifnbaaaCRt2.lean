/- Contracts: the rotations in order. No condition. -/
import Derived.Test.YtiaheikoifnbaaaCRt
import Derived.Deep.CutRange
namespace Go.Proofs.Ytiaheikoifnbaaa
open Go Go.RowKit

theorem nints_at {ps : List Nat} {k : Nat} {x : Int} (h : (nints ps)[k]? = some x) : ∃ e, ps[k]? = some e ∧ x = (e : Int) := by
  rw [nints, List.getElem?_map] at h
  cases hp : ps[k]? with
  | none => rw [hp] at h; cases h
  | some e => rw [hp] at h; exact ⟨e, rfl, by simpa using h.symm⟩
theorem ins_nints {xs : List Int} {k j : Nat} (h : insR (rotLt xs) k (ordK xs k) = (ordK xs k).take j ++ k :: (ordK xs k).drop j) : nints (ordK xs (k + 1)) = (nints (ordK xs k)).take j ++ (k : Int) :: (nints (ordK xs k)).drop j := by
  rw [ordK, h]; simp [nints]
theorem take_all_snoc {xs : List Int} {k j e : Nat} {P : Nat → Prop} (h : ∀ e ∈ (ordK xs k).take j, P e) (he : (ordK xs k)[j]? = some e) (hp : P e) : ∀ e ∈ (ordK xs k).take (j + 1), P e := by
  rw [take_snoc' he]
  intro x hx
  rcases List.mem_append.1 hx with hx | hx
  · exact h x hx
  · simp at hx; subst hx; exact hp
theorem drop_all_snoc {xs : List Int} {k j e : Nat} {P : Nat → Prop} (hj : 0 < j) (h : ∀ e ∈ (ordK xs k).drop j, P e) (he : (ordK xs k)[j - 1]? = some e) (hp : P e) : ∀ e ∈ (ordK xs k).drop (j - 1), P e := by
  obtain ⟨hlt, hee⟩ := List.getElem?_eq_some_iff.1 he
  rw [List.drop_eq_getElem_cons hlt, hee, show j - 1 + 1 = j by omega]
  intro x hx
  rcases List.mem_cons.1 hx with rfl | hx
  · exact hp
  · exact h x hx
theorem ord_lt {xs : List Int} {k j e : Nat} (he : (ordK xs k)[j]? = some e) : e < k := ordK_mem.1 (List.mem_of_getElem? he)
theorem no_end {xs : List Int} {k j : Nat} (hj : k ≤ j) {e : Nat} (he : (ordK xs k)[j]? = some e) : False := by
  have := (List.getElem?_eq_some_iff.1 he).1
  rw [ordK_length] at this; omega
theorem goes {ys zs us : List Int} {j : Nat} {vs ts rs : List Int} {p : Int} (hz : zs = (ys.take ys.length).drop j) (hu : us = [] ++ zs) (ht : ts = ys.take j) (hv : vs = ts ++ [p]) (hr : rs = vs ++ us) {ps : List Int} (hp : ps = ys.take j ++ p :: ys.drop j) : rs = ps := by
  subst hp hr hv ht hu hz; simp
set_option maxHeartbeats 1000000 in
theorem l16Order_any (A : Option Addr) (c : Nat) (xs : List Int) (w : World) (hr : RI w A c xs) (hn : xs.length ≤ 1000000) :
    Calls Try.prog 30 #[.slice A xs.length c] w (PL w (nints (ordN xs))) := by
  go_enter Try.func30, Try.ntmps30
  go_wp2_with fail
  go_loopw [3, 4] (fun v i wr => ∃ (k : Nat) (A' : Option Addr) (c' : Nat) (ys : List Int), k ≤ xs.length ∧ i = .int .i64 k ∧ v = .slice A' ys.length c' ∧ Hid (ys = nints (ordK xs k)) ∧ ys.length ≤ k ∧ k ≤ ys.length ∧ OI wr w.heap.size A' c' ys ∧ Below w.heap.size w wr) (fun _ i _ => xs.length - (intOf i).toNat)
  case atStart => exact ⟨0, _, _, [], by omega, rfl, rfl, hid rfl, by simp, by simp, OI.empty w w.heap.size (Nat.le_refl _), below_new _ _⟩
  case round =>
    obtain ⟨k, A', c', ys, hk, rfl, rfl, hys, hl1, hl2, ho, hbw⟩ := hrel
    obtain ⟨wo, rfl⟩ : ∃ wo : World, wo = wr := ⟨_, rfl⟩
    have hrw := hr.below hbw
    by_cases hlt : k < xs.length
    · go_wp2_with fail
      go_loop [5] (fun t => ∃ j : Nat, j ≤ k ∧ t = .int .i64 j ∧ Hid (∀ e ∈ (ordK xs k).take j, rotLt xs e k = true)) (fun t => k - (intOf t).toNat)
      case atStart => exact ⟨0, by omega, rfl, hid (by simp)⟩
      case round =>
        obtain ⟨j, hj, rfl, hall⟩ := hrel
        by_cases hjl : j < k
        · obtain ⟨ad, y, rfl, HY, hc⟩ := ho.ri.get (k := j) (by omega)
          obtain ⟨e, he', rfl⟩ := nints_at (hys.out ▸ HY.out)
          have he := hid he'
          have hek := ord_lt he'
          clear he' HY
          go_wp2_with fail
          refine (l16Less_any _ _ _ _ _ _ hrw hn (by omega) (by omega)).mono ?_
          rintro _ w' ⟨b, hb, rfl, rfl⟩
          cases b
          · have HI := hid (insR_at (rotLt xs) k (ordK xs k) j hall.out (fun e' he' => by rw [he.out] at he'; injection he' with he'; rw [← he']; exact hb.out.symm))
            clear hc he hb
            obtain ⟨A', hA'⟩ : ∃ A', A' = some ad := ⟨_, rfl⟩
            rw [← hA'] at ho ⊢
            clear hA'
            go_upto_region 9 with (first | (refine wpl_cutI intT rfl _ _ _ rfl rfl (ho.ri.alloc _) j ys.length ⟨_, _, rfl, rfl⟩ rfl (by omega) (by omega) ?_; intro A3 c3 zs hz hr3 hb3 hlz1 hlz2) | (at_builtin; refine wpl_app (xs := []) intT rfl _ _ rfl rfl (OI.empty wo wo.heap.size (Nat.le_refl _)) rfl hr3 (by simp; omega) (by simp) ?_; intro A4 c4 w4 us hu ho4 hg4 hat4))
            have ho5 : OI w4 w.heap.size A' c' ys := OI.grown (ho.alloc _) hg4 (fun g hg e => by have := (OI.lt ho hg).2; simp [blk] at e; omega)
            have hbw4 := OI.belowOwn (below_on hbw (below_new _ _)) (OI.empty wo wo.heap.size (Nat.le_refl _)) hg4 hbw.size
            have hs4 := hg4.size
            simp at hs4
            have hsw := hbw.size
            have hlu : us.length ≤ zs.length := by rw [hu.out]; simp
            go_wp2_with (first | (refine wpl_takeO intT rfl _ _ rfl rfl ho5 j ⟨_, _, rfl, rfl⟩ (by omega) ?_; intro ts hts ho6 hlt1 hlt2) | (at_builtin; refine wpl_app (xs := vs) (ys := us) intT rfl _ _ rfl rfl ho7 rfl ho8.ri (by omega) (by omega) ?_; intro A9 c9 w9 rs hrs ho9 hg9 hat9) | (at_builtin; refine wpl_app (xs := ts) (ys := [(k : Int)]) intT rfl _ _ rfl rfl (ho6.alloc _) rfl (RI.one w4 k) (by simp; omega) (by simp; omega) ?_; intro A7 c7 w7 vs hv ho7 hg7 hat7; have ho8 := (ho4.alloc (.cells #[.int .i64 (k : Int)] 3)).keepBy hg7 (fun b hb => (OI.lt ho hb).2); have hs7 := hg7.size; simp at hs7; have hlv : vs.length ≤ ts.length + 1 := (by rw [hv.out]; simp)))
            have hbw7 := OI.belowOwn (below_on hbw4 (below_new _ _)) (ho6.alloc _) hg7 (Nat.le_refl _)
            have hbw9 := OI.belowOwn hbw7 ho7 hg9 (Nat.le_refl _)
            have HR : Hid (rs = nints (ordK xs (k + 1))) := goes hz.out hu.out hts.out hv.out hrs.out (by rw [ins_nints HI.out, ← hys.out])
            have hlr : rs.length ≤ k + 1 ∧ k + 1 ≤ rs.length := by rw [HR.out, nints_length, ordK_length]; omega
            go_roundw
            case rel => exact ⟨k + 1, A9, c9, rs, by omega, by go_num, rfl, HR, hlr.1, hlr.2, ho9, hbw9⟩
            case measure => simp [intOf]; omega
          · go_wp2_with fail
            go_round
            case rel => exact ⟨j + 1, by omega, by go_num, hid (take_all_snoc hall.out he.out hb.out.symm)⟩
            case measure => simp [intOf]; omega
        · have HI := hid (insR_at (rotLt xs) k (ordK xs k) j hall.out (fun e' he' => (no_end (by omega) he').elim))
          go_upto_region 9 with (first | (refine wpl_cutI intT rfl _ _ _ rfl rfl (ho.ri.alloc _) j ys.length ⟨_, _, rfl, rfl⟩ rfl (by omega) (by omega) ?_; intro A3 c3 zs hz hr3 hb3 hlz1 hlz2) | (at_builtin; refine wpl_app (xs := []) intT rfl _ _ rfl rfl (OI.empty wo wo.heap.size (Nat.le_refl _)) rfl hr3 (by simp; omega) (by simp) ?_; intro A4 c4 w4 us hu ho4 hg4 hat4))
          have ho5 : OI w4 w.heap.size A' c' ys := OI.grown (ho.alloc _) hg4 (fun g hg e => by have := (OI.lt ho hg).2; simp [blk] at e; omega)
          have hbw4 := OI.belowOwn (below_on hbw (below_new _ _)) (OI.empty wo wo.heap.size (Nat.le_refl _)) hg4 hbw.size
          have hs4 := hg4.size
          simp at hs4
          have hsw := hbw.size
          have hlu : us.length ≤ zs.length := by rw [hu.out]; simp
          go_wp2_with (first | (refine wpl_takeO intT rfl _ _ rfl rfl ho5 j ⟨_, _, rfl, rfl⟩ (by omega) ?_; intro ts hts ho6 hlt1 hlt2) | (at_builtin; refine wpl_app (xs := vs) (ys := us) intT rfl _ _ rfl rfl ho7 rfl ho8.ri (by omega) (by omega) ?_; intro A9 c9 w9 rs hrs ho9 hg9 hat9) | (at_builtin; refine wpl_app (xs := ts) (ys := [(k : Int)]) intT rfl _ _ rfl rfl (ho6.alloc _) rfl (RI.one w4 k) (by simp; omega) (by simp; omega) ?_; intro A7 c7 w7 vs hv ho7 hg7 hat7; have ho8 := (ho4.alloc (.cells #[.int .i64 (k : Int)] 3)).keepBy hg7 (fun b hb => (OI.lt ho hb).2); have hs7 := hg7.size; simp at hs7; have hlv : vs.length ≤ ts.length + 1 := (by rw [hv.out]; simp)))
          have hbw7 := OI.belowOwn (below_on hbw4 (below_new _ _)) (ho6.alloc _) hg7 (Nat.le_refl _)
          have hbw9 := OI.belowOwn hbw7 ho7 hg9 (Nat.le_refl _)
          have HR : Hid (rs = nints (ordK xs (k + 1))) := goes hz.out hu.out hts.out hv.out hrs.out (by rw [ins_nints HI.out, ← hys.out])
          have hlr : rs.length ≤ k + 1 ∧ k + 1 ≤ rs.length := by rw [HR.out, nints_length, ordK_length]; omega
          go_roundw
          case rel => exact ⟨k + 1, A9, c9, rs, by omega, by go_num, rfl, HR, hlr.1, hlr.2, ho9, hbw9⟩
          case measure => simp [intOf]; omega
    · go_wp2_with fail
      go_ret
      have e : k = xs.length := by omega
      subst e
      exact ⟨_, _, ys, hys, ho, rfl, hbw⟩
end Go.Proofs.Ytiaheikoifnbaaa
