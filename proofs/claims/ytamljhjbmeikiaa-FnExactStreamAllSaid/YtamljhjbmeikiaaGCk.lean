/- Joined texts: contracts and plain facts that the laws share. No condition. -/
import Derived.Test.YtamljhjbmeikiaaGCj
import Derived.Test.YtamljhjbmeikiaaGCa
import Derived.Test.YtamljhjbmeikiaaGPb
import Derived.Test.YtamljhjbmeikiaaGMa
import Derived.Test.YtamljhjbmeikiaaGCg
import Derived.Test.YtamljhjbmeikiaaGCb
/- Contracts: a number is read out of bytes. No condition. -/
namespace Go.Proofs.Ytamljhjbmeikiaa
open Go Go.RowKit
def PVg (w : World) (f : Option (Nat × Nat)) (e : Ending) (w' : World) : Prop :=
  ∃ (a b : Int) (ok : Bool), Hid (ok = f.isSome) ∧ Hid (ok = true → ∃ n l : Nat, f = some (n, l) ∧ a = n ∧ b = 1 + (l : Int)) ∧ e = .returned (.tuple #[.int .i64 a, .int .i64 b, .bool ok]) ∧ Below w.heap.size w w'
theorem PVg_no {w w1 : World} {f : Option (Nat × Nat)} {a b : Int} (hf : f = none) (hb : Below w.heap.size w w1) : PVg w f (.returned (.tuple #[.int .i64 a, .int .i64 b, .bool false])) w1 := by
  subst hf; exact ⟨a, b, false, hid rfl, hid (fun h => by cases h), rfl, hb⟩
theorem PVg_yes {w w1 : World} {f : Option (Nat × Nat)} {n l : Nat} {a b : Int} (hf : f = some (n, l)) (ha : a = n) (hb' : b = 1 + (l : Int)) (hb : Below w.heap.size w w1) : PVg w f (.returned (.tuple #[.int .i64 a, .int .i64 b, .bool true])) w1 := by
  subst hf; exact ⟨a, b, true, hid rfl, hid (fun _ => ⟨n, l, rfl, ha, hb'⟩), rfl, hb⟩
theorem varL_nat9 {m : Nat} (h : m ≤ 2097151) : varL (m : Int) = varR m := by unfold varL; rw [if_pos (inB_true.2 ⟨by omega, by omega⟩), Int.toNat_natCast]
theorem vg_or {v j S : Nat} {x : Int} (hj : j ≤ 2) (hS : S = 7 * j) (hv : v < 128 ^ j) : bits .or .i64 (v : Int) (wrap64 (x % 128 * 2 ^ S)) = ((v + (x % 128).toNat * 128 ^ j : Nat) : Int) := by
  obtain ⟨d, hd⟩ : ∃ d : Nat, x % 128 = (d : Int) := ⟨(x % 128).toNat, by omega⟩
  have hd1 : d < 128 := by omega
  rw [hd, Int.toNat_natCast]
  have key : ∀ i : Nat, v < 2 ^ i → i ≤ 14 → bits .or .i64 (v : Int) (wrap64 ((d : Int) * 2 ^ i)) = ((v + d * 2 ^ i : Nat) : Int) := fun i hi hi2 => by
    have h2 : 2 ^ i ≤ 2 ^ 14 := Nat.pow_le_pow_right (by decide) hi2
    have h3 : d * 2 ^ i ≤ 128 * 2 ^ 14 := Nat.mul_le_mul (by omega) h2
    have e : (d : Int) * 2 ^ i = ((d * 2 ^ i : Nat) : Int) := by rw [Int.natCast_mul, Int.natCast_pow]; rfl
    rw [e, IntWalk.wrap64_in _ (by omega), bits_or_nat _ _ (by omega) (by omega), Nat.or_comm, Nat.mul_comm d, ← Nat.two_pow_add_eq_or_of_lt hi]
    omega
  subst hS
  rcases (show j = 0 ∨ j = 1 ∨ j = 2 by omega) with rfl | rfl | rfl
  · exact key 0 hv (by omega)
  · exact key 7 hv (by omega)
  · exact key 14 hv (by omega)
theorem vg_next {ds : List Int} {v j : Nat} {x : Int} (hv : v = valK ds j) (hx : ds.getD j 0 = x) : v + (x % 128).toNat * 128 ^ j = valK ds (j + 1) := by rw [valK, hv, hx]
theorem vg_lt {v j : Nat} {x : Int} (hv : v < 128 ^ j) : v + (x % 128).toNat * 128 ^ j < 128 ^ (j + 1) := by
  have : (x % 128).toNat ≤ 127 := by omega
  have h2 : (x % 128).toNat * 128 ^ j ≤ 127 * 128 ^ j := Nat.mul_le_mul_right _ this
  rw [Nat.pow_succ]
  omega
theorem vg_top {V j : Nat} (hj : j ≤ 2) (h : V < 128 ^ (j + 1)) : V ≤ 2097151 := by
  have : 128 ^ (j + 1) ≤ 128 ^ 3 := Nat.pow_le_pow_right (by decide) (by omega)
  omega
theorem drop1_at {bs ds : List Int} {K j : Nat} {x : Int} (hd : ds = bs.drop 1) (hK : K = 1 + j) (h : bs[K]? = some x) : ds.getD j 0 = x ∧ j < ds.length := by
  subst hd
  subst hK
  have hl := (List.getElem?_eq_some_iff.1 h).1
  refine ⟨by rw [List.getD_eq_getElem?_getD, List.getElem?_drop, h]; rfl, by rw [List.length_drop]; omega⟩
theorem l2Same_len9 (A B : Option Addr) (c d n : Nat) (xs ys : List Int) (w : World) (hn : n = ys.length) (hr : RI w A c xs) (hs : RI w B d ys) :
    Calls Try.prog 79 #[.slice A xs.length c, .slice B n d] w (PBb w (decide (xs = ys))) := by
  subst hn; exact l2Same_any A B c d xs ys w hr hs
set_option maxHeartbeats 1000000 in
theorem VarGet_any (A : Option Addr) (c : Nat) (bs ds : List Int) (w : World) (HD : Hid (ds = bs.drop 1)) (hr : RI w A c bs) (hok : byOk bs = true) (h0 : 0 < bs.length) (hn : bs.length ≤ 1099511627776) : Calls Try.prog 88 #[.slice A bs.length c, .int .i64 1] w (PVg w (vgL ds)) := by
  go_enter Try.func88, Try.ntmps88
  go_wp2_with fail
  refine (bytesOk_any _ _ _ _ hr).mono ?_
  rintro e w' ⟨b, hb, rfl, rfl⟩
  obtain rfl : b = true := hb.out.trans hok
  have HB : Hid (∀ x ∈ bs, 0 ≤ x ∧ x ≤ 255) := hid (byOk_all.1 hok)
  go_wp2_with fail
  refine (within_any _ _ _ _).mono ?_
  rintro e w' ⟨b, hb2, rfl, rfl⟩
  obtain rfl : b = true := hb2.out.trans (inB_true.2 ⟨by omega, by omega⟩)
  clear hb hb2 hok
  go_wp2_with fail
  go_loop [7, 8, 9] (fun u s k => ∃ (j v S K : Nat), j ≤ 3 ∧ K ≤ 4 ∧ S ≤ 21 ∧ k = .int .i64 K ∧ s = .int .i64 S ∧ u = .int .i64 v ∧ Hid (K = 1 + j) ∧ Hid (S = 7 * j) ∧ Hid (v = valK ds j) ∧ Hid (vgL ds = vgG ds (3 - j) j) ∧ Hid (v < 128 ^ j)) (fun _ _ k => 8 - (intOf k).toNat)
  case atStart => exact ⟨0, 0, 0, 1, by omega, by omega, by omega, rfl, rfl, rfl, hid rfl, hid rfl, hid rfl, hid rfl, by simp [Hid]⟩
  case round =>
    obtain ⟨j, v, S, K, hj, hK4, hS21, rfl, rfl, rfl, hK, hS, hv, hg, hvb⟩ := hrel
    by_cases hlt : K < bs.length
    · have hl : (K : Int) < (bs.length : Int) := by omega
      by_cases hs : S ≤ 14
      · have hsI : (S : Int) ≤ 14 := by omega
        have hj2 : j ≤ 2 := by have := hS.out; omega
        obtain ⟨ad, x, rfl, HX, hcx⟩ := hr.get (k := K) hlt
        obtain ⟨hx0, hx1⟩ := HB.out x (List.mem_of_getElem? HX.out)
        obtain ⟨hxd, hjl⟩ := drop1_at HD.out hK.out HX.out
        have HXD := hid hxd
        have HJL := hid hjl
        have hor := vg_or (x := x) hj2 hS.out hvb.out
        have HV := hid (vg_next hv.out hxd)
        have HVB := hid (vg_lt (x := x) hvb.out)
        obtain ⟨V, hV⟩ : ∃ V, V = v + (x % 128).toNat * 128 ^ j := ⟨_, rfl⟩
        rw [← hV] at hor HV HVB
        have hV2 := vg_top hj2 HVB.out
        have hK3 : K ≤ 3 := by have := hK.out; omega
        clear hV hxd hjl
        go_upto_region 8 with fail
        clear hor
        by_cases hx128 : x < 128
        · have HG : Hid (vgL ds = if (varR V).length = j + 1 then some (V, j + 1) else none) := by
            unfold Hid
            rw [hg.out, show 3 - j = (2 - j) + 1 by omega, vgG_yes HJL.out (by rw [HXD.out]; exact hx128), ← HV.out]
          go_wp2_with fail
          refine (VarPut_any _ _).mono ?_
          rintro _ w2 ⟨A2, c2, vs, hvs, ho2, rfl, hb2⟩
          have HVS : Hid (vs = varR V) := by unfold Hid; rw [hvs.out, varL_nat9 hV2]
          by_cases he : vs.length = K
          · have hq : ((vs.length : Int) != (K : Int)) = false := by simp [he]
            have HF : Hid (vgL ds = some (V, j + 1)) := by unfold Hid; rw [HG.out, if_pos (by rw [← HVS.out, he, hK.out]; omega)]
            have HR : Hid ((K : Int) + 1 = 1 + ((j + 1 : Nat) : Int)) := by unfold Hid; have := hK.out; omega
            clear he
            go_wp2_with fail
            go_ret3
            exact PVg_yes HF.out rfl HR.out hb2
          · have hq : ((vs.length : Int) != (K : Int)) = true := by rw [bne_iff_ne]; omega
            have HF : Hid (vgL ds = none) := by unfold Hid; rw [HG.out, if_neg (by rw [← HVS.out]; have := hK.out; omega)]
            clear he
            go_wp2_with fail
            go_ret3
            exact PVg_no HF.out hb2
        · have HG : Hid (vgL ds = vgG ds (3 - (j + 1)) (j + 1)) := by
            unfold Hid
            rw [hg.out, show 3 - j = (2 - j) + 1 by omega, vgG_go HJL.out (by rw [HXD.out]; omega), show 3 - (j + 1) = 2 - j by omega]
          have HK : Hid (K + 1 = 1 + (j + 1)) := by unfold Hid; have := hK.out; omega
          have HS : Hid (S + 7 = 7 * (j + 1)) := by unfold Hid; have := hS.out; omega
          go_wp2_with fail
          go_round
          case rel => exact ⟨j + 1, V, S + 7, K + 1, by omega, by omega, by omega, by go_num, by go_num, rfl, HK, HS, HV, HG, HVB⟩
          case measure => simp [intOf]; omega
      · have hsI : ¬ (S : Int) ≤ 14 := by omega
        have HF : Hid (vgL ds = none) := by unfold Hid; rw [hg.out, show 3 - j = 0 by have := hS.out; omega]; rfl
        go_wp2_with fail
        go_ret3
        exact PVg_no HF.out (Below.refl _ _)
    · have hl : ¬ (K : Int) < (bs.length : Int) := by omega
      have HF : Hid (vgL ds = none) := by unfold Hid; rw [hg.out, vgG_no (by rw [HD.out, List.length_drop]; have := hK.out; omega)]
      go_wp2_with fail
      go_ret3
      exact PVg_no HF.out (Below.refl _ _)
set_option maxHeartbeats 1000000 in
theorem sVarGet_any (A : Option Addr) (c : Nat) (bs ds : List Int) (w : World) (HD : Hid (ds = bs.drop 1)) (hr : RI w A c bs) (hok : byOk bs = true) (h0 : 2 ≤ bs.length) (hn : bs.length ≤ 1099511627776) : Calls Try.prog 51 #[.slice A bs.length c, .int .i64 1] w (PVg w (vgL ds)) := by
  go_enter Try.func51, Try.ntmps51
  go_wp2_with fail
  refine (l1Bytes_any _ _ _ _ hr).mono ?_
  rintro e w' ⟨b, hb, rfl, rfl⟩
  obtain rfl : b = true := hb.out.trans hok
  have HOK := hid hok
  have HB : Hid (∀ x ∈ bs, 0 ≤ x ∧ x ≤ 255) := hid (byOk_all.1 hok)
  go_wp2_with fail
  refine (l6In_any _ _ _ _).mono ?_
  rintro e w' ⟨b, hb2, rfl, rfl⟩
  obtain rfl : b = true := hb2.out.trans (inB_true.2 ⟨by omega, by omega⟩)
  have hcap := hr.cap
  clear hb hb2 hok
  go_wp2_with fail
  go_loop [7, 8, 9] (fun u s k => ∃ (j v W K : Nat), j ≤ 3 ∧ K ≤ 4 ∧ 1 ≤ K ∧ W ≤ 2097152 ∧ k = .int .i64 K ∧ s = .int .i64 W ∧ u = .int .i64 v ∧ Hid (K = 1 + j) ∧ Hid (W = 128 ^ j) ∧ Hid (v = valK ds j) ∧ Hid (vgL ds = vgG ds (3 - j) j) ∧ Hid (v < 128 ^ j) ∧ Hid (∀ i, i < j → 128 ≤ ds.getD i 0)) (fun _ _ k => 8 - (intOf k).toNat)
  case atStart => exact ⟨0, 0, 1, 1, by omega, by omega, by omega, by omega, rfl, rfl, rfl, hid rfl, hid rfl, hid rfl, hid rfl, by simp [Hid], hid (fun i hi => by omega)⟩
  case round =>
    obtain ⟨j, v, W, K, hj, hK4, hK1, hW2, rfl, rfl, rfl, hK, hW, hv, hg, hvb, hbig⟩ := hrel
    by_cases hlt : K < bs.length
    · have hl : (K : Int) < (bs.length : Int) := by omega
      by_cases hs : K < 4
      · have hsI : (K : Int) < 4 := by omega
        have hj2 : j ≤ 2 := by have := hK.out; omega
        obtain ⟨ad, x, rfl, HX, hcx⟩ := hr.get (k := K) hlt
        obtain ⟨hx0, hx1⟩ := HB.out x (List.mem_of_getElem? HX.out)
        obtain ⟨hxd, hjl⟩ := drop1_at HD.out hK.out HX.out
        have HXD := hid hxd
        have HJL := hid hjl
        have HV := hid (vg_next hv.out hxd)
        have HVB := hid (vg_lt (x := x) hvb.out)
        obtain ⟨V, hV⟩ : ∃ V, V = v + (x % 128).toNat * 128 ^ j := ⟨_, rfl⟩
        have hmul : x % 128 * (W : Int) = ((V - v : Nat) : Int) := by
          rw [hV, hW.out, Nat.add_sub_cancel_left, Int.natCast_mul, Int.toNat_of_nonneg (by omega)]
        rw [← hV] at HV HVB
        have hV2 := vg_top hj2 HVB.out
        have hvV : v ≤ V := by omega
        have hadd : (v : Int) + ((V - v : Nat) : Int) = (V : Int) := by omega
        have hW3 : W ≤ 16384 := by
          rw [hW.out]
          exact Nat.le_trans (Nat.pow_le_pow_right (by decide) hj2) (by decide)
        have HW : Hid (128 * W = 128 ^ (j + 1)) := by unfold Hid; rw [hW.out, Nat.pow_succ, Nat.mul_comm]
        clear hV hxd hjl
        go_upto_region 10 with fail
        clear hmul hadd
        by_cases hx128 : x < 128
        · obtain ⟨hVb, hsame⟩ := vg_same (by have := HOK.out; exact byOk_all.2 fun y hy => byOk_all.1 this y (List.mem_of_mem_drop (by rw [← HD.out]; exact hy))) hj2 HJL.out hbig.out (by rw [HXD.out]; exact hx128)
          rw [← HV.out] at hVb hsame
          have HG : Hid (vgL ds = if varR V = ds.take (j + 1) then some (V, j + 1) else none) := by
            unfold Hid
            rw [hg.out, show 3 - j = (2 - j) + 1 by omega, vgG_yes HJL.out (by rw [HXD.out]; exact hx128), ← HV.out]
            by_cases he : varR V = ds.take (j + 1)
            · rw [if_pos he, if_pos (hsame.2 he)]
            · rw [if_neg he, if_neg (fun h => he (hsame.1 h))]
          obtain ⟨M, HM⟩ : ∃ M : Nat, Hid (M = K + 1) := ⟨_, hid rfl⟩
          have hM : IntKind.i64.wrap ((K : Int) + 1) = (M : Int) := by rw [HM.out]; exact IntWalk.i64_in _ (by omega)
          have hMl : M ≤ bs.length := by have := HM.out; omega
          have hMc : M ≤ c := by omega
          have hM1 : 1 ≤ M := by have := HM.out; omega
          have hrz := RI.cutAt (RI.takeAt hr (k := M) hMl) (k := 1) (by rw [List.length_take]; omega)
          rw [if_neg (show ¬ c = 1 by omega), Option.map_some, show ad.add 1 = ⟨ad.block, ad.off + 1, none⟩ by simp [Addr.add]] at hrz
          have hM1I : (1 : Int) ≤ (M : Int) := by omega
          have hc1 : ¬ c = 1 := by omega
          have HZL : Hid (M - 1 = ((bs.take M).drop 1).length) := by unfold Hid; rw [List.length_drop, List.length_take]; omega
          have HZ : Hid ((bs.take M).drop 1 = ds.take (j + 1)) := by unfold Hid; rw [HD.out, List.drop_take, HM.out, hK.out]; congr 1; omega
          have HVL : Hid (varL (V : Int) = varR V) := hid (varL_nat9 hVb)
          clear hsame hVb
          go_wp2_with fail
          go_region_law (first | (go_simp; go_at_call 79; refine (l2Same_len9 _ _ _ _ _ _ _ _ HZL.out ho2.ri (hrz.drew.below hb2)).mono ?_; rintro _ w3 ⟨b, hbe, rfl, hb3⟩) | (go_simp; go_at_call 87; refine (sVarPut_any _ _).mono ?_; rintro _ w2 ⟨A2, c2, vs, hvs, ho2, rfl, hb2⟩))
          have HVS : Hid (vs = varR V) := by unfold Hid; rw [hvs.out, HVL.out]
          have hbw3 := below_on ((Below.refl w.heap.size w).drew.trans hb2) hb3
          clear hvs ho2 hb2 hb3 hrz
          by_cases he : varR V = ds.take (j + 1)
          · obtain rfl : b = true := hbe.out.trans (by rw [HVS.out, HZ.out]; simp [he])
            have HF : Hid (vgL ds = some (V, j + 1)) := by unfold Hid; rw [HG.out, if_pos he]
            have HR : Hid ((M : Int) = 1 + ((j + 1 : Nat) : Int)) := by unfold Hid; have := hK.out; have := HM.out; omega
            clear he
            go_wp2_with fail
            go_ret3
            exact PVg_yes HF.out rfl HR.out hbw3
          · obtain rfl : b = false := hbe.out.trans (by rw [HVS.out, HZ.out]; simp [he])
            have HF : Hid (vgL ds = none) := by unfold Hid; rw [HG.out, if_neg he]
            clear he
            go_wp2_with fail
            go_ret3
            exact PVg_no HF.out hbw3
        · have HG : Hid (vgL ds = vgG ds (3 - (j + 1)) (j + 1)) := by
            unfold Hid
            rw [hg.out, show 3 - j = (2 - j) + 1 by omega, vgG_go HJL.out (by rw [HXD.out]; omega), show 3 - (j + 1) = 2 - j by omega]
          have HK : Hid (K + 1 = 1 + (j + 1)) := by unfold Hid; have := hK.out; omega
          have HBG : Hid (∀ i, i < j + 1 → 128 ≤ ds.getD i 0) := hid fun i hi => by
            rcases (show i < j ∨ i = j by omega) with h | rfl
            · exact hbig.out i h
            · rw [HXD.out]; omega
          go_wp2_with fail
          go_round
          case rel => exact ⟨j + 1, V, 128 * W, K + 1, by omega, by omega, by omega, by omega, by go_num, by go_num, rfl, HK, HW, HV, HG, HVB, HBG⟩
          case measure => simp [intOf]; omega
      · have hsI : ¬ (K : Int) < 4 := by omega
        have HF : Hid (vgL ds = none) := by unfold Hid; rw [hg.out, show 3 - j = 0 by have := hK.out; omega]; rfl
        go_wp2_with fail
        go_ret3
        exact PVg_no HF.out (Below.refl _ _)
    · have hl : ¬ (K : Int) < (bs.length : Int) := by omega
      have HF : Hid (vgL ds = none) := by unfold Hid; rw [hg.out, vgG_no (by rw [HD.out, List.length_drop]; have := hK.out; omega)]
      go_wp2_with fail
      go_ret3
      exact PVg_no HF.out (Below.refl _ _)
end Go.Proofs.Ytamljhjbmeikiaa
/- Contracts: a frame's blocks are read. No condition. -/
namespace Go.Proofs.Ytamljhjbmeikiaa
open Go Go.RowKit
theorem results_tmp4 {fn : Func} {t u v x : Tmp} (h : fn.results = #[.tmp t, .tmp u, .tmp v, .tmp x]) (tmps : Array Value) (P : Program) (w : World) :
    (results fn tmps).run P w = .ok (.tuple #[tmps.getD t undef, tmps.getD u undef, tmps.getD v undef, tmps.getD x undef]) w := by
  simp [results, h]
/-- Blocks of a frame: a list and how many bytes it has, with the list's slice. -/
abbrev Bk := (List Int × Int) × Option Addr × Nat
def eBk : Enc Bk := ⟨fun x => [.slice x.2.1 x.1.1.length x.2.2, .int .i64 x.1.2], 2, fun _ => rfl, by intro x u hu; simp at hu; rcases hu with rfl | rfl <;> rfl⟩
def lsB (xs : List Bk) : List (List Int) := xs.map fun x => x.1.1
/-- The lists lie in memory of the call's own, apart from the blocks themselves. -/
def inn (w : World) (base : Nat) (E : Option Addr) (xs : List Bk) : Prop := ∀ x ∈ xs, OI w base x.2.1 x.2.2 x.1.1 ∧ ∀ b, blk x.2.1 = some b → blk E ≠ some b
theorem inn.below {w w' : World} {base : Nat} {E : Option Addr} {xs : List Bk} (h : inn w base E xs) (hb : Below w.heap.size w w') : inn w' base E xs := fun x hx => ⟨(h x hx).1.below hb, (h x hx).2⟩
theorem inn.grown {w w' : World} {base : Nat} {E E' : Option Addr} {xs : List Bk} (h : inn w base E xs) (hg : w.grownBy w' (blk E)) (hat : blk E' = blk E ∨ blk E' = some w.heap.size) : inn w' base E' xs := fun x hx =>
  ⟨OI.grown (h x hx).1 hg (fun g hg' e => (h x hx).2 g hg' e), fun b hb e => by
    rcases hat with h1 | h1
    · exact (h x hx).2 b hb (by rw [← h1]; exact e)
    · have := (OI.lt (h x hx).1 hb).2
      rw [h1] at e
      injection e
      omega⟩
theorem inn.snoc {w : World} {base : Nat} {E : Option Addr} {xs : List Bk} (h : inn w base E xs) {x : Bk} (ho : OI w base x.2.1 x.2.2 x.1.1) (hd : ∀ b, blk x.2.1 = some b → blk E ≠ some b) : inn w base E (xs ++ [x]) := fun y hy => by
  rcases List.mem_append.1 hy with hy | hy
  · exact h y hy
  · simp at hy; subst hy; exact ⟨ho, hd⟩
theorem bkAt {w : World} {c : Nat} {ad : Addr} {xs : List Bk} (h : RS eBk w (some ad) c xs) {k : Nat} {m : Bk} (hm : xs[k]? = some m) :
    w.cell? (ad.add (k * 2)) = some (.slice m.2.1 m.1.1.length m.2.2) ∧ w.cell? ⟨(ad.add (k * 2)).block, (ad.add (k * 2)).off + 1, none⟩ = some (.int .i64 m.1.2) := by
  obtain ⟨ad', e, _, hc⟩ := RS.at_ h hm (by decide)
  injection e with e
  subst e
  have c0 := hc 0 (by decide)
  have c1 := hc 1 (by decide)
  have e1 : ad.add (k * eBk.sz + 1) = ⟨(ad.add (k * 2)).block, (ad.add (k * 2)).off + 1, none⟩ := add_field ad (k * 2) (by decide)
  rw [e1] at c1
  exact ⟨c0, c1⟩
theorem BlockOpen_of (A : Option Addr) (c : Nat) (zs bs : List Int) (w : World) (hz : zs = bs) (hr : RI w A c zs) : Calls Try.prog 12 #[.slice A zs.length c] w (PLNB w (opR (opF bs))) := by
  subst hz; exact BlockOpen_any A c zs w hr
theorem opR_case (f : Option (List Int × Nat)) {ys : List Int} {n : Int} {ok : Bool} (h1 : ys = (opR f).1) (h2 : n = (opR f).2.1) (h3 : ok = (opR f).2.2) : (f = none ∧ ok = false) ∨ ∃ N : Nat, f = some (ys, N) ∧ n = (N : Int) ∧ ok = true := by
  cases f with
  | none => exact .inl ⟨rfl, h3⟩
  | some r =>
    obtain ⟨l, N⟩ := r
    subst h1; subst h2; subst h3
    exact .inr ⟨N, rfl, rfl, rfl⟩
theorem frP_no {bs : List Int} (h : ¬ (byOk bs = true ∧ 0 < bs.length ∧ bs.getD 0 0 = 90)) : frP bs = none := by unfold frP; rw [if_neg h]
theorem frP_on {bs ds : List Int} (h : byOk bs = true ∧ 0 < bs.length ∧ bs.getD 0 0 = 90) (hd : ds = bs.drop 1) : frP bs = match vgL ds with
    | none => none
    | some (m, l) => if 120 < m then none else match fb bs (1 + l) m with
      | none => none
      | some (ls, e) => if bs.length = e + 2 then some (ls, e) else none := by subst hd; unfold frP; rw [if_pos h]; rfl
/-- What the reading of a frame answers. -/
def PFrame (w : World) (bs : List Int) (e : Ending) (w' : World) : Prop :=
  (Hid (frP bs = none) ∧ e = .returned (.tuple #[.slice none 0 0, .int .i64 0, .int .i64 0, .bool false]) ∧ Below w.heap.size w w') ∨
  ∃ (E : Option Addr) (c : Nat) (xs : List Bk) (p : Nat) (u v : Int), Hid (frP bs = some (lsB xs, p)) ∧ xs.length ≤ 120 ∧ RS eBk w' E c xs ∧ Hid (inn w' w.heap.size E xs) ∧ Hid (u = bs.getD p 0 ∧ v = bs.getD (p + 1) 0) ∧
    e = .returned (.tuple #[.slice E xs.length c, .int .i64 u, .int .i64 v, .bool true]) ∧ Below w.heap.size w w'
theorem bkT : SlT Try.prog 64 68 2 32 (.agg #[.slice none 0 0, .int .i64 0]) :=
  ⟨Try.underlying64, info_parts (by kernel_rfl), rfl, by omega⟩
set_option maxRecDepth 100000 in
set_option maxHeartbeats 2000000 in
theorem frame_any (A : Option Addr) (c : Nat) (bs : List Int) (w : World) (hr : RI w A c bs) (hn : bs.length ≤ 1099511627776) : Calls Try.prog 53 #[.slice A bs.length c] w (PFrame w bs) := by
  go_enter Try.func53, Try.ntmps53
  go_wp2_with fail
  refine (bytesOk_any _ _ _ _ hr).mono ?_
  rintro e w' ⟨b, hb, rfl, rfl⟩
  by_cases hok : byOk bs = true
  rotate_left
  · obtain rfl : b = false := hb.out.trans (by simpa using hok)
    have HF : Hid (frP bs = none) := hid (frP_no (fun h => hok h.1))
    clear hok
    go_wp2_with fail
    (try simp only [Exit.inBlock, Exit.then]); refine bodyPost_ret (results_tmp4 rfl _ _ _) rfl ?_
    exact .inl ⟨HF, rfl, Below.refl _ _⟩
  obtain rfl : b = true := hb.out.trans hok
  have HOK := hid hok
  clear hok hb
  by_cases h0 : bs.length = 0
  · have hq0 : ((bs.length : Int) == 0) = true := by simp [h0]
    have HF : Hid (frP bs = none) := hid (frP_no (fun h => by omega))
    clear h0
    go_wp2_with fail
    (try simp only [Exit.inBlock, Exit.then]); refine bodyPost_ret (results_tmp4 rfl _ _ _) rfl ?_
    exact .inl ⟨HF, rfl, Below.refl _ _⟩
  have hq0 : ((bs.length : Int) == 0) = false := by rw [beq_eq_false_iff_ne]; omega
  have hpos : 0 < bs.length := by omega
  have hposI : (0 : Int) < (bs.length : Int) := by omega
  have hcap := hr.cap
  obtain ⟨x, hx⟩ : ∃ x, bs[0]? = some x := ⟨_, List.getElem?_eq_getElem hpos⟩
  have hcx : ∃ ad, A = some ad ∧ w.cell? ad = some (.int .i64 x) := by
    obtain ⟨ad, x', h1, HX, h2⟩ := hr.get (k := 0) hpos
    obtain rfl := Option.some.inj (hx.symm.trans HX.out)
    rw [add0] at h2
    exact ⟨ad, h1, h2⟩
  obtain ⟨ad, rfl, hcx⟩ := hcx
  have hx0 := getD_hid hx
  by_cases h90 : x = 90
  rotate_left
  · have hq : (x != 90) = true := by rw [bne_iff_ne]; exact h90
    have HF : Hid (frP bs = none) := hid (frP_no (fun h => h90 (hx0.symm.trans h.2.2)))
    clear h0 hx hx0 h90
    go_wp2_with fail
    (try simp only [Exit.inBlock, Exit.then]); refine bodyPost_ret (results_tmp4 rfl _ _ _) rfl ?_
    exact .inl ⟨HF, rfl, Below.refl _ _⟩
  subst h90
  obtain ⟨ds, HD⟩ : ∃ ds, Hid (ds = bs.drop 1) := ⟨_, hid rfl⟩
  have HF := hid (frP_on ⟨HOK.out, hpos, hx0⟩ HD.out)
  clear h0 hx hx0
  go_wp2_with fail
  refine (VarGet_any _ _ bs ds _ HD hr HOK.out hpos hn).mono ?_
  rintro _ w1 ⟨m, a, ok, hokv, hsv, rfl, hb1⟩
  cases ok with
  | false =>
    have HN : Hid (frP bs = none) := by
      unfold Hid
      rw [HF.out]
      cases h : vgL ds with
      | none => rfl
      | some r => have := hokv.out; rw [h] at this; cases this
    go_wp2_with fail
    (try simp only [Exit.inBlock, Exit.then]); refine bodyPost_ret (results_tmp4 rfl _ _ _) rfl ?_
    exact .inl ⟨HN, rfl, hb1⟩
  | true =>
  obtain ⟨M, l, hvg, rfl, ha⟩ := hsv.out rfl
  have HV := hid hvg
  have hbl := vg_is (byOk_all.2 fun y hy => byOk_all.1 HOK.out y (List.mem_of_mem_drop (by rw [← HD.out]; exact hy))) hvg
  have hll : 1 + l ≤ bs.length := by
    have h1 := congrArg List.length hbl.2.2
    have h2 := congrArg List.length HD.out
    rw [List.length_append, List.length_drop, ← hbl.2.1] at h1
    rw [List.length_drop] at h2
    have := (varR_len hbl.1).1
    omega
  obtain ⟨a0, Ha0⟩ : ∃ a0, Hid (a0 = 1 + l) := ⟨_, hid rfl⟩
  obtain rfl : a = (a0 : Int) := by rw [ha, Ha0.out]; omega
  have hal : a0 ≤ bs.length := by rw [Ha0.out]; exact hll
  by_cases hm : 120 < M
  · have hg : (M : Int) > 120 := by omega
    have HN : Hid (frP bs = none) := by unfold Hid; rw [HF.out, HV.out]; simp only; rw [if_pos hm]
    clear hokv hsv hvg ha hbl hll
    go_wp2_with fail
    (try simp only [Exit.inBlock, Exit.then]); refine bodyPost_ret (results_tmp4 rfl _ _ _) rfl ?_
    exact .inl ⟨HN, rfl, hb1⟩
  have hg : ¬ (M : Int) > 120 := by omega
  have HF2 : Hid (frP bs = match fb bs a0 M with
      | none => none
      | some (ls, e) => if bs.length = e + 2 then some (ls, e) else none) := by unfold Hid; rw [HF.out, HV.out]; simp only; rw [if_neg hm, Ha0.out]
  clear hokv hsv hvg ha hbl hll HF
  have hr1 := hr.below hb1
  have hoe := OS.empty eBk w1 w.heap.size 68 hb1.size
  have hbe := below_on hb1 (below_new w1 (.cells #[] 68))
  go_wp2_with fail
  go_loopw [7, 9, 41] (fun t v i wr => ∃ (k a : Nat) (E : Option Addr) (cE : Nat) (xs : List Bk), k ≤ M ∧ i = .int .i64 k ∧ t = .int .i64 a ∧ a ≤ bs.length ∧ v = .slice E xs.length cE ∧ Hid (fb bs a0 k = some (lsB xs, a)) ∧ xs.length ≤ k ∧ OS eBk wr w.heap.size 68 E cE xs ∧ Hid (inn wr w.heap.size E xs) ∧ Below w.heap.size w wr) (fun _ _ i _ => M - (intOf i).toNat)
  case atStart => exact ⟨0, a0, _, _, [], by omega, rfl, rfl, hal, rfl, hid rfl, by simp, hoe, hid (fun x hx => by simp at hx), hbe⟩
  case round =>
    clear hoe hbe hr1
    obtain ⟨k, a, E, cE, xs, hk, rfl, rfl, hal2, rfl, hfb, hxl, ho, HI, hbw⟩ := hrel
    obtain ⟨wo, rfl⟩ : ∃ wo : World, wo = wr := ⟨_, rfl⟩
    have hwz := hbw.size
    by_cases hlt : k < M
    · have hkI : (k : Int) < (M : Int) := by omega
      go_wp2_with (first | (refine wpl_cutI intT rfl _ _ _ rfl rfl (hr.below hbw) a bs.length ⟨_, _, rfl, rfl⟩ rfl hal2 (Nat.le_refl _) ?_; intro A3 c3 zs hzs hr3 hb3 hlz1 hlz2))
      have HZ : Hid (zs = bs.drop a) := by unfold Hid; rw [hzs.out, List.take_of_length_le (Nat.le_refl _)]
      refine (BlockOpen_of _ _ zs _ _ HZ.out hr3).mono ?_
      rintro _ w2 ⟨A2, c2, ys, n, ok, hys, hn2, hok2, ho2, rfl, hb2⟩
      have hdis : ∀ b, blk A2 = some b → blk E ≠ some b := fun b h1 h2 => by
        have h3 := (OI.lt ho2 h1).1
        have h4 := (OS.lt ho h2).2
        omega
      rcases opR_case _ hys.out hn2.out hok2.out with ⟨hop, rfl⟩ | ⟨N, hop, rfl, rfl⟩
      · have HN : Hid (frP bs = none) := by unfold Hid; rw [HF2.out, fb_no (fb_stop hfb.out hop) (by omega)]
        clear hys hn2 hok2 hop hzs hr3 hb3
        go_wp2_with fail
        (try simp only [Exit.inBlock, Exit.then]); refine bodyPost_ret (results_tmp4 rfl _ _ _) rfl ?_
        exact .inl ⟨HN, rfl, below_on hbw hb2⟩
      · have HFB := hid (fb_step hfb.out hop)
        obtain ⟨bb, -, -, -, -, hNl, -, -⟩ := op_split hop
        have haN : a + N ≤ bs.length := by rw [List.length_drop] at hNl; omega
        clear hys hn2 hok2 hop hzs hr3 hb3 hNl
        have hI2 := HI.out.below hb2
        have hos := ho.below hb2
        have hod := ho2
        go_wp2_with (at_builtin; refine wpl_appS2 bkT rfl _ _ rfl xs rfl rfl (hos.alloc _) [((ys, (N : Int)), A2, c2)] rfl rfl (OS.one eBk w2 w2.heap.size 68 ((ys, (N : Int)), A2, c2) _ rfl (Nat.le_refl _)).rs (by simp; omega) (by omega) (by have := hb2.size; simp; omega) ?_; intro E3 c3 w3 us hu ho3 hg3 hat3; have hat4 := hid hat3; clear hat3)
        have hbw3 := OS.belowOwn (below_on (below_on hbw hb2) (below_new w2 _)) (hos.alloc _) hg3 (Nat.le_refl _)
        have hI4 := (hI2.below (below_new w2 (.cells #[.slice A2 ys.length c2, .int .i64 (N : Int)] 68))).grown hg3 hat4.out
        have ho4 : OI w3 w.heap.size A2 c2 ys := OI.grown ((ho2.mono hwz).alloc (.cells #[.slice A2 ys.length c2, .int .i64 (N : Int)] 68)) hg3 (fun g hg e => hdis g hg e)
        have HU : Hid (inn w3 w.heap.size E3 us) := by
          unfold Hid
          rw [hu.out]
          refine hI4.snoc ho4 fun b h1 h2 => ?_
          rcases hat4.out with h | h
          · exact hdis b h1 (by rw [← h]; exact h2)
          · have h3 := (OI.lt ho2 h1).2
            rw [h] at h2
            injection h2 with h2
            simp at h2
            omega
        have HL : Hid (fb bs a0 (k + 1) = some (lsB us, a + N)) := by unfold Hid; rw [HFB.out, hu.out]; simp [lsB]
        have hul : us.length ≤ k + 1 := by rw [hu.out]; simp; omega
        clear ho ho2 hod hos hI2 hI4 ho4 hu hg3 hat4 hbw hb2 hdis HFB
        go_roundw
        case rel => exact ⟨k + 1, a + N, E3, c3, us, by omega, by go_num, by go_num, haN, rfl, HL, hul, ho3, HU, hbw3⟩
        case measure => simp [intOf]; omega
    · have hkI : ¬ (k : Int) < (M : Int) := by omega
      have HL : Hid (fb bs a0 M = some (lsB xs, a)) := by unfold Hid; rw [show M = k by omega]; exact hfb.out
      have hsub : IntKind.i64.wrap ((bs.length : Int) - (a : Int)) = (bs.length : Int) - (a : Int) := IntWalk.i64_in _ (by omega)
      clear hfb
      by_cases he : bs.length = a + 2
      · have hq : ((bs.length : Int) - (a : Int) != 2) = false := by rw [bne_eq_false_iff_eq]; omega
        have HN : Hid (frP bs = some (lsB xs, a)) := by unfold Hid; rw [HF2.out, HL.out]; simp only; rw [if_pos he]
        obtain ⟨P, HP⟩ : ∃ P : Nat, Hid (P = a + 1) := ⟨_, hid rfl⟩
        have hPw : IntKind.i64.wrap ((a : Int) + 1) = (P : Int) := by rw [HP.out]; exact IntWalk.i64_in _ (by omega)
        have hPl : P < bs.length := by have := HP.out; omega
        have hPlI : (P : Int) < (bs.length : Int) := by omega
        have hall : a < bs.length := by omega
        have hallI : (a : Int) < (bs.length : Int) := by omega
        obtain ⟨u, hu⟩ : ∃ u, bs[a]? = some u := ⟨_, List.getElem?_eq_getElem hall⟩
        obtain ⟨v, hv⟩ : ∃ v, bs[P]? = some v := ⟨_, List.getElem?_eq_getElem hPl⟩
        have hcu := RI.cellAt (hr.below hbw) hu
        have hcv := RI.cellAt (hr.below hbw) hv
        have HUV : Hid (u = bs.getD a 0 ∧ v = bs.getD (a + 1) 0) := hid ⟨(getD_hid hu).symm, by rw [← HP.out]; exact (getD_hid hv).symm⟩
        clear he hu hv
        go_wp2_with fail
        go_quiet (fail)
        have hbq : Below wo.heap.size wo (wo.drewN nq) := below_drewN (Below.refl _ _) _
        go_wp2_with fail
        (try simp only [Exit.inBlock, Exit.then]); refine bodyPost_ret (results_tmp4 rfl _ _ _) rfl ?_
        exact .inr ⟨E, cE, xs, a, u, v, HN, by omega, ho.rs.below hbq, hid (HI.out.below hbq), HUV, rfl, below_drewN hbw _⟩
      · have hq : ((bs.length : Int) - (a : Int) != 2) = true := by rw [bne_iff_ne]; omega
        have HN : Hid (frP bs = none) := by unfold Hid; rw [HF2.out, HL.out]; simp only; rw [if_neg he]
        clear he
        go_wp2_with fail
        (try simp only [Exit.inBlock, Exit.then]); refine bodyPost_ret (results_tmp4 rfl _ _ _) rfl ?_
        exact .inl ⟨HN, rfl, hbw⟩
end Go.Proofs.Ytamljhjbmeikiaa
