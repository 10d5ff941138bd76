/- Joined texts: contracts and plain facts that the laws share. No condition. -/
import Derived.Test.YtamljhjbmeikiaaGMa
import Derived.Test.YtamljhjbmeikiaaGCf
import Derived.Test.YtamljhjbmeikiaaGCe
import Derived.Test.YtamljhjbmeikiaaGCc
/- The post of a list, a number and whether. No condition. -/
namespace Go.Proofs.Ytamljhjbmeikiaa
open Go Go.RowKit
/-- The post of a call that answers an own slice, a number and whether. -/
def PLNB (w : World) (f : List Int × Int × Bool) (e : Ending) (w' : World) : Prop :=
  ∃ A c ys n b, Hid (ys = f.1) ∧ Hid (n = f.2.1) ∧ Hid (b = f.2.2) ∧ OI w' w.heap.size A c ys ∧ e = .returned (.tuple #[.slice A ys.length c, .int .i64 n, .bool b]) ∧ Below w.heap.size w w'
end Go.Proofs.Ytamljhjbmeikiaa
/- Contracts: a block's list is read. No condition. -/
namespace Go.Proofs.Ytamljhjbmeikiaa
open Go Go.RowKit
/-- What the reading answers: a list that can be read, and whether it is one. -/
def PIn (w : World) (f : Option (List Int)) (e : Ending) (w' : World) : Prop :=
  ∃ A c ys b, Hid (b = f.isSome) ∧ Hid (b = true → f = some ys) ∧ RI w' A c ys ∧ e = .returned (.tuple #[.slice A ys.length c, .bool b]) ∧ Below w.heap.size w w'
theorem PIn_none {w w1 : World} {f : Option (List Int)} (hf : f = none) (hb : Below w.heap.size w w1) : PIn w f (.returned (.tuple #[.slice none 0 0, .bool false])) w1 :=
  ⟨none, 0, [], false, by simp [Hid, hf], hid (fun h => absurd h (by decide)), RG.nil w1 1 none 0 (by unfold maxLen; omega), rfl, hb⟩
theorem PIn_some {w w1 : World} {f : Option (List Int)} {A : Option Addr} {c : Nat} {ys : List Int} (hf : f = some ys) (hr : RI w1 A c ys) (hb : Below w.heap.size w w1) : PIn w f (.returned (.tuple #[.slice A ys.length c, .bool true])) w1 :=
  ⟨A, c, ys, true, by simp [Hid, hf], hid (fun _ => hf), hr, rfl, hb⟩
theorem PIn_PLB {w w0 w1 : World} {f g : Option (List Int)} {A : Option Addr} {c : Nat} {ys : List Int} {b : Bool} {base : Nat} (hfg : f = g) (hys : ys = g.getD []) (hb : b = g.isSome) (ho : OI w1 base A c ys) (hbw : Below w.heap.size w w1) (_ : w0 = w0) : PIn w f (.returned (.tuple #[.slice A ys.length c, .bool b])) w1 := by
  subst hfg
  refine ⟨A, c, ys, b, hb, hid (fun h => ?_), ho.ri, rfl, hbw⟩
  cases f with
  | none => rw [hb] at h; cases h
  | some l => rw [hys]; rfl
/-- The first two bytes. -/
theorem two_of {bs : List Int} (h : 2 ≤ bs.length) : ∃ x y, bs[0]? = some x ∧ bs[1]? = some y := ⟨_, _, List.getElem?_eq_getElem (by omega), List.getElem?_eq_getElem (by omega)⟩
theorem pairs_snoc (rs : List Int) (k : Nat) : pairsOf rs (k + 1) = pairsOf rs k ++ [(rs.getD (2 * k) 0, rs.getD (2 * k + 1) 0)] := by unfold pairsOf; rw [List.range_succ, List.map_append]; rfl
theorem firstBits_len (A : Option Addr) (c n : Nat) (bs : List Int) (w : World) (hn : n = bs.length) (hr : RI w A c bs) (hok : byOk bs = true) : Calls Try.prog 68 #[.slice A n c] w (PL w (bytesBits (bs.take 40))) := by
  subst hn; exact firstBits_any A c bs w hr hok
theorem lengthsIn4_len (A : Option Addr) (c n : Nat) (bs : List Int) (w : World) (hn : n = bs.length) (hr : RI w A c bs) (hok : byOk bs = true) (hl : bs.length ≤ 1000) : Calls Try.prog 69 #[.slice A n c] w (PL w (halves bs)) := by
  subst hn; exact lengthsIn4_any A c bs w hr hok hl
theorem PIn_dec {w w1 : World} {f : Option (List Int)} {g : Option (List Int × Nat)} {A : Option Addr} {c a : Nat} {ys : List Int} {b : Bool} (hf : f = g.map Prod.fst) (hb : b = g.isSome) (hys : b = true → g = some (ys, a)) (hr : RI w1 A c ys) (hbw : Below w.heap.size w w1) : PIn w f (.returned (.tuple #[.slice A ys.length c, .bool b])) w1 :=
  ⟨A, c, ys, b, by unfold Hid; rw [hb, hf]; simp, hid (fun h => by rw [hf, hys h]; rfl), hr, rfl, hbw⟩
theorem pairs_length (rs : List Int) (k : Nat) : (pairsOf rs k).length = k := by simp [pairsOf]
set_option maxRecDepth 100000 in
set_option maxHeartbeats 2000000 in
theorem listIn_w0 (A : Option Addr) (c : Nat) (bs : List Int) (w : World) (hr : RI w A c bs) (hok : byOk bs = true) (h2 : 2 ≤ bs.length) (hw : bs.getD 0 0 = 0) : Calls Try.prog 39 #[.slice A bs.length c] w (PIn w (inI bs)) := by
  obtain ⟨x, y, hx, hy⟩ := two_of h2
  obtain rfl : x = 0 := by rw [← hw, getD_hid hx]
  obtain ⟨hy0, hy1⟩ := byOk_at hok hy
  obtain ⟨n, rfl⟩ := Int.eq_ofNat_of_zero_le hy0
  have hn : n ≤ 255 := by omega
  obtain ⟨ad, _, rfl, HX, hcx⟩ := hr.get (k := 0) (by omega)
  obtain rfl := Option.some.inj (hx.symm.trans HX.out)
  have hcy := RI.cellAt hr hy
  have hcap := hr.cap
  have hbig := hr.big
  unfold maxLen at hbig
  obtain ⟨rs, hrs⟩ : ∃ rs, rs = bs.drop 2 := ⟨_, rfl⟩
  have HRB : Hid (∀ x ∈ rs, 0 ≤ x ∧ x ≤ 255) := hid fun x hx => by
    rw [hrs] at hx
    exact byOk_all.1 hok x (List.mem_of_mem_drop hx)
  have HI : Hid (inI bs = if rs.length < n then none else some (rs.take n)) := by
    unfold Hid inI
    rw [if_pos hw, getD_hid hy, hrs]; rfl
  have hlb : (2 : Int) ≤ (bs.length : Int) := by omega
  have hlb1 : (1 : Int) < (bs.length : Int) := by omega
  have hlb0 : (0 : Int) < (bs.length : Int) := by omega
  rw [add0] at hcx
  have e1 : ad.add 1 = ⟨ad.block, ad.off + 1, none⟩ := by simp [Addr.add]
  rw [e1] at hcy
  have hrest := RI.cutAt hr h2
  have e2 : ad.add 2 = ⟨ad.block, ad.off + 2, none⟩ := by simp [Addr.add]
  rw [Option.map_some, e2, ← hrs] at hrest
  have hdl : rs.length = bs.length - 2 := by rw [hrs]; simp
  skip
  clear hx hy hy0 hy1 hok e1 e2 hrs
  go_enter Try.func39, Try.ntmps39
  go_wp2_with fail
  go_quiet (fail)
  have hbw : Below w.heap.size w (w.drewN nq) := below_drewN (Below.refl _ _) _
  have hrest1 := hrest.below hbw
  generalize w.drewN nq = w1 at *
  generalize (if c = 2 then some ad else _) = R at *
  rw [← hdl]
  have hrl : rs.length ≤ bs.length := by omega
  clear hdl hcx hcy
  by_cases hlt : rs.length < n
  · have hg : (n : Int) > (rs.length : Int) := by omega
    have HF : Hid (inI bs = none) := by unfold Hid; rw [HI.out, if_pos hlt]
    go_wp2_with fail
    go_ret2
    exact PIn_none HF.out hbw
  · have hg : ¬ (n : Int) > (rs.length : Int) := by omega
    have HF : Hid (inI bs = some (rs.take n)) := by unfold Hid; rw [HI.out, if_neg hlt]
    go_wp2_with (refine wpl_cutI intT rfl _ _ _ rfl rfl hrest1 0 n rfl ⟨_, _, rfl, rfl⟩ (by omega) (by omega) ?_; intro A3 c3 zs hz hr3 hb3 hlz1 hlz2)
    have HZ : Hid (inI bs = some zs) := by unfold Hid; rw [HF.out, hz.out, List.drop_zero]
    go_ret2
    exact PIn_some HZ.out hr3 hbw
set_option maxRecDepth 100000 in
set_option maxHeartbeats 2000000 in
theorem listIn_w1 (A : Option Addr) (c : Nat) (bs : List Int) (w : World) (hr : RI w A c bs) (hok : byOk bs = true) (h2 : 2 ≤ bs.length) (hw : bs.getD 0 0 = 1) : Calls Try.prog 39 #[.slice A bs.length c] w (PIn w (inI bs)) := by
  obtain ⟨x, y, hx, hy⟩ := two_of h2
  obtain rfl : x = 1 := by rw [← hw, getD_hid hx]
  obtain ⟨hy0, hy1⟩ := byOk_at hok hy
  obtain ⟨n, rfl⟩ := Int.eq_ofNat_of_zero_le hy0
  have hn : n ≤ 255 := by omega
  obtain ⟨ad, _, rfl, HX, hcx⟩ := hr.get (k := 0) (by omega)
  obtain rfl := Option.some.inj (hx.symm.trans HX.out)
  have hcy := RI.cellAt hr hy
  have hcap := hr.cap
  have hbig := hr.big
  unfold maxLen at hbig
  obtain ⟨rs, hrs⟩ : ∃ rs, rs = bs.drop 2 := ⟨_, rfl⟩
  have HRB : Hid (∀ x ∈ rs, 0 ≤ x ∧ x ≤ 255) := hid fun x hx => by
    rw [hrs] at hx
    exact byOk_all.1 hok x (List.mem_of_mem_drop hx)
  have HI : Hid (inI bs = if 2 * n ≤ rs.length then joinL (pairsOf rs n) else none) := by
    unfold Hid inI
    rw [if_neg (by rw [hw]; decide), if_pos hw, getD_hid hy, hrs]; rfl
  have hlb : (2 : Int) ≤ (bs.length : Int) := by omega
  have hlb1 : (1 : Int) < (bs.length : Int) := by omega
  have hlb0 : (0 : Int) < (bs.length : Int) := by omega
  rw [add0] at hcx
  have e1 : ad.add 1 = ⟨ad.block, ad.off + 1, none⟩ := by simp [Addr.add]
  rw [e1] at hcy
  have hrest := RI.cutAt hr h2
  have e2 : ad.add 2 = ⟨ad.block, ad.off + 2, none⟩ := by simp [Addr.add]
  rw [Option.map_some, e2, ← hrs] at hrest
  have hdl : rs.length = bs.length - 2 := by rw [hrs]; simp
  skip
  clear hx hy hy0 hy1 hok e1 e2 hrs
  go_enter Try.func39, Try.ntmps39
  go_wp2_with fail
  go_quiet (fail)
  have hbw : Below w.heap.size w (w.drewN nq) := below_drewN (Below.refl _ _) _
  have hrest1 := hrest.below hbw
  generalize w.drewN nq = w1 at *
  generalize (if c = 2 then some ad else _) = R at *
  rw [← hdl]
  have hrl : rs.length ≤ bs.length := by omega
  clear hdl hcx hcy
  have hoe := OS.empty eRun w1 w.heap.size 77 hbw.size
  have hbe := below_on hbw (below_new w1 (.cells #[] 77))
  go_wp2_with fail
  go_loopw [7, 38] (fun v t wr => ∃ (k : Nat) (A' : Option Addr) (c' : Nat) (ps : List (Int × Int)), k ≤ n ∧ 2 * k ≤ rs.length ∧ t = .int .i64 k ∧ v = .slice A' ps.length c' ∧ Hid (ps = pairsOf rs k) ∧ ps.length ≤ k ∧ OS eRun wr w.heap.size 77 A' c' ps ∧ Below w.heap.size w wr) (fun _ t _ => n - (intOf t).toNat)
  case atStart => exact ⟨0, _, _, [], by omega, by omega, rfl, rfl, hid rfl, by simp, hoe, hbe⟩
  case round =>
    clear hoe hbe hrest1 hbw
    obtain ⟨k, A', c', ps, hk, hk2, rfl, rfl, hps, hpl, ho, hbw⟩ := hrel
    have hrr := hrest.below hbw
    obtain ⟨wo, rfl⟩ : ∃ wo : World, wo = wr := ⟨_, rfl⟩
    have hwz := hbw.size
    by_cases hlt : k < n
    · have hlI : (k : Int) < (n : Int) := by omega
      by_cases hin : 2 * k + 1 < rs.length
      · obtain ⟨adr, s, hR, HS, hcs⟩ := hrr.get (k := 2 * k) (by omega)
        obtain ⟨adr', m, hR', HM, hcm⟩ := hrr.get (k := 2 * k + 1) hin
        rw [hR] at hR'
        injection hR' with hR'
        subst hR'
        subst hR
        have hi0 : (0 : Int) ≤ 2 * (k : Int) := by omega
        have hi1 : 2 * (k : Int) < (rs.length : Int) := by omega
        have hi2 : (0 : Int) ≤ 2 * (k : Int) + 1 := by omega
        have hi3 : 2 * (k : Int) + 1 < (rs.length : Int) := by omega
        have hi4 : (2 * (k : Int)).toNat = 2 * k := by omega
        have hi5 : (2 * (k : Int) + 1).toNat = 2 * k + 1 := by omega
        have hw1 : IntKind.i64.wrap (2 * (k : Int)) = 2 * (k : Int) := IntWalk.i64_in _ (by omega)
        have hw2 : IntKind.i64.wrap (2 * (k : Int) + 1) = 2 * (k : Int) + 1 := IntWalk.i64_in _ (by omega)
        have hg : ¬ 2 * (k : Int) + 1 ≥ (rs.length : Int) := by omega
        have km : wo.cell? ⟨adr.block, adr.off + (2 * k + 1), none⟩ = some (.int .i64 m) := by rw [show (⟨adr.block, adr.off + (2 * k + 1), none⟩ : Addr) = adr.add (2 * k + 1) by simp [Addr.add]]; exact hcm
        have HP : Hid (pairsOf rs (k + 1) = ps ++ [(s, m)]) := by unfold Hid; rw [pairs_snoc, getD_hid HS.out, getD_hid HM.out, hps.out]
        have hone := (OS.one eRun wo wo.heap.size 77 (s, m) #[.int .i64 s, .int .i64 m] rfl (Nat.le_refl _)).drew
        clear hcm HS HM
        go_wp2_with fail
        go_region_law (first | (refine stp_appS2 runT rfl _ _ rfl ps rfl rfl (OS.alloc ho (.cells #[.int .i64 s, .int .i64 m] 77)).drew [(s, m)] rfl rfl hone.rs (by simp; omega) (by omega) (by simp; omega) ?_; intro A3 c3 w3 us hu ho3 hg3 hat3; clear hat3))
        all_goals
          have hU : Hid (us = pairsOf rs (k + 1)) := by unfold Hid; rw [hu.out, HP.out]
          have hul : us.length ≤ k + 1 := by rw [hu.out]; simp; omega
          have hbw3 := OS.belowOwn (below_drewN (below_on hbw (below_new wo _)) 1) (OS.alloc ho (.cells #[.int .i64 s, .int .i64 m] 77)).drew hg3 (Nat.le_refl _)
          clear hrr km hcs hone ho hu hbw
          go_wp2_with fail
          go_roundw
          case rel => exact ⟨k + 1, A3, c3, us, by omega, by omega, by go_num, rfl, hU, hul, ho3, hbw3⟩
          case measure => simp [intOf]; omega
      · have hg : 2 * (k : Int) + 1 ≥ (rs.length : Int) := by omega
        have hw1 : IntKind.i64.wrap (2 * (k : Int)) = 2 * (k : Int) := IntWalk.i64_in _ (by omega)
        have HF : Hid (inI bs = none) := by unfold Hid; rw [HI.out, if_neg (by omega)]
        go_wp2_with fail
        go_ret2
        exact PIn_none HF.out hbw
    · have hlI : ¬ (k : Int) < (n : Int) := by omega
      have HF : Hid (inI bs = joinL ps) := by unfold Hid; rw [HI.out, if_pos (by omega), hps.out, show n = k by omega]
      go_wp2_with fail
      refine (RunsJoin_any _ _ _ _ ho.rs).mono ?_
      rintro _ w2 ⟨A2, c2, ys, b, hys, hb, ho2, rfl, hb2⟩
      go_wp2_with fail
      go_ret2
      exact PIn_PLB (w0 := w2) HF.out hys.out hb.out ho2 (below_on hbw hb2) rfl
set_option maxRecDepth 100000 in
set_option maxHeartbeats 2000000 in
theorem listIn_w2 (A : Option Addr) (c : Nat) (bs : List Int) (w : World) (hr : RI w A c bs) (hok : byOk bs = true) (h2 : 2 ≤ bs.length) (hw : bs.getD 0 0 = 2) : Calls Try.prog 39 #[.slice A bs.length c] w (PIn w (inI bs)) := by
  obtain ⟨x, y, hx, hy⟩ := two_of h2
  obtain rfl : x = 2 := by rw [← hw, getD_hid hx]
  obtain ⟨hy0, hy1⟩ := byOk_at hok hy
  obtain ⟨n, rfl⟩ := Int.eq_ofNat_of_zero_le hy0
  have hn : n ≤ 255 := by omega
  obtain ⟨ad, _, rfl, HX, hcx⟩ := hr.get (k := 0) (by omega)
  obtain rfl := Option.some.inj (hx.symm.trans HX.out)
  have hcy := RI.cellAt hr hy
  have hcap := hr.cap
  have hbig := hr.big
  unfold maxLen at hbig
  obtain ⟨rs, hrs⟩ : ∃ rs, rs = bs.drop 2 := ⟨_, rfl⟩
  have HRB : Hid (∀ x ∈ rs, 0 ≤ x ∧ x ≤ 255) := hid fun x hx => by
    rw [hrs] at hx
    exact byOk_all.1 hok x (List.mem_of_mem_drop hx)
  have HI : Hid (inI bs = if rs.length < 4 then none else (decL (bytesBits ((rs.drop 4).take 40)) (halves (rs.take 4)) n).map Prod.fst) := by
    unfold Hid inI
    rw [if_neg (by rw [hw]; decide), if_neg (by rw [hw]; decide), if_pos hw, getD_hid hy, hrs]; unfold bitsAt lensAt; rw [List.drop_drop]
  have hlb : (2 : Int) ≤ (bs.length : Int) := by omega
  have hlb1 : (1 : Int) < (bs.length : Int) := by omega
  have hlb0 : (0 : Int) < (bs.length : Int) := by omega
  rw [add0] at hcx
  have e1 : ad.add 1 = ⟨ad.block, ad.off + 1, none⟩ := by simp [Addr.add]
  rw [e1] at hcy
  have hrest := RI.cutAt hr h2
  have e2 : ad.add 2 = ⟨ad.block, ad.off + 2, none⟩ := by simp [Addr.add]
  rw [Option.map_some, e2, ← hrs] at hrest
  have hdl : rs.length = bs.length - 2 := by rw [hrs]; simp
  skip
  clear hx hy hy0 hy1 hok e1 e2 hrs
  go_enter Try.func39, Try.ntmps39
  go_wp2_with fail
  go_quiet (fail)
  have hbw : Below w.heap.size w (w.drewN nq) := below_drewN (Below.refl _ _) _
  have hrest1 := hrest.below hbw
  generalize w.drewN nq = w1 at *
  generalize (if c = 2 then some ad else _) = R at *
  rw [← hdl]
  have hrl : rs.length ≤ bs.length := by omega
  clear hdl hcx hcy
  by_cases hlt : rs.length < 4
  · have hg : (rs.length : Int) < 4 := by omega
    have HF : Hid (inI bs = none) := by unfold Hid; rw [HI.out, if_pos hlt]
    go_wp2_with fail
    go_ret2
    exact PIn_none HF.out hbw
  · have hg : ¬ (rs.length : Int) < 4 := by omega
    have HF : Hid (inI bs = (decL (bytesBits ((rs.drop 4).take 40)) (halves (rs.take 4)) n).map Prod.fst) := by unfold Hid; rw [HI.out, if_neg hlt]
    have h4 : 4 ≤ rs.length := by omega
    have hc4 : (4 : Int) ≤ ((c - 2 : Nat) : Int) := by have := hrest1.cap; omega
    have hrF := RI.cutAt hrest1 h4
    have hrL := RI.takeAt hrest1 h4
    have HFL : Hid (rs.length - 4 = (rs.drop 4).length) := by unfold Hid; rw [List.length_drop]
    have HLL : Hid (4 = (rs.take 4).length) := by unfold Hid; rw [List.length_take]; omega
    have HOF : Hid (byOk (rs.drop 4) = true) := hid (byOk_all.2 fun x hx => HRB.out x (List.mem_of_mem_drop hx))
    have HOL : Hid (byOk (rs.take 4) = true) := hid (byOk_all.2 fun x hx => HRB.out x (List.mem_of_mem_take hx))
    clear hrest hrest1
    go_wp2_with fail
    go_region_law (first
      | (go_simp; go_at_call 67; refine (PrefixDecode_any _ _ _ _ _ _ _ _ (hoF.ri.below hbL) hoL.ri).mono ?_; rintro _ w4 ⟨A4, c4, ys, pa, b, hb, hys, hys0, ho4, rfl, hb4⟩)
      | (go_simp; go_at_call 67; refine (PrefixDecode_any _ _ _ _ _ _ _ _ hoF.ri (hoL.ri.below hbF)).mono ?_; rintro _ w4 ⟨A4, c4, ys, pa, b, hb, hys, hys0, ho4, rfl, hb4⟩)
      | (go_simp; go_at_call 68; refine (firstBits_len _ _ _ _ _ HFL.out (hrF.drew.below hbL) HOF.out).mono ?_; rintro _ wF ⟨AF, cF, fb, hfb, hoF, rfl, hbF⟩)
      | (go_simp; go_at_call 69; refine (lengthsIn4_len _ _ _ _ _ HLL.out (hrL.drew.below hbF) HOL.out (by rw [List.length_take]; omega)).mono ?_; rintro _ wL ⟨AL, cL, ll, hll, hoL, rfl, hbL⟩)
      | (go_simp; go_at_call 68; refine (firstBits_len _ _ _ _ _ HFL.out hrF.drew HOF.out).mono ?_; rintro _ wF ⟨AF, cF, fb, hfb, hoF, rfl, hbF⟩)
      | (go_simp; go_at_call 69; refine (lengthsIn4_len _ _ _ _ _ HLL.out hrL.drew HOL.out (by rw [List.length_take]; omega)).mono ?_; rintro _ wL ⟨AL, cL, ll, hll, hoL, rfl, hbL⟩))
    all_goals
      have HD : Hid (decL fb ll n = decL (bytesBits ((rs.drop 4).take 40)) (halves (rs.take 4)) n) := by unfold Hid; rw [hfb.out, hll.out]
      have hbw4 : Below w.heap.size w w4 := by
        first
          | exact below_on (below_on (below_on (below_drewN hbw 1) hbF) hbL) hb4
          | exact below_on (below_on (below_on (below_drewN hbw 1) hbL) hbF) hb4
      have HF2 : Hid (inI bs = (decL fb ll n).map Prod.fst) := by unfold Hid; rw [HD.out, HF.out]
      clear hrF hrL hoF hoL hbF hbL hb4 hfb hll
      go_wp2_with fail
      all_goals
        go_ret2
        exact PIn_dec HF2.out hb.out hys.out ho4.ri hbw4
set_option maxRecDepth 100000 in
set_option maxHeartbeats 2000000 in
theorem listIn_w3 (A : Option Addr) (c : Nat) (bs : List Int) (w : World) (hr : RI w A c bs) (hok : byOk bs = true) (h2 : 2 ≤ bs.length) (hw : bs.getD 0 0 = 3) : Calls Try.prog 39 #[.slice A bs.length c] w (PIn w (inI bs)) := by
  obtain ⟨x, y, hx, hy⟩ := two_of h2
  obtain rfl : x = 3 := by rw [← hw, getD_hid hx]
  obtain ⟨hy0, hy1⟩ := byOk_at hok hy
  obtain ⟨n, rfl⟩ := Int.eq_ofNat_of_zero_le hy0
  have hn : n ≤ 255 := by omega
  obtain ⟨ad, _, rfl, HX, hcx⟩ := hr.get (k := 0) (by omega)
  obtain rfl := Option.some.inj (hx.symm.trans HX.out)
  have hcy := RI.cellAt hr hy
  have hcap := hr.cap
  have hbig := hr.big
  unfold maxLen at hbig
  obtain ⟨rs, hrs⟩ : ∃ rs, rs = bs.drop 2 := ⟨_, rfl⟩
  have HRB : Hid (∀ x ∈ rs, 0 ≤ x ∧ x ≤ 255) := hid fun x hx => by
    rw [hrs] at hx
    exact byOk_all.1 hok x (List.mem_of_mem_drop hx)
  have HI : Hid (inI bs = if rs.length < n then none else expL ((rs.take n).map byteTok)) := by
    unfold Hid inI
    rw [if_neg (by rw [hw]; decide), if_neg (by rw [hw]; decide), if_neg (by rw [hw]; decide), if_pos hw, getD_hid hy, hrs]; rfl
  have hlb : (2 : Int) ≤ (bs.length : Int) := by omega
  have hlb1 : (1 : Int) < (bs.length : Int) := by omega
  have hlb0 : (0 : Int) < (bs.length : Int) := by omega
  rw [add0] at hcx
  have e1 : ad.add 1 = ⟨ad.block, ad.off + 1, none⟩ := by simp [Addr.add]
  rw [e1] at hcy
  have hrest := RI.cutAt hr h2
  have e2 : ad.add 2 = ⟨ad.block, ad.off + 2, none⟩ := by simp [Addr.add]
  rw [Option.map_some, e2, ← hrs] at hrest
  have hdl : rs.length = bs.length - 2 := by rw [hrs]; simp
  skip
  clear hx hy hy0 hy1 hok e1 e2 hrs
  go_enter Try.func39, Try.ntmps39
  go_wp2_with fail
  go_quiet (fail)
  have hbw : Below w.heap.size w (w.drewN nq) := below_drewN (Below.refl _ _) _
  have hrest1 := hrest.below hbw
  generalize w.drewN nq = w1 at *
  generalize (if c = 2 then some ad else _) = R at *
  rw [← hdl]
  have hrl : rs.length ≤ bs.length := by omega
  clear hdl hcx hcy
  by_cases hlt : rs.length < n
  · have hg : (n : Int) > (rs.length : Int) := by omega
    have HF : Hid (inI bs = none) := by unfold Hid; rw [HI.out, if_pos hlt]
    go_wp2_with fail
    go_ret2
    exact PIn_none HF.out hbw
  have hg : ¬ (n : Int) > (rs.length : Int) := by omega
  have hn1 : n ≤ rs.length := by omega
  have hnc : (n : Int) ≤ ((c - 2 : Nat) : Int) := by have := hrest1.cap; omega
  obtain ⟨zs, hzs⟩ : ∃ zs, zs = rs.take n := ⟨_, rfl⟩
  have HZ : Hid (∀ x ∈ zs, 0 ≤ x ∧ x ≤ 255) := hid fun x hx => HRB.out x (by rw [hzs] at hx; exact List.mem_of_mem_take hx)
  have HF : Hid (inI bs = expL (zs.map byteTok)) := by unfold Hid; rw [HI.out, if_neg hlt, hzs]
  have hrz := RI.takeAt hrest (k := n) hn1
  rw [← hzs] at hrz
  have hzl : zs.length = n := by rw [hzs, List.length_take]; omega
  have hoe := OS.empty eTok w1 w.heap.size 82 hbw.size
  have hbe := below_on hbw (below_new w1 (.cells #[] 82))
  clear hzs hrest hrest1 HI HRB hlt
  subst hzl
  go_wp2_with fail
  go_loopw [12, 97] (fun v t wr => ∃ (k : Nat) (A' : Option Addr) (c' : Nat) (ts : List (Int × Int × Int)), k ≤ zs.length ∧ t = .int .i64 k ∧ v = .slice A' ts.length c' ∧ Hid (ts = (zs.take k).map byteTok) ∧ ts.length ≤ k ∧ OS eTok wr w.heap.size 82 A' c' ts ∧ Below w.heap.size w wr) (fun _ t _ => zs.length - (intOf t).toNat)
  case atStart => exact ⟨0, _, _, [], by omega, rfl, rfl, hid rfl, by simp, hoe, hbe⟩
  case round =>
    clear hoe hbe hbw
    obtain ⟨k, A', c', ts, hk, rfl, rfl, hts, htl, ho, hbw⟩ := hrel
    obtain ⟨wo, rfl⟩ : ∃ wo : World, wo = wr := ⟨_, rfl⟩
    have hrr := hrz.below hbw
    have hwz := hbw.size
    by_cases hlt : k < zs.length
    · obtain ⟨ad, v, rfl, HV, hcv⟩ := hrr.get hlt
      have hv := HZ.out v (List.mem_of_getElem? HV.out)
      have B0 := BX.new wo #[.int .i64 0, .int .i64 0, .int .i64 0] 82
      have f0 := B0.frozen 0
      have f1 := B0.frozen 1
      have f2 := B0.frozen 2
      by_cases hv8 : v < 128
      · have HT : Hid (byteTok v = (v, 0, 0)) := hid (if_pos hv8)
        have hq : ¬ v ≥ 128 := by omega
        go_wp2_with (at_builtin; refine wpl_appS (F := eTok) (ys := [(v, 0, 0)]) tokT rfl _ _ rfl rfl ((ho.alloc _).alloc _) rfl (OS.one1 eTok wo _ 82 (v, 0, 0) _ rfl).rs (by simp; omega) (by omega) (by simp; omega) ?_; intro A3 c3 w3 us hu ho3 hg3 hat3; clear hat3)
        have hbw3 := OS.belowOwn (below_on (below_on hbw (below_new _ _)) (below_new _ _)) ((ho.alloc _).alloc _) hg3 (Nat.le_refl _)
        have HU : Hid (us = (zs.take (k + 1)).map byteTok) := by unfold Hid; rw [hu.out, hts.out, take_snoc' HV.out, List.map_append, List.map_singleton, HT.out]
        have hul : us.length ≤ k + 1 := by rw [hu.out]; simp; omega
        clear ho hbw hg3 hu hts hrr hcv B0 f0 f1 f2
        go_roundw
        case rel => exact ⟨k + 1, A3, c3, us, by omega, by go_num, rfl, HU, hul, ho3, hbw3⟩
        case measure => simp [intOf]; omega
      · have hq : v ≥ 128 := by omega
        have HT : Hid (byteTok v = (0, v % 16 + 1, (v - 128) / 16 + 2)) := by unfold Hid byteTok; rw [if_neg hv8]
        go_wp2_with (at_builtin; refine wpl_appS (F := eTok) (ys := [(0, v % 16 + 1, (v - 128) / 16 + 2)]) tokT rfl _ _ rfl rfl ((ho.alloc _).alloc _) rfl (OS.one1 eTok wo _ 82 (0, v % 16 + 1, (v - 128) / 16 + 2) _ rfl).rs (by simp; omega) (by omega) (by simp; omega) ?_; intro A3 c3 w3 us hu ho3 hg3 hat3; clear hat3)
        have hbw3 := OS.belowOwn (below_on (below_on hbw (below_new _ _)) (below_new _ _)) ((ho.alloc _).alloc _) hg3 (Nat.le_refl _)
        have HU : Hid (us = (zs.take (k + 1)).map byteTok) := by unfold Hid; rw [hu.out, hts.out, take_snoc' HV.out, List.map_append, List.map_singleton, HT.out]
        have hul : us.length ≤ k + 1 := by rw [hu.out]; simp; omega
        clear ho hbw hg3 hu hts hrr hcv B0 f0 f1 f2
        go_roundw
        case rel => exact ⟨k + 1, A3, c3, us, by omega, by go_num, rfl, HU, hul, ho3, hbw3⟩
        case measure => simp [intOf]; omega
    · have HK : Hid (inI bs = expL ts) := by unfold Hid; rw [HF.out, hts.out, List.take_of_length_le (by omega)]
      go_wp2_with fail
      refine (TokensExpand_any _ _ _ _ ho.rs).mono ?_
      rintro _ w2 ⟨A2, c2, ys, b, hys, hb, ho2, rfl, hb2⟩
      go_wp2_with fail
      all_goals
        go_ret2
        exact PIn_PLB (w0 := w2) HK.out hys.out hb.out ho2 (below_on hbw hb2) rfl
set_option maxRecDepth 100000 in
set_option maxHeartbeats 2000000 in
theorem listIn_wo (A : Option Addr) (c : Nat) (bs : List Int) (w : World) (hr : RI w A c bs) (hok : byOk bs = true) (h2 : 2 ≤ bs.length) (h0 : bs.getD 0 0 ≠ 0) (h1 : bs.getD 0 0 ≠ 1) (h2w : bs.getD 0 0 ≠ 2) (h3 : bs.getD 0 0 ≠ 3) : Calls Try.prog 39 #[.slice A bs.length c] w (PIn w (inI bs)) := by
  obtain ⟨x, y, hx, hy⟩ := two_of h2
  have hxs : x ≠ 0 ∧ x ≠ 1 ∧ x ≠ 2 ∧ x ≠ 3 := by rw [← getD_hid hx]; exact ⟨h0, h1, h2w, h3⟩
  obtain ⟨q0, q1, q2, q3⟩ := hxs
  obtain ⟨hy0, hy1⟩ := byOk_at hok hy
  obtain ⟨n, rfl⟩ := Int.eq_ofNat_of_zero_le hy0
  have hn : n ≤ 255 := by omega
  obtain ⟨ad, _, rfl, HX, hcx⟩ := hr.get (k := 0) (by omega)
  obtain rfl := Option.some.inj (hx.symm.trans HX.out)
  have hcy := RI.cellAt hr hy
  have hcap := hr.cap
  have hbig := hr.big
  unfold maxLen at hbig
  obtain ⟨rs, hrs⟩ : ∃ rs, rs = bs.drop 2 := ⟨_, rfl⟩
  have HRB : Hid (∀ x ∈ rs, 0 ≤ x ∧ x ≤ 255) := hid fun x hx => by
    rw [hrs] at hx
    exact byOk_all.1 hok x (List.mem_of_mem_drop hx)
  have HI : Hid (inI bs = none) := by
    unfold Hid inI
    rw [if_neg h0, if_neg h1, if_neg h2w, if_neg h3]
  have hlb : (2 : Int) ≤ (bs.length : Int) := by omega
  have hlb1 : (1 : Int) < (bs.length : Int) := by omega
  have hlb0 : (0 : Int) < (bs.length : Int) := by omega
  rw [add0] at hcx
  have e1 : ad.add 1 = ⟨ad.block, ad.off + 1, none⟩ := by simp [Addr.add]
  rw [e1] at hcy
  have hrest := RI.cutAt hr h2
  have e2 : ad.add 2 = ⟨ad.block, ad.off + 2, none⟩ := by simp [Addr.add]
  rw [Option.map_some, e2, ← hrs] at hrest
  have hdl : rs.length = bs.length - 2 := by rw [hrs]; simp
  skip
  clear hx hy hy0 hy1 hok e1 e2 hrs
  go_enter Try.func39, Try.ntmps39
  go_wp2_with fail
  go_quiet (fail)
  have hbw : Below w.heap.size w (w.drewN nq) := below_drewN (Below.refl _ _) _
  have hrest1 := hrest.below hbw
  generalize w.drewN nq = w1 at *
  generalize (if c = 2 then some ad else _) = R at *
  rw [← hdl]
  have hrl : rs.length ≤ bs.length := by omega
  clear hdl hcx hcy
  go_wp2_with fail
  all_goals
    go_ret2
    exact PIn_none HI.out hbw
theorem listIn_any (A : Option Addr) (c : Nat) (bs : List Int) (w : World) (hr : RI w A c bs) (hok : byOk bs = true) (h2 : 2 ≤ bs.length) : Calls Try.prog 39 #[.slice A bs.length c] w (PIn w (inI bs)) := by
  by_cases h0 : bs.getD 0 0 = 0
  · exact listIn_w0 A c bs w hr hok h2 h0
  by_cases h1 : bs.getD 0 0 = 1
  · exact listIn_w1 A c bs w hr hok h2 h1
  by_cases h2w : bs.getD 0 0 = 2
  · exact listIn_w2 A c bs w hr hok h2 h2w
  by_cases h3 : bs.getD 0 0 = 3
  · exact listIn_w3 A c bs w hr hok h2 h3
  exact listIn_wo A c bs w hr hok h2 h0 h1 h2w h3
end Go.Proofs.Ytamljhjbmeikiaa
/- Contracts: a block is opened. No condition. -/
namespace Go.Proofs.Ytamljhjbmeikiaa
open Go Go.RowKit
def opR (f : Option (List Int × Nat)) : List Int × Int × Bool :=
  match f with
  | some (l, n) => (l, (n : Int), true)
  | none => ([], 0, false)
theorem PLNB_opN {w w1 : World} {f : Option (List Int × Nat)} (hf : f = none) (hb : Below w.heap.size w w1) : PLNB w (opR f) (.returned (.tuple #[.slice (some ⟨w1.heap.size, 0, none⟩) 0 0, .int .i64 0, .bool false])) (w1.alloc (.cells #[] 3)) := by
  subst hf
  exact ⟨_, _, [], 0, false, hid rfl, hid rfl, hid rfl, OI.empty w1 _ hb.size, rfl, below_on hb (below_new _ _)⟩
theorem PLNB_opS {w w1 : World} {f : Option (List Int × Nat)} {A : Option Addr} {c n : Nat} {ys : List Int} (hf : f = some (ys, n)) (ho : OI w1 w.heap.size A c ys) (hb : Below w.heap.size w w1) : PLNB w (opR f) (.returned (.tuple #[.slice A ys.length c, .int .i64 n, .bool true])) w1 := by
  subst hf
  exact ⟨_, _, ys, n, true, hid rfl, hid rfl, hid rfl, ho, rfl, hb⟩
theorem opW_no {d : List Int → Option (List Int)} {bs : List Int} (h : ¬ (byOk bs = true ∧ 2 ≤ bs.length)) : opW d bs = none := by unfold opW; rw [if_neg h]
theorem opW_none {d : List Int → Option (List Int)} {bs : List Int} (h : d bs = none) : opW d bs = none := by unfold opW; rw [h]; simp
theorem opW_as {d : List Int → Option (List Int)} {bs l : List Int} (h : d bs = some l) (ha : asL l (bs.getD 0 0) = none) : opW d bs = none := by unfold opW; rw [h]; simp only [ha]; simp
theorem opW_cut {d : List Int → Option (List Int)} {bs l b : List Int} (h : d bs = some l) (ha : asL l (bs.getD 0 0) = some b) (hc : ¬ (b.length ≤ bs.length ∧ b = bs.take b.length)) : opW d bs = none := by
  unfold opW; rw [h]; simp only [ha]; rw [if_neg hc]; simp
theorem opW_yes {d : List Int → Option (List Int)} {bs l b : List Int} (h0 : byOk bs = true ∧ 2 ≤ bs.length) (h : d bs = some l) (ha : asL l (bs.getD 0 0) = some b) (hc : b.length ≤ bs.length ∧ b = bs.take b.length) : opW d bs = some (l, b.length) := by
  unfold opW; rw [if_pos h0, h]; simp only [ha]; rw [if_pos hc]
theorem alike_len (A B : Option Addr) (c d n : Nat) (xs ys : List Int) (w : World) (hn : n = ys.length) (hr : RI w A c xs) (hs : RI w B d ys) :
    Calls Try.prog 41 #[.slice A xs.length c, .slice B n d] w (PBb w (decide (xs = ys))) := by
  subst hn; exact alike_any A B c d xs ys w hr hs
theorem asL_at {l b : List Int} {way : Int} {f : Option (List Int)} (ha : f = asL l way) (hb : b = f.getD []) (hs : true = f.isSome) : asL l way = some b := by
  rw [← ha]
  cases f with
  | none => cases hs
  | some x => rw [hb]; rfl
set_option maxRecDepth 100000 in
set_option maxHeartbeats 2000000 in
theorem BlockOpen_any (A : Option Addr) (c : Nat) (bs : List Int) (w : World) (hr : RI w A c bs) : Calls Try.prog 12 #[.slice A bs.length c] w (PLNB w (opR (opF bs))) := by
  go_enter Try.func12, Try.ntmps12
  go_wp2_with fail
  refine (bytesOk_any _ _ _ _ hr).mono ?_
  rintro e w' ⟨b, hb, rfl, rfl⟩
  by_cases hok : byOk bs = true
  rotate_left
  · obtain rfl : b = false := hb.out.trans (by simpa using hok)
    have HF : Hid (opF bs = none) := hid (opW_no (fun h => hok h.1))
    clear hok
    go_wp2_with fail
    go_ret3
    exact PLNB_opN HF.out (Below.refl _ _)
  obtain rfl : b = true := hb.out.trans hok
  by_cases h2 : 2 ≤ bs.length
  rotate_left
  · have hg : (bs.length : Int) < 2 := by omega
    have HF : Hid (opF bs = none) := hid (opW_no (fun h => h2 h.2))
    clear hok
    go_wp2_with fail
    go_ret3
    exact PLNB_opN HF.out (Below.refl _ _)
  have hg : ¬ (bs.length : Int) < 2 := by omega
  have HOK := hid hok
  clear hok hb
  go_wp2_with fail
  refine (listIn_any _ _ _ _ hr HOK.out h2).mono ?_
  rintro _ w1 ⟨A1, c1, ys, b, hb, hys, hr1, rfl, hb1⟩
  obtain ⟨x, _, hx, _⟩ := two_of h2
  obtain ⟨ad, x', rfl, HX, hcx⟩ := (hr.below hb1).get (k := 0) (by omega)
  obtain rfl := Option.some.inj (hx.symm.trans HX.out)
  rw [add0] at hcx
  have HX0 : Hid (bs.getD 0 0 = x) := hid (getD_hid hx)
  have hl0 : (0 : Int) < (bs.length : Int) := by omega
  clear hx
  cases b with
  | false =>
    have HF : Hid (opF bs = none) := hid (opW_none (Option.not_isSome_iff_eq_none.1 (by rw [← hb.out]; decide)))
    clear hr1 hcx
    go_wp2_with fail
    go_ret3
    exact PLNB_opN HF.out hb1
  | true =>
    have HY : Hid (inI bs = some ys) := hid (hys.out rfl)
    clear hb hys
    go_wp2_with fail
    refine (BlockAs_any _ _ _ _ _ hr1).mono ?_
    rintro _ w2 ⟨A2, c2, zs, b, hzs, hb2', ho2, rfl, hb2⟩
    cases b with
    | false =>
      have HF : Hid (opF bs = none) := hid (opW_as HY.out (by rw [HX0.out]; exact Option.not_isSome_iff_eq_none.1 (by rw [← hb2'.out]; decide)))
      clear hr1 hcx ho2
      go_wp2_with fail
      go_ret3
      exact PLNB_opN HF.out (below_on hb1 hb2)
    | true =>
      have HA : Hid (asL ys (bs.getD 0 0) = some zs) := hid (by rw [HX0.out]; exact asL_at rfl hzs.out hb2'.out)
      have hyl : ys.length ≤ 17592186044416 := by have := (listOk_iff.1 (asL_ok HA.out).1).1; omega
      by_cases hl : bs.length < zs.length
      · have hg2 : (zs.length : Int) > (bs.length : Int) := by omega
        have HF : Hid (opF bs = none) := hid (opW_cut HY.out HA.out (fun h => by omega))
        clear hr1 hcx ho2
        go_wp2_with fail
        go_ret3
        exact PLNB_opN HF.out (below_on hb1 hb2)
      · have hg2 : ¬ (zs.length : Int) > (bs.length : Int) := by omega
        have hbc : (zs.length : Int) ≤ (c : Int) := by have := hr.cap; omega
        have hrt := (RI.takeAt hr (k := zs.length) (by omega)).below (below_on hb1 hb2)
        have HTL : Hid (zs.length = (bs.take zs.length).length) := by unfold Hid; rw [List.length_take]; omega
        clear hcx
        go_wp2_with fail
        refine (alike_len _ _ _ _ _ _ _ _ HTL.out ho2.ri hrt).mono ?_
        rintro e w9 ⟨b, hb, rfl, hb9⟩
        cases b with
        | false =>
          have HF : Hid (opF bs = none) := hid (opW_cut HY.out HA.out (fun h => by have := hb.out; simp [← h.2] at this))
          clear hr1 ho2 hrt
          go_wp2_with fail
          go_ret3
          exact PLNB_opN HF.out (below_on (below_on hb1 hb2) hb9)
        | true =>
          have HF : Hid (opF bs = some (ys, zs.length)) := hid (opW_yes ⟨HOK.out, h2⟩ HY.out HA.out ⟨by omega, by simpa using hb.out⟩)
          clear hrt
          go_wp2_with fail
          refine (cloned_any _ _ _ _ ((hr1.below hb2).below hb9) hyl).mono ?_
          rintro _ w3 ⟨A3, c3, vs, hvs, ho3, rfl, hb3⟩
          obtain rfl : vs = ys := hvs.out
          go_wp2_with fail
          go_ret3
          exact PLNB_opS HF.out (ho3.mono (below_on (below_on hb1 hb2) hb9).size) (below_on (below_on (below_on hb1 hb2) hb9) hb3)
end Go.Proofs.Ytamljhjbmeikiaa
/- Contracts: how many bytes a block needs; its state. No condition. -/
namespace Go.Proofs.Ytamljhjbmeikiaa
open Go Go.RowKit
/-- How many bytes are needed, and whether more can help. -/
def PNeed (w : World) (f : Option Nat) (e : Ending) (w' : World) : Prop :=
  ∃ (i : Int) (b : Bool), Hid (b = f.isSome) ∧ Hid (b = true → ∃ n : Nat, f = some n ∧ i = n) ∧ e = .returned (.tuple #[.int .i64 i, .bool b]) ∧ Below w.heap.size w w'
theorem PNeed_some {w w1 : World} {f : Option Nat} {n : Nat} {i : Int} (hf : f = some n) (hi : i = n) (hb : Below w.heap.size w w1) : PNeed w f (.returned (.tuple #[.int .i64 i, .bool true])) w1 :=
  ⟨i, true, by simp [Hid, hf], hid (fun _ => ⟨n, hf, hi⟩), rfl, hb⟩
theorem PNeed_none {w w1 : World} {f : Option Nat} {i : Int} (hf : f = none) (hb : Below w.heap.size w w1) : PNeed w f (.returned (.tuple #[.int .i64 i, .bool false])) w1 :=
  ⟨i, false, by simp [Hid, hf], hid (fun h => absurd h (by decide)), rfl, hb⟩
theorem PNeed_noneB {w w1 : World} {f : Option Nat} {i : Int} {b : Bool} (hc : b = false) (hf : f = none) (hb : Below w.heap.size w w1) : PNeed w f (.returned (.tuple #[.int .i64 i, .bool b])) w1 := by
  subst hc; exact PNeed_none hf hb
theorem lensAt_ok {bs : List Int} (hv : lenVal (lensAt bs) = true) : (lensAt bs).length = 8 ∧ ∀ x ∈ lensAt bs, 0 ≤ x ∧ x ≤ 8 := lenVal_ok hv
set_option maxHeartbeats 1000000 in
theorem needed_w0 (A : Option Addr) (c : Nat) (bs : List Int) (w : World) (_hr : RI w A c bs) (h0 : bs.length = 0) : Calls Try.prog 46 #[.slice A bs.length c] w (PNeed w (needW 40 bs)) := by
  have HF : Hid (needW 40 bs = some 2) := by unfold Hid needW; rw [if_pos h0]
  have hg : ¬ (0 : Int) < (bs.length : Int) := by omega
  have hg1 : (bs.length : Int) < 2 := by omega
  go_enter Try.func46, Try.ntmps46
  go_wp2_with fail
  go_ret2
  exact PNeed_some HF.out rfl (Below.refl _ _)
set_option maxHeartbeats 1000000 in
theorem needed_w1 (A : Option Addr) (c : Nat) (bs : List Int) (w : World) (hr : RI w A c bs) (h0 : 0 < bs.length) (h : bs.length < 2 ∨ 3 < bs.getD 0 0) : Calls Try.prog 46 #[.slice A bs.length c] w (PNeed w (needW 40 bs)) := by
  obtain ⟨ad, x, rfl, HX, hcx⟩ := hr.get (k := 0) h0
  rw [add0] at hcx
  have hx := getD_hid HX.out
  have hl0 : (0 : Int) < (bs.length : Int) := by omega
  by_cases h3 : 3 < x
  · have HF : Hid (needW 40 bs = none) := by unfold Hid needW; rw [if_neg (by omega), if_pos (by rw [hx]; exact h3)]
    have hg : x > 3 := h3
    clear hx h
    go_enter Try.func46, Try.ntmps46
    go_wp2_with fail
    go_ret2
    exact PNeed_none HF.out (Below.refl _ _)
  · have h2 : bs.length < 2 := h.elim id (fun h => absurd h (by rw [hx]; exact h3))
    have HF : Hid (needW 40 bs = some 2) := by unfold Hid needW; rw [if_neg (by omega), if_neg (by rw [hx]; exact h3), if_pos h2]
    have hg : ¬ x > 3 := h3
    have hg1 : (bs.length : Int) < 2 := by omega
    clear hx h
    go_enter Try.func46, Try.ntmps46
    go_wp2_with fail
    go_ret2
    exact PNeed_some HF.out rfl (Below.refl _ _)
set_option maxRecDepth 100000 in
set_option maxHeartbeats 2000000 in
theorem needed_x0 (A : Option Addr) (c : Nat) (bs : List Int) (w : World) (hr : RI w A c bs) (hok : byOk bs = true) (h2 : 2 ≤ bs.length) (hw : bs.getD 0 0 = 0) : Calls Try.prog 46 #[.slice A bs.length c] w (PNeed w (needW 40 bs)) := by
  obtain ⟨x, y, hx, hy⟩ := two_of h2
  obtain rfl : x = 0 := by rw [← hw, getD_hid hx]
  obtain ⟨hy0, hy1⟩ := byOk_at hok hy
  obtain ⟨n, rfl⟩ := Int.eq_ofNat_of_zero_le hy0
  obtain ⟨ad, _, rfl, HX, hcx⟩ := hr.get (k := 0) (by omega)
  obtain rfl := Option.some.inj (hx.symm.trans HX.out)
  have hcy := RI.cellAt hr hy
  have hcap := hr.cap
  have hbig := hr.big
  unfold maxLen at hbig
  have hlb1 : (1 : Int) < (bs.length : Int) := by omega
  have hlb0 : (0 : Int) < (bs.length : Int) := by omega
  have hlb2 : ¬ (bs.length : Int) < 2 := by omega
  rw [add0] at hcx
  have e1 : ad.add 1 = ⟨ad.block, ad.off + 1, none⟩ := by simp [Addr.add]
  rw [e1] at hcy
  have HY : Hid (bs.getD 1 0 = (n : Int)) := hid (getD_hid hy)
  have HW := hid hw
  have HOK := hid hok
  have HN : Hid (needW 40 bs = if 40 < (n : Int) ∨ ((0 : Int) = 2 ∧ (n : Int) = 0) then none else if (0 : Int) = 1 then some (2 + 2 * n) else if (0 : Int) = 2 then if bs.length < 6 then some 6 else needP 40 bs else some (2 + n)) := by
    unfold Hid needW
    rw [if_neg (by omega), if_neg (by rw [hw]; decide), if_neg (by omega), HY.out, hw]
    rfl
  clear hx hy hy0 hy1 e1 hw hok
  by_cases h40 : 40 < (n : Int)
  · have HF : Hid (needW 40 bs = none) := by unfold Hid; rw [HN.out, if_pos (.inl h40)]
    have hg : (n : Int) > 40 := h40
    go_enter Try.func46, Try.ntmps46
    go_wp2_with fail
    go_quiet (fail)
    go_wp2_with fail
    go_ret2
    exact PNeed_none HF.out (below_drewN (Below.refl _ _) _)
  have hg : ¬ (n : Int) > 40 := h40
  have hw1 : IntKind.i64.wrap (2 * (n : Int)) = 2 * (n : Int) := IntWalk.i64_in _ (by omega)
  have hw2 : IntKind.i64.wrap (2 + 2 * (n : Int)) = 2 + 2 * (n : Int) := IntWalk.i64_in _ (by omega)
  have hw3 : IntKind.i64.wrap (2 + (n : Int)) = 2 + (n : Int) := IntWalk.i64_in _ (by omega)
  have HF : Hid (needW 40 bs = some (2 + n)) := by unfold Hid; rw [HN.out, if_neg (by omega)]; rfl
  go_enter Try.func46, Try.ntmps46
  go_wp2_with fail
  go_quiet (fail)
  go_wp2_with fail
  go_ret2
  exact PNeed_some HF.out (by omega) (below_drewN (Below.refl _ _) _)
set_option maxRecDepth 100000 in
set_option maxHeartbeats 2000000 in
theorem needed_x1 (A : Option Addr) (c : Nat) (bs : List Int) (w : World) (hr : RI w A c bs) (hok : byOk bs = true) (h2 : 2 ≤ bs.length) (hw : bs.getD 0 0 = 1) : Calls Try.prog 46 #[.slice A bs.length c] w (PNeed w (needW 40 bs)) := by
  obtain ⟨x, y, hx, hy⟩ := two_of h2
  obtain rfl : x = 1 := by rw [← hw, getD_hid hx]
  obtain ⟨hy0, hy1⟩ := byOk_at hok hy
  obtain ⟨n, rfl⟩ := Int.eq_ofNat_of_zero_le hy0
  obtain ⟨ad, _, rfl, HX, hcx⟩ := hr.get (k := 0) (by omega)
  obtain rfl := Option.some.inj (hx.symm.trans HX.out)
  have hcy := RI.cellAt hr hy
  have hcap := hr.cap
  have hbig := hr.big
  unfold maxLen at hbig
  have hlb1 : (1 : Int) < (bs.length : Int) := by omega
  have hlb0 : (0 : Int) < (bs.length : Int) := by omega
  have hlb2 : ¬ (bs.length : Int) < 2 := by omega
  rw [add0] at hcx
  have e1 : ad.add 1 = ⟨ad.block, ad.off + 1, none⟩ := by simp [Addr.add]
  rw [e1] at hcy
  have HY : Hid (bs.getD 1 0 = (n : Int)) := hid (getD_hid hy)
  have HW := hid hw
  have HOK := hid hok
  have HN : Hid (needW 40 bs = if 40 < (n : Int) ∨ ((1 : Int) = 2 ∧ (n : Int) = 0) then none else if (1 : Int) = 1 then some (2 + 2 * n) else if (1 : Int) = 2 then if bs.length < 6 then some 6 else needP 40 bs else some (2 + n)) := by
    unfold Hid needW
    rw [if_neg (by omega), if_neg (by rw [hw]; decide), if_neg (by omega), HY.out, hw]
    rfl
  clear hx hy hy0 hy1 e1 hw hok
  by_cases h40 : 40 < (n : Int)
  · have HF : Hid (needW 40 bs = none) := by unfold Hid; rw [HN.out, if_pos (.inl h40)]
    have hg : (n : Int) > 40 := h40
    go_enter Try.func46, Try.ntmps46
    go_wp2_with fail
    go_quiet (fail)
    go_wp2_with fail
    go_ret2
    exact PNeed_none HF.out (below_drewN (Below.refl _ _) _)
  have hg : ¬ (n : Int) > 40 := h40
  have hw1 : IntKind.i64.wrap (2 * (n : Int)) = 2 * (n : Int) := IntWalk.i64_in _ (by omega)
  have hw2 : IntKind.i64.wrap (2 + 2 * (n : Int)) = 2 + 2 * (n : Int) := IntWalk.i64_in _ (by omega)
  have hw3 : IntKind.i64.wrap (2 + (n : Int)) = 2 + (n : Int) := IntWalk.i64_in _ (by omega)
  have HF : Hid (needW 40 bs = some (2 + 2 * n)) := by unfold Hid; rw [HN.out, if_neg (by omega)]; rfl
  go_enter Try.func46, Try.ntmps46
  go_wp2_with fail
  go_quiet (fail)
  go_wp2_with fail
  go_ret2
  exact PNeed_some HF.out (by omega) (below_drewN (Below.refl _ _) _)
set_option maxRecDepth 100000 in
set_option maxHeartbeats 2000000 in
theorem needed_x3 (A : Option Addr) (c : Nat) (bs : List Int) (w : World) (hr : RI w A c bs) (hok : byOk bs = true) (h2 : 2 ≤ bs.length) (hw : bs.getD 0 0 = 3) : Calls Try.prog 46 #[.slice A bs.length c] w (PNeed w (needW 40 bs)) := by
  obtain ⟨x, y, hx, hy⟩ := two_of h2
  obtain rfl : x = 3 := by rw [← hw, getD_hid hx]
  obtain ⟨hy0, hy1⟩ := byOk_at hok hy
  obtain ⟨n, rfl⟩ := Int.eq_ofNat_of_zero_le hy0
  obtain ⟨ad, _, rfl, HX, hcx⟩ := hr.get (k := 0) (by omega)
  obtain rfl := Option.some.inj (hx.symm.trans HX.out)
  have hcy := RI.cellAt hr hy
  have hcap := hr.cap
  have hbig := hr.big
  unfold maxLen at hbig
  have hlb1 : (1 : Int) < (bs.length : Int) := by omega
  have hlb0 : (0 : Int) < (bs.length : Int) := by omega
  have hlb2 : ¬ (bs.length : Int) < 2 := by omega
  rw [add0] at hcx
  have e1 : ad.add 1 = ⟨ad.block, ad.off + 1, none⟩ := by simp [Addr.add]
  rw [e1] at hcy
  have HY : Hid (bs.getD 1 0 = (n : Int)) := hid (getD_hid hy)
  have HW := hid hw
  have HOK := hid hok
  have HN : Hid (needW 40 bs = if 40 < (n : Int) ∨ ((3 : Int) = 2 ∧ (n : Int) = 0) then none else if (3 : Int) = 1 then some (2 + 2 * n) else if (3 : Int) = 2 then if bs.length < 6 then some 6 else needP 40 bs else some (2 + n)) := by
    unfold Hid needW
    rw [if_neg (by omega), if_neg (by rw [hw]; decide), if_neg (by omega), HY.out, hw]
    rfl
  clear hx hy hy0 hy1 e1 hw hok
  by_cases h40 : 40 < (n : Int)
  · have HF : Hid (needW 40 bs = none) := by unfold Hid; rw [HN.out, if_pos (.inl h40)]
    have hg : (n : Int) > 40 := h40
    go_enter Try.func46, Try.ntmps46
    go_wp2_with fail
    go_quiet (fail)
    go_wp2_with fail
    go_ret2
    exact PNeed_none HF.out (below_drewN (Below.refl _ _) _)
  have hg : ¬ (n : Int) > 40 := h40
  have hw1 : IntKind.i64.wrap (2 * (n : Int)) = 2 * (n : Int) := IntWalk.i64_in _ (by omega)
  have hw2 : IntKind.i64.wrap (2 + 2 * (n : Int)) = 2 + 2 * (n : Int) := IntWalk.i64_in _ (by omega)
  have hw3 : IntKind.i64.wrap (2 + (n : Int)) = 2 + (n : Int) := IntWalk.i64_in _ (by omega)
  have HF : Hid (needW 40 bs = some (2 + n)) := by unfold Hid; rw [HN.out, if_neg (by omega)]; rfl
  go_enter Try.func46, Try.ntmps46
  go_wp2_with fail
  go_quiet (fail)
  go_wp2_with fail
  go_ret2
  exact PNeed_some HF.out (by omega) (below_drewN (Below.refl _ _) _)
set_option maxRecDepth 100000 in
set_option maxHeartbeats 2000000 in
theorem needed_x2 (A : Option Addr) (c : Nat) (bs : List Int) (w : World) (hr : RI w A c bs) (hok : byOk bs = true) (h2 : 2 ≤ bs.length) (hw : bs.getD 0 0 = 2) : Calls Try.prog 46 #[.slice A bs.length c] w (PNeed w (needW 40 bs)) := by
  obtain ⟨x, y, hx, hy⟩ := two_of h2
  obtain rfl : x = 2 := by rw [← hw, getD_hid hx]
  obtain ⟨hy0, hy1⟩ := byOk_at hok hy
  obtain ⟨n, rfl⟩ := Int.eq_ofNat_of_zero_le hy0
  obtain ⟨ad, _, rfl, HX, hcx⟩ := hr.get (k := 0) (by omega)
  obtain rfl := Option.some.inj (hx.symm.trans HX.out)
  have hcy := RI.cellAt hr hy
  have hcap := hr.cap
  have hbig := hr.big
  unfold maxLen at hbig
  have hlb1 : (1 : Int) < (bs.length : Int) := by omega
  have hlb0 : (0 : Int) < (bs.length : Int) := by omega
  have hlb2 : ¬ (bs.length : Int) < 2 := by omega
  rw [add0] at hcx
  have e1 : ad.add 1 = ⟨ad.block, ad.off + 1, none⟩ := by simp [Addr.add]
  rw [e1] at hcy
  have HY : Hid (bs.getD 1 0 = (n : Int)) := hid (getD_hid hy)
  have HW := hid hw
  have HOK := hid hok
  have HN : Hid (needW 40 bs = if 40 < (n : Int) ∨ ((2 : Int) = 2 ∧ (n : Int) = 0) then none else if (2 : Int) = 1 then some (2 + 2 * n) else if (2 : Int) = 2 then if bs.length < 6 then some 6 else needP 40 bs else some (2 + n)) := by
    unfold Hid needW
    rw [if_neg (by omega), if_neg (by rw [hw]; decide), if_neg (by omega), HY.out, hw]
    rfl
  clear hx hy hy0 hy1 e1 hw hok
  by_cases h40 : 40 < (n : Int)
  · have HF : Hid (needW 40 bs = none) := by unfold Hid; rw [HN.out, if_pos (.inl h40)]
    have hg : (n : Int) > 40 := h40
    go_enter Try.func46, Try.ntmps46
    go_wp2_with fail
    go_quiet (fail)
    go_wp2_with fail
    go_ret2
    exact PNeed_none HF.out (below_drewN (Below.refl _ _) _)
  have hg : ¬ (n : Int) > 40 := h40
  have hw1 : IntKind.i64.wrap (2 * (n : Int)) = 2 * (n : Int) := IntWalk.i64_in _ (by omega)
  have hw2 : IntKind.i64.wrap (2 + 2 * (n : Int)) = 2 + 2 * (n : Int) := IntWalk.i64_in _ (by omega)
  have hw3 : IntKind.i64.wrap (2 + (n : Int)) = 2 + (n : Int) := IntWalk.i64_in _ (by omega)
  by_cases hn0 : n = 0
  · subst hn0
    have HF : Hid (needW 40 bs = none) := by unfold Hid; rw [HN.out, if_pos (.inr ⟨rfl, rfl⟩)]
    go_enter Try.func46, Try.ntmps46
    go_wp2_with fail
    go_quiet (fail)
    go_wp2_with fail
    go_ret2
    exact PNeed_none HF.out (below_drewN (Below.refl _ _) _)
  have hn1 : ¬ (n : Int) = 0 := by omega
  have hn2 : ((n : Int) == 0) = false := by rw [beq_eq_false_iff_ne]; exact hn1
  by_cases h6 : bs.length < 6
  · have HF : Hid (needW 40 bs = some 6) := by unfold Hid; rw [HN.out, if_neg (by omega), if_neg (by decide), if_pos rfl, if_pos h6]
    have hg6 : (bs.length : Int) < 6 := by omega
    go_enter Try.func46, Try.ntmps46
    go_wp2_with fail
    go_quiet (fail)
    go_wp2_with fail
    go_ret2
    exact PNeed_some HF.out rfl (below_drewN (Below.refl _ _) _)
  have HF : Hid (needW 40 bs = needP 40 bs) := by unfold Hid; rw [HN.out, if_neg (by omega), if_neg (by decide), if_pos rfl, if_neg h6]
  have hg6 : ¬ (bs.length : Int) < 6 := by omega
  have hc6 : (6 : Int) ≤ (c : Int) := by omega
  have hl6 : (6 : Int) ≤ (bs.length : Int) := by omega
  have hrL := RI.takeAt (RI.cutAt hr (k := 2) (by omega)) (k := 4) (by rw [List.length_drop]; omega)
  have hrF := RI.cutAt hr (k := 6) (by omega)
  have HLL : Hid (4 = ((bs.drop 2).take 4).length) := by unfold Hid; rw [List.length_take, List.length_drop]; omega
  have HFL : Hid (bs.length - 6 = (bs.drop 6).length) := by unfold Hid; rw [List.length_drop]
  have HOL : Hid (byOk ((bs.drop 2).take 4) = true) := hid (byOk_all.2 fun x hx => byOk_all.1 HOK.out x (List.mem_of_mem_drop (List.mem_of_mem_take hx)))
  have HOF : Hid (byOk (bs.drop 6) = true) := hid (byOk_all.2 fun x hx => byOk_all.1 HOK.out x (List.mem_of_mem_drop hx))
  go_enter Try.func46, Try.ntmps46
  go_wp2_with fail
  go_quiet (fail)
  have hbw0 : Below w.heap.size w (w.drewN nq) := below_drewN (Below.refl _ _) _
  have hrL0 := hrL.below hbw0
  have hrF0 := hrF.below hbw0
  have hr0 := hr.below hbw0
  rw [if_neg (by omega), Option.map_some] at hrL0
  clear hcx hcy hrL hrF
  generalize w.drewN nq = w0 at *
  go_wp2_with fail
  refine (lengthsIn4_len _ _ _ _ _ HLL.out hrL0 HOL.out (by rw [List.length_take]; omega)).mono ?_
  rintro _ w1 ⟨A1, c1, ls, hls, ho1, rfl, hb1⟩
  have HLS : Hid (ls = lensAt bs) := hid hls.out
  go_wp2_with fail
  refine (CodesOf_any _ _ _ _ ho1.ri).mono ?_
  rintro _ w2 ⟨A2, c2, cs, hcs, ho2, rfl, hb2⟩
  by_cases hv : lenVal ls = true
  rotate_left
  · obtain rfl : cs = [] := by rw [hcs.out]; unfold codesV; rw [if_neg hv]
    have HN2 : Hid (needW 40 bs = none) := by unfold Hid; rw [HF.out]; unfold needP; rw [if_neg (by rw [← HLS.out]; exact hv)]
    have hq : ((([] : List Int).length : Int) == 0) = true := by simp
    clear hv hls
    go_wp2_with fail
    go_ret2
    exact PNeed_none HN2.out (below_on (below_on hbw0 hb1) hb2)
  have HCS : Hid (cs = codesL ls) := by unfold Hid; rw [hcs.out]; unfold codesV; rw [if_pos hv]
  obtain ⟨h8, hall⟩ := lenVal_ok hv
  have hc8 : cs.length = 8 := by rw [HCS.out]; simp [codesL]
  have HC8 := hid hc8
  have H8 := hid h8
  have hl1 : ls.length ≤ 8 := by omega
  have hl2 : 8 ≤ ls.length := by omega
  have hq : ((cs.length : Int) == 0) = false := by rw [beq_eq_false_iff_ne]; omega
  have HV := hid hv
  have HALL := hid hall
  have hbw2 := below_on (below_on hbw0 hb1) hb2
  clear hv h8 hall hc8 hcs hls
  rcases (show c = 6 ∨ 6 < c by omega) with rfl | hc7
  all_goals
    first
      | (rw [if_pos rfl, Nat.sub_self] at hrF0; replace HFL : Hid (0 = (bs.drop 6).length) := by unfold Hid; rw [List.length_drop]; omega)
      | (rw [if_neg (by omega), Option.map_some, show ad.add 6 = ⟨ad.block, ad.off + 6, none⟩ by simp [Addr.add]] at hrF0)
    go_wp2_with fail
    refine (firstBits_len _ _ _ _ _ HFL.out ((hrF0.below hb1).below hb2) HOF.out).mono ?_
    rintro _ w3 ⟨A3, c3, fb, hfb, ho3, rfl, hb3⟩
    have HFB : Hid (fb = bitsAt bs 40) := hid hfb.out
    have HFBL : Hid (fb.length = 8 * min 40 (bs.length - 6)) := by unfold Hid; rw [hfb.out, bytesBits_length, List.length_take, List.length_drop]
    have hfl : fb.length ≤ 320 := by rw [hfb.out, bytesBits_length, List.length_take]; omega
    have HBK : Hid (bitOk fb = true) := hid (bitOk_iff.2 ⟨by omega, by rw [hfb.out]; exact bytesBits_bit⟩)
    have hbw3 := below_on hbw2 hb3
    have hrL3 : RI w3 A1 c1 ls := (ho1.ri.below hb2).below hb3
    have hrC3 : RI w3 A2 c2 cs := ho2.ri.below hb3
    have hrF3 : RI w3 A3 c3 fb := ho3.ri
    have HP : Hid (needW 40 bs = if (runA fb ls n).2 = true then some (6 + ((runA fb ls n).1 + 7) / 8) else if fb.length < (runA fb ls n).1 + 8 then some (bs.length + 1) else none) := by
      unfold Hid
      rw [HF.out]
      unfold needP
      rw [← HLS.out, ← HFB.out, if_pos HV.out, HY.out, Int.toNat_natCast]
    clear hfb hrF0 hrL0 hr0 ho1 ho2 ho3 hb1 hb2 hb3 hbw2 hbw0 HN
    clear hlb2 hlb0 hlb1
    go_wp2_with fail
    go_loopw [9, 64] (fun u t wr => ∃ k a : Nat, k ≤ n ∧ a ≤ fb.length ∧ t = .int .i64 k ∧ u = .int .i64 a ∧ Hid (runA fb ls k = (a, true)) ∧ w3 = wr) (fun _ t _ => n - (intOf t).toNat)
    case atStart => exact ⟨0, 0, by omega, by omega, rfl, rfl, hid rfl, rfl⟩
    case round =>
      obtain ⟨k, a, hk, ha, rfl, rfl, hR, rfl⟩ := hrel
      by_cases hlt : k < n
      · have hkN : (k : Int) < (n : Int) := by omega
        go_wp2_with fail
        refine (symbolAt_any _ _ _ _ _ _ fb ls cs a _ hrF3 hrL3 hrC3 HBK.out ha HC8.out H8.out HALL.out).mono ?_
        rintro e w' ⟨m, hm, rfl, rfl⟩
        have HM : Hid (m = symF fb a ls (codesL ls)) := by unfold Hid; rw [hm.out, HCS.out]
        clear hm
        rcases symF_cases fb a ls (codesL ls) with h1 | ⟨s, hs8, h1⟩
        · obtain rfl : m = -1 := HM.out.trans h1
          have HR : Hid (runA fb ls n = (a, false)) := hid (runA_stop hR.out h1 hlt)
          have hsub : IntKind.i64.wrap ((fb.length : Int) - (a : Int)) = (fb.length : Int) - (a : Int) := IntWalk.i64_in _ (by omega)
          by_cases h8 : fb.length < a + 8
          · have hg8 : (fb.length : Int) - (a : Int) < 8 := by omega
            have hbl : bs.length < 46 := by have h9 := runA_le (bits := fb) HV.out k; rw [hR.out] at h9; have h10 := HFBL.out; simp only at h9; omega
            have hadd : IntKind.i64.wrap ((bs.length : Int) + 1) = (bs.length : Int) + 1 := IntWalk.i64_in _ (by omega)
            have HN2 : Hid (needW 40 bs = some (bs.length + 1)) := by unfold Hid; rw [HP.out, HR.out, if_neg (by simp), if_pos h8]
            clear h1
            go_wp2_with fail
            go_ret2
            exact PNeed_some HN2.out (by omega) hbw3
          · have hg8 : ¬ (fb.length : Int) - (a : Int) < 8 := by omega
            have HN2 : Hid (needW 40 bs = none) := by unfold Hid; rw [HP.out, HR.out, if_neg (by simp), if_neg h8]
            clear h1
            go_wp2_with fail
            go_ret2
            exact PNeed_noneB (decide_eq_false (by omega)) HN2.out hbw3
        · obtain rfl : m = (s : Int) := HM.out.trans h1
          have HR := hid (runA_step hR.out h1)
          have hin := (symF_len h1).2
          obtain ⟨l, hl⟩ : ∃ l, l = len8 ls s := ⟨_, rfl⟩
          rw [← hl] at HR hin
          obtain ⟨adl, y, rfl, HYL, hcy⟩ := hrL3.get (k := s) (by omega)
          obtain rfl : y = (l : Int) := by
            have := len8_at HYL.out (HALL.out y (List.mem_of_getElem? HYL.out)).1
            omega
          have h0s : (0 : Int) ≤ (s : Int) := by omega
          have h1s : (s : Int) < (ls.length : Int) := by omega
          have hs0 : ¬ (s : Int) < 0 := by omega
          clear h1 hl
          go_wp2_with fail
          go_roundw
          case rel => exact ⟨k + 1, a + l, by omega, by omega, by go_num, by go_num, HR, trivial⟩
          case measure => simp [intOf]; omega
      · have hkN : ¬ (k : Int) < (n : Int) := by omega
        have HN2 : Hid (needW 40 bs = some (6 + (a + 7) / 8)) := by unfold Hid; rw [HP.out, show n = k by omega, hR.out, if_pos rfl]
        go_wp2_with fail
        go_ret2
        exact PNeed_some HN2.out (by omega) hbw3
theorem needed_any (A : Option Addr) (c : Nat) (bs : List Int) (w : World) (hr : RI w A c bs) (hok : byOk bs = true) : Calls Try.prog 46 #[.slice A bs.length c] w (PNeed w (needW 40 bs)) := by
  by_cases h0 : bs.length = 0
  · exact needed_w0 A c bs w hr h0
  by_cases h1 : bs.length < 2 ∨ 3 < bs.getD 0 0
  · exact needed_w1 A c bs w hr (by omega) h1
  have h2 : 2 ≤ bs.length := by omega
  obtain ⟨x, _, hx, _⟩ := two_of h2
  have hx0 := (byOk_at hok hx).1
  have hxv := getD_hid hx
  by_cases k0 : bs.getD 0 0 = 0
  · exact needed_x0 A c bs w hr hok h2 k0
  by_cases k1 : bs.getD 0 0 = 1
  · exact needed_x1 A c bs w hr hok h2 k1
  by_cases k2 : bs.getD 0 0 = 2
  · exact needed_x2 A c bs w hr hok h2 k2
  by_cases k3 : bs.getD 0 0 = 3
  · exact needed_x3 A c bs w hr hok h2 k3
  omega
set_option maxHeartbeats 1000000 in
theorem BlockState_any (A : Option Addr) (c : Nat) (bs : List Int) (w : World) (hr : RI w A c bs) : Calls Try.prog 15 #[.slice A bs.length c] w (PNb w (stF bs)) := by
  go_enter Try.func15, Try.ntmps15
  go_wp2_with fail
  refine (bytesOk_any _ _ _ _ hr).mono ?_
  rintro e w' ⟨b, hb, rfl, rfl⟩
  by_cases hok : byOk bs = true
  rotate_left
  · obtain rfl : b = false := hb.out.trans (by simpa using hok)
    have HF : Hid (stF bs = 2) := by unfold Hid stF; rw [if_neg hok]
    clear hok
    go_wp2_with fail
    go_ret
    exact ⟨2, hid HF.out.symm, rfl, Below.refl _ _⟩
  obtain rfl : b = true := hb.out.trans hok
  have HOK := hid hok
  clear hok hb
  go_wp2_with fail
  refine (needed_any _ _ _ _ hr HOK.out).mono ?_
  rintro _ w1 ⟨i, b, hb, hn, rfl, hb1⟩
  cases b with
  | false =>
    have HN : Hid (needW 40 bs = none) := hid (Option.not_isSome_iff_eq_none.1 (by rw [← hb.out]; decide))
    have HF : Hid (stF bs = 2) := by unfold Hid stF; rw [if_pos HOK.out, HN.out]
    go_wp2_with fail
    go_ret
    exact ⟨2, hid HF.out.symm, rfl, hb1⟩
  | true =>
    obtain ⟨n, hn1, rfl⟩ := hn.out rfl
    have HN : Hid (needW 40 bs = some n) := hid hn1
    clear hb hn hn1
    by_cases hlt : bs.length < n
    · have hg : (bs.length : Int) < (n : Int) := by omega
      have HF : Hid (stF bs = 0) := by unfold Hid stF; rw [if_pos HOK.out, HN.out]; simp only; rw [if_pos hlt]
      go_wp2_with fail
      go_ret
      exact ⟨0, hid HF.out.symm, rfl, hb1⟩
    · have hg : ¬ (bs.length : Int) < (n : Int) := by omega
      have HF : Hid (stF bs = if (opF bs).isSome = true then 1 else 2) := by unfold Hid stF; rw [if_pos HOK.out, HN.out]; simp only; rw [if_neg hlt]
      go_wp2_with fail
      refine (BlockOpen_any _ _ _ _ (hr.below hb1)).mono ?_
      rintro _ w2 ⟨A2, c2, ys, m, b, _, _, hb, _, rfl, hb2⟩
      cases b with
      | false =>
        have HF2 : Hid (stF bs = 2) := by
          unfold Hid; rw [HF.out]
          cases ho : opF bs with
          | none => rfl
          | some r => have := hb.out; rw [ho] at this; cases this
        go_wp2_with fail
        go_ret
        exact ⟨2, hid HF2.out.symm, rfl, below_on hb1 hb2⟩
      | true =>
        have HF2 : Hid (stF bs = 1) := by
          unfold Hid; rw [HF.out]
          cases ho : opF bs with
          | none => have := hb.out; rw [ho] at this; cases this
          | some r => rfl
        go_wp2_with fail
        go_ret
        exact ⟨1, hid HF2.out.symm, rfl, below_on hb1 hb2⟩
end Go.Proofs.Ytamljhjbmeikiaa
