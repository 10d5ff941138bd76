/- Joined texts: contracts and plain facts that the laws share. No condition. -/
import Derived.Test.YtamljhjbmeikiaaGMa
import Derived.Test.YtamljhjbmeikiaaGCk
import Derived.Test.YtamljhjbmeikiaaGPc
/- Contracts: budgets. No condition. -/
namespace Go.Proofs.Ytamljhjbmeikiaa
open Go Go.RowKit

def budOk (a l p : Int) : Bool := inB 0 9999 a && (inB 0 a l && inB (a - l) a p)
def budNew (n : Int) : Option (Int × Int × Int) := if inB 0 9999 n then some (n, n, 0) else none
def budTake (a l p n : Int) : Option (Int × Int × Int) := if budOk a l p && inB 0 l n then some (a, l - n, max p (a - (l - n))) else none
def budGive (a l p n : Int) : Option (Int × Int × Int) := if budOk a l p && inB 0 (a - l) n then some (a, l + n, p) else none
def PB1 (w : World) (o : Obj) (f : Bool) (e : Ending) (w' : World) : Prop := ∃ b, Hid (b = f) ∧ e = .returned (.bool b) ∧ w.alloc o = w'
theorem budOk_bd {a l p : Int} (h : budOk a l p = true) : 0 ≤ a ∧ a ≤ 9999 ∧ 0 ≤ l ∧ l ≤ a ∧ a - l ≤ p ∧ p ≤ a := by
  simp [budOk, inB] at h; omega
/-- What a call answers: a budget and a bool. -/
def PBud (w : World) (f : Option (Int × Int × Int)) (e : Ending) (w' : World) : Prop :=
  ∃ a l p b, Hid (b = f.isSome) ∧ Hid ((a, l, p) = f.getD (0, 0, 0)) ∧ e = .returned (.tuple #[.agg #[.int .i64 a, .int .i64 l, .int .i64 p], .bool b]) ∧ Below w.heap.size w w'

theorem budOk_of {a l p : Int} (h1 : inB 0 9999 a = true) (h2 : inB 0 a l = true) (h3 : inB (a - l) a p = true) : budOk a l p = true := by simp [budOk, h1, h2, h3]
theorem budOk_no1 {a l p : Int} (h1 : inB 0 9999 a = false) : budOk a l p = false := by simp [budOk, h1]
theorem budOk_no2 {a l p : Int} (h1 : inB 0 a l = false) : budOk a l p = false := by simp [budOk, h1]
theorem budOk_no3 {a l p : Int} (h1 : inB (a - l) a p = false) : budOk a l p = false := by simp [budOk, h1]

theorem budgetOk_any (a l p : Int) (w : World) : Calls Try.prog 54 #[.agg #[.int .i64 a, .int .i64 l, .int .i64 p]] w (PB1 w (.cells #[.int .i64 a, .int .i64 l, .int .i64 p] 33) (budOk a l p)) := by
  go_enter Try.func54, Try.ntmps54
  go_wp2_with fail
  refine (within_or _ _ _ _).mono ?_
  rintro e w' (⟨hb1, h1, h2, rfl, rfl⟩ | ⟨hb1, rfl, rfl⟩)
  rotate_left
  · go_wp2_with fail
    go_ret
    exact ⟨_, hid (budOk_no1 hb1.out).symm, rfl, rfl⟩
  go_wp2_with fail
  refine (within_or _ _ _ _).mono ?_
  rintro e w' (⟨hb2, h3, h4, rfl, rfl⟩ | ⟨hb2, rfl, rfl⟩)
  rotate_left
  · go_wp2_with fail
    go_ret
    exact ⟨_, hid (budOk_no2 hb2.out).symm, rfl, rfl⟩
  go_wp2_with fail
  refine (within_or _ _ _ _).mono ?_
  rintro e w' (⟨hb3, _, _, rfl, rfl⟩ | ⟨hb3, rfl, rfl⟩)
  · go_wp2_with fail
    go_ret
    exact ⟨_, hid (budOk_of hb1.out hb2.out hb3.out).symm, rfl, rfl⟩
  · go_wp2_with fail
    go_ret
    exact ⟨_, hid (budOk_no3 hb3.out).symm, rfl, rfl⟩

theorem l23Valid_any (a l p : Int) (w : World) : Calls Try.prog 50 #[.agg #[.int .i64 a, .int .i64 l, .int .i64 p]] w (PB1 w (.cells #[.int .i64 a, .int .i64 l, .int .i64 p] 33) (budOk a l p)) := by
  go_enter Try.func50, Try.ntmps50
  go_wp2_with fail
  refine (l6In_or _ _ _ _).mono ?_
  rintro e w' (⟨hb1, h1, h2, rfl, rfl⟩ | ⟨hb1, rfl, rfl⟩)
  rotate_left
  · go_wp2_with fail
    go_ret
    exact ⟨_, hid (budOk_no1 hb1.out).symm, rfl, rfl⟩
  go_wp2_with fail
  refine (l6In_or _ _ _ _).mono ?_
  rintro e w' (⟨hb2, h3, h4, rfl, rfl⟩ | ⟨hb2, rfl, rfl⟩)
  rotate_left
  · go_wp2_with fail
    go_ret
    exact ⟨_, hid (budOk_no2 hb2.out).symm, rfl, rfl⟩
  go_wp2_with fail
  refine (l6In_or _ _ _ _).mono ?_
  rintro e w' (⟨hb3, _, _, rfl, rfl⟩ | ⟨hb3, rfl, rfl⟩)
  · go_wp2_with fail
    go_ret
    exact ⟨_, hid (budOk_of hb1.out hb2.out hb3.out).symm, rfl, rfl⟩
  · go_wp2_with fail
    go_ret
    exact ⟨_, hid (budOk_no3 hb3.out).symm, rfl, rfl⟩

theorem BudgetTake_any (a l p n : Int) (w : World) : Calls Try.prog 55 #[.agg #[.int .i64 a, .int .i64 l, .int .i64 p], .int .i64 n] w (PBud w (budTake a l p n)) := by
  go_enter Try.func55, Try.ntmps55
  go_wp2_with fail
  refine (budgetOk_any _ _ _ _).mono ?_
  rintro e w' ⟨b, hb1, rfl, rfl⟩
  cases b
  · go_wp2_with fail
    refine bodyPost_ret (v := .tuple #[.agg #[.int .i64 0, .int .i64 0, .int .i64 0], .bool false]) (by simp [results, Try.results55, go_sem]) rfl ?_
    exact ⟨0, 0, 0, false, by simp [Hid, budTake, hb1.out.symm], by simp [Hid, budTake, hb1.out.symm], rfl, (((Below.refl _ _).alloc (Nat.le_refl _) _).alloc (by simp) _).alloc (by simp; omega) _⟩
  obtain ⟨h1, h2, h3, h4, h5, h6⟩ := budOk_bd hb1.out.symm
  go_wp2_with fail
  refine (within_or _ _ _ _).mono ?_
  rintro e w' (⟨hb2, h7, h8, rfl, rfl⟩ | ⟨hb2, rfl, rfl⟩)
  rotate_left
  · go_wp2_with fail
    refine bodyPost_ret (v := .tuple #[.agg #[.int .i64 0, .int .i64 0, .int .i64 0], .bool false]) (by simp [results, Try.results55, go_sem]) rfl ?_
    exact ⟨0, 0, 0, false, by simp [Hid, budTake, hb1.out.symm, hb2.out], by simp [Hid, budTake, hb1.out.symm, hb2.out], rfl, (((Below.refl _ _).alloc (Nat.le_refl _) _).alloc (by simp) _).alloc (by simp; omega) _⟩
  obtain hm | hm : p < a - (l - n) ∨ a - (l - n) ≤ p := by omega
  · go_wp2_with fail
    refine bodyPost_ret (v := .tuple #[.agg #[.int .i64 a, .int .i64 (l - n), .int .i64 (a - (l - n))], .bool true]) (by simp [results, Try.results55, go_sem]) rfl ?_
    exact ⟨a, (l - n), (a - (l - n)), true, by simp [Hid, budTake, hb1.out.symm, hb2.out], by simp [Hid, budTake, hb1.out.symm, hb2.out]; omega, rfl, (((Below.refl _ _).alloc (Nat.le_refl _) _).alloc (by simp) _).alloc (by simp; omega) _⟩
  · go_wp2_with fail
    refine bodyPost_ret (v := .tuple #[.agg #[.int .i64 a, .int .i64 (l - n), .int .i64 p], .bool true]) (by simp [results, Try.results55, go_sem]) rfl ?_
    exact ⟨a, (l - n), p, true, by simp [Hid, budTake, hb1.out.symm, hb2.out], by simp [Hid, budTake, hb1.out.symm, hb2.out]; omega, rfl, (((Below.refl _ _).alloc (Nat.le_refl _) _).alloc (by simp) _).alloc (by simp; omega) _⟩

theorem BudgetGive_any (a l p n : Int) (w : World) : Calls Try.prog 56 #[.agg #[.int .i64 a, .int .i64 l, .int .i64 p], .int .i64 n] w (PBud w (budGive a l p n)) := by
  go_enter Try.func56, Try.ntmps56
  go_wp2_with fail
  refine (budgetOk_any _ _ _ _).mono ?_
  rintro e w' ⟨b, hb1, rfl, rfl⟩
  cases b
  · go_wp2_with fail
    refine bodyPost_ret (v := .tuple #[.agg #[.int .i64 0, .int .i64 0, .int .i64 0], .bool false]) (by simp [results, Try.results56, go_sem]) rfl ?_
    exact ⟨0, 0, 0, false, by simp [Hid, budGive, hb1.out.symm], by simp [Hid, budGive, hb1.out.symm], rfl, (((Below.refl _ _).alloc (Nat.le_refl _) _).alloc (by simp) _).alloc (by simp; omega) _⟩
  obtain ⟨h1, h2, h3, h4, h5, h6⟩ := budOk_bd hb1.out.symm
  go_wp2_with fail
  refine (within_or _ _ _ _).mono ?_
  rintro e w' (⟨hb2, h7, h8, rfl, rfl⟩ | ⟨hb2, rfl, rfl⟩)
  rotate_left
  · go_wp2_with fail
    refine bodyPost_ret (v := .tuple #[.agg #[.int .i64 0, .int .i64 0, .int .i64 0], .bool false]) (by simp [results, Try.results56, go_sem]) rfl ?_
    exact ⟨0, 0, 0, false, by simp [Hid, budGive, hb1.out.symm, hb2.out], by simp [Hid, budGive, hb1.out.symm, hb2.out], rfl, (((Below.refl _ _).alloc (Nat.le_refl _) _).alloc (by simp) _).alloc (by simp; omega) _⟩
  go_wp2_with fail
  refine bodyPost_ret (v := .tuple #[.agg #[.int .i64 a, .int .i64 (l + n), .int .i64 p], .bool true]) (by simp [results, Try.results56, go_sem]) rfl ?_
  exact ⟨a, (l + n), p, true, by simp [Hid, budGive, hb1.out.symm, hb2.out], by simp [Hid, budGive, hb1.out.symm, hb2.out], rfl, (((Below.refl _ _).alloc (Nat.le_refl _) _).alloc (by simp) _).alloc (by simp; omega) _⟩

theorem l23Take_any (a l p n : Int) (w : World) (h : budOk a l p = true) (hn : 0 ≤ n) (hn' : n ≤ l) : Calls Try.prog 52 #[.agg #[.int .i64 a, .int .i64 l, .int .i64 p], .int .i64 n] w
    fun e w' => e = .returned (.agg #[.int .i64 a, .int .i64 (l - n), .int .i64 (max p (a - (l - n)))]) ∧ Below w.heap.size w w' := by
  obtain ⟨h1, h2, h3, h4, h5, h6⟩ := budOk_bd h
  obtain hm | hm : p < a - (l - n) ∨ a - (l - n) ≤ p := by omega
  · have hx : Hid (max p (a - (l - n)) = a - (l - n)) := by unfold Hid; omega
    go_enter Try.func52, Try.ntmps52
    go_wp2_with fail
    rw [hx.out]
    exact bodyPost_ret (v := .agg #[.int .i64 a, .int .i64 (l - n), .int .i64 (a - (l - n))]) (by simp [results, Try.results52, go_sem]) rfl ⟨rfl, ((Below.refl _ _).alloc (Nat.le_refl _) _).alloc (by simp) _⟩
  · have hx : Hid (max p (a - (l - n)) = p) := by unfold Hid; omega
    go_enter Try.func52, Try.ntmps52
    go_wp2_with fail
    rw [hx.out]
    exact bodyPost_ret (v := .agg #[.int .i64 a, .int .i64 (l - n), .int .i64 p]) (by simp [results, Try.results52, go_sem]) rfl ⟨rfl, ((Below.refl _ _).alloc (Nat.le_refl _) _).alloc (by simp) _⟩

theorem bcellB {W w1 : World} (hb : Below W.heap.size W w1) : (∀ b o, b < W.heap.size → w1.cell? ⟨b, o, none⟩ = W.cell? ⟨b, o, none⟩) ∧ (∀ b o, b < W.heap.size → w1.frozen? ⟨b, o, none⟩ = W.frozen? ⟨b, o, none⟩) :=
  ⟨fun b o h => hb.cell (p := ⟨b, o, none⟩) h, fun b o h => hb.frozen (p := ⟨b, o, none⟩) h⟩
theorem eqBudget_any (a l p : Int) (w : World) : Calls Try.prog 22 #[.agg #[.int .i64 a, .int .i64 l, .int .i64 p], .agg #[.int .i64 a, .int .i64 l, .int .i64 p]] w (PBb w true) := by
  go_enter Try.func22, Try.ntmps22
  go_wp2
  go_ret
  exact ⟨_, hid rfl, rfl, ((Below.refl _ _).alloc (Nat.le_refl _) _).alloc (by simp) _⟩

theorem toBudget_any (a l p : Int) (w : World) : Calls Try.prog 19 #[.agg #[.int .i64 a, .int .i64 l, .int .i64 p]] w
    fun e w' => e = .returned (.agg #[.int .i64 a, .int .i64 l, .int .i64 p]) ∧ Below w.heap.size w w' := by
  go_enter Try.func19, Try.ntmps19
  go_wp2
  refine bodyPost_ret (v := .agg #[.int .i64 a, .int .i64 l, .int .i64 p]) (by simp [results, Try.results19, go_sem]) rfl ⟨rfl, ?_⟩
  exact (((Below.refl _ _).alloc (Nat.le_refl _) _).alloc (by simp) _).alloc (by simp; omega) _
end Go.Proofs.Ytamljhjbmeikiaa
/- Contracts: a frame's blocks are read, with their sizes. No condition. -/
namespace Go.Proofs.Ytamljhjbmeikiaa
open Go Go.RowKit
def PFrameN (w : World) (bs : List Int) (e : Ending) (w' : World) : Prop :=
  (Hid (frN bs = none) ∧ e = .returned (.tuple #[.slice none 0 0, .int .i64 0, .int .i64 0, .bool false]) ∧ Below w.heap.size w w') ∨
  ∃ (E : Option Addr) (c : Nat) (xs : List Bk) (p : Nat) (u v : Int), Hid (frN bs = some (xs.map (·.1), p)) ∧ xs.length ≤ 120 ∧ OS eBk w' w.heap.size 68 E c xs ∧ Hid (u = bs.getD p 0 ∧ v = bs.getD (p + 1) 0) ∧
    e = .returned (.tuple #[.slice E xs.length c, .int .i64 u, .int .i64 v, .bool true]) ∧ Below w.heap.size w w'
set_option maxRecDepth 100000 in
set_option maxHeartbeats 2000000 in
theorem frameN_any (A : Option Addr) (c : Nat) (bs : List Int) (w : World) (hr : RI w A c bs) (hn : bs.length ≤ 1099511627776) : Calls Try.prog 53 #[.slice A bs.length c] w (PFrameN w bs) := by
  go_enter Try.func53, Try.ntmps53
  go_wp2_with fail
  refine (bytesOk_any _ _ _ _ hr).mono ?_
  rintro e w' ⟨b, hb, rfl, rfl⟩
  by_cases hok : byOk bs = true
  rotate_left
  · obtain rfl : b = false := hb.out.trans (by simpa using hok)
    have HF : Hid (frN bs = none) := hid (frN_no (fun h => hok h.1))
    clear hok
    go_wp2_with fail
    (try simp only [Exit.inBlock, Exit.then]); refine bodyPost_ret (results_tmp4 rfl _ _ _) rfl ?_
    exact .inl ⟨HF, rfl, Below.refl _ _⟩
  obtain rfl : b = true := hb.out.trans hok
  have HOK := hid hok
  clear hok hb
  by_cases h0 : bs.length = 0
  · have hq0 : ((bs.length : Int) == 0) = true := by simp [h0]
    have HF : Hid (frN bs = none) := hid (frN_no (fun h => by omega))
    clear h0
    go_wp2_with fail
    (try simp only [Exit.inBlock, Exit.then]); refine bodyPost_ret (results_tmp4 rfl _ _ _) rfl ?_
    exact .inl ⟨HF, rfl, Below.refl _ _⟩
  have hq0 : ((bs.length : Int) == 0) = false := by rw [beq_eq_false_iff_ne]; omega
  have hpos : 0 < bs.length := by omega
  have hposI : (0 : Int) < (bs.length : Int) := by omega
  have hcap := hr.cap
  obtain ⟨x, hx⟩ : ∃ x, bs[0]? = some x := ⟨_, List.getElem?_eq_getElem hpos⟩
  have hcx : ∃ ad, A = some ad ∧ w.cell? ad = some (.int .i64 x) := by
    obtain ⟨ad, x', h1, HX, h2⟩ := hr.get (k := 0) hpos
    obtain rfl := Option.some.inj (hx.symm.trans HX.out)
    rw [add0] at h2
    exact ⟨ad, h1, h2⟩
  obtain ⟨ad, rfl, hcx⟩ := hcx
  have hx0 := getD_hid hx
  by_cases h90 : x = 90
  rotate_left
  · have hq : (x != 90) = true := by rw [bne_iff_ne]; exact h90
    have HF : Hid (frN bs = none) := hid (frN_no (fun h => h90 (hx0.symm.trans h.2.2)))
    clear h0 hx hx0 h90
    go_wp2_with fail
    (try simp only [Exit.inBlock, Exit.then]); refine bodyPost_ret (results_tmp4 rfl _ _ _) rfl ?_
    exact .inl ⟨HF, rfl, Below.refl _ _⟩
  subst h90
  obtain ⟨ds, HD⟩ : ∃ ds, Hid (ds = bs.drop 1) := ⟨_, hid rfl⟩
  have HF := hid (frN_on ⟨HOK.out, hpos, hx0⟩ HD.out)
  clear h0 hx hx0
  go_wp2_with fail
  refine (VarGet_any _ _ bs ds _ HD hr HOK.out hpos hn).mono ?_
  rintro _ w1 ⟨m, a, ok, hokv, hsv, rfl, hb1⟩
  cases ok with
  | false =>
    have HN : Hid (frN bs = none) := by
      unfold Hid
      rw [HF.out]
      cases h : vgL ds with
      | none => rfl
      | some r => have := hokv.out; rw [h] at this; cases this
    go_wp2_with fail
    (try simp only [Exit.inBlock, Exit.then]); refine bodyPost_ret (results_tmp4 rfl _ _ _) rfl ?_
    exact .inl ⟨HN, rfl, hb1⟩
  | true =>
  obtain ⟨M, l, hvg, rfl, ha⟩ := hsv.out rfl
  have HV := hid hvg
  have hbl := vg_is (byOk_all.2 fun y hy => byOk_all.1 HOK.out y (List.mem_of_mem_drop (by rw [← HD.out]; exact hy))) hvg
  have hll : 1 + l ≤ bs.length := by
    have h1 := congrArg List.length hbl.2.2
    have h2 := congrArg List.length HD.out
    rw [List.length_append, List.length_drop, ← hbl.2.1] at h1
    rw [List.length_drop] at h2
    have := (varR_len hbl.1).1
    omega
  obtain ⟨a0, Ha0⟩ : ∃ a0, Hid (a0 = 1 + l) := ⟨_, hid rfl⟩
  obtain rfl : a = (a0 : Int) := by rw [ha, Ha0.out]; omega
  have hal : a0 ≤ bs.length := by rw [Ha0.out]; exact hll
  by_cases hm : 120 < M
  · have hg : (M : Int) > 120 := by omega
    have HN : Hid (frN bs = none) := by unfold Hid; rw [HF.out, HV.out]; simp only; rw [if_pos hm]
    clear hokv hsv hvg ha hbl hll
    go_wp2_with fail
    (try simp only [Exit.inBlock, Exit.then]); refine bodyPost_ret (results_tmp4 rfl _ _ _) rfl ?_
    exact .inl ⟨HN, rfl, hb1⟩
  have hg : ¬ (M : Int) > 120 := by omega
  have HF2 : Hid (frN bs = match fn bs a0 M with
      | none => none
      | some (ls, e) => if bs.length = e + 2 then some (ls, e) else none) := by unfold Hid; rw [HF.out, HV.out]; simp only; rw [if_neg hm, Ha0.out] <;> rfl
  clear hokv hsv hvg ha hbl hll HF
  have hr1 := hr.below hb1
  have hoe := OS.empty eBk w1 w.heap.size 68 hb1.size
  have hbe := below_on hb1 (below_new w1 (.cells #[] 68))
  go_wp2_with fail
  go_loopw [7, 9, 41] (fun t v i wr => ∃ (k a : Nat) (E : Option Addr) (cE : Nat) (xs : List Bk), k ≤ M ∧ i = .int .i64 k ∧ t = .int .i64 a ∧ a ≤ bs.length ∧ v = .slice E xs.length cE ∧ Hid (fn bs a0 k = some (xs.map (·.1), a)) ∧ xs.length ≤ k ∧ OS eBk wr w.heap.size 68 E cE xs ∧ Hid (inn wr w.heap.size E xs) ∧ Below w.heap.size w wr) (fun _ _ i _ => M - (intOf i).toNat)
  case atStart => exact ⟨0, a0, _, _, [], by omega, rfl, rfl, hal, rfl, hid rfl, by simp, hoe, hid (fun x hx => by simp at hx), hbe⟩
  case round =>
    clear hoe hbe hr1
    obtain ⟨k, a, E, cE, xs, hk, rfl, rfl, hal2, rfl, hfb, hxl, ho, HI, hbw⟩ := hrel
    obtain ⟨wo, rfl⟩ : ∃ wo : World, wo = wr := ⟨_, rfl⟩
    have hwz := hbw.size
    by_cases hlt : k < M
    · have hkI : (k : Int) < (M : Int) := by omega
      go_wp2_with (first | (refine wpl_cutI intT rfl _ _ _ rfl rfl (hr.below hbw) a bs.length ⟨_, _, rfl, rfl⟩ rfl hal2 (Nat.le_refl _) ?_; intro A3 c3 zs hzs hr3 hb3 hlz1 hlz2))
      have HZ : Hid (zs = bs.drop a) := by unfold Hid; rw [hzs.out, List.take_of_length_le (Nat.le_refl _)]
      refine (BlockOpen_of _ _ zs _ _ HZ.out hr3).mono ?_
      rintro _ w2 ⟨A2, c2, ys, n, ok, hys, hn2, hok2, ho2, rfl, hb2⟩
      have hdis : ∀ b, blk A2 = some b → blk E ≠ some b := fun b h1 h2 => by
        have h3 := (OI.lt ho2 h1).1
        have h4 := (OS.lt ho h2).2
        omega
      rcases opR_case _ hys.out hn2.out hok2.out with ⟨hop, rfl⟩ | ⟨N, hop, rfl, rfl⟩
      · have HN : Hid (frN bs = none) := by unfold Hid; rw [HF2.out, fn_no (fn_stop hfb.out hop) (by omega)]
        clear hys hn2 hok2 hop hzs hr3 hb3
        go_wp2_with fail
        (try simp only [Exit.inBlock, Exit.then]); refine bodyPost_ret (results_tmp4 rfl _ _ _) rfl ?_
        exact .inl ⟨HN, rfl, below_on hbw hb2⟩
      · have HFB := hid (fn_step hfb.out hop)
        obtain ⟨bb, -, -, -, -, hNl, -, -⟩ := op_split hop
        have haN : a + N ≤ bs.length := by rw [List.length_drop] at hNl; omega
        clear hys hn2 hok2 hop hzs hr3 hb3 hNl
        have hI2 := HI.out.below hb2
        have hos := ho.below hb2
        have hod := ho2
        go_wp2_with (at_builtin; refine wpl_appS2 bkT rfl _ _ rfl xs rfl rfl (hos.alloc _) [((ys, (N : Int)), A2, c2)] rfl rfl (OS.one eBk w2 w2.heap.size 68 ((ys, (N : Int)), A2, c2) _ rfl (Nat.le_refl _)).rs (by simp; omega) (by omega) (by have := hb2.size; simp; omega) ?_; intro E3 c3 w3 us hu ho3 hg3 hat3; have hat4 := hid hat3; clear hat3)
        have hbw3 := OS.belowOwn (below_on (below_on hbw hb2) (below_new w2 _)) (hos.alloc _) hg3 (Nat.le_refl _)
        have hI4 := (hI2.below (below_new w2 (.cells #[.slice A2 ys.length c2, .int .i64 (N : Int)] 68))).grown hg3 hat4.out
        have ho4 : OI w3 w.heap.size A2 c2 ys := OI.grown ((ho2.mono hwz).alloc (.cells #[.slice A2 ys.length c2, .int .i64 (N : Int)] 68)) hg3 (fun g hg e => hdis g hg e)
        have HU : Hid (inn w3 w.heap.size E3 us) := by
          unfold Hid
          rw [hu.out]
          refine hI4.snoc ho4 fun b h1 h2 => ?_
          rcases hat4.out with h | h
          · exact hdis b h1 (by rw [← h]; exact h2)
          · have h3 := (OI.lt ho2 h1).2
            rw [h] at h2
            injection h2 with h2
            simp at h2
            omega
        have HL : Hid (fn bs a0 (k + 1) = some (us.map (·.1), a + N)) := by unfold Hid; rw [HFB.out, hu.out]; simp
        have hul : us.length ≤ k + 1 := by rw [hu.out]; simp; omega
        clear ho ho2 hod hos hI2 hI4 ho4 hu hg3 hat4 hbw hb2 hdis HFB
        go_roundw
        case rel => exact ⟨k + 1, a + N, E3, c3, us, by omega, by go_num, by go_num, haN, rfl, HL, hul, ho3, HU, hbw3⟩
        case measure => simp [intOf]; omega
    · have hkI : ¬ (k : Int) < (M : Int) := by omega
      have HL : Hid (fn bs a0 M = some (xs.map (·.1), a)) := by unfold Hid; rw [show M = k by omega]; exact hfb.out
      have hsub : IntKind.i64.wrap ((bs.length : Int) - (a : Int)) = (bs.length : Int) - (a : Int) := IntWalk.i64_in _ (by omega)
      clear hfb
      by_cases he : bs.length = a + 2
      · have hq : ((bs.length : Int) - (a : Int) != 2) = false := by rw [bne_eq_false_iff_eq]; omega
        have HN : Hid (frN bs = some (xs.map (·.1), a)) := by unfold Hid; rw [HF2.out, HL.out]; simp only; rw [if_pos he]
        obtain ⟨P, HP⟩ : ∃ P : Nat, Hid (P = a + 1) := ⟨_, hid rfl⟩
        have hPw : IntKind.i64.wrap ((a : Int) + 1) = (P : Int) := by rw [HP.out]; exact IntWalk.i64_in _ (by omega)
        have hPl : P < bs.length := by have := HP.out; omega
        have hPlI : (P : Int) < (bs.length : Int) := by omega
        have hall : a < bs.length := by omega
        have hallI : (a : Int) < (bs.length : Int) := by omega
        obtain ⟨u, hu⟩ : ∃ u, bs[a]? = some u := ⟨_, List.getElem?_eq_getElem hall⟩
        obtain ⟨v, hv⟩ : ∃ v, bs[P]? = some v := ⟨_, List.getElem?_eq_getElem hPl⟩
        have hcu := RI.cellAt (hr.below hbw) hu
        have hcv := RI.cellAt (hr.below hbw) hv
        have HUV : Hid (u = bs.getD a 0 ∧ v = bs.getD (a + 1) 0) := hid ⟨(getD_hid hu).symm, by rw [← HP.out]; exact (getD_hid hv).symm⟩
        clear he hu hv
        go_wp2_with fail
        go_quiet (fail)
        have hbq : Below wo.heap.size wo (wo.drewN nq) := below_drewN (Below.refl _ _) _
        go_wp2_with fail
        (try simp only [Exit.inBlock, Exit.then]); refine bodyPost_ret (results_tmp4 rfl _ _ _) rfl ?_
        exact .inr ⟨E, cE, xs, a, u, v, HN, by omega, ho.below hbq, HUV, rfl, below_drewN hbw _⟩
      · have hq : ((bs.length : Int) - (a : Int) != 2) = true := by rw [bne_iff_ne]; omega
        have HN : Hid (frN bs = none) := by unfold Hid; rw [HF2.out, HL.out]; simp only; rw [if_neg he]
        clear he
        go_wp2_with fail
        (try simp only [Exit.inBlock, Exit.then]); refine bodyPost_ret (results_tmp4 rfl _ _ _) rfl ?_
        exact .inl ⟨HN, rfl, hbw⟩
end Go.Proofs.Ytamljhjbmeikiaa
/- Contracts: a frame is opened out of a budget. No condition. -/
namespace Go.Proofs.Ytamljhjbmeikiaa
open Go Go.RowKit
def boF (a l p : Int) (bs : List Int) : Option Bu := if budOk a l p = true then match frN bs with
    | none => none
    | some (xs, _) => boR (a, l, p) xs
  else none
theorem boS_ok {a l p : Int} {x : List Int × Int} (h : budOk a l p = true) (hx : 0 ≤ x.2) : budTake a l p (x.2 + x.1.length) = (boS (a, l, p) x).map fun b => (a, l - (x.2 + x.1.length), b.2.2) := by
  obtain ⟨h1, h2, h3, h4, h5, h6⟩ := budOk_bd h
  unfold budTake boS
  simp only [h, Bool.true_and]
  by_cases hc : x.2 + (x.1.length : Int) ≤ l
  · rw [if_pos (inB_true.2 ⟨by omega, hc⟩), if_pos hc]; rfl
  · rw [if_neg (fun h => hc (inB_true.1 h).2), if_neg hc]; rfl
theorem boS_next {a l p : Int} {x : List Int × Int} {b : Bu} (h : budOk a l p = true) (hx : 0 ≤ x.2) (hb : boS (a, l, p) x = some b) : b.1 = a ∧ b.2.1 = l - x.1.length ∧ budOk b.1 b.2.1 b.2.2 = true ∧ x.2 + x.1.length ≤ l ∧ p ≤ b.2.2 ∧ budGive a (l - (x.2 + x.1.length)) b.2.2 x.2 = some b := by
  obtain ⟨h1, h2, h3, h4, h5, h6⟩ := budOk_bd h
  unfold boS at hb
  simp only at hb
  split at hb
  · rename_i hc
    injection hb with hb
    subst hb
    have hok : ∀ y, 0 ≤ y → y ≤ x.2 → budOk a (l - (x.2 + x.1.length) + y) (max p (a - (l - (x.2 + (x.1.length : Int))))) = true := fun y h0 h1 => budOk_of (inB_true.2 ⟨by omega, by omega⟩) (inB_true.2 ⟨by omega, by omega⟩) (inB_true.2 ⟨by omega, by omega⟩)
    have hok0 := hok 0 (by omega) hx
    have hok1 := hok x.2 hx (by omega)
    rw [Int.add_zero] at hok0
    rw [show l - (x.2 + (x.1.length : Int)) + x.2 = l - x.1.length by omega] at hok1
    refine ⟨rfl, rfl, hok1, hc, by simp only; omega, ?_⟩
    unfold budGive
    simp only [hok0, Bool.true_and]
    rw [if_pos (inB_true.2 ⟨by omega, by omega⟩), show l - (x.2 + (x.1.length : Int)) + x.2 = l - x.1.length by omega]
  · cases hb
theorem PBud_no {w w1 : World} {f : Option Bu} (hf : f = none) (hb : Below w.heap.size w w1) : PBud w f (.returned (.tuple #[.agg #[.int .i64 0, .int .i64 0, .int .i64 0], .bool false])) w1 := by
  subst hf; exact ⟨0, 0, 0, false, hid rfl, hid rfl, rfl, hb⟩
theorem PBud_yes {w w1 : World} {f : Option Bu} {a l p : Int} (hf : f = some (a, l, p)) (hb : Below w.heap.size w w1) : PBud w f (.returned (.tuple #[.agg #[.int .i64 a, .int .i64 l, .int .i64 p], .bool true])) w1 := by
  subst hf; exact ⟨a, l, p, true, hid rfl, hid rfl, rfl, hb⟩
theorem below_set3 {w w' : World} {b : Nat} (h : Below w.heap.size w w') (hb : w.heap.size ≤ b) (u v t : Value) : Below w.heap.size w (((w'.setCell ⟨b, 0, none⟩ u).setCell ⟨b, 1, none⟩ v).setCell ⟨b, 2, none⟩ t) :=
  ((h.setCell hb _).setCell hb _).setCell hb _
theorem gb_set3 (w : World) (b : Nat) (u v t : Value) : w.grownBy (((w.setCell ⟨b, 0, none⟩ u).setCell ⟨b, 1, none⟩ v).setCell ⟨b, 2, none⟩ t) (some b) :=
  gb_trans (gb_trans (gb_setCell w ⟨b, 0, none⟩ u) (gb_setCell _ ⟨b, 1, none⟩ v)) (gb_setCell _ ⟨b, 2, none⟩ t)
theorem size_two (w : World) (o o' : Obj) : ((w.alloc o).alloc o').heap.size = w.heap.size + 2 := by simp
theorem BX.c0 {w : World} {b : Nat} {x y z : Value} {T : TypeId} (h : BX w b #[x, y, z] T) : w.cell? ⟨b, 0, none⟩ = some x := by simpa using h.cell 0
theorem BX.c1 {w : World} {b : Nat} {x y z : Value} {T : TypeId} (h : BX w b #[x, y, z] T) : w.cell? ⟨b, 1, none⟩ = some y := by simpa using h.cell 1
theorem BX.c2 {w : World} {b : Nat} {x y z : Value} {T : TypeId} (h : BX w b #[x, y, z] T) : w.cell? ⟨b, 2, none⟩ = some z := by simpa using h.cell 2
theorem BX.d0 {w : World} {b : Nat} {x y : Value} {T : TypeId} (h : BX w b #[x, y] T) : w.cell? ⟨b, 0, none⟩ = some x := by simpa using h.cell 0
theorem BX.d1 {w : World} {b : Nat} {x y : Value} {T : TypeId} (h : BX w b #[x, y] T) : w.cell? ⟨b, 1, none⟩ = some y := by simpa using h.cell 1
set_option maxRecDepth 100000 in
set_option maxHeartbeats 2000000 in
theorem BudgetOpen_any (a l p : Int) (A : Option Addr) (c : Nat) (bs : List Int) (w : World) (hr : RI w A c bs) (hn : bs.length ≤ 1099511627776) : Calls Try.prog 21 #[.agg #[.int .i64 a, .int .i64 l, .int .i64 p], .slice A bs.length c] w (PBud w (boF a l p bs)) := by
  have hbw0 := below_on (below_new w (.cells #[.int .i64 a, .int .i64 l, .int .i64 p] 33)) (below_new (w.alloc (.cells #[.int .i64 a, .int .i64 l, .int .i64 p] 33)) (.cells #[.int .i64 0, .int .i64 0, .int .i64 0] 33))
  have B0 := (BX.new w #[.int .i64 a, .int .i64 l, .int .i64 p] 33).alloc (.cells #[.int .i64 0, .int .i64 0, .int .i64 0] 33)
  have R0 := BX.new (w.alloc (.cells #[.int .i64 a, .int .i64 l, .int .i64 p] 33)) #[.int .i64 0, .int .i64 0, .int .i64 0] 33
  rw [show (w.alloc (.cells #[.int .i64 a, .int .i64 l, .int .i64 p] 33)).heap.size = w.heap.size + 1 by simp] at R0
  have hsz := size_two w (.cells #[.int .i64 a, .int .i64 l, .int .i64 p] 33) (.cells #[.int .i64 0, .int .i64 0, .int .i64 0] 33)
  go_enter Try.func21, Try.ntmps21
  go_wp2_with fail
  refine (frameN_any _ _ _ _ (hr.below hbw0) hn).mono ?_
  rintro e w1 (⟨hf, rfl, hb1⟩ | ⟨E, cE, xs, q, u, v, hf, hxl, hOS, hUV, rfl, hb1⟩)
  · have R1 := R0.below hb1
    have hbw1 := below_on hbw0 hb1
    have HF : Hid (boF a l p bs = none) := by unfold Hid boF; rw [hf.out]; split <;> rfl
    have r0 := R1.c0
    have r1 := R1.c1
    have r2 := R1.c2
    have f0 := R1.frozen 0
    have f1 := R1.frozen 1
    have f2 := R1.frozen 2
    go_wp2_with fail
    have G := R1.set3 (.int .i64 0) (.int .i64 0) (.int .i64 0)
    have g0 := G.c0
    have g1 := G.c1
    have g2 := G.c2
    refine bodyPost_ret (v := .tuple #[.agg #[.int .i64 0, .int .i64 0, .int .i64 0], .bool false]) (by simp [results, Try.results21, go_sem, g0, g1, g2]) rfl ?_
    exact PBud_no HF.out (below_set3 hbw1 (by omega) _ _ _)
  have B1 := B0.below hb1
  have R1 := R0.below hb1
  have hbw1 := below_on hbw0 hb1
  have hO1 := hOS.mono (base' := w.heap.size + 2) (by omega)
  have HSIZ := hid (frN_is hf.out)
  have HXS : Hid (∀ x ∈ xs, 2 ≤ x.1.2 ∧ x.1.2 ≤ bs.length ∧ x.1.1.length ≤ 40) := by
    obtain ⟨_, _, _, _, h⟩ := HSIZ.out
    exact hid fun x hx => h _ (List.mem_map.2 ⟨x, hx, rfl⟩)
  clear HSIZ hOS hUV hb1 B0 R0 hbw0 hr
  have c0 := B1.c0
  have c1 := B1.c1
  have c2 := B1.c2
  go_wp2_with fail
  refine (budgetOk_any _ _ _ _).mono ?_
  rintro e w' ⟨b, hb, rfl, rfl⟩
  have hbw2 := below_on hbw1 (below_new w1 (.cells #[.int .i64 a, .int .i64 l, .int .i64 p] 33))
  have B2 := B1.alloc (.cells #[.int .i64 a, .int .i64 l, .int .i64 p] 33)
  have R2 := R1.alloc (.cells #[.int .i64 a, .int .i64 l, .int .i64 p] 33)
  have hO2 := hO1.alloc (.cells #[.int .i64 a, .int .i64 l, .int .i64 p] 33)
  clear c0 c1 c2 B1 R1 hO1 hbw1
  generalize w1.alloc (.cells #[.int .i64 a, .int .i64 l, .int .i64 p] 33) = w2 at *
  cases b with
  | false =>
    have HF : Hid (boF a l p bs = none) := by unfold Hid boF; rw [if_neg (by rw [← hb.out]; decide)]
    have r0 := R2.c0
    have r1 := R2.c1
    have r2 := R2.c2
    have f0 := R2.frozen 0
    have f1 := R2.frozen 1
    have f2 := R2.frozen 2
    go_wp2_with fail
    have G := R2.set3 (.int .i64 0) (.int .i64 0) (.int .i64 0)
    have g0 := G.c0
    have g1 := G.c1
    have g2 := G.c2
    refine bodyPost_ret (v := .tuple #[.agg #[.int .i64 0, .int .i64 0, .int .i64 0], .bool false]) (by simp [results, Try.results21, go_sem, g0, g1, g2]) rfl ?_
    exact PBud_no HF.out (below_set3 hbw2 (by omega) _ _ _)
  | true =>
  have HOK : Hid (budOk a l p = true) := hid hb.out.symm
  have HF : Hid (boF a l p bs = boR (a, l, p) (xs.map (·.1))) := by unfold Hid boF; rw [if_pos HOK.out, hf.out]
  clear hb hf
  go_wp2_with fail
  go_loopw [29] (fun i wr => ∃ (k : Nat) (a' l' p' : Int), k ≤ xs.length ∧ i = .int .i64 k ∧ Hid (boR (a, l, p) ((xs.take k).map (·.1)) = some (a', l', p')) ∧ Hid (budOk a' l' p' = true) ∧ BX wr w.heap.size #[.int .i64 a', .int .i64 l', .int .i64 p'] 33 ∧ BX wr (w.heap.size + 1) #[.int .i64 0, .int .i64 0, .int .i64 0] 33 ∧ OS eBk wr (w.heap.size + 2) 68 E cE xs ∧ Below w.heap.size w wr) (fun i _ => xs.length - (intOf i).toNat)
  case atStart => exact ⟨0, a, l, p, by omega, rfl, hid rfl, HOK, B2, R2, hO2, hbw2⟩
  case round =>
    clear B2 R2 hO2 hbw2 HOK
    obtain ⟨k, a', l', p', hk, rfl, hbo, hok, B, R, ho, hbw⟩ := hrel
    obtain ⟨wo, rfl⟩ : ∃ wo : World, wo = wr := ⟨_, rfl⟩
    have hsB := B.lt
    have hsR := R.lt
    by_cases hlt : k < xs.length
    · have hkI : (k : Int) < (xs.length : Int) := by omega
      obtain ⟨⟨⟨l1, nn⟩, A2, c2⟩, hm⟩ : ∃ m, xs[k]? = some m := ⟨_, List.getElem?_eq_getElem hlt⟩
      obtain ⟨hn2, hn3, hl40⟩ := HXS.out _ (List.mem_of_getElem? hm)
      simp only at hn2 hn3 hl40
      have hek : ∃ ad, E = some ad ∧ wo.cell? (ad.add (k * 2)) = some (.slice A2 l1.length c2) ∧ wo.cell? ⟨(ad.add (k * 2)).block, (ad.add (k * 2)).off + 1, none⟩ = some (.int .i64 nn) := by
        obtain ⟨ad, he, _, _⟩ := RS.at_ ho.rs hm (by decide)
        have h := ho.rs
        rw [he] at h
        exact ⟨ad, he, bkAt h hm⟩
      obtain ⟨ad, rfl, hc0, hc1⟩ := hek
      have HS : Hid ((xs.take (k + 1)).map (·.1) = (xs.take k).map (·.1) ++ [(l1, nn)]) := by unfold Hid; rw [take_snoc' hm, List.map_append]; rfl
      have HNEXT : Hid (boR (a, l, p) ((xs.take (k + 1)).map (·.1)) = boS (a', l', p') (l1, nn)) := by unfold Hid; rw [HS.out, boR_snoc, hbo.out]; rfl
      have b0 := (B.alloc (.cells #[.slice A2 l1.length c2, .int .i64 nn] 68)).c0
      have b1 := (B.alloc (.cells #[.slice A2 l1.length c2, .int .i64 nn] 68)).c1
      have b2 := (B.alloc (.cells #[.slice A2 l1.length c2, .int .i64 nn] 68)).c2
      have X0 := BX.new wo #[.slice A2 l1.length c2, .int .i64 nn] 68
      clear hm
      go_wp2_with fail
      refine (BudgetTake_any _ _ _ _ _).mono ?_
      rintro e w3 ⟨a1, l2, p1, b, hb, hv, rfl, hb3⟩
      rw [boS_ok hok.out (x := (l1, nn)) (by show 0 ≤ nn; omega)] at hb hv
      have hbw3 := below_on (below_on hbw (below_new wo (.cells #[.slice A2 l1.length c2, .int .i64 nn] 68))) hb3
      have B3 := (B.alloc (.cells #[.slice A2 l1.length c2, .int .i64 nn] 68)).below hb3
      have R3 := (R.alloc (.cells #[.slice A2 l1.length c2, .int .i64 nn] 68)).below hb3
      have X3 := X0.below hb3
      have ho3 := (ho.alloc (.cells #[.slice A2 l1.length c2, .int .i64 nn] 68)).below hb3
      clear b0 b1 b2 hc0 hc1 B R X0 ho hbw
      have b0 := B3.c0
      have b1 := B3.c1
      have b2 := B3.c2
      have fb0 := B3.frozen 0
      have fb1 := B3.frozen 1
      have fb2 := B3.frozen 2
      have r0 := R3.c0
      have r1 := R3.c1
      have r2 := R3.c2
      have fr0 := R3.frozen 0
      have fr1 := R3.frozen 1
      have fr2 := R3.frozen 2
      cases hs : boS (a', l', p') (l1, nn) with
      | none =>
        rw [hs] at hb hv
        obtain rfl : b = false := hb.out
        obtain ⟨rfl, rfl, rfl⟩ : a1 = 0 ∧ l2 = 0 ∧ p1 = 0 := by have h := hv.out; simp at h; exact h
        have HN : Hid (boF a l p bs = none) := by unfold Hid; rw [HF.out, boR_no (k := k + 1) (by rw [← List.map_take, HNEXT.out, hs])]
        clear hb hv hs
        go_wp2_with fail
        have G := (R3.other3 (b := w.heap.size) (.int .i64 0) (.int .i64 0) (.int .i64 0) (by omega)).set3 (.int .i64 0) (.int .i64 0) (.int .i64 0)
        have g0 := G.c0
        have g1 := G.c1
        have g2 := G.c2
        refine bodyPost_ret (v := .tuple #[.agg #[.int .i64 0, .int .i64 0, .int .i64 0], .bool false]) (by simp [results, Try.results21, go_sem, g0, g1, g2]) rfl ?_
        exact PBud_no HN.out (below_set3 (below_set3 hbw3 (Nat.le_refl _) _ _ _) (by omega) _ _ _)
      | some bn =>
        obtain ⟨a3, l3, p3⟩ := bn
        rw [hs] at hb hv
        obtain ⟨h1, h2, h3, h4, _, h6⟩ := boS_next hok.out (x := (l1, nn)) (by show 0 ≤ nn; omega) hs
        simp only at h1 h2 h3 h4 h6
        subst h1
        obtain rfl : b = true := hb.out
        obtain ⟨rfl, rfl, rfl⟩ : a1 = a3 ∧ l2 = l' - (nn + (l1.length : Int)) ∧ p1 = p3 := by have h := hv.out; simp at h; exact h
        have HOK3 := hid h3
        have HG := hid h6
        have HBO : Hid (boR (a, l, p) ((xs.take (k + 1)).map (·.1)) = some (a1, l3, p1)) := by unfold Hid; rw [HNEXT.out, hs]
        clear hb hv hs h2 h3 h4 h6
        go_upto_region 8 with fail
        have hbw4 := below_set3 hbw3 (Nat.le_refl _) (.int .i64 a1) (.int .i64 (l' - (nn + (l1.length : Int)))) (.int .i64 p1)
        have B4 := B3.set3 (.int .i64 a1) (.int .i64 (l' - (nn + (l1.length : Int)))) (.int .i64 p1)
        have R4 := R3.other3 (b := w.heap.size) (.int .i64 a1) (.int .i64 (l' - (nn + (l1.length : Int)))) (.int .i64 p1) (by omega)
        have X4 := X3.other3 (b := w.heap.size) (.int .i64 a1) (.int .i64 (l' - (nn + (l1.length : Int)))) (.int .i64 p1) (by omega)
        have ho4 := ho3.past (gb_set3 w3 w.heap.size (.int .i64 a1) (.int .i64 (l' - (nn + (l1.length : Int)))) (.int .i64 p1)) (by omega)
        clear b0 b1 b2 fb0 fb1 fb2 r0 r1 r2 fr0 fr1 fr2 B3 R3 X3 ho3 hbw3
        generalize (((w3.setCell ⟨w.heap.size, 0, none⟩ (.int .i64 a1)).setCell ⟨w.heap.size, 1, none⟩ (.int .i64 (l' - (nn + (l1.length : Int))))).setCell ⟨w.heap.size, 2, none⟩ (.int .i64 p1)) = w4 at *
        have b0 := B4.c0
        have b1 := B4.c1
        have b2 := B4.c2
        have x0 := X4.d0
        have x1 := X4.d1
        go_wp2_with fail
        refine (BudgetGive_any _ _ _ _ _).mono ?_
        rintro e w5 ⟨a5, l5, p5, b, hb, hv, rfl, hb5⟩
        rw [HG.out] at hv
        obtain ⟨rfl, rfl, rfl⟩ : a5 = a1 ∧ l5 = l3 ∧ p5 = p1 := by have h := hv.out; simp at h; exact h
        have hbw5 := below_on hbw4 hb5
        have B5 := B4.below hb5
        have R5 := R4.below hb5
        have ho5 := ho4.below hb5
        clear hb hv b0 b1 b2 x0 x1 B4 R4 X4 ho4 hbw4 HG
        have b0 := B5.c0
        have b1 := B5.c1
        have b2 := B5.c2
        have fb0 := B5.frozen 0
        have fb1 := B5.frozen 1
        have fb2 := B5.frozen 2
        go_wp2_with fail
        have hbw6 := below_set3 hbw5 (Nat.le_refl _) (.int .i64 a5) (.int .i64 l5) (.int .i64 p5)
        have B6 := B5.set3 (.int .i64 a5) (.int .i64 l5) (.int .i64 p5)
        have R6 := R5.other3 (b := w.heap.size) (.int .i64 a5) (.int .i64 l5) (.int .i64 p5) (by omega)
        have ho6 := ho5.past (gb_set3 w5 w.heap.size (.int .i64 a5) (.int .i64 l5) (.int .i64 p5)) (by omega)
        go_roundw
        case rel => exact ⟨k + 1, a5, l5, p5, by omega, by go_num, HBO, HOK3, B6, R6, ho6, hbw6⟩
        case measure => simp [intOf]; omega
    · have hkI : ¬ (k : Int) < (xs.length : Int) := by omega
      have HR : Hid (boF a l p bs = some (a', l', p')) := by unfold Hid; rw [HF.out, ← hbo.out, List.take_of_length_le (by omega)]
      have b0 := B.c0
      have b1 := B.c1
      have b2 := B.c2
      have r0 := R.c0
      have r1 := R.c1
      have r2 := R.c2
      have fr0 := R.frozen 0
      have fr1 := R.frozen 1
      have fr2 := R.frozen 2
      go_wp2_with fail
      have G := R.set3 (.int .i64 a') (.int .i64 l') (.int .i64 p')
      have g0 := G.c0
      have g1 := G.c1
      have g2 := G.c2
      refine bodyPost_ret (v := .tuple #[.agg #[.int .i64 a', .int .i64 l', .int .i64 p'], .bool true]) (by simp [results, Try.results21, go_sem, g0, g1, g2]) rfl ?_
      exact PBud_yes HR.out (below_set3 hbw (by omega) _ _ _)
end Go.Proofs.Ytamljhjbmeikiaa
