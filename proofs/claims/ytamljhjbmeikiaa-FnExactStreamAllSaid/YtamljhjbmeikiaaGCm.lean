/- Joined texts: contracts and plain facts that the laws share. No condition. -/
import Derived.Test.YtamljhjbmeikiaaGCg
import Derived.Test.YtamljhjbmeikiaaGCi
import Derived.Test.YtamljhjbmeikiaaGMa
import Derived.Test.YtamljhjbmeikiaaGPb
import Derived.Test.YtamljhjbmeikiaaGCl
/- Contracts: readers of blocks, as values. No condition. -/
namespace Go.Proofs.Ytamljhjbmeikiaa
open Go Go.RowKit
/-- A reader: what waits, the text, and whether it is bad. -/
def stV (A : Option Addr) (n c : Nat) (B : Option Addr) (m d : Nat) (b : Bool) : Array Value := #[.slice A n c, .slice B m d, .bool b]
def svF (xs ys : List Int) (b : Bool) : Bool := txOk ys && (byOk xs && (if b = true then decide (xs.length = 0) else decide (stF xs = 0)))
theorem svF_no1 {xs ys : List Int} {b : Bool} (h : txOk ys = false) : svF xs ys b = false := by unfold svF; rw [h]; rfl
theorem svF_no2 {xs ys : List Int} {b : Bool} (h : byOk xs = false) : svF xs ys b = false := by unfold svF; rw [h]; simp
theorem svF_bad {xs ys : List Int} (h : txOk ys = true) (h2 : byOk xs = true) : svF xs ys true = decide (xs.length = 0) := by unfold svF; rw [h, h2]; simp
theorem svF_good {xs ys : List Int} (h : txOk ys = true) (h2 : byOk xs = true) : svF xs ys false = decide (stF xs = 0) := by unfold svF; rw [h, h2]; simp
theorem szIntS_any (A : Option Addr) (c : Nat) (xs : List Int) (L : Int) (w : World) (hr : RI w A c xs) (h0 : 0 ≤ L) (h1 : L ≤ 1048576) : Calls Try.prog 57 #[.slice A xs.length c, .int .i64 L] w (PN w (if L - xs.length < 0 then -1 else L - xs.length)) := by
  have hcap := hr.cap
  have hbig := hr.big
  unfold maxLen at hbig
  have hw : IntKind.i64.wrap (L - (xs.length : Int)) = L - (xs.length : Int) := IntWalk.i64_in _ (by omega)
  by_cases hlt : L - (xs.length : Int) < 0
  · rw [if_pos hlt]
    go_enter Try.func57, Try.ntmps57
    go_wp2_with fail
    go_ret
    exact ⟨_, hid rfl, rfl, rfl⟩
  · rw [if_neg hlt]
    go_enter Try.func57, Try.ntmps57
    go_wp2_with fail
    go_ret
    exact ⟨_, hid rfl, rfl, rfl⟩
def PSz (w : World) (n : Nat) (e : Ending) (w' : World) : Prop := ∃ v : Int, (v < 0 ∨ (0 ≤ v ∧ n ≤ 1048576)) ∧ e = .returned (.int .i64 v) ∧ Below w.heap.size w w'
theorem szStream_any (A : Option Addr) (c : Nat) (xs : List Int) (B : Option Addr) (d : Nat) (ys : List Int) (b : Bool) (w : World) (hr : RI w A c xs) (hs : RI w B d ys) :
    Calls Try.prog 24 #[.agg #[.slice A xs.length c, .slice B ys.length d, .bool b], .int .i64 1048576] w (PSz w (xs.length + ys.length)) := by
  have hr1 := hr.alloc (.cells #[.slice A xs.length c, .slice B ys.length d, .bool b] 41)
  have hs1 := hs.alloc (.cells #[.slice A xs.length c, .slice B ys.length d, .bool b] 41)
  have hbw := below_new w (.cells #[.slice A xs.length c, .slice B ys.length d, .bool b] 41)
  go_enter Try.func24, Try.ntmps24
  go_wp2_with fail
  refine (szIntS_any _ _ _ _ _ hr1 (by omega) (by omega)).mono ?_
  rintro e w' ⟨v, hv, rfl, rfl⟩
  by_cases hlt : (1048576 : Int) - (xs.length : Int) < 0
  · obtain rfl : v = -1 := by rw [hv.out, if_pos hlt]
    clear hv
    go_wp2_with fail
    go_ret
    exact ⟨-1, .inl (by omega), rfl, hbw⟩
  · obtain rfl : v = 1048576 - (xs.length : Int) := by rw [hv.out, if_neg hlt]
    clear hv
    go_wp2_with fail
    refine (szIntS_any _ _ _ _ _ hs1 (by omega) (by omega)).mono ?_
    rintro e w' ⟨v, hv, rfl, rfl⟩
    by_cases hlt2 : (1048576 : Int) - (xs.length : Int) - (ys.length : Int) < 0
    · obtain rfl : v = -1 := by rw [hv.out, if_pos hlt2]
      clear hv
      go_wp2_with fail
      go_ret
      exact ⟨-1, .inl (by omega), rfl, hbw⟩
    · obtain rfl : v = 1048576 - (xs.length : Int) - (ys.length : Int) := by rw [hv.out, if_neg hlt2]
      clear hv
      go_wp2_with fail
      go_ret
      exact ⟨_, .inr ⟨by omega, by omega⟩, rfl, hbw⟩
theorem eqStream_any (A A' : Option Addr) (c c' : Nat) (xs : List Int) (B B' : Option Addr) (d d' : Nat) (ys : List Int) (b : Bool) (w : World) (hr : RI w A c xs) (hr' : RI w A' c' xs) (hs : RI w B d ys) (hs' : RI w B' d' ys) :
    Calls Try.prog 28 #[.agg #[.slice A xs.length c, .slice B ys.length d, .bool b], .agg #[.slice A' xs.length c', .slice B' ys.length d', .bool b]] w (PBb w true) := by
  have hbw := below_on (below_new w (.cells #[.slice A xs.length c, .slice B ys.length d, .bool b] 44)) (below_new (w.alloc (.cells #[.slice A xs.length c, .slice B ys.length d, .bool b] 44)) (.cells #[.slice A' xs.length c', .slice B' ys.length d', .bool b] 44))
  have X0 := (BX.new w #[.slice A xs.length c, .slice B ys.length d, .bool b] 44).alloc (.cells #[.slice A' xs.length c', .slice B' ys.length d', .bool b] 44)
  have Y0 := BX.new (w.alloc (.cells #[.slice A xs.length c, .slice B ys.length d, .bool b] 44)) #[.slice A' xs.length c', .slice B' ys.length d', .bool b] 44
  rw [show (w.alloc (.cells #[.slice A xs.length c, .slice B ys.length d, .bool b] 44)).heap.size = w.heap.size + 1 by simp] at Y0
  go_enter Try.func28, Try.ntmps28
  go_wp2_with fail
  refine (eqIntS_any _ _ _ _ _ _ _ (hr.below hbw) (hr'.below hbw)).mono ?_
  rintro e w1 ⟨q, hq, rfl, hb1⟩
  obtain rfl : q = true := by rw [hq.out]; simp
  have hbw1 := below_on hbw hb1
  have X1 := X0.below hb1
  have Y1 := Y0.below hb1
  clear hq X0 Y0 hbw
  have x0 := X1.c0
  have x1 := X1.c1
  have x2 := X1.c2
  have y0 := Y1.c0
  have y1 := Y1.c1
  have y2 := Y1.c2
  go_wp2_with fail
  refine (eqIntS_any _ _ _ _ _ _ _ (hs.below hbw1) (hs'.below hbw1)).mono ?_
  rintro e w2 ⟨q, hq, rfl, hb2⟩
  obtain rfl : q = true := by rw [hq.out]; simp
  have hbw2 := below_on hbw1 hb2
  have X2 := X1.below hb2
  have Y2 := Y1.below hb2
  clear hq x0 x1 x2 y0 y1 y2 X1 Y1
  have x0 := X2.c0
  have x1 := X2.c1
  have x2 := X2.c2
  have y0 := Y2.c0
  have y1 := Y2.c1
  have y2 := Y2.c2
  have hbb : (b != b) = false := by simp
  go_wp2_with fail
  go_ret
  exact ⟨true, hid rfl, rfl, hbw2⟩
set_option maxHeartbeats 1000000 in
theorem StreamValid_any (A : Option Addr) (c : Nat) (xs : List Int) (B : Option Addr) (d : Nat) (ys : List Int) (b : Bool) (w : World) (hr : RI w A c xs) (hs : RI w B d ys) :
    Calls Try.prog 27 #[.agg #[.slice A xs.length c, .slice B ys.length d, .bool b]] w (PBb w (svF xs ys b)) := by
  have hbw := below_new w (.cells #[.slice A xs.length c, .slice B ys.length d, .bool b] 44)
  have X0 := BX.new w #[.slice A xs.length c, .slice B ys.length d, .bool b] 44
  have x0 := X0.c0
  have x1 := X0.c1
  have x2 := X0.c2
  go_enter Try.func27, Try.ntmps27
  go_wp2_with fail
  refine (TextValid_any _ _ _ _ (hs.below hbw)).mono ?_
  rintro e w' ⟨q, hq, rfl, rfl⟩
  cases q with
  | false =>
    have HF : Hid (svF xs ys b = false) := hid (svF_no1 hq.out.symm)
    clear hq
    go_wp2_with fail
    go_ret
    exact ⟨false, hid HF.out.symm, rfl, hbw⟩
  | true =>
  have HT : Hid (txOk ys = true) := hid hq.out.symm
  clear hq
  go_wp2_with fail
  refine (bytesOk_any _ _ _ _ (hr.below hbw)).mono ?_
  rintro e w' ⟨q, hq, rfl, rfl⟩
  cases q with
  | false =>
    have HF : Hid (svF xs ys b = false) := hid (svF_no2 hq.out.symm)
    clear hq
    go_wp2_with fail
    go_ret
    exact ⟨false, hid HF.out.symm, rfl, hbw⟩
  | true =>
  have HB : Hid (byOk xs = true) := hid hq.out.symm
  clear hq
  cases b with
  | true =>
    have HF := hid (svF_bad HT.out HB.out)
    by_cases hz : xs.length = 0
    · have hq : ((xs.length : Int) == 0) = true := by simp [hz]
      have HF2 : Hid (svF xs ys true = true) := by unfold Hid; rw [HF.out]; simp [hz]
      clear hz
      go_wp2_with fail
      go_ret
      exact ⟨_, hid HF2.out.symm, rfl, hbw⟩
    · have hq : ((xs.length : Int) == 0) = false := by rw [beq_eq_false_iff_ne]; omega
      have HF2 : Hid (svF xs ys true = false) := by unfold Hid; rw [HF.out]; simp [hz]
      clear hz
      go_wp2_with fail
      go_ret
      exact ⟨_, hid HF2.out.symm, rfl, hbw⟩
  | false =>
    have HF := hid (svF_good HT.out HB.out)
    go_wp2_with fail
    refine (BlockState_any _ _ _ _ (hr.below hbw)).mono ?_
    rintro e w1 ⟨m, hm, rfl, hb1⟩
    by_cases hz : m = 0
    · have hq : (m == 0) = true := by simp [hz]
      have HF2 : Hid (svF xs ys false = true) := by unfold Hid; rw [HF.out, ← hm.out]; simp [hz]
      clear hz hm
      go_wp2_with fail
      go_ret
      exact ⟨_, hid HF2.out.symm, rfl, below_on hbw hb1⟩
    · have hq : (m == 0) = false := by rw [beq_eq_false_iff_ne]; exact hz
      have HF2 : Hid (svF xs ys false = false) := by unfold Hid; rw [HF.out, ← hm.out]; simp [hz]
      clear hz hm
      go_wp2_with fail
      go_ret
      exact ⟨_, hid HF2.out.symm, rfl, below_on hbw hb1⟩
end Go.Proofs.Ytamljhjbmeikiaa
/- Contracts: readers of blocks are copied and checked. No condition. -/
namespace Go.Proofs.Ytamljhjbmeikiaa
open Go Go.RowKit
theorem OI.set0 {w : World} {base c : Nat} {A : Option Addr} {xs : List Int} (h : OI w base A c xs) (b i : Nat) (v : Value) (hb : b < base) : OI (w.setCell ⟨b, i, none⟩ v) base A c xs := OI.past h (gb_setCell w ⟨b, i, none⟩ v) hb
theorem size_three (w : World) (o o' o'' : Obj) : (((w.alloc o).alloc o').alloc o'').heap.size = w.heap.size + 3 := by simp
def PStr (w : World) (xs ys : List Int) (b : Bool) (e : Ending) (w' : World) : Prop :=
  ∃ A c B d, e = .returned (.agg #[.slice A xs.length c, .slice B ys.length d, .bool b]) ∧ OI w' w.heap.size A c xs ∧ OI w' w.heap.size B d ys ∧ Below w.heap.size w w'
set_option maxHeartbeats 1000000 in
theorem toStream_any (A : Option Addr) (c : Nat) (xs : List Int) (B : Option Addr) (d : Nat) (ys : List Int) (b : Bool) (w : World) (hr : RI w A c xs) (hs : RI w B d ys) (hn : xs.length ≤ 1048576) (hm : ys.length ≤ 1048576) :
    Calls Try.prog 26 #[.agg #[.slice A xs.length c, .slice B ys.length d, .bool b]] w (PStr w xs ys b) := by
  have hbw0 := below_on (below_on (below_new w (.cells #[.slice A xs.length c, .slice B ys.length d, .bool b] 41)) (below_new (w.alloc (.cells #[.slice A xs.length c, .slice B ys.length d, .bool b] 41)) (.cells #[.slice none 0 0, .slice none 0 0, .bool false] 44))) (below_new ((w.alloc (.cells #[.slice A xs.length c, .slice B ys.length d, .bool b] 41)).alloc (.cells #[.slice none 0 0, .slice none 0 0, .bool false] 44)) (.cells #[.slice none 0 0, .slice none 0 0, .bool false] 44))
  have B0 := ((BX.new w #[.slice A xs.length c, .slice B ys.length d, .bool b] 41).alloc (.cells #[.slice none 0 0, .slice none 0 0, .bool false] 44)).alloc (.cells #[.slice none 0 0, .slice none 0 0, .bool false] 44)
  have R0 := (BX.new (w.alloc (.cells #[.slice A xs.length c, .slice B ys.length d, .bool b] 41)) #[.slice none 0 0, .slice none 0 0, .bool false] 44).alloc (.cells #[.slice none 0 0, .slice none 0 0, .bool false] 44)
  have X0 := BX.new ((w.alloc (.cells #[.slice A xs.length c, .slice B ys.length d, .bool b] 41)).alloc (.cells #[.slice none 0 0, .slice none 0 0, .bool false] 44)) #[.slice none 0 0, .slice none 0 0, .bool false] 44
  rw [show (w.alloc (.cells #[.slice A xs.length c, .slice B ys.length d, .bool b] 41)).heap.size = w.heap.size + 1 by simp] at R0
  rw [show ((w.alloc (.cells #[.slice A xs.length c, .slice B ys.length d, .bool b] 41)).alloc (.cells #[.slice none 0 0, .slice none 0 0, .bool false] 44)).heap.size = w.heap.size + 2 by simp] at X0
  have hsz := size_three w (.cells #[.slice A xs.length c, .slice B ys.length d, .bool b] 41) (.cells #[.slice none 0 0, .slice none 0 0, .bool false] 44) (.cells #[.slice none 0 0, .slice none 0 0, .bool false] 44)
  go_enter Try.func26, Try.ntmps26
  go_wp2_with fail
  refine (toIntS_any _ _ _ _ (hr.below hbw0) (by omega)).mono ?_
  rintro e w1 ⟨A1, c1, zs, hz, ho1, rfl, hb1⟩
  obtain rfl : xs = zs := hz.out.symm
  have ho1 := ho1.mono (show w.heap.size + 3 ≤ _ by omega)
  have hbw1 := below_on hbw0 hb1
  have B1 := B0.below hb1
  have R1 := R0.below hb1
  have X1 := X0.below hb1
  have b1 := B1.c1
  have x0 := X1.c0
  have f0 := X1.frozen 0
  clear hz hb1 B0 R0 X0 hbw0 hsz
  go_upto_region 3 with fail
  have X2 : BX (w1.setCell ⟨w.heap.size + 2, 0, none⟩ (.slice A1 xs.length c1)) (w.heap.size + 2) #[.slice A1 xs.length c1, .slice none 0 0, .bool false] 44 := by simpa using X1.set 0 (.slice A1 xs.length c1)
  have B2 := B1.other (a := ⟨w.heap.size + 2, 0, none⟩) (.slice A1 xs.length c1) (by simp)
  have R2 := R1.other (a := ⟨w.heap.size + 2, 0, none⟩) (.slice A1 xs.length c1) (by simp)
  have ho2 := ho1.set0 (w.heap.size + 2) 0 (.slice A1 xs.length c1) (by omega)
  have hbw2 : Below w.heap.size w (w1.setCell ⟨w.heap.size + 2, 0, none⟩ (.slice A1 xs.length c1)) := hbw1.setCell (by simp) _
  clear b1 x0 f0 B1 R1 X1 ho1 hbw1
  generalize w1.setCell ⟨w.heap.size + 2, 0, none⟩ (.slice A1 xs.length c1) = w2 at *
  have b1 := B2.c1
  go_wp2_with fail
  refine (toIntS_any _ _ _ _ (hs.below hbw2) (by omega)).mono ?_
  rintro e w3 ⟨A3, c3, zs, hz, ho3, rfl, hb3⟩
  obtain rfl : ys = zs := hz.out.symm
  have hX2 := X2.lt
  have ho3 := ho3.mono (show w.heap.size + 3 ≤ _ by omega)
  have ho4 := ho2.below hb3
  have hbw3 := below_on hbw2 hb3
  have B3 := B2.below hb3
  have R3 := R2.below hb3
  have X3 := X2.below hb3
  clear b1 hz hb3 B2 R2 X2 ho2 hbw2
  have b2 := B3.c2
  have x0 := X3.c0
  have x1 := X3.c1
  have x2 := X3.c2
  have f0 := X3.frozen 0
  have f1 := X3.frozen 1
  have f2 := X3.frozen 2
  have r0 := R3.c0
  have r1 := R3.c1
  have r2 := R3.c2
  have fr0 := R3.frozen 0
  have fr1 := R3.frozen 1
  have fr2 := R3.frozen 2
  go_wp2_with fail
  have G := ((R3.other (a := ⟨w.heap.size + 2, 1, none⟩) (.slice A3 ys.length c3) (by simp)).other (a := ⟨w.heap.size + 2, 2, none⟩) (.bool b) (by simp)).set3 (.slice A1 xs.length c1) (.slice A3 ys.length c3) (.bool b)
  have g0 := G.c0
  have g1 := G.c1
  have g2 := G.c2
  refine bodyPost_ret (v := .agg #[.slice A1 xs.length c1, .slice A3 ys.length c3, .bool b]) (by simp [results, Try.results26, go_sem, g0, g1, g2]) rfl ?_
  have hk : ∀ {E : Option Addr} {k : Nat} {us : List Int}, OI w3 (w.heap.size + 3) E k us → OI (((((w3.setCell ⟨w.heap.size + 2, 1, none⟩ (.slice A3 ys.length c3)).setCell ⟨w.heap.size + 2, 2, none⟩ (.bool b)).setCell ⟨w.heap.size + 1, 0, none⟩ (.slice A1 xs.length c1)).setCell ⟨w.heap.size + 1, 1, none⟩ (.slice A3 ys.length c3)).setCell ⟨w.heap.size + 1, 2, none⟩ (.bool b)) w.heap.size E k us := fun h => (((((h.set0 _ _ _ (by omega)).set0 _ _ _ (by omega)).set0 _ _ _ (by omega)).set0 _ _ _ (by omega)).set0 _ _ _ (by omega)).mono (by omega)
  have hbF : Below w.heap.size w ((w3.setCell ⟨w.heap.size + 2, 1, none⟩ (.slice A3 ys.length c3)).setCell ⟨w.heap.size + 2, 2, none⟩ (.bool b)) := (hbw3.setCell (by simp) _).setCell (by simp) _
  exact ⟨A1, c1, A3, c3, rfl, hk ho4, hk ho3, below_set3 hbF (by omega) _ _ _⟩
set_option maxHeartbeats 1000000 in
theorem sStreamValid_any (A : Option Addr) (c : Nat) (xs : List Int) (B : Option Addr) (d : Nat) (ys : List Int) (b : Bool) (w : World) (hr : RI w A c xs) (hs : RI w B d ys) :
    Calls Try.prog 25 #[.agg #[.slice A xs.length c, .slice B ys.length d, .bool b]] w (PBb w (svF xs ys b)) := by
  have hbw := below_new w (.cells #[.slice A xs.length c, .slice B ys.length d, .bool b] 44)
  have X0 := BX.new w #[.slice A xs.length c, .slice B ys.length d, .bool b] 44
  have x0 := X0.c0
  have x1 := X0.c1
  have x2 := X0.c2
  go_enter Try.func25, Try.ntmps25
  go_wp2_with fail
  refine (sTextValid_any _ _ _ _ (hs.below hbw)).mono ?_
  rintro e w' ⟨q, hq, rfl, rfl⟩
  cases q with
  | false =>
    have HF : Hid (svF xs ys b = false) := hid (svF_no1 hq.out.symm)
    clear hq
    go_wp2_with fail
    go_ret
    exact ⟨false, hid HF.out.symm, rfl, hbw⟩
  | true =>
  have HT : Hid (txOk ys = true) := hid hq.out.symm
  clear hq
  go_wp2_with fail
  refine (l1Bytes_any _ _ _ _ (hr.below hbw)).mono ?_
  rintro e w' ⟨q, hq, rfl, rfl⟩
  cases q with
  | false =>
    have HF : Hid (svF xs ys b = false) := hid (svF_no2 hq.out.symm)
    clear hq
    go_wp2_with fail
    go_ret
    exact ⟨false, hid HF.out.symm, rfl, hbw⟩
  | true =>
  have HB : Hid (byOk xs = true) := hid hq.out.symm
  clear hq
  cases b with
  | true =>
    have HF := hid (svF_bad HT.out HB.out)
    by_cases hz : xs.length = 0
    · have hq : ((xs.length : Int) == 0) = true := by simp [hz]
      have HF2 : Hid (svF xs ys true = true) := by unfold Hid; rw [HF.out]; simp [hz]
      clear hz
      go_wp2_with fail
      go_ret
      exact ⟨_, hid HF2.out.symm, rfl, hbw⟩
    · have hq : ((xs.length : Int) == 0) = false := by rw [beq_eq_false_iff_ne]; omega
      have HF2 : Hid (svF xs ys true = false) := by unfold Hid; rw [HF.out]; simp [hz]
      clear hz
      go_wp2_with fail
      go_ret
      exact ⟨_, hid HF2.out.symm, rfl, hbw⟩
  | false =>
    have HF := hid (svF_good HT.out HB.out)
    go_wp2_with fail
    refine (sBlockState_any _ _ _ _ (hr.below hbw)).mono ?_
    rintro e w1 ⟨m, hm, rfl, hb1⟩
    by_cases hz : m = 0
    · have hq : (m == 0) = true := by simp [hz]
      have HF2 : Hid (svF xs ys false = true) := by unfold Hid; rw [HF.out, ← hm.out]; simp [hz]
      clear hz hm
      go_wp2_with fail
      go_ret
      exact ⟨_, hid HF2.out.symm, rfl, below_on hbw hb1⟩
    · have hq : (m == 0) = false := by rw [beq_eq_false_iff_ne]; exact hz
      have HF2 : Hid (svF xs ys false = false) := by unfold Hid; rw [HF.out, ← hm.out]; simp [hz]
      clear hz hm
      go_wp2_with fail
      go_ret
      exact ⟨_, hid HF2.out.symm, rfl, below_on hbw hb1⟩
def seF (xs ys : List Int) (b : Bool) : Bool := svF xs ys b && (!b && decide (xs.length = 0))
set_option maxHeartbeats 1000000 in
theorem StreamEnd_any (A : Option Addr) (c : Nat) (xs : List Int) (B : Option Addr) (d : Nat) (ys : List Int) (b : Bool) (w : World) (hr : RI w A c xs) (hs : RI w B d ys) :
    Calls Try.prog 30 #[.agg #[.slice A xs.length c, .slice B ys.length d, .bool b]] w (PBb w (seF xs ys b)) := by
  have hbw := below_new w (.cells #[.slice A xs.length c, .slice B ys.length d, .bool b] 44)
  have X0 := BX.new w #[.slice A xs.length c, .slice B ys.length d, .bool b] 44
  have x0 := X0.c0
  have x1 := X0.c1
  have x2 := X0.c2
  go_enter Try.func30, Try.ntmps30
  go_wp2_with fail
  refine (StreamValid_any _ _ _ _ _ _ _ _ (hr.below hbw) (hs.below hbw)).mono ?_
  rintro e w1 ⟨q, hq, rfl, hb1⟩
  have X1 := X0.below hb1
  have hbw1 := below_on hbw hb1
  clear x0 x1 x2 X0
  have x0 := X1.c0
  have x1 := X1.c1
  have x2 := X1.c2
  have HF : Hid (seF xs ys b = (q && (!b && decide (xs.length = 0)))) := by unfold Hid seF; rw [hq.out]
  clear hq
  by_cases hz : xs.length = 0
  · have hqz : ((xs.length : Int) == 0) = true := by simp [hz]
    have HZ : Hid (decide (xs.length = 0) = true) := by simp [Hid, hz]
    clear hz
    cases q <;> cases b <;> (go_wp2_with fail; go_ret; exact ⟨_, by unfold Hid; rw [HF.out, HZ.out]; rfl, rfl, hbw1⟩)
  · have hqz : ((xs.length : Int) == 0) = false := by rw [beq_eq_false_iff_ne]; omega
    have HZ : Hid (decide (xs.length = 0) = false) := by simp [Hid, hz]
    clear hz
    cases q <;> cases b <;> (go_wp2_with fail; go_ret; exact ⟨_, by unfold Hid; rw [HF.out, HZ.out]; rfl, rfl, hbw1⟩)
set_option maxHeartbeats 1000000 in
theorem sStreamEnd_any (A : Option Addr) (c : Nat) (xs : List Int) (B : Option Addr) (d : Nat) (ys : List Int) (b : Bool) (w : World) (hr : RI w A c xs) (hs : RI w B d ys) :
    Calls Try.prog 29 #[.agg #[.slice A xs.length c, .slice B ys.length d, .bool b]] w (PBb w (seF xs ys b)) := by
  have hbw := below_new w (.cells #[.slice A xs.length c, .slice B ys.length d, .bool b] 44)
  have X0 := BX.new w #[.slice A xs.length c, .slice B ys.length d, .bool b] 44
  have x0 := X0.c0
  have x1 := X0.c1
  have x2 := X0.c2
  go_enter Try.func29, Try.ntmps29
  go_wp2_with fail
  refine (sStreamValid_any _ _ _ _ _ _ _ _ (hr.below hbw) (hs.below hbw)).mono ?_
  rintro e w1 ⟨q, hq, rfl, hb1⟩
  have X1 := X0.below hb1
  have hbw1 := below_on hbw hb1
  clear x0 x1 x2 X0
  have x0 := X1.c0
  have x1 := X1.c1
  have x2 := X1.c2
  have HF : Hid (seF xs ys b = (q && (!b && decide (xs.length = 0)))) := by unfold Hid seF; rw [hq.out]
  clear hq
  by_cases hz : xs.length = 0
  · have hqz : ((xs.length : Int) == 0) = true := by simp [hz]
    have HZ : Hid (decide (xs.length = 0) = true) := by simp [Hid, hz]
    clear hz
    cases q <;> cases b <;> (go_wp2_with fail; go_ret; exact ⟨_, by unfold Hid; rw [HF.out, HZ.out]; rfl, rfl, hbw1⟩)
  · have hqz : ((xs.length : Int) == 0) = false := by rw [beq_eq_false_iff_ne]; omega
    have HZ : Hid (decide (xs.length = 0) = false) := by simp [Hid, hz]
    clear hz
    cases q <;> cases b <;> (go_wp2_with fail; go_ret; exact ⟨_, by unfold Hid; rw [HF.out, HZ.out]; rfl, rfl, hbw1⟩)
end Go.Proofs.Ytamljhjbmeikiaa
