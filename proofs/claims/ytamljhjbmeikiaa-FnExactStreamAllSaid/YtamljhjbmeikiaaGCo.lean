/- Joined texts: contracts and plain facts that the laws share. No condition. -/
import Derived.Test.YtamljhjbmeikiaaGCn
import Derived.Deep.Upon
import Derived.Deep.RegionHeld3
/- Contracts: the reference feeds an empty reader. No condition. -/
namespace Go.Proofs.Ytamljhjbmeikiaa
open Go Go.RowKit
section
variable {P : Program} {w : World} {ops : Array Oper} {o : Oper} {a : Act} {Q : Exit → Act → World → Prop}
theorem run_app0 {T : TypeId} (hS : SlT P T 3 1 8 (.int .i64 0)) (ty : TypeId) (A : Option Addr) (n c : Nat) (hle : n ≤ c) (B : Option Addr) (d : Nat) (w : World) :
    (Builtin.append_ #[T, T] ty #[.slice A n c, .slice B 0 d]).run P w = .ok (.slice A n c) w := by
  obtain ⟨i, hi, hz, hsz, hby⟩ := hS.inf
  cases B with
  | none => exact run_append_nothing w T T ty 3 i hS.und hi A n c hle _ (Src.ofNil w hS.und d)
  | some b => exact run_append_nothing w T T ty 3 i hS.und hi A n c hle _ (Src.ofSlice w hS.und b 0 d [] (by simp) (fun j u h => by simp at h) (fun u h => by cases h))
/-- 'append(xs)' of nothing in a region that draws its order. -/
theorem stp_app0 {T : TypeId} (hS : SlT P T 3 1 8 (.int .i64 0)) {E : Prop} {K : Act → World → Prop} (hgd : o.guard = none) (s x : Operand)
    (hop : o.op = .call { callee := .builtin .append, args := #[s, x], argTypes := #[T, T] })
    {c n : Nat} {A : Option Addr} (hs : a.eval s = .slice A n c) (hle : n ≤ c) {B : Option Addr} {d : Nat} (hx : a.eval x = .slice B 0 d)
    (h : K (a.put o.dst (.slice A n c)) w) :
    if Region.wanted o (yielded ops a.tmps) = true then Oper.wp P o a w K Q else E := by
  have hw : Region.wanted o (yielded ops a.tmps) = true := by simp [Region.wanted, hgd]
  rw [if_pos hw]
  have hrun := run_app0 (P := P) hS o.type A n c hle B d w
  unfold Oper.wp execOp
  simp only [hop, resolve, invoke, builtin, Sem.run_bind, Sem.run_pure, Result.andThen_ok, List.map_toArray, List.map_cons, List.map_nil, hs, hx, hrun]
  exact h
end
end Go.Proofs.Ytamljhjbmeikiaa
/- The reference's reader: its box and its two empty lists, in any order. No condition. -/
namespace Go.Proofs.Ytamljhjbmeikiaa
open Go Go.RowKit
/-- What is an own list of numbers is no box of another type. -/
theorem OI.noBox {w : World} {base b c : Nat} {A : Option Addr} {xs : List Int} {vs : Array Value} {T : TypeId} (h : OI w base A c xs) (hX : BX w b vs T) (hT : T ≠ 3) : ∀ g, blk A = some g → g ≠ b := by
  intro g hg e
  subst e
  rcases h.own.2 with ⟨hn, _⟩ | ⟨g', cap, cur, hv, _, hr, _⟩
  · injection hn with hA
    rw [hA] at hg
    cases hg
  · injection hv with hA
    rw [hA] at hg
    injection hg with hg
    have hg' : g' = g := hg
    subst hg'
    unfold BX at hX
    rw [hX] at hr
    injection hr with hr
    injection hr with _ hr
    exact hT hr
/-- A reader's box at bx, its lists empty, all apart. -/
def PXs (w wx : World) (bx : Nat) (A9 : Option Addr) (c9 : Nat) (Ab : Option Addr) (cb : Nat) (vs : Array Value) : Prop :=
  BX wx bx #[.slice A9 0 c9, .slice Ab 0 cb, .bool false] 44 ∧ BX wx (w.heap.size + 1) #[.slice none 0 0, .slice none 0 0, .bool false] 44 ∧ BX wx w.heap.size vs 44 ∧ OI wx (w.heap.size + 2) A9 c9 [] ∧ OI wx (w.heap.size + 2) Ab cb [] ∧ w.heap.size + 2 ≤ bx ∧
    Hid (∀ g, blk A9 = some g → g ≠ bx) ∧ Hid (∀ g, blk Ab = some g → g ≠ bx ∧ blk A9 ≠ some g) ∧ Below w.heap.size w wx
section
variable (w1 : World) (o1 o2 o3 : Obj)
theorem size_al1 : (w1.alloc o1).heap.size = w1.heap.size + 1 := by simp
theorem size_al2 : ((w1.alloc o1).alloc o2).heap.size = w1.heap.size + 1 + 1 := by simp
theorem xs_e0 {base : Nat} (hb : base ≤ w1.heap.size) : OI (((w1.alloc (.cells #[] 3)).alloc o2).alloc o3).drew base (some ⟨w1.heap.size, 0, none⟩) 0 [] := ((OI.empty w1 base hb).alloc _).alloc _ |>.drew
theorem xs_e1 {base : Nat} (hb : base ≤ w1.heap.size) : OI (((w1.alloc o1).alloc (.cells #[] 3)).alloc o3).drew base (some ⟨w1.heap.size + 1, 0, none⟩) 0 [] := by
  have h := ((OI.empty (w1.alloc o1) base (by rw [size_al1]; omega)).alloc o3).drew
  rw [size_al1] at h
  exact h
theorem xs_e2 {base : Nat} (hb : base ≤ w1.heap.size) : OI (((w1.alloc o1).alloc o2).alloc (.cells #[] 3)).drew base (some ⟨w1.heap.size + 1 + 1, 0, none⟩) 0 [] := by
  have h := (OI.empty ((w1.alloc o1).alloc o2) base (by rw [size_al2]; omega)).drew
  rw [size_al2] at h
  exact h
theorem xs_b0 (vs : Array Value) (T : TypeId) : BX (((w1.alloc (.cells vs T)).alloc o2).alloc o3).drew w1.heap.size vs T := (((BX.new w1 vs T).alloc _).alloc _).drew
theorem xs_b1 (vs : Array Value) (T : TypeId) : BX (((w1.alloc o1).alloc (.cells vs T)).alloc o3).drew (w1.heap.size + 1) vs T := by
  have h := ((BX.new (w1.alloc o1) vs T).alloc o3).drew
  rw [size_al1] at h
  exact h
theorem xs_b2 (vs : Array Value) (T : TypeId) : BX (((w1.alloc o1).alloc o2).alloc (.cells vs T)).drew (w1.heap.size + 1 + 1) vs T := by
  have h := (BX.new ((w1.alloc o1).alloc o2) vs T).drew
  rw [size_al2] at h
  exact h
end
theorem PXs_mk {w w1 wx : World} {b g h : Nat} {vs : Array Value} (hX : BX wx b #[.slice (some ⟨g, 0, none⟩) 0 0, .slice (some ⟨h, 0, none⟩) 0 0, .bool false] 44) (hR : BX wx (w.heap.size + 1) #[.slice none 0 0, .slice none 0 0, .bool false] 44) (hS : BX wx w.heap.size vs 44) (h9 : OI wx (w.heap.size + 2) (some ⟨g, 0, none⟩) 0 []) (hb : OI wx (w.heap.size + 2) (some ⟨h, 0, none⟩) 0 []) (hw : Below w.heap.size w wx) (hl : w.heap.size + 2 ≤ w1.heap.size) (hbx : w1.heap.size ≤ b) (n1 : g ≠ b) (n2 : h ≠ b) (n3 : g ≠ h) :
    PXs w wx b (some ⟨g, 0, none⟩) 0 (some ⟨h, 0, none⟩) 0 vs := by
  refine ⟨hX, hR, hS, h9, hb, by omega, hid fun g' hg => ?_, hid fun g' hg => ⟨?_, ?_⟩, hw⟩
  · injection hg with hg; subst hg; exact n1
  · injection hg with hg; subst hg; exact n2
  · injection hg with hg
    subst hg
    intro e
    injection e with e
    exact n3 e
end Go.Proofs.Ytamljhjbmeikiaa
/- Contracts: the reference feeds an empty reader. No condition. -/
namespace Go.Proofs.Ytamljhjbmeikiaa
open Go Go.RowKit
set_option maxRecDepth 100000 in
set_option maxHeartbeats 4000000 in
theorem sStreamFeed_any (A1 : Option Addr) (c1 : Nat) (B1 : Option Addr) (d1 : Nat) (A : Option Addr) (c : Nat) (bs : List Int) (w : World) (hc1 : c1 ≤ 1000) (hd1 : d1 ≤ 1000) (hr : RI w A c bs) (hn : bs.length ≤ 1048576) :
    Calls Try.prog 60 #[.agg #[.slice A1 0 c1, .slice B1 0 d1, .bool false], .slice A bs.length c] w (PFeed w bs) := by
  have hbw0 := below_on (below_new w (.cells #[.slice A1 0 c1, .slice B1 0 d1, .bool false] 44)) (below_new (w.alloc (.cells #[.slice A1 0 c1, .slice B1 0 d1, .bool false] 44)) (.cells #[.slice none 0 0, .slice none 0 0, .bool false] 44))
  have S0 := (BX.new w #[.slice A1 0 c1, .slice B1 0 d1, .bool false] 44).alloc (.cells #[.slice none 0 0, .slice none 0 0, .bool false] 44)
  have R0 := BX.new (w.alloc (.cells #[.slice A1 0 c1, .slice B1 0 d1, .bool false] 44)) #[.slice none 0 0, .slice none 0 0, .bool false] 44
  rw [show (w.alloc (.cells #[.slice A1 0 c1, .slice B1 0 d1, .bool false] 44)).heap.size = w.heap.size + 1 by simp] at R0
  go_enter Try.func60, Try.ntmps60
  go_wp2_with fail
  refine (sStreamValid_any A1 c1 [] B1 d1 [] false _ (RI.nil _ _ _ (by omega)) (RI.nil _ _ _ (by omega))).mono ?_
  rintro e w1 ⟨q, hq, rfl, hb1⟩
  obtain rfl : q = true := hq.out.trans sv_nil
  have S1 := S0.below hb1
  have R1 := R0.below hb1
  have hbw1 := below_on hbw0 hb1
  clear hq S0 R0 hbw0 hb1
  go_wp2_with fail
  refine (l1Bytes_any _ _ _ _ (hr.below hbw1)).mono ?_
  rintro e w' ⟨q, hq, rfl, rfl⟩
  cases q with
  | false =>
    have hr1 := R1.lt
    have r0 := R1.c0
    have r1 := R1.c1
    have r2 := R1.c2
    have fr0 := R1.frozen 0
    have fr1 := R1.frozen 1
    have fr2 := R1.frozen 2
    go_wp2_with fail
    have G := R1.set3 (.slice none 0 0) (.slice none 0 0) (.bool false)
    have g0 := G.c0
    have g1 := G.c1
    have g2 := G.c2
    refine bodyPost_ret (v := .tuple #[.agg #[.slice none 0 0, .slice none 0 0, .bool false], .bool false]) (by simp [results, Try.results60, go_sem, g0, g1, g2]) rfl ?_
    exact ⟨none, 0, [], none, 0, [], false, false, rfl, hq, OG.nil _ _ _ _, OG.nil _ _ _ _, hid (fun h => by cases h), hid (fun h => by cases h), below_set3 hbw1 (by omega) _ _ _⟩
  | true =>
  have HB : Hid (byOk bs = true) := hid hq.out.symm
  have hs1 := S1.lt
  have hr1 := R1.lt
  have s10 := S1.c0
  have s11 := S1.c1
  have s12 := S1.c2
  have hs2 : w.heap.size < w1.heap.size + 1 := by omega
  have hs3 : w.heap.size < w1.heap.size + 1 + 1 := by omega
  have hn1 : w.heap.size ≠ w1.heap.size := by omega
  have hn2 : w.heap.size ≠ w1.heap.size + 1 := by omega
  have hn3 : w.heap.size ≠ w1.heap.size + 1 + 1 := by omega
  have kp1 : ∀ o1 : Obj, BX (w1.alloc o1) w.heap.size #[.slice A1 0 c1, .slice B1 0 d1, .bool false] 44 := fun _ => S1.alloc _
  have kp2 : ∀ o1 o2 : Obj, BX ((w1.alloc o1).alloc o2) w.heap.size #[.slice A1 0 c1, .slice B1 0 d1, .bool false] 44 := fun _ _ => (S1.alloc _).alloc _
  have kp3 : ∀ o1 o2 o3 : Obj, BX (((w1.alloc o1).alloc o2).alloc o3) w.heap.size #[.slice A1 0 c1, .slice B1 0 d1, .bool false] 44 := fun _ _ _ => ((S1.alloc _).alloc _).alloc _
  have kq0 := S1.drew
  have kq1 : ∀ o1 : Obj, BX (w1.alloc o1).drew w.heap.size #[.slice A1 0 c1, .slice B1 0 d1, .bool false] 44 := fun _ => (S1.alloc _).drew
  have kq2 : ∀ o1 o2 : Obj, BX ((w1.alloc o1).alloc o2).drew w.heap.size #[.slice A1 0 c1, .slice B1 0 d1, .bool false] 44 := fun _ _ => ((S1.alloc _).alloc _).drew
  have kq3 : ∀ o1 o2 o3 : Obj, BX (((w1.alloc o1).alloc o2).alloc o3).drew w.heap.size #[.slice A1 0 c1, .slice B1 0 d1, .bool false] 44 := fun _ _ _ => (((S1.alloc _).alloc _).alloc _).drew
  have kr3 : ∀ o1 o2 o3 : Obj, BX (((w1.alloc o1).alloc o2).alloc o3).drew (w.heap.size + 1) #[.slice none 0 0, .slice none 0 0, .bool false] 44 := fun _ _ _ => (((R1.alloc _).alloc _).alloc _).drew
  have kw3 : ∀ o1 o2 o3 : Obj, Below w.heap.size w (((w1.alloc o1).alloc o2).alloc o3).drew := fun _ _ _ => (below_on (below_on (below_on hbw1 (below_new _ _)) (below_new _ _)) (below_new _ _)).drew
  have hl2 : w.heap.size + 2 ≤ w1.heap.size := by omega
  clear hq
  go_upto_region 3 with fail
  go_cut [6] from 16 to 26 (fun v wx => ∃ (bx : Nat) (A9 : Option Addr) (c9 : Nat) (Ab : Option Addr) (cb : Nat), v = .pointer (some ⟨bx, 0, none⟩) ∧ PXs w wx bx A9 c9 Ab cb #[.slice A1 0 c1, .slice B1 0 d1, .bool false])
  case first =>
    go_region_held3 (fun w' => w'.cell? ⟨w.heap.size, 0, none⟩ = some (.slice A1 0 c1) ∧ w'.cell? ⟨w.heap.size, 1, none⟩ = some (.slice B1 0 d1) ∧ w'.cell? ⟨w.heap.size, 2, none⟩ = some (.bool false)) (first | exact ⟨(S1).c0, (S1).c1, (S1).c2⟩ | exact ⟨(kq0).c0, (kq0).c1, (kq0).c2⟩ | exact ⟨(kp1 _).c0, (kp1 _).c1, (kp1 _).c2⟩ | exact ⟨(kq1 _).c0, (kq1 _).c1, (kq1 _).c2⟩ | exact ⟨(kp2 _ _).c0, (kp2 _ _).c1, (kp2 _ _).c2⟩ | exact ⟨(kq2 _ _).c0, (kq2 _ _).c1, (kq2 _ _).c2⟩ | exact ⟨(kp3 _ _ _).c0, (kp3 _ _ _).c1, (kp3 _ _ _).c2⟩ | exact ⟨(kq3 _ _ _).c0, (kq3 _ _ _).c1, (kq3 _ _ _).c2⟩ | go_keep) (first | refine stp_app0 intT rfl _ _ rfl rfl (Nat.le_refl _) rfl ?_)
    all_goals
      go_wp2_with fail
      go_meet
      refine ⟨_, _, _, _, _, rfl, PXs_mk (w1 := w1) (by first | exact xs_b0 _ _ _ _ _ | exact xs_b1 _ _ _ _ _ | exact xs_b2 _ _ _ _ _) (kr3 _ _ _) (kq3 _ _ _) (by first | exact xs_e0 _ _ _ hl2 | exact xs_e1 _ _ _ hl2 | exact xs_e2 _ _ _ hl2) (by first | exact xs_e0 _ _ _ hl2 | exact xs_e1 _ _ _ hl2 | exact xs_e2 _ _ _ hl2) (kw3 _ _ _) hl2 (by omega) (by omega) (by omega) (by omega)⟩
  case rest =>
    obtain ⟨bx, A9, c9, Ab, cb, rfl, hX, hR, hS, h9, hb, hbx, HP9, HPb, hbw⟩ := hcut
    clear kp1 kp2 kp3 kq0 kq1 kq2 kq3 kr3 kw3 hl2 s10 s11 s12 S1 R1 hbw1 hs1 hr1 hs2 hs3 hn1 hn2 hn3
    have t0 := hS.c0
    have t1 := hS.c1
    have t2 := hS.c2
    have x0 := hX.c0
    have x1 := hX.c1
    have x2 := hX.c2
    have fx0 := hX.frozen 0
    have hlX := hX.lt
    have hlS := hS.lt
    have hlR := hR.lt
    go_upto_region 6 with (at_builtin; refine wpl_app (xs := []) (ys := bs) intT rfl _ _ rfl rfl h9 rfl (hr.below hbw) (by simp; omega) (by omega) ?_; intro A5 c5 w5 us hu ho5 hg5 hat5; clear hat5; have hX5 := BX.keepRow9 hX hg5 (fun e => HP9.out bx e rfl); have y0 := hX5.c0; have y1 := hX5.c1; have y2 := hX5.c2; have fy0 := hX5.frozen 0; have hR5 := BX.keepRow9 hR hg5 (fun e => by have := (OI.lt h9 e).1; omega); have hb5 := OI.grown hb hg5 (fun g hg e => (HPb.out g hg).2 e); have hbw5 := OI.belowOwn hbw h9 hg5 (by omega))
    have HU : Hid (us = bs) := hid hu.out
    have hul : us.length ≤ bs.length := by rw [HU.out]; exact Nat.le_refl _
    have hX7 : BX (w5.setCell ⟨bx, 0, none⟩ (.slice A5 us.length c5)) bx #[.slice A5 us.length c5, .slice Ab ([] : List Int).length cb, .bool false] 44 := by simpa using hX5.set 0 (.slice A5 us.length c5)
    have hR7 := hR5.other (a := ⟨bx, 0, none⟩) (.slice A5 us.length c5) (by simp; omega)
    have hA7 := ho5.setB bx 0 (.slice A5 us.length c5) (ho5.noBox hX5 (by decide))
    have hB7 := hb5.setB bx 0 (.slice A5 us.length c5) (fun g hg => (HPb.out g hg).1)
    have hbw7 : Below w.heap.size w (w5.setCell ⟨bx, 0, none⟩ (.slice A5 us.length c5)) := hbw5.setCell (by simp; omega) _
    have HF0 : Hid (rdF us [] = rdF bs []) := by unfold Hid; rw [HU.out]
    clear t0 t1 t2 x0 x1 x2 fx0 y0 y1 y2 fy0 hX hR hS h9 hb HP9 HPb hbw hX5 hR5 hb5 hbw5 ho5 hg5 hu hlX hlS hlR
    generalize w5.setCell ⟨bx, 0, none⟩ (.slice A5 us.length c5) = w7 at *
    have hlX := hX7.lt
    have hlR := hR7.lt
    have x0 := hX7.c0
    have x1 := hX7.c1
    have x2 := hX7.c2
    have fx0 := hX7.frozen 0
    go_wp2_with fail
    refine (l32Read_any A5 c5 us Ab cb [] (w.heap.size + 2) _ hA7 hB7 (by omega) (by omega) (by simp)).mono ?_
    rintro e w8 ⟨A8, c8, xs, B8, d8, ys, bad, rfl, ho8, hp8, HN, HS, hyl, hb8⟩
    have X8 := hX7.below hb8
    have R8 := hR7.below hb8
    have hbw8 := below_on hbw7 hb8
    have HA8 := hid (ho8.noBox X8 (by decide))
    have HB8 := hid (hp8.noBox X8 (by decide))
    have HA9 := hid (ho8.noBox R8 (by decide))
    have HB9 := hid (hp8.noBox R8 (by decide))
    clear x0 x1 x2 fx0 hX7 hR7 hA7 hB7 hbw7 hb8
    have y0 := X8.c0
    have y1 := X8.c1
    have y2 := X8.c2
    have fy0 := X8.frozen 0
    have fy1 := X8.frozen 1
    have fy2 := X8.frozen 2
    have r0 := R8.c0
    have r1 := R8.c1
    have r2 := R8.c2
    have fr0 := R8.frozen 0
    have fr1 := R8.frozen 1
    have fr2 := R8.frozen 2
    go_wp2_with fail
    have G := (R8.other3 (b := bx) (.slice A8 xs.length c8) (.slice B8 ys.length d8) (.bool bad) (by omega)).set3 (.slice A8 xs.length c8) (.slice B8 ys.length d8) (.bool bad)
    have g0 := G.c0
    have g1 := G.c1
    have g2 := G.c2
    refine bodyPost_ret (v := .tuple #[.agg #[.slice A8 xs.length c8, .slice B8 ys.length d8, .bool bad], .bool true]) (by simp [results, Try.results60, go_sem, g0, g1, g2]) rfl ?_
    have hk : ∀ {E : Option Addr} {k : Nat} {zs : List Int}, (∀ g, blk E = some g → g ≠ bx) → (∀ g, blk E = some g → g ≠ w.heap.size + 1) → OI w8 (w.heap.size + 2) E k zs → OI ((((((w8.setCell ⟨bx, 0, none⟩ (.slice A8 xs.length c8)).setCell ⟨bx, 1, none⟩ (.slice B8 ys.length d8)).setCell ⟨bx, 2, none⟩ (.bool bad)).setCell ⟨w.heap.size + 1, 0, none⟩ (.slice A8 xs.length c8)).setCell ⟨w.heap.size + 1, 1, none⟩ (.slice B8 ys.length d8)).setCell ⟨w.heap.size + 1, 2, none⟩ (.bool bad)) w.heap.size E k zs := fun h1 h2 h => ((((((h.setB _ _ _ h1).setB _ _ _ h1).setB _ _ _ h1).setB _ _ _ h2).setB _ _ _ h2).setB _ _ _ h2).mono (by omega)
    exact ⟨A8, c8, xs, B8, d8, ys, bad, true, rfl, hid HB.out.symm, hk HA8.out HA9.out ho8, hk HB8.out HB9.out hp8, hid (fun _ h => HF0.out.symm.trans (HN.out h)), hid (fun _ h => HF0.out.symm.trans (HS.out h)), below_set3 (below_set3 hbw8 (by omega) _ _ _) (by omega) _ _ _⟩
end Go.Proofs.Ytamljhjbmeikiaa
/- Contracts: a stream is read whole, program and reference. No condition. -/
namespace Go.Proofs.Ytamljhjbmeikiaa
open Go Go.RowKit
set_option maxHeartbeats 2000000 in
theorem StreamAll_any (A : Option Addr) (c : Nat) (bs : List Int) (w : World) (hr : RI w A c bs) (hn : bs.length ≤ 1048576) :
    Calls Try.prog 32 #[.slice A bs.length c] w (PLB w (saF bs)) := by
  go_enter Try.func32, Try.ntmps32
  go_wp2_with fail
  refine (StreamFeed_any _ _ bs _ hr hn).mono ?_
  rintro e w1 ⟨A1, c1, xs, B1, d1, ys, bad, ok, rfl, hok, hoA, hoB, HN, HS, hb1⟩
  have X1 := BX.new w1 #[.slice A1 xs.length c1, .slice B1 ys.length d1, .bool bad] 44
  have hA1 := hoA.alloc (.cells #[.slice A1 xs.length c1, .slice B1 ys.length d1, .bool bad] 44)
  have hB1 := hoB.alloc (.cells #[.slice A1 xs.length c1, .slice B1 ys.length d1, .bool bad] 44)
  have hbw1 := below_on hb1 (below_new w1 (.cells #[.slice A1 xs.length c1, .slice B1 ys.length d1, .bool bad] 44))
  clear hoA hoB hb1
  have x0 := X1.c0
  have x1 := X1.c1
  have x2 := X1.c2
  cases ok with
  | false =>
    have HZ := hid (saF_no hok.out)
    clear hok HN HS
    go_wp2_with fail
    go_ret2
    exact PLB_none HZ.out hbw1
  | true =>
  have HN2 := hid (HN.out rfl)
  have HS2 := hid (HS.out rfl)
  clear HN HS
  go_wp2_with fail
  refine (StreamEnd_any _ _ xs _ _ ys bad _ hA1.ri hB1.ri).mono ?_
  rintro e w2 ⟨q, hq, rfl, hb2⟩
  have X2 := X1.below hb2
  have hB2 := hB1.below hb2
  have hbw2 := below_on hbw1 hb2
  clear x0 x1 x2 X1 hA1 hB1 hbw1 hb2
  have x0 := X2.c0
  have x1 := X2.c1
  have x2 := X2.c2
  cases q with
  | false =>
    have HZ := hid (saF_off hok.out HN2.out HS2.out hq.out)
    clear hok HN2 HS2 hq
    go_wp2_with fail
    go_ret2
    exact PLB_none HZ.out hbw2
  | true =>
    have HZ := hid (saF_on hok.out HS2.out hq.out)
    clear hok HN2 HS2 hq
    go_wp2_with fail
    go_ret2
    exact ⟨B1, d1, ys, true, by unfold Hid; rw [HZ.out]; rfl, by unfold Hid; rw [HZ.out]; rfl, hB2, rfl, hbw2⟩
set_option maxHeartbeats 2000000 in
theorem sStreamAll_any (A : Option Addr) (c : Nat) (bs : List Int) (w : World) (hr : RI w A c bs) (hn : bs.length ≤ 1048576) :
    Calls Try.prog 31 #[.slice A bs.length c] w (PLB w (saF bs)) := by
  have hbw0 := below_on (below_new w (.cells #[] 3)) (below_new (w.alloc (.cells #[] 3)) (.cells #[] 3))
  have hr0 := (hr.alloc (.cells #[] 3)).alloc (.cells #[] 3)
  go_enter Try.func31, Try.ntmps31
  go_wp2_with fail
  refine (sStreamFeed_any _ 0 _ 0 _ _ bs _ (by omega) (by omega) hr0 hn).mono ?_
  rintro e w1 ⟨A1, c1, xs, B1, d1, ys, bad, ok, rfl, hok, hoA, hoB, HN, HS, hb1⟩
  have hw0 : w.heap.size ≤ ((w.alloc (.cells #[] 3)).alloc (.cells #[] 3)).heap.size := hbw0.size
  have X1 := BX.new w1 #[.slice A1 xs.length c1, .slice B1 ys.length d1, .bool bad] 44
  have hA1 := hoA.alloc (.cells #[.slice A1 xs.length c1, .slice B1 ys.length d1, .bool bad] 44)
  have hB1 := (hoB.mono hw0).alloc (.cells #[.slice A1 xs.length c1, .slice B1 ys.length d1, .bool bad] 44)
  have hbw1 := below_on (below_on hbw0 hb1) (below_new w1 (.cells #[.slice A1 xs.length c1, .slice B1 ys.length d1, .bool bad] 44))
  clear hoA hoB hb1 hbw0 hw0 hr0
  have x0 := X1.c0
  have x1 := X1.c1
  have x2 := X1.c2
  cases ok with
  | false =>
    have HZ := hid (saF_no hok.out)
    clear hok HN HS
    go_wp2_with fail
    go_ret2
    exact PLB_none HZ.out hbw1
  | true =>
  have HN2 := hid (HN.out rfl)
  have HS2 := hid (HS.out rfl)
  clear HN HS
  go_wp2_with fail
  refine (sStreamEnd_any _ _ xs _ _ ys bad _ hA1.ri hB1.ri).mono ?_
  rintro e w2 ⟨q, hq, rfl, hb2⟩
  have X2 := X1.below hb2
  have hB2 := hB1.below hb2
  have hbw2 := below_on hbw1 hb2
  clear x0 x1 x2 X1 hA1 hB1 hbw1 hb2
  have x0 := X2.c0
  have x1 := X2.c1
  have x2 := X2.c2
  cases q with
  | false =>
    have HZ := hid (saF_off hok.out HN2.out HS2.out hq.out)
    clear hok HN2 HS2 hq
    go_wp2_with fail
    go_ret2
    exact PLB_none HZ.out hbw2
  | true =>
    have HZ := hid (saF_on hok.out HS2.out hq.out)
    clear hok HN2 HS2 hq
    go_wp2_with fail
    go_ret2
    exact ⟨B1, d1, ys, true, by unfold Hid; rw [HZ.out]; rfl, by unfold Hid; rw [HZ.out]; rfl, hB2, rfl, hbw2⟩
end Go.Proofs.Ytamljhjbmeikiaa
