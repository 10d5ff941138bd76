/- Further laws for memory: the head of an own slice, copying within own memory. No condition. -/
import Derived.Test.YtiaheikoifnbaaaMem
import Derived.Laws.CopyOwn
import Derived.StillTailTactics
namespace Go.Proofs.Ytiaheikoifnbaaa
open Go Go.RowKit

theorem add_zero_map (A : Option Addr) : A.map (·.add 0) = A := by
  cases A with
  | none => rfl
  | some a => simp [Addr.add]
/-- A row of one's own that lies behind another one stays when that one turns. -/
theorem OI.keepBy {w w' : World} {B c : Nat} {A A' : Option Addr} {xs : List Int} (h : OI w B A c xs) (hg : w.grownBy w' (blk A')) (hA : ∀ b, blk A' = some b → b < B) : OI w' B A c xs :=
  OI.grown h hg fun g hg' e => by have := (OI.lt h hg').1; have := hA g e; omega
theorem OI.belowOwn {w0 w w' : World} {base c : Nat} {A : Option Addr} {xs : List Int} (h : Below w0.heap.size w0 w) (ho : OI w base A c xs) (hg : w.grownBy w' (blk A)) (hb : w0.heap.size ≤ base) : Below w0.heap.size w0 w' :=
  h.grown hg h.size fun k hk => by have := (OI.lt ho hk).1; omega
section
variable {P : Program} {w : World} {ops : Array Oper} {rest : List Oper} {o : Oper} {a : Act} {Q : Exit → Act → World → Prop}
/-- 'x[:h]' of an own slice: it stays one's own. -/
theorem wpl_takeO {T : TypeId} (hS : SlT P T 3 1 8 (.int .i64 0)) (hgd : o.guard = none) (x hi : Operand) (hop : o.op = .slice T x none (some hi) none)
    {base c : Nat} {A : Option Addr} {xs : List Int} (hx : a.eval x = .slice A xs.length c) (ho : OI w base A c xs) (h : Nat) (hhi : ∃ k i, a.eval hi = .int k i ∧ i = (h : Int)) (hhn : h ≤ xs.length)
    (hK : ∀ ys, Hid (ys = xs.take h) → OI w base A c ys → ys.length ≤ h → h ≤ ys.length → wpList P ops Q rest (a.put o.dst (.slice A ys.length c)) w) : wpList P ops Q (o :: rest) a w := by
  refine wpList_plain hgd fun K hK' => ?_
  have hcap := ho.ri.cap
  have hrun := run_cut (P := P) (w := w) hS (A := A) (n := xs.length) (c := c) (lo := none) (hi := some (a.eval hi)) (l := 0) (h := h) rfl hhi (Nat.zero_le _) (by omega) (fun e => by cases e)
  have hu : P.underlying T = some (.slice (P.elem T)) := by
    have he : P.elem T = 3 := by simp [Program.elem, hS.und]
    rw [he]; exact hS.und
  have hl : (xs.take h).length = h := by rw [List.length_take]; omega
  unfold Oper.wp execOp
  simp only [hop, hx, Option.map_none, Option.map_some, run_sliceAt_slice w T _ _ _ _ hu, Sem.run_bind, hrun, Result.andThen_ok, Sem.run_pure]
  refine hK' _ _ ?_
  have h1 := hK (xs.take h) rfl (by
    unfold OI
    rw [hl]
    have := OG.take_ ho hhn
    simpa [ints, List.map_take] using this) (by omega) (by omega)
  rw [hl] at h1
  have e : (if c = 0 then A else A.map (·.add (0 * 1))) = A := by
    split
    · rfl
    · exact add_zero_map A
  rw [e, Nat.sub_zero, Nat.sub_zero]
  exact h1
/-- A cut, in the quiet head of a region. -/
theorem stl_cut {T : TypeId} (hS : SlT P T 3 1 8 (.int .i64 0)) {QQ : Act → Prop} (hgd : o.guard = none) (x : Operand) (lo hi : Option Operand) (hop : o.op = .slice T x lo hi none)
    {A : Option Addr} {n c : Nat} (hx : a.eval x = .slice A n c) (l h : Nat) (hlo : Bnd (lo.map a.eval) l 0) (hhi : Bnd (hi.map a.eval) h n) (hlh : l ≤ h) (hhc : h ≤ c)
    (hK : wpStill P ops w QQ rest (a.put o.dst (.slice (if c = l then A else A.map (·.add l)) (h - l) (c - l)))) : wpStill P ops w QQ (o :: rest) a := by
  refine wpStill_step fun K hK' => ?_
  have hw : Region.wanted o (yielded ops a.tmps) = true := by simp [Region.wanted, hgd]
  rw [if_pos hw]
  have hrun := run_cut (P := P) (w := w) hS (A := A) (n := n) (c := c) hlo hhi hlh hhc (fun _ => hhc)
  have hu : P.underlying T = some (.slice (P.elem T)) := by
    have he : P.elem T = 3 := by simp [Program.elem, hS.und]
    rw [he]; exact hS.und
  unfold Oper.still execOp
  simp only [hop, hx, Option.map_none, run_sliceAt_slice w T _ _ _ _ hu, Sem.run_bind, hrun, Result.andThen_ok, Sem.run_pure, Oper.stillUpon_value, Nat.mul_one]
  exact hK' _ hK
/-- 'copy' into a part of an own slice; what is copied may lie in it, too. -/
theorem wpl_copyO {T : TypeId} (hS : SlT P T 3 1 8 (.int .i64 0)) (hgd : o.guard = none) (d s : Operand)
    (hop : o.op = .call { callee := .builtin .copy, args := #[d, s], argTypes := #[T, T] })
    {base c : Nat} {A : Option Addr} {xs : List Int} (ho : OI w base A c xs)
    {D : Option Addr} {dn dc : Nat} (hd : a.eval d = .slice D dn dc) (off : Nat) (hD : 0 < dn → D = A.map (·.add off)) (hfit : off + dn ≤ xs.length)
    {S : Option Addr} {sc : Nat} {ys : List Int} (hs : a.eval s = .slice S ys.length sc) (hr : RI w S sc ys) (m : Nat) (hm : m = min ys.length dn)
    (h : ∀ w' zs, Hid (zs = xs.take off ++ (ys.take m ++ xs.drop (off + m))) → zs.length ≤ xs.length → xs.length ≤ zs.length → OI w' base A c zs → w.grownBy w' (blk A) → wpList P ops Q rest (a.put o.dst (goInt m)) w') :
    wpList P ops Q (o :: rest) a w := by
  have hsz : (P.info? 3).map (·.size) = some 1 := by
    obtain ⟨i, hi, _, h2, _⟩ := hS.inf
    simp [hi, h2]
  have hml : (ys.take m).length = m := by rw [List.length_take]; omega
  rcases Nat.eq_zero_or_pos m with h0 | h0
  · subst h0
    refine wpList_copy_nothing hgd d s T T hop 3 hS.und hsz D S dn dc ys.length sc hd hs hm.symm ?_
    have e : xs.take off ++ (ys.take 0 ++ xs.drop (off + 0)) = xs := by simp
    exact h w xs (hid e.symm) (Nat.le_refl _) (Nat.le_refl _) ho (World.grownBy.refl w _)
  · have hdn : 0 < dn := by omega
    rcases ho.own.2 with ⟨h1, h2⟩ | ⟨g, cap, cur, hv, hb, hg, hn, hmx, hcs, htake⟩
    · injection h1 with _ h1
      omega
    · injection hv with hA _ hc
      subst hA; subst hc
      have hD' := hD hdn
      have hD2 : D = some ⟨g, off, none⟩ := by
        rw [hD']; unfold Addr.add; by_cases e : off = 0 <;> simp [e]
      subst hD2
      obtain ⟨ad, rfl, _, hcell⟩ := RG.at0 hr (by omega)
      have hlen : (ints (ys.take m)).length = m := by rw [ints_length, hml]
      have hcl : cur.toList.length = c * 1 := by simpa using hcs
      refine wpList_copy_own hgd d s T T hop 3 hS.und hsz g off dn dc ad ys.length sc hd hs cur 3 hg (ints (ys.take m)) (by rw [hlen]; exact hm) (fun j v hj => hcell j v ?_) (by rw [hlen, hcs]; omega) (ints_one _) ?_
      · rw [ints, List.map_take] at hj
        rw [List.getElem?_take] at hj
        split at hj
        · exact hj
        · cases hj
      · rw [hlen]
        have hlz : (xs.take off ++ (ys.take m ++ xs.drop (off + m))).length = xs.length := by
          rw [List.length_append, List.length_append, hml, List.length_take, List.length_drop]; omega
        refine h _ _ (hid rfl) (by omega) (by omega) ?_ ⟨rfl, rfl, rfl, by simp [World.setRow], fun k _ hk => setRow_other w g k _ (fun e => hk (by simp [blk, e]))⟩
        unfold OI
        refine ⟨⟨by rw [ints_length]; omega, .inr ⟨g, c, _, by rw [hlz], hb, setRow_heap w g _ _ 3 _ hg, by omega, hmx, ?_, ?_⟩⟩⟩
        · simp [hlen]; omega
        · have hx : cur.toList.take xs.length = ints xs := by simpa using htake
          have e1 : cur.toList.take off = ints (xs.take off) := by
            rw [ints, List.map_take, show xs.map (Value.int .i64) = ints xs from rfl, ← hx, List.take_take, Nat.min_eq_left (by omega)]
          have e2 : (cur.toList.drop (off + m)).take (xs.length - (off + m)) = ints (xs.drop (off + m)) := by
            rw [← List.drop_take, hx]; simp [ints, List.map_drop]
          rw [hlz]
          simp only [Nat.mul_one]
          rw [ints_app, ints_app, ← e1, ← e2]
          have l1 : (cur.toList.take off).length = off := by rw [List.length_take]; omega
          have t1 : ∀ R : List Value, (cur.toList.take off ++ R).take xs.length = cur.toList.take off ++ R.take (xs.length - off) := fun R => by
            rw [List.take_append, List.take_of_length_le (l := cur.toList.take off) (by omega), l1]
          have t2 : ∀ R : List Value, (ints (ys.take m) ++ R).take (xs.length - off) = ints (ys.take m) ++ R.take (xs.length - off - m) := fun R => by
            rw [List.take_append, List.take_of_length_le (l := ints (ys.take m)) (by omega), hlen]
          rw [t1, t2, Nat.sub_sub]
end
end Go.Proofs.Ytiaheikoifnbaaa
