/- Joined texts: contracts and plain facts that the laws share. No condition. -/
import Derived.WalkKit
import Derived.Deep.AppendLies
import Derived.Deep.Draws
import Derived.Maps.AppendAt
import Derived.BigQuiet
import Derived.Test.YtamljhjbmeikiaaChecked
import Derived.Test.YtamljhjbmeikiaaGPa
import Derived.Laws.CopyOwn
import Derived.StillTailTactics
import Derived.Deep.RegionLaw
import Derived.Deep.QuietTactic
import Derived.Test.YtamljhjbmeikiaaRows
import Derived.ProofKit
import Derived.OpenShut
import Derived.ShutString
import Derived.ChangeOld
import Derived.Lib.SmallJoins
import Derived.Laws.BitsAllLaws
import Derived.Laws.BitsLemmas
import Derived.Deep.RegionHeld3
import Derived.Deep.RegionWith
import Derived.Deep.CutRange
/- Words for memory: slices that can be read, slices of the call's own, and the laws by which a walk reads, cuts and appends. No condition. -/
namespace Go.Proofs.Ytamljhjbmeikiaa
open Go Go.RowKit

theorem hid {p : Prop} (h : p) : Hid p := h
theorem ret_slice {A : Option Addr} {n m c : Nat} (h : n = m) : Ending.returned (.slice A n c) = .returned (.slice A m c) := by rw [h]
theorem ret_int {k : IntKind} {a b : Int} (h : a = b) : Ending.returned (.int k a) = .returned (.int k b) := by rw [h]
theorem below_drewN {B : Nat} {a w : World} (h : Below B a w) (n : Nat) : Below B a (w.drewN n) := ⟨h.os, h.tape, h.output, h.size, h.block⟩
theorem below_on {w a b : World} (h : Below w.heap.size w a) (k : Below a.heap.size a b) : Below w.heap.size w b := h.trans (k.mono h.size)
theorem below_new (w : World) (o : Obj) : Below w.heap.size w (w.alloc o) := (Below.refl _ _).alloc (Nat.le_refl _) o
theorem gb_refl (w : World) (row : Option Nat) : w.grownBy w row := World.grownBy.refl w row
theorem gb_trans {a b c : World} {row : Option Nat} (h : a.grownBy b row) (k : b.grownBy c row) : a.grownBy c row :=
  ⟨k.os.trans h.os, k.tape.trans h.tape, k.output.trans h.output, Nat.le_trans h.size k.size, fun i hi hn => (k.block i (Nat.lt_of_lt_of_le hi h.size) hn).trans (h.block i hi hn)⟩
/-- Behind 'only the row has turned': a row of one's own, made since, is written. -/
theorem gb_own {a b c : World} {row r : Option Nat} (h : a.grownBy b row) (k : b.grownBy c r) (hr : ∀ g, r = some g → a.heap.size ≤ g) : a.grownBy c row :=
  ⟨k.os.trans h.os, k.tape.trans h.tape, k.output.trans h.output, Nat.le_trans h.size k.size, fun i hi hn =>
    (k.block i (Nat.lt_of_lt_of_le hi h.size) (fun e => by have := hr i e.symm; omega)).trans (h.block i hi hn)⟩
theorem gb_below {a b c : World} {row : Option Nat} (h : a.grownBy b row) (k : Below b.heap.size b c) : a.grownBy c row :=
  ⟨k.os.trans h.os, k.tape.trans h.tape, k.output.trans h.output, Nat.le_trans h.size k.size, fun i hi hn => (k.block i (Nat.lt_of_lt_of_le hi h.size)).trans (h.block i hi hn)⟩
theorem gb_of {a b : World} (h : Below a.heap.size a b) (row : Option Nat) : a.grownBy b row := gb_below (gb_refl a row) h
theorem gb_drewN {a b : World} {row : Option Nat} (h : a.grownBy b row) (n : Nat) : a.grownBy (b.drewN n) row := ⟨h.os, h.tape, h.output, h.size, h.block⟩
theorem below_gb {a b : World} {g : Nat} (h : a.grownBy b (some g)) (hg : a.heap.size ≤ g) : Below a.heap.size a b :=
  ⟨h.os, h.tape, h.output, h.size, fun k hk => h.block k hk (fun e => by injection e; omega)⟩
theorem block_of_add (a : Addr) (n : Nat) : (a.add n).block = a.block := by unfold Addr.add; split <;> rfl
theorem add_of_add (a : Addr) (i j : Nat) : (a.add i).add j = a.add (i + j) := by
  unfold Addr.add
  by_cases hi : i = 0 <;> by_cases hj : j = 0 <;> simp [hi, hj, Nat.add_assoc]
theorem cell_eq {w w' : World} {p : Addr} (h : w'.heap[p.block]? = w.heap[p.block]?) : w'.cell? p = w.cell? p := World.cell?_of_block h

/-- The slice '.slice A n c' (elements of sz cells) can be read in w: its cells are cs. -/
structure RG (w : World) (sz : Nat) (A : Option Addr) (c n : Nat) (cs : List Value) : Prop where
  len : cs.length = n * sz
  at0 : 0 < n → ∃ ad, A = some ad ∧ ad.block < w.heap.size ∧ ∀ j u, cs[j]? = some u → w.cell? (ad.add j) = some u
  cap : n ≤ c
  big : c ≤ maxLen

/-- The slice '.slice A n c' is of the call's own (from block 'base' on): its cells are cs. -/
structure OG (w : World) (base : Nat) (e : TypeId) (sz : Nat) (A : Option Addr) (c n : Nat) (cs : List Value) : Prop where
  own : w.ownsRow base e sz (.slice A n c) n cs

def blk (A : Option Addr) : Option Nat := A.map (·.block)

section
variable {w w' : World} {base B sz n c : Nat} {e : TypeId} {A : Option Addr} {cs : List Value}
theorem RG.nil (w : World) (sz : Nat) (A : Option Addr) (c : Nat) (hc : c ≤ maxLen) : RG w sz A c 0 [] := ⟨by simp, fun h => absurd h (by omega), by omega, hc⟩
theorem RG.below (h : RG w sz A c n cs) (hb : Below w.heap.size w w') : RG w' sz A c n cs :=
  ⟨h.len, fun hn => by
    obtain ⟨ad, e, hl, hc⟩ := h.at0 hn
    exact ⟨ad, e, by have := hb.size; omega, fun j u hu => (hb.cell (by rw [block_of_add]; exact hl)).trans (hc j u hu)⟩, h.cap, h.big⟩
theorem RG.cut (h : RG w sz A c n cs) {k : Nat} (hk : k ≤ n) :
    RG w sz (if c = k then A else A.map (·.add (k * sz))) (c - k) (n - k) (cs.drop (k * sz)) := by
  refine ⟨by rw [List.length_drop, h.len, Nat.sub_mul], fun hn => ?_, by have := h.cap; omega, by have := h.big; omega⟩
  obtain ⟨ad, rfl, hb, hcell⟩ := h.at0 (by omega)
  have := h.cap
  rw [if_neg (by omega)]
  refine ⟨ad.add (k * sz), rfl, by rw [block_of_add]; exact hb, fun j u hu => ?_⟩
  rw [add_of_add]
  exact hcell _ u (by rw [← hu, List.getElem?_drop])
theorem RG.take_ (h : RG w sz A c n cs) {k : Nat} (hk : k ≤ n) : RG w sz A c k (cs.take (k * sz)) := by
  refine ⟨by rw [List.length_take, h.len]; exact Nat.min_eq_left (Nat.mul_le_mul_right _ hk), fun hn => ?_, by have := h.cap; omega, h.big⟩
  obtain ⟨ad, e, hb, hcell⟩ := h.at0 (by omega)
  refine ⟨ad, e, hb, fun j u hu => hcell j u ?_⟩
  rw [List.getElem?_take] at hu
  split at hu
  · exact hu
  · cases hu
theorem RG.at_ (h : RG w sz A c n cs) {j : Nat} (hj : j < n * sz) : ∃ ad, A = some ad ∧ ad.block < w.heap.size ∧ w.cell? (ad.add j) = cs[j]? := by
  have hn : 0 < n := by
    rcases Nat.eq_zero_or_pos n with h0 | h0
    · subst h0; omega
    · exact h0
  obtain ⟨ad, e, hb, hcell⟩ := h.at0 hn
  have hl : j < cs.length := by rw [h.len]; exact hj
  refine ⟨ad, e, hb, ?_⟩
  rw [List.getElem?_eq_getElem hl]
  exact hcell j _ (List.getElem?_eq_getElem hl)

theorem OG.rg (h : OG w base e sz A c n cs) : RG w sz A c n cs := by
  rcases h.own.2 with ⟨h0, h1⟩ | ⟨g, cap, cur, hv, hb, hg, hn, hm, _⟩
  · injection h0 with _ _ hc
    subst h1; subst hc
    exact ⟨h.own.1, fun h => absurd h (by omega), by omega, by unfold maxLen; omega⟩
  · injection hv with hA _ hc
    subst hA; subst hc
    exact ⟨h.own.1, fun _ => ⟨_, rfl, (Array.getElem?_eq_some_iff.1 hg).1, h.own.cells (g := g) rfl⟩, hn, hm⟩
theorem OG.lt (h : OG w base e sz A c n cs) {b : Nat} (hb : blk A = some b) : base ≤ b ∧ b < w.heap.size := by
  cases A with
  | none => simp [blk] at hb
  | some a => exact h.own.lt _ (by simpa [blk, Value.ownBlock] using hb)
theorem OG.keep (h : OG w base e sz A c n cs) (hk : ∀ g, blk A = some g → w'.heap[g]? = w.heap[g]?) : OG w' base e sz A c n cs := by
  refine ⟨⟨h.own.1, ?_⟩⟩
  rcases h.own.2 with hn | ⟨g, cap, cur, hv, hb, hgg, rest⟩
  · exact .inl hn
  · refine .inr ⟨g, cap, cur, hv, hb, (hk g ?_).trans hgg, rest⟩
    injection hv with hA
    subst hA; rfl
theorem OG.below (h : OG w base e sz A c n cs) (hb : Below w.heap.size w w') : OG w' base e sz A c n cs := h.keep fun _ hg => hb.block _ (h.lt hg).2
theorem OG.grown (h : OG w base e sz A c n cs) {row : Option Nat} (hg : w.grownBy w' row) (hne : ∀ g, blk A = some g → row ≠ some g) : OG w' base e sz A c n cs :=
  h.keep fun g hb => hg.block g (h.lt hb).2 (fun he => hne g hb he.symm)
theorem OG.mono {base' : Nat} (h : OG w base e sz A c n cs) (hb : base' ≤ base) : OG w base' e sz A c n cs := by
  refine ⟨⟨h.own.1, ?_⟩⟩
  rcases h.own.2 with hn | ⟨g, cap, cur, hv, hbg, rest⟩
  · exact .inl hn
  · exact .inr ⟨g, cap, cur, hv, by omega, rest⟩
theorem OG.nil (w : World) (base : Nat) (e : TypeId) (sz : Nat) : OG w base e sz none 0 0 [] := ⟨World.ownsRow_nil _ _ _ _⟩
/-- A block just made by a literal. -/
theorem OG.lit (w : World) (base : Nat) (e : TypeId) (sz : Nat) (cs : Array Value) (n : Nat) (hb : base ≤ w.heap.size) (hm : n ≤ maxLen) (hs : cs.size = n * sz) :
    OG (w.alloc (.cells cs e)) base e sz (some ⟨w.heap.size, 0, none⟩) n n cs.toList := ⟨World.ownsRow_lit w cs n hb hm hs⟩
theorem OG.take_ (h : OG w base e sz A c n cs) {k : Nat} (hk : k ≤ n) : OG w base e sz A c k (cs.take (k * sz)) := by
  refine ⟨⟨by rw [List.length_take, h.own.1]; exact Nat.min_eq_left (Nat.mul_le_mul_right _ hk), ?_⟩⟩
  rcases h.own.2 with ⟨h0, h1⟩ | ⟨g, cap, cur, hv, hb, hgg, hn, hm, hcs, htake⟩
  · injection h0 with hA _ hc
    subst hA; subst hc
    have : k = 0 := by omega
    subst this
    exact .inl ⟨rfl, rfl⟩
  · injection hv with hA _ hc
    subst hA; subst hc
    refine .inr ⟨g, c, cur, rfl, hb, hgg, by omega, hm, hcs, ?_⟩
    rw [← htake, List.take_take, Nat.min_eq_left (Nat.mul_le_mul_right _ hk)]
/-- One cell of the call's own is written. -/
theorem OG.store {ad : Addr} (h : OG w base e sz (some ad) c n cs) (j : Nat) (u : Value) :
    OG (w.setCell (ad.add j) u) base e sz (some ad) c n (cs.set j u) ∧ w.grownBy (w.setCell (ad.add j) u) (some ad.block) ∧ w.frozen? (ad.add j) = false := by
  have hex : ∃ g, ad = ⟨g, 0, none⟩ := by
    rcases h.own.2 with ⟨h0, _⟩ | ⟨g, cap, cur, hv, _⟩
    · injection h0 with hA; cases hA
    · injection hv with hA; injection hA with hA; exact ⟨g, hA⟩
  obtain ⟨g, rfl⟩ := hex
  have he : (⟨g, 0, none⟩ : Addr).add j = ⟨g, j, none⟩ := by unfold Addr.add; split <;> simp_all
  rw [he]
  have h1 := h.own.stored j u
  exact ⟨⟨h1.1⟩, h1.2, h.own.frozenAt j⟩
end

/-- The element type of a slice type, and its row of the program's table. -/
structure SlT (P : Program) (T E : TypeId) (sz bytes : Nat) (z : Value) : Prop where
  und : P.underlying T = some (.slice E)
  inf : ∃ i, P.info? E = some i ∧ i.zero = some z ∧ i.size = sz ∧ i.bytes = bytes
  zc : z.cells.size = sz
  pos : 0 < sz

section
variable {P : Program} {w : World} {ops : Array Oper} {rest : List Oper} {o : Oper} {a : Act} {Q : Exit → Act → World → Prop}

theorem run_append_of_nil (w : World) (base : Nat) (t ty e : TypeId) (i : TypeInfo) (size : Nat) (ht : P.underlying t = some (.slice e)) (hi : P.info? e = some i)
    (v : Value) (n : Nat) (xs : List Value) (hown : w.ownsRow base e size v n xs) (c : Nat) : (Builtin.append_ #[t, t] ty #[v, .slice none 0 c]).run P w = .ok v w := by
  rcases hown.2 with ⟨rfl, rfl⟩ | ⟨g, cap, cur, rfl, _, _, hnc, _⟩
  · simp [Builtin.append_, run_underlying ht, sizeOf, typeInfo, hi, Builtin.lenOf, Builtin.firstCells]
  · simp [Builtin.append_, run_underlying ht, sizeOf, typeInfo, hi, Builtin.lenOf, Builtin.firstCells, hnc, storeCells]

theorem run_append_og {T E : TypeId} {sz bytes : Nat} {z : Value} (hS : SlT P T E sz bytes z) (ty : TypeId) {base c n : Nat} {A : Option Addr} {cs : List Value} (ho : OG w base E sz A c n cs)
    {B : Option Addr} {d m : Nat} {ds : List Value} (hr : RG w sz B d m ds) (h1 : ∀ u ∈ ds, u.oneCell' = true) (h63 : n + m ≤ maxLen) (hbytes : (n + m) * bytes ≤ 140737488355328) (hbase : base ≤ w.heap.size) :
    ∃ A' c' w', (Builtin.append_ #[T, T] ty #[.slice A n c, .slice B m d]).run P w = .ok (.slice A' (n + m) c') w' ∧ OG w' base E sz A' c' (n + m) (cs ++ ds) ∧ w.grownBy w' (blk A) ∧
      (blk A' = blk A ∨ blk A' = some w.heap.size) := by
  obtain ⟨i, hi, hz, hsz, hby⟩ := hS.inf
  rcases B with _ | ad
  · have hm : m = 0 := by
      rcases Nat.eq_zero_or_pos m with h0 | h0
      · exact h0
      · obtain ⟨ad, h, _⟩ := hr.at0 h0
        cases h
    subst hm
    have hn : ds = [] := List.eq_nil_of_length_eq_zero (by simpa using hr.len)
    subst hn
    exact ⟨A, c, w, run_append_of_nil w base T ty E i sz hS.und hi _ n cs ho.own d, by simpa using ho, World.grownBy.refl w _, .inl rfl⟩
  · have hcells : ∀ j u, ds[j]? = some u → w.cell? (ad.add j) = some u := by
      intro j u hu
      rcases Nat.eq_zero_or_pos m with h0 | h0
      · subst h0
        have hn : ds = [] := List.eq_nil_of_length_eq_zero (by simpa using hr.len)
        subst hn
        simp at hu
      · obtain ⟨ad', h, _, hc⟩ := hr.at0 h0
        injection h with h
        subst h
        exact hc j u hu
    obtain ⟨v', w', hrun, h2, h3, _, h5⟩ := run_append_own_at (P := P) w base T ty E i z sz bytes hS.und hi hz hsz hby hS.zc hS.pos _ n cs ho.own ad m d ds hr.len hcells h1 h63 hbytes hbase
    have hv : ∃ A' c', v' = .slice A' (n + m) c' := by
      rcases h2.2 with ⟨h0, hnm⟩ | ⟨g, cap, cur, hv, _⟩
      · exact ⟨none, 0, by rw [h0, hnm]⟩
      · exact ⟨_, _, hv⟩
    obtain ⟨A', c', rfl⟩ := hv
    refine ⟨A', c', w', hrun, ⟨h2⟩, ?_, ?_⟩
    · cases A <;> exact h3
    · cases A <;> cases A' <;> exact h5

theorem wpl_append {T E : TypeId} {sz bytes : Nat} {z : Value} (hS : SlT P T E sz bytes z) (hgd : o.guard = none) (s x : Operand)
    (hop : o.op = .call { callee := .builtin .append, args := #[s, x], argTypes := #[T, T] })
    {base c n : Nat} {A : Option Addr} {cs : List Value} (hs : a.eval s = .slice A n c) (ho : OG w base E sz A c n cs)
    {B : Option Addr} {d m : Nat} {ds : List Value} (hx : a.eval x = .slice B m d) (hr : RG w sz B d m ds) (h1 : ∀ u ∈ ds, u.oneCell' = true) (h63 : n + m ≤ maxLen) (hbytes : (n + m) * bytes ≤ 140737488355328) (hbase : base ≤ w.heap.size)
    (h : ∀ A' c' w', OG w' base E sz A' c' (n + m) (cs ++ ds) → w.grownBy w' (blk A) → (blk A' = blk A ∨ blk A' = some w.heap.size) → wpList P ops Q rest (a.put o.dst (.slice A' (n + m) c')) w') : wpList P ops Q (o :: rest) a w := by
  refine wpList_plain hgd fun K hK => ?_
  obtain ⟨A', c', w', hrun, h2, h3, h4⟩ := run_append_og (P := P) hS o.type ho hr h1 h63 hbytes hbase
  unfold Oper.wp execOp
  simp only [hop, resolve, invoke, builtin, Sem.run_bind, Sem.run_pure, Result.andThen_ok, List.map_toArray, List.map_cons, List.map_nil, hs, hx, hrun]
  exact hK _ _ (h A' c' w' h2 h3 h4)
end

/-- A bound of a cut: it is left out, or it is a number. -/
def Bnd (v : Option Value) (n d : Nat) : Prop := match v with
  | none => n = d
  | some v => ∃ k i, v = .int k i ∧ i = (n : Int)

section
variable {P : Program} {w : World} {ops : Array Oper} {rest : List Oper} {o : Oper} {a : Act} {Q : Exit → Act → World → Prop}
theorem run_cut {T E : TypeId} {sz bytes : Nat} {z : Value} (hS : SlT P T E sz bytes z) {A : Option Addr} {n c : Nat} {lo hi : Option Value} {l h : Nat} (hlo : Bnd lo l 0) (hhi : Bnd hi h n) (hlh : l ≤ h) (hhc : h ≤ c) (hln : hi = none → h ≤ c) :
    (Instr.slice T (.slice A n c) lo hi none).run P w = .ok (.slice (if c = l then A else A.map (·.add (l * sz))) (h - l) (c - l)) w := by
  obtain ⟨i, hi', hz, hsz, hby⟩ := hS.inf
  have he : P.elem T = E := by simp [Program.elem, hS.und]
  have hso : (sizeOf (P.elem T)).run P w = .ok sz w := by simp [he, sizeOf, typeInfo, hi', hsz]
  have hu : P.underlying T = some (.slice (P.elem T)) := by rw [he]; exact hS.und
  cases lo with
  | none =>
    have hl : l = 0 := hlo
    subst hl
    cases hi with
    | none =>
      have hh : h = n := hhi
      subst hh
      rw [run_slice_all w T A h c hu, hso]; rfl
    | some v =>
      obtain ⟨k, q, rfl, rfl⟩ := hhi
      rw [run_slice_h w T A n c hu k h (by omega) (by omega), hso]; rfl
  | some v =>
    obtain ⟨k, q, rfl, rfl⟩ := hlo
    cases hi with
    | none =>
      have hh : h = n := hhi
      subst hh
      rw [run_slice_l w T A h c hu k l (by omega) (by omega), hso]; rfl
    | some v' =>
      obtain ⟨k', q', rfl, rfl⟩ := hhi
      rw [run_slice_lh w T A n c hu k k' l h (by omega) (by omega) (by omega), hso]; rfl
/-- 'x[l:h]': what is cut can be read. -/
theorem wpl_cut {T E : TypeId} {sz bytes : Nat} {z : Value} (hS : SlT P T E sz bytes z) (hgd : o.guard = none) (x : Operand) (lo hi : Option Operand) (hop : o.op = .slice T x lo hi none)
    {A : Option Addr} {n c : Nat} {cs : List Value} (hx : a.eval x = .slice A n c) (hr : RG w sz A c n cs) (l h : Nat) (hlo : Bnd (lo.map a.eval) l 0) (hhi : Bnd (hi.map a.eval) h n) (hlh : l ≤ h) (hhn : h ≤ n)
    (hK : ∀ A' c', RG w sz A' c' (h - l) ((cs.take (h * sz)).drop (l * sz)) → (∀ b, blk A' = some b → blk A = some b) → wpList P ops Q rest (a.put o.dst (.slice A' (h - l) c')) w) : wpList P ops Q (o :: rest) a w := by
  refine wpList_plain hgd fun K hK' => ?_
  have hrun := run_cut (P := P) (w := w) hS (A := A) (n := n) (c := c) hlo hhi hlh (by have := hr.cap; omega) (fun _ => by have := hr.cap; omega)
  have hu : P.underlying T = some (.slice (P.elem T)) := by
    have he : P.elem T = E := by simp [Program.elem, hS.und]
    rw [he]; exact hS.und
  unfold Oper.wp execOp
  simp only [hop, hx, Option.map_none, run_sliceAt_slice w T _ _ _ _ hu, Sem.run_bind, hrun, Result.andThen_ok, Sem.run_pure]
  refine hK' _ _ (hK _ _ ((hr.take_ hhn).cut hlh) ?_)
  intro b hb
  split at hb
  · exact hb
  · cases A <;> simp_all [blk, block_of_add]
end

/-- The cells of a list of ints. -/
def ints (xs : List Int) : List Value := xs.map (Value.int .i64)
theorem ints_length (xs : List Int) : (ints xs).length = xs.length := by simp [ints]
theorem ints_one (xs : List Int) : ∀ u ∈ ints xs, u.oneCell' = true := by
  intro u hu
  obtain ⟨x, _, rfl⟩ := List.mem_map.1 hu
  rfl
theorem ints_app (xs ys : List Int) : ints (xs ++ ys) = ints xs ++ ints ys := by simp [ints]
theorem ints_take (xs : List Int) (k : Nat) : (ints xs).take k = ints (xs.take k) := by simp [ints, List.map_take]
theorem ints_at {xs : List Int} {k : Nat} (h : k < xs.length) : (ints xs)[k]? = some (.int .i64 xs[k]) := by simp [ints, List.getElem?_eq_getElem h]

/-- The slice '.slice A xs.length c' can be read in w, and its ints are xs; it is of the call's own. -/
def RI (w : World) (A : Option Addr) (c : Nat) (xs : List Int) : Prop := RG w 1 A c xs.length (ints xs)
def OI (w : World) (base : Nat) (A : Option Addr) (c : Nat) (xs : List Int) : Prop := OG w base 3 1 A c xs.length (ints xs)

section
variable {w w' : World} {base B c : Nat} {A : Option Addr} {xs ys : List Int}
theorem RI.cap (h : RI w A c xs) : xs.length ≤ c := RG.cap h
theorem RI.big (h : RI w A c xs) : c ≤ maxLen := RG.big h
theorem RI.below (h : RI w A c xs) (hb : Below w.heap.size w w') : RI w' A c xs := RG.below h hb
theorem RI.at_ (h : RI w A c xs) {k : Nat} (hk : k < xs.length) : ∃ ad, A = some ad ∧ ad.block < w.heap.size ∧ w.cell? (ad.add k) = some (.int .i64 xs[k]) := by
  obtain ⟨ad, e, hb, hc⟩ := RG.at_ (j := k) h (by omega)
  exact ⟨ad, e, hb, by rw [hc, ints_at hk]⟩
theorem RI.drew (h : RI w A c xs) : RI w.drew A c xs := RI.below h (Below.drew (Below.refl _ _))
theorem RI.pre {xs ys : List Int} (h : RI w A c (xs ++ ys)) : RI w A c xs := by
  have := RG.take_ (k := xs.length) h (by simp)
  unfold RI
  simpa [ints_app, ints_length] using this
/-- One element: its cell, its value under a name of its own. -/
theorem RI.get (h : RI w A c xs) {k : Nat} (hk : k < xs.length) : ∃ ad x, A = some ad ∧ Hid (xs[k]? = some x) ∧ w.cell? (ad.add k) = some (.int .i64 x) := by
  obtain ⟨ad, e, _, hc⟩ := h.at_ hk
  exact ⟨ad, xs[k], e, List.getElem?_eq_getElem hk, hc⟩
theorem RI.cellAt {ad : Addr} (h : RI w (some ad) c xs) {k : Nat} {x : Int} (hx : xs[k]? = some x) : w.cell? (ad.add k) = some (.int .i64 x) := by
  obtain ⟨ad', x', e, hx', hc⟩ := h.get (k := k) (List.getElem?_eq_some_iff.1 hx).1
  injection e with e
  subst e
  rw [hc, Option.some.inj (hx'.out.symm.trans hx)]
theorem OI.lo {ad : Addr} (h : OI w base (some ad) c xs) : base ≤ ad.block := (OG.lt h (b := ad.block) rfl).1
theorem OI.hi {ad : Addr} (h : OI w base (some ad) c xs) : ad.block < w.heap.size := (OG.lt h (b := ad.block) rfl).2
theorem OI.ri (h : OI w base A c xs) : RI w A c xs := OG.rg h
theorem OI.lt (h : OI w base A c xs) {b : Nat} (hb : blk A = some b) : base ≤ b ∧ b < w.heap.size := OG.lt h hb
theorem OI.below (h : OI w base A c xs) (hb : Below w.heap.size w w') : OI w' base A c xs := OG.below h hb
theorem OI.grown (h : OI w base A c xs) {row : Option Nat} (hg : w.grownBy w' row) (hne : ∀ g, blk A = some g → row ≠ some g) : OI w' base A c xs := OG.grown h hg hne
/-- A row below one's own has turned. -/
theorem OI.past (h : OI w base A c xs) {g : Nat} (hg : w.grownBy w' (some g)) (hb : g < base) : OI w' base A c xs :=
  OI.grown h hg fun b hbb e => by have := (OI.lt h hbb).1; injection e; omega
theorem OI.mono {base' : Nat} (h : OI w base A c xs) (hb : base' ≤ base) : OI w base' A c xs := OG.mono h hb
theorem OI.nil (w : World) (base : Nat) : OI w base none 0 [] := OG.nil w base 3 1
theorem OI.empty (w : World) (base : Nat) (hb : base ≤ w.heap.size) : OI (w.alloc (.cells #[] 3)) base (some ⟨w.heap.size, 0, none⟩) 0 [] := OG.lit w base 3 1 #[] 0 hb (by unfold maxLen; omega) rfl
theorem OI.one (w : World) (base : Nat) (x : Int) (hb : base ≤ w.heap.size) : OI (w.alloc (.cells #[.int .i64 x] 3)) base (some ⟨w.heap.size, 0, none⟩) 1 [x] :=
  OG.lit w base 3 1 #[.int .i64 x] 1 hb (by unfold maxLen; omega) rfl
theorem OI.litI (w : World) (base : Nat) (xs : List Int) (hb : base ≤ w.heap.size) (hn : xs.length ≤ 1000000) : OI (w.alloc (.cells (ints xs).toArray 3)) base (some ⟨w.heap.size, 0, none⟩) xs.length xs := by
  have := OG.lit w base 3 1 (ints xs).toArray xs.length hb (by unfold maxLen; omega) (by simp [ints])
  unfold OI
  simpa using this
theorem OI.drew (h : OI w base A c xs) : OI w.drew base A c xs := OI.below h (Below.drew (Below.refl _ _))
theorem OI.alloc (h : OI w base A c xs) (o : Obj) : OI (w.alloc o) base A c xs := OI.below h ((Below.refl _ _).alloc (Nat.le_refl _) o)
theorem RI.alloc (h : RI w A c xs) (o : Obj) : RI (w.alloc o) A c xs := RI.below h ((Below.refl _ _).alloc (Nat.le_refl _) o)
theorem OI.store {ad : Addr} (h : OI w base (some ad) c xs) (k : Nat) (u : Int) :
    OI (w.setCell (ad.add k) (.int .i64 u)) base (some ad) c (xs.set k u) ∧ w.grownBy (w.setCell (ad.add k) (.int .i64 u)) (some ad.block) ∧ w.frozen? (ad.add k) = false := by
  have := OG.store h k (.int .i64 u)
  refine ⟨?_, this.2⟩
  have h1 := this.1
  unfold OI
  rw [List.length_set, show ints (xs.set k u) = (ints xs).set k (.int .i64 u) by simp [ints]]
  exact h1
theorem below_grown {B : Nat} {a w w' : World} {base : Nat} {A : Option Addr} {e : TypeId} {sz n c : Nat} {cs : List Value} (h : Below B a w) (ho : OG w base e sz A c n cs) (hg : w.grownBy w' (blk A)) (hb : B ≤ base) (hB : B ≤ w.heap.size) : Below B a w' :=
  h.grown hg hB fun k hk => by have := (ho.lt hk).1; omega
end

section
variable {P : Program} {w : World} {ops : Array Oper} {rest : List Oper} {o : Oper} {a : Act} {Q : Exit → Act → World → Prop}
/-- 'append(xs, ys...)' of ints, xs of the call's own. -/
theorem wpl_app {T : TypeId} (hS : SlT P T 3 1 8 (.int .i64 0)) (hgd : o.guard = none) (s x : Operand)
    (hop : o.op = .call { callee := .builtin .append, args := #[s, x], argTypes := #[T, T] })
    {base c : Nat} {A : Option Addr} {xs : List Int} (hs : a.eval s = .slice A xs.length c) (ho : OI w base A c xs)
    {B : Option Addr} {d : Nat} {ys : List Int} (hx : a.eval x = .slice B ys.length d) (hr : RI w B d ys) (hn : xs.length + ys.length ≤ 17592186044416) (hbase : base ≤ w.heap.size)
    (h : ∀ A' c' w' zs, Hid (zs = xs ++ ys) → OI w' base A' c' zs → w.grownBy w' (blk A) → (blk A' = blk A ∨ blk A' = some w.heap.size) → wpList P ops Q rest (a.put o.dst (.slice A' zs.length c')) w') : wpList P ops Q (o :: rest) a w := by
  refine wpl_append hS hgd s x hop hs ho hx hr (ints_one ys) (by unfold maxLen; omega) (by omega) hbase fun A' c' w' h1 h2 h3 => ?_
  have := h A' c' w' (xs ++ ys) rfl (by unfold OI; rw [List.length_append, ints_app]; exact h1) h2 h3
  rwa [List.length_append] at this
/-- 'xs[i]' of ints: the cell's address under a name of its own. -/
theorem wpl_idx {T : TypeId} (hS : SlT P T 3 1 8 (.int .i64 0)) (hgd : o.guard = none) (x i : Operand) (hop : o.op = .indexAddr T x i)
    {A : Option Addr} {c : Nat} {xs : List Int} (hx : a.eval x = .slice A xs.length c) {k : IntKind} {iv : Int} (hi : a.eval i = .int k iv) (hr : RI w A c xs) (h0 : 0 ≤ iv) (h1 : iv < (xs.length : Int))
    (hK : ∀ p v, Hid (xs[iv.toNat]? = some v) → w.cell? p = some (.int .i64 v) → (∀ b, blk A = some b → b = p.block) → wpList P ops Q rest (a.put o.dst (.pointer (some p))) w) : wpList P ops Q (o :: rest) a w := by
  refine wpList_plain hgd fun K hK' => ?_
  obtain ⟨ad, v, rfl, hv, hc⟩ := RI.get hr (k := iv.toNat) (by omega)
  have he : P.elem T = 3 := by simp [Program.elem, hS.und]
  have hu : P.underlying T = some (.slice (P.elem T)) := by rw [he]; exact hS.und
  obtain ⟨ti, hi', hz, hsz, hby⟩ := hS.inf
  have hso : (sizeOf (P.elem T)).run P w = .ok 1 w := by simp [he, sizeOf, typeInfo, hi', hsz]
  unfold Oper.wp execOp
  simp only [hop, hx, hi, Sem.run_bind, run_indexAt_slice w T ad _ _ k iv hu, if_pos (And.intro h0 h1), hso, Result.andThen_ok, Sem.run_pure, Nat.mul_one]
  exact hK' _ _ (hK _ v hv hc (fun b hb => by simpa [blk, block_of_add] using hb.symm))
/-- 'xs[l:h]' of ints. -/
theorem wpl_cutI {T : TypeId} (hS : SlT P T 3 1 8 (.int .i64 0)) (hgd : o.guard = none) (x : Operand) (lo hi : Option Operand) (hop : o.op = .slice T x lo hi none)
    {A : Option Addr} {c : Nat} {xs : List Int} (hx : a.eval x = .slice A xs.length c) (hr : RI w A c xs) (l h : Nat) (hlo : Bnd (lo.map a.eval) l 0) (hhi : Bnd (hi.map a.eval) h xs.length) (hlh : l ≤ h) (hhn : h ≤ xs.length)
    (hK : ∀ A' c' ys, Hid (ys = (xs.take h).drop l) → RI w A' c' ys → (∀ b, blk A' = some b → blk A = some b) → ys.length ≤ h - l → h - l ≤ ys.length → wpList P ops Q rest (a.put o.dst (.slice A' ys.length c')) w) : wpList P ops Q (o :: rest) a w := by
  refine wpl_cut hS hgd x lo hi hop hx hr l h hlo hhi hlh hhn fun A' c' h1 h2 => ?_
  have hl : ((xs.take h).drop l).length = h - l := by rw [List.length_drop, List.length_take]; omega
  have := hK A' c' _ (hid rfl) (by
    unfold RI
    rw [hl]
    have he : ints ((xs.take h).drop l) = ((ints xs).take (h * 1)).drop (l * 1) := by simp [ints, List.map_drop, List.map_take]
    rw [he]
    exact h1) h2 (by omega) (by omega)
  rwa [hl] at this
/-- 'append(xs, ys...)' of ints in a region that draws its order. -/
theorem stp_app {T : TypeId} (hS : SlT P T 3 1 8 (.int .i64 0)) {E : Prop} {K : Act → World → Prop} (hgd : o.guard = none) (s x : Operand)
    (hop : o.op = .call { callee := .builtin .append, args := #[s, x], argTypes := #[T, T] })
    {base c : Nat} {A : Option Addr} {xs : List Int} (hs : a.eval s = .slice A xs.length c) (ho : OI w base A c xs)
    {B : Option Addr} {d : Nat} {ys : List Int} (hx : a.eval x = .slice B ys.length d) (hr : RI w B d ys) (hn : xs.length + ys.length ≤ 17592186044416) (hbase : base ≤ w.heap.size)
    (h : ∀ A' c' w' zs, Hid (zs = xs ++ ys) → OI w' base A' c' zs → w.grownBy w' (blk A) → (blk A' = blk A ∨ blk A' = some w.heap.size) → K (a.put o.dst (.slice A' zs.length c')) w') :
    if Region.wanted o (yielded ops a.tmps) = true then Oper.wp P o a w K Q else E := by
  have hw : Region.wanted o (yielded ops a.tmps) = true := by simp [Region.wanted, hgd]
  rw [if_pos hw]
  obtain ⟨A', c', w', hrun, h2, h3, h4⟩ := run_append_og (P := P) hS o.type ho hr (ints_one ys) (by unfold maxLen; omega) (by omega) hbase
  have := h A' c' w' (xs ++ ys) rfl (by unfold OI; rw [List.length_append, ints_app]; exact h2) h3 h4
  unfold Oper.wp execOp
  simp only [hop, resolve, invoke, builtin, Sem.run_bind, Sem.run_pure, Result.andThen_ok, List.map_toArray, List.map_cons, List.map_nil, hs, hx, hrun]
  rw [List.length_append] at this
  exact this
/-- 'make([]int, n)'. -/
theorem wpl_make {T : TypeId} (hS : SlT P T 3 1 8 (.int .i64 0)) (hgd : o.guard = none) (l c : Operand) (hop : o.op = Op.makeSlice T l c)
    {kl kc : IntKind} {L C : Int} (n : Nat) (hl : a.eval l = .int kl L) (hc : a.eval c = .int kc C) (hL : L = (n : Int)) (hC : C = (n : Int)) (hn : n ≤ 17592186044416) (base : Nat) (hb : base ≤ w.heap.size)
    (h : ∀ A w' zs, Hid (zs = List.replicate n 0) → zs.length ≤ n → n ≤ zs.length → OI w' base A n zs → w.grownBy w' none → blk A = some w.heap.size → wpList P ops Q rest (a.put o.dst (.slice A zs.length n)) w') : wpList P ops Q (o :: rest) a w := by
  obtain ⟨i, hi, hz, hsz, hby⟩ := hS.inf
  refine wpList_make_full w hgd l c T hop base 3 i (.int .i64 0) 1 hS.und hi hz hsz kl kc L C n hl hc hL hC (by rw [hby]; omega) (by unfold maxLen; omega) hb fun w' h1 h2 => ?_
  have := h (some ⟨w.heap.size, 0, none⟩) w' (List.replicate n 0) rfl (by simp) (by simp) (by
    unfold OI
    rw [List.length_replicate]
    refine ⟨?_⟩
    have he : ints (List.replicate n 0) = (madeCells (Value.int .i64 0).cells (n * 1)).toList := by
      rw [show (Value.int .i64 0).cells = #[.int .i64 0] from rfl, toList_madeCells_one]
      simp [ints]
    rw [he]
    exact h1) h2 rfl
  rwa [List.length_replicate] at this
end

/-- A slice of bytes that can be read. -/
structure RY (w : World) (A : Option Addr) (c : Nat) (bs : List Int) : Prop where
  rg : RG w 1 A c bs.length (bs.map (Value.int .u8))
  wf : ∀ b ∈ bs, 0 ≤ b ∧ b ≤ 255
theorem RY.below {w w' : World} {A : Option Addr} {c : Nat} {bs : List Int} (h : RY w A c bs) (hb : Below w.heap.size w w') : RY w' A c bs := ⟨h.rg.below hb, h.wf⟩
theorem RY.get {w : World} {A : Option Addr} {c : Nat} {bs : List Int} (h : RY w A c bs) {k : Nat} (hk : k < bs.length) : ∃ ad x, A = some ad ∧ 0 ≤ x ∧ x ≤ 255 ∧ w.cell? (ad.add k) = some (.int .u8 x) := by
  obtain ⟨ad, e, _, hc⟩ := h.rg.at_ (j := k) (by omega)
  have hm := h.wf _ (List.getElem_mem hk)
  exact ⟨ad, bs[k], e, hm.1, hm.2, by rw [hc]; simp [List.getElem?_eq_getElem hk]⟩

/-- What a call answers: a bool or a number, the world as it was; the same, where the world may have drawn or grown; a list of the call's own. -/
def PB (w : World) (f : Bool) (e : Ending) (w' : World) : Prop := ∃ b, Hid (b = f) ∧ e = .returned (.bool b) ∧ w = w'
def PBb (w : World) (f : Bool) (e : Ending) (w' : World) : Prop := ∃ b, Hid (b = f) ∧ e = .returned (.bool b) ∧ Below w.heap.size w w'
def PN (w : World) (f : Int) (e : Ending) (w' : World) : Prop := ∃ n, Hid (n = f) ∧ e = .returned (.int .i64 n) ∧ w = w'
def PNb (w : World) (f : Int) (e : Ending) (w' : World) : Prop := ∃ n, Hid (n = f) ∧ e = .returned (.int .i64 n) ∧ Below w.heap.size w w'
def PL (w : World) (f : List Int) (e : Ending) (w' : World) : Prop :=
  ∃ A c ys, Hid (ys = f) ∧ OI w' w.heap.size A c ys ∧ e = .returned (.slice A ys.length c) ∧ Below w.heap.size w w'
def PLB (w : World) (f : Option (List Int)) (e : Ending) (w' : World) : Prop :=
  ∃ A c ys b, Hid (ys = f.getD []) ∧ Hid (b = f.isSome) ∧ OI w' w.heap.size A c ys ∧ e = .returned (.tuple #[.slice A ys.length c, .bool b]) ∧ Below w.heap.size w w'
theorem PLB_none {w w1 : World} {f : Option (List Int)} (hf : f = none) (hb : Below w.heap.size w w1) {g : Nat} (hg : g = w1.heap.size := by simp) : PLB w f (.returned (.tuple #[.slice (some ⟨g, 0, none⟩) 0 0, .bool false])) (w1.alloc (.cells #[] 3)) := by
  subst hg
  exact ⟨_, _, [], false, by simp [Hid, hf], by simp [Hid, hf], OI.empty w1 _ hb.size, rfl, below_on hb (below_new _ _)⟩
theorem PLB_some {w w1 : World} {f : Option (List Int)} {A : Option Addr} {c : Nat} {ys : List Int} (hf : f = some ys) (ho : OI w1 w.heap.size A c ys) (hb : Below w.heap.size w w1) :
    PLB w f (.returned (.tuple #[.slice A ys.length c, .bool true])) w1 := ⟨A, c, ys, true, by simp [Hid, hf], by simp [Hid, hf], ho, rfl, hb⟩
/-- One number is appended: what 'append(xs, x)' makes first, and the law. -/
theorem RI.one (w : World) (x : Int) : RI (w.alloc (.cells #[.int .i64 x] 3)) (some ⟨w.heap.size, 0, none⟩) 1 [x] := (OI.one w w.heap.size x (Nat.le_refl _)).ri
end Go.Proofs.Ytamljhjbmeikiaa
/- Contracts of the smallest functions. No condition. -/
namespace Go.Proofs.Ytamljhjbmeikiaa
open Go Go.RowKit

theorem within_any (n lo hi : Int) (w : World) :
    Calls Try.prog 89 #[.int .i64 n, .int .i64 lo, .int .i64 hi] w (PB w (inB lo hi n)) := by
  go_enter Try.func89, Try.ntmps89
  go_wp2
  all_goals go_ret
  all_goals refine ⟨_, ?_, rfl, rfl⟩
  all_goals simp [Hid, inB, *]
  all_goals omega

theorem l6In_any (n lo hi : Int) (w : World) :
    Calls Try.prog 78 #[.int .i64 n, .int .i64 lo, .int .i64 hi] w (PB w (inB lo hi n)) := by
  go_enter Try.func78, Try.ntmps78
  go_wp2
  all_goals go_ret
  all_goals refine ⟨_, ?_, rfl, rfl⟩
  all_goals simp [Hid, inB, *]
  all_goals omega

theorem every_any (A : Option Addr) (c : Nat) (xs : List Int) (lo hi : Int) (w : World) (hr : RI w A c xs) :
    Calls Try.prog 65 #[.slice A xs.length c, .int .i64 lo, .int .i64 hi] w (PB w (xs.all (inB lo hi))) := by
  have hbig := hr.big
  have hcap := hr.cap
  unfold maxLen at hbig
  go_enter Try.func65, Try.ntmps65
  go_wp2_with fail
  go_loop [11] (fun i => ∃ k : Nat, k ≤ xs.length ∧ i = .int .i64 k ∧ Hid ((xs.take k).all (inB lo hi) = true)) (fun i => xs.length - (intOf i).toNat)
  case atStart => exact ⟨0, by omega, rfl, by simp [Hid]⟩
  case round =>
    obtain ⟨k, hk, rfl, hh⟩ := hrel
    by_cases hlt : k < xs.length
    · obtain ⟨ad, x, rfl, HX, hc⟩ := hr.get hlt
      go_wp2_with (go_at_call 89; refine (within_any _ _ _ _).mono ?_; rintro e w' ⟨b, hb1, rfl, rfl⟩; cases b)
      · go_ret
        exact ⟨_, hid (all_no HX.out hb1.out.symm).symm, rfl, rfl⟩
      · go_round
        case rel => exact ⟨k + 1, by omega, by go_num, hid (all_snoc HX.out hh.out hb1.out.symm)⟩
        case measure => simp [intOf]; omega
    · go_wp2
      go_ret
      exact ⟨_, hid (all_done (by omega) hh.out).symm, rfl, rfl⟩

theorem eqIntS_any (A B : Option Addr) (c d : Nat) (xs ys : List Int) (w : World) (hr : RI w A c xs) (hs : RI w B d ys) :
    Calls Try.prog 23 #[.slice A xs.length c, .slice B ys.length d] w (PBb w (decide (xs = ys))) := by
  have hbig := hr.big
  have hcap := hr.cap
  unfold maxLen at hbig
  by_cases hl : xs.length = ys.length
  · have hne : ((xs.length : Int) != (ys.length : Int)) = false := by simp [hl]
    have HL := hid hl
    clear hl
    go_enter Try.func23, Try.ntmps23
    go_wp2_with fail
    go_loopw [5] (fun i wr => ∃ k : Nat, k ≤ xs.length ∧ i = .int .i64 k ∧ Hid (xs.take k = ys.take k) ∧ Below w.heap.size w wr) (fun i _ => xs.length - (intOf i).toNat)
    case atStart => exact ⟨0, by omega, rfl, hid (by simp), Below.refl _ _⟩
    case round =>
      obtain ⟨k, hk, rfl, hh, hbw⟩ := hrel
      by_cases hlt : k < xs.length
      · obtain ⟨ad, x, rfl, HX, hc⟩ := (hr.below hbw).get hlt
        have hlt2 : k < ys.length := by have := HL.out; omega
        obtain ⟨ad2, y, rfl, HY, hc2⟩ := (hs.below hbw).get hlt2
        go_wp2_with fail
        go_quiet (fail)
        by_cases hxy : x = y
        · have hq : (x != y) = false := by simp [hxy]
          have HXY := hid hxy
          clear hxy
          go_wp2_with fail
          go_roundw
          case rel => exact ⟨k + 1, by omega, by go_num, hid (eq_snoc HX.out HY.out hh.out HXY.out), below_drewN hbw _⟩
          case measure => simp [intOf]; omega
        · have hq : (x != y) = true := by simp [hxy]
          have HXY := hid hxy
          clear hxy
          go_wp2_with fail
          go_ret
          refine ⟨_, ?_, rfl, below_drewN hbw _⟩
          exact hid (decide_eq_false (eq_no HX.out HY.out HXY.out)).symm
      · go_wp2
        go_ret
        refine ⟨_, ?_, rfl, hbw⟩
        have hl := HL.out
        exact hid (decide_eq_true (eq_done (by omega) (by omega) hh.out)).symm
  · have hne : ((xs.length : Int) != (ys.length : Int)) = true := by simp; omega
    have HL := hid hl
    clear hl
    go_enter Try.func23, Try.ntmps23
    go_wp2_with fail
    go_ret
    refine ⟨_, ?_, rfl, Below.refl _ _⟩
    exact hid (by simp; intro h; exact HL.out (by rw [h]))
theorem intT : SlT Try.prog 23 3 1 8 (.int .i64 0) :=
  ⟨Try.underlying23, info_parts (by kernel_rfl), rfl, by omega⟩

theorem toIntS_any (A : Option Addr) (c : Nat) (xs : List Int) (w : World) (hr : RI w A c xs) (hn : xs.length ≤ 17592186044416) :
    Calls Try.prog 20 #[.slice A xs.length c] w (PL w xs) := by
  go_enter Try.func20, Try.ntmps20
  go_wp2_with (refine wpl_make intT rfl _ _ rfl xs.length rfl rfl rfl rfl hn w.heap.size (Nat.le_refl _) ?_; intro A1 w1 zs hz hz1 hz2 ho1 hg1 hb1)
  go_loopw [4] (fun i wr => ∃ (k : Nat) (cs : List Int), k ≤ xs.length ∧ i = .int .i64 k ∧ Hid (cs = xs.take k ++ List.replicate (xs.length - k) 0) ∧ OI wr w.heap.size A1 xs.length cs ∧ Below w.heap.size w wr) (fun i _ => xs.length - (intOf i).toNat)
  case atStart =>
    refine ⟨0, zs, by omega, rfl, hid (by simp [hz.out]), ho1, ?_⟩
    exact (Below.refl _ _).grown hg1 (Nat.le_refl _) (by simp)
  case round =>
    obtain ⟨k, cs, hk, rfl, hcs, ho, hbw⟩ := hrel
    have HL : Hid (cs.length = xs.length) := by rw [hcs.out]; simp [Hid]; omega
    by_cases hlt : k < xs.length
    · obtain ⟨ad, x, rfl, HX, hc⟩ := (hr.below hbw).get hlt
      obtain ⟨ad2, y, rfl, _, hc2⟩ := ho.ri.get (k := k) (by have := HL.out; omega)
      obtain ⟨hs1, hs2, hs3⟩ := ho.store k x
      have hlo := ho.lo
      go_wp2
      go_roundw
      case rel => exact ⟨k + 1, _, by omega, by go_num, hid (fill_snoc hlt HX.out hcs.out), hs1, hbw.setCell (by rw [block_of_add]; exact hlo) _⟩
      case measure => simp [intOf]; omega
    · go_wp2
      go_ret
      have e : cs = xs := by
        rw [hcs.out, List.take_of_length_le (by omega), show xs.length - k = 0 by omega]; simp
      subst e
      exact ⟨_, _, cs, hid rfl, ho, ret_slice (by omega), hbw⟩
theorem bcell {W w1 : World} (hb : Below W.heap.size W w1) : (∀ b o, b < W.heap.size → w1.cell? ⟨b, o, none⟩ = W.cell? ⟨b, o, none⟩) ∧ (∀ b o, b < W.heap.size → w1.frozen? ⟨b, o, none⟩ = W.frozen? ⟨b, o, none⟩) :=
  ⟨fun b o h => hb.cell (p := ⟨b, o, none⟩) h, fun b o h => hb.frozen (p := ⟨b, o, none⟩) h⟩

/-- 'within' with its answer known. -/
def PW (w : World) (lo hi n : Int) (e : Ending) (w' : World) : Prop :=
  (Hid (inB lo hi n = true) ∧ lo ≤ n ∧ n ≤ hi ∧ e = .returned (.bool true) ∧ w = w') ∨ (Hid (inB lo hi n = false) ∧ e = .returned (.bool false) ∧ w = w')
theorem PW_of {w w' : World} {lo hi n : Int} {e : Ending} (h : PB w (inB lo hi n) e w') : PW w lo hi n e w' := by
  obtain ⟨b, hb, he, hw⟩ := h
  cases b
  · exact .inr ⟨hb.out.symm, he, hw⟩
  · exact .inl ⟨hb.out.symm, (inB_true.1 hb.out.symm).1, (inB_true.1 hb.out.symm).2, he, hw⟩
theorem within_or (n lo hi : Int) (w : World) : Calls Try.prog 89 #[.int .i64 n, .int .i64 lo, .int .i64 hi] w (PW w lo hi n) := (within_any n lo hi w).mono fun _ _ h => PW_of h
theorem l6In_or (n lo hi : Int) (w : World) : Calls Try.prog 78 #[.int .i64 n, .int .i64 lo, .int .i64 hi] w (PW w lo hi n) := (l6In_any n lo hi w).mono fun _ _ h => PW_of h

end Go.Proofs.Ytamljhjbmeikiaa
/- Further laws for memory: the head of an own slice, copying within own memory. No condition. -/
namespace Go.Proofs.Ytamljhjbmeikiaa
open Go Go.RowKit

theorem add_zero_map (A : Option Addr) : A.map (·.add 0) = A := by
  cases A with
  | none => rfl
  | some a => simp [Addr.add]
/-- A row of one's own that lies behind another one stays when that one turns. -/
theorem OI.keepBy {w w' : World} {B c : Nat} {A A' : Option Addr} {xs : List Int} (h : OI w B A c xs) (hg : w.grownBy w' (blk A')) (hA : ∀ b, blk A' = some b → b < B) : OI w' B A c xs :=
  OI.grown h hg fun g hg' e => by have := (OI.lt h hg').1; have := hA g e; omega
theorem OI.belowOwn {w0 w w' : World} {base c : Nat} {A : Option Addr} {xs : List Int} (h : Below w0.heap.size w0 w) (ho : OI w base A c xs) (hg : w.grownBy w' (blk A)) (hb : w0.heap.size ≤ base) : Below w0.heap.size w0 w' :=
  h.grown hg h.size fun k hk => by have := (OI.lt ho hk).1; omega
section
variable {P : Program} {w : World} {ops : Array Oper} {rest : List Oper} {o : Oper} {a : Act} {Q : Exit → Act → World → Prop}
/-- 'x[:h]' of an own slice: it stays one's own. -/
theorem wpl_takeO {T : TypeId} (hS : SlT P T 3 1 8 (.int .i64 0)) (hgd : o.guard = none) (x hi : Operand) (hop : o.op = .slice T x none (some hi) none)
    {base c : Nat} {A : Option Addr} {xs : List Int} (hx : a.eval x = .slice A xs.length c) (ho : OI w base A c xs) (h : Nat) (hhi : ∃ k i, a.eval hi = .int k i ∧ i = (h : Int)) (hhn : h ≤ xs.length)
    (hK : ∀ ys, Hid (ys = xs.take h) → OI w base A c ys → ys.length ≤ h → h ≤ ys.length → wpList P ops Q rest (a.put o.dst (.slice A ys.length c)) w) : wpList P ops Q (o :: rest) a w := by
  refine wpList_plain hgd fun K hK' => ?_
  have hcap := ho.ri.cap
  have hrun := run_cut (P := P) (w := w) hS (A := A) (n := xs.length) (c := c) (lo := none) (hi := some (a.eval hi)) (l := 0) (h := h) rfl hhi (Nat.zero_le _) (by omega) (fun e => by cases e)
  have hu : P.underlying T = some (.slice (P.elem T)) := by
    have he : P.elem T = 3 := by simp [Program.elem, hS.und]
    rw [he]; exact hS.und
  have hl : (xs.take h).length = h := by rw [List.length_take]; omega
  unfold Oper.wp execOp
  simp only [hop, hx, Option.map_none, Option.map_some, run_sliceAt_slice w T _ _ _ _ hu, Sem.run_bind, hrun, Result.andThen_ok, Sem.run_pure]
  refine hK' _ _ ?_
  have h1 := hK (xs.take h) rfl (by
    unfold OI
    rw [hl]
    have := OG.take_ ho hhn
    simpa [ints, List.map_take] using this) (by omega) (by omega)
  rw [hl] at h1
  have e : (if c = 0 then A else A.map (·.add (0 * 1))) = A := by
    split
    · rfl
    · exact add_zero_map A
  rw [e, Nat.sub_zero, Nat.sub_zero]
  exact h1
/-- A cut, in the quiet head of a region. -/
theorem stl_cut {T : TypeId} (hS : SlT P T 3 1 8 (.int .i64 0)) {QQ : Act → Prop} (hgd : o.guard = none) (x : Operand) (lo hi : Option Operand) (hop : o.op = .slice T x lo hi none)
    {A : Option Addr} {n c : Nat} (hx : a.eval x = .slice A n c) (l h : Nat) (hlo : Bnd (lo.map a.eval) l 0) (hhi : Bnd (hi.map a.eval) h n) (hlh : l ≤ h) (hhc : h ≤ c)
    (hK : wpStill P ops w QQ rest (a.put o.dst (.slice (if c = l then A else A.map (·.add l)) (h - l) (c - l)))) : wpStill P ops w QQ (o :: rest) a := by
  refine wpStill_step fun K hK' => ?_
  have hw : Region.wanted o (yielded ops a.tmps) = true := by simp [Region.wanted, hgd]
  rw [if_pos hw]
  have hrun := run_cut (P := P) (w := w) hS (A := A) (n := n) (c := c) hlo hhi hlh hhc (fun _ => hhc)
  have hu : P.underlying T = some (.slice (P.elem T)) := by
    have he : P.elem T = 3 := by simp [Program.elem, hS.und]
    rw [he]; exact hS.und
  unfold Oper.still execOp
  simp only [hop, hx, Option.map_none, run_sliceAt_slice w T _ _ _ _ hu, Sem.run_bind, hrun, Result.andThen_ok, Sem.run_pure, Oper.stillUpon_value, Nat.mul_one]
  exact hK' _ hK
/-- 'copy' into a part of an own slice; what is copied may lie in it, too. -/
theorem wpl_copyO {T : TypeId} (hS : SlT P T 3 1 8 (.int .i64 0)) (hgd : o.guard = none) (d s : Operand)
    (hop : o.op = .call { callee := .builtin .copy, args := #[d, s], argTypes := #[T, T] })
    {base c : Nat} {A : Option Addr} {xs : List Int} (ho : OI w base A c xs)
    {D : Option Addr} {dn dc : Nat} (hd : a.eval d = .slice D dn dc) (off : Nat) (hD : 0 < dn → D = A.map (·.add off)) (hfit : off + dn ≤ xs.length)
    {S : Option Addr} {sc : Nat} {ys : List Int} (hs : a.eval s = .slice S ys.length sc) (hr : RI w S sc ys) (m : Nat) (hm : m = min ys.length dn)
    (h : ∀ w' zs, Hid (zs = xs.take off ++ (ys.take m ++ xs.drop (off + m))) → zs.length ≤ xs.length → xs.length ≤ zs.length → OI w' base A c zs → w.grownBy w' (blk A) → wpList P ops Q rest (a.put o.dst (goInt m)) w') :
    wpList P ops Q (o :: rest) a w := by
  have hsz : (P.info? 3).map (·.size) = some 1 := by
    obtain ⟨i, hi, _, h2, _⟩ := hS.inf
    simp [hi, h2]
  have hml : (ys.take m).length = m := by rw [List.length_take]; omega
  rcases Nat.eq_zero_or_pos m with h0 | h0
  · subst h0
    refine wpList_copy_nothing hgd d s T T hop 3 hS.und hsz D S dn dc ys.length sc hd hs hm.symm ?_
    have e : xs.take off ++ (ys.take 0 ++ xs.drop (off + 0)) = xs := by simp
    exact h w xs (hid e.symm) (Nat.le_refl _) (Nat.le_refl _) ho (World.grownBy.refl w _)
  · have hdn : 0 < dn := by omega
    rcases ho.own.2 with ⟨h1, h2⟩ | ⟨g, cap, cur, hv, hb, hg, hn, hmx, hcs, htake⟩
    · injection h1 with _ h1
      omega
    · injection hv with hA _ hc
      subst hA; subst hc
      have hD' := hD hdn
      have hD2 : D = some ⟨g, off, none⟩ := by
        rw [hD']; unfold Addr.add; by_cases e : off = 0 <;> simp [e]
      subst hD2
      obtain ⟨ad, rfl, _, hcell⟩ := RG.at0 hr (by omega)
      have hlen : (ints (ys.take m)).length = m := by rw [ints_length, hml]
      have hcl : cur.toList.length = c * 1 := by simpa using hcs
      refine wpList_copy_own hgd d s T T hop 3 hS.und hsz g off dn dc ad ys.length sc hd hs cur 3 hg (ints (ys.take m)) (by rw [hlen]; exact hm) (fun j v hj => hcell j v ?_) (by rw [hlen, hcs]; omega) (ints_one _) ?_
      · rw [ints, List.map_take] at hj
        rw [List.getElem?_take] at hj
        split at hj
        · exact hj
        · cases hj
      · rw [hlen]
        have hlz : (xs.take off ++ (ys.take m ++ xs.drop (off + m))).length = xs.length := by
          rw [List.length_append, List.length_append, hml, List.length_take, List.length_drop]; omega
        refine h _ _ (hid rfl) (by omega) (by omega) ?_ ⟨rfl, rfl, rfl, by simp [World.setRow], fun k _ hk => setRow_other w g k _ (fun e => hk (by simp [blk, e]))⟩
        unfold OI
        refine ⟨⟨by rw [ints_length]; omega, .inr ⟨g, c, _, by rw [hlz], hb, setRow_heap w g _ _ 3 _ hg, by omega, hmx, ?_, ?_⟩⟩⟩
        · simp [hlen]; omega
        · have hx : cur.toList.take xs.length = ints xs := by simpa using htake
          have e1 : cur.toList.take off = ints (xs.take off) := by
            rw [ints, List.map_take, show xs.map (Value.int .i64) = ints xs from rfl, ← hx, List.take_take, Nat.min_eq_left (by omega)]
          have e2 : (cur.toList.drop (off + m)).take (xs.length - (off + m)) = ints (xs.drop (off + m)) := by
            rw [← List.drop_take, hx]; simp [ints, List.map_drop]
          rw [hlz]
          simp only [Nat.mul_one]
          rw [ints_app, ints_app, ← e1, ← e2]
          have l1 : (cur.toList.take off).length = off := by rw [List.length_take]; omega
          have t1 : ∀ R : List Value, (cur.toList.take off ++ R).take xs.length = cur.toList.take off ++ R.take (xs.length - off) := fun R => by
            rw [List.take_append, List.take_of_length_le (l := cur.toList.take off) (by omega), l1]
          have t2 : ∀ R : List Value, (ints (ys.take m) ++ R).take (xs.length - off) = ints (ys.take m) ++ R.take (xs.length - off - m) := fun R => by
            rw [List.take_append, List.take_of_length_le (l := ints (ys.take m)) (by omega), hlen]
          rw [t1, t2, Nat.sub_sub]
end
end Go.Proofs.Ytamljhjbmeikiaa
/- Parts of slices that are read; an append whose length is spelled otherwise. No condition. -/
namespace Go.Proofs.Ytamljhjbmeikiaa
open Go Go.RowKit

theorem RI.cutAt {w : World} {A : Option Addr} {c : Nat} {xs : List Int} (h : RI w A c xs) {k : Nat} (hk : k ≤ xs.length) : RI w (if c = k then A else A.map (·.add k)) (c - k) (xs.drop k) := by
  have h1 := RG.cut (k := k) h hk
  unfold RI
  rw [List.length_drop]
  simpa [ints, List.map_drop] using h1
theorem RI.takeAt {w : World} {A : Option Addr} {c : Nat} {xs : List Int} (h : RI w A c xs) {k : Nat} (hk : k ≤ xs.length) : RI w A c (xs.take k) := by
  have h1 := RG.take_ (k := k) h hk
  unfold RI
  rw [List.length_take, Nat.min_eq_left hk]
  simpa [ints, List.map_take] using h1
section
variable {P : Program} {w : World} {ops : Array Oper} {rest : List Oper} {o : Oper} {a : Act} {Q : Exit → Act → World → Prop}
/-- 'append(xs, ys...)' of ints in a region that draws its order; the lengths may be spelled otherwise. -/
theorem stp_app2 {T : TypeId} (hS : SlT P T 3 1 8 (.int .i64 0)) {E : Prop} {K : Act → World → Prop} (hgd : o.guard = none) (s x : Operand)
    (hop : o.op = .call { callee := .builtin .append, args := #[s, x], argTypes := #[T, T] })
    {base c n : Nat} {A : Option Addr} (xs : List Int) (hs : a.eval s = .slice A n c) (hn : n = xs.length) (ho : OI w base A c xs)
    {B : Option Addr} {d m : Nat} (ys : List Int) (hx : a.eval x = .slice B m d) (hm : m = ys.length) (hr : RI w B d ys) (hl : xs.length + ys.length ≤ 17592186044416) (hbase : base ≤ w.heap.size)
    (h : ∀ A' c' w' zs, Hid (zs = xs ++ ys) → OI w' base A' c' zs → w.grownBy w' (blk A) → (blk A' = blk A ∨ blk A' = some w.heap.size) → K (a.put o.dst (.slice A' zs.length c')) w') :
    if Region.wanted o (yielded ops a.tmps) = true then Oper.wp P o a w K Q else E := by
  subst hn hm
  exact stp_app hS hgd s x hop hs ho hx hr hl hbase h
/-- The same outside such a region. -/
theorem wpl_app2 {T : TypeId} (hS : SlT P T 3 1 8 (.int .i64 0)) (hgd : o.guard = none) (s x : Operand)
    (hop : o.op = .call { callee := .builtin .append, args := #[s, x], argTypes := #[T, T] })
    {base c n : Nat} {A : Option Addr} (xs : List Int) (hs : a.eval s = .slice A n c) (hn : n = xs.length) (ho : OI w base A c xs)
    {B : Option Addr} {d m : Nat} (ys : List Int) (hx : a.eval x = .slice B m d) (hm : m = ys.length) (hr : RI w B d ys) (hl : xs.length + ys.length ≤ 17592186044416) (hbase : base ≤ w.heap.size)
    (h : ∀ A' c' w' zs, Hid (zs = xs ++ ys) → OI w' base A' c' zs → w.grownBy w' (blk A) → (blk A' = blk A ∨ blk A' = some w.heap.size) → wpList P ops Q rest (a.put o.dst (.slice A' zs.length c')) w') : wpList P ops Q (o :: rest) a w := by
  subst hn hm
  exact wpl_app hS hgd s x hop hs ho hx hr hl hbase h
end
end Go.Proofs.Ytamljhjbmeikiaa
/- Slices of structs: what can be read, what is one's own. No condition. -/
namespace Go.Proofs.Ytamljhjbmeikiaa
open Go Go.RowKit

theorem add_field (ad : Addr) (n : Nat) {j : Nat} (h : j ≠ 0) : ad.add (n + j) = ⟨(ad.add n).block, (ad.add n).off + j, none⟩ := by
  unfold Addr.add
  by_cases hn : n = 0 <;> simp [hn, h, Nat.add_assoc]
/-- How a struct lies in cells: sz of them, each one cell. -/
structure Enc (α : Type) where
  enc : α → List Value
  sz : Nat
  len : ∀ x, (enc x).length = sz
  one : ∀ x, ∀ u ∈ enc x, u.oneCell' = true
section
variable {α : Type} (F : Enc α)
def cellsOf (xs : List α) : List Value := xs.flatMap F.enc
theorem cellsOf_length (xs : List α) : (cellsOf F xs).length = xs.length * F.sz := by
  unfold cellsOf
  induction xs with
  | nil => simp
  | cons x xs ih => rw [List.flatMap_cons, List.length_append, F.len, ih, List.length_cons, Nat.add_mul]; omega
theorem cellsOf_app (xs ys : List α) : cellsOf F (xs ++ ys) = cellsOf F xs ++ cellsOf F ys := by simp [cellsOf]
theorem cellsOf_one (x : α) : cellsOf F [x] = F.enc x := by simp [cellsOf]
theorem cellsOf_all (xs : List α) : ∀ u ∈ cellsOf F xs, u.oneCell' = true := by
  intro u hu
  obtain ⟨x, _, h⟩ := List.mem_flatMap.1 hu
  exact F.one x u h
theorem cellsOf_split {xs : List α} {k : Nat} {x : α} (h : xs[k]? = some x) : cellsOf F xs = cellsOf F (xs.take k) ++ (F.enc x ++ cellsOf F (xs.drop (k + 1))) := by
  obtain ⟨hlt, he⟩ := List.getElem?_eq_some_iff.1 h
  conv => lhs; rw [← List.take_append_drop k xs, List.drop_eq_getElem_cons hlt, he]
  rw [cellsOf_app]
  simp [cellsOf]
theorem cellsOf_at {xs : List α} {k j : Nat} {x : α} (h : xs[k]? = some x) (hj : j < F.sz) : (cellsOf F xs)[k * F.sz + j]? = (F.enc x)[j]? := by
  have hlt := (List.getElem?_eq_some_iff.1 h).1
  have hl : (cellsOf F (xs.take k)).length = k * F.sz := by rw [cellsOf_length, List.length_take, Nat.min_eq_left (by omega)]
  rw [cellsOf_split F h, List.getElem?_append_right (by omega), hl, Nat.add_sub_cancel_left, List.getElem?_append_left (by rw [F.len]; exact hj)]
theorem cellsOf_set {xs : List α} {k j : Nat} {x y : α} {u : Value} (h : xs[k]? = some x) (hj : j < F.sz) (hy : F.enc y = (F.enc x).set j u) : cellsOf F (xs.set k y) = (cellsOf F xs).set (k * F.sz + j) u := by
  have hlt := (List.getElem?_eq_some_iff.1 h).1
  have hl : (cellsOf F (xs.take k)).length = k * F.sz := by rw [cellsOf_length, List.length_take, Nat.min_eq_left (by omega)]
  have hs : (xs.set k y)[k]? = some y := by simp [hlt]
  rw [cellsOf_split F h, cellsOf_split F hs, List.set_append_right _ _ (by omega), hl, Nat.add_sub_cancel_left, List.set_append_left _ _ (by rw [F.len]; exact hj), ← hy]
  rw [List.take_set_of_le (Nat.le_refl k), List.drop_set_of_lt (by omega)]
/-- A slice of structs that can be read; one of the call's own. -/
def RS (w : World) (A : Option Addr) (c : Nat) (xs : List α) : Prop := RG w F.sz A c xs.length (cellsOf F xs)
def OS (w : World) (base : Nat) (E : TypeId) (A : Option Addr) (c : Nat) (xs : List α) : Prop := OG w base E F.sz A c xs.length (cellsOf F xs)
end
section
variable {α : Type} {F : Enc α} {w w' : World} {base c : Nat} {E : TypeId} {A : Option Addr} {xs : List α}
theorem RS.cap (h : RS F w A c xs) : xs.length ≤ c := RG.cap h
theorem RS.big (h : RS F w A c xs) : c ≤ maxLen := RG.big h
theorem RS.below (h : RS F w A c xs) (hb : Below w.heap.size w w') : RS F w' A c xs := RG.below h hb
theorem RS.at_ (h : RS F w A c xs) {k : Nat} {x : α} (hx : xs[k]? = some x) (hp : 0 < F.sz) : ∃ ad, A = some ad ∧ ad.block < w.heap.size ∧ ∀ j, j < F.sz → w.cell? (ad.add (k * F.sz + j)) = (F.enc x)[j]? := by
  have hlt := (List.getElem?_eq_some_iff.1 hx).1
  have hk : ∀ j, j < F.sz → k * F.sz + j < xs.length * F.sz := fun j hj => by
    have : (k + 1) * F.sz ≤ xs.length * F.sz := Nat.mul_le_mul_right _ hlt
    rw [Nat.add_mul] at this; omega
  obtain ⟨ad, e, hb, _⟩ := RG.at_ h (hk 0 hp)
  refine ⟨ad, e, hb, fun j hj => ?_⟩
  obtain ⟨ad', e', _, hc⟩ := RG.at_ h (hk j hj)
  rw [e] at e'
  injection e' with e'
  subst e'
  rw [hc, cellsOf_at F hx hj]
theorem OS.rs (h : OS F w base E A c xs) : RS F w A c xs := OG.rg h
theorem OS.lt (h : OS F w base E A c xs) {b : Nat} (hb : blk A = some b) : base ≤ b ∧ b < w.heap.size := OG.lt h hb
theorem OS.below (h : OS F w base E A c xs) (hb : Below w.heap.size w w') : OS F w' base E A c xs := OG.below h hb
theorem OS.grown (h : OS F w base E A c xs) {row : Option Nat} (hg : w.grownBy w' row) (hne : ∀ g, blk A = some g → row ≠ some g) : OS F w' base E A c xs := OG.grown h hg hne
theorem OS.past (h : OS F w base E A c xs) {g : Nat} (hg : w.grownBy w' (some g)) (hb : g < base) : OS F w' base E A c xs :=
  OS.grown h hg fun b hbb e => by have := (OS.lt h hbb).1; injection e; omega
theorem OS.mono {base' : Nat} (h : OS F w base E A c xs) (hb : base' ≤ base) : OS F w base' E A c xs := OG.mono h hb
theorem OS.alloc (h : OS F w base E A c xs) (o : Obj) : OS F (w.alloc o) base E A c xs := OS.below h (below_new _ _)
theorem OS.drew (h : OS F w base E A c xs) : OS F w.drew base E A c xs := OS.below h (Below.drew (Below.refl _ _))
theorem OS.nil (F : Enc α) (w : World) (base : Nat) (E : TypeId) : OS F w base E none 0 [] := OG.nil w base E F.sz
theorem OS.empty (F : Enc α) (w : World) (base : Nat) (E : TypeId) (hb : base ≤ w.heap.size) : OS F (w.alloc (.cells #[] E)) base E (some ⟨w.heap.size, 0, none⟩) 0 [] :=
  OG.lit w base E F.sz #[] 0 hb (by unfold maxLen; omega) (by simp)
theorem OS.one (F : Enc α) (w : World) (base : Nat) (E : TypeId) (x : α) (cs : Array Value) (hc : cs.toList = F.enc x) (hb : base ≤ w.heap.size) : OS F (w.alloc (.cells cs E)) base E (some ⟨w.heap.size, 0, none⟩) 1 [x] := by
  have h := OG.lit w base E F.sz cs 1 hb (by unfold maxLen; omega) (by rw [← Array.length_toList, hc, F.len, Nat.one_mul])
  unfold OS
  rw [cellsOf_one, ← hc]
  exact h
theorem OS.belowOwn {w0 : World} (h : Below w0.heap.size w0 w) (ho : OS F w base E A c xs) (hg : w.grownBy w' (blk A)) (hb : w0.heap.size ≤ base) : Below w0.heap.size w0 w' :=
  h.grown hg h.size fun k hk => by have := (OS.lt ho hk).1; omega
/-- One cell of an own struct is written. -/
theorem OS.store {ad : Addr} (h : OS F w base E (some ad) c xs) {k j : Nat} {x y : α} {u : Value} (hx : xs[k]? = some x) (hj : j < F.sz) (hy : F.enc y = (F.enc x).set j u) :
    OS F (w.setCell (ad.add (k * F.sz + j)) u) base E (some ad) c (xs.set k y) ∧ w.grownBy (w.setCell (ad.add (k * F.sz + j)) u) (some ad.block) ∧ w.frozen? (ad.add (k * F.sz + j)) = false := by
  have h1 := OG.store h (k * F.sz + j) u
  refine ⟨?_, h1.2⟩
  unfold OS
  rw [List.length_set, cellsOf_set F hx hj hy]
  exact h1.1
end
section
variable {P : Program} {w : World} {ops : Array Oper} {rest : List Oper} {o : Oper} {a : Act} {Q : Exit → Act → World → Prop}
/-- 'append(xs, x)' of structs, xs of the call's own. -/
theorem wpl_appS {α : Type} {F : Enc α} {T E : TypeId} {bytes : Nat} {z : Value} (hS : SlT P T E F.sz bytes z) (hgd : o.guard = none) (s x : Operand)
    (hop : o.op = .call { callee := .builtin .append, args := #[s, x], argTypes := #[T, T] })
    {base c : Nat} {A : Option Addr} {xs : List α} (hs : a.eval s = .slice A xs.length c) (ho : OS F w base E A c xs)
    {B : Option Addr} {d : Nat} {ys : List α} (hx : a.eval x = .slice B ys.length d) (hr : RS F w B d ys) (hn : xs.length + ys.length ≤ 1000000000000) (hby : bytes ≤ 100) (hbase : base ≤ w.heap.size)
    (h : ∀ A' c' w' zs, Hid (zs = xs ++ ys) → OS F w' base E A' c' zs → w.grownBy w' (blk A) → (blk A' = blk A ∨ blk A' = some w.heap.size) → wpList P ops Q rest (a.put o.dst (.slice A' zs.length c')) w') : wpList P ops Q (o :: rest) a w := by
  have hb : (xs.length + ys.length) * bytes ≤ 1000000000000 * 100 := Nat.mul_le_mul hn hby
  refine wpl_append hS hgd s x hop hs ho hx hr (cellsOf_all F ys) (by unfold maxLen; omega) (by omega) hbase fun A' c' w' h1 h2 h3 => ?_
  have := h A' c' w' (xs ++ ys) rfl (by unfold OS; rw [List.length_append, cellsOf_app]; exact h1) h2 h3
  rwa [List.length_append] at this
end
/-- Runs and tokens. -/
def eRun : Enc (Int × Int) := ⟨fun x => [.int .i64 x.1, .int .i64 x.2], 2, fun _ => rfl, by intro x u hu; simp at hu; rcases hu with rfl | rfl <;> rfl⟩
def eTok : Enc (Int × Int × Int) := ⟨fun x => [.int .i64 x.1, .int .i64 x.2.1, .int .i64 x.2.2], 3, fun _ => rfl, by intro x u hu; simp at hu; rcases hu with rfl | rfl | rfl <;> rfl⟩
theorem runT : SlT Try.prog 75 77 2 16 (.agg #[.int .i64 0, .int .i64 0]) :=
  ⟨Try.underlying75, info_parts (by kernel_rfl), rfl, by omega⟩
theorem tokT : SlT Try.prog 80 82 3 24 (.agg #[.int .i64 0, .int .i64 0, .int .i64 0]) :=
  ⟨Try.underlying80, info_parts (by kernel_rfl), rfl, by omega⟩
end Go.Proofs.Ytamljhjbmeikiaa
/- Contracts: lists are marked, marks are held, lists are the same. No condition. -/
namespace Go.Proofs.Ytamljhjbmeikiaa
open Go Go.RowKit

/-- k, k + 1, ..: n numbers. -/
def upFrom (k : Int) (n : Nat) : List Int := (List.range n).map fun (i : Nat) => k + (i : Int)
theorem upFrom_length (k : Int) (n : Nat) : (upFrom k n).length = n := by simp [upFrom]
theorem upFrom_at {k : Int} {n i : Nat} (h : i < n) : (upFrom k n)[i]? = some (k + (i : Int)) := by simp [upFrom, h]
theorem mark_snoc {xs cs : List Int} {k : Int} {i : Nat} (hi : i < xs.length) (hc : cs = upFrom k i ++ xs.drop i) : cs.set i (k + (i : Int)) = upFrom k (i + 1) ++ xs.drop (i + 1) := by
  subst hc
  rw [List.set_append_right _ _ (by rw [upFrom_length]; exact Nat.le_refl _), upFrom_length, Nat.sub_self, List.drop_eq_getElem_cons hi, List.set_cons_zero]
  simp [upFrom, List.range_succ]

/-- A list of the call's own is marked: the k-th, the next one, .. -/
theorem markIntS_any (A : Option Addr) (c : Nat) (xs : List Int) (k : Int) (w : World) (base : Nat) (ho : OI w base A c xs) (hk : 0 ≤ k) (hk' : k ≤ 1000000000) (hn : xs.length ≤ 1000000000) :
    Calls Try.prog 33 #[.slice A xs.length c, .int .i64 k] w fun e w' => e = .returned (.int .i64 (k + xs.length)) ∧ OI w' base A c (upFrom k xs.length) ∧ w.grownBy w' (blk A) := by
  go_enter Try.func33, Try.ntmps33
  go_wp2_with fail
  go_loopw [1, 5] (fun q i wr => ∃ (j : Nat) (cs : List Int), j ≤ xs.length ∧ i = .int .i64 j ∧ q = .int .i64 (k + (j : Int)) ∧ Hid (cs = upFrom k j ++ xs.drop j) ∧ OI wr base A c cs ∧ w.grownBy wr (blk A)) (fun _ i _ => xs.length - (intOf i).toNat)
  case atStart => exact ⟨0, xs, by omega, rfl, by simp, hid (by simp [upFrom]), ho, gb_refl _ _⟩
  case round =>
    obtain ⟨j, cs, hj, rfl, rfl, hcs, hoc, hg⟩ := hrel
    have HL : Hid (cs.length = xs.length) := by rw [hcs.out]; simp [Hid, upFrom_length]; omega
    by_cases hlt : j < xs.length
    · have hlc : j < cs.length := by have := HL.out; omega
      obtain ⟨ad, y, rfl, _, hc⟩ := hoc.ri.get hlc
      obtain ⟨hs1, hs2, hs3⟩ := hoc.store j (k + (j : Int))
      go_wp2
      go_roundw
      case rel => exact ⟨j + 1, _, by omega, by go_num, by go_num, hid (mark_snoc hlt hcs.out), hs1, gb_trans hg hs2⟩
      case measure => simp [intOf]; omega
    · go_wp2
      go_ret
      have e : j = xs.length := by omega
      subst e
      have e2 : cs = upFrom k xs.length := by rw [hcs.out]; simp
      subst e2
      refine ⟨rfl, ?_, hg⟩
      have hl := HL.out
      exact hoc

theorem heldIntS_any (A : Option Addr) (c : Nat) (n : Nat) (k : Int) (w : World) (hr : RI w A c (upFrom k n)) (hk : 0 ≤ k) (hk' : k ≤ 1000000000) (hn : n ≤ 1000000000) :
    Calls Try.prog 34 #[.slice A n c, .int .i64 k] w (PN w (k + n)) := by
  have hbig := hr.big
  have hcap := hr.cap
  unfold maxLen at hbig
  rw [upFrom_length] at hcap
  go_enter Try.func34, Try.ntmps34
  go_wp2_with fail
  go_loop [1, 5] (fun q i => ∃ (j : Nat), j ≤ n ∧ i = .int .i64 j ∧ q = .int .i64 (k + (j : Int))) (fun _ i => n - (intOf i).toNat)
  case atStart => exact ⟨0, by omega, rfl, by simp⟩
  case round =>
    obtain ⟨j, hj, rfl, rfl⟩ := hrel
    by_cases hlt : j < n
    · obtain ⟨ad, y, rfl, hy, hc⟩ := hr.get (k := j) (by rw [upFrom_length]; exact hlt)
      obtain rfl : k + (j : Int) = y := Option.some.inj ((upFrom_at hlt).symm.trans hy.out)
      have hq : (k + (j : Int) != k + (j : Int)) = false := by simp
      go_wp2_with fail
      go_round
      case rel => exact ⟨j + 1, by omega, by go_num, by go_num⟩
      case measure => simp [intOf]; omega
    · have e : j = n := by omega
      subst e
      go_wp2_with fail
      go_ret
      exact ⟨_, hid rfl, rfl, rfl⟩

theorem sameInts_any (A B : Option Addr) (c d : Nat) (xs ys : List Int) (w : World) (hr : RI w A c xs) (hs : RI w B d ys) :
    Calls Try.prog 14 #[.slice A xs.length c, .slice B ys.length d] w (PBb w (decide (xs = ys))) := by
  have hbig := hr.big
  have hcap := hr.cap
  unfold maxLen at hbig
  by_cases hl : xs.length = ys.length
  · have hne : ((xs.length : Int) != (ys.length : Int)) = false := by simp [hl]
    have HL := hid hl
    clear hl
    go_enter Try.func14, Try.ntmps14
    go_wp2_with fail
    go_loopw [5] (fun i wr => ∃ k : Nat, k ≤ xs.length ∧ i = .int .i64 k ∧ Hid (xs.take k = ys.take k) ∧ Below w.heap.size w wr) (fun i _ => xs.length - (intOf i).toNat)
    case atStart => exact ⟨0, by omega, rfl, hid (by simp), Below.refl _ _⟩
    case round =>
      obtain ⟨k, hk, rfl, hh, hbw⟩ := hrel
      by_cases hlt : k < xs.length
      · obtain ⟨ad, x, rfl, HX, hc⟩ := (hr.below hbw).get hlt
        have hlt2 : k < ys.length := by have := HL.out; omega
        obtain ⟨ad2, y, rfl, HY, hc2⟩ := (hs.below hbw).get hlt2
        go_wp2_with fail
        go_quiet (fail)
        by_cases hxy : x = y
        · have hq : (x != y) = false := by simp [hxy]
          have HXY := hid hxy
          clear hxy
          go_wp2_with fail
          go_roundw
          case rel => exact ⟨k + 1, by omega, by go_num, hid (eq_snoc HX.out HY.out hh.out HXY.out), below_drewN hbw _⟩
          case measure => simp [intOf]; omega
        · have hq : (x != y) = true := by simp [hxy]
          have HXY := hid hxy
          clear hxy
          go_wp2_with fail
          go_ret
          refine ⟨_, ?_, rfl, below_drewN hbw _⟩
          exact hid (decide_eq_false (eq_no HX.out HY.out HXY.out)).symm
      · go_wp2
        go_ret
        refine ⟨_, ?_, rfl, hbw⟩
        have hl := HL.out
        exact hid (decide_eq_true (eq_done (by omega) (by omega) hh.out)).symm
  · have hne : ((xs.length : Int) != (ys.length : Int)) = true := by simp; omega
    have HL := hid hl
    clear hl
    go_enter Try.func14, Try.ntmps14
    go_wp2_with fail
    go_ret
    refine ⟨_, ?_, rfl, Below.refl _ _⟩
    exact hid (by simp; intro h; exact HL.out (by rw [h]))
end Go.Proofs.Ytamljhjbmeikiaa
/- What a law holds in its hands: lists of its own, no two in one block, over a world that has all that was there. No condition. -/
namespace Go.Proofs.Ytamljhjbmeikiaa
open Go Go.RowKit

structure Ent where
  A : Option Addr
  c : Nat
  xs : List Int
structure Env (w0 w : World) (l : List Ent) : Prop where
  bel : Below w0.heap.size w0 w
  ok : ∀ (j : Nat) (e : Ent), l[j]? = some e → OI w w0.heap.size e.A e.c e.xs
  dis : ∀ (j k : Nat) (e f : Ent), j ≠ k → l[j]? = some e → l[k]? = some f → ∀ b, blk e.A = some b → blk f.A ≠ some b
theorem Env.nil (w : World) : Env w w [] := ⟨Below.refl _ _, fun j e h => by simp at h, fun j k e f _ h => by simp at h⟩
section
variable {w0 w w' : World} {l : List Ent}
theorem Env.call (h : Env w0 w l) (hb : Below w.heap.size w w') : Env w0 w' l := ⟨below_on h.bel hb, fun j e he => OI.below (h.ok j e he) hb, h.dis⟩
theorem Env.new (h : Env w0 w l) (hb : Below w.heap.size w w') {A : Option Addr} {c : Nat} {xs : List Int} (ho : OI w' w.heap.size A c xs) : Env w0 w' (l ++ [⟨A, c, xs⟩]) := by
  have hlt : ∀ j e, (l ++ [⟨A, c, xs⟩])[j]? = some e → (j < l.length ∧ l[j]? = some e) ∨ (j = l.length ∧ e = ⟨A, c, xs⟩) := by
    intro j e he
    rcases Nat.lt_trichotomy j l.length with hj | hj | hj
    · exact .inl ⟨hj, by rwa [List.getElem?_append_left hj] at he⟩
    · subst hj
      rw [List.getElem?_append_right (Nat.le_refl _), Nat.sub_self] at he
      exact .inr ⟨rfl, by simpa using he.symm⟩
    · rw [List.getElem?_eq_none (by simp; omega)] at he; cases he
  refine ⟨below_on h.bel hb, fun j e he => ?_, fun j k e f hjk he hf b hb1 hb2 => ?_⟩
  · rcases hlt j e he with ⟨_, he⟩ | ⟨_, rfl⟩
    · exact OI.below (h.ok j e he) hb
    · exact OI.mono ho h.bel.size
  · rcases hlt j e he with ⟨_, he⟩ | ⟨hj, rfl⟩ <;> rcases hlt k f hf with ⟨_, hf⟩ | ⟨hk, rfl⟩
    · exact h.dis j k e f hjk he hf b hb1 hb2
    · have := (OI.lt (h.ok j e he) hb1).2
      have := (OI.lt ho hb2).1
      omega
    · have := (OI.lt (h.ok k f hf) hb2).2
      have := (OI.lt ho hb1).1
      omega
    · omega
theorem Env.at_ (h : Env w0 w l) {e : Ent} (i : Nat) (hi : l[i]? = some e) : OI w w0.heap.size e.A e.c e.xs := h.ok i e hi
theorem Env.mark (h : Env w0 w l) {e : Ent} (i : Nat) (hi : l[i]? = some e) {ys : List Int} (ho : OI w' w0.heap.size e.A e.c ys) (hg : w.grownBy w' (blk e.A)) : Env w0 w' (l.set i ⟨e.A, e.c, ys⟩) := by
  have hl : i < l.length := (List.getElem?_eq_some_iff.1 hi).1
  have key : ∀ j f, (l.set i ⟨e.A, e.c, ys⟩)[j]? = some f → (j = i ∧ f = ⟨e.A, e.c, ys⟩) ∨ (j ≠ i ∧ l[j]? = some f) := by
    intro j f hf
    rw [List.getElem?_set] at hf
    simp only [hl, if_true] at hf
    split at hf
    · rename_i hji
      subst hji
      exact .inl ⟨rfl, (Option.some.inj hf).symm⟩
    · rename_i hji
      exact .inr ⟨fun e => hji e.symm, hf⟩
  refine ⟨h.bel.grown hg h.bel.size (fun b hb => (OI.lt (h.ok i e hi) hb).1), fun j f hf => ?_, fun j k f g hjk hf hg' b hb1 hb2 => ?_⟩
  · rcases key j f hf with ⟨_, rfl⟩ | ⟨hj, hf⟩
    · exact ho
    · exact OI.grown (h.ok j f hf) hg fun b hb hbe => h.dis j i f e hj hf hi b hb hbe
  · rcases key j f hf with ⟨rfl, rfl⟩ | ⟨hj, hf2⟩ <;> rcases key k g hg' with ⟨rfl, rfl⟩ | ⟨hk, hg2⟩
    · exact hjk rfl
    · exact h.dis j k e g hjk hi hg2 b hb1 hb2
    · exact h.dis j k f e hjk hf2 hi b hb1 hb2
    · exact h.dis j k f g hjk hf2 hg2 b hb1 hb2
end
end Go.Proofs.Ytamljhjbmeikiaa
/- Regions that draw their order, whose calls may make memory but answer one value: every world that extends the one ahead of the region. No condition. -/
namespace Go.Proofs.Ytamljhjbmeikiaa
open Go Go.RowKit

/-- The worlds that have all that W has. -/
structure Ext (W : World) where
  val : World
  bel : Below W.heap.size W val
instance (W : World) : Nonempty (Ext W) := ⟨⟨W, Below.refl _ _⟩⟩
theorem wp_region_ext {P : Program} {id : Nat} {Q : Exit → Act → World → Prop} {a : Act} {w : World} {l : List Oper} (hm : P.follows .mixedOrders = true) (hB : Region.lexB .any l.toArray = true)
    (h : wpQuiet P l.toArray (fun w' => ∃ s : Ext w, w' = s.val) (fun a' => ∀ w', (∃ s : Ext w, w' = s.val) → Q .normal a' w') l a) : (Code.region id l.toArray true).wp P Q a w :=
  wp_region_quiet (C := fun w' => ∃ s : Ext w, w' = s.val) hm hB ⟨⟨_, (Below.refl _ _).drew⟩, rfl⟩ (by simpa using h)
section
variable {P : Program} {f : FuncId} {args : Array Value} {W : World} {s : Ext W}
theorem ext_PNb {n : Int} (h : Calls P f args s.val (PNb s.val n)) : Calls P f args s.val fun e w'' => e = .returned (.int .i64 n) ∧ ∃ s' : Ext W, w'' = s'.val :=
  h.mono fun e w'' ⟨m, hm, he, hb⟩ => ⟨by rw [he, hm.out], ⟨w'', below_on s.bel hb⟩, rfl⟩
theorem ext_PN {n : Int} (h : Calls P f args s.val (PN s.val n)) : Calls P f args s.val fun e w'' => e = .returned (.int .i64 n) ∧ ∃ s' : Ext W, w'' = s'.val :=
  h.mono fun e w'' ⟨m, hm, he, hb⟩ => ⟨by rw [he, hm.out], s, hb.symm⟩
theorem ext_PBb {b : Bool} (h : Calls P f args s.val (PBb s.val b)) : Calls P f args s.val fun e w'' => e = .returned (.bool b) ∧ ∃ s' : Ext W, w'' = s'.val :=
  h.mono fun e w'' ⟨m, hm, he, hb⟩ => ⟨by rw [he, hm.out], ⟨w'', below_on s.bel hb⟩, rfl⟩
theorem ext_PB {b : Bool} (h : Calls P f args s.val (PB s.val b)) : Calls P f args s.val fun e w'' => e = .returned (.bool b) ∧ ∃ s' : Ext W, w'' = s'.val :=
  h.mono fun e w'' ⟨m, hm, he, hb⟩ => ⟨by rw [he, hm.out], s, hb.symm⟩
end
end Go.Proofs.Ytamljhjbmeikiaa
/- What every law's frame shares: closed facts of the program, and how an argument that came in is opened. No condition. -/
namespace Go.Proofs.Ytamljhjbmeikiaa
open Go Go.RowKit Go.ChangeShapes Go.WideShapes Go.ChangeAt Go.Joins

theorem own : ownKnob Try.prog.godebug = none := by kernel_rfl
theorem laidOut : laidOutB Try.prog = true := by kernel_rfl

/-- What a law's walk comes to: true; and nothing that was there has turned. -/
def PT (w : World) (e : Ending) (w' : World) : Prop := e = .returned (.bool true) ∧ Below w.heap.size w w'
section
variable {H : Type} {enc : TypeId × Value → H} {P : Program} {w : World} {base : Nat} {spare : Nat → Bool} {held : Bool}
theorem open_row {k : IntKind} {T E : TypeId} {v : Value} {d : DataW H} {p : List MemPlace} {r : Reach} {b0 : Nat} (ht : P.underlying T = some (.slice E)) (he : P.underlying E = some (.int k)) (hE : P.cellsOf E = 1)
    (hv : Value.okWide P w r b0 T v) (h : DataW.Trod enc P w base spare held T v d p) :
    ∃ (A : Option Addr) (c : Nat) (xs : List Int), v = .slice A xs.length c ∧ RG w 1 A c xs.length (xs.map (Value.int k)) ∧ ∀ n ∈ xs, (Lit.int k n).wf = true := by
  obtain ⟨a0, len, cap, rfl⟩ := okWide_slice ht hv
  obtain ⟨fuel, hf⟩ := h
  rcases open_ints ht he hE hf with ⟨hcs, _⟩ | ⟨x, l, c, zs, hcs, _, hl, hm, hz, _, hcell, hwz⟩
  · simp [Value.cells] at hcs
    obtain ⟨rfl, rfl, rfl⟩ := hcs
    exact ⟨none, 0, [], rfl, RG.nil _ _ _ _ (by unfold maxLen; omega), by simp⟩
  · simp [Value.cells] at hcs
    obtain ⟨rfl, rfl, rfl⟩ := hcs
    have hlz : len ≤ zs.length := by rw [hz]; split <;> omega
    have hlen : (zs.take len).length = len := by rw [List.length_take]; omega
    refine ⟨some x, cap, zs.take len, by rw [hlen], ?_, fun n hn => hwz n (List.mem_of_mem_take hn)⟩
    rw [hlen]
    refine ⟨by rw [List.length_map, hlen]; omega, fun hpos => ⟨x, rfl, ?_, fun j u hu => ?_⟩, hl, hm⟩
    · have := block_lt_of_cell (hcell 0 (by omega))
      rwa [block_of_add] at this
    · have hj : j < len := by
        have := (List.getElem?_eq_some_iff.1 hu).1
        rwa [List.length_map, hlen] at this
      rw [hcell j (by omega), ← hu, List.getElem?_map, List.getElem?_take, if_pos hj, List.getD_eq_getElem?_getD]
      rw [List.getElem?_eq_getElem (by omega)]
      rfl
end
end Go.Proofs.Ytamljhjbmeikiaa
/- The reader that draws: l6Open, pick. No condition. -/
namespace Go.Proofs.Ytamljhjbmeikiaa
open Go Go.RowKit

theorem ofInt_i64 (a : Nat) (ha : a < 9223372036854775808) : (BitVec.ofInt 64 (a : Int)).toNat = a := by
  rw [BitVec.ofInt_natCast, BitVec.toNat_ofNat]; exact Nat.mod_eq_of_lt (by omega)
theorem i64_xor_nat (a b : Nat) (ha : a < 9223372036854775808) (hb : b < 9223372036854775808) : bits .xor .i64 (a : Int) (b : Int) = ((a ^^^ b : Nat) : Int) := by
  have hx : a ^^^ b < 2 ^ 63 := Nat.xor_lt_two_pow (by omega) (by omega)
  show IntKind.i64.wrap ((BitVec.ofInt 64 (a : Int) ^^^ BitVec.ofInt 64 (b : Int)).toNat : Int) = _
  rw [BitVec.toNat_xor, ofInt_i64 a ha, ofInt_i64 b hb, IntKind.wrap_i64]
  omega

/-- The reader at block g: its bytes, and how many numbers were drawn. -/
structure Rd (w : World) (g p : Nat) : Prop where
  ex : ∃ A c bs, w.heap[g]? = some (.cells #[.slice A bs.length c, .int .i64 (p : Int)] 73 (0, 0)) ∧ RY w A c bs ∧ bs.length ≤ 2000 ∧ (0 < bs.length → ∀ a, A = some a → a.block < g)
theorem Rd.lt {w : World} {g p : Nat} (h : Rd w g p) : g < w.heap.size := by
  obtain ⟨_, _, _, h, _⟩ := h.ex
  exact (Array.getElem?_eq_some_iff.1 h).1
/-- What the drawing of one number leaves: only the reader's block has turned. -/
def PP (w : World) (g p : Nat) (n : Int) (e : Ending) (w' : World) : Prop :=
  ∃ m, 0 ≤ m ∧ m ≤ n - 1 ∧ e = .returned (.int .i64 m) ∧ Rd w' g (p + 1) ∧ w.grownBy w' (some g)

theorem byT : SlT Try.prog 22 5 1 1 (.int .u8 0) :=
  ⟨Try.underlying22, info_parts (by kernel_rfl), rfl, by omega⟩

theorem l6Open_any (A : Option Addr) (c : Nat) (bs : List Int) (w : World) (hr : RY w A c bs) :
    Calls Try.prog 35 #[.slice A bs.length c] w fun e w' => ∃ g, e = .returned (.pointer (some ⟨g, 0, none⟩)) ∧ w.heap.size ≤ g ∧ Rd w' g 0 ∧ Below w.heap.size w w' := by
  have hblk : ∀ {A' : Option Addr}, (∀ b, blk A' = some b → blk A = some b) → 0 < bs.length → ∀ x, A' = some x → x.block < w.heap.size := by
    intro A' h hp x hx
    obtain ⟨ad, he, hb, _⟩ := hr.rg.at0 hp
    have := h x.block (by rw [hx]; rfl)
    rw [he] at this
    simp only [blk, Option.map_some, Option.some.injEq] at this
    omega
  by_cases h : 2000 < bs.length
  · go_enter Try.func35, Try.ntmps35
    go_wp2_with (refine wpl_cut byT rfl _ _ _ rfl rfl hr.rg 0 2000 rfl ⟨_, _, rfl, rfl⟩ (by omega) (by omega) ?_; intro A1 c1 h1 h2)
    go_ret
    have hl : ((bs.take 2000).length) = 2000 := by rw [List.length_take]; omega
    refine ⟨_, rfl, Nat.le_refl _, ⟨A1, c1, bs.take 2000, ?_, ⟨?_, fun b hb => hr.wf b (List.mem_of_mem_take hb)⟩, by omega, fun _ => hblk h2 (by omega)⟩, below_new _ _⟩
    · rw [hl]; exact heap_alloc_new w _
    · have h3 := h1.below (below_new w (.cells #[.slice A1 2000 c1, .int .i64 0] 73))
      rw [hl]
      simpa [List.map_take] using h3
  · have hle : bs.length ≤ 2000 := by omega
    go_enter Try.func35, Try.ntmps35
    go_wp2_with fail
    go_ret
    exact ⟨_, rfl, Nat.le_refl _, ⟨A, c, bs, heap_alloc_new w _, hr.below (below_new _ _), hle, fun hp => hblk (fun _ h => h) hp⟩, below_new _ _⟩

theorem Rd.step {w : World} {g p : Nat} {A : Option Addr} {c : Nat} {bs : List Int} (hh : w.heap[g]? = some (.cells #[.slice A bs.length c, .int .i64 (p : Int)] 73 (0, 0))) (hy : RY w A c bs) (hl : bs.length ≤ 2000)
    (hA : 0 < bs.length → ∀ a, A = some a → a.block < g) (q : Nat) : Rd (w.setCell ⟨g, 1, none⟩ (.int .i64 (q : Int))) g q ∧ w.grownBy (w.setCell ⟨g, 1, none⟩ (.int .i64 (q : Int))) (some g) := by
  have hg : w.grownBy (w.setCell ⟨g, 1, none⟩ (.int .i64 (q : Int))) (some g) :=
    ⟨rfl, rfl, rfl, by simp [World.setCell], fun k _ hk => heap_setCell_other w ⟨g, 1, none⟩ k _ (fun e => hk (by simp [e]))⟩
  refine ⟨⟨A, c, bs, ?_, ⟨⟨hy.rg.len, fun hp => ?_, hy.rg.cap, hy.rg.big⟩, hy.wf⟩, hl, hA⟩, hg⟩
  · rw [heap_setCell_same w g 1 _ _ _ hh]; simp
  · obtain ⟨ad, e, hb, hc⟩ := hy.rg.at0 hp
    have hlt := hA hp ad e
    exact ⟨ad, e, by simpa [World.setCell] using hb, fun j u hu => (World.cell?_setCell_other w ⟨g, 1, none⟩ (ad.add j) _ (fun e => by have := congrArg Addr.block e; rw [block_of_add] at this; simp at this; omega)).trans (hc j u hu)⟩

theorem PP_of {w : World} {g p : Nat} {n m : Int} (HS : Hid (Rd (w.setCell ⟨g, 1, none⟩ (.int .i64 ((p + 1 : Nat) : Int))) g (p + 1) ∧ w.grownBy (w.setCell ⟨g, 1, none⟩ (.int .i64 ((p + 1 : Nat) : Int))) (some g)))
    (h0 : 0 ≤ m) (h1 : m ≤ n - 1) : PP w g p n (.returned (.int .i64 m)) (w.setCell ⟨g, 1, none⟩ (.int .i64 ((p : Int) + 1))) :=
  ⟨m, h0, h1, rfl, by simpa using HS.out.1, by simpa using HS.out.2⟩

theorem PP_ofD {w : World} {g p k : Nat} {n m : Int} (HS : Hid (Rd (w.setCell ⟨g, 1, none⟩ (.int .i64 ((p + 1 : Nat) : Int))) g (p + 1) ∧ w.grownBy (w.setCell ⟨g, 1, none⟩ (.int .i64 ((p + 1 : Nat) : Int))) (some g)))
    (h0 : 0 ≤ m) (h1 : m ≤ n - 1) : PP w g p n (.returned (.int .i64 m)) ((w.setCell ⟨g, 1, none⟩ (.int .i64 ((p : Int) + 1))).drewN k) := by
  obtain ⟨m', a, b, c, ⟨A, cc, bs, d1, d2, d3⟩, e⟩ := PP_of (n := n) HS h0 h1
  exact ⟨m', a, b, c, ⟨A, cc, bs, d1, ⟨⟨d2.rg.len, d2.rg.at0, d2.rg.cap, d2.rg.big⟩, d2.wf⟩, d3⟩, ⟨e.os, e.tape, e.output, e.size, e.block⟩⟩
theorem pick_any (g p : Nat) (n : Int) (w : World) (hR : Rd w g p) (hp : p ≤ 1000000) (hn : 1 ≤ n) (hn' : n ≤ 1000000) :
    Calls Try.prog 47 #[.pointer (some ⟨g, 0, none⟩), .int .i64 n] w (PP w g p n) := by
  obtain ⟨A, c, bs, hh, hy, hl, hA⟩ := hR.ex
  have hs := Rd.step hh hy hl hA (p + 1)
  have c0 : w.cell? ⟨g, 0, none⟩ = some (.slice A bs.length c) := by rw [cell_of_row w g 0 _ _ _ hh]; rfl
  have c1 : w.cell? ⟨g, 1, none⟩ = some (.int .i64 (p : Int)) := by rw [cell_of_row w g 1 _ _ _ hh]; rfl
  have f1 : w.frozen? ⟨g, 1, none⟩ = false := frozen_of_row w g 1 _ _ hh
  have HS := hid hs
  have hd : decide (n < 1) = false := by simp; omega
  clear hs
  by_cases h0 : bs.length = 0
  · have hq : ((bs.length : Int) == 0) = true := by simp [h0]
    have H0 := hid h0
    clear h0 hA hh
    go_enter Try.func47, Try.ntmps47
    go_wp2_with fail
    go_ret
    exact PP_of HS (by omega) (by omega)
  · have hq : ((bs.length : Int) == 0) = false := by simp [h0]
    have hL : 0 < bs.length := by omega
    have hbyte : ∀ k, k < bs.length → ∃ ad x, A = some ad ∧ 0 ≤ x ∧ x ≤ 255 ∧ ∀ v, (w.setCell ⟨g, 1, none⟩ v).cell? (ad.add k) = some (.int .u8 x) := by
      intro k hk
      obtain ⟨ad, x, e, hx0, hx1, hc⟩ := hy.get hk
      refine ⟨ad, x, e, hx0, hx1, fun v => ?_⟩
      have hlt := hA hL ad e
      exact (World.cell?_setCell_other w ⟨g, 1, none⟩ (ad.add k) _ (fun e => by have := congrArg Addr.block e; rw [block_of_add] at this; simp at this; omega)).trans hc
    clear h0 hA hh
    by_cases hpl : p < bs.length
    · obtain ⟨ad, x, rfl, hx0, hx1, hc⟩ := hbyte p hpl
      clear hbyte
      have hm0 := Int.emod_nonneg x (show n ≠ 0 by omega)
      have hm1 := Int.emod_lt_of_pos x (show 0 < n by omega)
      go_enter Try.func47, Try.ntmps47
      go_wp2_with fail
      go_ret
      exact PP_of HS hm0 (by omega)
    · obtain ⟨ad, x, rfl, hx0, hx1, hc⟩ := hbyte (p % bs.length) (Nat.mod_lt _ hL)
      obtain ⟨ad', y, he, hy0, hy1, hc'⟩ := hbyte ((p * 7 + 3) % bs.length) (Nat.mod_lt _ hL)
      injection he with he
      subst he
      clear hbyte hy hR
      generalize bs.length = L at *
      have hm : (p : Int) % (L : Int) = ((p % L : Nat) : Int) := by omega
      have hd0 : (0 : Int) ≤ (p : Int) / (L : Int) := Int.ediv_nonneg (by omega) (by omega)
      have hd1 : (p : Int) / (L : Int) ≤ p := Int.ediv_le_self _ (by omega)
      clear hm
      have hL0 : ¬ L = 0 := by omega
      have he0 : 0 ≤ (p : Int) % (L : Int) := Int.emod_nonneg _ (by omega)
      have he1 : (p : Int) % (L : Int) < (L : Int) := Int.emod_lt_of_pos _ (by omega)
      have he2 : ((p : Int) % (L : Int)).toNat = p % L := by omega
      have hf0 : 0 ≤ ((p : Int) * 7 + 3) % (L : Int) := Int.emod_nonneg _ (by omega)
      have hf1 : ((p : Int) * 7 + 3) % (L : Int) < (L : Int) := Int.emod_lt_of_pos _ (by omega)
      have hf2 : (((p : Int) * 7 + 3) % (L : Int)).toNat = (p * 7 + 3) % L := by rw [show ((p : Int) * 7 + 3) = ((p * 7 + 3 : Nat) : Int) by omega, ← Int.natCast_emod, Int.toNat_natCast]
      go_enter Try.func47, Try.ntmps47
      go_wp2_with fail
      go_quiet (fail)
      obtain ⟨N, hN⟩ : ∃ N : Nat, x * 131 + y * 1117 + (p : Int) * 29 + (p : Int) / (L : Int) * 53 = (N : Int) := ⟨(x * 131 + y * 1117 + (p : Int) * 29 + (p : Int) / (L : Int) * 53).toNat, by omega⟩
      have hNb : N ≤ 100000000 := by omega
      rw [hN]
      clear hN hc hc' he0 he1 he2 hf0 hf1 hf2 hd0 hd1
      have hx : bits .xor .i64 (N : Int) ((N : Int) / 64) = ((N ^^^ (N / 64) : Nat) : Int) := i64_xor_nat N (N / 64) (by omega) (by omega)
      have hxb : N ^^^ (N / 64) < 2 ^ 27 := Nat.xor_lt_two_pow (by omega) (by omega)
      go_wp2_with fail
      go_ret
      exact PP_ofD HS (Int.emod_nonneg _ (by omega)) (by have := Int.emod_lt_of_pos ((N ^^^ N / 64 : Nat) : Int) (show 0 < n by omega); omega)

theorem Rd.below {w w' : World} {g p : Nat} (h : Rd w g p) (hb : Below w.heap.size w w') : Rd w' g p := by
  obtain ⟨A, c, bs, h1, h2, h3, h4⟩ := h.ex
  exact ⟨A, c, bs, (hb.block g (Array.getElem?_eq_some_iff.1 h1).1).trans h1, h2.below hb, h3, h4⟩
theorem Rd.grown {w w' : World} {g p : Nat} {row : Option Nat} (h : Rd w g p) (hb : w.grownBy w' row) (hr : ∀ r, row = some r → g < r) : Rd w' g p := by
  obtain ⟨A, c, bs, h1, h2, h3, h4⟩ := h.ex
  have hlt := (Array.getElem?_eq_some_iff.1 h1).1
  refine ⟨A, c, bs, (hb.block g hlt (fun e => by have := hr g e.symm; omega)).trans h1, ⟨⟨h2.rg.len, fun hp => ?_, h2.rg.cap, h2.rg.big⟩, h2.wf⟩, h3, h4⟩
  obtain ⟨ad, e, hbl, hc⟩ := h2.rg.at0 hp
  have hA := h4 hp ad e
  exact ⟨ad, e, by have := hb.size; omega, fun j u hu => (World.cell?_of_block (by rw [block_of_add]; exact hb.block ad.block hbl (fun e => by have := hr _ e.symm; omega))).trans (hc j u hu)⟩

end Go.Proofs.Ytamljhjbmeikiaa
/- Draws: the reader's block, boxes of the call's own. No condition. -/
namespace Go.Proofs.Ytamljhjbmeikiaa
open Go Go.RowKit

/-- A box of the call's own, made by it. -/
def BX (w : World) (b : Nat) (vs : Array Value) (T : TypeId) : Prop := w.heap[b]? = some (.cells vs T (0, 0))
section
variable {w w' : World} {b : Nat} {vs : Array Value} {T : TypeId}
theorem BX.lt (h : BX w b vs T) : b < w.heap.size := (Array.getElem?_eq_some_iff.1 h).1
theorem BX.new (w : World) (vs : Array Value) (T : TypeId) : BX (w.alloc (.cells vs T)) w.heap.size vs T := heap_alloc_new w _
theorem BX.below (h : BX w b vs T) (hb : Below w.heap.size w w') : BX w' b vs T := (hb.block b h.lt).trans h
theorem BX.past (h : BX w b vs T) {g : Nat} (hg : w.grownBy w' (some g)) (hne : g ≠ b) : BX w' b vs T := (hg.block b h.lt (fun e => by injection e; omega)).trans h
theorem BX.alloc (h : BX w b vs T) (o : Obj) : BX (w.alloc o) b vs T := h.below (below_new _ _)
theorem BX.drew (h : BX w b vs T) : BX w.drew b vs T := h
theorem BX.cell (h : BX w b vs T) (i : Nat) : w.cell? ⟨b, i, none⟩ = vs[i]? := cell_of_row w b i _ _ _ h
theorem BX.frozen (h : BX w b vs T) (i : Nat) : w.frozen? ⟨b, i, none⟩ = false := frozen_of_row w b i _ _ h
theorem BX.set (h : BX w b vs T) (i : Nat) (v : Value) : BX (w.setCell ⟨b, i, none⟩ v) b (vs.setIfInBounds i v) T := heap_setCell_same w b i vs T v h
theorem BX.other (h : BX w b vs T) {a : Addr} (v : Value) (hne : b ≠ a.block) : BX (w.setCell a v) b vs T := (heap_setCell_other w a b v hne).trans h
end

/-- The reader at block g, p numbers drawn; of what was there in w0 only its block has turned. -/
structure DS (w0 w : World) (g p : Nat) : Prop where
  rd : Rd w g p
  gb : w0.grownBy w (some g)
section
variable {w0 w w' : World} {g p : Nat}
theorem DS.below (h : DS w0 w g p) (hb : Below w.heap.size w w') : DS w0 w' g p := ⟨h.rd.below hb, gb_below h.gb hb⟩
theorem DS.new (h : DS w0 w g p) (o : Obj) : DS w0 (w.alloc o) g p := h.below (below_new _ _)
theorem DS.drew (h : DS w0 w g p) : DS w0 w.drew g p := h.below (Below.drew (Below.refl _ _))
theorem DS.own (h : DS w0 w g p) {base c : Nat} {A : Option Addr} {xs : List Int} (ho : OI w base A c xs) (hg : w.grownBy w' (blk A)) (h1 : g < base) (h2 : w0.heap.size ≤ base) : DS w0 w' g p :=
  ⟨h.rd.grown hg fun r hr => by have := (OI.lt ho hr).1; omega, gb_own h.gb hg fun r hr => by have := (OI.lt ho hr).1; omega⟩
theorem DS.refl (h : Rd w g p) : DS w w g p := ⟨h, gb_refl _ _⟩
/-- A struct of one's own is written. -/
theorem DS.setCell (h : DS w0 w g p) {a : Addr} (v : Value) (h1 : g < a.block) (h2 : w0.heap.size ≤ a.block) : DS w0 (w.setCell a v) g p := by
  have hg : w.grownBy (w.setCell a v) (some a.block) := ⟨rfl, rfl, rfl, by simp [World.setCell], fun k _ hk => heap_setCell_other w a k v (fun e => hk (by simp [e]))⟩
  exact ⟨h.rd.grown hg fun r hr => by injection hr; omega, gb_own h.gb hg fun r hr => by injection hr; omega⟩
theorem DS.trans {w1 : World} {q : Nat} (h : DS w0 w g p) (k : DS w w1 g q) : DS w0 w1 g q := ⟨k.rd, gb_trans h.gb k.gb⟩
end
def PD (w0 w : World) (g p : Nat) (n : Int) (e : Ending) (w' : World) : Prop := ∃ m, 0 ≤ m ∧ m ≤ n - 1 ∧ e = .returned (.int .i64 m) ∧ DS w0 w' g (p + 1) ∧ w.grownBy w' (some g)
theorem gb_setCell (w : World) (a : Addr) (v : Value) : w.grownBy (w.setCell a v) (some a.block) :=
  ⟨rfl, rfl, rfl, by simp [World.setCell], fun k _ hk => heap_setCell_other w a k v (fun e => hk (by simp [e]))⟩
theorem OI.setOther {w : World} {base c : Nat} {A : Option Addr} {xs : List Int} (h : OI w base A c xs) (a : Addr) (v : Value) (hb : a.block < base) : OI (w.setCell a v) base A c xs := OI.past h (gb_setCell w a v) hb
theorem DS.fin {w0 w1 w : World} {g p : Nat} (h : DS w1 w g p) (hb : Below w0.heap.size w0 w1) (hg : w0.heap.size ≤ g) : Below w0.heap.size w0 w := below_gb (gb_trans (gb_of hb (some g)) h.gb) hg
theorem below_set2 {w w' : World} {u v : Value} (h : Below w.heap.size w w') : Below w.heap.size w ((w'.setCell ⟨w.heap.size, 0, none⟩ u).setCell ⟨w.heap.size, 1, none⟩ v) :=
  below_gb (gb_trans (gb_trans (gb_of h (some w.heap.size)) (gb_setCell w' ⟨w.heap.size, 0, none⟩ _)) (gb_setCell _ ⟨w.heap.size, 1, none⟩ _)) (Nat.le_refl _)
theorem BX.set3 {w : World} {b : Nat} {x y z : Value} {T : TypeId} (h : BX w b #[x, y, z] T) (u v t : Value) : BX (((w.setCell ⟨b, 0, none⟩ u).setCell ⟨b, 1, none⟩ v).setCell ⟨b, 2, none⟩ t) b #[u, v, t] T := by
  simpa using ((h.set 0 u).set 1 v).set 2 t
theorem BX.other3 {w : World} {b c : Nat} {vs : Array Value} {T : TypeId} (h : BX w c vs T) (u v t : Value) (hne : c ≠ b) : BX (((w.setCell ⟨b, 0, none⟩ u).setCell ⟨b, 1, none⟩ v).setCell ⟨b, 2, none⟩ t) c vs T :=
  ((h.other (a := ⟨b, 0, none⟩) u hne).other (a := ⟨b, 1, none⟩) v hne).other (a := ⟨b, 2, none⟩) t hne
theorem DS.set3 {w0 w : World} {g p b : Nat} (h : DS w0 w g p) (u v t : Value) (h1 : g < b) (h2 : w0.heap.size ≤ b) : DS w0 (((w.setCell ⟨b, 0, none⟩ u).setCell ⟨b, 1, none⟩ v).setCell ⟨b, 2, none⟩ t) g p :=
  ((h.setCell (a := ⟨b, 0, none⟩) u h1 h2).setCell (a := ⟨b, 1, none⟩) v h1 h2).setCell (a := ⟨b, 2, none⟩) t h1 h2
theorem pick_ds {w0 w : World} {g p : Nat} (h : DS w0 w g p) (n : Int) (hp : p ≤ 1000000) (hn : 1 ≤ n) (hn' : n ≤ 1000000) :
    Calls Try.prog 47 #[.pointer (some ⟨g, 0, none⟩), .int .i64 n] w (PD w0 w g p n) :=
  (pick_any g p n w h.rd hp hn hn').mono fun _ _ ⟨m, h0, h1, he, hR, hg⟩ => ⟨m, h0, h1, he, ⟨hR, gb_trans h.gb hg⟩, hg⟩

end Go.Proofs.Ytamljhjbmeikiaa
/- Contracts: lists' symbols. No condition. -/
namespace Go.Proofs.Ytamljhjbmeikiaa
open Go Go.RowKit

theorem ListValid_any (A : Option Addr) (c : Nat) (xs : List Int) (w : World) (hr : RI w A c xs) : Calls Try.prog 71 #[.slice A xs.length c] w (PB w (listOk xs)) := by
  by_cases h : xs.length ≤ 40
  · go_enter Try.func71, Try.ntmps71
    go_wp2_with fail
    refine (every_any _ _ _ _ _ _ hr).mono ?_
    rintro e w' ⟨b, hb1, rfl, rfl⟩
    go_wp2_with fail
    go_ret
    exact ⟨_, hid (by simp [listOk, h, hb1.out]), rfl, rfl⟩
  · have h' : 40 < xs.length := by omega
    go_enter Try.func71, Try.ntmps71
    go_wp2_with fail
    go_ret
    exact ⟨_, hid (by simp [listOk, h]), rfl, rfl⟩

theorem sListValid_any (A : Option Addr) (c : Nat) (xs : List Int) (w : World) (hr : RI w A c xs) : Calls Try.prog 92 #[.slice A xs.length c] w (PB w (listOk xs)) := by
  have hbig := hr.big
  have hcap := hr.cap
  unfold maxLen at hbig
  go_enter Try.func92, Try.ntmps92
  go_wp2_with fail
  go_loop [3] (fun i => ∃ k : Nat, k ≤ xs.length ∧ i = .int .i64 k ∧ Hid ((xs.take k).all (inB 0 7) = true)) (fun i => xs.length - (intOf i).toNat)
  case atStart => exact ⟨0, by omega, rfl, by simp [Hid]⟩
  case round =>
    obtain ⟨k, hk, rfl, hh⟩ := hrel
    by_cases hlt : k < xs.length
    · obtain ⟨ad, x, rfl, HX, hc⟩ := hr.get hlt
      go_wp2_with (go_at_call 78; refine (l6In_any _ _ _ _).mono ?_; rintro e w' ⟨b, hb1, rfl, rfl⟩; cases b)
      · go_ret
        exact ⟨_, hid (by simp only [listOk, all_no HX.out hb1.out.symm, Bool.and_false]), rfl, rfl⟩
      · go_round
        case rel => exact ⟨k + 1, by omega, by go_num, hid (all_snoc HX.out hh.out hb1.out.symm)⟩
        case measure => simp [intOf]; omega
    · by_cases h40 : xs.length ≤ 40
      · go_wp2
        go_ret
        exact ⟨_, hid (by simp only [listOk, all_done (by omega) hh.out, Bool.and_true]; simp; omega), rfl, rfl⟩
      · have h41 : 40 < xs.length := by omega
        go_wp2
        go_ret
        exact ⟨_, hid (by simp only [listOk, all_done (by omega) hh.out, Bool.and_true]; simp; omega), rfl, rfl⟩
theorem listOk_iff {xs : List Int} : listOk xs = true ↔ xs.length ≤ 40 ∧ ∀ x ∈ xs, 0 ≤ x ∧ x ≤ 7 := by
  simp [listOk, inB_true]

end Go.Proofs.Ytamljhjbmeikiaa
/- Contracts: texts' symbols. No condition. -/
namespace Go.Proofs.Ytamljhjbmeikiaa
open Go Go.RowKit

def txtOk (xs : List Int) : Bool := decide (xs.length ≤ 120) && xs.all (inB 0 7)

theorem TextValid_any (A : Option Addr) (c : Nat) (xs : List Int) (w : World) (hr : RI w A c xs) : Calls Try.prog 59 #[.slice A xs.length c] w (PB w (txtOk xs)) := by
  by_cases h : xs.length ≤ 120
  · go_enter Try.func59, Try.ntmps59
    go_wp2_with fail
    refine (every_any _ _ _ _ _ _ hr).mono ?_
    rintro e w' ⟨b, hb1, rfl, rfl⟩
    go_wp2_with fail
    go_ret
    exact ⟨_, hid (by simp [txtOk, h, hb1.out]), rfl, rfl⟩
  · have h' : 120 < xs.length := by omega
    go_enter Try.func59, Try.ntmps59
    go_wp2_with fail
    go_ret
    exact ⟨_, hid (by simp [txtOk, h]), rfl, rfl⟩

theorem l22Symbols_any (A : Option Addr) (c : Nat) (xs : List Int) (w : World) (hr : RI w A c xs) : Calls Try.prog 90 #[.slice A xs.length c] w (PB w (xs.all (inB 0 7))) := by
  have hbig := hr.big
  have hcap := hr.cap
  unfold maxLen at hbig
  go_enter Try.func90, Try.ntmps90
  go_wp2_with fail
  go_loop [3] (fun i => ∃ k : Nat, k ≤ xs.length ∧ i = .int .i64 k ∧ Hid ((xs.take k).all (inB 0 7) = true)) (fun i => xs.length - (intOf i).toNat)
  case atStart => exact ⟨0, by omega, rfl, by simp [Hid]⟩
  case round =>
    obtain ⟨k, hk, rfl, hh⟩ := hrel
    by_cases hlt : k < xs.length
    · obtain ⟨ad, x, rfl, HX, hc⟩ := hr.get hlt
      go_wp2_with (go_at_call 78; refine (l6In_any _ _ _ _).mono ?_; rintro e w' ⟨b, hb1, rfl, rfl⟩; cases b)
      · go_ret
        exact ⟨_, hid (all_no HX.out hb1.out.symm).symm, rfl, rfl⟩
      · go_round
        case rel => exact ⟨k + 1, by omega, by go_num, hid (all_snoc HX.out hh.out hb1.out.symm)⟩
        case measure => simp [intOf]; omega
    · go_wp2
      go_ret
      exact ⟨_, hid (all_done (by omega) hh.out).symm, rfl, rfl⟩

theorem sTextValid_any (A : Option Addr) (c : Nat) (xs : List Int) (w : World) (hr : RI w A c xs) : Calls Try.prog 58 #[.slice A xs.length c] w (PB w (txtOk xs)) := by
  by_cases h : xs.length ≤ 120
  · go_enter Try.func58, Try.ntmps58
    go_wp2_with fail
    refine (l22Symbols_any _ _ _ _ hr).mono ?_
    rintro e w' ⟨b, hb1, rfl, rfl⟩
    cases b
    all_goals go_wp2_with fail
    all_goals go_ret
    all_goals exact ⟨_, hid (by simp [txtOk, h, hb1.out.symm] <;> omega), rfl, rfl⟩
  · have h' : 120 < xs.length := by omega
    go_enter Try.func58, Try.ntmps58
    go_wp2_with fail
    refine (l22Symbols_any _ _ _ _ hr).mono ?_
    rintro e w' ⟨b, hb1, rfl, rfl⟩
    cases b
    all_goals go_wp2_with fail
    all_goals go_ret
    all_goals exact ⟨_, hid (by simp [txtOk, h] <;> omega), rfl, rfl⟩

end Go.Proofs.Ytamljhjbmeikiaa
