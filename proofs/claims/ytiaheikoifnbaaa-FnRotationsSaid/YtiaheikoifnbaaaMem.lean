/- Words for memory: slices that can be read, slices of the call's own, and the laws by which a walk reads, cuts and appends. No condition. -/
import Derived.WalkKit
import Derived.Deep.AppendLies
import Derived.Deep.Draws
import Derived.Maps.AppendAt
import Derived.BigQuiet
namespace Go.Proofs.Ytiaheikoifnbaaa
open Go Go.RowKit

theorem hid {p : Prop} (h : p) : Hid p := h
theorem ret_slice {A : Option Addr} {n m c : Nat} (h : n = m) : Ending.returned (.slice A n c) = .returned (.slice A m c) := by rw [h]
theorem ret_int {k : IntKind} {a b : Int} (h : a = b) : Ending.returned (.int k a) = .returned (.int k b) := by rw [h]
theorem below_drewN {B : Nat} {a w : World} (h : Below B a w) (n : Nat) : Below B a (w.drewN n) := ⟨h.os, h.tape, h.output, h.size, h.block⟩
theorem below_on {w a b : World} (h : Below w.heap.size w a) (k : Below a.heap.size a b) : Below w.heap.size w b := h.trans (k.mono h.size)
theorem below_new (w : World) (o : Obj) : Below w.heap.size w (w.alloc o) := (Below.refl _ _).alloc (Nat.le_refl _) o
theorem gb_refl (w : World) (row : Option Nat) : w.grownBy w row := World.grownBy.refl w row
theorem gb_trans {a b c : World} {row : Option Nat} (h : a.grownBy b row) (k : b.grownBy c row) : a.grownBy c row :=
  ⟨k.os.trans h.os, k.tape.trans h.tape, k.output.trans h.output, Nat.le_trans h.size k.size, fun i hi hn => (k.block i (Nat.lt_of_lt_of_le hi h.size) hn).trans (h.block i hi hn)⟩
/-- Behind 'only the row has turned': a row of one's own, made since, is written. -/
theorem gb_own {a b c : World} {row r : Option Nat} (h : a.grownBy b row) (k : b.grownBy c r) (hr : ∀ g, r = some g → a.heap.size ≤ g) : a.grownBy c row :=
  ⟨k.os.trans h.os, k.tape.trans h.tape, k.output.trans h.output, Nat.le_trans h.size k.size, fun i hi hn =>
    (k.block i (Nat.lt_of_lt_of_le hi h.size) (fun e => by have := hr i e.symm; omega)).trans (h.block i hi hn)⟩
theorem gb_below {a b c : World} {row : Option Nat} (h : a.grownBy b row) (k : Below b.heap.size b c) : a.grownBy c row :=
  ⟨k.os.trans h.os, k.tape.trans h.tape, k.output.trans h.output, Nat.le_trans h.size k.size, fun i hi hn => (k.block i (Nat.lt_of_lt_of_le hi h.size)).trans (h.block i hi hn)⟩
theorem gb_of {a b : World} (h : Below a.heap.size a b) (row : Option Nat) : a.grownBy b row := gb_below (gb_refl a row) h
theorem gb_drewN {a b : World} {row : Option Nat} (h : a.grownBy b row) (n : Nat) : a.grownBy (b.drewN n) row := ⟨h.os, h.tape, h.output, h.size, h.block⟩
theorem below_gb {a b : World} {g : Nat} (h : a.grownBy b (some g)) (hg : a.heap.size ≤ g) : Below a.heap.size a b :=
  ⟨h.os, h.tape, h.output, h.size, fun k hk => h.block k hk (fun e => by injection e; omega)⟩
theorem block_of_add (a : Addr) (n : Nat) : (a.add n).block = a.block := by unfold Addr.add; split <;> rfl
theorem add_of_add (a : Addr) (i j : Nat) : (a.add i).add j = a.add (i + j) := by
  unfold Addr.add
  by_cases hi : i = 0 <;> by_cases hj : j = 0 <;> simp [hi, hj, Nat.add_assoc]
theorem cell_eq {w w' : World} {p : Addr} (h : w'.heap[p.block]? = w.heap[p.block]?) : w'.cell? p = w.cell? p := World.cell?_of_block h

/-- The slice '.slice A n c' (elements of sz cells) can be read in w: its cells are cs. -/
structure RG (w : World) (sz : Nat) (A : Option Addr) (c n : Nat) (cs : List Value) : Prop where
  len : cs.length = n * sz
  at0 : 0 < n → ∃ ad, A = some ad ∧ ad.block < w.heap.size ∧ ∀ j u, cs[j]? = some u → w.cell? (ad.add j) = some u
  cap : n ≤ c
  big : c ≤ maxLen

/-- The slice '.slice A n c' is of the call's own (from block 'base' on): its cells are cs. -/
structure OG (w : World) (base : Nat) (e : TypeId) (sz : Nat) (A : Option Addr) (c n : Nat) (cs : List Value) : Prop where
  own : w.ownsRow base e sz (.slice A n c) n cs

def blk (A : Option Addr) : Option Nat := A.map (·.block)

section
variable {w w' : World} {base B sz n c : Nat} {e : TypeId} {A : Option Addr} {cs : List Value}
theorem RG.nil (w : World) (sz : Nat) (A : Option Addr) (c : Nat) (hc : c ≤ maxLen) : RG w sz A c 0 [] := ⟨by simp, fun h => absurd h (by omega), by omega, hc⟩
theorem RG.below (h : RG w sz A c n cs) (hb : Below w.heap.size w w') : RG w' sz A c n cs :=
  ⟨h.len, fun hn => by
    obtain ⟨ad, e, hl, hc⟩ := h.at0 hn
    exact ⟨ad, e, by have := hb.size; omega, fun j u hu => (hb.cell (by rw [block_of_add]; exact hl)).trans (hc j u hu)⟩, h.cap, h.big⟩
theorem RG.cut (h : RG w sz A c n cs) {k : Nat} (hk : k ≤ n) :
    RG w sz (if c = k then A else A.map (·.add (k * sz))) (c - k) (n - k) (cs.drop (k * sz)) := by
  refine ⟨by rw [List.length_drop, h.len, Nat.sub_mul], fun hn => ?_, by have := h.cap; omega, by have := h.big; omega⟩
  obtain ⟨ad, rfl, hb, hcell⟩ := h.at0 (by omega)
  have := h.cap
  rw [if_neg (by omega)]
  refine ⟨ad.add (k * sz), rfl, by rw [block_of_add]; exact hb, fun j u hu => ?_⟩
  rw [add_of_add]
  exact hcell _ u (by rw [← hu, List.getElem?_drop])
theorem RG.take_ (h : RG w sz A c n cs) {k : Nat} (hk : k ≤ n) : RG w sz A c k (cs.take (k * sz)) := by
  refine ⟨by rw [List.length_take, h.len]; exact Nat.min_eq_left (Nat.mul_le_mul_right _ hk), fun hn => ?_, by have := h.cap; omega, h.big⟩
  obtain ⟨ad, e, hb, hcell⟩ := h.at0 (by omega)
  refine ⟨ad, e, hb, fun j u hu => hcell j u ?_⟩
  rw [List.getElem?_take] at hu
  split at hu
  · exact hu
  · cases hu
theorem RG.at_ (h : RG w sz A c n cs) {j : Nat} (hj : j < n * sz) : ∃ ad, A = some ad ∧ ad.block < w.heap.size ∧ w.cell? (ad.add j) = cs[j]? := by
  have hn : 0 < n := by
    rcases Nat.eq_zero_or_pos n with h0 | h0
    · subst h0; omega
    · exact h0
  obtain ⟨ad, e, hb, hcell⟩ := h.at0 hn
  have hl : j < cs.length := by rw [h.len]; exact hj
  refine ⟨ad, e, hb, ?_⟩
  rw [List.getElem?_eq_getElem hl]
  exact hcell j _ (List.getElem?_eq_getElem hl)

theorem OG.rg (h : OG w base e sz A c n cs) : RG w sz A c n cs := by
  rcases h.own.2 with ⟨h0, h1⟩ | ⟨g, cap, cur, hv, hb, hg, hn, hm, _⟩
  · injection h0 with _ _ hc
    subst h1; subst hc
    exact ⟨h.own.1, fun h => absurd h (by omega), by omega, by unfold maxLen; omega⟩
  · injection hv with hA _ hc
    subst hA; subst hc
    exact ⟨h.own.1, fun _ => ⟨_, rfl, (Array.getElem?_eq_some_iff.1 hg).1, h.own.cells (g := g) rfl⟩, hn, hm⟩
theorem OG.lt (h : OG w base e sz A c n cs) {b : Nat} (hb : blk A = some b) : base ≤ b ∧ b < w.heap.size := by
  cases A with
  | none => simp [blk] at hb
  | some a => exact h.own.lt _ (by simpa [blk, Value.ownBlock] using hb)
theorem OG.keep (h : OG w base e sz A c n cs) (hk : ∀ g, blk A = some g → w'.heap[g]? = w.heap[g]?) : OG w' base e sz A c n cs := by
  refine ⟨⟨h.own.1, ?_⟩⟩
  rcases h.own.2 with hn | ⟨g, cap, cur, hv, hb, hgg, rest⟩
  · exact .inl hn
  · refine .inr ⟨g, cap, cur, hv, hb, (hk g ?_).trans hgg, rest⟩
    injection hv with hA
    subst hA; rfl
theorem OG.below (h : OG w base e sz A c n cs) (hb : Below w.heap.size w w') : OG w' base e sz A c n cs := h.keep fun _ hg => hb.block _ (h.lt hg).2
theorem OG.grown (h : OG w base e sz A c n cs) {row : Option Nat} (hg : w.grownBy w' row) (hne : ∀ g, blk A = some g → row ≠ some g) : OG w' base e sz A c n cs :=
  h.keep fun g hb => hg.block g (h.lt hb).2 (fun he => hne g hb he.symm)
theorem OG.mono {base' : Nat} (h : OG w base e sz A c n cs) (hb : base' ≤ base) : OG w base' e sz A c n cs := by
  refine ⟨⟨h.own.1, ?_⟩⟩
  rcases h.own.2 with hn | ⟨g, cap, cur, hv, hbg, rest⟩
  · exact .inl hn
  · exact .inr ⟨g, cap, cur, hv, by omega, rest⟩
theorem OG.nil (w : World) (base : Nat) (e : TypeId) (sz : Nat) : OG w base e sz none 0 0 [] := ⟨World.ownsRow_nil _ _ _ _⟩
/-- A block just made by a literal. -/
theorem OG.lit (w : World) (base : Nat) (e : TypeId) (sz : Nat) (cs : Array Value) (n : Nat) (hb : base ≤ w.heap.size) (hm : n ≤ maxLen) (hs : cs.size = n * sz) :
    OG (w.alloc (.cells cs e)) base e sz (some ⟨w.heap.size, 0, none⟩) n n cs.toList := ⟨World.ownsRow_lit w cs n hb hm hs⟩
theorem OG.take_ (h : OG w base e sz A c n cs) {k : Nat} (hk : k ≤ n) : OG w base e sz A c k (cs.take (k * sz)) := by
  refine ⟨⟨by rw [List.length_take, h.own.1]; exact Nat.min_eq_left (Nat.mul_le_mul_right _ hk), ?_⟩⟩
  rcases h.own.2 with ⟨h0, h1⟩ | ⟨g, cap, cur, hv, hb, hgg, hn, hm, hcs, htake⟩
  · injection h0 with hA _ hc
    subst hA; subst hc
    have : k = 0 := by omega
    subst this
    exact .inl ⟨rfl, rfl⟩
  · injection hv with hA _ hc
    subst hA; subst hc
    refine .inr ⟨g, c, cur, rfl, hb, hgg, by omega, hm, hcs, ?_⟩
    rw [← htake, List.take_take, Nat.min_eq_left (Nat.mul_le_mul_right _ hk)]
/-- One cell of the call's own is written. -/
theorem OG.store {ad : Addr} (h : OG w base e sz (some ad) c n cs) (j : Nat) (u : Value) :
    OG (w.setCell (ad.add j) u) base e sz (some ad) c n (cs.set j u) ∧ w.grownBy (w.setCell (ad.add j) u) (some ad.block) ∧ w.frozen? (ad.add j) = false := by
  have hex : ∃ g, ad = ⟨g, 0, none⟩ := by
    rcases h.own.2 with ⟨h0, _⟩ | ⟨g, cap, cur, hv, _⟩
    · injection h0 with hA; cases hA
    · injection hv with hA; injection hA with hA; exact ⟨g, hA⟩
  obtain ⟨g, rfl⟩ := hex
  have he : (⟨g, 0, none⟩ : Addr).add j = ⟨g, j, none⟩ := by unfold Addr.add; split <;> simp_all
  rw [he]
  have h1 := h.own.stored j u
  exact ⟨⟨h1.1⟩, h1.2, h.own.frozenAt j⟩
end

/-- The element type of a slice type, and its row of the program's table. -/
structure SlT (P : Program) (T E : TypeId) (sz bytes : Nat) (z : Value) : Prop where
  und : P.underlying T = some (.slice E)
  inf : ∃ i, P.info? E = some i ∧ i.zero = some z ∧ i.size = sz ∧ i.bytes = bytes
  zc : z.cells.size = sz
  pos : 0 < sz

section
variable {P : Program} {w : World} {ops : Array Oper} {rest : List Oper} {o : Oper} {a : Act} {Q : Exit → Act → World → Prop}

theorem run_append_of_nil (w : World) (base : Nat) (t ty e : TypeId) (i : TypeInfo) (size : Nat) (ht : P.underlying t = some (.slice e)) (hi : P.info? e = some i)
    (v : Value) (n : Nat) (xs : List Value) (hown : w.ownsRow base e size v n xs) (c : Nat) : (Builtin.append_ #[t, t] ty #[v, .slice none 0 c]).run P w = .ok v w := by
  rcases hown.2 with ⟨rfl, rfl⟩ | ⟨g, cap, cur, rfl, _, _, hnc, _⟩
  · simp [Builtin.append_, run_underlying ht, sizeOf, typeInfo, hi, Builtin.lenOf, Builtin.firstCells]
  · simp [Builtin.append_, run_underlying ht, sizeOf, typeInfo, hi, Builtin.lenOf, Builtin.firstCells, hnc, storeCells]

theorem run_append_og {T E : TypeId} {sz bytes : Nat} {z : Value} (hS : SlT P T E sz bytes z) (ty : TypeId) {base c n : Nat} {A : Option Addr} {cs : List Value} (ho : OG w base E sz A c n cs)
    {B : Option Addr} {d m : Nat} {ds : List Value} (hr : RG w sz B d m ds) (h1 : ∀ u ∈ ds, u.oneCell' = true) (h63 : n + m ≤ maxLen) (hbytes : (n + m) * bytes ≤ 140737488355328) (hbase : base ≤ w.heap.size) :
    ∃ A' c' w', (Builtin.append_ #[T, T] ty #[.slice A n c, .slice B m d]).run P w = .ok (.slice A' (n + m) c') w' ∧ OG w' base E sz A' c' (n + m) (cs ++ ds) ∧ w.grownBy w' (blk A) ∧
      (blk A' = blk A ∨ blk A' = some w.heap.size) := by
  obtain ⟨i, hi, hz, hsz, hby⟩ := hS.inf
  rcases B with _ | ad
  · have hm : m = 0 := by
      rcases Nat.eq_zero_or_pos m with h0 | h0
      · exact h0
      · obtain ⟨ad, h, _⟩ := hr.at0 h0
        cases h
    subst hm
    have hn : ds = [] := List.eq_nil_of_length_eq_zero (by simpa using hr.len)
    subst hn
    exact ⟨A, c, w, run_append_of_nil w base T ty E i sz hS.und hi _ n cs ho.own d, by simpa using ho, World.grownBy.refl w _, .inl rfl⟩
  · have hcells : ∀ j u, ds[j]? = some u → w.cell? (ad.add j) = some u := by
      intro j u hu
      rcases Nat.eq_zero_or_pos m with h0 | h0
      · subst h0
        have hn : ds = [] := List.eq_nil_of_length_eq_zero (by simpa using hr.len)
        subst hn
        simp at hu
      · obtain ⟨ad', h, _, hc⟩ := hr.at0 h0
        injection h with h
        subst h
        exact hc j u hu
    obtain ⟨v', w', hrun, h2, h3, _, h5⟩ := run_append_own_at (P := P) w base T ty E i z sz bytes hS.und hi hz hsz hby hS.zc hS.pos _ n cs ho.own ad m d ds hr.len hcells h1 h63 hbytes hbase
    have hv : ∃ A' c', v' = .slice A' (n + m) c' := by
      rcases h2.2 with ⟨h0, hnm⟩ | ⟨g, cap, cur, hv, _⟩
      · exact ⟨none, 0, by rw [h0, hnm]⟩
      · exact ⟨_, _, hv⟩
    obtain ⟨A', c', rfl⟩ := hv
    refine ⟨A', c', w', hrun, ⟨h2⟩, ?_, ?_⟩
    · cases A <;> exact h3
    · cases A <;> cases A' <;> exact h5

theorem wpl_append {T E : TypeId} {sz bytes : Nat} {z : Value} (hS : SlT P T E sz bytes z) (hgd : o.guard = none) (s x : Operand)
    (hop : o.op = .call { callee := .builtin .append, args := #[s, x], argTypes := #[T, T] })
    {base c n : Nat} {A : Option Addr} {cs : List Value} (hs : a.eval s = .slice A n c) (ho : OG w base E sz A c n cs)
    {B : Option Addr} {d m : Nat} {ds : List Value} (hx : a.eval x = .slice B m d) (hr : RG w sz B d m ds) (h1 : ∀ u ∈ ds, u.oneCell' = true) (h63 : n + m ≤ maxLen) (hbytes : (n + m) * bytes ≤ 140737488355328) (hbase : base ≤ w.heap.size)
    (h : ∀ A' c' w', OG w' base E sz A' c' (n + m) (cs ++ ds) → w.grownBy w' (blk A) → (blk A' = blk A ∨ blk A' = some w.heap.size) → wpList P ops Q rest (a.put o.dst (.slice A' (n + m) c')) w') : wpList P ops Q (o :: rest) a w := by
  refine wpList_plain hgd fun K hK => ?_
  obtain ⟨A', c', w', hrun, h2, h3, h4⟩ := run_append_og (P := P) hS o.type ho hr h1 h63 hbytes hbase
  unfold Oper.wp execOp
  simp only [hop, resolve, invoke, builtin, Sem.run_bind, Sem.run_pure, Result.andThen_ok, List.map_toArray, List.map_cons, List.map_nil, hs, hx, hrun]
  exact hK _ _ (h A' c' w' h2 h3 h4)
end

/-- A bound of a cut: it is left out, or it is a number. -/
def Bnd (v : Option Value) (n d : Nat) : Prop := match v with
  | none => n = d
  | some v => ∃ k i, v = .int k i ∧ i = (n : Int)

section
variable {P : Program} {w : World} {ops : Array Oper} {rest : List Oper} {o : Oper} {a : Act} {Q : Exit → Act → World → Prop}
theorem run_cut {T E : TypeId} {sz bytes : Nat} {z : Value} (hS : SlT P T E sz bytes z) {A : Option Addr} {n c : Nat} {lo hi : Option Value} {l h : Nat} (hlo : Bnd lo l 0) (hhi : Bnd hi h n) (hlh : l ≤ h) (hhc : h ≤ c) (hln : hi = none → h ≤ c) :
    (Instr.slice T (.slice A n c) lo hi none).run P w = .ok (.slice (if c = l then A else A.map (·.add (l * sz))) (h - l) (c - l)) w := by
  obtain ⟨i, hi', hz, hsz, hby⟩ := hS.inf
  have he : P.elem T = E := by simp [Program.elem, hS.und]
  have hso : (sizeOf (P.elem T)).run P w = .ok sz w := by simp [he, sizeOf, typeInfo, hi', hsz]
  have hu : P.underlying T = some (.slice (P.elem T)) := by rw [he]; exact hS.und
  cases lo with
  | none =>
    have hl : l = 0 := hlo
    subst hl
    cases hi with
    | none =>
      have hh : h = n := hhi
      subst hh
      rw [run_slice_all w T A h c hu, hso]; rfl
    | some v =>
      obtain ⟨k, q, rfl, rfl⟩ := hhi
      rw [run_slice_h w T A n c hu k h (by omega) (by omega), hso]; rfl
  | some v =>
    obtain ⟨k, q, rfl, rfl⟩ := hlo
    cases hi with
    | none =>
      have hh : h = n := hhi
      subst hh
      rw [run_slice_l w T A h c hu k l (by omega) (by omega), hso]; rfl
    | some v' =>
      obtain ⟨k', q', rfl, rfl⟩ := hhi
      rw [run_slice_lh w T A n c hu k k' l h (by omega) (by omega) (by omega), hso]; rfl
/-- 'x[l:h]': what is cut can be read. -/
theorem wpl_cut {T E : TypeId} {sz bytes : Nat} {z : Value} (hS : SlT P T E sz bytes z) (hgd : o.guard = none) (x : Operand) (lo hi : Option Operand) (hop : o.op = .slice T x lo hi none)
    {A : Option Addr} {n c : Nat} {cs : List Value} (hx : a.eval x = .slice A n c) (hr : RG w sz A c n cs) (l h : Nat) (hlo : Bnd (lo.map a.eval) l 0) (hhi : Bnd (hi.map a.eval) h n) (hlh : l ≤ h) (hhn : h ≤ n)
    (hK : ∀ A' c', RG w sz A' c' (h - l) ((cs.take (h * sz)).drop (l * sz)) → (∀ b, blk A' = some b → blk A = some b) → wpList P ops Q rest (a.put o.dst (.slice A' (h - l) c')) w) : wpList P ops Q (o :: rest) a w := by
  refine wpList_plain hgd fun K hK' => ?_
  have hrun := run_cut (P := P) (w := w) hS (A := A) (n := n) (c := c) hlo hhi hlh (by have := hr.cap; omega) (fun _ => by have := hr.cap; omega)
  have hu : P.underlying T = some (.slice (P.elem T)) := by
    have he : P.elem T = E := by simp [Program.elem, hS.und]
    rw [he]; exact hS.und
  unfold Oper.wp execOp
  simp only [hop, hx, Option.map_none, run_sliceAt_slice w T _ _ _ _ hu, Sem.run_bind, hrun, Result.andThen_ok, Sem.run_pure]
  refine hK' _ _ (hK _ _ ((hr.take_ hhn).cut hlh) ?_)
  intro b hb
  split at hb
  · exact hb
  · cases A <;> simp_all [blk, block_of_add]
end

/-- The cells of a list of ints. -/
def ints (xs : List Int) : List Value := xs.map (Value.int .i64)
theorem ints_length (xs : List Int) : (ints xs).length = xs.length := by simp [ints]
theorem ints_one (xs : List Int) : ∀ u ∈ ints xs, u.oneCell' = true := by
  intro u hu
  obtain ⟨x, _, rfl⟩ := List.mem_map.1 hu
  rfl
theorem ints_app (xs ys : List Int) : ints (xs ++ ys) = ints xs ++ ints ys := by simp [ints]
theorem ints_take (xs : List Int) (k : Nat) : (ints xs).take k = ints (xs.take k) := by simp [ints, List.map_take]
theorem ints_at {xs : List Int} {k : Nat} (h : k < xs.length) : (ints xs)[k]? = some (.int .i64 xs[k]) := by simp [ints, List.getElem?_eq_getElem h]

/-- The slice '.slice A xs.length c' can be read in w, and its ints are xs; it is of the call's own. -/
def RI (w : World) (A : Option Addr) (c : Nat) (xs : List Int) : Prop := RG w 1 A c xs.length (ints xs)
def OI (w : World) (base : Nat) (A : Option Addr) (c : Nat) (xs : List Int) : Prop := OG w base 3 1 A c xs.length (ints xs)

section
variable {w w' : World} {base B c : Nat} {A : Option Addr} {xs ys : List Int}
theorem RI.cap (h : RI w A c xs) : xs.length ≤ c := RG.cap h
theorem RI.big (h : RI w A c xs) : c ≤ maxLen := RG.big h
theorem RI.below (h : RI w A c xs) (hb : Below w.heap.size w w') : RI w' A c xs := RG.below h hb
theorem RI.at_ (h : RI w A c xs) {k : Nat} (hk : k < xs.length) : ∃ ad, A = some ad ∧ ad.block < w.heap.size ∧ w.cell? (ad.add k) = some (.int .i64 xs[k]) := by
  obtain ⟨ad, e, hb, hc⟩ := RG.at_ (j := k) h (by omega)
  exact ⟨ad, e, hb, by rw [hc, ints_at hk]⟩
theorem RI.drew (h : RI w A c xs) : RI w.drew A c xs := RI.below h (Below.drew (Below.refl _ _))
theorem RI.pre {xs ys : List Int} (h : RI w A c (xs ++ ys)) : RI w A c xs := by
  have := RG.take_ (k := xs.length) h (by simp)
  unfold RI
  simpa [ints_app, ints_length] using this
/-- One element: its cell, its value under a name of its own. -/
theorem RI.get (h : RI w A c xs) {k : Nat} (hk : k < xs.length) : ∃ ad x, A = some ad ∧ Hid (xs[k]? = some x) ∧ w.cell? (ad.add k) = some (.int .i64 x) := by
  obtain ⟨ad, e, _, hc⟩ := h.at_ hk
  exact ⟨ad, xs[k], e, List.getElem?_eq_getElem hk, hc⟩
theorem RI.cellAt {ad : Addr} (h : RI w (some ad) c xs) {k : Nat} {x : Int} (hx : xs[k]? = some x) : w.cell? (ad.add k) = some (.int .i64 x) := by
  obtain ⟨ad', x', e, hx', hc⟩ := h.get (k := k) (List.getElem?_eq_some_iff.1 hx).1
  injection e with e
  subst e
  rw [hc, Option.some.inj (hx'.out.symm.trans hx)]
theorem OI.lo {ad : Addr} (h : OI w base (some ad) c xs) : base ≤ ad.block := (OG.lt h (b := ad.block) rfl).1
theorem OI.hi {ad : Addr} (h : OI w base (some ad) c xs) : ad.block < w.heap.size := (OG.lt h (b := ad.block) rfl).2
theorem OI.ri (h : OI w base A c xs) : RI w A c xs := OG.rg h
theorem OI.lt (h : OI w base A c xs) {b : Nat} (hb : blk A = some b) : base ≤ b ∧ b < w.heap.size := OG.lt h hb
theorem OI.below (h : OI w base A c xs) (hb : Below w.heap.size w w') : OI w' base A c xs := OG.below h hb
theorem OI.grown (h : OI w base A c xs) {row : Option Nat} (hg : w.grownBy w' row) (hne : ∀ g, blk A = some g → row ≠ some g) : OI w' base A c xs := OG.grown h hg hne
/-- A row below one's own has turned. -/
theorem OI.past (h : OI w base A c xs) {g : Nat} (hg : w.grownBy w' (some g)) (hb : g < base) : OI w' base A c xs :=
  OI.grown h hg fun b hbb e => by have := (OI.lt h hbb).1; injection e; omega
theorem OI.mono {base' : Nat} (h : OI w base A c xs) (hb : base' ≤ base) : OI w base' A c xs := OG.mono h hb
theorem OI.nil (w : World) (base : Nat) : OI w base none 0 [] := OG.nil w base 3 1
theorem OI.empty (w : World) (base : Nat) (hb : base ≤ w.heap.size) : OI (w.alloc (.cells #[] 3)) base (some ⟨w.heap.size, 0, none⟩) 0 [] := OG.lit w base 3 1 #[] 0 hb (by unfold maxLen; omega) rfl
theorem OI.one (w : World) (base : Nat) (x : Int) (hb : base ≤ w.heap.size) : OI (w.alloc (.cells #[.int .i64 x] 3)) base (some ⟨w.heap.size, 0, none⟩) 1 [x] :=
  OG.lit w base 3 1 #[.int .i64 x] 1 hb (by unfold maxLen; omega) rfl
theorem OI.litI (w : World) (base : Nat) (xs : List Int) (hb : base ≤ w.heap.size) (hn : xs.length ≤ 1000000) : OI (w.alloc (.cells (ints xs).toArray 3)) base (some ⟨w.heap.size, 0, none⟩) xs.length xs := by
  have := OG.lit w base 3 1 (ints xs).toArray xs.length hb (by unfold maxLen; omega) (by simp [ints])
  unfold OI
  simpa using this
theorem OI.drew (h : OI w base A c xs) : OI w.drew base A c xs := OI.below h (Below.drew (Below.refl _ _))
theorem OI.alloc (h : OI w base A c xs) (o : Obj) : OI (w.alloc o) base A c xs := OI.below h ((Below.refl _ _).alloc (Nat.le_refl _) o)
theorem RI.alloc (h : RI w A c xs) (o : Obj) : RI (w.alloc o) A c xs := RI.below h ((Below.refl _ _).alloc (Nat.le_refl _) o)
theorem OI.store {ad : Addr} (h : OI w base (some ad) c xs) (k : Nat) (u : Int) :
    OI (w.setCell (ad.add k) (.int .i64 u)) base (some ad) c (xs.set k u) ∧ w.grownBy (w.setCell (ad.add k) (.int .i64 u)) (some ad.block) ∧ w.frozen? (ad.add k) = false := by
  have := OG.store h k (.int .i64 u)
  refine ⟨?_, this.2⟩
  have h1 := this.1
  unfold OI
  rw [List.length_set, show ints (xs.set k u) = (ints xs).set k (.int .i64 u) by simp [ints]]
  exact h1
theorem below_grown {B : Nat} {a w w' : World} {base : Nat} {A : Option Addr} {e : TypeId} {sz n c : Nat} {cs : List Value} (h : Below B a w) (ho : OG w base e sz A c n cs) (hg : w.grownBy w' (blk A)) (hb : B ≤ base) (hB : B ≤ w.heap.size) : Below B a w' :=
  h.grown hg hB fun k hk => by have := (ho.lt hk).1; omega
end

section
variable {P : Program} {w : World} {ops : Array Oper} {rest : List Oper} {o : Oper} {a : Act} {Q : Exit → Act → World → Prop}
/-- 'append(xs, ys...)' of ints, xs of the call's own. -/
theorem wpl_app {T : TypeId} (hS : SlT P T 3 1 8 (.int .i64 0)) (hgd : o.guard = none) (s x : Operand)
    (hop : o.op = .call { callee := .builtin .append, args := #[s, x], argTypes := #[T, T] })
    {base c : Nat} {A : Option Addr} {xs : List Int} (hs : a.eval s = .slice A xs.length c) (ho : OI w base A c xs)
    {B : Option Addr} {d : Nat} {ys : List Int} (hx : a.eval x = .slice B ys.length d) (hr : RI w B d ys) (hn : xs.length + ys.length ≤ 17592186044416) (hbase : base ≤ w.heap.size)
    (h : ∀ A' c' w' zs, Hid (zs = xs ++ ys) → OI w' base A' c' zs → w.grownBy w' (blk A) → (blk A' = blk A ∨ blk A' = some w.heap.size) → wpList P ops Q rest (a.put o.dst (.slice A' zs.length c')) w') : wpList P ops Q (o :: rest) a w := by
  refine wpl_append hS hgd s x hop hs ho hx hr (ints_one ys) (by unfold maxLen; omega) (by omega) hbase fun A' c' w' h1 h2 h3 => ?_
  have := h A' c' w' (xs ++ ys) rfl (by unfold OI; rw [List.length_append, ints_app]; exact h1) h2 h3
  rwa [List.length_append] at this
/-- 'xs[i]' of ints: the cell's address under a name of its own. -/
theorem wpl_idx {T : TypeId} (hS : SlT P T 3 1 8 (.int .i64 0)) (hgd : o.guard = none) (x i : Operand) (hop : o.op = .indexAddr T x i)
    {A : Option Addr} {c : Nat} {xs : List Int} (hx : a.eval x = .slice A xs.length c) {k : IntKind} {iv : Int} (hi : a.eval i = .int k iv) (hr : RI w A c xs) (h0 : 0 ≤ iv) (h1 : iv < (xs.length : Int))
    (hK : ∀ p v, Hid (xs[iv.toNat]? = some v) → w.cell? p = some (.int .i64 v) → (∀ b, blk A = some b → b = p.block) → wpList P ops Q rest (a.put o.dst (.pointer (some p))) w) : wpList P ops Q (o :: rest) a w := by
  refine wpList_plain hgd fun K hK' => ?_
  obtain ⟨ad, v, rfl, hv, hc⟩ := RI.get hr (k := iv.toNat) (by omega)
  have he : P.elem T = 3 := by simp [Program.elem, hS.und]
  have hu : P.underlying T = some (.slice (P.elem T)) := by rw [he]; exact hS.und
  obtain ⟨ti, hi', hz, hsz, hby⟩ := hS.inf
  have hso : (sizeOf (P.elem T)).run P w = .ok 1 w := by simp [he, sizeOf, typeInfo, hi', hsz]
  unfold Oper.wp execOp
  simp only [hop, hx, hi, Sem.run_bind, run_indexAt_slice w T ad _ _ k iv hu, if_pos (And.intro h0 h1), hso, Result.andThen_ok, Sem.run_pure, Nat.mul_one]
  exact hK' _ _ (hK _ v hv hc (fun b hb => by simpa [blk, block_of_add] using hb.symm))
/-- 'xs[l:h]' of ints. -/
theorem wpl_cutI {T : TypeId} (hS : SlT P T 3 1 8 (.int .i64 0)) (hgd : o.guard = none) (x : Operand) (lo hi : Option Operand) (hop : o.op = .slice T x lo hi none)
    {A : Option Addr} {c : Nat} {xs : List Int} (hx : a.eval x = .slice A xs.length c) (hr : RI w A c xs) (l h : Nat) (hlo : Bnd (lo.map a.eval) l 0) (hhi : Bnd (hi.map a.eval) h xs.length) (hlh : l ≤ h) (hhn : h ≤ xs.length)
    (hK : ∀ A' c' ys, Hid (ys = (xs.take h).drop l) → RI w A' c' ys → (∀ b, blk A' = some b → blk A = some b) → ys.length ≤ h - l → h - l ≤ ys.length → wpList P ops Q rest (a.put o.dst (.slice A' ys.length c')) w) : wpList P ops Q (o :: rest) a w := by
  refine wpl_cut hS hgd x lo hi hop hx hr l h hlo hhi hlh hhn fun A' c' h1 h2 => ?_
  have hl : ((xs.take h).drop l).length = h - l := by rw [List.length_drop, List.length_take]; omega
  have := hK A' c' _ (hid rfl) (by
    unfold RI
    rw [hl]
    have he : ints ((xs.take h).drop l) = ((ints xs).take (h * 1)).drop (l * 1) := by simp [ints, List.map_drop, List.map_take]
    rw [he]
    exact h1) h2 (by omega) (by omega)
  rwa [hl] at this
/-- 'append(xs, ys...)' of ints in a region that draws its order. -/
theorem stp_app {T : TypeId} (hS : SlT P T 3 1 8 (.int .i64 0)) {E : Prop} {K : Act → World → Prop} (hgd : o.guard = none) (s x : Operand)
    (hop : o.op = .call { callee := .builtin .append, args := #[s, x], argTypes := #[T, T] })
    {base c : Nat} {A : Option Addr} {xs : List Int} (hs : a.eval s = .slice A xs.length c) (ho : OI w base A c xs)
    {B : Option Addr} {d : Nat} {ys : List Int} (hx : a.eval x = .slice B ys.length d) (hr : RI w B d ys) (hn : xs.length + ys.length ≤ 17592186044416) (hbase : base ≤ w.heap.size)
    (h : ∀ A' c' w' zs, Hid (zs = xs ++ ys) → OI w' base A' c' zs → w.grownBy w' (blk A) → (blk A' = blk A ∨ blk A' = some w.heap.size) → K (a.put o.dst (.slice A' zs.length c')) w') :
    if Region.wanted o (yielded ops a.tmps) = true then Oper.wp P o a w K Q else E := by
  have hw : Region.wanted o (yielded ops a.tmps) = true := by simp [Region.wanted, hgd]
  rw [if_pos hw]
  obtain ⟨A', c', w', hrun, h2, h3, h4⟩ := run_append_og (P := P) hS o.type ho hr (ints_one ys) (by unfold maxLen; omega) (by omega) hbase
  have := h A' c' w' (xs ++ ys) rfl (by unfold OI; rw [List.length_append, ints_app]; exact h2) h3 h4
  unfold Oper.wp execOp
  simp only [hop, resolve, invoke, builtin, Sem.run_bind, Sem.run_pure, Result.andThen_ok, List.map_toArray, List.map_cons, List.map_nil, hs, hx, hrun]
  rw [List.length_append] at this
  exact this
/-- 'make([]int, n)'. -/
theorem wpl_make {T : TypeId} (hS : SlT P T 3 1 8 (.int .i64 0)) (hgd : o.guard = none) (l c : Operand) (hop : o.op = Op.makeSlice T l c)
    {kl kc : IntKind} {L C : Int} (n : Nat) (hl : a.eval l = .int kl L) (hc : a.eval c = .int kc C) (hL : L = (n : Int)) (hC : C = (n : Int)) (hn : n ≤ 17592186044416) (base : Nat) (hb : base ≤ w.heap.size)
    (h : ∀ A w' zs, Hid (zs = List.replicate n 0) → zs.length ≤ n → n ≤ zs.length → OI w' base A n zs → w.grownBy w' none → blk A = some w.heap.size → wpList P ops Q rest (a.put o.dst (.slice A zs.length n)) w') : wpList P ops Q (o :: rest) a w := by
  obtain ⟨i, hi, hz, hsz, hby⟩ := hS.inf
  refine wpList_make_full w hgd l c T hop base 3 i (.int .i64 0) 1 hS.und hi hz hsz kl kc L C n hl hc hL hC (by rw [hby]; omega) (by unfold maxLen; omega) hb fun w' h1 h2 => ?_
  have := h (some ⟨w.heap.size, 0, none⟩) w' (List.replicate n 0) rfl (by simp) (by simp) (by
    unfold OI
    rw [List.length_replicate]
    refine ⟨?_⟩
    have he : ints (List.replicate n 0) = (madeCells (Value.int .i64 0).cells (n * 1)).toList := by
      rw [show (Value.int .i64 0).cells = #[.int .i64 0] from rfl, toList_madeCells_one]
      simp [ints]
    rw [he]
    exact h1) h2 rfl
  rwa [List.length_replicate] at this
end

/-- A slice of bytes that can be read. -/
structure RY (w : World) (A : Option Addr) (c : Nat) (bs : List Int) : Prop where
  rg : RG w 1 A c bs.length (bs.map (Value.int .u8))
  wf : ∀ b ∈ bs, 0 ≤ b ∧ b ≤ 255
theorem RY.below {w w' : World} {A : Option Addr} {c : Nat} {bs : List Int} (h : RY w A c bs) (hb : Below w.heap.size w w') : RY w' A c bs := ⟨h.rg.below hb, h.wf⟩
theorem RY.get {w : World} {A : Option Addr} {c : Nat} {bs : List Int} (h : RY w A c bs) {k : Nat} (hk : k < bs.length) : ∃ ad x, A = some ad ∧ 0 ≤ x ∧ x ≤ 255 ∧ w.cell? (ad.add k) = some (.int .u8 x) := by
  obtain ⟨ad, e, _, hc⟩ := h.rg.at_ (j := k) (by omega)
  have hm := h.wf _ (List.getElem_mem hk)
  exact ⟨ad, bs[k], e, hm.1, hm.2, by rw [hc]; simp [List.getElem?_eq_getElem hk]⟩

/-- What a call answers: a bool or a number, the world as it was; the same, where the world may have drawn or grown; a list of the call's own. -/
def PB (w : World) (f : Bool) (e : Ending) (w' : World) : Prop := ∃ b, Hid (b = f) ∧ e = .returned (.bool b) ∧ w = w'
def PBb (w : World) (f : Bool) (e : Ending) (w' : World) : Prop := ∃ b, Hid (b = f) ∧ e = .returned (.bool b) ∧ Below w.heap.size w w'
def PN (w : World) (f : Int) (e : Ending) (w' : World) : Prop := ∃ n, Hid (n = f) ∧ e = .returned (.int .i64 n) ∧ w = w'
def PNb (w : World) (f : Int) (e : Ending) (w' : World) : Prop := ∃ n, Hid (n = f) ∧ e = .returned (.int .i64 n) ∧ Below w.heap.size w w'
def PL (w : World) (f : List Int) (e : Ending) (w' : World) : Prop :=
  ∃ A c ys, Hid (ys = f) ∧ OI w' w.heap.size A c ys ∧ e = .returned (.slice A ys.length c) ∧ Below w.heap.size w w'
def PLB (w : World) (f : Option (List Int)) (e : Ending) (w' : World) : Prop :=
  ∃ A c ys b, Hid (ys = f.getD []) ∧ Hid (b = f.isSome) ∧ OI w' w.heap.size A c ys ∧ e = .returned (.tuple #[.slice A ys.length c, .bool b]) ∧ Below w.heap.size w w'
theorem PLB_none {w w1 : World} {f : Option (List Int)} (hf : f = none) (hb : Below w.heap.size w w1) {g : Nat} (hg : g = w1.heap.size := by simp) : PLB w f (.returned (.tuple #[.slice (some ⟨g, 0, none⟩) 0 0, .bool false])) (w1.alloc (.cells #[] 3)) := by
  subst hg
  exact ⟨_, _, [], false, by simp [Hid, hf], by simp [Hid, hf], OI.empty w1 _ hb.size, rfl, below_on hb (below_new _ _)⟩
theorem PLB_some {w w1 : World} {f : Option (List Int)} {A : Option Addr} {c : Nat} {ys : List Int} (hf : f = some ys) (ho : OI w1 w.heap.size A c ys) (hb : Below w.heap.size w w1) :
    PLB w f (.returned (.tuple #[.slice A ys.length c, .bool true])) w1 := ⟨A, c, ys, true, by simp [Hid, hf], by simp [Hid, hf], ho, rfl, hb⟩
/-- One number is appended: what 'append(xs, x)' makes first, and the law. -/
theorem RI.one (w : World) (x : Int) : RI (w.alloc (.cells #[.int .i64 x] 3)) (some ⟨w.heap.size, 0, none⟩) 1 [x] := (OI.one w w.heap.size x (Nat.le_refl _)).ri
end Go.Proofs.Ytiaheikoifnbaaa
