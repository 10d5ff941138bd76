/- What a law holds in its hands: lists of its own, no two in one block, over a world that has all that was there. No condition. -/
import Derived.Test.YtiaheikoifnbaaaMem
namespace Go.Proofs.Ytiaheikoifnbaaa
open Go Go.RowKit

structure Ent where
  A : Option Addr
  c : Nat
  xs : List Int
structure Env (w0 w : World) (l : List Ent) : Prop where
  bel : Below w0.heap.size w0 w
  ok : ∀ (j : Nat) (e : Ent), l[j]? = some e → OI w w0.heap.size e.A e.c e.xs
  dis : ∀ (j k : Nat) (e f : Ent), j ≠ k → l[j]? = some e → l[k]? = some f → ∀ b, blk e.A = some b → blk f.A ≠ some b
theorem Env.nil (w : World) : Env w w [] := ⟨Below.refl _ _, fun j e h => by simp at h, fun j k e f _ h => by simp at h⟩
section
variable {w0 w w' : World} {l : List Ent}
theorem Env.call (h : Env w0 w l) (hb : Below w.heap.size w w') : Env w0 w' l := ⟨below_on h.bel hb, fun j e he => OI.below (h.ok j e he) hb, h.dis⟩
theorem Env.new (h : Env w0 w l) (hb : Below w.heap.size w w') {A : Option Addr} {c : Nat} {xs : List Int} (ho : OI w' w.heap.size A c xs) : Env w0 w' (l ++ [⟨A, c, xs⟩]) := by
  have hlt : ∀ j e, (l ++ [⟨A, c, xs⟩])[j]? = some e → (j < l.length ∧ l[j]? = some e) ∨ (j = l.length ∧ e = ⟨A, c, xs⟩) := by
    intro j e he
    rcases Nat.lt_trichotomy j l.length with hj | hj | hj
    · exact .inl ⟨hj, by rwa [List.getElem?_append_left hj] at he⟩
    · subst hj
      rw [List.getElem?_append_right (Nat.le_refl _), Nat.sub_self] at he
      exact .inr ⟨rfl, by simpa using he.symm⟩
    · rw [List.getElem?_eq_none (by simp; omega)] at he; cases he
  refine ⟨below_on h.bel hb, fun j e he => ?_, fun j k e f hjk he hf b hb1 hb2 => ?_⟩
  · rcases hlt j e he with ⟨_, he⟩ | ⟨_, rfl⟩
    · exact OI.below (h.ok j e he) hb
    · exact OI.mono ho h.bel.size
  · rcases hlt j e he with ⟨_, he⟩ | ⟨hj, rfl⟩ <;> rcases hlt k f hf with ⟨_, hf⟩ | ⟨hk, rfl⟩
    · exact h.dis j k e f hjk he hf b hb1 hb2
    · have := (OI.lt (h.ok j e he) hb1).2
      have := (OI.lt ho hb2).1
      omega
    · have := (OI.lt (h.ok k f hf) hb2).2
      have := (OI.lt ho hb1).1
      omega
    · omega
theorem Env.at_ (h : Env w0 w l) {e : Ent} (i : Nat) (hi : l[i]? = some e) : OI w w0.heap.size e.A e.c e.xs := h.ok i e hi
theorem Env.mark (h : Env w0 w l) {e : Ent} (i : Nat) (hi : l[i]? = some e) {ys : List Int} (ho : OI w' w0.heap.size e.A e.c ys) (hg : w.grownBy w' (blk e.A)) : Env w0 w' (l.set i ⟨e.A, e.c, ys⟩) := by
  have hl : i < l.length := (List.getElem?_eq_some_iff.1 hi).1
  have key : ∀ j f, (l.set i ⟨e.A, e.c, ys⟩)[j]? = some f → (j = i ∧ f = ⟨e.A, e.c, ys⟩) ∨ (j ≠ i ∧ l[j]? = some f) := by
    intro j f hf
    rw [List.getElem?_set] at hf
    simp only [hl, if_true] at hf
    split at hf
    · rename_i hji
      subst hji
      exact .inl ⟨rfl, (Option.some.inj hf).symm⟩
    · rename_i hji
      exact .inr ⟨fun e => hji e.symm, hf⟩
  refine ⟨h.bel.grown hg h.bel.size (fun b hb => (OI.lt (h.ok i e hi) hb).1), fun j f hf => ?_, fun j k f g hjk hf hg' b hb1 hb2 => ?_⟩
  · rcases key j f hf with ⟨_, rfl⟩ | ⟨hj, hf⟩
    · exact ho
    · exact OI.grown (h.ok j f hf) hg fun b hb hbe => h.dis j i f e hj hf hi b hb hbe
  · rcases key j f hf with ⟨rfl, rfl⟩ | ⟨hj, hf2⟩ <;> rcases key k g hg' with ⟨rfl, rfl⟩ | ⟨hk, hg2⟩
    · exact hjk rfl
    · exact h.dis j k e g hjk hi hg2 b hb1 hb2
    · exact h.dis j k f e hjk hf2 hi b hb1 hb2
    · exact h.dis j k f g hjk hf2 hg2 b hb1 hb2
end
end Go.Proofs.Ytiaheikoifnbaaa
