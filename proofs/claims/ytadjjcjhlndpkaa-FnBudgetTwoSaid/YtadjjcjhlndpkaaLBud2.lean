/- The laws FnBudgetTake, FnBudgetGive, FnBudgetTwo, FnBudgetBack: what is taken and given, whatever is drawn. No condition. -/
import Derived.Test.YtadjjcjhlndpkaaDBu3
import Derived.Test.YtadjjcjhlndpkaaFr
namespace Go.Proofs.Ytadjjcjhlndpkaa
open Go Go.RowKit Go.ChangeShapes Go.WideShapes Go.ChangeAt Go.Joins

theorem bud_same {a l p a' l' p' : Int} {f : Option (Int × Int × Int)} (h : Hid ((a, l, p) = f.getD (0, 0, 0))) (h' : Hid ((a', l', p') = f.getD (0, 0, 0))) : a = a' ∧ l = l' ∧ p = p' := by
  have := h.out.trans h'.out.symm
  simpa using this
theorem take_yes {a l p n : Int} (h1 : budOk a l p = true) (h2 : 0 ≤ n) (h3 : n ≤ l) : budTake a l p n = some (a, l - n, max p (a - (l - n))) := by
  have : inB 0 l n = true := inB_true.2 ⟨h2, h3⟩
  simp [budTake, h1, this]
theorem give_yes {a l p n : Int} (h1 : budOk a l p = true) (h2 : 0 ≤ n) (h3 : n ≤ a - l) : budGive a l p n = some (a, l + n, p) := by
  have : inB 0 (a - l) n = true := inB_true.2 ⟨h2, h3⟩
  simp [budGive, h1, this]
theorem budOk_mk {a l p : Int} (h0 : 0 ≤ a) (h1 : a ≤ 9999) (h2 : 0 ≤ l) (h3 : l ≤ a) (h4 : a - l ≤ p) (h5 : p ≤ a) : budOk a l p = true := by
  simp [budOk, inB]; omega
theorem take_is {a l p n x y z : Int} (h : Hid (true = (budTake a l p n).isSome)) (hv : Hid ((x, y, z) = (budTake a l p n).getD (0, 0, 0))) :
    budOk a l p = true ∧ 0 ≤ n ∧ n ≤ l ∧ a = x ∧ l - n = y ∧ max p (a - (l - n)) = z := by
  have h := h.out
  have hv := hv.out
  unfold budTake at h hv
  split at h
  · rename_i hc
    rw [if_pos hc] at hv
    simp only [Bool.and_eq_true, inB_true] at hc
    simp at hv
    exact ⟨hc.1, hc.2.1, hc.2.2, hv.1.symm, hv.2.1.symm, hv.2.2.symm⟩
  · cases h
theorem give_is {a l p n x y z : Int} (h : Hid (true = (budGive a l p n).isSome)) (hv : Hid ((x, y, z) = (budGive a l p n).getD (0, 0, 0))) :
    budOk a l p = true ∧ 0 ≤ n ∧ n ≤ a - l ∧ a = x ∧ l + n = y ∧ p = z := by
  have h := h.out
  have hv := hv.out
  unfold budGive at h hv
  split at h
  · rename_i hc
    rw [if_pos hc] at hv
    simp only [Bool.and_eq_true, inB_true] at hc
    simp at hv
    exact ⟨hc.1, hc.2.1, hc.2.2, hv.1.symm, hv.2.1.symm, hv.2.2.symm⟩
  · cases h
end Go.Proofs.Ytadjjcjhlndpkaa
