/- Rotations: how long they are. -/
import Derived.Test.YtiaheikoifnbaaaPlRt
namespace Go.Proofs.Ytiaheikoifnbaaa
open Go Go.RowKit
theorem rots_len {xs : List Int} {n : Nat} (h : xs.length ≤ n) : (rotsOf xs).length ≤ n := by
  unfold rotsOf
  split
  · rw [nints_length, ordN_length]; exact h
  · exact Nat.zero_le _
theorem turn_len {xs : List Int} {n : Nat} (h : xs.length ≤ n) : ((turnOf xs).1).length ≤ n := by
  unfold turnOf
  split
  · rw [turnF_length]; exact h
  · exact Nat.zero_le _
end Go.Proofs.Ytiaheikoifnbaaa
