/- What functions do: models. -/
import Derived.Test.YtmanhdacnkpclaaGreatDoorzdBa
import Derived.Test.YtmanhdacnkpclaaGreatDoorzdPb1
import Derived.Test.YtmanhdacnkpclaaGreatDoorzdRt
namespace Go.Proofs.YtmanhdacnkpclaaGreatDoor
set_option linter.all false
open Go.RowKit

theorem sig_at {s : List Int} (hs : wrongSig s = 0) {k : Nat} {n : Int} (h : s[k]? = some n) : 0 ≤ n ∧ n ≤ 2 := by
  unfold wrongSig at hs
  split at hs
  · cases hs
  · split at hs
    · cases hs
    · rename_i h2
      simp only [Bool.not_eq_true] at h2
      have := List.any_eq_false.1 h2 n (List.mem_of_getElem? h)
      simp only [decide_eq_true_eq] at this
      omega
theorem sig_len {s : List Int} (hs : wrongSig s = 0) : 1 ≤ s.length ∧ s.length ≤ 6 := by
  unfold wrongSig at hs
  split at hs
  · cases hs
  · omega
end Go.Proofs.YtmanhdacnkpclaaGreatDoor
