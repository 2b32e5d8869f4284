/- What functions do: places, and what is at them. -/
import Derived.Test.YtmanhdacnkpclaaGreatDoorzdFe
import Derived.Test.YtmanhdacnkpclaaGreatDoorzdBa
import Derived.Test.YtmanhdacnkpclaaGreatDoorzdPa1
import Derived.Test.YtmanhdacnkpclaaGreatDoorzdPb1
/- What functions do: places, and what is at them. -/
namespace Go.Proofs.YtmanhdacnkpclaaGreatDoor
set_option linter.unusedVariables false
set_option linter.unusedSimpArgs false
open Go.RowKit

end Go.Proofs.YtmanhdacnkpclaaGreatDoor

/- What functions do: what is at a place; clauses. -/
namespace Go.Proofs.YtmanhdacnkpclaaGreatDoor
set_option linter.unusedVariables false
set_option linter.unusedSimpArgs false
open Go.RowKit

set_option maxRecDepth 100000 in
theorem rwrongCl (s : List Int) (c : List Lt) : FnD Tryz.prog 9 [lA Int.d s, lA Lt.d c] (.one (iA (wrongCl s c))) := by
  refine Fn.of Tryz.func9 rfl Tryz.ntmps9 rfl (Nat.le_of_ble_eq_true rfl) ?_
  by_cases h4 : 4 < c.length
  · (refine wlk ?_)
    (first | (refine finR (.tmp rfl .nil) rfl rfl ?_) | (refine finN (.tmp rfl .nil) rfl rfl ?_))
    exact Xi (b := 5) (by simp [wrongCl, h4])
  (refine wlk ?_)
  refine dwp_loop (fun k : Nat => [(.t 0, some (.one (lA Int.d s))), (.t 12, some (.one (lA Lt.d c))), (.t 13, some (.one (iA c.length))), (.t 14, some (.one (iA k)))])
    (fun k => k ≤ c.length ∧ ∀ j y, j < k → c[j]? = some y → wrong s y.left = 0 ∧ wrong s y.right = 0) (fun k => c.length - k) 0 ⟨by omega, fun j x h => absurd h (by omega)⟩ fgs ?_
  rintro k ⟨hk, hno⟩
  by_cases hkl : k < c.length
  · obtain ⟨x, hx⟩ := get_of_lt hkl
    have hw := wrongLits_no hno hx
    by_cases h1 : wrong s x.left = 0
    rotate_left
    · (refine wlk ?_)
      (refine SqA.b1 (op_call none rfl rfl rfl (by kernel_rfl) (FnD.use (rwrong s x.left)) rfl rfl rfl rfl rfl rfl) rfl rfl ?_)
      (refine wlk ?_)
      (first | (refine finR (.tmp rfl .nil) rfl rfl ?_) | (refine finN (.tmp rfl .nil) rfl rfl ?_))
      exact Xi (b := wrong s x.left) (by simp [wrongCl, h4, hw, wrongLits, h1])
    by_cases h2 : wrong s x.right = 0
    rotate_left
    · (refine wlk ?_)
      (refine SqA.b1 (op_call none rfl rfl rfl (by kernel_rfl) (FnD.use (rwrong s x.left)) rfl rfl rfl rfl rfl rfl) rfl rfl ?_)
      (refine wlk ?_)
      (refine SqA.b1 (op_call none rfl rfl rfl (by kernel_rfl) (FnD.use (rwrong s x.right)) rfl rfl rfl rfl rfl rfl) rfl rfl ?_)
      (refine wlk ?_)
      (first | (refine finR (.tmp rfl .nil) rfl rfl ?_) | (refine finN (.tmp rfl .nil) rfl rfl ?_))
      exact Xi (b := wrong s x.right) (by simp [wrongCl, h4, hw, wrongLits, h1, h2])
    (refine wlk ?_)
    (refine SqA.b1 (op_call none rfl rfl rfl (by kernel_rfl) (FnD.use (rwrong s x.left)) rfl rfl rfl rfl rfl rfl) rfl rfl ?_)
    (refine wlk ?_)
    (refine SqA.b1 (op_call none rfl rfl rfl (by kernel_rfl) (FnD.use (rwrong s x.right)) rfl rfl rfl rfl rfl rfl) rfl rfl ?_)
    (refine wlk ?_)
    exact ⟨k + 1, ⟨by omega, upto_succ hno hx ⟨h1, h2⟩⟩, fgs, by omega⟩
  · have : k = c.length := by omega
    subst this
    (refine wlk ?_)
    (first | (refine finR (.tmp rfl .nil) rfl rfl ?_) | (refine finN (.tmp rfl .nil) rfl rfl ?_))
    exact Xi (b := 0) (by simp [wrongCl, h4, wrongLits_yes hno])
end Go.Proofs.YtmanhdacnkpclaaGreatDoor
