/- What functions do: what is wrong with a clause. -/
import Derived.Test.YtmanhdacnkpclaaGreatDoorzdBa
import Derived.Test.YtmanhdacnkpclaaGreatDoorzdDa
import Derived.Test.YtmanhdacnkpclaaGreatDoorzdDd
import Derived.Test.YtmanhdacnkpclaaGreatDoorzdPb1
namespace Go.Proofs.YtmanhdacnkpclaaGreatDoor
set_option linter.all false
open Go.RowKit

set_option maxHeartbeats 4000000 in
set_option maxRecDepth 100000 in
theorem pwrongCl (s : List Int) (c : List Lt) : FnD Tryz.prog 8 [lA Int.d s, lA Lt.d c] (.one (iA (wrongCl s c))) := by
  refine Fn.of Tryz.func8 rfl Tryz.ntmps8 rfl (Nat.le_of_ble_eq_true rfl) ?_
  by_cases h4 : 4 < c.length
  · (refine wlk ?_)
    (first | (refine finR (.tmp rfl .nil) rfl rfl ?_) | (refine finN (.tmp rfl .nil) rfl rfl ?_))
    exact Xi (b := 5) (by simp [wrongCl, h4])
  (refine wlk ?_)
  refine dwp_loop (fun k : Nat => [(.t 0, some (.one (lA Int.d s))), (.t 13, some (.one (lA Lt.d c))), (.t 14, some (.one (iA c.length))), (.t 15, some (.one (iA k)))])
    (fun k => k ≤ c.length ∧ ∀ j y, j < k → c[j]? = some y → wrong s y.left = 0 ∧ wrong s y.right = 0) (fun k => c.length - k) 0 ⟨by omega, fun j x h => absurd h (by omega)⟩ fgs ?_
  rintro k ⟨hk, hno⟩
  by_cases hkl : k < c.length
  rotate_left
  · have : k = c.length := by omega
    subst this
    (refine wlk ?_)
    (first | (refine finR (.tmp rfl .nil) rfl rfl ?_) | (refine finN (.tmp rfl .nil) rfl rfl ?_))
    exact Xi (b := 0) (by simp [wrongCl, h4, wrongLits_yes hno])
  obtain ⟨x, hx⟩ := get_of_lt hkl
  have hw := wrongLits_no hno hx
  (refine wlk ?_)
  (refine SqA.b1 (op_bsT (T := TB) (f := Tm.d) [x.left, x.right] rfl rfl rfl rfl rfl rfl rfl rfl rfl rfl rfl) rfl rfl ?_)
  (refine wlk ?_)
  refine dwp_loop (fun i : Nat => [(.t 0, some (.one (lA Int.d s))), (.t 13, some (.one (lA Lt.d c))), (.t 14, some (.one (iA c.length))), (.t 15, some (.one (iA k))), (.t 23, some (.one (lA Tm.d [x.left, x.right]))), (.t 24, some (.one (iA (2 : Nat)))), (.t 25, some (.one (iA i)))])
    (fun i => i ≤ 2 ∧ ∀ j y, j < i → [x.left, x.right][j]? = some y → wrong s y = 0) (fun i => 2 - i) 0 ⟨by omega, fun j x h => absurd h (by omega)⟩ fgs ?_
  rintro i ⟨hi, hin⟩
  by_cases hi2 : i < 2
  rotate_left
  · have : i = 2 := by omega
    subst this
    have h1 := hin 0 x.left (by omega) rfl
    have h2 := hin 1 x.right (by omega) rfl
    (refine wlk ?_)
    exact ⟨k + 1, ⟨by omega, upto_succ hno hx ⟨h1, h2⟩⟩, fgs, by omega⟩
  obtain ⟨y, hy⟩ := get_of_lt (s := [x.left, x.right]) (k := i) hi2
  by_cases h1 : wrong s y = 0
  · (refine wlk ?_)
    (refine SqA.b1 (op_call none rfl rfl rfl (by kernel_rfl) (FnD.use (pwrong s y)) rfl rfl rfl rfl rfl rfl) rfl rfl ?_)
    (refine wlk ?_)
    exact ⟨i + 1, ⟨by omega, upto_succ hin hy h1⟩, fgs, by omega⟩
  · have hres : wrongCl s c = wrong s y := by
      rcases Nat.lt_or_ge i 1 with h0 | h0
      · have : i = 0 := by omega
        subst this
        simp at hy; subst hy
        simp [wrongCl, h4, hw, wrongLits, h1]
      · have : i = 1 := by omega
        subst this
        simp at hy; subst hy
        have h2 := hin 0 x.left (by omega) rfl
        simp [wrongCl, h4, hw, wrongLits, h1, h2]
    (refine wlk ?_)
    (refine SqA.b1 (op_call none rfl rfl rfl (by kernel_rfl) (FnD.use (pwrong s y)) rfl rfl rfl rfl rfl rfl) rfl rfl ?_)
    (refine wlk ?_)
    (first | (refine finR (.tmp rfl .nil) rfl rfl ?_) | (refine finN (.tmp rfl .nil) rfl rfl ?_))
    exact Xi (b := wrong s y) hres.symm

end Go.Proofs.YtmanhdacnkpclaaGreatDoor
