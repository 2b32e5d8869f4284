/- What functions do: which clauses hold of a model; a clause's variables. -/
import Derived.Test.YtmanhdacnkpclaaDoorq6H1
import Derived.Test.YtmanhdacnkpclaaDoorq6M3
import Derived.Test.YtmanhdacnkpclaaDoorq6D3
namespace Go.Proofs.YtmanhdacnkpclaaDoor
set_option linter.all false
open Go.RowKit

set_option maxHeartbeats 8000000 in
set_option maxRecDepth 100000 in
theorem rsome {s : List Int} {m : Md} {env : List Int} (hm : MOk s m) (he : EOk m env) (hs : wrongSig s = 0) (c : List Lt) (hc : clWf s c) : FnD Tryd.prog 90 [mdA m, lA Int.d env, lA Lt.d c] (.one (bA (some_ m env c))) := by
  refine Fn.of Tryd.func90 rfl Tryd.ntmps90 rfl (Nat.le_of_ble_eq_true rfl) ?_
  refine dwp_len (t := 2) (ds := c.map Lt.d) rfl fun hbl => ?_
  rw [List.length_map] at hbl
  (refine wlk ?_)
  refine dwp_loop (fun k : Nat => [(.t 1, some (.one (lA Int.d env))), (.t 3, some (.one (.c (.ptr 3 0)))), (.b 3, some (.box (mdA m).cells)), (.t 9, some (.one (lA Lt.d c))), (.t 10, some (.one (iA c.length))), (.t 11, some (.one (iA k)))])
    (fun k => k ≤ c.length ∧ ∀ j x, j < k → c[j]? = some x → lit m env x = false) (fun k => c.length - k) 0 ⟨by omega, fun j x h => absurd h (by omega)⟩ fgs ?_
  rintro k ⟨hk, hno⟩
  by_cases hkl : k < c.length
  · obtain ⟨⟨ng, xl, xr⟩, hx⟩ := get_of_lt hkl
    have hxw := hc _ (List.mem_of_getElem? hx)
    dsimp only at hxw
    have h1 := rvalue hm he hs xl hxw.1
    have h2 := rvalue hm he hs xr hxw.2
    by_cases hv : value m env xl = value m env xr
    · cases ng
      · (refine wlk ?_)
        (refine SqA.b1 (op_call none rfl rfl rfl (by kernel_rfl) (FnD.use (h1)) rfl rfl rfl rfl rfl rfl) rfl rfl ?_)
        (refine wlk ?_)
        (refine SqA.b1 (op_call none rfl rfl rfl (by kernel_rfl) (FnD.use (h2)) rfl rfl rfl rfl rfl rfl) rfl rfl ?_)
        (refine wlk ?_)
        (first | (refine finR (.tmp rfl .nil) rfl rfl ?_) | (refine finN (.tmp rfl .nil) rfl rfl ?_))
        exact Xb (b := true) (some_no hx (by simp [lit, hv])).symm
      · (refine wlk ?_)
        (refine SqA.b1 (op_call none rfl rfl rfl (by kernel_rfl) (FnD.use (h1)) rfl rfl rfl rfl rfl rfl) rfl rfl ?_)
        (refine wlk ?_)
        (refine SqA.b1 (op_call none rfl rfl rfl (by kernel_rfl) (FnD.use (h2)) rfl rfl rfl rfl rfl rfl) rfl rfl ?_)
        (refine wlk ?_)
        exact ⟨k + 1, ⟨by omega, upto_succ hno hx (by simp [lit, hv])⟩, fgs, by omega⟩
    · cases ng
      · (refine wlk ?_)
        (refine SqA.b1 (op_call none rfl rfl rfl (by kernel_rfl) (FnD.use (h1)) rfl rfl rfl rfl rfl rfl) rfl rfl ?_)
        (refine wlk ?_)
        (refine SqA.b1 (op_call none rfl rfl rfl (by kernel_rfl) (FnD.use (h2)) rfl rfl rfl rfl rfl rfl) rfl rfl ?_)
        (refine wlk ?_)
        exact ⟨k + 1, ⟨by omega, upto_succ hno hx (by simp [lit, hv])⟩, fgs, by omega⟩
      · (refine wlk ?_)
        (refine SqA.b1 (op_call none rfl rfl rfl (by kernel_rfl) (FnD.use (h1)) rfl rfl rfl rfl rfl rfl) rfl rfl ?_)
        (refine wlk ?_)
        (refine SqA.b1 (op_call none rfl rfl rfl (by kernel_rfl) (FnD.use (h2)) rfl rfl rfl rfl rfl rfl) rfl rfl ?_)
        (refine wlk ?_)
        (first | (refine finR (.tmp rfl .nil) rfl rfl ?_) | (refine finN (.tmp rfl .nil) rfl rfl ?_))
        exact Xb (b := true) (some_no hx (by simp [lit, hv])).symm
  · have : k = c.length := by omega
    subst this
    (refine wlk ?_)
    (first | (refine finR (.tmp rfl .nil) rfl rfl ?_) | (refine finN (.tmp rfl .nil) rfl rfl ?_))
    exact Xb (b := false) (List.any_eq_false.2 fun x hx => by have := any_upto hno x hx; simp [this]).symm

end Go.Proofs.YtmanhdacnkpclaaDoor
