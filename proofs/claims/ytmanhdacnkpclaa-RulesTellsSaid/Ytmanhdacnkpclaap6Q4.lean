/- What functions do: Down, Rewrite of the document's answer. -/
import Derived.Test.Ytmanhdacnkpclaap6Q1
import Derived.Test.Ytmanhdacnkpclaap6N2
namespace Go.Proofs.Ytmanhdacnkpclaa
set_option linter.all false
open Go.RowKit

set_option maxRecDepth 100000 in
theorem rturn (l : Lt) (b : Bool) : FnD Try.prog 102 [ltA l, bA b] (.one (ltA (turnL b l))) := by
  obtain ⟨ng, xl, xr⟩ := l
  refine Fn.of Try.func102 rfl Try.ntmps102 rfl (Nat.le_of_ble_eq_true rfl) ?_
  cases b
  · (refine wlk ?_)
    (first | (refine finR (.cellN rfl rfl (rw_of rfl) rfl rfl .nil) rfl rfl ?_) | (refine finN (.cellN rfl rfl (rw_of rfl) rfl rfl .nil) rfl rfl ?_))
    rfl
  · (refine wlk ?_)
    (first | (refine finR (.cellN rfl rfl (rw_of rfl) rfl rfl .nil) rfl rfl ?_) | (refine finN (.cellN rfl rfl (rw_of rfl) rfl rfl .nil) rfl rfl ?_))
    rfl
end Go.Proofs.Ytmanhdacnkpclaa
