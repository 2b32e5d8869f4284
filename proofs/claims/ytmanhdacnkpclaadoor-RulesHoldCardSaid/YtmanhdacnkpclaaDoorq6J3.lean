/- What functions do: both ways of a literal; renaming in the document's answer. -/
import Derived.Test.YtmanhdacnkpclaaDoorq6J1
import Derived.Test.YtmanhdacnkpclaaDoorq6D3
import Derived.Test.YtmanhdacnkpclaaDoorq6D4
namespace Go.Proofs.YtmanhdacnkpclaaDoor
set_option linter.all false
open Go.RowKit

set_option maxRecDepth 100000 in
theorem pways (l : Lt) : FnD Tryd.prog 96 [ltA l] (.one (lA Tw.d (waysL l))) := by
  obtain ⟨ng, xl, xr⟩ := l
  refine Fn.of Tryd.func96 rfl Tryd.ntmps96 rfl (Nat.le_of_ble_eq_true rfl) ?_
  (refine wlk ?_)
  (refine SqA.b1 (op_bsT (T := TB) (f := Tw.d) [((xl, xr) : Tm × Tm), (xr, xl)] rfl rfl rfl rfl rfl rfl rfl rfl rfl rfl rfl) rfl rfl ?_)
  (refine wlk ?_)
  (first | (refine finR (.tmp rfl .nil) rfl rfl ?_) | (refine finN (.tmp rfl .nil) rfl rfl ?_))
  rfl
end Go.Proofs.YtmanhdacnkpclaaDoor
