/- What functions do: both ways of a literal; renaming in the document's answer. -/
import Derived.Test.Ytmanhdacnkpclaap6J1
import Derived.Test.Ytmanhdacnkpclaap6D3
import Derived.Test.Ytmanhdacnkpclaap6D4
namespace Go.Proofs.Ytmanhdacnkpclaa
set_option linter.all false
open Go.RowKit

set_option maxRecDepth 100000 in
theorem pways (l : Lt) : FnD Try.prog 113 [ltA l] (.one (lA Tw.d (waysL l))) := by
  obtain ⟨ng, xl, xr⟩ := l
  refine Fn.of Try.func113 rfl Try.ntmps113 rfl (Nat.le_of_ble_eq_true rfl) ?_
  (refine wlk ?_)
  (refine SqA.b1 (op_bsT (T := TB) (f := Tw.d) [((xl, xr) : Tm × Tm), (xr, xl)] rfl rfl rfl rfl rfl rfl rfl rfl rfl rfl rfl) rfl rfl ?_)
  (refine wlk ?_)
  (first | (refine finR (.tmp rfl .nil) rfl rfl ?_) | (refine finN (.tmp rfl .nil) rfl rfl ?_))
  rfl
set_option maxRecDepth 100000 in
theorem rsup1 (t : Tm) (hk : t.okv = true) (hz : t.size ≤ 2000000000000) : FnD Try.prog 116 [tA t] (.one (tA (ren 5 t))) := by
  refine Fn.of Try.func116 rfl Try.ntmps116 rfl (Nat.le_of_ble_eq_true rfl) ?_
  (refine wlk ?_)
  (refine SqA.b1 (op_call none rfl rfl rfl (by kernel_rfl) (FnD.use (rrename 5 (by decide) (by decide) t hk hz)) rfl rfl rfl rfl rfl rfl) rfl rfl ?_)
  (refine wlk ?_)
  (first | (refine finR (.cellN rfl rfl (rw_of rfl) rfl rfl .nil) rfl rfl ?_) | (refine finN (.cellN rfl rfl (rw_of rfl) rfl rfl .nil) rfl rfl ?_))
  rfl
set_option maxRecDepth 100000 in
theorem ladd1 (by_ : List Pr) (hl : by_.length ≤ 4000000000000) (t : Tm) (hz : t.size ≤ 2000000000000) : FnD Try.prog 147 [tA t, .c (.fp [.arr (by_.map Pr.d)])] (.one (tA (app by_ t))) := by
  refine Fn.of Try.func147 rfl Try.ntmps147 rfl (Nat.le_of_ble_eq_true rfl) ?_
  (refine wlk ?_)
  (refine SqA.b1 (op_call none rfl rfl rfl (by kernel_rfl) (FnD.use (ap by_ hl t hz)) rfl rfl rfl rfl rfl rfl) rfl rfl ?_)
  (refine wlk ?_)
  (first | (refine finR (.cellN rfl rfl (rw_of rfl) rfl rfl .nil) rfl rfl ?_) | (refine finN (.cellN rfl rfl (rw_of rfl) rfl rfl .nil) rfl rfl ?_))
  rfl
end Go.Proofs.Ytmanhdacnkpclaa
