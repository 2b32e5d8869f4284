/- What functions do: Unify, More. -/
import Derived.Test.Ytmanhdacnkpclaap6D4
namespace Go.Proofs.Ytmanhdacnkpclaa
set_option linter.all false
open Go.RowKit

set_option maxRecDepth 100000 in
theorem runify {a b : Tm} (ha : Old a) (hb : Old b) : FnD Try.prog 39 [tA a, tA b] (.tup (resU (unify a b))) := by
  have hc : FnD Try.prog 94 [.c (.val (.slice none 0 0)), lA Tm.d [a], lA Tm.d [b]] (.tup (resU (unify a b))) := FnD.nil (rsolve 10000000000000 [] [(a, b)] (UInv.start ha hb) (UInv.start ha hb).mu_le) 0 rfl
  generalize unify a b = r at hc
  refine Fn.of Try.func39 rfl Try.ntmps39 rfl (Nat.le_of_ble_eq_true rfl) ?_
  (refine wlk ?_)
  (refine SqA.b1 (op_bsT (T := TB) (f := Tm.d) [a] rfl rfl rfl rfl rfl rfl rfl rfl rfl rfl rfl) rfl rfl ?_)
  (refine wlk ?_)
  (refine SqA.b1 (op_bsT (T := TB) (f := Tm.d) [b] rfl rfl rfl rfl rfl rfl rfl rfl rfl rfl rfl) rfl rfl ?_)
  (refine wlk ?_)
  cases r <;> ((refine SqA.b1 (op_call none rfl rfl rfl (by kernel_rfl) (FnD.use (hc)) rfl rfl rfl rfl rfl rfl) rfl rfl ?_); (refine wlk ?_); (first | (refine finR (.tmp rfl (.tmp rfl .nil)) rfl rfl ?_) | (refine finN (.tmp rfl (.tmp rfl .nil)) rfl rfl ?_)); exact rfl)

end Go.Proofs.Ytmanhdacnkpclaa
