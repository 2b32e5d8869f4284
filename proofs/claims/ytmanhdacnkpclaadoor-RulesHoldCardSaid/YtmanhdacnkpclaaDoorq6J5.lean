/- What functions do: a clause without one of its literals (the program). -/
import Derived.Test.YtmanhdacnkpclaaDoorq6GLd
import Derived.Test.YtmanhdacnkpclaaDoorq6Cl
namespace Go.Proofs.YtmanhdacnkpclaaDoor
set_option linter.all false
open Go.RowKit

theorem map_erase {α β : Type} (f : α → β) (l : List α) (i : Nat) : (l.map f).eraseIdx i = (l.eraseIdx i).map f := by simp [List.eraseIdx_eq_take_drop_succ, List.map_take, List.map_drop]
set_option maxRecDepth 100000 in
theorem pwithout (c : List Lt) (i : Nat) (hi : i < c.length) (hl : c.length ≤ 1000000000) : FnD Tryd.prog 95 [lA Lt.d c, iA i] (.one (.c (.own 67 7 ((c.eraseIdx i).map Lt.d)))) := by
  refine Fn.of Tryd.func95 rfl Tryd.ntmps95 rfl (Nat.le_of_ble_eq_true rfl) ?_
  (refine wlk ?_)
  (refine SqA.b1 (op_call none rfl rfl rfl (by kernel_rfl) (FnD.use (cloneL c hl)) rfl rfl rfl rfl rfl rfl) rfl rfl ?_)
  (refine wlk ?_)
  (refine SqA.b2 (op_del (i := i) rfl rfl rfl (by kernel_rfl) delL rfl (FCs.lenL c) rfl rfl rfl rfl (by rw [List.length_map]; exact hi) (map_erase _ _ _)) rfl rfl ?_)
  (refine wlk ?_)
  (refine finO (E := _) rfl ?_)
  rfl
end Go.Proofs.YtmanhdacnkpclaaDoor
