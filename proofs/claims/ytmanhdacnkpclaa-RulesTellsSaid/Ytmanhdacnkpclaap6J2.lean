/- What functions do: a clause without one of its literals (the document's answer). -/
import Derived.Test.Ytmanhdacnkpclaap6J1
namespace Go.Proofs.Ytmanhdacnkpclaa
set_option linter.all false
open Go.RowKit

set_option maxRecDepth 100000 in
theorem rbut (c : List Lt) (i : Nat) (hi : i < c.length) (hl : c.length ≤ 1000) : FnD Try.prog 112 [lA Lt.d c, iA i] (.one (lA Lt.d (c.eraseIdx i))) := by
  have h2 : c.take (i : Int).toNat ++ c.drop ((i : Int) + 1).toNat = c.eraseIdx i := by rw [List.eraseIdx_eq_take_drop_succ]; rfl
  have h3 : (c.eraseIdx i).length ≤ 1000 := by rw [List.length_eraseIdx]; split <;> omega
  refine Fn.of Try.func112 rfl Try.ntmps112 rfl (Nat.le_of_ble_eq_true rfl) ?_
  (refine wlk ?_)
  (refine SqA.b1 (op_sliceHiT (T := TB) (f := Lt.d) (l := c) rfl rfl rfl rfl rfl (by omega) (by omega)) rfl rfl ?_)
  (refine SqA.b2 (op_appT (T := TB) (f := Lt.d) (l := []) (es := c.take (i : Int).toNat) (rs := c.take (i : Int).toNat) rfl rfl rfl rfl rfl rfl (by simp only [List.length_take]; omega) (by decide)) rfl rfl ?_)
  (refine wlk ?_)
  refine fin_wk (fun n => Wk.freezeAt (d := 4) rfl) ?_
  (first | (refine finR (.tmp rfl .nil) rfl rfl ?_) | (refine finN (.tmp rfl .nil) rfl rfl ?_))
  rfl
set_option maxRecDepth 100000 in
theorem rbutO (c : List Lt) (i : Nat) (hi : i < c.length) (hl : c.length ≤ 1000) : FnD Try.prog 112 [lA Lt.d c, iA i] (.one (.c (.own 59 7 ((c.eraseIdx i).map Lt.d)))) := by
  have h2 : c.take (i : Int).toNat ++ c.drop ((i : Int) + 1).toNat = c.eraseIdx i := by rw [List.eraseIdx_eq_take_drop_succ]; rfl
  have h3 : (c.eraseIdx i).length ≤ 1000 := by rw [List.length_eraseIdx]; split <;> omega
  refine Fn.of Try.func112 rfl Try.ntmps112 rfl (Nat.le_of_ble_eq_true rfl) ?_
  (refine wlk ?_)
  (refine SqA.b1 (op_sliceHiT (T := TB) (f := Lt.d) (l := c) rfl rfl rfl rfl rfl (by omega) (by omega)) rfl rfl ?_)
  (refine SqA.b2 (op_appT (T := TB) (f := Lt.d) (l := []) (es := c.take (i : Int).toNat) (rs := c.take (i : Int).toNat) rfl rfl rfl rfl rfl rfl (by simp only [List.length_take]; omega) (by decide)) rfl rfl ?_)
  (refine wlk ?_)
  (refine finO (E := _) rfl ?_)
  rfl
end Go.Proofs.Ytmanhdacnkpclaa
