/- What functions do: texts of terms. -/
import Derived.Test.YtmanhdacnkpclaaDoordcDa
import Derived.Test.YtmanhdacnkpclaaDoordcBa
import Derived.Test.YtmanhdacnkpclaaDoordcT0
import Derived.Test.YtmanhdacnkpclaaDoordcHh
import Derived.Test.YtmanhdacnkpclaaDoordcTC
/- What functions do: texts of terms. -/
namespace Go.Proofs.YtmanhdacnkpclaaDoor
set_option linter.all false
open Go.RowKit

theorem Xs {l l' : List UInt8} (h : l = l') : (.one (sA l) : X) = .one (sA l') := by rw [h]
def digits : List UInt8 := [48, 49, 50, 51, 52, 53, 54, 55, 56, 57, 97, 98, 99, 100, 101, 102, 103, 104, 105, 106, 107, 108, 109, 110, 111, 112, 113, 114, 115, 116, 117, 118, 119, 120, 121, 122]
theorem digits_at : ∀ k, k < 10 → (digits.drop k).take (k + 1 - k) = [dig (k : Int)] := by decide
set_option maxRecDepth 100000 in
theorem csmall (k : Nat) (hk : k < 10) : FnD Tryd.prog 148 [iA k] (.one (sA [dig k])) := by
  have hd := digits_at k hk
  have hl : digits.length = 36 := rfl
  refine Fn.of Tryd.func148 rfl Tryd.ntmps148 rfl (Nat.le_of_ble_eq_true rfl) ?_
  (refine wlk ?_)
  (first | (refine finR (.tmp rfl .nil) rfl rfl ?_) | (refine finN (.tmp rfl .nil) rfl rfl ?_))
  exact rfl
set_option maxRecDepth 100000 in
theorem cformat (k : Nat) (hk : k < 10) : FnD Tryd.prog 135 [iA k, iA 10] (.one (sA [dig k])) := by
  refine Fn.of Tryd.func135 rfl Tryd.ntmps135 rfl (Nat.le_of_ble_eq_true rfl) ?_
  (refine wlk ?_)
  (refine SqA.b1 (op_call none rfl rfl rfl (by kernel_rfl) (FnD.use (csmall k hk)) rfl rfl rfl rfl rfl rfl) rfl rfl ?_)
  (refine wlk ?_)
  (first | (refine finR (.tmp rfl .nil) rfl rfl ?_) | (refine finN (.tmp rfl .nil) rfl rfl ?_))
  exact rfl
set_option maxRecDepth 100000 in
theorem citoa0 (k : Nat) (hk : k < 10) : FnD Tryd.prog 115 [iA k] (.one (sA [dig k])) := by
  refine Fn.of Tryd.func115 rfl Tryd.ntmps115 rfl (Nat.le_of_ble_eq_true rfl) ?_
  (refine wlk ?_)
  (refine SqA.b1 (op_call none rfl rfl rfl (by kernel_rfl) (FnD.use (cformat k hk)) rfl rfl rfl rfl rfl rfl) rfl rfl ?_)
  (refine wlk ?_)
  (first | (refine finR (.tmp rfl .nil) rfl rfl ?_) | (refine finN (.tmp rfl .nil) rfl rfl ?_))
  exact rfl
set_option maxRecDepth 100000 in
theorem citoa (n : Int) (h0 : 0 ≤ n) (h1 : n ≤ 9) : FnD Tryd.prog 79 [iA n] (.one (sA [dig n])) := by
  obtain ⟨k, rfl⟩ := Int.eq_ofNat_of_zero_le h0
  refine Fn.of Tryd.func79 rfl Tryd.ntmps79 rfl (Nat.le_of_ble_eq_true rfl) ?_
  (refine wlk ?_)
  (refine SqA.b1 (op_call none rfl rfl rfl (by kernel_rfl) (FnD.use (citoa0 k (by omega))) rfl rfl rfl rfl rfl rfl) rfl rfl ?_)
  (refine wlk ?_)
  (first | (refine finR (.tmp rfl .nil) rfl rfl ?_) | (refine finN (.tmp rfl .nil) rfl rfl ?_))
  exact rfl
end Go.Proofs.YtmanhdacnkpclaaDoor

/- What functions do: texts of clauses; models of clauses. -/
namespace Go.Proofs.YtmanhdacnkpclaaDoor
set_option linter.all false
open Go.RowKit

end Go.Proofs.YtmanhdacnkpclaaDoor
