/- RulesTells: walked. -/
import Derived.Test.Ytmanhdacnkpclaap6J7
import Derived.Test.Ytmanhdacnkpclaap6J8
import Derived.Test.Ytmanhdacnkpclaap6JA
import Derived.Test.Ytmanhdacnkpclaap6JB
namespace Go.Proofs.Ytmanhdacnkpclaa
set_option linter.all false
open Go.RowKit

theorem bne_self6 (b : Bool) : (b != b) = false := by cases b <;> rfl
theorem beq_self6 (b : Bool) : (b == b) = true := by cases b <;> rfl
set_option maxHeartbeats 4000000 in
set_option maxRecDepth 100000 in
theorem rulesTells_fn (s : List Int) (c d : List Lt) : FnD Try.prog 14 [lA Int.d s, lA Lt.d c, lA Lt.d d] (.one (bA true)) := by
  refine Fn.of Try.func14 rfl Try.ntmps14 rfl (Nat.le_of_ble_eq_true rfl) ?_
  have hr := rright s [c, d]
  cases hb : rightC s [c, d]
  · rw [hb] at hr
    (refine wlk ?_)
    (refine SqA.b1 (op_bsT (T := TB) (f := Cl.d) [c, d] rfl rfl rfl rfl rfl rfl rfl rfl rfl rfl rfl) rfl rfl ?_)
    (refine wlk ?_)
    (refine SqA.b1 (op_call none rfl rfl rfl (by kernel_rfl) (FnD.use (hr)) rfl rfl rfl rfl rfl rfl) rfl rfl ?_)
    (refine wlk ?_)
    (first | (refine finR (.tmp rfl .nil) rfl rfl ?_) | (refine finN (.tmp rfl .nil) rfl rfl ?_))
    rfl
  rw [hb] at hr
  obtain ⟨hs, h8, hall⟩ := right_of hb
  have hc : COk s c := hall c (by simp)
  have hd : COk s d := hall d (by simp)
  have a1 := presolve hc.cg
  have a2 := rresolve hc.cg
  have b1 := pfactor hc.cg
  have b2 := rfactor hc.cg
  have c1 := psup hc.cg hd
  have c2 := rsup hc.cg hd
  generalize resolve c = ma at *
  generalize factor c = mb at *
  generalize sup c d = mc at *
  obtain ⟨ma, la⟩ := ma
  obtain ⟨mb, lb⟩ := mb
  obtain ⟨mc, lc⟩ := mc
  dsimp only at a1 a2 b1 b2 c1 c2
  have s1 := rsameClauses ma ma
  have s2 := rsameClauses mb mb
  have s3 := rsameClauses mc mc
  rw [clsSame_iff.2 rfl] at s1 s2 s3
  have x1 := bne_self6 la
  have x2 := bne_self6 lb
  have x3 := beq_self6 lc
  (refine wlk ?_)
  (refine SqA.b1 (op_bsT (T := TB) (f := Cl.d) [c, d] rfl rfl rfl rfl rfl rfl rfl rfl rfl rfl rfl) rfl rfl ?_)
  (refine wlk ?_)
  (refine SqA.b1 (op_call none rfl rfl rfl (by kernel_rfl) (FnD.use (hr)) rfl rfl rfl rfl rfl rfl) rfl rfl ?_)
  (refine wlk ?_)
  (refine SqA.b1 (op_call none rfl rfl rfl (by kernel_rfl) (FnD.use (a1)) rfl rfl rfl rfl rfl rfl) rfl rfl ?_)
  (refine wlk ?_)
  (refine SqA.b1 (op_call none rfl rfl rfl (by kernel_rfl) (FnD.use (a2)) rfl rfl rfl rfl rfl rfl) rfl rfl ?_)
  (refine wlk ?_)
  (refine SqA.b1 (op_call none rfl rfl rfl (by kernel_rfl) (FnD.use (s1)) rfl rfl rfl rfl rfl rfl) rfl rfl ?_)
  (refine wlk ?_)
  (refine SqA.b1 (op_call none rfl rfl rfl (by kernel_rfl) (FnD.use (b1)) rfl rfl rfl rfl rfl rfl) rfl rfl ?_)
  (refine wlk ?_)
  (refine SqA.b1 (op_call none rfl rfl rfl (by kernel_rfl) (FnD.use (b2)) rfl rfl rfl rfl rfl rfl) rfl rfl ?_)
  (refine wlk ?_)
  (refine SqA.b1 (op_call none rfl rfl rfl (by kernel_rfl) (FnD.use (s2)) rfl rfl rfl rfl rfl rfl) rfl rfl ?_)
  (refine wlk ?_)
  (refine SqA.b1 (op_call none rfl rfl rfl (by kernel_rfl) (FnD.use (c1)) rfl rfl rfl rfl rfl rfl) rfl rfl ?_)
  (refine wlk ?_)
  (refine SqA.b1 (op_call none rfl rfl rfl (by kernel_rfl) (FnD.use (c2)) rfl rfl rfl rfl rfl rfl) rfl rfl ?_)
  (refine wlk ?_)
  (refine SqA.b1 (op_call none rfl rfl rfl (by kernel_rfl) (FnD.use (s3)) rfl rfl rfl rfl rfl rfl) rfl rfl ?_)
  (refine wlk ?_)
  (first | (refine finR (.tmp rfl .nil) rfl rfl ?_) | (refine finN (.tmp rfl .nil) rfl rfl ?_))
  rfl
end Go.Proofs.Ytmanhdacnkpclaa
