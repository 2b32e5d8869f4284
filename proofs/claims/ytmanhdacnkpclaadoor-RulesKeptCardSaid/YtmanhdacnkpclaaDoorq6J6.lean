/- What functions do: Resolve, of the program and of the document's answer. -/
import Derived.Test.YtmanhdacnkpclaaDoorq6J1
import Derived.Test.YtmanhdacnkpclaaDoorq6J3
import Derived.Test.YtmanhdacnkpclaaDoorq6H3
import Derived.Test.YtmanhdacnkpclaaDoorq6J5
import Derived.Test.YtmanhdacnkpclaaDoorq6JP
import Derived.Test.YtmanhdacnkpclaaDoorq6E2
import Derived.Test.YtmanhdacnkpclaaDoorq6Q2
import Derived.Test.YtmanhdacnkpclaaDoorq6Q1
namespace Go.Proofs.YtmanhdacnkpclaaDoor
set_option linter.all false
open Go.RowKit

set_option maxHeartbeats 4000000 in
set_option maxRecDepth 100000 in
theorem presolve {S : List Int} {c : List Lt} (h : CG S c) : FnD Tryd.prog 58 [lA Lt.d c] (.tup [lA Cl.d (resolve c).1, bA (resolve c).2]) := by
  have hl4 := h.len
  refine Fn.of Tryd.func58 rfl Tryd.ntmps58 rfl (Nat.le_of_ble_eq_true rfl) ?_
  (refine wlk ?_)
  refine dwp_loop (fun x : Nat × Mk => [(.t 0, some (.one (lA Lt.d c))), (.t 4, some (.one (.c (.ptr 10 0)))), (.b 10, some (.box (mkBox x.2))), (.t 11, some (.one (lA Lt.d c))), (.t 12, some (.one (iA c.length))), (.t 13, some (.one (iA x.1)))])
    (fun x => x.1 ≤ c.length ∧ x.2 = (List.range x.1).foldl (resolve1 c) ([], false)) (fun x => c.length - x.1) (0, [], false) ⟨by simp, rfl⟩ ((Wk.nilOwnB (j := 10) (q := 0) (E := 59) (m := 1) rfl rfl rfl).trans fgs) ?_
  rintro ⟨k, m⟩ ⟨hk, hm⟩
  dsimp only at hk hm ⊢
  by_cases hkl : k < c.length
  · obtain ⟨x, hx⟩ := get_of_lt hkl
    have ho := h.old hx
    have hml := resolve_len c k
    have hnext := range_fold (resolve1 c) ([], false) k
    rw [← hm] at hml hnext
    have hu := bunify ho.1.1 ho.2.1
    cases hs : unify x.left x.right with
    | none =>
      rw [hs] at hu
      have e : resolve1 c m k = m := by unfold resolve1; rw [hx]; simp [hs]
      rw [e] at hnext
      (refine wlk ?_)
      (refine SqA.b1 (op_call none rfl rfl rfl (by kernel_rfl) (FnD.use (hu)) rfl rfl rfl rfl rfl rfl) rfl rfl ?_)
      (refine wlk ?_)
      exact ⟨(k + 1, m), ⟨by simp only; omega, hnext.symm⟩, fgs, by simp only; omega⟩
    | some s =>
      rw [hs] at hu
      cases hn : x.neg
      · have e : resolve1 c m k = m := by unfold resolve1; rw [hx]; simp [hn]
        rw [e] at hnext
        (refine wlk ?_)
        (refine SqA.b1 (op_call none rfl rfl rfl (by kernel_rfl) (FnD.use (hu)) rfl rfl rfl rfl rfl rfl) rfl rfl ?_)
        (refine wlk ?_)
        exact ⟨(k + 1, m), ⟨by simp only; omega, hnext.symm⟩, fgs, by simp only; omega⟩
      · have e : resolve1 c m k = addR m s (c.eraseIdx k) := by unfold resolve1; rw [hx]; simp [hn, hs]
        rw [e] at hnext
        have hok := h.resolve hx hs
        (refine wlk ?_)
        (refine SqA.b1 (op_call none rfl rfl rfl (by kernel_rfl) (FnD.use (hu)) rfl rfl rfl rfl rfl rfl) rfl rfl ?_)
        (refine wlk ?_)
        (refine SqA.b1 (op_call none rfl rfl rfl (by kernel_rfl) (FnD.use (pwithout c k hkl (by omega))) rfl rfl rfl rfl rfl rfl) rfl rfl ?_)
        (refine SqA.b3 (Op1.frzIn (t := 35) rfl (op_call (some (10)) rfl rfl rfl (by kernel_rfl) (FnB.use (padd m s (c.eraseIdx k) hok.sz hok.len hok.okv hok.few hok.sz2 (by omega))) rfl rfl rfl rfl rfl rfl)) rfl rfl ?_)
        (refine wlk ?_)
        exact ⟨(k + 1, addR m s (c.eraseIdx k)), ⟨by simp only; omega, hnext.symm⟩, fgs, by simp only; omega⟩
  · have hkc : k = c.length := by omega
    subst hkc
    refine dwp_wk (Wk.freezeB (j := 10) (q := 0) rfl rfl rfl) ?_
    (refine wlk ?_)
    (first | (refine finR (.tmp rfl (.tmp rfl .nil)) rfl rfl ?_) | (refine finN (.tmp rfl (.tmp rfl .nil)) rfl rfl ?_))
    rw [hm]
    rfl
end Go.Proofs.YtmanhdacnkpclaaDoor
