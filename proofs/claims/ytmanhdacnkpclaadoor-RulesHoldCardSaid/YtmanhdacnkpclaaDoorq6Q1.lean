/- What functions do: units; right clauses; one step down. -/
import Derived.Test.YtmanhdacnkpclaaDoorq6Nh
import Derived.Test.YtmanhdacnkpclaaDoorq6Pv
import Derived.Test.YtmanhdacnkpclaaDoorq6E2
namespace Go.Proofs.YtmanhdacnkpclaaDoor
set_option linter.all false
open Go.RowKit

def rightC (s : List Int) (l : List (List Lt)) : Bool := decide (wrongSig s = 0) && (decide (l.length ≤ 8) && l.all fun c => decide (wrongCl s c = 0))
theorem right_of {s : List Int} {l : List (List Lt)} (h : rightC s l = true) : wrongSig s = 0 ∧ l.length ≤ 8 ∧ ∀ c ∈ l, COk s c := by
  simp only [rightC, Bool.and_eq_true, decide_eq_true_eq, List.all_eq_true] at h
  exact ⟨h.1, h.2.1, fun c hc => cok_of h.1 (h.2.2 c hc)⟩
set_option maxRecDepth 100000 in
theorem rright (s : List Int) (l : List (List Lt)) : FnD Tryd.prog 47 [lA Int.d s, lA Cl.d l] (.one (bA (rightC s l))) := by
  refine Fn.of Tryd.func47 rfl Tryd.ntmps47 rfl (Nat.le_of_ble_eq_true rfl) ?_
  have hs := rwrongSig s
  by_cases h0 : wrongSig s = 0
  rotate_left
  · (refine wlk ?_)
    (refine SqA.b1 (op_call none rfl rfl rfl (by kernel_rfl) (FnD.use (hs)) rfl rfl rfl rfl rfl rfl) rfl rfl ?_)
    (refine wlk ?_)
    (first | (refine finR (.tmp rfl .nil) rfl rfl ?_) | (refine finN (.tmp rfl .nil) rfl rfl ?_))
    exact Xb (b := false) (by simp [rightC, h0])
  by_cases h8 : l.length ≤ 8
  rotate_left
  · (refine wlk ?_)
    (refine SqA.b1 (op_call none rfl rfl rfl (by kernel_rfl) (FnD.use (hs)) rfl rfl rfl rfl rfl rfl) rfl rfl ?_)
    (refine wlk ?_)
    (first | (refine finR (.tmp rfl .nil) rfl rfl ?_) | (refine finN (.tmp rfl .nil) rfl rfl ?_))
    exact Xb (b := false) (by simp [rightC, h8])
  (refine wlk ?_)
  (refine SqA.b1 (op_call none rfl rfl rfl (by kernel_rfl) (FnD.use (hs)) rfl rfl rfl rfl rfl rfl) rfl rfl ?_)
  (refine wlk ?_)
  refine dwp_loop (fun k : Nat => [(.t 0, some (.one (lA Int.d s))), (.t 15, some (.one (lA Cl.d l))), (.t 16, some (.one (iA l.length))), (.t 17, some (.one (iA k)))])
    (fun k => k ≤ l.length ∧ ∀ j x, j < k → l[j]? = some x → wrongCl s x = 0) (fun k => l.length - k) 0 ⟨by omega, fun j x h => absurd h (by omega)⟩ fgs ?_
  rintro k ⟨hk, hno⟩
  by_cases hkl : k < l.length
  · obtain ⟨x, hx⟩ := get_of_lt hkl
    have hc := rwrongCl s x
    by_cases e : wrongCl s x = 0
    · (refine wlk ?_)
      (refine SqA.b1 (op_call none rfl rfl rfl (by kernel_rfl) (FnD.use (hc)) rfl rfl rfl rfl rfl rfl) rfl rfl ?_)
      (refine wlk ?_)
      exact ⟨k + 1, ⟨by omega, upto_succ hno hx e⟩, fgs, by omega⟩
    · (refine wlk ?_)
      (refine SqA.b1 (op_call none rfl rfl rfl (by kernel_rfl) (FnD.use (hc)) rfl rfl rfl rfl rfl rfl) rfl rfl ?_)
      (refine wlk ?_)
      (first | (refine finR (.tmp rfl .nil) rfl rfl ?_) | (refine finN (.tmp rfl .nil) rfl rfl ?_))
      exact Xb (b := false) (by
        have : (l.all fun c => decide (wrongCl s c = 0)) = false := List.all_eq_false.2 ⟨x, List.mem_of_getElem? hx, by simp [e]⟩
        simp [rightC, this])
  · have : k = l.length := by omega
    subst this
    (refine wlk ?_)
    (first | (refine finR (.tmp rfl .nil) rfl rfl ?_) | (refine finN (.tmp rfl .nil) rfl rfl ?_))
    exact Xb (b := true) (by
      have : (l.all fun c => decide (wrongCl s c = 0)) = true := List.all_eq_true.2 fun x hx => decide_eq_true (any_upto hno x hx)
      simp [rightC, h0, h8, this])

/-! ## one step down -/
section
variable {n : Nat} {o : Oper} {σ : St}
theorem op_idx2B {d j q k : Nat} {s i : Operand} {kk : IntKind} {zi : Int} (hd : o.dst = some d) (ho : o.op = .indexAddr 92 s i) (hs : St.ev σ s = some (.one (.c (.ptr j q)))) (hi : St.ev σ i = some (.one (.c (.val (.int kk zi))))) (hz : zi = (k : Int)) (hk : k < 2) :
    Op1 Tryd.prog n o ⟨(opKey s ++ opKey i) ++ (X.one (.c (.ptr j (q + k * 3)))).ids.map Key.b, [.t d], []⟩ σ [(.t d, some (.one (.c (.ptr j (q + k * 3)))))] := op_idxB hd ho ar2 ar2E hs hi hz hk (by omega)
end
end Go.Proofs.YtmanhdacnkpclaaDoor
