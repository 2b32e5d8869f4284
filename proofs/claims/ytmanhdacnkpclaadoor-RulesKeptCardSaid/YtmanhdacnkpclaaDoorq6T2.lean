/- What functions do: texts of clauses; models of clauses. -/
import Derived.Test.YtmanhdacnkpclaaDoorq6T1
import Derived.Test.YtmanhdacnkpclaaDoorq6H3
namespace Go.Proofs.YtmanhdacnkpclaaDoor
set_option linter.all false
open Go.RowKit

def litText (l : Lt) : List UInt8 := (text l.left ++ (if l.neg then [33, 61] else [61])) ++ text l.right
def clText : List Lt → List UInt8
  | [] => [91, 93]
  | l :: c => c.foldl (fun s x => (s ++ [32, 124, 32]) ++ litText x) (litText l)
theorem clText_one {c : List Lt} {x : Lt} (h : c[0]? = some x) : clText (c.take 1) = litText x := by
  cases c with
  | nil => simp at h
  | cons l c => simp at h; subst h; rfl
theorem clText_more {c : List Lt} {k : Nat} {x : Lt} (hk : k ≠ 0) (h : c[k]? = some x) : clText (c.take (k + 1)) = (clText (c.take k) ++ [32, 124, 32]) ++ litText x := by
  cases c with
  | nil => simp at h
  | cons l c =>
    cases k with
    | zero => exact absurd rfl hk
    | succ j =>
      simp only [List.getElem?_cons_succ] at h
      simp only [List.take_succ_cons, clText]
      rw [take_succ_of h, List.foldl_append]; rfl
theorem litText_len {l : Lt} (h : l.left.size ≤ 12 ∧ l.right.size ≤ 12) : (litText l).length ≤ 98 := by
  have h1 := text_len l.left
  have h2 := text_len l.right
  unfold litText
  cases l.neg <;> simp <;> omega
set_option maxHeartbeats 4000000 in
set_option maxRecDepth 100000 in
theorem rclauseText {s : List Int} (hs : s.length ≤ 100) (c : List Lt) (hw : clWf s c) (hz : ∀ x ∈ c, x.left.size ≤ 12 ∧ x.right.size ≤ 12) (hl : c.length ≤ 1000) : FnD Tryd.prog 84 [lA Lt.d c] (.one (sA (clText c))) := by
  have hA : FewKeys := trivial
  refine Fn.of Tryd.func84 rfl Tryd.ntmps84 rfl (Nat.le_of_ble_eq_true rfl) ?_
  (refine wlk ?_)
  refine dwp_loop (fun k : Nat => [(.t 3, some (.one (sA (clText (c.take k))))), (.t 7, some (.one (lA Lt.d c))), (.t 8, some (.one (iA c.length))), (.t 9, some (.one (iA k)))])
    (fun k => k ≤ c.length ∧ (clText (c.take k)).length ≤ 2 + 101 * k) (fun k => c.length - k) 0 ⟨by omega, by simp [clText]⟩ fgs ?_
  rintro k ⟨hk, hkl⟩
  by_cases hlt : k < c.length
  · obtain ⟨⟨ng, xl, xr⟩, hx⟩ := get_of_lt hlt
    have hxw := hw _ (List.mem_of_getElem? hx)
    have hxz := hz _ (List.mem_of_getElem? hx)
    have hxl := litText_len hxz
    dsimp only at hxw hxz
    have g1 := rtext hs xl hxw.1 (by omega)
    have g2 := rtext hs xr hxw.2 (by omega)
    have l1 := text_len xl
    have l2 := text_len xr
    by_cases h0 : k = 0
    · subst h0
      have h1 := clText_one hx
      cases ng
      · have h2 : (text xl ++ [61]) ++ text xr = clText (c.take (0 + 1)) := h1.symm
        (refine wlk ?_)
        (refine SqA.b1 (op_call none rfl rfl rfl (by kernel_rfl) (FnD.use (g1)) rfl rfl rfl rfl rfl rfl) rfl rfl ?_)
        (refine wlk ?_)
        (refine SqA.b1 (op_call none rfl rfl rfl (by kernel_rfl) (FnD.use (g2)) rfl rfl rfl rfl rfl rfl) rfl rfl ?_)
        (refine wlk ?_)
        exact ⟨0 + 1, ⟨by omega, by rw [h1]; omega⟩, fgs, by omega⟩
      · have h2 : (text xl ++ [33, 61]) ++ text xr = clText (c.take (0 + 1)) := h1.symm
        (refine wlk ?_)
        (refine SqA.b1 (op_call none rfl rfl rfl (by kernel_rfl) (FnD.use (g1)) rfl rfl rfl rfl rfl rfl) rfl rfl ?_)
        (refine wlk ?_)
        (refine SqA.b1 (op_call none rfl rfl rfl (by kernel_rfl) (FnD.use (g2)) rfl rfl rfl rfl rfl rfl) rfl rfl ?_)
        (refine wlk ?_)
        exact ⟨0 + 1, ⟨by omega, by rw [h1]; omega⟩, fgs, by omega⟩
    · have h1 := clText_more h0 hx
      have h3 : (clText (c.take (k + 1))).length ≤ 2 + 101 * (k + 1) := by rw [h1]; simp; omega
      cases ng
      · have h2 : (clText (c.take k) ++ [32, 124, 32]) ++ ((text xl ++ [61]) ++ text xr) = clText (c.take (k + 1)) := h1.symm
        (refine wlk ?_)
        (refine SqA.b1 (op_call none rfl rfl rfl (by kernel_rfl) (FnD.use (g1)) rfl rfl rfl rfl rfl rfl) rfl rfl ?_)
        (refine wlk ?_)
        (refine SqA.b1 (op_call none rfl rfl rfl (by kernel_rfl) (FnD.use (g2)) rfl rfl rfl rfl rfl rfl) rfl rfl ?_)
        (refine wlk ?_)
        exact ⟨k + 1, ⟨by omega, h3⟩, fgs, by omega⟩
      · have h2 : (clText (c.take k) ++ [32, 124, 32]) ++ ((text xl ++ [33, 61]) ++ text xr) = clText (c.take (k + 1)) := h1.symm
        (refine wlk ?_)
        (refine SqA.b1 (op_call none rfl rfl rfl (by kernel_rfl) (FnD.use (g1)) rfl rfl rfl rfl rfl rfl) rfl rfl ?_)
        (refine wlk ?_)
        (refine SqA.b1 (op_call none rfl rfl rfl (by kernel_rfl) (FnD.use (g2)) rfl rfl rfl rfl rfl rfl) rfl rfl ?_)
        (refine wlk ?_)
        exact ⟨k + 1, ⟨by omega, h3⟩, fgs, by omega⟩
  · have : k = c.length := by omega
    subst this
    (refine wlk ?_)
    (first | (refine finR (.tmp rfl .nil) rfl rfl ?_) | (refine finN (.tmp rfl .nil) rfl rfl ?_))
    exact Xs (by rw [List.take_length])
set_option maxRecDepth 100000 in
theorem rmodels {S : List Int} {m : Md} (hm : MOk S m) (hs : wrongSig S = 0) (us : List (List Lt)) (hu : ∀ u ∈ us, clWf S u ∧ clSz u) (hl : us.length ≤ 1000) : FnD Tryd.prog 52 [mdA m, lA Cl.d us] (.one (bA (us.all (holds m)))) := by
  refine Fn.of Tryd.func52 rfl Tryd.ntmps52 rfl (Nat.le_of_ble_eq_true rfl) ?_
  (refine wlk ?_)
  refine dwp_loop (fun k : Nat => [(.t 2, some (.one (.c (.ptr 2 0)))), (.b 2, some (.box (mdA m).cells)), (.t 7, some (.one (lA Cl.d us))), (.t 8, some (.one (iA us.length))), (.t 9, some (.one (iA k)))])
    (fun k => k ≤ us.length ∧ ∀ j x, j < k → us[j]? = some x → holds m x = true) (fun k => us.length - k) 0 ⟨by omega, fun j x h => absurd h (by omega)⟩ fgs ?_
  rintro k ⟨hk, hno⟩
  by_cases hkl : k < us.length
  · obtain ⟨x, hx⟩ := get_of_lt hkl
    have hxu := hu x (List.mem_of_getElem? hx)
    have hc := rholds hm hs x hxu.1 hxu.2
    cases e : holds m x
    · rw [e] at hc
      (refine wlk ?_)
      (refine SqA.b1 (op_call none rfl rfl rfl (by kernel_rfl) (FnD.use (hc)) rfl rfl rfl rfl rfl rfl) rfl rfl ?_)
      (refine wlk ?_)
      (first | (refine finR (.tmp rfl .nil) rfl rfl ?_) | (refine finN (.tmp rfl .nil) rfl rfl ?_))
      exact Xb (b := false) (List.all_eq_false.2 ⟨x, List.mem_of_getElem? hx, by rw [e]; simp⟩).symm
    · rw [e] at hc
      (refine wlk ?_)
      (refine SqA.b1 (op_call none rfl rfl rfl (by kernel_rfl) (FnD.use (hc)) rfl rfl rfl rfl rfl rfl) rfl rfl ?_)
      (refine wlk ?_)
      exact ⟨k + 1, ⟨by omega, upto_succ hno hx e⟩, fgs, by omega⟩
  · have : k = us.length := by omega
    subst this
    (refine wlk ?_)
    (first | (refine finR (.tmp rfl .nil) rfl rfl ?_) | (refine finN (.tmp rfl .nil) rfl rfl ?_))
    exact Xb (b := true) (List.all_eq_true.2 fun x hx => any_upto hno x hx).symm
end Go.Proofs.YtmanhdacnkpclaaDoor
