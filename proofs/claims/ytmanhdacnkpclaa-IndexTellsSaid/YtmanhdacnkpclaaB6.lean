/- What functions do: what is found; places. -/
import Derived.Test.YtmanhdacnkpclaaB4
import Derived.Test.YtmanhdacnkpclaaB5
import Derived.Test.YtmanhdacnkpclaaPl3
namespace Go.Proofs.Ytmanhdacnkpclaa
set_option linter.unusedVariables false
set_option linter.unusedSimpArgs false
open Go.RowKit

set_option maxRecDepth 100000 in
theorem rsameInts (a b : List Int) : FnD Try.prog 35 [lA Int.d a, lA Int.d b] (.one (bA (decide (a = b)))) := by
  refine Fn.of Try.func35 rfl Try.ntmps35 rfl (Nat.le_of_ble_eq_true rfl) ?_
  refine dwp_len (t := 0) rfl fun hl => ?_
  simp only [List.length_map] at hl
  by_cases h3 : a.length = b.length
  rotate_left
  · (refine wlk ?_)
    (first | (refine finR (.tmp rfl .nil) rfl rfl ?_) | (refine finN (.tmp rfl .nil) rfl rfl ?_))
    exact Xb (b := false) (decide_eq_false (fun e => h3 (by rw [e]))).symm
  (refine wlk ?_)
  refine dwp_loop (fun k : Nat => [(.t 0, some (.one (lA Int.d a))), (.t 1, some (.one (lA Int.d b))), (.t 12, some (.one (iA a.length))), (.t 13, some (.one (iA k)))])
    (fun k => k ≤ a.length ∧ a.take k = b.take k) (fun k => a.length - k) 0 ⟨by omega, rfl⟩ fgs ?_
  rintro k ⟨hk, htk⟩
  by_cases hkl : k < a.length
  · obtain ⟨x, hx⟩ := get_of_lt hkl
    obtain ⟨y, hy⟩ := get_of_lt (s := b) (k := k) (by omega)
    by_cases hxy : x = y
    · (refine wlk ?_)
      exact ⟨k + 1, ⟨by omega, by rw [take_succ_of hx, take_succ_of hy, htk, hxy]⟩, fgs, by omega⟩
    · (refine wlk ?_)
      (first | (refine finR (.tmp rfl .nil) rfl rfl ?_) | (refine finN (.tmp rfl .nil) rfl rfl ?_))
      exact Xb (b := false) (decide_eq_false (fun e => hxy (by rw [e, hy] at hx; injection hx with e; exact e.symm))).symm
  · have : k = a.length := by omega
    subst this
    (refine wlk ?_)
    (first | (refine finR (.tmp rfl .nil) rfl rfl ?_) | (refine finN (.tmp rfl .nil) rfl rfl ?_))
    exact Xb (b := true) (decide_eq_true (by rw [List.take_length, h3, List.take_length] at htk; exact htk)).symm

set_option maxRecDepth 100000 in
theorem pfind (l : List Tm) (t : Tm) (hlen : l.length ≤ 4000000000000) : FnD Try.prog 36 [lA Tm.d l, tA t] (.one (lA Int.d (finds t 0 l))) := by
  refine Fn.of Try.func36 rfl Try.ntmps36 rfl (Nat.le_of_ble_eq_true rfl) ?_
  (refine wlk ?_)
  (refine SqA.b1 (op_call none rfl rfl rfl (by kernel_rfl) (FnD.use (pkey t)) rfl rfl rfl rfl rfl rfl) rfl rfl ?_)
  (refine wlk ?_)
  refine dwp_loop (fun k : Nat => [(.t 3, some (.one (.c (.ptr 3 0)))), (.b 3, some (.box (tA t).cells)), (.t 5, some (.one (.c (.own 3 1 ((finds t 0 (l.take k)).map Int.d))))), (.t 6, some (.one (.c (.ptr 6 0)))), (.b 6, some (.box (i3 (mark t []) (mark t [0]) (mark t [1])).cells)),
    (.t 11, some (.one (lA Tm.d l))), (.t 12, some (.one (iA l.length))), (.t 13, some (.one (iA k)))])
    (fun k => k ≤ l.length) (fun k => l.length - k) 0 (by omega) ((Wk.nilOwn (d := 5) (E := 3) (m := 1) rfl).trans fgs) ?_
  intro k hk
  by_cases hkl : k < l.length
  · obtain ⟨x, hx⟩ := get_of_lt hkl
    have hfl := finds_len t (l.take (k + 1)) 0
    simp only [List.length_take] at hfl
    have hsn := finds_snoc t hx
    have hc : FnD Try.prog 31 [i3 (mark x []) (mark x [0]) (mark x [1]), i3 (mark t []) (mark t [0]) (mark t [1])] (.one (bA (mayK x t))) := pmayU _ _ _ _ _ _
    cases hm : mayK x t
    · rw [hm] at hc
      rw [hm] at hsn
      simp only [Bool.false_eq_true, if_false, List.append_nil] at hsn
      (refine wlk ?_)
      (refine SqA.b1 (op_call none rfl rfl rfl (by kernel_rfl) (FnD.use (pkey x)) rfl rfl rfl rfl rfl rfl) rfl rfl ?_)
      (refine wlk ?_)
      (refine SqA.b1 (op_call none rfl rfl rfl (by kernel_rfl) (FnD.use (hc)) rfl rfl rfl rfl rfl rfl) rfl rfl ?_)
      (refine wlk ?_)
      refine ⟨k + 1, by omega, ?_, by omega⟩
      rw [hsn]
      exact fgs
    · rw [hm] at hc
      rw [hm, if_pos rfl] at hsn
      have hsn' := hsn.symm
      (refine wlk ?_)
      (refine SqA.b1 (op_call none rfl rfl rfl (by kernel_rfl) (FnD.use (pkey x)) rfl rfl rfl rfl rfl rfl) rfl rfl ?_)
      (refine wlk ?_)
      (refine SqA.b1 (op_call none rfl rfl rfl (by kernel_rfl) (FnD.use (hc)) rfl rfl rfl rfl rfl rfl) rfl rfl ?_)
      (refine wlk ?_)
      (refine SqA.b1 (op_bsT (T := TB) (f := Int.d) [(k : Int)] rfl rfl rfl rfl rfl rfl rfl rfl rfl rfl rfl) rfl rfl ?_)
      (refine wlk ?_)
      exact ⟨k + 1, by omega, fgs, by omega⟩
  · have : k = l.length := by omega
    subst this
    rw [List.take_length]
    refine dwp_wk (Wk.freezeAt (d := 5) rfl) ?_
    (refine wlk ?_)
    (first | (refine finR (.tmp rfl .nil) rfl rfl ?_) | (refine finN (.tmp rfl .nil) rfl rfl ?_))
    exact Xl (f := Int.d) (b := finds t 0 l) rfl
end Go.Proofs.Ytmanhdacnkpclaa
