/- What functions do: WrongSig, walk, Wrong. -/
import Derived.Test.YtmanhdacnkpclaaB2
namespace Go.Proofs.Ytmanhdacnkpclaa
set_option linter.unusedVariables false
set_option linter.unusedSimpArgs false
open Go.RowKit

set_option maxRecDepth 100000 in
theorem rwrongSig (s : List Int) : FnD Try.prog 26 [lA Int.d s] (.one (iA (wrongSig s))) := by
  refine Fn.of Try.func26 rfl Try.ntmps26 rfl (Nat.le_of_ble_eq_true rfl) ?_
  refine dwp_len (t := 0) rfl fun hl => ?_
  simp only [List.length_map] at hl
  by_cases h0 : s.length = 0
  · (refine wlk ?_)
    (first | (refine finR (.tmp rfl .nil) rfl rfl ?_) | (refine finN (.tmp rfl .nil) rfl rfl ?_))
    exact Xi (b := 5) (by simp [wrongSig, h0])
  by_cases h6 : 6 < s.length
  · (refine wlk ?_)
    (first | (refine finR (.tmp rfl .nil) rfl rfl ?_) | (refine finN (.tmp rfl .nil) rfl rfl ?_))
    exact Xi (b := 5) (by simp [wrongSig, h6])
  (refine wlk ?_)
  refine dwp_loop (fun k : Nat => [(.t 13, some (.one (lA Int.d s))), (.t 14, some (.one (iA s.length))), (.t 15, some (.one (iA k)))])
    (fun k => k ≤ s.length ∧ ∀ j x, j < k → s[j]? = some x → ¬ (x < 0 ∨ 2 < x)) (fun k => s.length - k) 0 ⟨by omega, fun j x h => absurd h (by omega)⟩ fgs ?_
  rintro k ⟨hk, hno⟩
  by_cases hkl : k < s.length
  · obtain ⟨x, hx⟩ := get_of_lt hkl
    have hyes : (x < 0 ∨ 2 < x) → wrongSig s = 3 := fun h => by
      have : s.any (fun n => decide (n < 0 ∨ 2 < n)) = true := List.any_eq_true.2 ⟨x, List.mem_of_getElem? hx, by simpa using h⟩
      simp only [wrongSig, h0, h6, or_self, if_false, this, if_true]
    by_cases hx0 : x < 0
    · (refine wlk ?_)
      (first | (refine finR (.tmp rfl .nil) rfl rfl ?_) | (refine finN (.tmp rfl .nil) rfl rfl ?_))
      exact Xi (b := 3) (hyes (.inl hx0)).symm
    by_cases hx2 : 2 < x
    · (refine wlk ?_)
      (first | (refine finR (.tmp rfl .nil) rfl rfl ?_) | (refine finN (.tmp rfl .nil) rfl rfl ?_))
      exact Xi (b := 3) (hyes (.inr hx2)).symm
    (refine wlk ?_)
    exact ⟨k + 1, ⟨by omega, upto_succ hno hx (by omega)⟩, fgs, by omega⟩
  · (refine wlk ?_)
    (first | (refine finR (.tmp rfl .nil) rfl rfl ?_) | (refine finN (.tmp rfl .nil) rfl rfl ?_))
    refine Xi (b := 0) ?_
    have : s.any (fun n => decide (n < 0 ∨ 2 < n)) = false := by
      rw [List.any_eq_false]
      intro x hx
      obtain ⟨j, hj, rfl⟩ := List.getElem_of_mem hx
      have := hno j _ (by omega) (List.getElem?_eq_getElem hj)
      simpa using this
    simp only [wrongSig, h0, h6, or_self, if_false, this]
    rfl
set_option maxRecDepth 100000 in
theorem pwrongSig (s : List Int) : FnD Try.prog 119 [lA Int.d s] (.one (iA (wrongSig s))) := by
  refine Fn.of Try.func119 rfl Try.ntmps119 rfl (Nat.le_of_ble_eq_true rfl) ?_
  refine dwp_len (t := 0) rfl fun hl => ?_
  simp only [List.length_map] at hl
  by_cases h0 : s.length = 0
  · (refine wlk ?_)
    (first | (refine finR (.tmp rfl .nil) rfl rfl ?_) | (refine finN (.tmp rfl .nil) rfl rfl ?_))
    exact Xi (b := 5) (by simp [wrongSig, h0])
  by_cases h6 : 6 < s.length
  · (refine wlk ?_)
    (first | (refine finR (.tmp rfl .nil) rfl rfl ?_) | (refine finN (.tmp rfl .nil) rfl rfl ?_))
    exact Xi (b := 5) (by simp [wrongSig, h6])
  (refine wlk ?_)
  refine dwp_loop (fun k : Nat => [(.t 13, some (.one (lA Int.d s))), (.t 14, some (.one (iA s.length))), (.t 15, some (.one (iA k)))])
    (fun k => k ≤ s.length ∧ ∀ j x, j < k → s[j]? = some x → ¬ (x < 0 ∨ 2 < x)) (fun k => s.length - k) 0 ⟨by omega, fun j x h => absurd h (by omega)⟩ fgs ?_
  rintro k ⟨hk, hno⟩
  by_cases hkl : k < s.length
  · obtain ⟨x, hx⟩ := get_of_lt hkl
    have hyes : (x < 0 ∨ 2 < x) → wrongSig s = 3 := fun h => by
      have : s.any (fun n => decide (n < 0 ∨ 2 < n)) = true := List.any_eq_true.2 ⟨x, List.mem_of_getElem? hx, by simpa using h⟩
      simp only [wrongSig, h0, h6, or_self, if_false, this, if_true]
    by_cases hx0 : x < 0
    · (refine wlk ?_)
      (first | (refine finR (.tmp rfl .nil) rfl rfl ?_) | (refine finN (.tmp rfl .nil) rfl rfl ?_))
      exact Xi (b := 3) (hyes (.inl hx0)).symm
    by_cases hx2 : 2 < x
    · (refine wlk ?_)
      (first | (refine finR (.tmp rfl .nil) rfl rfl ?_) | (refine finN (.tmp rfl .nil) rfl rfl ?_))
      exact Xi (b := 3) (hyes (.inr hx2)).symm
    (refine wlk ?_)
    exact ⟨k + 1, ⟨by omega, upto_succ hno hx (by omega)⟩, fgs, by omega⟩
  · (refine wlk ?_)
    (first | (refine finR (.tmp rfl .nil) rfl rfl ?_) | (refine finN (.tmp rfl .nil) rfl rfl ?_))
    refine Xi (b := 0) ?_
    have : s.any (fun n => decide (n < 0 ∨ 2 < n)) = false := by
      rw [List.any_eq_false]
      intro x hx
      obtain ⟨j, hj, rfl⟩ := List.getElem_of_mem hx
      have := hno j _ (by omega) (List.getElem?_eq_getElem hj)
      simpa using this
    simp only [wrongSig, h0, h6, or_self, if_false, this]
    rfl

set_option maxRecDepth 100000 in
theorem rwalk (s : List Int) : ∀ (t : Tm) (d : Int), 0 ≤ d → d ≤ 1000 → FnD Try.prog 86 [lA Int.d s, tA t, iA d] (.one (iA (walk s t d))) := by
  refine Tm.ind ?_
  intro v n l ih d hd0 hd1
  refine Fn.of Try.func86 rfl Try.ntmps86 rfl (Nat.le_of_ble_eq_true rfl) ?_
  refine dwp_len (t := 0) rfl fun hsl => ?_
  refine dwp_lenA (t := 1) (q := 2) rfl rfl fun hl => ?_
  simp only [List.length_map] at hl hsl
  by_cases h12 : 12 < d
  · (refine wlk ?_)
    (first | (refine finR (.tmp rfl .nil) rfl rfl ?_) | (refine finN (.tmp rfl .nil) rfl rfl ?_))
    exact Xi (b := 4) (by simp [walk, h12])
  cases v
  case true =>
    by_cases hn0 : n < 0
    · (refine wlk ?_)
      (first | (refine finR (.tmp rfl .nil) rfl rfl ?_) | (refine finN (.tmp rfl .nil) rfl rfl ?_))
      exact Xi (b := 3) (by simp [walk, h12, hn0])
    by_cases hn4 : 4 < n
    · (refine wlk ?_)
      (first | (refine finR (.tmp rfl .nil) rfl rfl ?_) | (refine finN (.tmp rfl .nil) rfl rfl ?_))
      exact Xi (b := 3) (by simp [walk, h12, hn4])
    by_cases hl0 : l.length = 0
    · (refine wlk ?_)
      (first | (refine finR (.tmp rfl .nil) rfl rfl ?_) | (refine finN (.tmp rfl .nil) rfl rfl ?_))
      exact Xi (b := 0) (by simp [walk, h12, hn0, hn4, hl0])
    · (refine wlk ?_)
      (first | (refine finR (.tmp rfl .nil) rfl rfl ?_) | (refine finN (.tmp rfl .nil) rfl rfl ?_))
      exact Xi (b := 5) (by simp [walk, h12, hn0, hn4, hl0])
  by_cases hn0 : n < 0
  · (refine wlk ?_)
    (first | (refine finR (.tmp rfl .nil) rfl rfl ?_) | (refine finN (.tmp rfl .nil) rfl rfl ?_))
    exact Xi (b := 7) (by simp [walk, h12, hn0])
  by_cases hns : (s.length : Int) ≤ n
  · (refine wlk ?_)
    (first | (refine finR (.tmp rfl .nil) rfl rfl ?_) | (refine finN (.tmp rfl .nil) rfl rfl ?_))
    exact Xi (b := 7) (by simp [walk, h12, hns])
  obtain ⟨m, rfl⟩ := Int.eq_ofNat_of_zero_le (a := n) (by omega)
  obtain ⟨y, hy⟩ := get_of_lt (s := s) (k := m) (by omega)
  have hget : s.getD m 0 = y := by simp [List.getD, hy]
  have hw : walk s ⟨false, m, l⟩ d = if (l.length : Int) = y then walks s l (d + 1) else 5 := by
    simp only [walk, if_neg h12, if_neg (show ¬ (false = true) by simp), if_neg (show ¬ ((m : Int) < 0 ∨ (s.length : Int) ≤ m) by omega), Int.toNat_natCast, hget]
  by_cases hly : (l.length : Int) = y
  rotate_left
  · (refine wlk ?_)
    (first | (refine finR (.tmp rfl .nil) rfl rfl ?_) | (refine finN (.tmp rfl .nil) rfl rfl ?_))
    exact Xi (b := 5) (by rw [hw, if_neg hly])
  (refine wlk ?_)
  refine dwp_loop (fun k : Nat => [(.t 0, some (.one (lA Int.d s))), (.t 2, some (.one (iA d))), (.t 46, some (.one (lA Tm.d l))), (.t 47, some (.one (iA l.length))), (.t 48, some (.one (iA k)))])
    (fun k => k ≤ l.length ∧ walks s (l.take k) (d + 1) = 0) (fun k => l.length - k) 0 ⟨by omega, rfl⟩ fgs ?_
  rintro k ⟨hk, hw0⟩
  by_cases hkl : k < l.length
  · obtain ⟨x, hx⟩ := get_of_lt hkl
    by_cases hwx : walk s x (d + 1) = 0
    · (refine wlk ?_)
      (refine SqA.b1 (op_call none rfl rfl rfl (by kernel_rfl) (FnD.use (ih x (List.mem_of_getElem? hx) (d + 1) (by omega) (by omega))) rfl rfl rfl rfl rfl rfl) rfl rfl ?_)
      (refine wlk ?_)
      exact ⟨k + 1, ⟨by omega, walks_succ hw0 hx hwx⟩, fgs, by omega⟩
    · (refine wlk ?_)
      (refine SqA.b1 (op_call none rfl rfl rfl (by kernel_rfl) (FnD.use (ih x (List.mem_of_getElem? hx) (d + 1) (by omega) (by omega))) rfl rfl rfl rfl rfl rfl) rfl rfl ?_)
      (refine wlk ?_)
      (first | (refine finR (.tmp rfl .nil) rfl rfl ?_) | (refine finN (.tmp rfl .nil) rfl rfl ?_))
      exact Xi (b := walk s x (d + 1)) (by rw [hw, if_pos hly, walks_no hw0 hx hwx])
  · have : k = l.length := by omega
    subst this
    rw [List.take_length] at hw0
    (refine wlk ?_)
    (first | (refine finR (.tmp rfl .nil) rfl rfl ?_) | (refine finN (.tmp rfl .nil) rfl rfl ?_))
    exact Xi (b := 0) (by rw [hw, if_pos hly, hw0])
set_option maxRecDepth 100000 in
theorem pform (s : List Int) : ∀ (t : Tm) (d : Int), 0 ≤ d → d ≤ 1000 → FnD Try.prog 163 [lA Int.d s, tA t, iA d] (.one (iA (walk s t d))) := by
  refine Tm.ind ?_
  intro v n l ih d hd0 hd1
  refine Fn.of Try.func163 rfl Try.ntmps163 rfl (Nat.le_of_ble_eq_true rfl) ?_
  refine dwp_len (t := 0) rfl fun hsl => ?_
  refine dwp_lenA (t := 1) (q := 2) rfl rfl fun hl => ?_
  simp only [List.length_map] at hl hsl
  by_cases h12 : 12 < d
  · (refine wlk ?_)
    (first | (refine finR (.tmp rfl .nil) rfl rfl ?_) | (refine finN (.tmp rfl .nil) rfl rfl ?_))
    exact Xi (b := 4) (by simp [walk, h12])
  cases v
  case true =>
    by_cases hn0 : n < 0
    · (refine wlk ?_)
      (first | (refine finR (.tmp rfl .nil) rfl rfl ?_) | (refine finN (.tmp rfl .nil) rfl rfl ?_))
      exact Xi (b := 3) (by simp [walk, h12, hn0])
    by_cases hn4 : 4 < n
    · (refine wlk ?_)
      (first | (refine finR (.tmp rfl .nil) rfl rfl ?_) | (refine finN (.tmp rfl .nil) rfl rfl ?_))
      exact Xi (b := 3) (by simp [walk, h12, hn4])
    by_cases hl0 : l.length = 0
    · (refine wlk ?_)
      (first | (refine finR (.tmp rfl .nil) rfl rfl ?_) | (refine finN (.tmp rfl .nil) rfl rfl ?_))
      exact Xi (b := 0) (by simp [walk, h12, hn0, hn4, hl0])
    · (refine wlk ?_)
      (first | (refine finR (.tmp rfl .nil) rfl rfl ?_) | (refine finN (.tmp rfl .nil) rfl rfl ?_))
      exact Xi (b := 5) (by simp [walk, h12, hn0, hn4, hl0])
  by_cases hn0 : n < 0
  · (refine wlk ?_)
    (first | (refine finR (.tmp rfl .nil) rfl rfl ?_) | (refine finN (.tmp rfl .nil) rfl rfl ?_))
    exact Xi (b := 7) (by simp [walk, h12, hn0])
  by_cases hns : (s.length : Int) ≤ n
  · (refine wlk ?_)
    (first | (refine finR (.tmp rfl .nil) rfl rfl ?_) | (refine finN (.tmp rfl .nil) rfl rfl ?_))
    exact Xi (b := 7) (by simp [walk, h12, hns])
  obtain ⟨m, rfl⟩ := Int.eq_ofNat_of_zero_le (a := n) (by omega)
  obtain ⟨y, hy⟩ := get_of_lt (s := s) (k := m) (by omega)
  have hget : s.getD m 0 = y := by simp [List.getD, hy]
  have hw : walk s ⟨false, m, l⟩ d = if (l.length : Int) = y then walks s l (d + 1) else 5 := by
    simp only [walk, if_neg h12, if_neg (show ¬ (false = true) by simp), if_neg (show ¬ ((m : Int) < 0 ∨ (s.length : Int) ≤ m) by omega), Int.toNat_natCast, hget]
  by_cases hly : (l.length : Int) = y
  rotate_left
  · (refine wlk ?_)
    (first | (refine finR (.tmp rfl .nil) rfl rfl ?_) | (refine finN (.tmp rfl .nil) rfl rfl ?_))
    exact Xi (b := 5) (by rw [hw, if_neg hly])
  (refine wlk ?_)
  refine dwp_loop (fun k : Nat => [(.t 0, some (.one (lA Int.d s))), (.t 2, some (.one (iA d))), (.t 60, some (.one (lA Tm.d l))), (.t 61, some (.one (iA l.length))), (.t 62, some (.one (iA k)))])
    (fun k => k ≤ l.length ∧ walks s (l.take k) (d + 1) = 0) (fun k => l.length - k) 0 ⟨by omega, rfl⟩ fgs ?_
  rintro k ⟨hk, hw0⟩
  by_cases hkl : k < l.length
  · obtain ⟨x, hx⟩ := get_of_lt hkl
    by_cases hwx : walk s x (d + 1) = 0
    · (refine wlk ?_)
      (refine SqA.b1 (op_call none rfl rfl rfl (by kernel_rfl) (FnD.use (ih x (List.mem_of_getElem? hx) (d + 1) (by omega) (by omega))) rfl rfl rfl rfl rfl rfl) rfl rfl ?_)
      (refine wlk ?_)
      exact ⟨k + 1, ⟨by omega, walks_succ hw0 hx hwx⟩, fgs, by omega⟩
    · (refine wlk ?_)
      (refine SqA.b1 (op_call none rfl rfl rfl (by kernel_rfl) (FnD.use (ih x (List.mem_of_getElem? hx) (d + 1) (by omega) (by omega))) rfl rfl rfl rfl rfl rfl) rfl rfl ?_)
      (refine wlk ?_)
      (first | (refine finR (.tmp rfl .nil) rfl rfl ?_) | (refine finN (.tmp rfl .nil) rfl rfl ?_))
      exact Xi (b := walk s x (d + 1)) (by rw [hw, if_pos hly, walks_no hw0 hx hwx])
  · have : k = l.length := by omega
    subst this
    rw [List.take_length] at hw0
    (refine wlk ?_)
    (first | (refine finR (.tmp rfl .nil) rfl rfl ?_) | (refine finN (.tmp rfl .nil) rfl rfl ?_))
    exact Xi (b := 0) (by rw [hw, if_pos hly, hw0])

set_option maxRecDepth 100000 in
theorem rwrong (s : List Int) (t : Tm) : FnD Try.prog 27 [lA Int.d s, tA t] (.one (iA (wrong s t))) := by
  refine Fn.of Try.func27 rfl Try.ntmps27 rfl (Nat.le_of_ble_eq_true rfl) ?_
  by_cases hw : walk s t 1 = 0
  rotate_left
  · (refine wlk ?_)
    (refine SqA.b1 (op_call none rfl rfl rfl (by kernel_rfl) (FnD.use (rwalk s t 1 (by omega) (by omega))) rfl rfl rfl rfl rfl rfl) rfl rfl ?_)
    (refine wlk ?_)
    (first | (refine finR (.tmp rfl .nil) rfl rfl ?_) | (refine finN (.tmp rfl .nil) rfl rfl ?_))
    exact Xi (b := walk s t 1) (by simp [wrong, hw])
  by_cases hz : 12 < wrap64 t.size
  · (refine wlk ?_)
    (refine SqA.b1 (op_call none rfl rfl rfl (by kernel_rfl) (FnD.use (rwalk s t 1 (by omega) (by omega))) rfl rfl rfl rfl rfl rfl) rfl rfl ?_)
    (refine wlk ?_)
    (refine SqA.b1 (op_call none rfl rfl rfl (by kernel_rfl) (FnD.use (rsize t)) rfl rfl rfl rfl rfl rfl) rfl rfl ?_)
    (refine wlk ?_)
    (first | (refine finR (.tmp rfl .nil) rfl rfl ?_) | (refine finN (.tmp rfl .nil) rfl rfl ?_))
    exact Xi (b := 4) (by simp [wrong, hw, hz])
  · (refine wlk ?_)
    (refine SqA.b1 (op_call none rfl rfl rfl (by kernel_rfl) (FnD.use (rwalk s t 1 (by omega) (by omega))) rfl rfl rfl rfl rfl rfl) rfl rfl ?_)
    (refine wlk ?_)
    (refine SqA.b1 (op_call none rfl rfl rfl (by kernel_rfl) (FnD.use (rsize t)) rfl rfl rfl rfl rfl rfl) rfl rfl ?_)
    (refine wlk ?_)
    (first | (refine finR (.tmp rfl .nil) rfl rfl ?_) | (refine finN (.tmp rfl .nil) rfl rfl ?_))
    exact Xi (b := 0) (by simp only [wrong, hw, if_true, if_neg hz])
set_option maxRecDepth 100000 in
theorem pwrong (s : List Int) (t : Tm) : FnD Try.prog 151 [lA Int.d s, tA t] (.one (iA (wrong s t))) := by
  refine Fn.of Try.func151 rfl Try.ntmps151 rfl (Nat.le_of_ble_eq_true rfl) ?_
  by_cases hw : walk s t 1 = 0
  rotate_left
  · (refine wlk ?_)
    (refine SqA.b1 (op_call none rfl rfl rfl (by kernel_rfl) (FnD.use (pform s t 1 (by omega) (by omega))) rfl rfl rfl rfl rfl rfl) rfl rfl ?_)
    (refine wlk ?_)
    (first | (refine finR (.tmp rfl .nil) rfl rfl ?_) | (refine finN (.tmp rfl .nil) rfl rfl ?_))
    exact Xi (b := walk s t 1) (by simp [wrong, hw])
  by_cases hz : 12 < wrap64 t.size
  · (refine wlk ?_)
    (refine SqA.b1 (op_call none rfl rfl rfl (by kernel_rfl) (FnD.use (pform s t 1 (by omega) (by omega))) rfl rfl rfl rfl rfl rfl) rfl rfl ?_)
    (refine wlk ?_)
    (refine SqA.b1 (op_call none rfl rfl rfl (by kernel_rfl) (FnD.use (psize t)) rfl rfl rfl rfl rfl rfl) rfl rfl ?_)
    (refine wlk ?_)
    (first | (refine finR (.tmp rfl .nil) rfl rfl ?_) | (refine finN (.tmp rfl .nil) rfl rfl ?_))
    exact Xi (b := 4) (by simp [wrong, hw, hz])
  · (refine wlk ?_)
    (refine SqA.b1 (op_call none rfl rfl rfl (by kernel_rfl) (FnD.use (pform s t 1 (by omega) (by omega))) rfl rfl rfl rfl rfl rfl) rfl rfl ?_)
    (refine wlk ?_)
    (refine SqA.b1 (op_call none rfl rfl rfl (by kernel_rfl) (FnD.use (psize t)) rfl rfl rfl rfl rfl rfl) rfl rfl ?_)
    (refine wlk ?_)
    (first | (refine finR (.tmp rfl .nil) rfl rfl ?_) | (refine finN (.tmp rfl .nil) rfl rfl ?_))
    exact Xi (b := 0) (by simp only [wrong, hw, if_true, if_neg hz])
end Go.Proofs.Ytmanhdacnkpclaa
