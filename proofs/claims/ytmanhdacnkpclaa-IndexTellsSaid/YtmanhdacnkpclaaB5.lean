/- What functions do: which keys go together. -/
import Derived.Test.YtmanhdacnkpclaaGZ
import Derived.Test.YtmanhdacnkpclaaPl2
namespace Go.Proofs.Ytmanhdacnkpclaa
set_option linter.unusedVariables false
set_option linter.unusedSimpArgs false
open Go.RowKit

theorem i3_at {x0 x1 x2 : Int} {k : Nat} (h : k < 3) : ∃ x, (i3 x0 x1 x2).cells[0 + k]? = some (.val (.int .i64 x)) ∧ [x0, x1, x2][k]? = some x ∧ (i3 x0 x1 x2).cells[k]? = some (.val (.int .i64 x)) := by
  rcases (show k = 0 ∨ k = 1 ∨ k = 2 by omega) with rfl | rfl | rfl
  · exact ⟨x0, rfl, rfl, rfl⟩
  · exact ⟨x1, rfl, rfl, rfl⟩
  · exact ⟨x2, rfl, rfl, rfl⟩
def upto2 (f : Int → Int → Bool) (xs ys : List Int) (k : Nat) : Prop := ∀ j x y, j < k → xs[j]? = some x → ys[j]? = some y → f x y = true
theorem upto2.zero {f : Int → Int → Bool} {xs ys : List Int} : upto2 f xs ys 0 := fun j x y h => absurd h (by omega)
theorem upto2.succ {f : Int → Int → Bool} {xs ys : List Int} {k : Nat} {x y : Int} (h : upto2 f xs ys k) (hx : xs[k]? = some x) (hy : ys[k]? = some y) (hf : f x y = true) : upto2 f xs ys (k + 1) := fun j x' y' hj hx' hy' => by
  rcases Nat.lt_or_ge j k with h1 | h1
  · exact h j x' y' h1 hx' hy'
  · have : j = k := by omega
    subst this
    rw [hx] at hx'; rw [hy] at hy'
    injection hx' with e1; injection hy' with e2; subst e1 e2; exact hf
theorem upto2.all {f : Int → Int → Bool} {x0 x1 x2 y0 y1 y2 : Int} (h : upto2 f [x0, x1, x2] [y0, y1, y2] 3) : (f x0 y0 && (f x1 y1 && f x2 y2)) = true := by
  rw [h 0 x0 y0 (by omega) rfl rfl, h 1 x1 y1 (by omega) rfl rfl, h 2 x2 y2 (by omega) rfl rfl]; rfl
theorem upto2.no {f : Int → Int → Bool} {x0 x1 x2 y0 y1 y2 x y : Int} {k : Nat} (hx : [x0, x1, x2][k]? = some x) (hy : [y0, y1, y2][k]? = some y) (hf : f x y = false) : (f x0 y0 && (f x1 y1 && f x2 y2)) = false := by
  match k with
  | 0 => injection hx with e1; injection hy with e2; subst e1 e2; rw [hf]; rfl
  | 1 => injection hx with e1; injection hy with e2; subst e1 e2; rw [hf]; simp
  | 2 => injection hx with e1; injection hy with e2; subst e1 e2; rw [hf]; simp
  | k + 3 => simp at hx

set_option maxHeartbeats 4000000 in
set_option maxRecDepth 100000 in
theorem rmayU (x0 x1 x2 y0 y1 y2 : Int) : FnD Try.prog 32 [i3 x0 x1 x2, i3 y0 y1 y2] (.one (bA (mayU x0 y0 && (mayU x1 y1 && mayU x2 y2)))) := by
  refine Fn.of Try.func32 rfl Try.ntmps32 rfl (Nat.le_of_ble_eq_true rfl) ?_
  (refine wlk ?_)
  refine dwp_loop (fun k : Nat => [(.t 2, some (.one (.c (.ptr 2 0)))), (.b 2, some (.box (i3 x0 x1 x2).cells)), (.t 3, some (.one (.c (.ptr 3 0)))), (.b 3, some (.box (i3 y0 y1 y2).cells)), (.t 8, some (.one (iA k)))])
    (fun k => k ≤ 3 ∧ upto2 mayU [x0, x1, x2] [y0, y1, y2] k) (fun k => 3 - k) 0 ⟨by omega, .zero⟩ fgs ?_
  rintro k ⟨hk, hu⟩
  by_cases hk3 : k < 3
  rotate_left
  · have : k = 3 := by omega
    subst this
    (refine wlk ?_)
    (first | (refine finR (.tmp rfl .nil) rfl rfl ?_) | (refine finN (.tmp rfl .nil) rfl rfl ?_))
    exact Xb (b := true) hu.all.symm
  obtain ⟨x, hx, hx', hx''⟩ := i3_at (x0 := x0) (x1 := x1) (x2 := x2) hk3
  obtain ⟨y, hy, hy', _⟩ := i3_at (x0 := y0) (x1 := y1) (x2 := y2) hk3
  by_cases g2 : x = y
  · (refine wlk ?_)
    exact ⟨k + 1, ⟨by omega, hu.succ hx' hy' (by simp only [mayU, decide_eq_true_eq]; omega)⟩, fgs, by omega⟩
  by_cases g2 : x = -1
  · (refine wlk ?_)
    exact ⟨k + 1, ⟨by omega, hu.succ hx' hy' (by simp only [mayU, decide_eq_true_eq]; omega)⟩, fgs, by omega⟩
  by_cases g2 : y = -1
  · (refine wlk ?_)
    exact ⟨k + 1, ⟨by omega, hu.succ hx' hy' (by simp only [mayU, decide_eq_true_eq]; omega)⟩, fgs, by omega⟩
  by_cases g2 : x = 0
  · by_cases g4 : 0 < y
    · (refine wlk ?_)
      exact ⟨k + 1, ⟨by omega, hu.succ hx' hy' (by simp only [mayU, decide_eq_true_eq]; omega)⟩, fgs, by omega⟩
    · (refine wlk ?_)
      (first | (refine finR (.tmp rfl .nil) rfl rfl ?_) | (refine finN (.tmp rfl .nil) rfl rfl ?_))
      exact Xb (b := false) (upto2.no hx' hy' (by simp only [mayU, decide_eq_false_iff_not]; omega)).symm
  by_cases g2 : y = 0
  · by_cases g4 : 0 < x
    · (refine wlk ?_)
      exact ⟨k + 1, ⟨by omega, hu.succ hx' hy' (by simp only [mayU, decide_eq_true_eq]; omega)⟩, fgs, by omega⟩
    · (refine wlk ?_)
      (first | (refine finR (.tmp rfl .nil) rfl rfl ?_) | (refine finN (.tmp rfl .nil) rfl rfl ?_))
      exact Xb (b := false) (upto2.no hx' hy' (by simp only [mayU, decide_eq_false_iff_not]; omega)).symm
  · (refine wlk ?_)
    (first | (refine finR (.tmp rfl .nil) rfl rfl ?_) | (refine finN (.tmp rfl .nil) rfl rfl ?_))
    exact Xb (b := false) (upto2.no hx' hy' (by simp only [mayU, decide_eq_false_iff_not]; omega)).symm

set_option maxHeartbeats 4000000 in
set_option maxRecDepth 100000 in
theorem pmayU (x0 x1 x2 y0 y1 y2 : Int) : FnD Try.prog 31 [i3 x0 x1 x2, i3 y0 y1 y2] (.one (bA (mayU x0 y0 && (mayU x1 y1 && mayU x2 y2)))) := by
  refine Fn.of Try.func31 rfl Try.ntmps31 rfl (Nat.le_of_ble_eq_true rfl) ?_
  (refine wlk ?_)
  refine dwp_loop (fun k : Nat => [(.t 2, some (.one (.c (.ptr 2 0)))), (.b 2, some (.box (i3 x0 x1 x2).cells)), (.t 3, some (.one (.c (.ptr 3 0)))), (.b 3, some (.box (i3 y0 y1 y2).cells)), (.t 8, some (.one (iA k)))])
    (fun k => k ≤ 3 ∧ upto2 mayU [x0, x1, x2] [y0, y1, y2] k) (fun k => 3 - k) 0 ⟨by omega, .zero⟩ fgs ?_
  rintro k ⟨hk, hu⟩
  by_cases hk3 : k < 3
  rotate_left
  · have : k = 3 := by omega
    subst this
    (refine wlk ?_)
    (first | (refine finR (.tmp rfl .nil) rfl rfl ?_) | (refine finN (.tmp rfl .nil) rfl rfl ?_))
    exact Xb (b := true) hu.all.symm
  obtain ⟨x, hx, hx', hx''⟩ := i3_at (x0 := x0) (x1 := x1) (x2 := x2) hk3
  obtain ⟨y, hy, hy', _⟩ := i3_at (x0 := y0) (x1 := y1) (x2 := y2) hk3
  by_cases g2 : x = y
  · (refine wlk ?_)
    exact ⟨k + 1, ⟨by omega, hu.succ hx' hy' (by simp only [mayU, decide_eq_true_eq]; omega)⟩, fgs, by omega⟩
  by_cases g2 : x < y
  · by_cases g4 : x = -1
    · (refine wlk ?_)
      exact ⟨k + 1, ⟨by omega, hu.succ hx' hy' (by simp only [mayU, decide_eq_true_eq]; omega)⟩, fgs, by omega⟩
    by_cases g4 : y = -1
    · (refine wlk ?_)
      exact ⟨k + 1, ⟨by omega, hu.succ hx' hy' (by simp only [mayU, decide_eq_true_eq]; omega)⟩, fgs, by omega⟩
    by_cases g4 : x = -2
    · (refine wlk ?_)
      (first | (refine finR (.tmp rfl .nil) rfl rfl ?_) | (refine finN (.tmp rfl .nil) rfl rfl ?_))
      exact Xb (b := false) (upto2.no hx' hy' (by simp only [mayU, decide_eq_false_iff_not]; omega)).symm
    by_cases g4 : x = 0
    · (refine wlk ?_)
      exact ⟨k + 1, ⟨by omega, hu.succ hx' hy' (by simp only [mayU, decide_eq_true_eq]; omega)⟩, fgs, by omega⟩
    · (refine wlk ?_)
      (first | (refine finR (.tmp rfl .nil) rfl rfl ?_) | (refine finN (.tmp rfl .nil) rfl rfl ?_))
      exact Xb (b := false) (upto2.no hx' hy' (by simp only [mayU, decide_eq_false_iff_not]; omega)).symm
  by_cases g2 : y = -1
  · (refine wlk ?_)
    exact ⟨k + 1, ⟨by omega, hu.succ hx' hy' (by simp only [mayU, decide_eq_true_eq]; omega)⟩, fgs, by omega⟩
  by_cases g2 : x = -1
  · (refine wlk ?_)
    exact ⟨k + 1, ⟨by omega, hu.succ hx' hy' (by simp only [mayU, decide_eq_true_eq]; omega)⟩, fgs, by omega⟩
  by_cases g2 : y = -2
  · (refine wlk ?_)
    (first | (refine finR (.tmp rfl .nil) rfl rfl ?_) | (refine finN (.tmp rfl .nil) rfl rfl ?_))
    exact Xb (b := false) (upto2.no hx' hy' (by simp only [mayU, decide_eq_false_iff_not]; omega)).symm
  by_cases g2 : y = 0
  · (refine wlk ?_)
    exact ⟨k + 1, ⟨by omega, hu.succ hx' hy' (by simp only [mayU, decide_eq_true_eq]; omega)⟩, fgs, by omega⟩
  · (refine wlk ?_)
    (first | (refine finR (.tmp rfl .nil) rfl rfl ?_) | (refine finN (.tmp rfl .nil) rfl rfl ?_))
    exact Xb (b := false) (upto2.no hx' hy' (by simp only [mayU, decide_eq_false_iff_not]; omega)).symm

set_option maxHeartbeats 4000000 in
set_option maxRecDepth 100000 in
theorem rmayM (x0 x1 x2 y0 y1 y2 : Int) : FnD Try.prog 34 [i3 x0 x1 x2, i3 y0 y1 y2] (.one (bA (mayM x0 y0 && (mayM x1 y1 && mayM x2 y2)))) := by
  refine Fn.of Try.func34 rfl Try.ntmps34 rfl (Nat.le_of_ble_eq_true rfl) ?_
  (refine wlk ?_)
  refine dwp_loop (fun k : Nat => [(.t 2, some (.one (.c (.ptr 2 0)))), (.b 2, some (.box (i3 x0 x1 x2).cells)), (.t 3, some (.one (.c (.ptr 3 0)))), (.b 3, some (.box (i3 y0 y1 y2).cells)), (.t 6, some (.one (iA k)))])
    (fun k => k ≤ 3 ∧ upto2 mayM [x0, x1, x2] [y0, y1, y2] k) (fun k => 3 - k) 0 ⟨by omega, .zero⟩ fgs ?_
  rintro k ⟨hk, hu⟩
  by_cases hk3 : k < 3
  rotate_left
  · have : k = 3 := by omega
    subst this
    (refine wlk ?_)
    (first | (refine finR (.tmp rfl .nil) rfl rfl ?_) | (refine finN (.tmp rfl .nil) rfl rfl ?_))
    exact Xb (b := true) hu.all.symm
  obtain ⟨x, hx, hx', hx''⟩ := i3_at (x0 := x0) (x1 := x1) (x2 := x2) hk3
  obtain ⟨y, hy, hy', _⟩ := i3_at (x0 := y0) (x1 := y1) (x2 := y2) hk3
  by_cases g2 : x = y
  · (refine wlk ?_)
    exact ⟨k + 1, ⟨by omega, hu.succ hx' hy' (by simp only [mayM, decide_eq_true_eq]; omega)⟩, fgs, by omega⟩
  by_cases g2 : x = -1
  · (refine wlk ?_)
    exact ⟨k + 1, ⟨by omega, hu.succ hx' hy' (by simp only [mayM, decide_eq_true_eq]; omega)⟩, fgs, by omega⟩
  by_cases g2 : x = 0
  · by_cases g4 : 0 < y
    · (refine wlk ?_)
      exact ⟨k + 1, ⟨by omega, hu.succ hx' hy' (by simp only [mayM, decide_eq_true_eq]; omega)⟩, fgs, by omega⟩
    · (refine wlk ?_)
      (first | (refine finR (.tmp rfl .nil) rfl rfl ?_) | (refine finN (.tmp rfl .nil) rfl rfl ?_))
      exact Xb (b := false) (upto2.no hx' hy' (by simp only [mayM, decide_eq_false_iff_not]; omega)).symm
  · (refine wlk ?_)
    (first | (refine finR (.tmp rfl .nil) rfl rfl ?_) | (refine finN (.tmp rfl .nil) rfl rfl ?_))
    exact Xb (b := false) (upto2.no hx' hy' (by simp only [mayM, decide_eq_false_iff_not]; omega)).symm

set_option maxHeartbeats 4000000 in
set_option maxRecDepth 100000 in
theorem pmayM (x0 x1 x2 y0 y1 y2 : Int) : FnD Try.prog 33 [i3 x0 x1 x2, i3 y0 y1 y2] (.one (bA (mayM x0 y0 && (mayM x1 y1 && mayM x2 y2)))) := by
  refine Fn.of Try.func33 rfl Try.ntmps33 rfl (Nat.le_of_ble_eq_true rfl) ?_
  (refine wlk ?_)
  refine dwp_loop (fun k : Nat => [(.t 3, some (.one (.c (.ptr 3 0)))), (.b 3, some (.box (i3 y0 y1 y2).cells)), (.t 8, some (.one (i3 x0 x1 x2))), (.t 9, some (.one (iA k)))])
    (fun k => k ≤ 3 ∧ upto2 mayM [x0, x1, x2] [y0, y1, y2] k) (fun k => 3 - k) 0 ⟨by omega, .zero⟩ fgs ?_
  rintro k ⟨hk, hu⟩
  by_cases hk3 : k < 3
  rotate_left
  · have : k = 3 := by omega
    subst this
    (refine wlk ?_)
    (first | (refine finR (.tmp rfl .nil) rfl rfl ?_) | (refine finN (.tmp rfl .nil) rfl rfl ?_))
    exact Xb (b := true) hu.all.symm
  obtain ⟨x, hx, hx', hx''⟩ := i3_at (x0 := x0) (x1 := x1) (x2 := x2) hk3
  obtain ⟨y, hy, hy', _⟩ := i3_at (x0 := y0) (x1 := y1) (x2 := y2) hk3
  by_cases g2 : x = y
  · (refine wlk ?_)
    exact ⟨k + 1, ⟨by omega, hu.succ hx' hy' (by simp only [mayM, decide_eq_true_eq]; omega)⟩, fgs, by omega⟩
  by_cases g2 : x = -1
  · (refine wlk ?_)
    exact ⟨k + 1, ⟨by omega, hu.succ hx' hy' (by simp only [mayM, decide_eq_true_eq]; omega)⟩, fgs, by omega⟩
  by_cases g2 : x = 0
  · by_cases g4 : 0 < y
    · (refine wlk ?_)
      exact ⟨k + 1, ⟨by omega, hu.succ hx' hy' (by simp only [mayM, decide_eq_true_eq]; omega)⟩, fgs, by omega⟩
    · (refine wlk ?_)
      (first | (refine finR (.tmp rfl .nil) rfl rfl ?_) | (refine finN (.tmp rfl .nil) rfl rfl ?_))
      exact Xb (b := false) (upto2.no hx' hy' (by simp only [mayM, decide_eq_false_iff_not]; omega)).symm
  · (refine wlk ?_)
    (first | (refine finR (.tmp rfl .nil) rfl rfl ?_) | (refine finN (.tmp rfl .nil) rfl rfl ?_))
    exact Xb (b := false) (upto2.no hx' hy' (by simp only [mayM, decide_eq_false_iff_not]; omega)).symm
end Go.Proofs.Ytmanhdacnkpclaa
