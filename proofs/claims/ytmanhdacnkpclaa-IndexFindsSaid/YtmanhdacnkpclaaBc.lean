/- What functions do: marks and keys. -/
import Derived.Test.YtmanhdacnkpclaaFe
import Derived.Test.YtmanhdacnkpclaaBa
import Derived.Test.YtmanhdacnkpclaaPa1
import Derived.Test.YtmanhdacnkpclaaBb
/- What functions do: marks and keys. -/
namespace Go.Proofs.Ytmanhdacnkpclaa
set_option linter.unusedVariables false
set_option linter.unusedSimpArgs false
open Go.RowKit

set_option maxRecDepth 100000 in
theorem rmark (t : Tm) (p : List Int) (hp : ∀ i ∈ p, 0 ≤ i) : FnD Try.prog 89 [tA t, lA Int.d p] (.one (iA (mark t p))) := by
  refine Fn.of Try.func89 rfl Try.ntmps89 rfl (Nat.le_of_ble_eq_true rfl) ?_
  refine dwp_len (t := 1) rfl fun hl => ?_
  simp only [List.length_map] at hl
  (refine wlk ?_)
  refine dwp_loop (fun x : Nat × Tm => [(.t 2, some (.one (.c (.ptr 2 0)))), (.b 2, some (.box (tA x.2).cells)), (.t 7, some (.one (lA Int.d p))), (.t 8, some (.one (iA p.length))), (.t 9, some (.one (iA x.1)))])
    (fun x => x.1 ≤ p.length ∧ mark t p = mark x.2 (p.drop x.1)) (fun x => p.length - x.1) (0, t) ⟨by omega, rfl⟩ fgs ?_
  rintro ⟨k, v, n, l⟩ ⟨hk, hm⟩
  simp only at hk hm
  by_cases hkl : k < p.length
  · obtain ⟨x, hx⟩ := get_of_lt hkl
    rw [drop_of hx] at hm
    have hx0 := hp x (List.mem_of_getElem? hx)
    cases v
    · by_cases hxl : (l.length : Int) ≤ x
      · (refine wlk ?_)
        (first | (refine finR (.tmp rfl .nil) rfl rfl ?_) | (refine finN (.tmp rfl .nil) rfl rfl ?_))
        exact Xi (b := -2) (by rw [hm]; simp [mark, hxl])
      · obtain ⟨j, rfl⟩ := Int.eq_ofNat_of_zero_le hx0
        obtain ⟨y, hy⟩ := get_of_lt (s := l) (k := j) (by omega)
        (refine wlk ?_)
        exact ⟨(k + 1, y), ⟨by simp only; omega, by rw [hm]; simp [mark, hxl, hy]⟩, fgs, by simp only; omega⟩
    · (refine wlk ?_)
      (first | (refine finR (.tmp rfl .nil) rfl rfl ?_) | (refine finN (.tmp rfl .nil) rfl rfl ?_))
      exact Xi (b := -1) (by rw [hm]; simp [mark])
  · have : k = p.length := by omega
    subst this
    rw [List.drop_length] at hm
    cases v
    · (refine wlk ?_)
      (first | (refine finR (.tmp rfl .nil) rfl rfl ?_) | (refine finN (.tmp rfl .nil) rfl rfl ?_))
      exact Xi (b := wrap64 (n + 1)) (by rw [hm]; simp [mark])
    · (refine wlk ?_)
      (first | (refine finR (.tmp rfl .nil) rfl rfl ?_) | (refine finN (.tmp rfl .nil) rfl rfl ?_))
      exact Xi (b := 0) (by rw [hm]; simp [mark])
set_option maxRecDepth 100000 in
theorem pmark (t : Tm) (p : List Int) (hp : ∀ i ∈ p, 0 ≤ i) : FnD Try.prog 88 [tA t, lA Int.d p] (.one (iA (mark t p))) := by
  refine Fn.of Try.func88 rfl Try.ntmps88 rfl (Nat.le_of_ble_eq_true rfl) ?_
  refine dwp_len (t := 1) rfl fun hl => ?_
  simp only [List.length_map] at hl
  (refine wlk ?_)
  refine dwp_loop (fun x : Nat × Tm => [(.t 2, some (.one (.c (.ptr 2 0)))), (.b 2, some (.box (tA x.2).cells)), (.t 7, some (.one (lA Int.d p))), (.t 8, some (.one (iA p.length))), (.t 9, some (.one (iA x.1)))])
    (fun x => x.1 ≤ p.length ∧ mark t p = mark x.2 (p.drop x.1)) (fun x => p.length - x.1) (0, t) ⟨by omega, rfl⟩ fgs ?_
  rintro ⟨k, v, n, l⟩ ⟨hk, hm⟩
  simp only at hk hm
  by_cases hkl : k < p.length
  · obtain ⟨x, hx⟩ := get_of_lt hkl
    rw [drop_of hx] at hm
    have hx0 := hp x (List.mem_of_getElem? hx)
    cases v
    · by_cases hxl : (l.length : Int) ≤ x
      · (refine wlk ?_)
        (first | (refine finR (.tmp rfl .nil) rfl rfl ?_) | (refine finN (.tmp rfl .nil) rfl rfl ?_))
        exact Xi (b := -2) (by rw [hm]; simp [mark, hxl])
      · obtain ⟨j, rfl⟩ := Int.eq_ofNat_of_zero_le hx0
        obtain ⟨y, hy⟩ := get_of_lt (s := l) (k := j) (by omega)
        (refine wlk ?_)
        exact ⟨(k + 1, y), ⟨by simp only; omega, by rw [hm]; simp [mark, hxl, hy]⟩, fgs, by simp only; omega⟩
    · (refine wlk ?_)
      (first | (refine finR (.tmp rfl .nil) rfl rfl ?_) | (refine finN (.tmp rfl .nil) rfl rfl ?_))
      exact Xi (b := -1) (by rw [hm]; simp [mark])
  · have : k = p.length := by omega
    subst this
    rw [List.drop_length] at hm
    cases v
    · (refine wlk ?_)
      (first | (refine finR (.tmp rfl .nil) rfl rfl ?_) | (refine finN (.tmp rfl .nil) rfl rfl ?_))
      exact Xi (b := wrap64 (n + 1)) (by rw [hm]; simp [mark])
    · (refine wlk ?_)
      (first | (refine finR (.tmp rfl .nil) rfl rfl ?_) | (refine finN (.tmp rfl .nil) rfl rfl ?_))
      exact Xi (b := 0) (by rw [hm]; simp [mark])
set_option maxRecDepth 100000 in
theorem rkey (t : Tm) : FnD Try.prog 30 [tA t] (.one (i3 (mark t []) (mark t [0]) (mark t [1]))) := by
  refine Fn.of Try.func30 rfl Try.ntmps30 rfl (Nat.le_of_ble_eq_true rfl) ?_
  (refine wlk ?_)
  (refine SqA.b1 (op_call none rfl rfl rfl (by kernel_rfl) (FnD.use (FnD.nil (rmark t [] (by simp)) 1 rfl)) rfl rfl rfl rfl rfl rfl) rfl rfl ?_)
  (refine wlk ?_)
  (refine SqA.b1 (op_bsT (T := TB) (f := Int.d) [0] rfl rfl rfl rfl rfl rfl rfl rfl rfl rfl rfl) rfl rfl ?_)
  (refine wlk ?_)
  (refine SqA.b1 (op_call none rfl rfl rfl (by kernel_rfl) (FnD.use (rmark t [0] (by simp))) rfl rfl rfl rfl rfl rfl) rfl rfl ?_)
  (refine wlk ?_)
  (refine SqA.b1 (op_bsT (T := TB) (f := Int.d) [1] rfl rfl rfl rfl rfl rfl rfl rfl rfl rfl rfl) rfl rfl ?_)
  (refine wlk ?_)
  (refine SqA.b1 (op_call none rfl rfl rfl (by kernel_rfl) (FnD.use (rmark t [1] (by simp))) rfl rfl rfl rfl rfl rfl) rfl rfl ?_)
  (refine wlk ?_)
  (first | (refine finR (.cellN rfl rfl (rw_of rfl) rfl rfl .nil) rfl rfl ?_) | (refine finN (.cellN rfl rfl (rw_of rfl) rfl rfl .nil) rfl rfl ?_))
  rfl
set_option maxRecDepth 100000 in
theorem pkey (t : Tm) : FnD Try.prog 29 [tA t] (.one (i3 (mark t []) (mark t [0]) (mark t [1]))) := by
  refine Fn.of Try.func29 rfl Try.ntmps29 rfl (Nat.le_of_ble_eq_true rfl) ?_
  (refine wlk ?_)
  (refine SqA.b1 (op_call none rfl rfl rfl (by kernel_rfl) (FnD.use (FnD.nil (pmark t [] (by simp)) 1 rfl)) rfl rfl rfl rfl rfl rfl) rfl rfl ?_)
  (refine wlk ?_)
  (refine SqA.b1 (op_bsT (T := TB) (f := Int.d) [0] rfl rfl rfl rfl rfl rfl rfl rfl rfl rfl rfl) rfl rfl ?_)
  (refine wlk ?_)
  (refine SqA.b1 (op_call none rfl rfl rfl (by kernel_rfl) (FnD.use (pmark t [0] (by simp))) rfl rfl rfl rfl rfl rfl) rfl rfl ?_)
  (refine wlk ?_)
  (refine SqA.b1 (op_bsT (T := TB) (f := Int.d) [1] rfl rfl rfl rfl rfl rfl rfl rfl rfl rfl rfl) rfl rfl ?_)
  (refine wlk ?_)
  (refine SqA.b1 (op_call none rfl rfl rfl (by kernel_rfl) (FnD.use (pmark t [1] (by simp))) rfl rfl rfl rfl rfl rfl) rfl rfl ?_)
  (refine wlk ?_)
  (first | (refine finR (.cellN rfl rfl (rw_of rfl) rfl rfl .nil) rfl rfl ?_) | (refine finN (.cellN rfl rfl (rw_of rfl) rfl rfl .nil) rfl rfl ?_))
  rfl

end Go.Proofs.Ytmanhdacnkpclaa

/- What functions do: which keys go together. -/
namespace Go.Proofs.Ytmanhdacnkpclaa
set_option linter.unusedVariables false
set_option linter.unusedSimpArgs false
open Go.RowKit

theorem i3_at {x0 x1 x2 : Int} {k : Nat} (h : k < 3) : ∃ x, (i3 x0 x1 x2).cells[0 + k]? = some (.val (.int .i64 x)) ∧ [x0, x1, x2][k]? = some x ∧ (i3 x0 x1 x2).cells[k]? = some (.val (.int .i64 x)) := by
  rcases (show k = 0 ∨ k = 1 ∨ k = 2 by omega) with rfl | rfl | rfl
  · exact ⟨x0, rfl, rfl, rfl⟩
  · exact ⟨x1, rfl, rfl, rfl⟩
  · exact ⟨x2, rfl, rfl, rfl⟩
def upto2 (f : Int → Int → Bool) (xs ys : List Int) (k : Nat) : Prop := ∀ j x y, j < k → xs[j]? = some x → ys[j]? = some y → f x y = true
theorem upto2.zero {f : Int → Int → Bool} {xs ys : List Int} : upto2 f xs ys 0 := fun j x y h => absurd h (by omega)
theorem upto2.succ {f : Int → Int → Bool} {xs ys : List Int} {k : Nat} {x y : Int} (h : upto2 f xs ys k) (hx : xs[k]? = some x) (hy : ys[k]? = some y) (hf : f x y = true) : upto2 f xs ys (k + 1) := fun j x' y' hj hx' hy' => by
  rcases Nat.lt_or_ge j k with h1 | h1
  · exact h j x' y' h1 hx' hy'
  · have : j = k := by omega
    subst this
    rw [hx] at hx'; rw [hy] at hy'
    injection hx' with e1; injection hy' with e2; subst e1 e2; exact hf
theorem upto2.all {f : Int → Int → Bool} {x0 x1 x2 y0 y1 y2 : Int} (h : upto2 f [x0, x1, x2] [y0, y1, y2] 3) : (f x0 y0 && (f x1 y1 && f x2 y2)) = true := by
  rw [h 0 x0 y0 (by omega) rfl rfl, h 1 x1 y1 (by omega) rfl rfl, h 2 x2 y2 (by omega) rfl rfl]; rfl
theorem upto2.no {f : Int → Int → Bool} {x0 x1 x2 y0 y1 y2 x y : Int} {k : Nat} (hx : [x0, x1, x2][k]? = some x) (hy : [y0, y1, y2][k]? = some y) (hf : f x y = false) : (f x0 y0 && (f x1 y1 && f x2 y2)) = false := by
  match k with
  | 0 => injection hx with e1; injection hy with e2; subst e1 e2; rw [hf]; rfl
  | 1 => injection hx with e1; injection hy with e2; subst e1 e2; rw [hf]; simp
  | 2 => injection hx with e1; injection hy with e2; subst e1 e2; rw [hf]; simp
  | k + 3 => simp at hx

set_option maxHeartbeats 4000000 in
set_option maxRecDepth 100000 in
theorem rmayU (x0 x1 x2 y0 y1 y2 : Int) : FnD Try.prog 32 [i3 x0 x1 x2, i3 y0 y1 y2] (.one (bA (mayU x0 y0 && (mayU x1 y1 && mayU x2 y2)))) := by
  refine Fn.of Try.func32 rfl Try.ntmps32 rfl (Nat.le_of_ble_eq_true rfl) ?_
  (refine wlk ?_)
  refine dwp_loop (fun k : Nat => [(.t 2, some (.one (.c (.ptr 2 0)))), (.b 2, some (.box (i3 x0 x1 x2).cells)), (.t 3, some (.one (.c (.ptr 3 0)))), (.b 3, some (.box (i3 y0 y1 y2).cells)), (.t 8, some (.one (iA k)))])
    (fun k => k ≤ 3 ∧ upto2 mayU [x0, x1, x2] [y0, y1, y2] k) (fun k => 3 - k) 0 ⟨by omega, .zero⟩ fgs ?_
  rintro k ⟨hk, hu⟩
  by_cases hk3 : k < 3
  rotate_left
  · have : k = 3 := by omega
    subst this
    (refine wlk ?_)
    (first | (refine finR (.tmp rfl .nil) rfl rfl ?_) | (refine finN (.tmp rfl .nil) rfl rfl ?_))
    exact Xb (b := true) hu.all.symm
  obtain ⟨x, hx, hx', hx''⟩ := i3_at (x0 := x0) (x1 := x1) (x2 := x2) hk3
  obtain ⟨y, hy, hy', _⟩ := i3_at (x0 := y0) (x1 := y1) (x2 := y2) hk3
  by_cases g2 : x = y
  · (refine wlk ?_)
    exact ⟨k + 1, ⟨by omega, hu.succ hx' hy' (by simp only [mayU, decide_eq_true_eq]; omega)⟩, fgs, by omega⟩
  by_cases g2 : x = -1
  · (refine wlk ?_)
    exact ⟨k + 1, ⟨by omega, hu.succ hx' hy' (by simp only [mayU, decide_eq_true_eq]; omega)⟩, fgs, by omega⟩
  by_cases g2 : y = -1
  · (refine wlk ?_)
    exact ⟨k + 1, ⟨by omega, hu.succ hx' hy' (by simp only [mayU, decide_eq_true_eq]; omega)⟩, fgs, by omega⟩
  by_cases g2 : x = 0
  · by_cases g4 : 0 < y
    · (refine wlk ?_)
      exact ⟨k + 1, ⟨by omega, hu.succ hx' hy' (by simp only [mayU, decide_eq_true_eq]; omega)⟩, fgs, by omega⟩
    · (refine wlk ?_)
      (first | (refine finR (.tmp rfl .nil) rfl rfl ?_) | (refine finN (.tmp rfl .nil) rfl rfl ?_))
      exact Xb (b := false) (upto2.no hx' hy' (by simp only [mayU, decide_eq_false_iff_not]; omega)).symm
  by_cases g2 : y = 0
  · by_cases g4 : 0 < x
    · (refine wlk ?_)
      exact ⟨k + 1, ⟨by omega, hu.succ hx' hy' (by simp only [mayU, decide_eq_true_eq]; omega)⟩, fgs, by omega⟩
    · (refine wlk ?_)
      (first | (refine finR (.tmp rfl .nil) rfl rfl ?_) | (refine finN (.tmp rfl .nil) rfl rfl ?_))
      exact Xb (b := false) (upto2.no hx' hy' (by simp only [mayU, decide_eq_false_iff_not]; omega)).symm
  · (refine wlk ?_)
    (first | (refine finR (.tmp rfl .nil) rfl rfl ?_) | (refine finN (.tmp rfl .nil) rfl rfl ?_))
    exact Xb (b := false) (upto2.no hx' hy' (by simp only [mayU, decide_eq_false_iff_not]; omega)).symm

set_option maxHeartbeats 4000000 in
set_option maxRecDepth 100000 in
theorem pmayU (x0 x1 x2 y0 y1 y2 : Int) : FnD Try.prog 31 [i3 x0 x1 x2, i3 y0 y1 y2] (.one (bA (mayU x0 y0 && (mayU x1 y1 && mayU x2 y2)))) := by
  refine Fn.of Try.func31 rfl Try.ntmps31 rfl (Nat.le_of_ble_eq_true rfl) ?_
  (refine wlk ?_)
  refine dwp_loop (fun k : Nat => [(.t 2, some (.one (.c (.ptr 2 0)))), (.b 2, some (.box (i3 x0 x1 x2).cells)), (.t 3, some (.one (.c (.ptr 3 0)))), (.b 3, some (.box (i3 y0 y1 y2).cells)), (.t 8, some (.one (iA k)))])
    (fun k => k ≤ 3 ∧ upto2 mayU [x0, x1, x2] [y0, y1, y2] k) (fun k => 3 - k) 0 ⟨by omega, .zero⟩ fgs ?_
  rintro k ⟨hk, hu⟩
  by_cases hk3 : k < 3
  rotate_left
  · have : k = 3 := by omega
    subst this
    (refine wlk ?_)
    (first | (refine finR (.tmp rfl .nil) rfl rfl ?_) | (refine finN (.tmp rfl .nil) rfl rfl ?_))
    exact Xb (b := true) hu.all.symm
  obtain ⟨x, hx, hx', hx''⟩ := i3_at (x0 := x0) (x1 := x1) (x2 := x2) hk3
  obtain ⟨y, hy, hy', _⟩ := i3_at (x0 := y0) (x1 := y1) (x2 := y2) hk3
  by_cases g2 : x = y
  · (refine wlk ?_)
    exact ⟨k + 1, ⟨by omega, hu.succ hx' hy' (by simp only [mayU, decide_eq_true_eq]; omega)⟩, fgs, by omega⟩
  by_cases g2 : x < y
  · by_cases g4 : x = -1
    · (refine wlk ?_)
      exact ⟨k + 1, ⟨by omega, hu.succ hx' hy' (by simp only [mayU, decide_eq_true_eq]; omega)⟩, fgs, by omega⟩
    by_cases g4 : y = -1
    · (refine wlk ?_)
      exact ⟨k + 1, ⟨by omega, hu.succ hx' hy' (by simp only [mayU, decide_eq_true_eq]; omega)⟩, fgs, by omega⟩
    by_cases g4 : x = -2
    · (refine wlk ?_)
      (first | (refine finR (.tmp rfl .nil) rfl rfl ?_) | (refine finN (.tmp rfl .nil) rfl rfl ?_))
      exact Xb (b := false) (upto2.no hx' hy' (by simp only [mayU, decide_eq_false_iff_not]; omega)).symm
    by_cases g4 : x = 0
    · (refine wlk ?_)
      exact ⟨k + 1, ⟨by omega, hu.succ hx' hy' (by simp only [mayU, decide_eq_true_eq]; omega)⟩, fgs, by omega⟩
    · (refine wlk ?_)
      (first | (refine finR (.tmp rfl .nil) rfl rfl ?_) | (refine finN (.tmp rfl .nil) rfl rfl ?_))
      exact Xb (b := false) (upto2.no hx' hy' (by simp only [mayU, decide_eq_false_iff_not]; omega)).symm
  by_cases g2 : y = -1
  · (refine wlk ?_)
    exact ⟨k + 1, ⟨by omega, hu.succ hx' hy' (by simp only [mayU, decide_eq_true_eq]; omega)⟩, fgs, by omega⟩
  by_cases g2 : x = -1
  · (refine wlk ?_)
    exact ⟨k + 1, ⟨by omega, hu.succ hx' hy' (by simp only [mayU, decide_eq_true_eq]; omega)⟩, fgs, by omega⟩
  by_cases g2 : y = -2
  · (refine wlk ?_)
    (first | (refine finR (.tmp rfl .nil) rfl rfl ?_) | (refine finN (.tmp rfl .nil) rfl rfl ?_))
    exact Xb (b := false) (upto2.no hx' hy' (by simp only [mayU, decide_eq_false_iff_not]; omega)).symm
  by_cases g2 : y = 0
  · (refine wlk ?_)
    exact ⟨k + 1, ⟨by omega, hu.succ hx' hy' (by simp only [mayU, decide_eq_true_eq]; omega)⟩, fgs, by omega⟩
  · (refine wlk ?_)
    (first | (refine finR (.tmp rfl .nil) rfl rfl ?_) | (refine finN (.tmp rfl .nil) rfl rfl ?_))
    exact Xb (b := false) (upto2.no hx' hy' (by simp only [mayU, decide_eq_false_iff_not]; omega)).symm

set_option maxHeartbeats 4000000 in
set_option maxRecDepth 100000 in
theorem rmayM (x0 x1 x2 y0 y1 y2 : Int) : FnD Try.prog 34 [i3 x0 x1 x2, i3 y0 y1 y2] (.one (bA (mayM x0 y0 && (mayM x1 y1 && mayM x2 y2)))) := by
  refine Fn.of Try.func34 rfl Try.ntmps34 rfl (Nat.le_of_ble_eq_true rfl) ?_
  (refine wlk ?_)
  refine dwp_loop (fun k : Nat => [(.t 2, some (.one (.c (.ptr 2 0)))), (.b 2, some (.box (i3 x0 x1 x2).cells)), (.t 3, some (.one (.c (.ptr 3 0)))), (.b 3, some (.box (i3 y0 y1 y2).cells)), (.t 6, some (.one (iA k)))])
    (fun k => k ≤ 3 ∧ upto2 mayM [x0, x1, x2] [y0, y1, y2] k) (fun k => 3 - k) 0 ⟨by omega, .zero⟩ fgs ?_
  rintro k ⟨hk, hu⟩
  by_cases hk3 : k < 3
  rotate_left
  · have : k = 3 := by omega
    subst this
    (refine wlk ?_)
    (first | (refine finR (.tmp rfl .nil) rfl rfl ?_) | (refine finN (.tmp rfl .nil) rfl rfl ?_))
    exact Xb (b := true) hu.all.symm
  obtain ⟨x, hx, hx', hx''⟩ := i3_at (x0 := x0) (x1 := x1) (x2 := x2) hk3
  obtain ⟨y, hy, hy', _⟩ := i3_at (x0 := y0) (x1 := y1) (x2 := y2) hk3
  by_cases g2 : x = y
  · (refine wlk ?_)
    exact ⟨k + 1, ⟨by omega, hu.succ hx' hy' (by simp only [mayM, decide_eq_true_eq]; omega)⟩, fgs, by omega⟩
  by_cases g2 : x = -1
  · (refine wlk ?_)
    exact ⟨k + 1, ⟨by omega, hu.succ hx' hy' (by simp only [mayM, decide_eq_true_eq]; omega)⟩, fgs, by omega⟩
  by_cases g2 : x = 0
  · by_cases g4 : 0 < y
    · (refine wlk ?_)
      exact ⟨k + 1, ⟨by omega, hu.succ hx' hy' (by simp only [mayM, decide_eq_true_eq]; omega)⟩, fgs, by omega⟩
    · (refine wlk ?_)
      (first | (refine finR (.tmp rfl .nil) rfl rfl ?_) | (refine finN (.tmp rfl .nil) rfl rfl ?_))
      exact Xb (b := false) (upto2.no hx' hy' (by simp only [mayM, decide_eq_false_iff_not]; omega)).symm
  · (refine wlk ?_)
    (first | (refine finR (.tmp rfl .nil) rfl rfl ?_) | (refine finN (.tmp rfl .nil) rfl rfl ?_))
    exact Xb (b := false) (upto2.no hx' hy' (by simp only [mayM, decide_eq_false_iff_not]; omega)).symm

set_option maxHeartbeats 4000000 in
set_option maxRecDepth 100000 in
theorem pmayM (x0 x1 x2 y0 y1 y2 : Int) : FnD Try.prog 33 [i3 x0 x1 x2, i3 y0 y1 y2] (.one (bA (mayM x0 y0 && (mayM x1 y1 && mayM x2 y2)))) := by
  refine Fn.of Try.func33 rfl Try.ntmps33 rfl (Nat.le_of_ble_eq_true rfl) ?_
  (refine wlk ?_)
  refine dwp_loop (fun k : Nat => [(.t 3, some (.one (.c (.ptr 3 0)))), (.b 3, some (.box (i3 y0 y1 y2).cells)), (.t 8, some (.one (i3 x0 x1 x2))), (.t 9, some (.one (iA k)))])
    (fun k => k ≤ 3 ∧ upto2 mayM [x0, x1, x2] [y0, y1, y2] k) (fun k => 3 - k) 0 ⟨by omega, .zero⟩ fgs ?_
  rintro k ⟨hk, hu⟩
  by_cases hk3 : k < 3
  rotate_left
  · have : k = 3 := by omega
    subst this
    (refine wlk ?_)
    (first | (refine finR (.tmp rfl .nil) rfl rfl ?_) | (refine finN (.tmp rfl .nil) rfl rfl ?_))
    exact Xb (b := true) hu.all.symm
  obtain ⟨x, hx, hx', hx''⟩ := i3_at (x0 := x0) (x1 := x1) (x2 := x2) hk3
  obtain ⟨y, hy, hy', _⟩ := i3_at (x0 := y0) (x1 := y1) (x2 := y2) hk3
  by_cases g2 : x = y
  · (refine wlk ?_)
    exact ⟨k + 1, ⟨by omega, hu.succ hx' hy' (by simp only [mayM, decide_eq_true_eq]; omega)⟩, fgs, by omega⟩
  by_cases g2 : x = -1
  · (refine wlk ?_)
    exact ⟨k + 1, ⟨by omega, hu.succ hx' hy' (by simp only [mayM, decide_eq_true_eq]; omega)⟩, fgs, by omega⟩
  by_cases g2 : x = 0
  · by_cases g4 : 0 < y
    · (refine wlk ?_)
      exact ⟨k + 1, ⟨by omega, hu.succ hx' hy' (by simp only [mayM, decide_eq_true_eq]; omega)⟩, fgs, by omega⟩
    · (refine wlk ?_)
      (first | (refine finR (.tmp rfl .nil) rfl rfl ?_) | (refine finN (.tmp rfl .nil) rfl rfl ?_))
      exact Xb (b := false) (upto2.no hx' hy' (by simp only [mayM, decide_eq_false_iff_not]; omega)).symm
  · (refine wlk ?_)
    (first | (refine finR (.tmp rfl .nil) rfl rfl ?_) | (refine finN (.tmp rfl .nil) rfl rfl ?_))
    exact Xb (b := false) (upto2.no hx' hy' (by simp only [mayM, decide_eq_false_iff_not]; omega)).symm
end Go.Proofs.Ytmanhdacnkpclaa

/- What functions do: what is found; places. -/
namespace Go.Proofs.Ytmanhdacnkpclaa
set_option linter.unusedVariables false
set_option linter.unusedSimpArgs false
open Go.RowKit

set_option maxRecDepth 100000 in
theorem rsameInts (a b : List Int) : FnD Try.prog 35 [lA Int.d a, lA Int.d b] (.one (bA (decide (a = b)))) := by
  refine Fn.of Try.func35 rfl Try.ntmps35 rfl (Nat.le_of_ble_eq_true rfl) ?_
  refine dwp_len (t := 0) rfl fun hl => ?_
  simp only [List.length_map] at hl
  by_cases h3 : a.length = b.length
  rotate_left
  · (refine wlk ?_)
    (first | (refine finR (.tmp rfl .nil) rfl rfl ?_) | (refine finN (.tmp rfl .nil) rfl rfl ?_))
    exact Xb (b := false) (decide_eq_false (fun e => h3 (by rw [e]))).symm
  (refine wlk ?_)
  refine dwp_loop (fun k : Nat => [(.t 0, some (.one (lA Int.d a))), (.t 1, some (.one (lA Int.d b))), (.t 12, some (.one (iA a.length))), (.t 13, some (.one (iA k)))])
    (fun k => k ≤ a.length ∧ a.take k = b.take k) (fun k => a.length - k) 0 ⟨by omega, rfl⟩ fgs ?_
  rintro k ⟨hk, htk⟩
  by_cases hkl : k < a.length
  · obtain ⟨x, hx⟩ := get_of_lt hkl
    obtain ⟨y, hy⟩ := get_of_lt (s := b) (k := k) (by omega)
    by_cases hxy : x = y
    · (refine wlk ?_)
      exact ⟨k + 1, ⟨by omega, by rw [take_succ_of hx, take_succ_of hy, htk, hxy]⟩, fgs, by omega⟩
    · (refine wlk ?_)
      (first | (refine finR (.tmp rfl .nil) rfl rfl ?_) | (refine finN (.tmp rfl .nil) rfl rfl ?_))
      exact Xb (b := false) (decide_eq_false (fun e => hxy (by rw [e, hy] at hx; injection hx with e; exact e.symm))).symm
  · have : k = a.length := by omega
    subst this
    (refine wlk ?_)
    (first | (refine finR (.tmp rfl .nil) rfl rfl ?_) | (refine finN (.tmp rfl .nil) rfl rfl ?_))
    exact Xb (b := true) (decide_eq_true (by rw [List.take_length, h3, List.take_length] at htk; exact htk)).symm

set_option maxRecDepth 100000 in
theorem pfind (l : List Tm) (t : Tm) (hlen : l.length ≤ 4000000000000) : FnD Try.prog 36 [lA Tm.d l, tA t] (.one (lA Int.d (finds t 0 l))) := by
  refine Fn.of Try.func36 rfl Try.ntmps36 rfl (Nat.le_of_ble_eq_true rfl) ?_
  (refine wlk ?_)
  (refine SqA.b1 (op_call none rfl rfl rfl (by kernel_rfl) (FnD.use (pkey t)) rfl rfl rfl rfl rfl rfl) rfl rfl ?_)
  (refine wlk ?_)
  refine dwp_loop (fun k : Nat => [(.t 3, some (.one (.c (.ptr 3 0)))), (.b 3, some (.box (tA t).cells)), (.t 5, some (.one (.c (.own 3 1 ((finds t 0 (l.take k)).map Int.d))))), (.t 6, some (.one (.c (.ptr 6 0)))), (.b 6, some (.box (i3 (mark t []) (mark t [0]) (mark t [1])).cells)),
    (.t 11, some (.one (lA Tm.d l))), (.t 12, some (.one (iA l.length))), (.t 13, some (.one (iA k)))])
    (fun k => k ≤ l.length) (fun k => l.length - k) 0 (by omega) ((Wk.nilOwn (d := 5) (E := 3) (m := 1) rfl).trans fgs) ?_
  intro k hk
  by_cases hkl : k < l.length
  · obtain ⟨x, hx⟩ := get_of_lt hkl
    have hfl := finds_len t (l.take (k + 1)) 0
    simp only [List.length_take] at hfl
    have hsn := finds_snoc t hx
    have hc : FnD Try.prog 31 [i3 (mark x []) (mark x [0]) (mark x [1]), i3 (mark t []) (mark t [0]) (mark t [1])] (.one (bA (mayK x t))) := pmayU _ _ _ _ _ _
    cases hm : mayK x t
    · rw [hm] at hc
      rw [hm] at hsn
      simp only [Bool.false_eq_true, if_false, List.append_nil] at hsn
      (refine wlk ?_)
      (refine SqA.b1 (op_call none rfl rfl rfl (by kernel_rfl) (FnD.use (pkey x)) rfl rfl rfl rfl rfl rfl) rfl rfl ?_)
      (refine wlk ?_)
      (refine SqA.b1 (op_call none rfl rfl rfl (by kernel_rfl) (FnD.use (hc)) rfl rfl rfl rfl rfl rfl) rfl rfl ?_)
      (refine wlk ?_)
      refine ⟨k + 1, by omega, ?_, by omega⟩
      rw [hsn]
      exact fgs
    · rw [hm] at hc
      rw [hm, if_pos rfl] at hsn
      have hsn' := hsn.symm
      (refine wlk ?_)
      (refine SqA.b1 (op_call none rfl rfl rfl (by kernel_rfl) (FnD.use (pkey x)) rfl rfl rfl rfl rfl rfl) rfl rfl ?_)
      (refine wlk ?_)
      (refine SqA.b1 (op_call none rfl rfl rfl (by kernel_rfl) (FnD.use (hc)) rfl rfl rfl rfl rfl rfl) rfl rfl ?_)
      (refine wlk ?_)
      (refine SqA.b1 (op_bsT (T := TB) (f := Int.d) [(k : Int)] rfl rfl rfl rfl rfl rfl rfl rfl rfl rfl rfl) rfl rfl ?_)
      (refine wlk ?_)
      exact ⟨k + 1, by omega, fgs, by omega⟩
  · have : k = l.length := by omega
    subst this
    rw [List.take_length]
    refine dwp_wk (Wk.freezeAt (d := 5) rfl) ?_
    (refine wlk ?_)
    (first | (refine finR (.tmp rfl .nil) rfl rfl ?_) | (refine finN (.tmp rfl .nil) rfl rfl ?_))
    exact Xl (f := Int.d) (b := finds t 0 l) rfl
end Go.Proofs.Ytmanhdacnkpclaa

/- What functions do: all terms of a clause. -/
namespace Go.Proofs.Ytmanhdacnkpclaa
set_option linter.unusedVariables false
set_option linter.unusedSimpArgs false
open Go.RowKit

def tmsOf (t : Tm) : List Tm := (places t).map (fun p => (at_ t p).1)
def allT (c : List Lt) : List Tm := c.flatMap (fun q => tmsOf q.left ++ tmsOf q.right)
theorem allT_snoc {c : List Lt} {k : Nat} {x : Lt} (h : c[k]? = some x) : allT (c.take (k + 1)) = allT (c.take k) ++ (tmsOf x.left ++ tmsOf x.right) := by
  rw [List.take_add_one, h]; simp [allT]
theorem tmsOf_len (t : Tm) : (tmsOf t).length ≤ t.size := by
  have := places_len t
  simpa [tmsOf] using this
theorem allT_len : ∀ (c : List Lt), (∀ q ∈ c, q.left.size ≤ 1000 ∧ q.right.size ≤ 1000) → (allT c).length ≤ 2000 * c.length
  | [], _ => by simp [allT]
  | q :: c, h => by
    have h1 := allT_len c fun q hq => h q (by simp [hq])
    have h2 := h q (by simp)
    have h3 := tmsOf_len q.left
    have h4 := tmsOf_len q.right
    simp only [allT, List.flatMap_cons, List.length_append, List.length_cons] at h1 ⊢
    omega

set_option maxHeartbeats 4000000 in
set_option maxRecDepth 100000 in
theorem pall (c : List Lt) (hc4 : c.length ≤ 1000) (hsz : ∀ q ∈ c, q.left.size ≤ 1000 ∧ q.right.size ≤ 1000) : FnD Try.prog 37 [lA Lt.d c] (.one (lA Tm.d (allT c))) := by
  refine Fn.of Try.func37 rfl Try.ntmps37 rfl (Nat.le_of_ble_eq_true rfl) ?_
  (refine wlk ?_)
  refine dwp_loop (fun k : Nat => [(.t 3, some (.one (.c (.own 26 3 ((allT (c.take k)).map Tm.d))))), (.t 12, some (.one (lA Lt.d c))), (.t 13, some (.one (iA c.length))), (.t 14, some (.one (iA k)))])
    (fun k => k ≤ c.length) (fun k => c.length - k) 0 (by omega) ((Wk.nilOwn (d := 3) (E := 26) (m := 3) rfl).trans fgs) ?_
  intro k hk
  by_cases hkl : k < c.length
  · obtain ⟨x, hx⟩ := get_of_lt hkl
    have hxs := hsz x (List.mem_of_getElem? hx)
    have hal := allT_len (c.take k) fun q hq => hsz q (List.mem_of_mem_take hq)
    simp only [List.length_take] at hal
    have hsn := allT_snoc hx
    have htl := tmsOf_len x.left
    (refine wlk ?_)
    (refine SqA.b1 (op_bsT (T := TB) (f := Tm.d) [x.left, x.right] rfl rfl rfl rfl rfl rfl rfl rfl rfl rfl rfl) rfl rfl ?_)
    (refine wlk ?_)
    refine dwp_loop (fun j : Nat => [(.t 3, some (.one (.c (.own 26 3 ((allT (c.take k) ++ ([x.left, x.right].take j).flatMap tmsOf).map Tm.d))))), (.t 12, some (.one (lA Lt.d c))), (.t 13, some (.one (iA c.length))), (.t 14, some (.one (iA k))),
      (.t 22, some (.one (lA Tm.d [x.left, x.right]))), (.t 23, some (.one (iA (2 : Nat)))), (.t 24, some (.one (iA j)))])
      (fun j => j ≤ 2) (fun j => 2 - j) 0 (by omega) ?_ ?_
    · have e : allT (c.take k) = allT (c.take k) ++ ([x.left, x.right].take 0).flatMap tmsOf := by simp
      rw [← e]
      exact fgs
    intro j hj
    by_cases hj2 : j < 2
    · obtain ⟨y, hy, hys, hlen, hstep⟩ : ∃ y, [x.left, x.right][j]? = some y ∧ y.size ≤ 1000 ∧ (([x.left, x.right].take j).flatMap tmsOf).length ≤ 1000 ∧ ([x.left, x.right].take (j + 1)).flatMap tmsOf = ([x.left, x.right].take j).flatMap tmsOf ++ tmsOf y := by
        rcases (show j = 0 ∨ j = 1 by omega) with rfl | rfl
        · exact ⟨x.left, rfl, hxs.1, by simp, by simp⟩
        · exact ⟨x.right, rfl, hxs.2, by simp; omega, by simp⟩
      have hpl := places_len y
      have hpd := places_deep y
      generalize hM : ([x.left, x.right].take j).flatMap tmsOf = M at hlen hstep
      (refine wlk ?_)
      (refine SqA.b1 (op_call none rfl rfl rfl (by kernel_rfl) (FnD.use (pplaces y (by omega))) rfl rfl rfl rfl rfl rfl) rfl rfl ?_)
      (refine wlk ?_)
      refine dwp_loop (fun i : Nat => [(.t 3, some (.one (.c (.own 26 3 ((allT (c.take k) ++ M ++ ((places y).take i).map (fun p => (at_ y p).1)).map Tm.d))))), (.t 12, some (.one (lA Lt.d c))), (.t 13, some (.one (iA c.length))), (.t 14, some (.one (iA k))),
        (.t 22, some (.one (lA Tm.d [x.left, x.right]))), (.t 23, some (.one (iA (2 : Nat)))), (.t 24, some (.one (iA j))), (.t 7, some (.one (.c (.ptr 7 0)))), (.b 7, some (.box (tA y).cells)), (.t 29, some (.one (lA Is.d (places y)))), (.t 30, some (.one (iA (places y).length))), (.t 31, some (.one (iA i)))])
        (fun i => i ≤ (places y).length) (fun i => (places y).length - i) 0 (by omega) ?_ ?_
      · have e : allT (c.take k) ++ M = allT (c.take k) ++ M ++ ((places y).take 0).map (fun p => (at_ y p).1) := by simp
        rw [← e]
        exact fgs
      intro i hi
      by_cases hil : i < (places y).length
      · obtain ⟨p, hp⟩ := get_of_lt hil
        have hs2 : (allT (c.take k) ++ M ++ ((places y).take i).map (fun p => (at_ y p).1)) ++ [(at_ y p).1] = allT (c.take k) ++ M ++ ((places y).take (i + 1)).map (fun p => (at_ y p).1) := by
          rw [← snoc (fun p => (at_ y p).1) hp]; simp
        (refine wlk ?_)
        (refine SqA.b1 (op_call none rfl rfl rfl (by kernel_rfl) (FnD.use (pat p y)) rfl rfl rfl rfl rfl rfl) rfl rfl ?_)
        (refine wlk ?_)
        (refine SqA.b1 (op_bsT (T := TB) (f := Tm.d) [(at_ y p).1] rfl rfl rfl rfl rfl rfl rfl rfl rfl rfl rfl) rfl rfl ?_)
        (refine wlk ?_)
        exact ⟨i + 1, by omega, fgs, by omega⟩
      · have : i = (places y).length := by omega
        subst this
        have e : allT (c.take k) ++ M ++ ((places y).take (places y).length).map (fun p => (at_ y p).1) = allT (c.take k) ++ ([x.left, x.right].take (j + 1)).flatMap tmsOf := by
          rw [hstep, List.take_length, List.append_assoc]; rfl
        rw [e]
        (refine wlk ?_)
        exact ⟨j + 1, by omega, fgs, by omega⟩
    · have : j = 2 := by omega
      subst this
      have e : allT (c.take k) ++ ([x.left, x.right].take 2).flatMap tmsOf = allT (c.take (k + 1)) := by rw [hsn]; simp
      rw [e]
      (refine wlk ?_)
      exact ⟨k + 1, by omega, fgs, by omega⟩
  · have : k = c.length := by omega
    subst this
    rw [List.take_length]
    refine dwp_wk (Wk.freezeAt (d := 3) rfl) ?_
    (refine wlk ?_)
    (first | (refine finR (.tmp rfl .nil) rfl rfl ?_) | (refine finN (.tmp rfl .nil) rfl rfl ?_))
    exact Xl (f := Tm.d) (b := allT c) rfl
end Go.Proofs.Ytmanhdacnkpclaa
