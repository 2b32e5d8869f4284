/- What functions do: marks and keys. -/
import Derived.Test.YtmanhdacnkpclaaGZ
import Derived.Test.YtmanhdacnkpclaaB3
import Derived.Test.YtmanhdacnkpclaaPl2
namespace Go.Proofs.Ytmanhdacnkpclaa
set_option linter.unusedVariables false
set_option linter.unusedSimpArgs false
open Go.RowKit

set_option maxRecDepth 100000 in
theorem rmark (t : Tm) (p : List Int) (hp : ∀ i ∈ p, 0 ≤ i) : FnD Try.prog 89 [tA t, lA Int.d p] (.one (iA (mark t p))) := by
  refine Fn.of Try.func89 rfl Try.ntmps89 rfl (Nat.le_of_ble_eq_true rfl) ?_
  refine dwp_len (t := 1) rfl fun hl => ?_
  simp only [List.length_map] at hl
  (refine wlk ?_)
  refine dwp_loop (fun x : Nat × Tm => [(.t 2, some (.one (.c (.ptr 2 0)))), (.b 2, some (.box (tA x.2).cells)), (.t 7, some (.one (lA Int.d p))), (.t 8, some (.one (iA p.length))), (.t 9, some (.one (iA x.1)))])
    (fun x => x.1 ≤ p.length ∧ mark t p = mark x.2 (p.drop x.1)) (fun x => p.length - x.1) (0, t) ⟨by omega, rfl⟩ fgs ?_
  rintro ⟨k, v, n, l⟩ ⟨hk, hm⟩
  simp only at hk hm
  by_cases hkl : k < p.length
  · obtain ⟨x, hx⟩ := get_of_lt hkl
    rw [drop_of hx] at hm
    have hx0 := hp x (List.mem_of_getElem? hx)
    cases v
    · by_cases hxl : (l.length : Int) ≤ x
      · (refine wlk ?_)
        (first | (refine finR (.tmp rfl .nil) rfl rfl ?_) | (refine finN (.tmp rfl .nil) rfl rfl ?_))
        exact Xi (b := -2) (by rw [hm]; simp [mark, hxl])
      · obtain ⟨j, rfl⟩ := Int.eq_ofNat_of_zero_le hx0
        obtain ⟨y, hy⟩ := get_of_lt (s := l) (k := j) (by omega)
        (refine wlk ?_)
        exact ⟨(k + 1, y), ⟨by simp only; omega, by rw [hm]; simp [mark, hxl, hy]⟩, fgs, by simp only; omega⟩
    · (refine wlk ?_)
      (first | (refine finR (.tmp rfl .nil) rfl rfl ?_) | (refine finN (.tmp rfl .nil) rfl rfl ?_))
      exact Xi (b := -1) (by rw [hm]; simp [mark])
  · have : k = p.length := by omega
    subst this
    rw [List.drop_length] at hm
    cases v
    · (refine wlk ?_)
      (first | (refine finR (.tmp rfl .nil) rfl rfl ?_) | (refine finN (.tmp rfl .nil) rfl rfl ?_))
      exact Xi (b := wrap64 (n + 1)) (by rw [hm]; simp [mark])
    · (refine wlk ?_)
      (first | (refine finR (.tmp rfl .nil) rfl rfl ?_) | (refine finN (.tmp rfl .nil) rfl rfl ?_))
      exact Xi (b := 0) (by rw [hm]; simp [mark])
set_option maxRecDepth 100000 in
theorem pmark (t : Tm) (p : List Int) (hp : ∀ i ∈ p, 0 ≤ i) : FnD Try.prog 88 [tA t, lA Int.d p] (.one (iA (mark t p))) := by
  refine Fn.of Try.func88 rfl Try.ntmps88 rfl (Nat.le_of_ble_eq_true rfl) ?_
  refine dwp_len (t := 1) rfl fun hl => ?_
  simp only [List.length_map] at hl
  (refine wlk ?_)
  refine dwp_loop (fun x : Nat × Tm => [(.t 2, some (.one (.c (.ptr 2 0)))), (.b 2, some (.box (tA x.2).cells)), (.t 7, some (.one (lA Int.d p))), (.t 8, some (.one (iA p.length))), (.t 9, some (.one (iA x.1)))])
    (fun x => x.1 ≤ p.length ∧ mark t p = mark x.2 (p.drop x.1)) (fun x => p.length - x.1) (0, t) ⟨by omega, rfl⟩ fgs ?_
  rintro ⟨k, v, n, l⟩ ⟨hk, hm⟩
  simp only at hk hm
  by_cases hkl : k < p.length
  · obtain ⟨x, hx⟩ := get_of_lt hkl
    rw [drop_of hx] at hm
    have hx0 := hp x (List.mem_of_getElem? hx)
    cases v
    · by_cases hxl : (l.length : Int) ≤ x
      · (refine wlk ?_)
        (first | (refine finR (.tmp rfl .nil) rfl rfl ?_) | (refine finN (.tmp rfl .nil) rfl rfl ?_))
        exact Xi (b := -2) (by rw [hm]; simp [mark, hxl])
      · obtain ⟨j, rfl⟩ := Int.eq_ofNat_of_zero_le hx0
        obtain ⟨y, hy⟩ := get_of_lt (s := l) (k := j) (by omega)
        (refine wlk ?_)
        exact ⟨(k + 1, y), ⟨by simp only; omega, by rw [hm]; simp [mark, hxl, hy]⟩, fgs, by simp only; omega⟩
    · (refine wlk ?_)
      (first | (refine finR (.tmp rfl .nil) rfl rfl ?_) | (refine finN (.tmp rfl .nil) rfl rfl ?_))
      exact Xi (b := -1) (by rw [hm]; simp [mark])
  · have : k = p.length := by omega
    subst this
    rw [List.drop_length] at hm
    cases v
    · (refine wlk ?_)
      (first | (refine finR (.tmp rfl .nil) rfl rfl ?_) | (refine finN (.tmp rfl .nil) rfl rfl ?_))
      exact Xi (b := wrap64 (n + 1)) (by rw [hm]; simp [mark])
    · (refine wlk ?_)
      (first | (refine finR (.tmp rfl .nil) rfl rfl ?_) | (refine finN (.tmp rfl .nil) rfl rfl ?_))
      exact Xi (b := 0) (by rw [hm]; simp [mark])
set_option maxRecDepth 100000 in
theorem rkey (t : Tm) : FnD Try.prog 30 [tA t] (.one (i3 (mark t []) (mark t [0]) (mark t [1]))) := by
  refine Fn.of Try.func30 rfl Try.ntmps30 rfl (Nat.le_of_ble_eq_true rfl) ?_
  (refine wlk ?_)
  (refine SqA.b1 (op_call none rfl rfl rfl (by kernel_rfl) (FnD.use (FnD.nil (rmark t [] (by simp)) 1 rfl)) rfl rfl rfl rfl rfl rfl) rfl rfl ?_)
  (refine wlk ?_)
  (refine SqA.b1 (op_bsT (T := TB) (f := Int.d) [0] rfl rfl rfl rfl rfl rfl rfl rfl rfl rfl rfl) rfl rfl ?_)
  (refine wlk ?_)
  (refine SqA.b1 (op_call none rfl rfl rfl (by kernel_rfl) (FnD.use (rmark t [0] (by simp))) rfl rfl rfl rfl rfl rfl) rfl rfl ?_)
  (refine wlk ?_)
  (refine SqA.b1 (op_bsT (T := TB) (f := Int.d) [1] rfl rfl rfl rfl rfl rfl rfl rfl rfl rfl rfl) rfl rfl ?_)
  (refine wlk ?_)
  (refine SqA.b1 (op_call none rfl rfl rfl (by kernel_rfl) (FnD.use (rmark t [1] (by simp))) rfl rfl rfl rfl rfl rfl) rfl rfl ?_)
  (refine wlk ?_)
  (first | (refine finR (.cellN rfl rfl (rw_of rfl) rfl rfl .nil) rfl rfl ?_) | (refine finN (.cellN rfl rfl (rw_of rfl) rfl rfl .nil) rfl rfl ?_))
  rfl
set_option maxRecDepth 100000 in
theorem pkey (t : Tm) : FnD Try.prog 29 [tA t] (.one (i3 (mark t []) (mark t [0]) (mark t [1]))) := by
  refine Fn.of Try.func29 rfl Try.ntmps29 rfl (Nat.le_of_ble_eq_true rfl) ?_
  (refine wlk ?_)
  (refine SqA.b1 (op_call none rfl rfl rfl (by kernel_rfl) (FnD.use (FnD.nil (pmark t [] (by simp)) 1 rfl)) rfl rfl rfl rfl rfl rfl) rfl rfl ?_)
  (refine wlk ?_)
  (refine SqA.b1 (op_bsT (T := TB) (f := Int.d) [0] rfl rfl rfl rfl rfl rfl rfl rfl rfl rfl rfl) rfl rfl ?_)
  (refine wlk ?_)
  (refine SqA.b1 (op_call none rfl rfl rfl (by kernel_rfl) (FnD.use (pmark t [0] (by simp))) rfl rfl rfl rfl rfl rfl) rfl rfl ?_)
  (refine wlk ?_)
  (refine SqA.b1 (op_bsT (T := TB) (f := Int.d) [1] rfl rfl rfl rfl rfl rfl rfl rfl rfl rfl rfl) rfl rfl ?_)
  (refine wlk ?_)
  (refine SqA.b1 (op_call none rfl rfl rfl (by kernel_rfl) (FnD.use (pmark t [1] (by simp))) rfl rfl rfl rfl rfl rfl) rfl rfl ?_)
  (refine wlk ?_)
  (first | (refine finR (.cellN rfl rfl (rw_of rfl) rfl rfl .nil) rfl rfl ?_) | (refine finN (.cellN rfl rfl (rw_of rfl) rfl rfl .nil) rfl rfl ?_))
  rfl

end Go.Proofs.Ytmanhdacnkpclaa
