/- Variables, where the list is long. -/
import Derived.Test.YtmanhdacnkpclaaDoorCl
import Derived.Test.YtmanhdacnkpclaaDoorD3
namespace Go.Proofs.YtmanhdacnkpclaaDoor
set_option linter.all false
open Go.RowKit

set_option maxRecDepth 100000 in
theorem cloneIW (l : List Int) (hl : l.length ≤ 17592186044414) : FnD Tryd.prog 81 [lA Int.d l] (.one (.c (.own 3 1 (l.map Int.d)))) := by
  cases l with
  | nil =>
    refine FnD.ofNil 0 rfl fun a c hc => ?_
    refine Fn.of Tryd.func81 rfl Tryd.ntmps81 rfl (Nat.le_of_ble_eq_true rfl) ?_
    cases a with
    | none =>
      (refine wlk ?_)
      (refine SqA.b1 (op_bin rfl rfl rfl rfl (nvInt c)) rfl rfl ?_)
      (refine wlk ?_)
      refine fin_wk (fun n => Wk.nilOwn (d := 2) (E := 3) (m := 1) rfl) ?_
      refine finO (E := _) rfl ?_
      rfl
    | some a =>
      (refine wlk ?_)
      (refine SqA.b1 (op_bin rfl rfl rfl rfl (nqInt a 0 c)) rfl rfl ?_)
      (refine wlk ?_)
      (refine SqA.b3 (Op1.vaIn (t := 6) rfl hc (op_appT (f := Int.d) (l := []) (es := []) (rs := []) (T := TB) rfl rfl rfl rfl rfl rfl (by decide) (by decide))) rfl rfl ?_)
      (refine wlk ?_)
      refine finO (E := _) rfl ?_
      rfl
  | cons x l =>
    generalize hy : x :: l = y at *
    have hy0 : 0 < (y.map Int.d).length := by rw [← hy]; simp
    have hl1 : ([] : List Int) ++ y = y := rfl
    refine Fn.of Tryd.func81 rfl Tryd.ntmps81 rfl (Nat.le_of_ble_eq_true rfl) ?_
    (refine wlk ?_)
    (refine SqA.b1 (op_eqNil rfl rfl rfl rfl nqInt hy0) rfl rfl ?_)
    (refine wlk ?_)
    refine finO (E := _) rfl ?_
    rfl
set_option maxHeartbeats 4000000 in
set_option maxRecDepth 100000 in
theorem pvarsW : ∀ (t : Tm) (l : List Int), l.length + t.size ≤ 17592186044415 → FnD Tryd.prog 39 [lA Int.d l, tA t] (.one (lA Int.d (vars l t))) := by
  refine Tm.ind ?_
  intro v n as_ ih l hsz
  refine Fn.of Tryd.func39 rfl Tryd.ntmps39 rfl (Nat.le_of_ble_eq_true rfl) ?_
  cases v
  case false =>
    simp only [Tm.size] at hsz
    have hll := sizes_len as_
    (refine wlk ?_)
    refine dwp_loop (fun k : Nat => [(.t 0, some (.one (lA Int.d (varss l (as_.take k))))), (.t 22, some (.one (lA Tm.d as_))), (.t 23, some (.one (iA as_.length))), (.t 24, some (.one (iA k)))])
      (fun k => k ≤ as_.length) (fun k => as_.length - k) 0 (by omega) fgs ?_
    intro k hk
    by_cases hkl : k < as_.length
    · obtain ⟨x, hx⟩ := get_of_lt hkl
      have h1 := varss_len l (as_.take k)
      have h2 := sizes_take_succ as_ k x hx
      have h3 := sizes_take_le as_ (k + 1)
      have e := varss_take (acc := l) hx
      (refine wlk ?_)
      (refine SqA.b1 (op_call none rfl rfl rfl (by kernel_rfl) (FnD.use (ih x (List.mem_of_getElem? hx) (varss l (as_.take k)) (by omega))) rfl rfl rfl rfl rfl rfl) rfl rfl ?_)
      rw [← e]
      (refine wlk ?_)
      exact ⟨k + 1, by omega, fgs, by omega⟩
    · have : k = as_.length := by omega
      subst this
      rw [List.take_length]
      (refine wlk ?_)
      (first | (refine finR (.tmp rfl .nil) rfl rfl ?_) | (refine finN (.tmp rfl .nil) rfl rfl ?_))
      exact Xl (f := Int.d) (b := varss l as_) (by simp [vars])
  case true =>
    have hc := ccontI l n
    by_cases hm : n ∈ l
    · rw [show l.contains n = true by simpa [List.contains_iff_mem] using hm] at hc
      (refine wlk ?_)
      (refine SqA.b1 (op_call none rfl rfl rfl (by kernel_rfl) (FnD.use (hc)) rfl rfl rfl rfl rfl rfl) rfl rfl ?_)
      (refine wlk ?_)
      (first | (refine finR (.tmp rfl .nil) rfl rfl ?_) | (refine finN (.tmp rfl .nil) rfl rfl ?_))
      exact Xl (f := Int.d) (b := l) (by simp only [vars]; rw [if_pos hm])
    · rw [show l.contains n = false by simp [hm]] at hc
      have hl2 : (l ++ [n]).length ≤ 17592186044415 := by simp [Tm.size] at hsz ⊢; omega
      (refine wlk ?_)
      (refine SqA.b1 (op_call none rfl rfl rfl (by kernel_rfl) (FnD.use (hc)) rfl rfl rfl rfl rfl rfl) rfl rfl ?_)
      (refine wlk ?_)
      (refine SqA.b1 (op_call none rfl rfl rfl (by kernel_rfl) (FnD.use (cloneIW l (by simp [Tm.size] at hsz; omega))) rfl rfl rfl rfl rfl rfl) rfl rfl ?_)
      (refine wlk ?_)
      (refine SqA.b1 (op_bsT (T := TB) (f := Int.d) [n] rfl rfl rfl rfl rfl rfl rfl rfl rfl rfl rfl) rfl rfl ?_)
      (refine wlk ?_)
      refine fin_wk (fun n => Wk.freezeAt (d := 4) rfl) ?_
      (first | (refine finR (.tmp rfl .nil) rfl rfl ?_) | (refine finN (.tmp rfl .nil) rfl rfl ?_))
      exact Xl (f := Int.d) (b := l ++ [n]) (by simp only [vars]; rw [if_neg hm])
set_option maxHeartbeats 4000000 in
set_option maxRecDepth 100000 in
theorem rvarsW : ∀ (t : Tm) (l : List Int), l.length + t.size ≤ 17592186044415 → FnD Tryd.prog 40 [lA Int.d l, tA t] (.one (lA Int.d (vars l t))) := by
  refine Tm.ind ?_
  intro v n as_ ih l hsz
  refine Fn.of Tryd.func40 rfl Tryd.ntmps40 rfl (Nat.le_of_ble_eq_true rfl) ?_
  cases v
  case false =>
    simp only [Tm.size] at hsz
    have hll := sizes_len as_
    (refine wlk ?_)
    refine dwp_loop (fun k : Nat => [(.t 0, some (.one (lA Int.d (varss l (as_.take k))))), (.t 13, some (.one (lA Tm.d as_))), (.t 14, some (.one (iA as_.length))), (.t 15, some (.one (iA k)))])
      (fun k => k ≤ as_.length) (fun k => as_.length - k) 0 (by omega) fgs ?_
    intro k hk
    by_cases hkl : k < as_.length
    · obtain ⟨x, hx⟩ := get_of_lt hkl
      have h1 := varss_len l (as_.take k)
      have h2 := sizes_take_succ as_ k x hx
      have h3 := sizes_take_le as_ (k + 1)
      have e := varss_take (acc := l) hx
      (refine wlk ?_)
      (refine SqA.b1 (op_call none rfl rfl rfl (by kernel_rfl) (FnD.use (ih x (List.mem_of_getElem? hx) (varss l (as_.take k)) (by omega))) rfl rfl rfl rfl rfl rfl) rfl rfl ?_)
      rw [← e]
      (refine wlk ?_)
      exact ⟨k + 1, by omega, fgs, by omega⟩
    · have : k = as_.length := by omega
      subst this
      rw [List.take_length]
      (refine wlk ?_)
      (first | (refine finR (.tmp rfl .nil) rfl rfl ?_) | (refine finN (.tmp rfl .nil) rfl rfl ?_))
      exact Xl (f := Int.d) (b := varss l as_) (by simp [vars])
  case true =>
    (refine wlk ?_)
    refine dwp_loop (fun k : Nat => [(.t 0, some (.one (lA Int.d l))), (.t 3, some (.one (.c (.ptr 3 0)))), (.b 3, some (.box (tA ⟨true, n, as_⟩).cells)), (.t 24, some (.one (lA Int.d l))), (.t 25, some (.one (iA l.length))), (.t 26, some (.one (iA k)))])
      (fun k => k ≤ l.length ∧ ∀ j x, j < k → l[j]? = some x → x ≠ n) (fun k => l.length - k) 0 ⟨by omega, fun j x h => absurd h (by omega)⟩ fgs ?_
    rintro k ⟨hk, hno⟩
    by_cases hkl : k < l.length
    · obtain ⟨x, hx⟩ := get_of_lt hkl
      by_cases hxn : x = n
      · (refine wlk ?_)
        (first | (refine finR (.tmp rfl .nil) rfl rfl ?_) | (refine finN (.tmp rfl .nil) rfl rfl ?_))
        exact Xl (f := Int.d) (b := l) (by simp only [vars]; rw [if_pos (hxn ▸ List.mem_of_getElem? hx)])
      · (refine wlk ?_)
        exact ⟨k + 1, ⟨by omega, upto_succ hno hx hxn⟩, fgs, by omega⟩
    · have hnm : n ∉ l := fun hm => by
        obtain ⟨j, hj, e⟩ := List.getElem_of_mem hm
        exact hno j n (by omega) (by rw [List.getElem?_eq_getElem hj, e]) rfl
      have hl1 : ([] : List Int) ++ l = l := rfl
      have hl2 : (l ++ [n]).length ≤ 17592186044415 := by simp [Tm.size] at hsz ⊢; omega
      (refine wlk ?_)
      (refine SqA.b1 (op_bsT (T := TB) (f := Int.d) [n] rfl rfl rfl rfl rfl rfl rfl rfl rfl rfl rfl) rfl rfl ?_)
      (refine wlk ?_)
      refine fin_wk (fun n => Wk.freezeAt (d := 4) rfl) ?_
      (first | (refine finR (.tmp rfl .nil) rfl rfl ?_) | (refine finN (.tmp rfl .nil) rfl rfl ?_))
      exact Xl (f := Int.d) (b := l ++ [n]) (by simp only [vars]; rw [if_neg hnm])

end Go.Proofs.YtmanhdacnkpclaaDoor
