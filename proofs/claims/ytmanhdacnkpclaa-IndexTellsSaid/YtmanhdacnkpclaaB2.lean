/- What functions do: Same, Size, WrongSig, Wrong. -/
import Derived.Test.YtmanhdacnkpclaaGZ
import Derived.Test.YtmanhdacnkpclaaPl1
namespace Go.Proofs.Ytmanhdacnkpclaa
set_option linter.unusedVariables false
set_option linter.unusedSimpArgs false
open Go.RowKit

theorem sizes_len : ∀ l : List Tm, l.length ≤ Tm.sizes l
  | [] => by simp
  | ⟨v, n, l'⟩ :: l => by have := sizes_len l; simp [Tm.sizes, Tm.size]; omega
theorem size_at {l : List Tm} {k : Nat} {x : Tm} (h : l[k]? = some x) : x.size ≤ Tm.sizes l := by have := sizes_take_succ l k x h; have := sizes_take_le l (k + 1); omega
theorem wrapw (a b : Int) : wrap64 (wrap64 a + wrap64 b) = wrap64 (a + b) := by unfold wrap64; omega

set_option maxRecDepth 100000 in
theorem rsame : ∀ t u : Tm, FnD Try.prog 20 [tA t, tA u] (.one (bA (t.same u))) := by
  refine Tm.ind ?_
  rintro v n l ih ⟨v', n', l'⟩
  refine Fn.of Try.func20 rfl Try.ntmps20 rfl (Nat.le_of_ble_eq_true rfl) ?_
  refine dwp_lenA (t := 0) (q := 2) rfl rfl fun hl => ?_
  simp only [List.length_map] at hl
  rcases Decidable.em (v = v') with rfl | h1
  rotate_left
  · have h1' : (v != v') = true := by simpa using h1
    (refine wlk ?_)
    (first | (refine finR (.tmp rfl .nil) rfl rfl ?_) | (refine finN (.tmp rfl .nil) rfl rfl ?_))
    exact Xb (b := false) (by simp [Tm.same, h1])
  have h1' : (v != v) = false := by simp
  rcases Decidable.em (n = n') with rfl | h2
  rotate_left
  · (refine wlk ?_)
    (first | (refine finR (.tmp rfl .nil) rfl rfl ?_) | (refine finN (.tmp rfl .nil) rfl rfl ?_))
    exact Xb (b := false) (by simp [Tm.same, h2])
  rcases Decidable.em (l.length = l'.length) with h3 | h3
  rotate_left
  · (refine wlk ?_)
    (first | (refine finR (.tmp rfl .nil) rfl rfl ?_) | (refine finN (.tmp rfl .nil) rfl rfl ?_))
    exact Xb (b := false) (by simp [Tm.same, Tm.sames_len h3])
  (refine wlk ?_)
  refine dwp_loop (fun k : Nat => [(.t 2, some (.one (.c (.ptr 2 0)))), (.b 2, some (.box (tA ⟨v, n, l⟩).cells)), (.t 3, some (.one (.c (.ptr 3 0)))), (.b 3, some (.box (tA ⟨v, n, l'⟩).cells)), (.t 29, some (.one (iA l.length))), (.t 30, some (.one (iA k)))])
    (fun k => k ≤ l.length ∧ l.take k = l'.take k) (fun k => l.length - k) 0 ⟨by omega, rfl⟩ fgs ?_
  rintro k ⟨hk, htk⟩
  by_cases hkl : k < l.length
  · obtain ⟨x, hx⟩ := get_of_lt hkl
    obtain ⟨y, hy⟩ := get_of_lt (s := l') (k := k) (by omega)
    cases hxy : x.same y
    · have hc := ih x (List.mem_of_getElem? hx) y
      rw [hxy] at hc
      (refine wlk ?_)
      (refine SqA.b1 (op_call none rfl rfl rfl (by kernel_rfl) (FnD.use (hc)) rfl rfl rfl rfl rfl rfl) rfl rfl ?_)
      (refine wlk ?_)
      (first | (refine finR (.tmp rfl .nil) rfl rfl ?_) | (refine finN (.tmp rfl .nil) rfl rfl ?_))
      exact Xb (b := false) (by simp [Tm.same, Tm.sames_no hx hy hxy])
    · have hc := ih x (List.mem_of_getElem? hx) y
      rw [hxy] at hc
      (refine wlk ?_)
      (refine SqA.b1 (op_call none rfl rfl rfl (by kernel_rfl) (FnD.use (hc)) rfl rfl rfl rfl rfl rfl) rfl rfl ?_)
      (refine wlk ?_)
      exact ⟨k + 1, ⟨by omega, by rw [take_succ_of hx, take_succ_of hy, htk, (Tm.same_iff x y).1 hxy]⟩, fgs, by omega⟩
  · have : k = l.length := by omega
    subst this
    (refine wlk ?_)
    (first | (refine finR (.tmp rfl .nil) rfl rfl ?_) | (refine finN (.tmp rfl .nil) rfl rfl ?_))
    exact Xb (b := true) (by simp [Tm.same, Tm.sames_yes h3 htk])

set_option maxRecDepth 100000 in
theorem eqfT (l l' : List Tm) (ih : ∀ x ∈ l, ∀ y, FnD Try.prog 82 [tA x, tA y] (.one (bA (x.same y)))) :
    FnD Try.prog 128 [lA Tm.d l, lA Tm.d l', .c (.val (.func (.func 82) #[] #[]))] (.one (bA (Tm.sames l l'))) := by
  refine Fn.of Try.func128 rfl Try.ntmps128 rfl (Nat.le_of_ble_eq_true rfl) ?_
  refine dwp_len (t := 0) rfl fun hl => ?_
  simp only [List.length_map] at hl
  rcases Decidable.em (l.length = l'.length) with h3 | h3
  rotate_left
  · (refine wlk ?_)
    (first | (refine finR (.tmp rfl .nil) rfl rfl ?_) | (refine finN (.tmp rfl .nil) rfl rfl ?_))
    exact Xb (b := false) (by simp [Tm.sames_len h3])
  (refine wlk ?_)
  refine dwp_loop (fun k : Nat => [(.t 2, some (.one (.c (.val (.func (.func 82) #[] #[]))))), (.t 1, some (.one (lA Tm.d l'))), (.t 15, some (.one (lA Tm.d l))), (.t 16, some (.one (iA l.length))), (.t 17, some (.one (iA k)))])
    (fun k => k ≤ l.length ∧ l.take k = l'.take k) (fun k => l.length - k) 0 ⟨by omega, rfl⟩ fgs ?_
  rintro k ⟨hk, htk⟩
  by_cases hkl : k < l.length
  · obtain ⟨x, hx⟩ := get_of_lt hkl
    obtain ⟨y, hy⟩ := get_of_lt (s := l') (k := k) (by omega)
    cases hxy : x.same y
    · have hc := ih x (List.mem_of_getElem? hx) y
      rw [hxy] at hc
      (refine wlk ?_)
      (refine SqA.b1 (op_call none rfl rfl rfl (by kernel_rfl) (FnD.use (hc)) rfl rfl rfl rfl rfl rfl) rfl rfl ?_)
      (refine wlk ?_)
      (first | (refine finR (.tmp rfl .nil) rfl rfl ?_) | (refine finN (.tmp rfl .nil) rfl rfl ?_))
      exact Xb (b := false) (by simp [Tm.sames_no hx hy hxy])
    · have hc := ih x (List.mem_of_getElem? hx) y
      rw [hxy] at hc
      (refine wlk ?_)
      (refine SqA.b1 (op_call none rfl rfl rfl (by kernel_rfl) (FnD.use (hc)) rfl rfl rfl rfl rfl rfl) rfl rfl ?_)
      (refine wlk ?_)
      exact ⟨k + 1, ⟨by omega, by rw [take_succ_of hx, take_succ_of hy, htk, (Tm.same_iff x y).1 hxy]⟩, fgs, by omega⟩
  · have : k = l.length := by omega
    subst this
    (refine wlk ?_)
    (first | (refine finR (.tmp rfl .nil) rfl rfl ?_) | (refine finN (.tmp rfl .nil) rfl rfl ?_))
    exact Xb (b := true) (by simp [Tm.sames_yes h3 htk])

set_option maxRecDepth 100000 in
theorem psame : ∀ t u : Tm, FnD Try.prog 82 [tA t, tA u] (.one (bA (t.same u))) := by
  refine Tm.ind ?_
  rintro v n l ih ⟨v', n', l'⟩
  refine Fn.of Try.func82 rfl Try.ntmps82 rfl (Nat.le_of_ble_eq_true rfl) ?_
  rcases Decidable.em (v = v') with rfl | h1
  rotate_left
  · have h1' : (v == v') = false := by simpa using h1
    (refine wlk ?_)
    (first | (refine finR (.tmp rfl .nil) rfl rfl ?_) | (refine finN (.tmp rfl .nil) rfl rfl ?_))
    exact Xb (b := false) (by simp [Tm.same, h1])
  have h1' : (v == v) = true := by simp
  rcases Decidable.em (n = n') with rfl | h2
  rotate_left
  · (refine wlk ?_)
    (first | (refine finR (.tmp rfl .nil) rfl rfl ?_) | (refine finN (.tmp rfl .nil) rfl rfl ?_))
    exact Xb (b := false) (by simp [Tm.same, h2])
  (refine wlk ?_)
  (refine SqA.b1 (op_call none rfl rfl rfl (by kernel_rfl) (FnD.use (eqfT l l' ih)) rfl rfl rfl rfl rfl rfl) rfl rfl ?_)
  (refine wlk ?_)
  (first | (refine finR (.tmp rfl .nil) rfl rfl ?_) | (refine finN (.tmp rfl .nil) rfl rfl ?_))
  exact Xb (b := Tm.sames l l') (by simp [Tm.same])

set_option maxRecDepth 100000 in
theorem rsize : ∀ t : Tm, FnD Try.prog 87 [tA t] (.one (iA (wrap64 t.size))) := by
  refine Tm.ind ?_
  intro v n l ih
  refine Fn.of Try.func87 rfl Try.ntmps87 rfl (Nat.le_of_ble_eq_true rfl) ?_
  refine dwp_lenA (t := 0) (q := 2) rfl rfl fun hl => ?_
  simp only [List.length_map] at hl
  have e0 : iA 1 = iA (wrap64 ((1 + Tm.sizes (l.take 0) : Nat) : Int)) := by simp [Tm.sizes, wrap64]
  (refine wlk ?_)
  refine dwp_loop (fun k : Nat => [(.t 1, some (.one (.c (.ptr 1 0)))), (.b 1, some (.box (tA ⟨v, n, l⟩).cells)), (.t 7, some (.one (iA l.length))), (.t 8, some (.one (iA k))), (.t 3, some (.one (iA (wrap64 ((1 + Tm.sizes (l.take k) : Nat) : Int)))))])
    (fun k => k ≤ l.length) (fun k => l.length - k) 0 (by omega) fgs ?_
  intro k hk
  by_cases hkl : k < l.length
  · obtain ⟨x, hx⟩ := get_of_lt hkl
    have h1 := sizes_take_succ l k x hx
    have e : (1 + Tm.sizes (l.take k) : Nat) + (x.size : Int) = ((1 + Tm.sizes (l.take (k + 1)) : Nat) : Int) := by omega
    (refine wlk ?_)
    (refine SqA.b1 (op_call none rfl rfl rfl (by kernel_rfl) (FnD.use (ih x (List.mem_of_getElem? hx))) rfl rfl rfl rfl rfl rfl) rfl rfl ?_)
    (refine wlk ?_)
    have e2 : (iA (wrap64 (wrap64 ((1 + Tm.sizes (l.take k) : Nat) : Int) + wrap64 x.size))) = iA (wrap64 ((1 + Tm.sizes (l.take (k + 1)) : Nat) : Int)) := by rw [wrapw, e]
    exact ⟨k + 1, by omega, fgs, by omega⟩
  · have : k = l.length := by omega
    subst this
    (refine wlk ?_)
    (first | (refine finR (.tmp rfl .nil) rfl rfl ?_) | (refine finN (.tmp rfl .nil) rfl rfl ?_))
    exact Xi (by rw [List.take_length]; simp [Tm.size])
set_option maxRecDepth 100000 in
theorem psize : ∀ t : Tm, FnD Try.prog 130 [tA t] (.one (iA (wrap64 t.size))) := by
  refine Tm.ind ?_
  intro v n l ih
  refine Fn.of Try.func130 rfl Try.ntmps130 rfl (Nat.le_of_ble_eq_true rfl) ?_
  refine dwp_lenA (t := 0) (q := 2) rfl rfl fun hl => ?_
  simp only [List.length_map] at hl
  have e0 : iA 1 = iA (wrap64 ((1 + Tm.sizes (l.take 0) : Nat) : Int)) := by simp [Tm.sizes, wrap64]
  (refine wlk ?_)
  refine dwp_loop (fun k : Nat => [(.t 1, some (.one (.c (.ptr 1 0)))), (.b 1, some (.box (tA ⟨v, n, l⟩).cells)), (.t 7, some (.one (lA Tm.d l))), (.t 8, some (.one (iA l.length))), (.t 9, some (.one (iA k))), (.t 3, some (.one (iA (wrap64 ((1 + Tm.sizes (l.take k) : Nat) : Int)))))])
    (fun k => k ≤ l.length) (fun k => l.length - k) 0 (by omega) fgs ?_
  intro k hk
  by_cases hkl : k < l.length
  · obtain ⟨x, hx⟩ := get_of_lt hkl
    have h1 := sizes_take_succ l k x hx
    have e : (1 + Tm.sizes (l.take k) : Nat) + (x.size : Int) = ((1 + Tm.sizes (l.take (k + 1)) : Nat) : Int) := by omega
    (refine wlk ?_)
    (refine SqA.b1 (op_call none rfl rfl rfl (by kernel_rfl) (FnD.use (ih x (List.mem_of_getElem? hx))) rfl rfl rfl rfl rfl rfl) rfl rfl ?_)
    (refine wlk ?_)
    have e2 : (iA (wrap64 (wrap64 ((1 + Tm.sizes (l.take k) : Nat) : Int) + wrap64 x.size))) = iA (wrap64 ((1 + Tm.sizes (l.take (k + 1)) : Nat) : Int)) := by rw [wrapw, e]
    exact ⟨k + 1, by omega, fgs, by omega⟩
  · have : k = l.length := by omega
    subst this
    (refine wlk ?_)
    (first | (refine finR (.tmp rfl .nil) rfl rfl ?_) | (refine finN (.tmp rfl .nil) rfl rfl ?_))
    exact Xi (by rw [List.take_length]; simp [Tm.size])
end Go.Proofs.Ytmanhdacnkpclaa
