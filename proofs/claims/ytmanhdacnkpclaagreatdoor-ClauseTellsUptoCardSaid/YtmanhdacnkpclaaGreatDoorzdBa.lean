/- What functions do: Apply. -/
import Derived.Test.YtmanhdacnkpclaaGreatDoorzdFe
import Derived.Test.YtmanhdacnkpclaaGreatDoorzdPa1
/- What functions do: Apply. -/
namespace Go.Proofs.YtmanhdacnkpclaaGreatDoor
set_option linter.unusedVariables false
set_option linter.unusedSimpArgs false
open Go.RowKit

set_option maxRecDepth 100000 in
theorem ap (s : List Pr) (hs : s.length ≤ 4000000000000) : ∀ t : Tm, t.size ≤ 2000000000000 → FnD Tryz.prog 23 [lA Pr.d s, tA t] (.one (tA (app s t))) := by
  refine Tm.ind ?_
  intro v n l ih hsz
  refine Fn.of Tryz.func23 rfl Tryz.ntmps23 rfl (Nat.le_of_ble_eq_true rfl) ?_
  cases v
  case true =>
    (refine wlk ?_)
    refine dwp_loop (fun k : Nat => [(.t 12, some (.one (lA Pr.d s))), (.t 13, some (.one (iA s.length))), (.t 14, some (.one (iA k))), (.t 3, some (.one (.c (.ptr 3 0)))), (.b 3, some (.box (tA ⟨true, n, l⟩).cells)), (.t 4, some (.one (.c (.ptr 4 0)))),
      (.b 4, some (.box [.val (.bool false), .val (.int .i64 0), .val (.slice none 0 0)]))]) (fun k => k ≤ s.length ∧ ∀ j p, j < k → s[j]? = some p → p.1 ≠ n) (fun k => s.length - k) 0 ⟨by omega, fun j p h => absurd h (by omega)⟩ fgs ?_
    rintro k ⟨hk, hno⟩
    by_cases hkl : k < s.length
    · obtain ⟨x, hx⟩ := get_of_lt hkl
      by_cases hxn : x.1 = n
      · (refine wlk ?_)
        (first | (refine finR (.cellN rfl rfl (rw_of rfl) rfl rfl .nil) rfl rfl ?_) | (refine finN (.cellN rfl rfl (rw_of rfl) rfl rfl .nil) rfl rfl ?_))
        exact Xt (b := x.2) (by simp [app, findS_at hno hx hxn])
      · (refine wlk ?_)
        exact ⟨k + 1, ⟨by omega, upto_succ hno hx hxn⟩, fgs, by omega⟩
    · (refine wlk ?_)
      (first | (refine finR (.cellN rfl rfl (rw_of rfl) rfl rfl .nil) rfl rfl ?_) | (refine finN (.cellN rfl rfl (rw_of rfl) rfl rfl .nil) rfl rfl ?_))
      exact Xt (b := ⟨true, n, l⟩) (by simp [app, findS_no hno (by omega)])
  case false =>
    have hlen : l.length ≤ Tm.sizes l := by
      clear ih hsz
      induction l with
      | nil => simp
      | cons a l ih => obtain ⟨v', n', l'⟩ := a; simp [Tm.sizes, Tm.size]; omega
    have hsz' : Tm.sizes l ≤ 2000000000000 := by simp [Tm.size] at hsz; omega
    (refine wlk ?_)
    refine dwp_loop (fun k : Nat => [(.t 31, some (.one (lA Tm.d l))), (.t 32, some (.one (iA l.length))), (.t 33, some (.one (iA k))), (.t 0, some (.one (lA Pr.d s))), (.t 7, some (.one (.c (.ptr 7 0)))), (.t 4, some (.one (.c (.ptr 4 0)))),
      (.b 4, some (.box [.val (.bool false), .val (.int .i64 0), .val (.slice none 0 0)])), (.b 7, some (.box [.val (.bool false), .val (.int .i64 n), .own 36 3 (((l.take k).map (app s)).map Tm.d)]))])
      (fun k => k ≤ l.length) (fun k => l.length - k) 0 (by omega) ((Wk.nilOwnB (j := 7) (q := 2) (E := 36) (m := 3) rfl rfl rfl).trans fgs) ?_
    intro k hk
    by_cases hkl : k < l.length
    · obtain ⟨x, hx⟩ := get_of_lt hkl
      have hsn := snoc (app s) hx
      have hxs : x.size ≤ 2000000000000 := by have := sizes_take_succ l k x hx; have := sizes_take_le l (k + 1); omega
      (refine wlk ?_)
      (refine SqA.b1 (op_call none rfl rfl rfl (by kernel_rfl) (FnD.use (ih x (List.mem_of_getElem? hx) hxs)) rfl rfl rfl rfl rfl rfl) rfl rfl ?_)
      (refine wlk ?_)
      (refine SqA.b1 (op_bsT (T := TB) (f := Tm.d) [app s x] rfl rfl rfl rfl rfl rfl rfl rfl rfl rfl rfl) rfl rfl ?_)
      (refine wlk ?_)
      exact ⟨k + 1, by omega, fgs, by omega⟩
    · have : k = l.length := by omega
      subst this
      refine dwp_wk (Wk.freezeB (j := 7) (q := 2) rfl rfl rfl) ?_
      (refine wlk ?_)
      (first | (refine finR (.cellN rfl rfl (rw_of rfl) rfl rfl .nil) rfl rfl ?_) | (refine finN (.cellN rfl rfl (rw_of rfl) rfl rfl .nil) rfl rfl ?_))
      exact Xt (b := ⟨false, n, (l.take l.length).map (app s)⟩) (by simp [app, apps_eq])
end Go.Proofs.YtmanhdacnkpclaaGreatDoor

/- What functions do: Same, Size, WrongSig, Wrong. -/
namespace Go.Proofs.YtmanhdacnkpclaaGreatDoor
set_option linter.unusedVariables false
set_option linter.unusedSimpArgs false
open Go.RowKit

theorem sizes_len : ∀ l : List Tm, l.length ≤ Tm.sizes l
  | [] => by simp
  | ⟨v, n, l'⟩ :: l => by have := sizes_len l; simp [Tm.sizes, Tm.size]; omega
theorem size_at {l : List Tm} {k : Nat} {x : Tm} (h : l[k]? = some x) : x.size ≤ Tm.sizes l := by have := sizes_take_succ l k x h; have := sizes_take_le l (k + 1); omega
theorem wrapw (a b : Int) : wrap64 (wrap64 a + wrap64 b) = wrap64 (a + b) := by unfold wrap64; omega

set_option maxRecDepth 100000 in
theorem rsame : ∀ t u : Tm, FnD Tryz.prog 41 [tA t, tA u] (.one (bA (t.same u))) := by
  refine Tm.ind ?_
  rintro v n l ih ⟨v', n', l'⟩
  refine Fn.of Tryz.func41 rfl Tryz.ntmps41 rfl (Nat.le_of_ble_eq_true rfl) ?_
  refine dwp_lenA (t := 0) (q := 2) rfl rfl fun hl => ?_
  simp only [List.length_map] at hl
  rcases Decidable.em (v = v') with rfl | h1
  rotate_left
  · have h1' : (v != v') = true := by simpa using h1
    (refine wlk ?_)
    (first | (refine finR (.tmp rfl .nil) rfl rfl ?_) | (refine finN (.tmp rfl .nil) rfl rfl ?_))
    exact Xb (b := false) (by simp [Tm.same, h1])
  have h1' : (v != v) = false := by simp
  rcases Decidable.em (n = n') with rfl | h2
  rotate_left
  · (refine wlk ?_)
    (first | (refine finR (.tmp rfl .nil) rfl rfl ?_) | (refine finN (.tmp rfl .nil) rfl rfl ?_))
    exact Xb (b := false) (by simp [Tm.same, h2])
  rcases Decidable.em (l.length = l'.length) with h3 | h3
  rotate_left
  · (refine wlk ?_)
    (first | (refine finR (.tmp rfl .nil) rfl rfl ?_) | (refine finN (.tmp rfl .nil) rfl rfl ?_))
    exact Xb (b := false) (by simp [Tm.same, Tm.sames_len h3])
  (refine wlk ?_)
  refine dwp_loop (fun k : Nat => [(.t 2, some (.one (.c (.ptr 2 0)))), (.b 2, some (.box (tA ⟨v, n, l⟩).cells)), (.t 3, some (.one (.c (.ptr 3 0)))), (.b 3, some (.box (tA ⟨v, n, l'⟩).cells)), (.t 29, some (.one (iA l.length))), (.t 30, some (.one (iA k)))])
    (fun k => k ≤ l.length ∧ l.take k = l'.take k) (fun k => l.length - k) 0 ⟨by omega, rfl⟩ fgs ?_
  rintro k ⟨hk, htk⟩
  by_cases hkl : k < l.length
  · obtain ⟨x, hx⟩ := get_of_lt hkl
    obtain ⟨y, hy⟩ := get_of_lt (s := l') (k := k) (by omega)
    cases hxy : x.same y
    · have hc := ih x (List.mem_of_getElem? hx) y
      rw [hxy] at hc
      (refine wlk ?_)
      (refine SqA.b1 (op_call none rfl rfl rfl (by kernel_rfl) (FnD.use (hc)) rfl rfl rfl rfl rfl rfl) rfl rfl ?_)
      (refine wlk ?_)
      (first | (refine finR (.tmp rfl .nil) rfl rfl ?_) | (refine finN (.tmp rfl .nil) rfl rfl ?_))
      exact Xb (b := false) (by simp [Tm.same, Tm.sames_no hx hy hxy])
    · have hc := ih x (List.mem_of_getElem? hx) y
      rw [hxy] at hc
      (refine wlk ?_)
      (refine SqA.b1 (op_call none rfl rfl rfl (by kernel_rfl) (FnD.use (hc)) rfl rfl rfl rfl rfl rfl) rfl rfl ?_)
      (refine wlk ?_)
      exact ⟨k + 1, ⟨by omega, by rw [take_succ_of hx, take_succ_of hy, htk, (Tm.same_iff x y).1 hxy]⟩, fgs, by omega⟩
  · have : k = l.length := by omega
    subst this
    (refine wlk ?_)
    (first | (refine finR (.tmp rfl .nil) rfl rfl ?_) | (refine finN (.tmp rfl .nil) rfl rfl ?_))
    exact Xb (b := true) (by simp [Tm.same, Tm.sames_yes h3 htk])

set_option maxRecDepth 100000 in
theorem eqfT (l l' : List Tm) (ih : ∀ x ∈ l, ∀ y, FnD Tryz.prog 37 [tA x, tA y] (.one (bA (x.same y)))) :
    FnD Tryz.prog 58 [lA Tm.d l, lA Tm.d l', .c (.val (.func (.func 37) #[] #[]))] (.one (bA (Tm.sames l l'))) := by
  refine Fn.of Tryz.func58 rfl Tryz.ntmps58 rfl (Nat.le_of_ble_eq_true rfl) ?_
  refine dwp_len (t := 0) rfl fun hl => ?_
  simp only [List.length_map] at hl
  rcases Decidable.em (l.length = l'.length) with h3 | h3
  rotate_left
  · (refine wlk ?_)
    (first | (refine finR (.tmp rfl .nil) rfl rfl ?_) | (refine finN (.tmp rfl .nil) rfl rfl ?_))
    exact Xb (b := false) (by simp [Tm.sames_len h3])
  (refine wlk ?_)
  refine dwp_loop (fun k : Nat => [(.t 2, some (.one (.c (.val (.func (.func 37) #[] #[]))))), (.t 1, some (.one (lA Tm.d l'))), (.t 15, some (.one (lA Tm.d l))), (.t 16, some (.one (iA l.length))), (.t 17, some (.one (iA k)))])
    (fun k => k ≤ l.length ∧ l.take k = l'.take k) (fun k => l.length - k) 0 ⟨by omega, rfl⟩ fgs ?_
  rintro k ⟨hk, htk⟩
  by_cases hkl : k < l.length
  · obtain ⟨x, hx⟩ := get_of_lt hkl
    obtain ⟨y, hy⟩ := get_of_lt (s := l') (k := k) (by omega)
    cases hxy : x.same y
    · have hc := ih x (List.mem_of_getElem? hx) y
      rw [hxy] at hc
      (refine wlk ?_)
      (refine SqA.b1 (op_call none rfl rfl rfl (by kernel_rfl) (FnD.use (hc)) rfl rfl rfl rfl rfl rfl) rfl rfl ?_)
      (refine wlk ?_)
      (first | (refine finR (.tmp rfl .nil) rfl rfl ?_) | (refine finN (.tmp rfl .nil) rfl rfl ?_))
      exact Xb (b := false) (by simp [Tm.sames_no hx hy hxy])
    · have hc := ih x (List.mem_of_getElem? hx) y
      rw [hxy] at hc
      (refine wlk ?_)
      (refine SqA.b1 (op_call none rfl rfl rfl (by kernel_rfl) (FnD.use (hc)) rfl rfl rfl rfl rfl rfl) rfl rfl ?_)
      (refine wlk ?_)
      exact ⟨k + 1, ⟨by omega, by rw [take_succ_of hx, take_succ_of hy, htk, (Tm.same_iff x y).1 hxy]⟩, fgs, by omega⟩
  · have : k = l.length := by omega
    subst this
    (refine wlk ?_)
    (first | (refine finR (.tmp rfl .nil) rfl rfl ?_) | (refine finN (.tmp rfl .nil) rfl rfl ?_))
    exact Xb (b := true) (by simp [Tm.sames_yes h3 htk])

set_option maxRecDepth 100000 in
theorem psame : ∀ t u : Tm, FnD Tryz.prog 37 [tA t, tA u] (.one (bA (t.same u))) := by
  refine Tm.ind ?_
  rintro v n l ih ⟨v', n', l'⟩
  refine Fn.of Tryz.func37 rfl Tryz.ntmps37 rfl (Nat.le_of_ble_eq_true rfl) ?_
  rcases Decidable.em (v = v') with rfl | h1
  rotate_left
  · have h1' : (v == v') = false := by simpa using h1
    (refine wlk ?_)
    (first | (refine finR (.tmp rfl .nil) rfl rfl ?_) | (refine finN (.tmp rfl .nil) rfl rfl ?_))
    exact Xb (b := false) (by simp [Tm.same, h1])
  have h1' : (v == v) = true := by simp
  rcases Decidable.em (n = n') with rfl | h2
  rotate_left
  · (refine wlk ?_)
    (first | (refine finR (.tmp rfl .nil) rfl rfl ?_) | (refine finN (.tmp rfl .nil) rfl rfl ?_))
    exact Xb (b := false) (by simp [Tm.same, h2])
  (refine wlk ?_)
  (refine SqA.b1 (op_call none rfl rfl rfl (by kernel_rfl) (FnD.use (eqfT l l' ih)) rfl rfl rfl rfl rfl rfl) rfl rfl ?_)
  (refine wlk ?_)
  (first | (refine finR (.tmp rfl .nil) rfl rfl ?_) | (refine finN (.tmp rfl .nil) rfl rfl ?_))
  exact Xb (b := Tm.sames l l') (by simp [Tm.same])

set_option maxRecDepth 100000 in
theorem rsize : ∀ t : Tm, FnD Tryz.prog 36 [tA t] (.one (iA (wrap64 t.size))) := by
  refine Tm.ind ?_
  intro v n l ih
  refine Fn.of Tryz.func36 rfl Tryz.ntmps36 rfl (Nat.le_of_ble_eq_true rfl) ?_
  refine dwp_lenA (t := 0) (q := 2) rfl rfl fun hl => ?_
  simp only [List.length_map] at hl
  have e0 : iA 1 = iA (wrap64 ((1 + Tm.sizes (l.take 0) : Nat) : Int)) := by simp [Tm.sizes, wrap64]
  (refine wlk ?_)
  refine dwp_loop (fun k : Nat => [(.t 1, some (.one (.c (.ptr 1 0)))), (.b 1, some (.box (tA ⟨v, n, l⟩).cells)), (.t 7, some (.one (iA l.length))), (.t 8, some (.one (iA k))), (.t 3, some (.one (iA (wrap64 ((1 + Tm.sizes (l.take k) : Nat) : Int)))))])
    (fun k => k ≤ l.length) (fun k => l.length - k) 0 (by omega) fgs ?_
  intro k hk
  by_cases hkl : k < l.length
  · obtain ⟨x, hx⟩ := get_of_lt hkl
    have h1 := sizes_take_succ l k x hx
    have e : (1 + Tm.sizes (l.take k) : Nat) + (x.size : Int) = ((1 + Tm.sizes (l.take (k + 1)) : Nat) : Int) := by omega
    (refine wlk ?_)
    (refine SqA.b1 (op_call none rfl rfl rfl (by kernel_rfl) (FnD.use (ih x (List.mem_of_getElem? hx))) rfl rfl rfl rfl rfl rfl) rfl rfl ?_)
    (refine wlk ?_)
    have e2 : (iA (wrap64 (wrap64 ((1 + Tm.sizes (l.take k) : Nat) : Int) + wrap64 x.size))) = iA (wrap64 ((1 + Tm.sizes (l.take (k + 1)) : Nat) : Int)) := by rw [wrapw, e]
    exact ⟨k + 1, by omega, fgs, by omega⟩
  · have : k = l.length := by omega
    subst this
    (refine wlk ?_)
    (first | (refine finR (.tmp rfl .nil) rfl rfl ?_) | (refine finN (.tmp rfl .nil) rfl rfl ?_))
    exact Xi (by rw [List.take_length]; simp [Tm.size])
set_option maxRecDepth 100000 in
theorem psize : ∀ t : Tm, FnD Tryz.prog 40 [tA t] (.one (iA (wrap64 t.size))) := by
  refine Tm.ind ?_
  intro v n l ih
  refine Fn.of Tryz.func40 rfl Tryz.ntmps40 rfl (Nat.le_of_ble_eq_true rfl) ?_
  refine dwp_lenA (t := 0) (q := 2) rfl rfl fun hl => ?_
  simp only [List.length_map] at hl
  have e0 : iA 1 = iA (wrap64 ((1 + Tm.sizes (l.take 0) : Nat) : Int)) := by simp [Tm.sizes, wrap64]
  (refine wlk ?_)
  refine dwp_loop (fun k : Nat => [(.t 1, some (.one (.c (.ptr 1 0)))), (.b 1, some (.box (tA ⟨v, n, l⟩).cells)), (.t 7, some (.one (lA Tm.d l))), (.t 8, some (.one (iA l.length))), (.t 9, some (.one (iA k))), (.t 3, some (.one (iA (wrap64 ((1 + Tm.sizes (l.take k) : Nat) : Int)))))])
    (fun k => k ≤ l.length) (fun k => l.length - k) 0 (by omega) fgs ?_
  intro k hk
  by_cases hkl : k < l.length
  · obtain ⟨x, hx⟩ := get_of_lt hkl
    have h1 := sizes_take_succ l k x hx
    have e : (1 + Tm.sizes (l.take k) : Nat) + (x.size : Int) = ((1 + Tm.sizes (l.take (k + 1)) : Nat) : Int) := by omega
    (refine wlk ?_)
    (refine SqA.b1 (op_call none rfl rfl rfl (by kernel_rfl) (FnD.use (ih x (List.mem_of_getElem? hx))) rfl rfl rfl rfl rfl rfl) rfl rfl ?_)
    (refine wlk ?_)
    have e2 : (iA (wrap64 (wrap64 ((1 + Tm.sizes (l.take k) : Nat) : Int) + wrap64 x.size))) = iA (wrap64 ((1 + Tm.sizes (l.take (k + 1)) : Nat) : Int)) := by rw [wrapw, e]
    exact ⟨k + 1, by omega, fgs, by omega⟩
  · have : k = l.length := by omega
    subst this
    (refine wlk ?_)
    (first | (refine finR (.tmp rfl .nil) rfl rfl ?_) | (refine finN (.tmp rfl .nil) rfl rfl ?_))
    exact Xi (by rw [List.take_length]; simp [Tm.size])
end Go.Proofs.YtmanhdacnkpclaaGreatDoor

/- What functions do: WrongSig, walk, Wrong. -/
namespace Go.Proofs.YtmanhdacnkpclaaGreatDoor
set_option linter.unusedVariables false
set_option linter.unusedSimpArgs false
open Go.RowKit

set_option maxRecDepth 100000 in
theorem rwrongSig (s : List Int) : FnD Tryz.prog 4 [lA Int.d s] (.one (iA (wrongSig s))) := by
  refine Fn.of Tryz.func4 rfl Tryz.ntmps4 rfl (Nat.le_of_ble_eq_true rfl) ?_
  refine dwp_len (t := 0) rfl fun hl => ?_
  simp only [List.length_map] at hl
  by_cases h0 : s.length = 0
  · (refine wlk ?_)
    (first | (refine finR (.tmp rfl .nil) rfl rfl ?_) | (refine finN (.tmp rfl .nil) rfl rfl ?_))
    exact Xi (b := 5) (by simp [wrongSig, h0])
  by_cases h6 : 6 < s.length
  · (refine wlk ?_)
    (first | (refine finR (.tmp rfl .nil) rfl rfl ?_) | (refine finN (.tmp rfl .nil) rfl rfl ?_))
    exact Xi (b := 5) (by simp [wrongSig, h6])
  (refine wlk ?_)
  refine dwp_loop (fun k : Nat => [(.t 13, some (.one (lA Int.d s))), (.t 14, some (.one (iA s.length))), (.t 15, some (.one (iA k)))])
    (fun k => k ≤ s.length ∧ ∀ j x, j < k → s[j]? = some x → ¬ (x < 0 ∨ 2 < x)) (fun k => s.length - k) 0 ⟨by omega, fun j x h => absurd h (by omega)⟩ fgs ?_
  rintro k ⟨hk, hno⟩
  by_cases hkl : k < s.length
  · obtain ⟨x, hx⟩ := get_of_lt hkl
    have hyes : (x < 0 ∨ 2 < x) → wrongSig s = 3 := fun h => by
      have : s.any (fun n => decide (n < 0 ∨ 2 < n)) = true := List.any_eq_true.2 ⟨x, List.mem_of_getElem? hx, by simpa using h⟩
      simp only [wrongSig, h0, h6, or_self, if_false, this, if_true]
    by_cases hx0 : x < 0
    · (refine wlk ?_)
      (first | (refine finR (.tmp rfl .nil) rfl rfl ?_) | (refine finN (.tmp rfl .nil) rfl rfl ?_))
      exact Xi (b := 3) (hyes (.inl hx0)).symm
    by_cases hx2 : 2 < x
    · (refine wlk ?_)
      (first | (refine finR (.tmp rfl .nil) rfl rfl ?_) | (refine finN (.tmp rfl .nil) rfl rfl ?_))
      exact Xi (b := 3) (hyes (.inr hx2)).symm
    (refine wlk ?_)
    exact ⟨k + 1, ⟨by omega, upto_succ hno hx (by omega)⟩, fgs, by omega⟩
  · (refine wlk ?_)
    (first | (refine finR (.tmp rfl .nil) rfl rfl ?_) | (refine finN (.tmp rfl .nil) rfl rfl ?_))
    refine Xi (b := 0) ?_
    have : s.any (fun n => decide (n < 0 ∨ 2 < n)) = false := by
      rw [List.any_eq_false]
      intro x hx
      obtain ⟨j, hj, rfl⟩ := List.getElem_of_mem hx
      have := hno j _ (by omega) (List.getElem?_eq_getElem hj)
      simpa using this
    simp only [wrongSig, h0, h6, or_self, if_false, this]
    rfl
set_option maxRecDepth 100000 in
theorem pwrongSig (s : List Int) : FnD Tryz.prog 27 [lA Int.d s] (.one (iA (wrongSig s))) := by
  refine Fn.of Tryz.func27 rfl Tryz.ntmps27 rfl (Nat.le_of_ble_eq_true rfl) ?_
  refine dwp_len (t := 0) rfl fun hl => ?_
  simp only [List.length_map] at hl
  by_cases h0 : s.length = 0
  · (refine wlk ?_)
    (first | (refine finR (.tmp rfl .nil) rfl rfl ?_) | (refine finN (.tmp rfl .nil) rfl rfl ?_))
    exact Xi (b := 5) (by simp [wrongSig, h0])
  by_cases h6 : 6 < s.length
  · (refine wlk ?_)
    (first | (refine finR (.tmp rfl .nil) rfl rfl ?_) | (refine finN (.tmp rfl .nil) rfl rfl ?_))
    exact Xi (b := 5) (by simp [wrongSig, h6])
  (refine wlk ?_)
  refine dwp_loop (fun k : Nat => [(.t 13, some (.one (lA Int.d s))), (.t 14, some (.one (iA s.length))), (.t 15, some (.one (iA k)))])
    (fun k => k ≤ s.length ∧ ∀ j x, j < k → s[j]? = some x → ¬ (x < 0 ∨ 2 < x)) (fun k => s.length - k) 0 ⟨by omega, fun j x h => absurd h (by omega)⟩ fgs ?_
  rintro k ⟨hk, hno⟩
  by_cases hkl : k < s.length
  · obtain ⟨x, hx⟩ := get_of_lt hkl
    have hyes : (x < 0 ∨ 2 < x) → wrongSig s = 3 := fun h => by
      have : s.any (fun n => decide (n < 0 ∨ 2 < n)) = true := List.any_eq_true.2 ⟨x, List.mem_of_getElem? hx, by simpa using h⟩
      simp only [wrongSig, h0, h6, or_self, if_false, this, if_true]
    by_cases hx0 : x < 0
    · (refine wlk ?_)
      (first | (refine finR (.tmp rfl .nil) rfl rfl ?_) | (refine finN (.tmp rfl .nil) rfl rfl ?_))
      exact Xi (b := 3) (hyes (.inl hx0)).symm
    by_cases hx2 : 2 < x
    · (refine wlk ?_)
      (first | (refine finR (.tmp rfl .nil) rfl rfl ?_) | (refine finN (.tmp rfl .nil) rfl rfl ?_))
      exact Xi (b := 3) (hyes (.inr hx2)).symm
    (refine wlk ?_)
    exact ⟨k + 1, ⟨by omega, upto_succ hno hx (by omega)⟩, fgs, by omega⟩
  · (refine wlk ?_)
    (first | (refine finR (.tmp rfl .nil) rfl rfl ?_) | (refine finN (.tmp rfl .nil) rfl rfl ?_))
    refine Xi (b := 0) ?_
    have : s.any (fun n => decide (n < 0 ∨ 2 < n)) = false := by
      rw [List.any_eq_false]
      intro x hx
      obtain ⟨j, hj, rfl⟩ := List.getElem_of_mem hx
      have := hno j _ (by omega) (List.getElem?_eq_getElem hj)
      simpa using this
    simp only [wrongSig, h0, h6, or_self, if_false, this]
    rfl

set_option maxRecDepth 100000 in
theorem rwalk (s : List Int) : ∀ (t : Tm) (d : Int), 0 ≤ d → d ≤ 1000 → FnD Tryz.prog 35 [lA Int.d s, tA t, iA d] (.one (iA (walk s t d))) := by
  refine Tm.ind ?_
  intro v n l ih d hd0 hd1
  refine Fn.of Tryz.func35 rfl Tryz.ntmps35 rfl (Nat.le_of_ble_eq_true rfl) ?_
  refine dwp_len (t := 0) rfl fun hsl => ?_
  refine dwp_lenA (t := 1) (q := 2) rfl rfl fun hl => ?_
  simp only [List.length_map] at hl hsl
  by_cases h12 : 12 < d
  · (refine wlk ?_)
    (first | (refine finR (.tmp rfl .nil) rfl rfl ?_) | (refine finN (.tmp rfl .nil) rfl rfl ?_))
    exact Xi (b := 4) (by simp [walk, h12])
  cases v
  case true =>
    by_cases hn0 : n < 0
    · (refine wlk ?_)
      (first | (refine finR (.tmp rfl .nil) rfl rfl ?_) | (refine finN (.tmp rfl .nil) rfl rfl ?_))
      exact Xi (b := 3) (by simp [walk, h12, hn0])
    by_cases hn4 : 4 < n
    · (refine wlk ?_)
      (first | (refine finR (.tmp rfl .nil) rfl rfl ?_) | (refine finN (.tmp rfl .nil) rfl rfl ?_))
      exact Xi (b := 3) (by simp [walk, h12, hn4])
    by_cases hl0 : l.length = 0
    · (refine wlk ?_)
      (first | (refine finR (.tmp rfl .nil) rfl rfl ?_) | (refine finN (.tmp rfl .nil) rfl rfl ?_))
      exact Xi (b := 0) (by simp [walk, h12, hn0, hn4, hl0])
    · (refine wlk ?_)
      (first | (refine finR (.tmp rfl .nil) rfl rfl ?_) | (refine finN (.tmp rfl .nil) rfl rfl ?_))
      exact Xi (b := 5) (by simp [walk, h12, hn0, hn4, hl0])
  by_cases hn0 : n < 0
  · (refine wlk ?_)
    (first | (refine finR (.tmp rfl .nil) rfl rfl ?_) | (refine finN (.tmp rfl .nil) rfl rfl ?_))
    exact Xi (b := 7) (by simp [walk, h12, hn0])
  by_cases hns : (s.length : Int) ≤ n
  · (refine wlk ?_)
    (first | (refine finR (.tmp rfl .nil) rfl rfl ?_) | (refine finN (.tmp rfl .nil) rfl rfl ?_))
    exact Xi (b := 7) (by simp [walk, h12, hns])
  obtain ⟨m, rfl⟩ := Int.eq_ofNat_of_zero_le (a := n) (by omega)
  obtain ⟨y, hy⟩ := get_of_lt (s := s) (k := m) (by omega)
  have hget : s.getD m 0 = y := by simp [List.getD, hy]
  have hw : walk s ⟨false, m, l⟩ d = if (l.length : Int) = y then walks s l (d + 1) else 5 := by
    simp only [walk, if_neg h12, if_neg (show ¬ (false = true) by simp), if_neg (show ¬ ((m : Int) < 0 ∨ (s.length : Int) ≤ m) by omega), Int.toNat_natCast, hget]
  by_cases hly : (l.length : Int) = y
  rotate_left
  · (refine wlk ?_)
    (first | (refine finR (.tmp rfl .nil) rfl rfl ?_) | (refine finN (.tmp rfl .nil) rfl rfl ?_))
    exact Xi (b := 5) (by rw [hw, if_neg hly])
  (refine wlk ?_)
  refine dwp_loop (fun k : Nat => [(.t 0, some (.one (lA Int.d s))), (.t 2, some (.one (iA d))), (.t 46, some (.one (lA Tm.d l))), (.t 47, some (.one (iA l.length))), (.t 48, some (.one (iA k)))])
    (fun k => k ≤ l.length ∧ walks s (l.take k) (d + 1) = 0) (fun k => l.length - k) 0 ⟨by omega, rfl⟩ fgs ?_
  rintro k ⟨hk, hw0⟩
  by_cases hkl : k < l.length
  · obtain ⟨x, hx⟩ := get_of_lt hkl
    by_cases hwx : walk s x (d + 1) = 0
    · (refine wlk ?_)
      (refine SqA.b1 (op_call none rfl rfl rfl (by kernel_rfl) (FnD.use (ih x (List.mem_of_getElem? hx) (d + 1) (by omega) (by omega))) rfl rfl rfl rfl rfl rfl) rfl rfl ?_)
      (refine wlk ?_)
      exact ⟨k + 1, ⟨by omega, walks_succ hw0 hx hwx⟩, fgs, by omega⟩
    · (refine wlk ?_)
      (refine SqA.b1 (op_call none rfl rfl rfl (by kernel_rfl) (FnD.use (ih x (List.mem_of_getElem? hx) (d + 1) (by omega) (by omega))) rfl rfl rfl rfl rfl rfl) rfl rfl ?_)
      (refine wlk ?_)
      (first | (refine finR (.tmp rfl .nil) rfl rfl ?_) | (refine finN (.tmp rfl .nil) rfl rfl ?_))
      exact Xi (b := walk s x (d + 1)) (by rw [hw, if_pos hly, walks_no hw0 hx hwx])
  · have : k = l.length := by omega
    subst this
    rw [List.take_length] at hw0
    (refine wlk ?_)
    (first | (refine finR (.tmp rfl .nil) rfl rfl ?_) | (refine finN (.tmp rfl .nil) rfl rfl ?_))
    exact Xi (b := 0) (by rw [hw, if_pos hly, hw0])
set_option maxRecDepth 100000 in
theorem pform (s : List Int) : ∀ (t : Tm) (d : Int), 0 ≤ d → d ≤ 1000 → FnD Tryz.prog 57 [lA Int.d s, tA t, iA d] (.one (iA (walk s t d))) := by
  refine Tm.ind ?_
  intro v n l ih d hd0 hd1
  refine Fn.of Tryz.func57 rfl Tryz.ntmps57 rfl (Nat.le_of_ble_eq_true rfl) ?_
  refine dwp_len (t := 0) rfl fun hsl => ?_
  refine dwp_lenA (t := 1) (q := 2) rfl rfl fun hl => ?_
  simp only [List.length_map] at hl hsl
  by_cases h12 : 12 < d
  · (refine wlk ?_)
    (first | (refine finR (.tmp rfl .nil) rfl rfl ?_) | (refine finN (.tmp rfl .nil) rfl rfl ?_))
    exact Xi (b := 4) (by simp [walk, h12])
  cases v
  case true =>
    by_cases hn0 : n < 0
    · (refine wlk ?_)
      (first | (refine finR (.tmp rfl .nil) rfl rfl ?_) | (refine finN (.tmp rfl .nil) rfl rfl ?_))
      exact Xi (b := 3) (by simp [walk, h12, hn0])
    by_cases hn4 : 4 < n
    · (refine wlk ?_)
      (first | (refine finR (.tmp rfl .nil) rfl rfl ?_) | (refine finN (.tmp rfl .nil) rfl rfl ?_))
      exact Xi (b := 3) (by simp [walk, h12, hn4])
    by_cases hl0 : l.length = 0
    · (refine wlk ?_)
      (first | (refine finR (.tmp rfl .nil) rfl rfl ?_) | (refine finN (.tmp rfl .nil) rfl rfl ?_))
      exact Xi (b := 0) (by simp [walk, h12, hn0, hn4, hl0])
    · (refine wlk ?_)
      (first | (refine finR (.tmp rfl .nil) rfl rfl ?_) | (refine finN (.tmp rfl .nil) rfl rfl ?_))
      exact Xi (b := 5) (by simp [walk, h12, hn0, hn4, hl0])
  by_cases hn0 : n < 0
  · (refine wlk ?_)
    (first | (refine finR (.tmp rfl .nil) rfl rfl ?_) | (refine finN (.tmp rfl .nil) rfl rfl ?_))
    exact Xi (b := 7) (by simp [walk, h12, hn0])
  by_cases hns : (s.length : Int) ≤ n
  · (refine wlk ?_)
    (first | (refine finR (.tmp rfl .nil) rfl rfl ?_) | (refine finN (.tmp rfl .nil) rfl rfl ?_))
    exact Xi (b := 7) (by simp [walk, h12, hns])
  obtain ⟨m, rfl⟩ := Int.eq_ofNat_of_zero_le (a := n) (by omega)
  obtain ⟨y, hy⟩ := get_of_lt (s := s) (k := m) (by omega)
  have hget : s.getD m 0 = y := by simp [List.getD, hy]
  have hw : walk s ⟨false, m, l⟩ d = if (l.length : Int) = y then walks s l (d + 1) else 5 := by
    simp only [walk, if_neg h12, if_neg (show ¬ (false = true) by simp), if_neg (show ¬ ((m : Int) < 0 ∨ (s.length : Int) ≤ m) by omega), Int.toNat_natCast, hget]
  by_cases hly : (l.length : Int) = y
  rotate_left
  · (refine wlk ?_)
    (first | (refine finR (.tmp rfl .nil) rfl rfl ?_) | (refine finN (.tmp rfl .nil) rfl rfl ?_))
    exact Xi (b := 5) (by rw [hw, if_neg hly])
  (refine wlk ?_)
  refine dwp_loop (fun k : Nat => [(.t 0, some (.one (lA Int.d s))), (.t 2, some (.one (iA d))), (.t 60, some (.one (lA Tm.d l))), (.t 61, some (.one (iA l.length))), (.t 62, some (.one (iA k)))])
    (fun k => k ≤ l.length ∧ walks s (l.take k) (d + 1) = 0) (fun k => l.length - k) 0 ⟨by omega, rfl⟩ fgs ?_
  rintro k ⟨hk, hw0⟩
  by_cases hkl : k < l.length
  · obtain ⟨x, hx⟩ := get_of_lt hkl
    by_cases hwx : walk s x (d + 1) = 0
    · (refine wlk ?_)
      (refine SqA.b1 (op_call none rfl rfl rfl (by kernel_rfl) (FnD.use (ih x (List.mem_of_getElem? hx) (d + 1) (by omega) (by omega))) rfl rfl rfl rfl rfl rfl) rfl rfl ?_)
      (refine wlk ?_)
      exact ⟨k + 1, ⟨by omega, walks_succ hw0 hx hwx⟩, fgs, by omega⟩
    · (refine wlk ?_)
      (refine SqA.b1 (op_call none rfl rfl rfl (by kernel_rfl) (FnD.use (ih x (List.mem_of_getElem? hx) (d + 1) (by omega) (by omega))) rfl rfl rfl rfl rfl rfl) rfl rfl ?_)
      (refine wlk ?_)
      (first | (refine finR (.tmp rfl .nil) rfl rfl ?_) | (refine finN (.tmp rfl .nil) rfl rfl ?_))
      exact Xi (b := walk s x (d + 1)) (by rw [hw, if_pos hly, walks_no hw0 hx hwx])
  · have : k = l.length := by omega
    subst this
    rw [List.take_length] at hw0
    (refine wlk ?_)
    (first | (refine finR (.tmp rfl .nil) rfl rfl ?_) | (refine finN (.tmp rfl .nil) rfl rfl ?_))
    exact Xi (b := 0) (by rw [hw, if_pos hly, hw0])

set_option maxRecDepth 100000 in
theorem rwrong (s : List Int) (t : Tm) : FnD Tryz.prog 11 [lA Int.d s, tA t] (.one (iA (wrong s t))) := by
  refine Fn.of Tryz.func11 rfl Tryz.ntmps11 rfl (Nat.le_of_ble_eq_true rfl) ?_
  by_cases hw : walk s t 1 = 0
  rotate_left
  · (refine wlk ?_)
    (refine SqA.b1 (op_call none rfl rfl rfl (by kernel_rfl) (FnD.use (rwalk s t 1 (by omega) (by omega))) rfl rfl rfl rfl rfl rfl) rfl rfl ?_)
    (refine wlk ?_)
    (first | (refine finR (.tmp rfl .nil) rfl rfl ?_) | (refine finN (.tmp rfl .nil) rfl rfl ?_))
    exact Xi (b := walk s t 1) (by simp [wrong, hw])
  by_cases hz : 12 < wrap64 t.size
  · (refine wlk ?_)
    (refine SqA.b1 (op_call none rfl rfl rfl (by kernel_rfl) (FnD.use (rwalk s t 1 (by omega) (by omega))) rfl rfl rfl rfl rfl rfl) rfl rfl ?_)
    (refine wlk ?_)
    (refine SqA.b1 (op_call none rfl rfl rfl (by kernel_rfl) (FnD.use (rsize t)) rfl rfl rfl rfl rfl rfl) rfl rfl ?_)
    (refine wlk ?_)
    (first | (refine finR (.tmp rfl .nil) rfl rfl ?_) | (refine finN (.tmp rfl .nil) rfl rfl ?_))
    exact Xi (b := 4) (by simp [wrong, hw, hz])
  · (refine wlk ?_)
    (refine SqA.b1 (op_call none rfl rfl rfl (by kernel_rfl) (FnD.use (rwalk s t 1 (by omega) (by omega))) rfl rfl rfl rfl rfl rfl) rfl rfl ?_)
    (refine wlk ?_)
    (refine SqA.b1 (op_call none rfl rfl rfl (by kernel_rfl) (FnD.use (rsize t)) rfl rfl rfl rfl rfl rfl) rfl rfl ?_)
    (refine wlk ?_)
    (first | (refine finR (.tmp rfl .nil) rfl rfl ?_) | (refine finN (.tmp rfl .nil) rfl rfl ?_))
    exact Xi (b := 0) (by simp only [wrong, hw, if_true, if_neg hz])
set_option maxRecDepth 100000 in
theorem pwrong (s : List Int) (t : Tm) : FnD Tryz.prog 33 [lA Int.d s, tA t] (.one (iA (wrong s t))) := by
  refine Fn.of Tryz.func33 rfl Tryz.ntmps33 rfl (Nat.le_of_ble_eq_true rfl) ?_
  by_cases hw : walk s t 1 = 0
  rotate_left
  · (refine wlk ?_)
    (refine SqA.b1 (op_call none rfl rfl rfl (by kernel_rfl) (FnD.use (pform s t 1 (by omega) (by omega))) rfl rfl rfl rfl rfl rfl) rfl rfl ?_)
    (refine wlk ?_)
    (first | (refine finR (.tmp rfl .nil) rfl rfl ?_) | (refine finN (.tmp rfl .nil) rfl rfl ?_))
    exact Xi (b := walk s t 1) (by simp [wrong, hw])
  by_cases hz : 12 < wrap64 t.size
  · (refine wlk ?_)
    (refine SqA.b1 (op_call none rfl rfl rfl (by kernel_rfl) (FnD.use (pform s t 1 (by omega) (by omega))) rfl rfl rfl rfl rfl rfl) rfl rfl ?_)
    (refine wlk ?_)
    (refine SqA.b1 (op_call none rfl rfl rfl (by kernel_rfl) (FnD.use (psize t)) rfl rfl rfl rfl rfl rfl) rfl rfl ?_)
    (refine wlk ?_)
    (first | (refine finR (.tmp rfl .nil) rfl rfl ?_) | (refine finN (.tmp rfl .nil) rfl rfl ?_))
    exact Xi (b := 4) (by simp [wrong, hw, hz])
  · (refine wlk ?_)
    (refine SqA.b1 (op_call none rfl rfl rfl (by kernel_rfl) (FnD.use (pform s t 1 (by omega) (by omega))) rfl rfl rfl rfl rfl rfl) rfl rfl ?_)
    (refine wlk ?_)
    (refine SqA.b1 (op_call none rfl rfl rfl (by kernel_rfl) (FnD.use (psize t)) rfl rfl rfl rfl rfl rfl) rfl rfl ?_)
    (refine wlk ?_)
    (first | (refine finR (.tmp rfl .nil) rfl rfl ?_) | (refine finN (.tmp rfl .nil) rfl rfl ?_))
    exact Xi (b := 0) (by simp only [wrong, hw, if_true, if_neg hz])
end Go.Proofs.YtmanhdacnkpclaaGreatDoor
