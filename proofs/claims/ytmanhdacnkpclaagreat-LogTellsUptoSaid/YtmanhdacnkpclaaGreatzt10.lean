/- What functions do: Apply. -/
import Derived.Test.YtmanhdacnkpclaaGreatzt09
import Derived.Test.YtmanhdacnkpclaaGreatzt07
import Derived.Test.YtmanhdacnkpclaaGreatzt08
/- What functions do: Apply. -/
namespace Go.Proofs.YtmanhdacnkpclaaGreat
set_option linter.unusedVariables false
set_option linter.unusedSimpArgs false
open Go.RowKit
set_option maxRecDepth 100000 in
theorem ap (s : List Pr) (hs : s.length ≤ 4000000000000) : ∀ t : Tm, t.size ≤ 2000000000000 → FnD Tryz.prog 83 [lA Pr.d s, tA t] (.one (tA (app s t))) := by
  refine Tm.ind ?_
  intro v n l ih hsz
  refine Fn.of Tryz.func83 rfl Tryz.ntmps83 rfl (Nat.le_of_ble_eq_true rfl) ?_
  cases v
  case true =>
    (refine wlk ?_)
    refine dwp_loop (fun k : Nat => [(.t 12, some (.one (lA Pr.d s))), (.t 13, some (.one (iA s.length))), (.t 14, some (.one (iA k))), (.t 3, some (.one (.c (.ptr 3 0)))), (.b 3, some (.box (tA ⟨true, n, l⟩).cells)), (.t 4, some (.one (.c (.ptr 4 0)))),
      (.b 4, some (.box [.val (.bool false), .val (.int .i64 0), .val (.slice none 0 0)]))]) (fun k => k ≤ s.length ∧ ∀ j p, j < k → s[j]? = some p → p.1 ≠ n) (fun k => s.length - k) 0 ⟨by omega, fun j p h => absurd h (by omega)⟩ fgs ?_
    rintro k ⟨hk, hno⟩
    by_cases hkl : k < s.length
    · obtain ⟨x, hx⟩ := get_of_lt hkl
      by_cases hxn : x.1 = n
      · (refine wlk ?_)
        (refine wfC ?_)
        exact Xt (b := x.2) (by simp [app, findS_at hno hx hxn])
      · (refine wlk ?_)
        exact ⟨k + 1, ⟨by omega, upto_succ hno hx hxn⟩, fgs, by omega⟩
    · (refine wlk ?_)
      (refine wfC ?_)
      exact Xt (b := ⟨true, n, l⟩) (by simp [app, findS_no hno (by omega)])
  case false =>
    have hlen : l.length ≤ Tm.sizes l := by
      clear ih hsz
      induction l with
      | nil => simp
      | cons a l ih => obtain ⟨v', n', l'⟩ := a; simp [Tm.sizes, Tm.size]; omega
    have hsz' : Tm.sizes l ≤ 2000000000000 := by simp [Tm.size] at hsz; omega
    (refine wlk ?_)
    refine dwp_loop (fun k : Nat => [(.t 31, some (.one (lA Tm.d l))), (.t 32, some (.one (iA l.length))), (.t 33, some (.one (iA k))), (.t 0, some (.one (lA Pr.d s))), (.t 7, some (.one (.c (.ptr 7 0)))), (.t 4, some (.one (.c (.ptr 4 0)))),
      (.b 4, some (.box [.val (.bool false), .val (.int .i64 0), .val (.slice none 0 0)])), (.b 7, some (.box [.val (.bool false), .val (.int .i64 n), .own 75 3 (((l.take k).map (app s)).map Tm.d)]))])
      (fun k => k ≤ l.length) (fun k => l.length - k) 0 (by omega) ((Wk.nilOwnB (j := 7) (q := 2) (E := 75) (m := 3) rfl rfl rfl).trans fgs) ?_
    intro k hk
    by_cases hkl : k < l.length
    · obtain ⟨x, hx⟩ := get_of_lt hkl
      have hsn := snoc (app s) hx
      have hxs : x.size ≤ 2000000000000 := by have := sizes_take_succ l k x hx; have := sizes_take_le l (k + 1); omega
      (refine wlk ?_)
      (refine SqA.b1 (op_call none rfl rfl rfl (by kernel_rfl) (FnD.use (ih x (List.mem_of_getElem? hx) hxs)) rfl rfl rfl rfl rfl rfl) rfl rfl ?_)
      (refine wlk ?_)
      (refine SqA.b1 (op_bsT (T := TB) (f := Tm.d) [app s x] rfl rfl rfl rfl rfl rfl rfl rfl rfl rfl rfl) rfl rfl ?_)
      (refine wlk ?_)
      exact ⟨k + 1, by omega, fgs, by omega⟩
    · have : k = l.length := by omega
      subst this
      refine dwp_wk (Wk.freezeB (j := 7) (q := 2) rfl rfl rfl) ?_
      (refine wlk ?_)
      (refine wfC ?_)
      exact Xt (b := ⟨false, n, (l.take l.length).map (app s)⟩) (by simp [app, apps_eq])
end Go.Proofs.YtmanhdacnkpclaaGreat
/- What functions do: Same, Size, WrongSig, Wrong. -/
namespace Go.Proofs.YtmanhdacnkpclaaGreat
set_option linter.unusedVariables false
set_option linter.unusedSimpArgs false
open Go.RowKit
theorem sizes_len : ∀ l : List Tm, l.length ≤ Tm.sizes l
  | [] => by simp
  | ⟨v, n, l'⟩ :: l => by have := sizes_len l; simp [Tm.sizes, Tm.size]; omega
theorem size_at {l : List Tm} {k : Nat} {x : Tm} (h : l[k]? = some x) : x.size ≤ Tm.sizes l := by have := sizes_take_succ l k x h; have := sizes_take_le l (k + 1); omega
theorem wrapw (a b : Int) : wrap64 (wrap64 a + wrap64 b) = wrap64 (a + b) := by unfold wrap64; omega
set_option maxRecDepth 100000 in
theorem rsame : ∀ t u : Tm, FnD Tryz.prog 73 [tA t, tA u] (.one (bA (t.same u))) := by
  refine Tm.ind ?_
  rintro v n l ih ⟨v', n', l'⟩
  refine Fn.of Tryz.func73 rfl Tryz.ntmps73 rfl (Nat.le_of_ble_eq_true rfl) ?_
  refine dwp_lenA (t := 0) (q := 2) rfl rfl fun hl => ?_
  simp only [List.length_map] at hl
  rcases Decidable.em (v = v') with rfl | h1
  rotate_left
  · have h1' : (v != v') = true := by simpa using h1
    (refine wlk ?_)
    (refine wfT ?_)
    exact Xb (b := false) (by simp [Tm.same, h1])
  have h1' : (v != v) = false := by simp
  rcases Decidable.em (n = n') with rfl | h2
  rotate_left
  · (refine wlk ?_)
    (refine wfT ?_)
    exact Xb (b := false) (by simp [Tm.same, h2])
  rcases Decidable.em (l.length = l'.length) with h3 | h3
  rotate_left
  · (refine wlk ?_)
    (refine wfT ?_)
    exact Xb (b := false) (by simp [Tm.same, Tm.sames_len h3])
  (refine wlk ?_)
  refine dwp_loop (fun k : Nat => [(.t 2, some (.one (.c (.ptr 2 0)))), (.b 2, some (.box (tA ⟨v, n, l⟩).cells)), (.t 3, some (.one (.c (.ptr 3 0)))), (.b 3, some (.box (tA ⟨v, n, l'⟩).cells)), (.t 29, some (.one (iA l.length))), (.t 30, some (.one (iA k)))])
    (fun k => k ≤ l.length ∧ l.take k = l'.take k) (fun k => l.length - k) 0 ⟨by omega, rfl⟩ fgs ?_
  rintro k ⟨hk, htk⟩
  by_cases hkl : k < l.length
  · obtain ⟨x, hx⟩ := get_of_lt hkl
    obtain ⟨y, hy⟩ := get_of_lt (s := l') (k := k) (by omega)
    cases hxy : x.same y
    · have hc := ih x (List.mem_of_getElem? hx) y
      rw [hxy] at hc
      (refine wlk ?_)
      (refine wlC hc ?_)
      (refine wlk ?_)
      (refine wfT ?_)
      exact Xb (b := false) (by simp [Tm.same, Tm.sames_no hx hy hxy])
    · have hc := ih x (List.mem_of_getElem? hx) y
      rw [hxy] at hc
      (refine wlk ?_)
      (refine wlC hc ?_)
      (refine wlk ?_)
      exact ⟨k + 1, ⟨by omega, by rw [take_succ_of hx, take_succ_of hy, htk, (Tm.same_iff x y).1 hxy]⟩, fgs, by omega⟩
  · have : k = l.length := by omega
    subst this
    (refine wlk ?_)
    (refine wfT ?_)
    exact Xb (b := true) (by simp [Tm.same, Tm.sames_yes h3 htk])
set_option maxRecDepth 100000 in
theorem eqfT (l l' : List Tm) (ih : ∀ x ∈ l, ∀ y, FnD Tryz.prog 74 [tA x, tA y] (.one (bA (x.same y)))) :
    FnD Tryz.prog 112 [lA Tm.d l, lA Tm.d l', .c (.val (.func (.func 74) #[] #[]))] (.one (bA (Tm.sames l l'))) := by
  refine Fn.of Tryz.func112 rfl Tryz.ntmps112 rfl (Nat.le_of_ble_eq_true rfl) ?_
  refine dwp_len (t := 0) rfl fun hl => ?_
  simp only [List.length_map] at hl
  rcases Decidable.em (l.length = l'.length) with h3 | h3
  rotate_left
  · (refine wlk ?_)
    (refine wfT ?_)
    exact Xb (b := false) (by simp [Tm.sames_len h3])
  (refine wlk ?_)
  refine dwp_loop (fun k : Nat => [(.t 2, some (.one (.c (.val (.func (.func 74) #[] #[]))))), (.t 1, some (.one (lA Tm.d l'))), (.t 15, some (.one (lA Tm.d l))), (.t 16, some (.one (iA l.length))), (.t 17, some (.one (iA k)))])
    (fun k => k ≤ l.length ∧ l.take k = l'.take k) (fun k => l.length - k) 0 ⟨by omega, rfl⟩ fgs ?_
  rintro k ⟨hk, htk⟩
  by_cases hkl : k < l.length
  · obtain ⟨x, hx⟩ := get_of_lt hkl
    obtain ⟨y, hy⟩ := get_of_lt (s := l') (k := k) (by omega)
    cases hxy : x.same y
    · have hc := ih x (List.mem_of_getElem? hx) y
      rw [hxy] at hc
      (refine wlk ?_)
      (refine wlC hc ?_)
      (refine wlk ?_)
      (refine wfT ?_)
      exact Xb (b := false) (by simp [Tm.sames_no hx hy hxy])
    · have hc := ih x (List.mem_of_getElem? hx) y
      rw [hxy] at hc
      (refine wlk ?_)
      (refine wlC hc ?_)
      (refine wlk ?_)
      exact ⟨k + 1, ⟨by omega, by rw [take_succ_of hx, take_succ_of hy, htk, (Tm.same_iff x y).1 hxy]⟩, fgs, by omega⟩
  · have : k = l.length := by omega
    subst this
    (refine wlk ?_)
    (refine wfT ?_)
    exact Xb (b := true) (by simp [Tm.sames_yes h3 htk])
set_option maxRecDepth 100000 in
theorem psame : ∀ t u : Tm, FnD Tryz.prog 74 [tA t, tA u] (.one (bA (t.same u))) := by
  refine Tm.ind ?_
  rintro v n l ih ⟨v', n', l'⟩
  refine Fn.of Tryz.func74 rfl Tryz.ntmps74 rfl (Nat.le_of_ble_eq_true rfl) ?_
  rcases Decidable.em (v = v') with rfl | h1
  rotate_left
  · have h1' : (v == v') = false := by simpa using h1
    (refine wlk ?_)
    (refine wfT ?_)
    exact Xb (b := false) (by simp [Tm.same, h1])
  have h1' : (v == v) = true := by simp
  rcases Decidable.em (n = n') with rfl | h2
  rotate_left
  · (refine wlk ?_)
    (refine wfT ?_)
    exact Xb (b := false) (by simp [Tm.same, h2])
  (refine wlk ?_)
  (refine SqA.b1 (op_call none rfl rfl rfl (by kernel_rfl) (FnD.use (eqfT l l' ih)) rfl rfl rfl rfl rfl rfl) rfl rfl ?_)
  (refine wlk ?_)
  (refine wfT ?_)
  exact Xb (b := Tm.sames l l') (by simp [Tm.same])
set_option maxRecDepth 100000 in
theorem rsize : ∀ t : Tm, FnD Tryz.prog 85 [tA t] (.one (iA (wrap64 t.size))) := by
  refine Tm.ind ?_
  intro v n l ih
  refine Fn.of Tryz.func85 rfl Tryz.ntmps85 rfl (Nat.le_of_ble_eq_true rfl) ?_
  refine dwp_lenA (t := 0) (q := 2) rfl rfl fun hl => ?_
  simp only [List.length_map] at hl
  have e0 : iA 1 = iA (wrap64 ((1 + Tm.sizes (l.take 0) : Nat) : Int)) := by simp [Tm.sizes, wrap64]
  (refine wlk ?_)
  refine dwp_loop (fun k : Nat => [(.t 1, some (.one (.c (.ptr 1 0)))), (.b 1, some (.box (tA ⟨v, n, l⟩).cells)), (.t 7, some (.one (iA l.length))), (.t 8, some (.one (iA k))), (.t 3, some (.one (iA (wrap64 ((1 + Tm.sizes (l.take k) : Nat) : Int)))))])
    (fun k => k ≤ l.length) (fun k => l.length - k) 0 (by omega) fgs ?_
  intro k hk
  by_cases hkl : k < l.length
  · obtain ⟨x, hx⟩ := get_of_lt hkl
    have h1 := sizes_take_succ l k x hx
    have e : (1 + Tm.sizes (l.take k) : Nat) + (x.size : Int) = ((1 + Tm.sizes (l.take (k + 1)) : Nat) : Int) := by omega
    (refine wlk ?_)
    (refine SqA.b1 (op_call none rfl rfl rfl (by kernel_rfl) (FnD.use (ih x (List.mem_of_getElem? hx))) rfl rfl rfl rfl rfl rfl) rfl rfl ?_)
    (refine wlk ?_)
    have e2 : (iA (wrap64 (wrap64 ((1 + Tm.sizes (l.take k) : Nat) : Int) + wrap64 x.size))) = iA (wrap64 ((1 + Tm.sizes (l.take (k + 1)) : Nat) : Int)) := by rw [wrapw, e]
    exact ⟨k + 1, by omega, fgs, by omega⟩
  · have : k = l.length := by omega
    subst this
    (refine wlk ?_)
    (refine wfT ?_)
    exact Xi (by rw [List.take_length]; simp [Tm.size])
set_option maxRecDepth 100000 in
theorem psize : ∀ t : Tm, FnD Tryz.prog 79 [tA t] (.one (iA (wrap64 t.size))) := by
  refine Tm.ind ?_
  intro v n l ih
  refine Fn.of Tryz.func79 rfl Tryz.ntmps79 rfl (Nat.le_of_ble_eq_true rfl) ?_
  refine dwp_lenA (t := 0) (q := 2) rfl rfl fun hl => ?_
  simp only [List.length_map] at hl
  have e0 : iA 1 = iA (wrap64 ((1 + Tm.sizes (l.take 0) : Nat) : Int)) := by simp [Tm.sizes, wrap64]
  (refine wlk ?_)
  refine dwp_loop (fun k : Nat => [(.t 1, some (.one (.c (.ptr 1 0)))), (.b 1, some (.box (tA ⟨v, n, l⟩).cells)), (.t 7, some (.one (lA Tm.d l))), (.t 8, some (.one (iA l.length))), (.t 9, some (.one (iA k))), (.t 3, some (.one (iA (wrap64 ((1 + Tm.sizes (l.take k) : Nat) : Int)))))])
    (fun k => k ≤ l.length) (fun k => l.length - k) 0 (by omega) fgs ?_
  intro k hk
  by_cases hkl : k < l.length
  · obtain ⟨x, hx⟩ := get_of_lt hkl
    have h1 := sizes_take_succ l k x hx
    have e : (1 + Tm.sizes (l.take k) : Nat) + (x.size : Int) = ((1 + Tm.sizes (l.take (k + 1)) : Nat) : Int) := by omega
    (refine wlk ?_)
    (refine SqA.b1 (op_call none rfl rfl rfl (by kernel_rfl) (FnD.use (ih x (List.mem_of_getElem? hx))) rfl rfl rfl rfl rfl rfl) rfl rfl ?_)
    (refine wlk ?_)
    have e2 : (iA (wrap64 (wrap64 ((1 + Tm.sizes (l.take k) : Nat) : Int) + wrap64 x.size))) = iA (wrap64 ((1 + Tm.sizes (l.take (k + 1)) : Nat) : Int)) := by rw [wrapw, e]
    exact ⟨k + 1, by omega, fgs, by omega⟩
  · have : k = l.length := by omega
    subst this
    (refine wlk ?_)
    (refine wfT ?_)
    exact Xi (by rw [List.take_length]; simp [Tm.size])
end Go.Proofs.YtmanhdacnkpclaaGreat
/- What functions do: WrongSig, walk, Wrong. -/
namespace Go.Proofs.YtmanhdacnkpclaaGreat
set_option linter.unusedVariables false
set_option linter.unusedSimpArgs false
open Go.RowKit
set_option maxRecDepth 100000 in
theorem rwrongSig (s : List Int) : FnD Tryz.prog 34 [lA Int.d s] (.one (iA (wrongSig s))) := by
  refine Fn.of Tryz.func34 rfl Tryz.ntmps34 rfl (Nat.le_of_ble_eq_true rfl) ?_
  refine dwp_len (t := 0) rfl fun hl => ?_
  simp only [List.length_map] at hl
  by_cases h0 : s.length = 0
  · (refine wlk ?_)
    (refine wfT ?_)
    exact Xi (b := 5) (by simp [wrongSig, h0])
  by_cases h6 : 6 < s.length
  · (refine wlk ?_)
    (refine wfT ?_)
    exact Xi (b := 5) (by simp [wrongSig, h6])
  (refine wlk ?_)
  refine dwp_loop (fun k : Nat => [(.t 13, some (.one (lA Int.d s))), (.t 14, some (.one (iA s.length))), (.t 15, some (.one (iA k)))])
    (fun k => k ≤ s.length ∧ ∀ j x, j < k → s[j]? = some x → ¬ (x < 0 ∨ 2 < x)) (fun k => s.length - k) 0 ⟨by omega, fun j x h => absurd h (by omega)⟩ fgs ?_
  rintro k ⟨hk, hno⟩
  by_cases hkl : k < s.length
  · obtain ⟨x, hx⟩ := get_of_lt hkl
    have hyes : (x < 0 ∨ 2 < x) → wrongSig s = 3 := fun h => by
      have : s.any (fun n => decide (n < 0 ∨ 2 < n)) = true := List.any_eq_true.2 ⟨x, List.mem_of_getElem? hx, by simpa using h⟩
      simp only [wrongSig, h0, h6, or_self, if_false, this, if_true]
    by_cases hx0 : x < 0
    · (refine wlk ?_)
      (refine wfT ?_)
      exact Xi (b := 3) (hyes (.inl hx0)).symm
    by_cases hx2 : 2 < x
    · (refine wlk ?_)
      (refine wfT ?_)
      exact Xi (b := 3) (hyes (.inr hx2)).symm
    (refine wlk ?_)
    exact ⟨k + 1, ⟨by omega, upto_succ hno hx (by omega)⟩, fgs, by omega⟩
  · (refine wlk ?_)
    (refine wfT ?_)
    refine Xi (b := 0) ?_
    have : s.any (fun n => decide (n < 0 ∨ 2 < n)) = false := by
      rw [List.any_eq_false]
      intro x hx
      obtain ⟨j, hj, rfl⟩ := List.getElem_of_mem hx
      have := hno j _ (by omega) (List.getElem?_eq_getElem hj)
      simpa using this
    simp only [wrongSig, h0, h6, or_self, if_false, this]
    rfl
set_option maxRecDepth 100000 in
theorem pwrongSig (s : List Int) : FnD Tryz.prog 28 [lA Int.d s] (.one (iA (wrongSig s))) := by
  refine Fn.of Tryz.func28 rfl Tryz.ntmps28 rfl (Nat.le_of_ble_eq_true rfl) ?_
  refine dwp_len (t := 0) rfl fun hl => ?_
  simp only [List.length_map] at hl
  by_cases h0 : s.length = 0
  · (refine wlk ?_)
    (refine wfT ?_)
    exact Xi (b := 5) (by simp [wrongSig, h0])
  by_cases h6 : 6 < s.length
  · (refine wlk ?_)
    (refine wfT ?_)
    exact Xi (b := 5) (by simp [wrongSig, h6])
  (refine wlk ?_)
  refine dwp_loop (fun k : Nat => [(.t 13, some (.one (lA Int.d s))), (.t 14, some (.one (iA s.length))), (.t 15, some (.one (iA k)))])
    (fun k => k ≤ s.length ∧ ∀ j x, j < k → s[j]? = some x → ¬ (x < 0 ∨ 2 < x)) (fun k => s.length - k) 0 ⟨by omega, fun j x h => absurd h (by omega)⟩ fgs ?_
  rintro k ⟨hk, hno⟩
  by_cases hkl : k < s.length
  · obtain ⟨x, hx⟩ := get_of_lt hkl
    have hyes : (x < 0 ∨ 2 < x) → wrongSig s = 3 := fun h => by
      have : s.any (fun n => decide (n < 0 ∨ 2 < n)) = true := List.any_eq_true.2 ⟨x, List.mem_of_getElem? hx, by simpa using h⟩
      simp only [wrongSig, h0, h6, or_self, if_false, this, if_true]
    by_cases hx0 : x < 0
    · (refine wlk ?_)
      (refine wfT ?_)
      exact Xi (b := 3) (hyes (.inl hx0)).symm
    by_cases hx2 : 2 < x
    · (refine wlk ?_)
      (refine wfT ?_)
      exact Xi (b := 3) (hyes (.inr hx2)).symm
    (refine wlk ?_)
    exact ⟨k + 1, ⟨by omega, upto_succ hno hx (by omega)⟩, fgs, by omega⟩
  · (refine wlk ?_)
    (refine wfT ?_)
    refine Xi (b := 0) ?_
    have : s.any (fun n => decide (n < 0 ∨ 2 < n)) = false := by
      rw [List.any_eq_false]
      intro x hx
      obtain ⟨j, hj, rfl⟩ := List.getElem_of_mem hx
      have := hno j _ (by omega) (List.getElem?_eq_getElem hj)
      simpa using this
    simp only [wrongSig, h0, h6, or_self, if_false, this]
    rfl
set_option maxRecDepth 100000 in
theorem rwalk (s : List Int) : ∀ (t : Tm) (d : Int), 0 ≤ d → d ≤ 1000 → FnD Tryz.prog 110 [lA Int.d s, tA t, iA d] (.one (iA (walk s t d))) := by
  refine Tm.ind ?_
  intro v n l ih d hd0 hd1
  refine Fn.of Tryz.func110 rfl Tryz.ntmps110 rfl (Nat.le_of_ble_eq_true rfl) ?_
  refine dwp_len (t := 0) rfl fun hsl => ?_
  refine dwp_lenA (t := 1) (q := 2) rfl rfl fun hl => ?_
  simp only [List.length_map] at hl hsl
  by_cases h12 : 12 < d
  · (refine wlk ?_)
    (refine wfT ?_)
    exact Xi (b := 4) (by simp [walk, h12])
  cases v
  case true =>
    by_cases hn0 : n < 0
    · (refine wlk ?_)
      (refine wfT ?_)
      exact Xi (b := 3) (by simp [walk, h12, hn0])
    by_cases hn4 : 4 < n
    · (refine wlk ?_)
      (refine wfT ?_)
      exact Xi (b := 3) (by simp [walk, h12, hn4])
    by_cases hl0 : l.length = 0
    · (refine wlk ?_)
      (refine wfT ?_)
      exact Xi (b := 0) (by simp [walk, h12, hn0, hn4, hl0])
    · (refine wlk ?_)
      (refine wfT ?_)
      exact Xi (b := 5) (by simp [walk, h12, hn0, hn4, hl0])
  by_cases hn0 : n < 0
  · (refine wlk ?_)
    (refine wfT ?_)
    exact Xi (b := 7) (by simp [walk, h12, hn0])
  by_cases hns : (s.length : Int) ≤ n
  · (refine wlk ?_)
    (refine wfT ?_)
    exact Xi (b := 7) (by simp [walk, h12, hns])
  obtain ⟨m, rfl⟩ := Int.eq_ofNat_of_zero_le (a := n) (by omega)
  obtain ⟨y, hy⟩ := get_of_lt (s := s) (k := m) (by omega)
  have hget : s.getD m 0 = y := by simp [List.getD, hy]
  have hw : walk s ⟨false, m, l⟩ d = if (l.length : Int) = y then walks s l (d + 1) else 5 := by
    simp only [walk, if_neg h12, if_neg (show ¬ (false = true) by simp), if_neg (show ¬ ((m : Int) < 0 ∨ (s.length : Int) ≤ m) by omega), Int.toNat_natCast, hget]
  by_cases hly : (l.length : Int) = y
  rotate_left
  · (refine wlk ?_)
    (refine wfT ?_)
    exact Xi (b := 5) (by rw [hw, if_neg hly])
  (refine wlk ?_)
  refine dwp_loop (fun k : Nat => [(.t 0, some (.one (lA Int.d s))), (.t 2, some (.one (iA d))), (.t 46, some (.one (lA Tm.d l))), (.t 47, some (.one (iA l.length))), (.t 48, some (.one (iA k)))])
    (fun k => k ≤ l.length ∧ walks s (l.take k) (d + 1) = 0) (fun k => l.length - k) 0 ⟨by omega, rfl⟩ fgs ?_
  rintro k ⟨hk, hw0⟩
  by_cases hkl : k < l.length
  · obtain ⟨x, hx⟩ := get_of_lt hkl
    by_cases hwx : walk s x (d + 1) = 0
    · (refine wlk ?_)
      (refine SqA.b1 (op_call none rfl rfl rfl (by kernel_rfl) (FnD.use (ih x (List.mem_of_getElem? hx) (d + 1) (by omega) (by omega))) rfl rfl rfl rfl rfl rfl) rfl rfl ?_)
      (refine wlk ?_)
      exact ⟨k + 1, ⟨by omega, walks_succ hw0 hx hwx⟩, fgs, by omega⟩
    · (refine wlk ?_)
      (refine SqA.b1 (op_call none rfl rfl rfl (by kernel_rfl) (FnD.use (ih x (List.mem_of_getElem? hx) (d + 1) (by omega) (by omega))) rfl rfl rfl rfl rfl rfl) rfl rfl ?_)
      (refine wlk ?_)
      (refine wfT ?_)
      exact Xi (b := walk s x (d + 1)) (by rw [hw, if_pos hly, walks_no hw0 hx hwx])
  · have : k = l.length := by omega
    subst this
    rw [List.take_length] at hw0
    (refine wlk ?_)
    (refine wfT ?_)
    exact Xi (b := 0) (by rw [hw, if_pos hly, hw0])
set_option maxRecDepth 100000 in
theorem pform (s : List Int) : ∀ (t : Tm) (d : Int), 0 ≤ d → d ≤ 1000 → FnD Tryz.prog 109 [lA Int.d s, tA t, iA d] (.one (iA (walk s t d))) := by
  refine Tm.ind ?_
  intro v n l ih d hd0 hd1
  refine Fn.of Tryz.func109 rfl Tryz.ntmps109 rfl (Nat.le_of_ble_eq_true rfl) ?_
  refine dwp_len (t := 0) rfl fun hsl => ?_
  refine dwp_lenA (t := 1) (q := 2) rfl rfl fun hl => ?_
  simp only [List.length_map] at hl hsl
  by_cases h12 : 12 < d
  · (refine wlk ?_)
    (refine wfT ?_)
    exact Xi (b := 4) (by simp [walk, h12])
  cases v
  case true =>
    by_cases hn0 : n < 0
    · (refine wlk ?_)
      (refine wfT ?_)
      exact Xi (b := 3) (by simp [walk, h12, hn0])
    by_cases hn4 : 4 < n
    · (refine wlk ?_)
      (refine wfT ?_)
      exact Xi (b := 3) (by simp [walk, h12, hn4])
    by_cases hl0 : l.length = 0
    · (refine wlk ?_)
      (refine wfT ?_)
      exact Xi (b := 0) (by simp [walk, h12, hn0, hn4, hl0])
    · (refine wlk ?_)
      (refine wfT ?_)
      exact Xi (b := 5) (by simp [walk, h12, hn0, hn4, hl0])
  by_cases hn0 : n < 0
  · (refine wlk ?_)
    (refine wfT ?_)
    exact Xi (b := 7) (by simp [walk, h12, hn0])
  by_cases hns : (s.length : Int) ≤ n
  · (refine wlk ?_)
    (refine wfT ?_)
    exact Xi (b := 7) (by simp [walk, h12, hns])
  obtain ⟨m, rfl⟩ := Int.eq_ofNat_of_zero_le (a := n) (by omega)
  obtain ⟨y, hy⟩ := get_of_lt (s := s) (k := m) (by omega)
  have hget : s.getD m 0 = y := by simp [List.getD, hy]
  have hw : walk s ⟨false, m, l⟩ d = if (l.length : Int) = y then walks s l (d + 1) else 5 := by
    simp only [walk, if_neg h12, if_neg (show ¬ (false = true) by simp), if_neg (show ¬ ((m : Int) < 0 ∨ (s.length : Int) ≤ m) by omega), Int.toNat_natCast, hget]
  by_cases hly : (l.length : Int) = y
  rotate_left
  · (refine wlk ?_)
    (refine wfT ?_)
    exact Xi (b := 5) (by rw [hw, if_neg hly])
  (refine wlk ?_)
  refine dwp_loop (fun k : Nat => [(.t 0, some (.one (lA Int.d s))), (.t 2, some (.one (iA d))), (.t 60, some (.one (lA Tm.d l))), (.t 61, some (.one (iA l.length))), (.t 62, some (.one (iA k)))])
    (fun k => k ≤ l.length ∧ walks s (l.take k) (d + 1) = 0) (fun k => l.length - k) 0 ⟨by omega, rfl⟩ fgs ?_
  rintro k ⟨hk, hw0⟩
  by_cases hkl : k < l.length
  · obtain ⟨x, hx⟩ := get_of_lt hkl
    by_cases hwx : walk s x (d + 1) = 0
    · (refine wlk ?_)
      (refine SqA.b1 (op_call none rfl rfl rfl (by kernel_rfl) (FnD.use (ih x (List.mem_of_getElem? hx) (d + 1) (by omega) (by omega))) rfl rfl rfl rfl rfl rfl) rfl rfl ?_)
      (refine wlk ?_)
      exact ⟨k + 1, ⟨by omega, walks_succ hw0 hx hwx⟩, fgs, by omega⟩
    · (refine wlk ?_)
      (refine SqA.b1 (op_call none rfl rfl rfl (by kernel_rfl) (FnD.use (ih x (List.mem_of_getElem? hx) (d + 1) (by omega) (by omega))) rfl rfl rfl rfl rfl rfl) rfl rfl ?_)
      (refine wlk ?_)
      (refine wfT ?_)
      exact Xi (b := walk s x (d + 1)) (by rw [hw, if_pos hly, walks_no hw0 hx hwx])
  · have : k = l.length := by omega
    subst this
    rw [List.take_length] at hw0
    (refine wlk ?_)
    (refine wfT ?_)
    exact Xi (b := 0) (by rw [hw, if_pos hly, hw0])
set_option maxRecDepth 100000 in
theorem rwrong (s : List Int) (t : Tm) : FnD Tryz.prog 69 [lA Int.d s, tA t] (.one (iA (wrong s t))) := by
  refine Fn.of Tryz.func69 rfl Tryz.ntmps69 rfl (Nat.le_of_ble_eq_true rfl) ?_
  by_cases hw : walk s t 1 = 0
  rotate_left
  · (refine wlk ?_)
    (refine SqA.b1 (op_call none rfl rfl rfl (by kernel_rfl) (FnD.use (rwalk s t 1 (by omega) (by omega))) rfl rfl rfl rfl rfl rfl) rfl rfl ?_)
    (refine wlk ?_)
    (refine wfT ?_)
    exact Xi (b := walk s t 1) (by simp [wrong, hw])
  by_cases hz : 12 < wrap64 t.size
  · (refine wlk ?_)
    (refine SqA.b1 (op_call none rfl rfl rfl (by kernel_rfl) (FnD.use (rwalk s t 1 (by omega) (by omega))) rfl rfl rfl rfl rfl rfl) rfl rfl ?_)
    (refine wlk ?_)
    (refine SqA.b1 (op_call none rfl rfl rfl (by kernel_rfl) (FnD.use (rsize t)) rfl rfl rfl rfl rfl rfl) rfl rfl ?_)
    (refine wlk ?_)
    (refine wfT ?_)
    exact Xi (b := 4) (by simp [wrong, hw, hz])
  · (refine wlk ?_)
    (refine SqA.b1 (op_call none rfl rfl rfl (by kernel_rfl) (FnD.use (rwalk s t 1 (by omega) (by omega))) rfl rfl rfl rfl rfl rfl) rfl rfl ?_)
    (refine wlk ?_)
    (refine SqA.b1 (op_call none rfl rfl rfl (by kernel_rfl) (FnD.use (rsize t)) rfl rfl rfl rfl rfl rfl) rfl rfl ?_)
    (refine wlk ?_)
    (refine wfT ?_)
    exact Xi (b := 0) (by simp only [wrong, hw, if_true, if_neg hz])
set_option maxRecDepth 100000 in
theorem pwrong (s : List Int) (t : Tm) : FnD Tryz.prog 64 [lA Int.d s, tA t] (.one (iA (wrong s t))) := by
  refine Fn.of Tryz.func64 rfl Tryz.ntmps64 rfl (Nat.le_of_ble_eq_true rfl) ?_
  by_cases hw : walk s t 1 = 0
  rotate_left
  · (refine wlk ?_)
    (refine SqA.b1 (op_call none rfl rfl rfl (by kernel_rfl) (FnD.use (pform s t 1 (by omega) (by omega))) rfl rfl rfl rfl rfl rfl) rfl rfl ?_)
    (refine wlk ?_)
    (refine wfT ?_)
    exact Xi (b := walk s t 1) (by simp [wrong, hw])
  by_cases hz : 12 < wrap64 t.size
  · (refine wlk ?_)
    (refine SqA.b1 (op_call none rfl rfl rfl (by kernel_rfl) (FnD.use (pform s t 1 (by omega) (by omega))) rfl rfl rfl rfl rfl rfl) rfl rfl ?_)
    (refine wlk ?_)
    (refine SqA.b1 (op_call none rfl rfl rfl (by kernel_rfl) (FnD.use (psize t)) rfl rfl rfl rfl rfl rfl) rfl rfl ?_)
    (refine wlk ?_)
    (refine wfT ?_)
    exact Xi (b := 4) (by simp [wrong, hw, hz])
  · (refine wlk ?_)
    (refine SqA.b1 (op_call none rfl rfl rfl (by kernel_rfl) (FnD.use (pform s t 1 (by omega) (by omega))) rfl rfl rfl rfl rfl rfl) rfl rfl ?_)
    (refine wlk ?_)
    (refine SqA.b1 (op_call none rfl rfl rfl (by kernel_rfl) (FnD.use (psize t)) rfl rfl rfl rfl rfl rfl) rfl rfl ?_)
    (refine wlk ?_)
    (refine wfT ?_)
    exact Xi (b := 0) (by simp only [wrong, hw, if_true, if_neg hz])
end Go.Proofs.YtmanhdacnkpclaaGreat
/- Reading terms from bytes, plainly. -/
namespace Go.Proofs.YtmanhdacnkpclaaGreat
set_option linter.all false
end Go.Proofs.YtmanhdacnkpclaaGreat
/- What functions do: reading terms. -/
namespace Go.Proofs.YtmanhdacnkpclaaGreat
set_option linter.all false
open Go.RowKit
abbrev FnB (P : Program) (f : FuncId) (args : List A1) (cs : List CV) (x : X) (cs' : List CV) : Prop := Fn P f args (some cs) (fun x' c' => x' = x ∧ c' = cs')
theorem FnB.use {P : Program} {f : FuncId} {args : List A1} {cs cs' : List CV} {x : X} (h : FnB P f args cs x cs') : Fn P f args (some cs) (fun x' c' => x' = x ∧ ((some cs).isSome = true → c' = cs')) := by
  intro who w vs h1 h2 h3 h4 h5 h6
  refine (h who w vs h1 h2 h3 h4 h5 h6).mono ?_
  rintro e w' ⟨v, x', c', who', g1, ⟨g2, g3⟩, g4⟩
  exact ⟨v, x', c', who', g1, ⟨g2, fun _ => g3⟩, g4⟩
theorem XB {x x' : X} {cs cs' : List CV} (h : x = x') (h' : cs = cs') : x = x' ∧ cs = cs' := ⟨h, h'⟩
end Go.Proofs.YtmanhdacnkpclaaGreat
/- What functions do: Read, Parse; the laws' own reading. -/
namespace Go.Proofs.YtmanhdacnkpclaaGreat
set_option linter.all false
open Go.RowKit
end Go.Proofs.YtmanhdacnkpclaaGreat
namespace Go.Proofs.YtmanhdacnkpclaaGreat
set_option linter.all false
set_option maxRecDepth 1000000
set_option maxHeartbeats 32000000
def dig (n : Int) : UInt8 := UInt8.ofNat (48 + n.toNat)
mutual
def text : Tm → List UInt8
  | ⟨v, n, l⟩ => if v then [88, dig n] else UInt8.ofNat (97 + n.toNat) :: (match l with | [] => [] | a :: l => 40 :: (text a ++ (texts l ++ [41])))
def texts : List Tm → List UInt8
  | [] => []
  | a :: l => 44 :: (text a ++ texts l)
end
theorem at_put : ∀ (p : List Int) (t u : Tm), p ∈ places t → at_ (put t p u) p = (u, true)
  | [], t, u, _ => by simp [put, at_]
  | i :: p, ⟨v, n, l⟩, u, hp => by
    obtain ⟨rfl, h0 | ⟨k, x, p', hx, e1, hp'⟩⟩ := places_cons hp
    · cases h0
    · injection e1 with e1 e2
      subst e1 e2
      rw [put_cons hx, at_cons (x := put x p u) (by simp [(List.getElem?_eq_some_iff.1 hx).1])]
      exact at_put p x u hp'
theorem size_put : ∀ (p : List Int) (t u : Tm), p ∈ places t → (put t p u).size + (at_ t p).1.size = t.size + u.size
  | [], t, u, _ => by simp only [put, at_]; omega
  | i :: p, ⟨v, n, l⟩, u, hp => by
    obtain ⟨rfl, h0 | ⟨k, x, p', hx, e1, hp'⟩⟩ := places_cons hp
    · cases h0
    · injection e1 with e1 e2
      subst e1 e2
      have ih := size_put p x u hp'
      have hz := sizes_set (y := put x p u) hx
      rw [put_cons hx, at_cons hx]
      simp only [Tm.size]
      omega
end Go.Proofs.YtmanhdacnkpclaaGreat
/- Simpler clauses, plainly: which one covers another one; and the end. -/
namespace Go.Proofs.YtmanhdacnkpclaaGreat
set_option linter.all false
def coverW (x : Lt) (s : List Pr) (w : Tm × Tm) : Option (List Pr) := match moreR s x.left w.1 with
  | (a, true) => match moreR a x.right w.2 with
    | (b, true) => some b
    | (_, false) => none
  | (_, false) => none
def coverL (x : Lt) (s : List Pr) (y : Lt) : List (List Pr) := if y.neg = x.neg then (waysL y).filterMap (coverW x s) else []
def coverD (x : Lt) (d : List Lt) (s : List Pr) : List (List Pr) := d.flatMap (coverL x s)
def coversS : List Pr → List Lt → List Lt → Bool
  | _, [], _ => true
  | s, x :: c, d => (coverD x d s).any fun b => coversS b c d
def covers (c d : List Lt) : Bool := coversS [] c d
def LitIn (θ : List Pr) (d : List Lt) (x : Lt) : Prop := ∃ l ∈ d, l.neg = x.neg ∧ ∃ w ∈ waysL l, app θ x.left = w.1 ∧ app θ x.right = w.2
theorem coverD_mem {x : Lt} {d : List Lt} {s b : List Pr} : b ∈ coverD x d s ↔ ∃ l ∈ d, l.neg = x.neg ∧ ∃ w ∈ waysL l, coverW x s w = some b := by
  unfold coverD coverL
  rw [List.mem_flatMap]
  constructor
  · rintro ⟨l, hl, h⟩
    split at h
    · rename_i hn
      obtain ⟨w, hw, h⟩ := List.mem_filterMap.1 h
      exact ⟨l, hl, hn, w, hw, h⟩
    · cases h
  · rintro ⟨l, hl, hn, w, hw, h⟩
    refine ⟨l, hl, ?_⟩
    rw [if_pos hn]
    exact List.mem_filterMap.2 ⟨w, hw, h⟩
theorem coverW_sound {x : Lt} {s b : List Pr} {w : Tm × Tm} (hx : x.left.okv = true ∧ x.right.okv = true) (h : coverW x s w = some b) : ext s b ∧ (∀ v, times v x.left ≠ 0 ∨ times v x.right ≠ 0 → dom b v) ∧ app b x.left = w.1 ∧ app b x.right = w.2 := by
  unfold coverW at h
  split at h
  · rename_i a h1
    split at h
    · rename_i b' h2
      injection h with h; subst h
      obtain ⟨e1, d1, a1⟩ := moreR_sound _ _ _ _ hx.1 h1
      obtain ⟨e2, d2, a2⟩ := moreR_sound _ _ _ _ hx.2 h2
      refine ⟨e1.trans e2, fun v hv => ?_, ?_, a2⟩
      · rcases hv with hv | hv
        · exact e2.dom (d1 v hv)
        · exact d2 v hv
      · rw [e2.app _ hx.1 d1, a1]
    · cases h
  · cases h
theorem coverW_ar {S : List Int} {x : Lt} {s b : List Pr} {w : Tm × Tm} (hs : subAr S s) (h1 : w.1.ar S = true) (h2 : w.2.ar S = true) (h : coverW x s w = some b) : subAr S b := by
  unfold coverW at h
  split at h
  · rename_i a e1
    split at h
    · rename_i b' e2
      injection h with h; subst h
      have g1 := moreR_ar x.left s w.1 hs h1
      rw [e1] at g1
      have g2 := moreR_ar x.right a w.2 g1 h2
      rw [e2] at g2
      exact g2
    · cases h
  · cases h
theorem coversS_sound {d : List Lt} : ∀ (c : List Lt) (s : List Pr), clOkv c → coversS s c d = true → ∃ θ, ext s θ ∧ (∀ x ∈ c, LitIn θ d x) ∧ ∀ S, subAr S s → clAr S d → subAr S θ
  | [], s, _, _ => ⟨s, fun _ _ h => h, fun x hx => (by cases hx), fun S h _ => h⟩
  | x :: c, s, hc, h => by
    simp only [coversS] at h
    obtain ⟨b, hb, h⟩ := List.any_eq_true.1 h
    obtain ⟨l, hl, hn, w, hw, hb⟩ := coverD_mem.1 hb
    have hx := hc x (by simp)
    obtain ⟨e1, d1, a1, a2⟩ := coverW_sound hx hb
    obtain ⟨θ, e2, hi, har⟩ := coversS_sound c b (fun l hl => hc l (by simp [hl])) h
    refine ⟨θ, e1.trans e2, fun y hy => ?_, fun S hs hd => har S (coverW_ar hs ?_ ?_ hb) hd⟩
    · rcases List.mem_cons.1 hy with rfl | hy
      · refine ⟨l, hl, hn, w, hw, ?_, ?_⟩
        · rw [e2.app _ hx.1 fun v hv => d1 v (.inl hv), a1]
        · rw [e2.app _ hx.2 fun v hv => d1 v (.inr hv), a2]
      · exact hi y hy
    · have := hd l hl
      rcases ways_mem hw with rfl | rfl
      · exact this.1
      · exact this.2
    · have := hd l hl
      rcases ways_mem hw with rfl | rfl
      · exact this.2
      · exact this.1
theorem covers_valid {S : List Int} {m : Md} {c d : List Lt} (hm : MOk S m) (hc : clOkv c) (hd : clAr S d) (h : covers c d = true) (hv : validF m c) : validF m d := fun e he => by
  obtain ⟨θ, _, hi, har⟩ := coversS_sound c [] hc h
  have h1 := validF_by hm (har S (by intro q hq; cases hq) hd) hc hv e he
  obtain ⟨y, hy, h1⟩ := someF_mem.1 h1
  simp only [each, List.mem_map] at hy
  obtain ⟨x, hx, rfl⟩ := hy
  obtain ⟨l, hl, hn, w, hw, e1, e2⟩ := hi x hx
  refine someF_mem.2 ⟨l, hl, ?_⟩
  rw [e1, e2] at h1
  unfold litF at h1 ⊢
  rw [← hn] at h1
  rcases ways_mem hw with rfl | rfl
  · exact h1
  · simp only at h1
    rw [Bool.beq_comm] at h1
    exact h1
theorem at_ren {σ : List Pr} : ∀ (p : List Int) (t : Tm), p ∈ places t → (at_ (app σ t) p).1 = app σ (at_ t p).1
  | [], t, _ => by simp [at_]
  | i :: p, ⟨v, n, l⟩, hp => by
    obtain ⟨rfl, h0 | ⟨k, x, p', hx, e1, hp'⟩⟩ := places_cons hp
    · cases h0
    · injection e1 with e1 e2
      subst e1 e2
      rw [app_sym, at_cons hx, at_cons (x := app σ x) (by rw [List.getElem?_map, hx]; rfl)]
      exact at_ren p x hp'
theorem dn_ex (us : List (List Lt)) (t : Tm) : ∃ r, (∃ r, Downs us t r) → Downs us t r := by
  rcases Classical.em (∃ r, Downs us t r) with ⟨r, h⟩ | h
  · exact ⟨r, fun _ => h⟩
  · exact ⟨t, fun h' => absurd h' h⟩
noncomputable def dn (us : List (List Lt)) (t : Tm) : Tm := Classical.choose (dn_ex us t)
theorem dn_downs {S : List Int} {us : List (List Lt)} (hu : UsOk S us) {t : Tm} (ht : t.ar S = true) : Downs us t (dn us t) := Classical.choose_spec (dn_ex us t) (downs_ex hu ht)
noncomputable def rewr (us : List (List Lt)) (c : List Lt) : List Lt × Int := norm (each (dn us) c)
theorem dn_wf {S : List Int} {us : List (List Lt)} (hu : UsOk S us) {t : Tm} (ht : t.wf S = true) : (dn us t).wf S = true ∧ (dn us t).size ≤ t.size := by
  have h := dn_downs hu (Tm.wf_ar t ht)
  obtain ⟨h1, h2⟩ := h.less hu (Tm.wf_ar t ht)
  refine ⟨Tm.ar_wf _ (h.keep hu (Tm.wf_ar t ht)).1 fun v hv => (times_wf ht fun h0 => hv ?_).2, h1⟩
  have := h2 v
  omega
theorem dn_cl {S : List Int} {us : List (List Lt)} (hu : UsOk S us) {c : List Lt} (hc : clWf S c) : clWf S (each (dn us) c) := fun l hl => by
  simp only [each, List.mem_map] at hl
  obtain ⟨k, hk, rfl⟩ := hl
  exact ⟨(dn_wf hu (hc k hk).1).1, (dn_wf hu (hc k hk).2).1⟩
end Go.Proofs.YtmanhdacnkpclaaGreat
/- Simpler clauses, step by step, plainly. -/
namespace Go.Proofs.YtmanhdacnkpclaaGreat
set_option linter.all false
theorem firstS_hit {α : Type} {f : α → Option Tm} : ∀ {l : List α} {k : Nat} {a : α} {r : Tm}, (∀ j x, j < k → l[j]? = some x → f x = none) → l[k]? = some a → f a = some r → firstS f l = some r
  | [], k, a, r, _, h, _ => by simp at h
  | x :: l, 0, a, r, _, h, hr => by simp at h; subst h; simp [firstS, hr]
  | x :: l, k + 1, a, r, hno, h, hr => by
    have h0 := hno 0 x (by omega) rfl
    simp only [firstS, h0]
    exact firstS_hit (k := k) (fun j y hj hy => hno (j + 1) y (by omega) (by simpa using hy)) (by simpa using h) hr
theorem downP_hit {us : List (List Lt)} {t : Tm} : ∀ {ps : List (List Int)} {k : Nat} {p : List Int} {r : Tm}, (∀ j x, j < k → ps[j]? = some x → down1 us (at_ t x).1 = none) → ps[k]? = some p → down1 us (at_ t p).1 = some r → downP us t ps = some (put t p r)
  | [], k, a, r, _, h, _ => by simp at h
  | x :: l, 0, a, r, _, h, hr => by simp at h; subst h; simp [downP, hr]
  | x :: l, k + 1, a, r, hno, h, hr => by
    have h0 := hno 0 x (by omega) rfl
    simp only [downP, h0]
    exact downP_hit (k := k) (fun j y hj hy => hno (j + 1) y (by omega) (by simpa using hy)) (by simpa using h) hr
mutual
theorem vars_pre : ∀ (t : Tm) (l : List Int), ∃ r, vars l t = l ++ r
  | ⟨true, n, as_⟩, l => by
    simp only [vars]; split
    · exact ⟨[], by simp⟩
    · exact ⟨[n], rfl⟩
  | ⟨false, n, as_⟩, l => by simp only [vars]; exact varss_pre as_ l
theorem varss_pre : ∀ (ts : List Tm) (l : List Int), ∃ r, varss l ts = l ++ r
  | [], l => ⟨[], by simp [varss]⟩
  | a :: ts, l => by
    obtain ⟨r1, h1⟩ := vars_pre a l
    obtain ⟨r2, h2⟩ := varss_pre ts (vars l a)
    exact ⟨r1 ++ r2, by simp only [varss]; rw [h2, h1, List.append_assoc]⟩
end
theorem vars_new {t : Tm} (hk : t.okv = true) (l : List Int) : decide (l.length < (vars l t).length) = (vars [] t).any fun v => !l.contains v := by
  rw [Bool.eq_iff_iff, decide_eq_true_eq]
  constructor
  · intro h
    rw [← Bool.not_eq_false]
    intro hn
    have hall : ∀ v, times v t ≠ 0 → v ∈ l := fun v hv => by
      have := List.any_eq_false.1 hn v (times_mem v t [] hk hv).1
      simpa using this
    rw [vars_had t l hk hall] at h
    omega
  · intro h
    obtain ⟨v, hv, hn⟩ := List.any_eq_true.1 h
    have hv' : times v t ≠ 0 := by
      rcases vars_sub v t [] hv with h | h
      · cases h
      · exact h
    have hm := (times_mem v t l hk hv').1
    obtain ⟨r, hr⟩ := vars_pre t l
    rw [hr] at hm ⊢
    have hnl : v ∉ l := by simpa using hn
    rcases List.mem_append.1 hm with h | h
    · exact absurd h hnl
    · cases r with
      | nil => cases h
      | cons a r => simp
mutual
theorem moreR_size {M : Nat} : ∀ (p : Tm) (s : List Pr) (t : Tm), (∀ q ∈ s, q.2.size ≤ M) → t.size ≤ M → ∀ q ∈ (moreR s p t).1, q.2.size ≤ M
  | ⟨true, n, l⟩, s, t, hs, ht => by
    simp only [moreR]; split
    · exact hs
    · intro q hq
      rcases List.mem_append.1 hq with hq | hq
      · exact hs q hq
      · rw [List.mem_singleton.1 hq]; exact ht
  | ⟨false, n, l⟩, s, ⟨v, m, ts⟩, hs, ht => by
    simp only [moreR]; split
    · intro q hq; cases hq
    · simp only [Tm.size] at ht
      exact moresR_size l s ts hs (by omega)
theorem moresR_size {M : Nat} : ∀ (l : List Tm) (s : List Pr) (ts : List Tm), (∀ q ∈ s, q.2.size ≤ M) → Tm.sizes ts ≤ M → ∀ q ∈ (moresR s l ts).1, q.2.size ≤ M
  | [], s, ts, hs, _ => by simpa [moresR] using hs
  | _ :: _, s, [], hs, _ => by simpa [moresR] using hs
  | p :: l, s, t :: ts, hs, ht => by
    simp only [Tm.sizes] at ht
    have h1 := moreR_size p s t hs (by omega)
    simp only [moresR]; split
    · rename_i s' h
      rw [h] at h1
      exact moresR_size l s' ts h1 (by omega)
    · intro q hq; cases hq
end
theorem matchR_size {M : Nat} {p t : Tm} (ht : t.size ≤ M) : ∀ q ∈ (matchR p t).1, q.2.size ≤ M := by
  have := moreR_size (M := M) p [] t (fun q hq => by cases hq) ht
  unfold matchR
  split
  · rename_i r h; rw [h] at this; exact this
  · intro q hq; cases hq
theorem app_small {by_ : List Pr} (hb : ∀ p ∈ by_, p.2.size ≤ 12) {t : Tm} (ht : t.okv = true) (hz : t.size ≤ 12) : (app by_ t).size ≤ 144 := by
  have h := size_app_le (s := by_) (M := 12) (by omega) t ht fun n _ => by
    unfold appV
    rw [app_var]
    cases hf : findS by_ n with
    | none => simp [Tm.size, Tm.sizes]
    | some u =>
      obtain ⟨p, hp, _, rfl⟩ := findS_mem hf
      exact hb p hp
  omega
structure UsSz (S : List Int) (us : List (List Lt)) : Prop where
  ok : UsOk S us
  size : ∀ u ∈ us, ∀ l ∈ u, l.left.size ≤ 12 ∧ l.right.size ≤ 12
theorem UsSz.one {S : List Int} {us : List (List Lt)} (h : UsSz S us) {u : List Lt} (hu : u ∈ us) : ∃ l : Lt, u = [l] ∧ l.neg = false ∧ (l.left.wf S = true ∧ l.right.wf S = true) ∧ l.left.size ≤ 12 ∧ l.right.size ≤ 12 := by
  have h1 := h.ok.unit u hu
  have h2 := h.ok.wf u hu
  have h3 := h.size u hu
  match u, h1 with
  | [l], h1 => exact ⟨l, rfl, by simpa [unit] using h1, h2 l (by simp), h3 l (by simp)⟩
theorem at_size : ∀ (p : List Int) (t : Tm), p ∈ places t → (at_ t p).1.size ≤ t.size
  | [], t, _ => by simp [at_]
  | i :: p, ⟨v, n, l⟩, hp => by
    have h1 := size_put (i :: p) ⟨v, n, l⟩ ⟨false, 0, []⟩ hp
    have h2 : (Tm.mk false 0 []).size = 1 := by simp [Tm.size, Tm.sizes]
    have h3 : 1 ≤ (put ⟨v, n, l⟩ (i :: p) ⟨false, 0, []⟩).size := by
      generalize put ⟨v, n, l⟩ (i :: p) ⟨false, 0, []⟩ = x
      obtain ⟨a, b, c⟩ := x
      simp only [Tm.size]; omega
    omega
end Go.Proofs.YtmanhdacnkpclaaGreat
/- Searches and logs, plainly. -/
namespace Go.Proofs.YtmanhdacnkpclaaGreat
set_option linter.all false
structure Sp where
  rule : Int
  frm : List Int
  cl : List Lt
structure Pf where
  sig : List Int
  steps : List Sp
  active : List Int
  wait : List Int
  found : Int
  lost : Bool
def Sp.zero : Sp := ⟨0, [], []⟩
def Pf.zero : Pf := ⟨[], [], [], [], 0, false⟩
def stAt (l : List Sp) (k : Int) : Sp := l.getD k.toNat Sp.zero
def clAt (p : Pf) (k : Int) : List Lt := (stAt p.steps k).cl
def stepP (p : Pf) (rule : Int) (frm : List Int) (c : List Lt) : Pf × Bool :=
  if 120 ≤ p.steps.length then ({ p with lost := true }, false)
  else ({ p with steps := p.steps ++ [⟨rule, frm, c⟩], found := if c.length = 0 ∧ p.found < 0 then (p.steps.length : Int) else p.found }, true)
def waits (p : Pf) (c : List Lt) : Bool := p.wait.any fun k => clSame (clAt p k) c
def known (p : Pf) (c : List Lt) : Bool := p.active.any fun k => covers (clAt p k) c
def come1 (rule : Int) (frm : List Int) (p : Pf) (c : List Lt) : Pf :=
  if 0 ≤ p.found ∨ waits p c = true ∨ known p c = true then p
  else match stepP p rule frm c with
    | (q, true) => { q with wait := q.wait ++ [(q.steps.length : Int) - 1] }
    | (q, false) => q
def come (p : Pf) (rule : Int) (frm : List Int) (m : Mk) : Pf := m.1.foldl (come1 rule frm) { p with lost := p.lost || m.2 }
def unitsK (p : Pf) : List Int := p.active.filter fun k => unit (clAt p k)
def pickSup (g : Int) (c : List Lt) (p : Pf) (k : Int) : Pf :=
  if k = g then come p 4 [k, g] (sup (clAt p k) c)
  else come (come p 4 [k, g] (sup (clAt p k) c)) 4 [g, k] (sup c (clAt p k))
def pickGo (p : Pf) (g : Int) (c : List Lt) : Pf :=
  (p.active ++ [g]).foldl (pickSup g c) (come (come { p with active := p.active ++ [g] } 2 [g] (resolve c)) 3 [g] (factor c))
def pick3 (p : Pf) (g : Int) (c : List Lt) : Pf := if 0 ≤ p.found ∨ known p c = true then p else pickGo p g c
def pick2 (p : Pf) (g : Int) (c : List Lt) : Pf :=
  if clSame c (clAt p g) then pick3 p g c
  else match stepP p 5 (g :: unitsK p) c with
    | (q, true) => pick3 q ((q.steps.length : Int) - 1) c
    | (q, false) => q
noncomputable def pick1 (p : Pf) (g : Int) : Pf :=
  match rewr ((unitsK p).map (clAt p)) (clAt p g) with
  | (c, e) => if e = 0 then pick2 p g c else { p with lost := p.lost || decide (e = 4) }
noncomputable def pick (p : Pf) (n : Int) : Pf × Int :=
  if 0 ≤ p.found ∨ p.wait.length = 0 then (p, 11)
  else if n < 0 ∨ (p.wait.length : Int) ≤ n then (p, 6)
  else (pick1 { p with wait := p.wait.eraseIdx n.toNat } (p.wait.getD n.toNat 0), 0)
def newGo (s : List Int) : Nat → List (List Lt) → Pf → Pf × Int
  | _, [], p => (p, 0)
  | i, c :: l, p => if wrongCl s c = 0 then (match norm c with
      | (n, e) => if e = 4 then (Pf.zero, 4) else if e = 0 then newGo s (i + 1) l { (stepP p 1 [(i : Int)] n).1 with wait := p.wait ++ [((stepP p 1 [(i : Int)] n).1.steps.length : Int) - 1] } else newGo s (i + 1) l p)
    else (Pf.zero, wrongCl s c)
def newP (s : List Int) (l : List (List Lt)) : Pf × Int :=
  if wrongSig s = 0 then (if 8 < l.length then (Pf.zero, 5) else newGo s 0 l ⟨s, [], [], [], -1, false⟩) else (Pf.zero, wrongSig s)
noncomputable def searchGo : Pf → List Int → Pf
  | p, [] => p
  | p, n :: ns => if p.wait.length = 0 then p else searchGo (pick p (n % (p.wait.length : Int))).1 ns
noncomputable def search (s : List Int) (l : List (List Lt)) (picks : List Int) : Pf × Int :=
  match newP s l with
  | (p, e) => if e = 0 then (if 120 < picks.length then (Pf.zero, 4) else (searchGo p picks, 0)) else (Pf.zero, e)
def fromOk (at_ : Nat) (l : List Int) : Bool := l.all fun f => decide (0 ≤ f ∧ f < (at_ : Int))
noncomputable def comes (inn : List (List Lt)) (steps : List Sp) (at_ : Nat) (x : Sp) : List (List Lt) :=
  if x.frm.length = 0 ∨ (x.rule = 4 ∧ x.frm.length ≠ 2) ∨ (x.rule < 4 ∧ x.frm.length ≠ 1) then []
  else if x.rule = 1 then (if x.frm.getD 0 0 < 0 ∨ (inn.length : Int) ≤ x.frm.getD 0 0 then [] else match norm (inn.getD (x.frm.getD 0 0).toNat []) with
    | (n, e) => if e = 0 then [n] else [])
  else if fromOk at_ x.frm = false then []
  else
    let l := x.frm.map fun f => (stAt steps f).cl
    if x.rule = 2 then (resolve (l.getD 0 [])).1
    else if x.rule = 3 then (factor (l.getD 0 [])).1
    else if x.rule = 4 then (sup (l.getD 0 []) (l.getD 1 [])).1
    else if l.tail.all unit then (match rewr l.tail (l.getD 0 []) with
      | (c, e) => if e = 0 then [c] else [])
    else []
noncomputable def checkGo (s : List Int) (inn : List (List Lt)) (steps : List Sp) : Nat → List Sp → Int × Int
  | _, [] => (0, -1)
  | k, x :: r => if x.rule < 1 ∨ 5 < x.rule then (1, (k : Int))
    else if wrongCl s x.cl = 0 then (if (comes inn steps k x).any (fun c => clSame c x.cl) then checkGo s inn steps (k + 1) r else (10, (k : Int)))
    else (wrongCl s x.cl, (k : Int))
def firstWrong (s : List Int) : List (List Lt) → Int
  | [] => 0
  | c :: l => if wrongCl s c = 0 then firstWrong s l else wrongCl s c
noncomputable def check (s : List Int) (inn : List (List Lt)) (steps : List Sp) : Int × Int :=
  if wrongSig s = 0 then (if 8 < inn.length ∨ 120 < steps.length then (5, -1) else if firstWrong s inn = 0 then checkGo s inn steps 0 steps else (firstWrong s inn, -1)) else (wrongSig s, -1)
def needGo (steps : List Sp) : Nat → (Int → Bool) → (Int → Bool)
  | 0, N => N
  | k + 1, N => needGo steps k (if N (k : Int) && !((stAt steps k).rule == 1) then fun v => N v || (stAt steps k).frm.contains v else N)
def needs (steps : List Sp) (last : Int) : Int → Bool := needGo steps (last.toNat + 1) fun v => v == last
def cntN (N : Int → Bool) : Nat → Nat
  | 0 => 0
  | k + 1 => cntN N k + (if N (k : Int) then 1 else 0)
def renum (N : Int → Bool) (x : Sp) : Sp := if x.rule = 1 then x else { x with frm := x.frm.map fun f => (cntN N f.toNat : Int) }
def trimGo (steps : List Sp) (N : Int → Bool) : Nat → List Sp
  | 0 => []
  | k + 1 => trimGo steps N k ++ (if N (k : Int) then [renum N (stAt steps k)] else [])
def trim (steps : List Sp) (last : Int) : List Sp := if last < 0 ∨ (steps.length : Int) ≤ last then [] else trimGo steps (needs steps last) (last.toNat + 1)
structure Just (S : List Int) (inn : List (List Lt)) (steps : List Sp) (k : Nat) (x : Sp) : Prop where
  rule : 1 ≤ x.rule ∧ x.rule ≤ 5
  right : wrongCl S x.cl = 0
  comes : x.cl ∈ comes inn steps k x
theorem stAt_app {l r : List Sp} {k : Int} (h0 : 0 ≤ k) (h : k < l.length) : stAt (l ++ r) k = stAt l k := by
  unfold stAt
  rw [List.getD_eq_getElem?_getD, List.getD_eq_getElem?_getD, List.getElem?_append_left (by omega)]
theorem comes_app {inn : List (List Lt)} {l r : List Sp} {k : Nat} {x : Sp} (hk : k ≤ l.length) : comes inn (l ++ r) k x = comes inn l k x := by
  unfold comes
  by_cases hf : fromOk k x.frm = false
  · simp only [hf, if_true]
  · simp only [Bool.not_eq_false] at hf
    have : x.frm.map (fun f => (stAt (l ++ r) f).cl) = x.frm.map (fun f => (stAt l f).cl) := List.map_congr_left fun f hm => by
      have := List.all_eq_true.1 hf f hm
      simp only [decide_eq_true_eq] at this
      rw [stAt_app this.1 (by omega)]
    rw [this]
structure QOk (S : List Int) (inn : List (List Lt)) (Q : List Lt → Prop) : Prop where
  kept : ∀ c, Q c → Kept S c
  norm : ∀ c ∈ inn, ∀ n, norm c = (n, 0) → Q n
  resolve : ∀ c, Q c → ∀ n ∈ (resolve c).1, Q n
  factor : ∀ c, Q c → ∀ n ∈ (factor c).1, Q n
  sup : ∀ c d, Q c → Q d → ∀ n ∈ (sup c d).1, Q n
  rewr : ∀ us, (∀ u ∈ us, Q u ∧ unit u = true) → ∀ c n, Q c → rewr us c = (n, 0) → Q n
section
variable {S : List Int} {inn : List (List Lt)} {Q : List Lt → Prop} {p : Pf}
variable (hQ : QOk S inn Q)
include hQ
end
end Go.Proofs.YtmanhdacnkpclaaGreat
/- Searches and logs, plainly: what holds of them. -/
namespace Go.Proofs.YtmanhdacnkpclaaGreat
set_option linter.all false
theorem checkGo_ok {S : List Int} {inn : List (List Lt)} {steps : List Sp} (h : ∀ (k : Nat) (st : Sp), steps[k]? = some st → Just S inn steps k st) : ∀ (r : List Sp) (k : Nat), steps.drop k = r → checkGo S inn steps k r = (0, -1)
  | [], _, _ => rfl
  | x :: r, k, hd => by
    have hk : steps[k]? = some x := by
      have := congrArg (fun l => l[0]?) hd
      simpa using this
    have hd' : steps.drop (k + 1) = r := by
      have := congrArg List.tail hd
      simpa using this
    have hj := h k x hk
    simp only [checkGo]
    rw [if_neg (by have := hj.rule; omega), if_pos hj.right, if_pos (show (comes inn steps k x).any (fun c => clSame c x.cl) = true from List.any_eq_true.2 ⟨x.cl, hj.comes, clSame_iff.2 rfl⟩)]
    exact checkGo_ok h r (k + 1) hd'
theorem checkGo_just {S : List Int} {inn : List (List Lt)} {steps : List Sp} : ∀ (r : List Sp) (k : Nat) (e : Int), checkGo S inn steps k r = (0, e) → ∀ (j : Nat) (st : Sp), r[j]? = some st → Just S inn steps (k + j) st
  | [], _, _, _, j, st, h => by simp at h
  | x :: r, k, e, h, j, st, hj => by
    simp only [checkGo] at h
    split at h
    · cases h
    · rename_i h1
      split at h
      · rename_i h2
        split at h
        · rename_i h3
          cases j with
          | zero =>
            simp at hj; subst hj
            obtain ⟨c, hc, hs⟩ := List.any_eq_true.1 h3
            rw [clSame_iff.1 hs] at hc
            exact ⟨by omega, h2, hc⟩
          | succ j =>
            have := checkGo_just r (k + 1) e h j st (by simpa using hj)
            rw [show k + (j + 1) = k + 1 + j by omega]; exact this
        · cases h
      · rename_i h2
        simp only [Prod.mk.injEq] at h
        exact absurd h.1 h2
theorem firstWrong_all {S : List Int} : ∀ {l : List (List Lt)}, firstWrong S l = 0 ↔ ∀ c ∈ l, wrongCl S c = 0
  | [] => by simp [firstWrong]
  | c :: l => by
    simp only [firstWrong]
    split
    · rename_i h; simp [firstWrong_all (l := l), h]
    · rename_i h; simp [h]
structure Checked (S : List Int) (inn : List (List Lt)) (steps : List Sp) : Prop where
  sig : wrongSig S = 0
  rin : ∀ c ∈ inn, wrongCl S c = 0
  inn8 : inn.length ≤ 8
  len : steps.length ≤ 120
  just : ∀ (k : Nat) (st : Sp), steps[k]? = some st → Just S inn steps k st
theorem check_iff {S : List Int} {inn : List (List Lt)} {steps : List Sp} : (check S inn steps).1 = 0 ↔ Checked S inn steps := by
  constructor
  · intro h
    unfold check at h
    split at h
    · rename_i hs
      split at h
      · cases h
      · rename_i hl
        split at h
        · rename_i hf
          refine ⟨hs, firstWrong_all.1 hf, by omega, by omega, fun k st hk => ?_⟩
          have := checkGo_just steps 0 (checkGo S inn steps 0 steps).2 (by rw [← h]) k st hk
          simpa using this
        · rename_i hf; exact absurd h hf
    · rename_i hs; exact absurd h hs
  · intro h
    unfold check
    rw [if_pos h.sig, if_neg (by have := h.inn8; have := h.len; omega), if_pos (firstWrong_all.2 h.rin), checkGo_ok h.just steps 0 (by simp)]
theorem stAt_get {l : List Sp} {k : Int} {st : Sp} (h : l[k.toNat]? = some st) : stAt l k = st := by unfold stAt; rw [List.getD_eq_getElem?_getD, h]; rfl
theorem stAt_of {l : List Sp} {k : Int} (h0 : 0 ≤ k) (h : k < l.length) : l[k.toNat]? = some (stAt l k) := by
  unfold stAt
  rw [List.getD_eq_getElem?_getD, List.getElem?_eq_getElem (by omega)]; rfl
theorem needGo_up {steps : List Sp} : ∀ (k : Nat) (N : Int → Bool) (v : Int), N v = true → needGo steps k N v = true
  | 0, _, _, h => h
  | k + 1, N, v, h => by
    simp only [needGo]
    refine needGo_up k _ v ?_
    split
    · simp [h]
    · exact h
def Down (steps : List Sp) : Prop := ∀ (k : Nat) (st : Sp), steps[k]? = some st → st.rule ≠ 1 → ∀ f ∈ st.frm, 0 ≤ f ∧ f < (k : Int)
theorem needGo_high {steps : List Sp} (hd : Down steps) : ∀ (k : Nat) (N : Int → Bool) (v : Int), k ≤ steps.length → (k : Int) - 1 ≤ v → needGo steps k N v = N v
  | 0, _, _, _, _ => rfl
  | k + 1, N, v, hk, hv => by
    simp only [needGo]
    rw [needGo_high hd k _ v (by omega) (by omega)]
    split
    · rename_i hc
      simp only [Bool.and_eq_true, Bool.not_eq_true', beq_eq_false_iff_ne] at hc
      have hs : steps[k]? = some (stAt steps k) := by
        have := stAt_of (l := steps) (k := (k : Int)) (by omega) (by omega)
        simpa using this
      have : (stAt steps k).frm.contains v = false := by
        rw [← Bool.not_eq_true, List.contains_iff_mem]
        intro hm
        have := hd k _ hs hc.2 v hm
        omega
      show (N v || (stAt steps (k : Int)).frm.contains v) = N v
      rw [this, Bool.or_false]
    · rfl
theorem needGo_closed {steps : List Sp} (hd : Down steps) : ∀ (k : Nat) (N : Int → Bool), k ≤ steps.length → ∀ j : Nat, j < k → needGo steps k N j = true → (stAt steps j).rule ≠ 1 → ∀ f ∈ (stAt steps j).frm, needGo steps k N f = true
  | 0, _, _, j, hj, _, _, _, _ => absurd hj (by omega)
  | k + 1, N, hk, j, hj, hN, hr, f, hf => by
    simp only [needGo] at hN ⊢
    by_cases hjk : j < k
    · exact needGo_closed hd k _ (by omega) j hjk hN hr f hf
    · have : j = k := by omega
      subst this
      rw [needGo_high hd j _ (j : Int) (by omega) (by omega)] at hN
      refine needGo_up j _ f ?_
      have hNj : N (j : Int) = true := by
        split at hN
        · rename_i hc
          simp only [Bool.and_eq_true] at hc
          exact hc.1
        · exact hN
      have hr' : ((stAt steps (j : Int)).rule == 1) = false := by simpa using hr
      rw [hNj, hr']
      simp [List.contains_iff_mem, hf]
theorem cntN_le (N : Int → Bool) : ∀ k, cntN N k ≤ k
  | 0 => Nat.le_refl _
  | k + 1 => by have := cntN_le N k; simp only [cntN]; split <;> omega
theorem trimGo_len {steps : List Sp} {N : Int → Bool} : ∀ k, (trimGo steps N k).length = cntN N k
  | 0 => rfl
  | k + 1 => by
    simp only [trimGo, cntN, List.length_append, trimGo_len k]
    split <;> simp
theorem Just.down {S : List Int} {inn : List (List Lt)} {steps : List Sp} {k : Nat} {x : Sp} (h : Just S inn steps k x) (hr : x.rule ≠ 1) : x.frm.length ≠ 0 ∧ ∀ f ∈ x.frm, 0 ≤ f ∧ f < (k : Int) := by
  have hc := h.comes
  unfold Go.Proofs.YtmanhdacnkpclaaGreat.comes at hc
  split at hc
  · cases hc
  · rename_i hl
    split at hc
    · cases hc
    · rename_i hf
      simp only [Bool.not_eq_false] at hf
      exact ⟨fun h => hl (.inl h), fun f hm => by have := List.all_eq_true.1 hf f hm; simpa using this⟩
theorem Checked.down {S : List Int} {inn : List (List Lt)} {steps : List Sp} (h : Checked S inn steps) : Down steps := fun k st hk hr => ((h.just k st hk).down hr).2
end Go.Proofs.YtmanhdacnkpclaaGreat
/- What functions do: places, and what is at them. -/
namespace Go.Proofs.YtmanhdacnkpclaaGreat
set_option linter.unusedVariables false
set_option linter.unusedSimpArgs false
open Go.RowKit
set_option maxHeartbeats 4000000 in
set_option maxRecDepth 100000 in
theorem rplaces : ∀ t : Tm, t.size ≤ 1000000000 → FnD Tryz.prog 106 [tA t] (.one (lA Is.d (places t))) := by
  refine Tm.ind ?_
  intro v n l ih hsz
  refine Fn.of Tryz.func106 rfl Tryz.ntmps106 rfl (Nat.le_of_ble_eq_true rfl) ?_
  cases v
  rotate_left
  · (refine wlk ?_)
    refine fin_wk (fun n => Wk.nilArr (d := 2) rfl) ?_
    (refine wfT ?_)
    exact Xl (f := Is.d) (b := []) rfl
  have hszl : Tm.sizes l ≤ 1000000000 := by simp [Tm.size] at hsz; omega
  have hll := sizes_len l
  (refine wlk ?_)
  (refine SqA.b2 (Op1.frzIn (t := 11) rfl (op_bsT (T := TB) (f := Is.d) [[]] rfl rfl rfl rfl rfl rfl rfl rfl rfl rfl rfl)) rfl rfl ?_)
  (refine wlk ?_)
  refine dwp_loop (fun k : Nat => [(.t 1, some (.one (.c (.ptr 1 0)))), (.b 1, some (.box (tA ⟨false, n, l⟩).cells)), (.t 3, some (.one (.c (.own 22 1 (([] :: placesL 0 (l.take k)).map Is.d))))),
    (.t 15, some (.one (lA Tm.d l))), (.t 16, some (.one (iA l.length))), (.t 17, some (.one (iA k)))])
    (fun k => k ≤ l.length) (fun k => l.length - k) 0 (by omega) fgs ?_
  intro k hk
  by_cases hkl : k < l.length
  · obtain ⟨x, hx⟩ := get_of_lt hkl
    have h1 := sizes_take_succ l k x hx
    have h2 := sizes_take_le l (k + 1)
    have h3 := placesL_len (l.take k) 0
    have h4 := places_len x
    have h5 := places_deep x
    have hsn := placesL_snoc hx
    generalize hps : places x = ps at h4 h5 hsn
    have hih := ih x (List.mem_of_getElem? hx) (by omega)
    rw [hps] at hih
    (refine wlk ?_)
    (refine wlC hih ?_)
    (refine wlk ?_)
    refine dwp_loop (fun j : Nat => [(.t 1, some (.one (.c (.ptr 1 0)))), (.b 1, some (.box (tA ⟨false, n, l⟩).cells)), (.t 3, some (.one (.c (.own 22 1 (([] :: (placesL 0 (l.take k) ++ (ps.take j).map (fun p => (k : Int) :: p))).map Is.d))))),
      (.t 15, some (.one (lA Tm.d l))), (.t 16, some (.one (iA l.length))), (.t 17, some (.one (iA k))), (.t 4, some (.one (iA k))), (.t 25, some (.one (lA Is.d ps))), (.t 26, some (.one (iA ps.length))), (.t 27, some (.one (iA j)))])
      (fun j => j ≤ ps.length) (fun j => ps.length - j) 0 (by omega) ?_ ?_
    · have e : ([] :: placesL 0 (l.take k)) = ([] :: (placesL 0 (l.take k) ++ (ps.take 0).map (fun p => (k : Int) :: p))) := by simp
      rw [← e]
      exact fgs
    intro j hj
    by_cases hjl : j < ps.length
    · obtain ⟨p, hp⟩ := get_of_lt hjl
      have h6 := h5 p (List.mem_of_getElem? hp)
      have hs2 : ([] :: (placesL 0 (l.take k) ++ (ps.take j).map (fun p => (k : Int) :: p))) ++ [[(k : Int)] ++ p] = [] :: (placesL 0 (l.take k) ++ (ps.take (j + 1)).map (fun p => (k : Int) :: p)) := by
        rw [← snoc (fun p => (k : Int) :: p) hp]; simp
      have hlen : (placesL 0 (l.take k)).length + ps.length ≤ 1000000000 := by omega
      (refine wlk ?_)
      (refine SqA.b1 (op_bsOT (T := TB) (f := Int.d) [(k : Int)] rfl rfl rfl rfl rfl rfl rfl rfl rfl rfl rfl rfl) rfl rfl ?_)
      (refine wlk ?_)
      (refine SqA.b2 (Op1.frzIn (t := 35) rfl (op_bsT (T := TB) (f := Is.d) [[(k : Int)] ++ p] rfl rfl rfl rfl rfl rfl rfl rfl rfl rfl rfl)) rfl rfl ?_)
      (refine wlk ?_)
      exact ⟨j + 1, by omega, fgs, by omega⟩
    · have : j = ps.length := by omega
      subst this
      rw [List.take_length, ← hsn]
      (refine wlk ?_)
      exact ⟨k + 1, by omega, fgs, by omega⟩
  · have : k = l.length := by omega
    subst this
    rw [List.take_length]
    refine dwp_wk (Wk.freezeAt (d := 3) rfl) ?_
    (refine wlk ?_)
    (refine wfT ?_)
    exact Xl (f := Is.d) (b := [] :: placesL 0 l) rfl
set_option maxHeartbeats 4000000 in
set_option maxRecDepth 100000 in
theorem pplaces : ∀ t : Tm, t.size ≤ 1000000000 → FnD Tryz.prog 119 [tA t] (.one (lA Is.d (places t))) := by
  refine Tm.ind ?_
  intro v n l ih hsz
  refine Fn.of Tryz.func119 rfl Tryz.ntmps119 rfl (Nat.le_of_ble_eq_true rfl) ?_
  cases v
  rotate_left
  · (refine wlk ?_)
    refine fin_wk (fun n => Wk.nilArr (d := 2) rfl) ?_
    (refine wfT ?_)
    exact Xl (f := Is.d) (b := []) rfl
  have hszl : Tm.sizes l ≤ 1000000000 := by simp [Tm.size] at hsz; omega
  have hll := sizes_len l
  (refine wlk ?_)
  (refine SqA.b1 (op_bsNil (T := TB) rfl rfl rfl rfl rfl rfl rfl) rfl rfl ?_)
  (refine wlk ?_)
  refine dwp_loop (fun k : Nat => [(.t 1, some (.one (.c (.ptr 1 0)))), (.b 1, some (.box (tA ⟨false, n, l⟩).cells)), (.t 3, some (.one (.c (.own 22 1 (([] :: placesL 0 (l.take k)).map Is.d))))),
    (.t 12, some (.one (lA Tm.d l))), (.t 13, some (.one (iA l.length))), (.t 14, some (.one (iA k)))])
    (fun k => k ≤ l.length) (fun k => l.length - k) 0 (by omega) fgs ?_
  intro k hk
  by_cases hkl : k < l.length
  · obtain ⟨x, hx⟩ := get_of_lt hkl
    have h1 := sizes_take_succ l k x hx
    have h2 := sizes_take_le l (k + 1)
    have h3 := placesL_len (l.take k) 0
    have h4 := places_len x
    have h5 := places_deep x
    have hsn := placesL_snoc hx
    generalize hps : places x = ps at h4 h5 hsn
    have hih := ih x (List.mem_of_getElem? hx) (by omega)
    rw [hps] at hih
    (refine wlk ?_)
    (refine wlC hih ?_)
    (refine wlk ?_)
    refine dwp_loop (fun j : Nat => [(.t 1, some (.one (.c (.ptr 1 0)))), (.b 1, some (.box (tA ⟨false, n, l⟩).cells)), (.t 3, some (.one (.c (.own 22 1 (([] :: (placesL 0 (l.take k) ++ (ps.take j).map (fun p => (k : Int) :: p))).map Is.d))))),
      (.t 12, some (.one (lA Tm.d l))), (.t 13, some (.one (iA l.length))), (.t 14, some (.one (iA k))), (.t 4, some (.one (iA k))), (.t 20, some (.one (lA Is.d ps))), (.t 21, some (.one (iA ps.length))), (.t 22, some (.one (iA j)))])
      (fun j => j ≤ ps.length) (fun j => ps.length - j) 0 (by omega) ?_ ?_
    · have e : ([] :: placesL 0 (l.take k)) = ([] :: (placesL 0 (l.take k) ++ (ps.take 0).map (fun p => (k : Int) :: p))) := by simp
      rw [← e]
      exact fgs
    intro j hj
    by_cases hjl : j < ps.length
    · obtain ⟨p, hp⟩ := get_of_lt hjl
      have h6 := h5 p (List.mem_of_getElem? hp)
      have hs2 : ([] :: (placesL 0 (l.take k) ++ (ps.take j).map (fun p => (k : Int) :: p))) ++ [[(k : Int)] ++ p] = [] :: (placesL 0 (l.take k) ++ (ps.take (j + 1)).map (fun p => (k : Int) :: p)) := by
        rw [← snoc (fun p => (k : Int) :: p) hp]; simp
      have hlen : (placesL 0 (l.take k)).length + ps.length ≤ 1000000000 := by omega
      (refine wlk ?_)
      (refine SqA.b1 (op_bsOT (T := TB) (f := Int.d) [(k : Int)] rfl rfl rfl rfl rfl rfl rfl rfl rfl rfl rfl rfl) rfl rfl ?_)
      (refine wlk ?_)
      (refine SqA.b2 (Op1.frzIn (t := 30) rfl (op_bsT (T := TB) (f := Is.d) [[(k : Int)] ++ p] rfl rfl rfl rfl rfl rfl rfl rfl rfl rfl rfl)) rfl rfl ?_)
      (refine wlk ?_)
      exact ⟨j + 1, by omega, fgs, by omega⟩
    · have : j = ps.length := by omega
      subst this
      rw [List.take_length, ← hsn]
      (refine wlk ?_)
      exact ⟨k + 1, by omega, fgs, by omega⟩
  · have : k = l.length := by omega
    subst this
    rw [List.take_length]
    refine dwp_wk (Wk.freezeAt (d := 3) rfl) ?_
    (refine wlk ?_)
    (refine wfT ?_)
    exact Xl (f := Is.d) (b := [] :: placesL 0 l) rfl
end Go.Proofs.YtmanhdacnkpclaaGreat
/- What functions do: what is at a place; clauses. -/
namespace Go.Proofs.YtmanhdacnkpclaaGreat
set_option linter.unusedVariables false
set_option linter.unusedSimpArgs false
open Go.RowKit
theorem Xat {r r' : Tm × Bool} (h : r = r') : (.tup [tA r.1, bA r.2] : X) = .tup [tA r'.1, bA r'.2] := by rw [h]
set_option maxRecDepth 100000 in
theorem rat : ∀ (p : List Int) (t : Tm), p.length ≤ 1000000000 → FnD Tryz.prog 107 [tA t, lA Int.d p] (.tup [tA (at_ t p).1, bA (at_ t p).2])
  | [], ⟨v, n, l⟩, hp => by
    refine Fn.of Tryz.func107 rfl Tryz.ntmps107 rfl (Nat.le_of_ble_eq_true rfl) ?_
    have h0 : ([] : List Int).length = 0 := rfl
    (refine wlk ?_)
    (refine wfCT ?_)
    exact Xat (r := (⟨v, n, l⟩, true)) rfl
  | i :: p, ⟨v, n, l⟩, hp => by
    have ih := rat p
    refine Fn.of Tryz.func107 rfl Tryz.ntmps107 rfl (Nat.le_of_ble_eq_true rfl) ?_
    have h0 : (i :: p)[0]? = some i := rfl
    have hl1 : (i :: p).length = p.length + 1 := rfl
    by_cases hi : i < 0
    · (refine wlk ?_)
      refine fin_wk (fun n => Wk.nilArrB (j := 4) (q := 2) rfl rfl rfl) ?_
      (refine wfCT ?_)
      exact Xat (r := (⟨false, 0, []⟩, false)) (by simp [at_, hi])
    by_cases hil : (l.length : Int) ≤ i
    · (refine wlk ?_)
      refine fin_wk (fun n => Wk.nilArrB (j := 4) (q := 2) rfl rfl rfl) ?_
      (refine wfCT ?_)
      exact Xat (r := (⟨false, 0, []⟩, false)) (by simp [at_, hil])
    obtain ⟨j, rfl⟩ := Int.eq_ofNat_of_zero_le (a := i) (by omega)
    obtain ⟨y, hy⟩ := get_of_lt (s := l) (k := j) (by omega)
    (refine wlk ?_)
    (refine SqA.b1 (op_call none rfl rfl rfl (by kernel_rfl) (FnD.use (ih y (by simp at hp; omega))) rfl rfl rfl rfl rfl rfl) rfl rfl ?_)
    (refine wlk ?_)
    (refine wfCT ?_)
    exact Xat (r := at_ y p) (by simp [at_, hil, hy, show ¬ ((j : Int) < 0) by omega])
set_option maxRecDepth 100000 in
theorem pat (p : List Int) (t : Tm) : FnD Tryz.prog 120 [tA t, lA Int.d p] (.tup [tA (at_ t p).1, bA (at_ t p).2]) := by
  refine Fn.of Tryz.func120 rfl Tryz.ntmps120 rfl (Nat.le_of_ble_eq_true rfl) ?_
  refine dwp_len (t := 1) rfl fun hl => ?_
  simp only [List.length_map] at hl
  (refine wlk ?_)
  refine dwp_loop (fun x : Nat × Tm => [(.t 2, some (.one (.c (.ptr 2 0)))), (.b 2, some (.box (tA x.2).cells)), (.t 4, some (.one (.c (.ptr 4 0)))), (.b 4, some (.box [.val (.bool false), .val (.int .i64 0), .val (.slice none 0 0)])), (.t 5, some (.one (bA false))),
    (.t 8, some (.one (lA Int.d p))), (.t 9, some (.one (iA p.length))), (.t 10, some (.one (iA x.1)))])
    (fun x => x.1 ≤ p.length ∧ at_ t p = at_ x.2 (p.drop x.1)) (fun x => p.length - x.1) (0, t) ⟨by omega, rfl⟩ fgs ?_
  rintro ⟨k, v, n, l⟩ ⟨hk, hm⟩
  simp only at hk hm
  by_cases hkl : k < p.length
  · obtain ⟨i, hx⟩ := get_of_lt hkl
    rw [drop_of hx] at hm
    by_cases hi : i < 0
    · (refine wlk ?_)
      refine fin_wk (fun n => Wk.nilArrB (j := 4) (q := 2) rfl rfl rfl) ?_
      (refine wfCT ?_)
      exact Xat (r := (⟨false, 0, []⟩, false)) (by rw [hm]; simp [at_, hi])
    by_cases hil : (l.length : Int) ≤ i
    · (refine wlk ?_)
      refine fin_wk (fun n => Wk.nilArrB (j := 4) (q := 2) rfl rfl rfl) ?_
      (refine wfCT ?_)
      exact Xat (r := (⟨false, 0, []⟩, false)) (by rw [hm]; simp [at_, hil])
    obtain ⟨j, rfl⟩ := Int.eq_ofNat_of_zero_le (a := i) (by omega)
    obtain ⟨y, hy⟩ := get_of_lt (s := l) (k := j) (by omega)
    (refine wlk ?_)
    exact ⟨(k + 1, y), ⟨by simp only; omega, by rw [hm]; simp [at_, hil, hy, show ¬ ((j : Int) < 0) by omega]⟩, fgs, by simp only; omega⟩
  · have : k = p.length := by omega
    subst this
    rw [List.drop_length] at hm
    (refine wlk ?_)
    (refine wfCT ?_)
    exact Xat (r := (⟨v, n, l⟩, true)) (by rw [hm]; simp [at_])
set_option maxRecDepth 100000 in
theorem rwrongCl (s : List Int) (c : List Lt) : FnD Tryz.prog 35 [lA Int.d s, lA Lt.d c] (.one (iA (wrongCl s c))) := by
  refine Fn.of Tryz.func35 rfl Tryz.ntmps35 rfl (Nat.le_of_ble_eq_true rfl) ?_
  by_cases h4 : 4 < c.length
  · (refine wlk ?_)
    (refine wfT ?_)
    exact Xi (b := 5) (by simp [wrongCl, h4])
  (refine wlk ?_)
  refine dwp_loop (fun k : Nat => [(.t 0, some (.one (lA Int.d s))), (.t 12, some (.one (lA Lt.d c))), (.t 13, some (.one (iA c.length))), (.t 14, some (.one (iA k)))])
    (fun k => k ≤ c.length ∧ ∀ j y, j < k → c[j]? = some y → wrong s y.left = 0 ∧ wrong s y.right = 0) (fun k => c.length - k) 0 ⟨by omega, fun j x h => absurd h (by omega)⟩ fgs ?_
  rintro k ⟨hk, hno⟩
  by_cases hkl : k < c.length
  · obtain ⟨x, hx⟩ := get_of_lt hkl
    have hw := wrongLits_no hno hx
    by_cases h1 : wrong s x.left = 0
    rotate_left
    · (refine wlk ?_)
      (refine SqA.b1 (op_call none rfl rfl rfl (by kernel_rfl) (FnD.use (rwrong s x.left)) rfl rfl rfl rfl rfl rfl) rfl rfl ?_)
      (refine wlk ?_)
      (refine wfT ?_)
      exact Xi (b := wrong s x.left) (by simp [wrongCl, h4, hw, wrongLits, h1])
    by_cases h2 : wrong s x.right = 0
    rotate_left
    · (refine wlk ?_)
      (refine SqA.b1 (op_call none rfl rfl rfl (by kernel_rfl) (FnD.use (rwrong s x.left)) rfl rfl rfl rfl rfl rfl) rfl rfl ?_)
      (refine wlk ?_)
      (refine SqA.b1 (op_call none rfl rfl rfl (by kernel_rfl) (FnD.use (rwrong s x.right)) rfl rfl rfl rfl rfl rfl) rfl rfl ?_)
      (refine wlk ?_)
      (refine wfT ?_)
      exact Xi (b := wrong s x.right) (by simp [wrongCl, h4, hw, wrongLits, h1, h2])
    (refine wlk ?_)
    (refine SqA.b1 (op_call none rfl rfl rfl (by kernel_rfl) (FnD.use (rwrong s x.left)) rfl rfl rfl rfl rfl rfl) rfl rfl ?_)
    (refine wlk ?_)
    (refine SqA.b1 (op_call none rfl rfl rfl (by kernel_rfl) (FnD.use (rwrong s x.right)) rfl rfl rfl rfl rfl rfl) rfl rfl ?_)
    (refine wlk ?_)
    exact ⟨k + 1, ⟨by omega, upto_succ hno hx ⟨h1, h2⟩⟩, fgs, by omega⟩
  · have : k = c.length := by omega
    subst this
    (refine wlk ?_)
    (refine wfT ?_)
    exact Xi (b := 0) (by simp [wrongCl, h4, wrongLits_yes hno])
end Go.Proofs.YtmanhdacnkpclaaGreat
