/- What functions do: Apply. -/
import Derived.Test.YtmanhdacnkpclaaGreatzh09
import Derived.Test.YtmanhdacnkpclaaGreatzh07
import Derived.Test.YtmanhdacnkpclaaGreatzh08
/- What functions do: Apply. -/
namespace Go.Proofs.YtmanhdacnkpclaaGreat
set_option linter.unusedVariables false
set_option linter.unusedSimpArgs false
open Go.RowKit
set_option maxRecDepth 100000 in
theorem ap (s : List Pr) (hs : s.length ≤ 4000000000000) : ∀ t : Tm, t.size ≤ 2000000000000 → FnD Tryz.prog 83 [lA Pr.d s, tA t] (.one (tA (app s t))) := by
  refine Tm.ind ?_
  intro v n l ih hsz
  refine Fn.of Tryz.func83 rfl Tryz.ntmps83 rfl (Nat.le_of_ble_eq_true rfl) ?_
  cases v
  case true =>
    (refine wlk ?_)
    refine dwp_loop (fun k : Nat => [(.t 12, some (.one (lA Pr.d s))), (.t 13, some (.one (iA s.length))), (.t 14, some (.one (iA k))), (.t 3, some (.one (.c (.ptr 3 0)))), (.b 3, some (.box (tA ⟨true, n, l⟩).cells)), (.t 4, some (.one (.c (.ptr 4 0)))),
      (.b 4, some (.box [.val (.bool false), .val (.int .i64 0), .val (.slice none 0 0)]))]) (fun k => k ≤ s.length ∧ ∀ j p, j < k → s[j]? = some p → p.1 ≠ n) (fun k => s.length - k) 0 ⟨by omega, fun j p h => absurd h (by omega)⟩ fgs ?_
    rintro k ⟨hk, hno⟩
    by_cases hkl : k < s.length
    · obtain ⟨x, hx⟩ := get_of_lt hkl
      by_cases hxn : x.1 = n
      · (refine wlk ?_)
        (refine wfC ?_)
        exact Xt (b := x.2) (by simp [app, findS_at hno hx hxn])
      · (refine wlk ?_)
        exact ⟨k + 1, ⟨by omega, upto_succ hno hx hxn⟩, fgs, by omega⟩
    · (refine wlk ?_)
      (refine wfC ?_)
      exact Xt (b := ⟨true, n, l⟩) (by simp [app, findS_no hno (by omega)])
  case false =>
    have hlen : l.length ≤ Tm.sizes l := by
      clear ih hsz
      induction l with
      | nil => simp
      | cons a l ih => obtain ⟨v', n', l'⟩ := a; simp [Tm.sizes, Tm.size]; omega
    have hsz' : Tm.sizes l ≤ 2000000000000 := by simp [Tm.size] at hsz; omega
    (refine wlk ?_)
    refine dwp_loop (fun k : Nat => [(.t 31, some (.one (lA Tm.d l))), (.t 32, some (.one (iA l.length))), (.t 33, some (.one (iA k))), (.t 0, some (.one (lA Pr.d s))), (.t 7, some (.one (.c (.ptr 7 0)))), (.t 4, some (.one (.c (.ptr 4 0)))),
      (.b 4, some (.box [.val (.bool false), .val (.int .i64 0), .val (.slice none 0 0)])), (.b 7, some (.box [.val (.bool false), .val (.int .i64 n), .own 75 3 (((l.take k).map (app s)).map Tm.d)]))])
      (fun k => k ≤ l.length) (fun k => l.length - k) 0 (by omega) ((Wk.nilOwnB (j := 7) (q := 2) (E := 75) (m := 3) rfl rfl rfl).trans fgs) ?_
    intro k hk
    by_cases hkl : k < l.length
    · obtain ⟨x, hx⟩ := get_of_lt hkl
      have hsn := snoc (app s) hx
      have hxs : x.size ≤ 2000000000000 := by have := sizes_take_succ l k x hx; have := sizes_take_le l (k + 1); omega
      (refine wlk ?_)
      (refine SqA.b1 (op_call none rfl rfl rfl (by kernel_rfl) (FnD.use (ih x (List.mem_of_getElem? hx) hxs)) rfl rfl rfl rfl rfl rfl) rfl rfl ?_)
      (refine wlk ?_)
      (refine SqA.b1 (op_bsT (T := TB) (f := Tm.d) [app s x] rfl rfl rfl rfl rfl rfl rfl rfl rfl rfl rfl) rfl rfl ?_)
      (refine wlk ?_)
      exact ⟨k + 1, by omega, fgs, by omega⟩
    · have : k = l.length := by omega
      subst this
      refine dwp_wk (Wk.freezeB (j := 7) (q := 2) rfl rfl rfl) ?_
      (refine wlk ?_)
      (refine wfC ?_)
      exact Xt (b := ⟨false, n, (l.take l.length).map (app s)⟩) (by simp [app, apps_eq])
end Go.Proofs.YtmanhdacnkpclaaGreat
/- What functions do: Same, Size, WrongSig, Wrong. -/
namespace Go.Proofs.YtmanhdacnkpclaaGreat
set_option linter.unusedVariables false
set_option linter.unusedSimpArgs false
open Go.RowKit
theorem sizes_len : ∀ l : List Tm, l.length ≤ Tm.sizes l
  | [] => by simp
  | ⟨v, n, l'⟩ :: l => by have := sizes_len l; simp [Tm.sizes, Tm.size]; omega
theorem size_at {l : List Tm} {k : Nat} {x : Tm} (h : l[k]? = some x) : x.size ≤ Tm.sizes l := by have := sizes_take_succ l k x h; have := sizes_take_le l (k + 1); omega
theorem wrapw (a b : Int) : wrap64 (wrap64 a + wrap64 b) = wrap64 (a + b) := by unfold wrap64; omega
set_option maxRecDepth 100000 in
theorem rsame : ∀ t u : Tm, FnD Tryz.prog 73 [tA t, tA u] (.one (bA (t.same u))) := by
  refine Tm.ind ?_
  rintro v n l ih ⟨v', n', l'⟩
  refine Fn.of Tryz.func73 rfl Tryz.ntmps73 rfl (Nat.le_of_ble_eq_true rfl) ?_
  refine dwp_lenA (t := 0) (q := 2) rfl rfl fun hl => ?_
  simp only [List.length_map] at hl
  rcases Decidable.em (v = v') with rfl | h1
  rotate_left
  · have h1' : (v != v') = true := by simpa using h1
    (refine wlk ?_)
    (refine wfT ?_)
    exact Xb (b := false) (by simp [Tm.same, h1])
  have h1' : (v != v) = false := by simp
  rcases Decidable.em (n = n') with rfl | h2
  rotate_left
  · (refine wlk ?_)
    (refine wfT ?_)
    exact Xb (b := false) (by simp [Tm.same, h2])
  rcases Decidable.em (l.length = l'.length) with h3 | h3
  rotate_left
  · (refine wlk ?_)
    (refine wfT ?_)
    exact Xb (b := false) (by simp [Tm.same, Tm.sames_len h3])
  (refine wlk ?_)
  refine dwp_loop (fun k : Nat => [(.t 2, some (.one (.c (.ptr 2 0)))), (.b 2, some (.box (tA ⟨v, n, l⟩).cells)), (.t 3, some (.one (.c (.ptr 3 0)))), (.b 3, some (.box (tA ⟨v, n, l'⟩).cells)), (.t 29, some (.one (iA l.length))), (.t 30, some (.one (iA k)))])
    (fun k => k ≤ l.length ∧ l.take k = l'.take k) (fun k => l.length - k) 0 ⟨by omega, rfl⟩ fgs ?_
  rintro k ⟨hk, htk⟩
  by_cases hkl : k < l.length
  · obtain ⟨x, hx⟩ := get_of_lt hkl
    obtain ⟨y, hy⟩ := get_of_lt (s := l') (k := k) (by omega)
    cases hxy : x.same y
    · have hc := ih x (List.mem_of_getElem? hx) y
      rw [hxy] at hc
      (refine wlk ?_)
      (refine wlC hc ?_)
      (refine wlk ?_)
      (refine wfT ?_)
      exact Xb (b := false) (by simp [Tm.same, Tm.sames_no hx hy hxy])
    · have hc := ih x (List.mem_of_getElem? hx) y
      rw [hxy] at hc
      (refine wlk ?_)
      (refine wlC hc ?_)
      (refine wlk ?_)
      exact ⟨k + 1, ⟨by omega, by rw [take_succ_of hx, take_succ_of hy, htk, (Tm.same_iff x y).1 hxy]⟩, fgs, by omega⟩
  · have : k = l.length := by omega
    subst this
    (refine wlk ?_)
    (refine wfT ?_)
    exact Xb (b := true) (by simp [Tm.same, Tm.sames_yes h3 htk])
set_option maxRecDepth 100000 in
theorem eqfT (l l' : List Tm) (ih : ∀ x ∈ l, ∀ y, FnD Tryz.prog 74 [tA x, tA y] (.one (bA (x.same y)))) :
    FnD Tryz.prog 112 [lA Tm.d l, lA Tm.d l', .c (.val (.func (.func 74) #[] #[]))] (.one (bA (Tm.sames l l'))) := by
  refine Fn.of Tryz.func112 rfl Tryz.ntmps112 rfl (Nat.le_of_ble_eq_true rfl) ?_
  refine dwp_len (t := 0) rfl fun hl => ?_
  simp only [List.length_map] at hl
  rcases Decidable.em (l.length = l'.length) with h3 | h3
  rotate_left
  · (refine wlk ?_)
    (refine wfT ?_)
    exact Xb (b := false) (by simp [Tm.sames_len h3])
  (refine wlk ?_)
  refine dwp_loop (fun k : Nat => [(.t 2, some (.one (.c (.val (.func (.func 74) #[] #[]))))), (.t 1, some (.one (lA Tm.d l'))), (.t 15, some (.one (lA Tm.d l))), (.t 16, some (.one (iA l.length))), (.t 17, some (.one (iA k)))])
    (fun k => k ≤ l.length ∧ l.take k = l'.take k) (fun k => l.length - k) 0 ⟨by omega, rfl⟩ fgs ?_
  rintro k ⟨hk, htk⟩
  by_cases hkl : k < l.length
  · obtain ⟨x, hx⟩ := get_of_lt hkl
    obtain ⟨y, hy⟩ := get_of_lt (s := l') (k := k) (by omega)
    cases hxy : x.same y
    · have hc := ih x (List.mem_of_getElem? hx) y
      rw [hxy] at hc
      (refine wlk ?_)
      (refine wlC hc ?_)
      (refine wlk ?_)
      (refine wfT ?_)
      exact Xb (b := false) (by simp [Tm.sames_no hx hy hxy])
    · have hc := ih x (List.mem_of_getElem? hx) y
      rw [hxy] at hc
      (refine wlk ?_)
      (refine wlC hc ?_)
      (refine wlk ?_)
      exact ⟨k + 1, ⟨by omega, by rw [take_succ_of hx, take_succ_of hy, htk, (Tm.same_iff x y).1 hxy]⟩, fgs, by omega⟩
  · have : k = l.length := by omega
    subst this
    (refine wlk ?_)
    (refine wfT ?_)
    exact Xb (b := true) (by simp [Tm.sames_yes h3 htk])
set_option maxRecDepth 100000 in
theorem psame : ∀ t u : Tm, FnD Tryz.prog 74 [tA t, tA u] (.one (bA (t.same u))) := by
  refine Tm.ind ?_
  rintro v n l ih ⟨v', n', l'⟩
  refine Fn.of Tryz.func74 rfl Tryz.ntmps74 rfl (Nat.le_of_ble_eq_true rfl) ?_
  rcases Decidable.em (v = v') with rfl | h1
  rotate_left
  · have h1' : (v == v') = false := by simpa using h1
    (refine wlk ?_)
    (refine wfT ?_)
    exact Xb (b := false) (by simp [Tm.same, h1])
  have h1' : (v == v) = true := by simp
  rcases Decidable.em (n = n') with rfl | h2
  rotate_left
  · (refine wlk ?_)
    (refine wfT ?_)
    exact Xb (b := false) (by simp [Tm.same, h2])
  (refine wlk ?_)
  (refine SqA.b1 (op_call none rfl rfl rfl (by kernel_rfl) (FnD.use (eqfT l l' ih)) rfl rfl rfl rfl rfl rfl) rfl rfl ?_)
  (refine wlk ?_)
  (refine wfT ?_)
  exact Xb (b := Tm.sames l l') (by simp [Tm.same])
set_option maxRecDepth 100000 in
theorem rsize : ∀ t : Tm, FnD Tryz.prog 85 [tA t] (.one (iA (wrap64 t.size))) := by
  refine Tm.ind ?_
  intro v n l ih
  refine Fn.of Tryz.func85 rfl Tryz.ntmps85 rfl (Nat.le_of_ble_eq_true rfl) ?_
  refine dwp_lenA (t := 0) (q := 2) rfl rfl fun hl => ?_
  simp only [List.length_map] at hl
  have e0 : iA 1 = iA (wrap64 ((1 + Tm.sizes (l.take 0) : Nat) : Int)) := by simp [Tm.sizes, wrap64]
  (refine wlk ?_)
  refine dwp_loop (fun k : Nat => [(.t 1, some (.one (.c (.ptr 1 0)))), (.b 1, some (.box (tA ⟨v, n, l⟩).cells)), (.t 7, some (.one (iA l.length))), (.t 8, some (.one (iA k))), (.t 3, some (.one (iA (wrap64 ((1 + Tm.sizes (l.take k) : Nat) : Int)))))])
    (fun k => k ≤ l.length) (fun k => l.length - k) 0 (by omega) fgs ?_
  intro k hk
  by_cases hkl : k < l.length
  · obtain ⟨x, hx⟩ := get_of_lt hkl
    have h1 := sizes_take_succ l k x hx
    have e : (1 + Tm.sizes (l.take k) : Nat) + (x.size : Int) = ((1 + Tm.sizes (l.take (k + 1)) : Nat) : Int) := by omega
    (refine wlk ?_)
    (refine SqA.b1 (op_call none rfl rfl rfl (by kernel_rfl) (FnD.use (ih x (List.mem_of_getElem? hx))) rfl rfl rfl rfl rfl rfl) rfl rfl ?_)
    (refine wlk ?_)
    have e2 : (iA (wrap64 (wrap64 ((1 + Tm.sizes (l.take k) : Nat) : Int) + wrap64 x.size))) = iA (wrap64 ((1 + Tm.sizes (l.take (k + 1)) : Nat) : Int)) := by rw [wrapw, e]
    exact ⟨k + 1, by omega, fgs, by omega⟩
  · have : k = l.length := by omega
    subst this
    (refine wlk ?_)
    (refine wfT ?_)
    exact Xi (by rw [List.take_length]; simp [Tm.size])
set_option maxRecDepth 100000 in
theorem psize : ∀ t : Tm, FnD Tryz.prog 79 [tA t] (.one (iA (wrap64 t.size))) := by
  refine Tm.ind ?_
  intro v n l ih
  refine Fn.of Tryz.func79 rfl Tryz.ntmps79 rfl (Nat.le_of_ble_eq_true rfl) ?_
  refine dwp_lenA (t := 0) (q := 2) rfl rfl fun hl => ?_
  simp only [List.length_map] at hl
  have e0 : iA 1 = iA (wrap64 ((1 + Tm.sizes (l.take 0) : Nat) : Int)) := by simp [Tm.sizes, wrap64]
  (refine wlk ?_)
  refine dwp_loop (fun k : Nat => [(.t 1, some (.one (.c (.ptr 1 0)))), (.b 1, some (.box (tA ⟨v, n, l⟩).cells)), (.t 7, some (.one (lA Tm.d l))), (.t 8, some (.one (iA l.length))), (.t 9, some (.one (iA k))), (.t 3, some (.one (iA (wrap64 ((1 + Tm.sizes (l.take k) : Nat) : Int)))))])
    (fun k => k ≤ l.length) (fun k => l.length - k) 0 (by omega) fgs ?_
  intro k hk
  by_cases hkl : k < l.length
  · obtain ⟨x, hx⟩ := get_of_lt hkl
    have h1 := sizes_take_succ l k x hx
    have e : (1 + Tm.sizes (l.take k) : Nat) + (x.size : Int) = ((1 + Tm.sizes (l.take (k + 1)) : Nat) : Int) := by omega
    (refine wlk ?_)
    (refine SqA.b1 (op_call none rfl rfl rfl (by kernel_rfl) (FnD.use (ih x (List.mem_of_getElem? hx))) rfl rfl rfl rfl rfl rfl) rfl rfl ?_)
    (refine wlk ?_)
    have e2 : (iA (wrap64 (wrap64 ((1 + Tm.sizes (l.take k) : Nat) : Int) + wrap64 x.size))) = iA (wrap64 ((1 + Tm.sizes (l.take (k + 1)) : Nat) : Int)) := by rw [wrapw, e]
    exact ⟨k + 1, by omega, fgs, by omega⟩
  · have : k = l.length := by omega
    subst this
    (refine wlk ?_)
    (refine wfT ?_)
    exact Xi (by rw [List.take_length]; simp [Tm.size])
end Go.Proofs.YtmanhdacnkpclaaGreat
/- What functions do: WrongSig, walk, Wrong. -/
namespace Go.Proofs.YtmanhdacnkpclaaGreat
set_option linter.unusedVariables false
set_option linter.unusedSimpArgs false
open Go.RowKit
set_option maxRecDepth 100000 in
theorem rwrongSig (s : List Int) : FnD Tryz.prog 34 [lA Int.d s] (.one (iA (wrongSig s))) := by
  refine Fn.of Tryz.func34 rfl Tryz.ntmps34 rfl (Nat.le_of_ble_eq_true rfl) ?_
  refine dwp_len (t := 0) rfl fun hl => ?_
  simp only [List.length_map] at hl
  by_cases h0 : s.length = 0
  · (refine wlk ?_)
    (refine wfT ?_)
    exact Xi (b := 5) (by simp [wrongSig, h0])
  by_cases h6 : 6 < s.length
  · (refine wlk ?_)
    (refine wfT ?_)
    exact Xi (b := 5) (by simp [wrongSig, h6])
  (refine wlk ?_)
  refine dwp_loop (fun k : Nat => [(.t 13, some (.one (lA Int.d s))), (.t 14, some (.one (iA s.length))), (.t 15, some (.one (iA k)))])
    (fun k => k ≤ s.length ∧ ∀ j x, j < k → s[j]? = some x → ¬ (x < 0 ∨ 2 < x)) (fun k => s.length - k) 0 ⟨by omega, fun j x h => absurd h (by omega)⟩ fgs ?_
  rintro k ⟨hk, hno⟩
  by_cases hkl : k < s.length
  · obtain ⟨x, hx⟩ := get_of_lt hkl
    have hyes : (x < 0 ∨ 2 < x) → wrongSig s = 3 := fun h => by
      have : s.any (fun n => decide (n < 0 ∨ 2 < n)) = true := List.any_eq_true.2 ⟨x, List.mem_of_getElem? hx, by simpa using h⟩
      simp only [wrongSig, h0, h6, or_self, if_false, this, if_true]
    by_cases hx0 : x < 0
    · (refine wlk ?_)
      (refine wfT ?_)
      exact Xi (b := 3) (hyes (.inl hx0)).symm
    by_cases hx2 : 2 < x
    · (refine wlk ?_)
      (refine wfT ?_)
      exact Xi (b := 3) (hyes (.inr hx2)).symm
    (refine wlk ?_)
    exact ⟨k + 1, ⟨by omega, upto_succ hno hx (by omega)⟩, fgs, by omega⟩
  · (refine wlk ?_)
    (refine wfT ?_)
    refine Xi (b := 0) ?_
    have : s.any (fun n => decide (n < 0 ∨ 2 < n)) = false := by
      rw [List.any_eq_false]
      intro x hx
      obtain ⟨j, hj, rfl⟩ := List.getElem_of_mem hx
      have := hno j _ (by omega) (List.getElem?_eq_getElem hj)
      simpa using this
    simp only [wrongSig, h0, h6, or_self, if_false, this]
    rfl
set_option maxRecDepth 100000 in
theorem pwrongSig (s : List Int) : FnD Tryz.prog 28 [lA Int.d s] (.one (iA (wrongSig s))) := by
  refine Fn.of Tryz.func28 rfl Tryz.ntmps28 rfl (Nat.le_of_ble_eq_true rfl) ?_
  refine dwp_len (t := 0) rfl fun hl => ?_
  simp only [List.length_map] at hl
  by_cases h0 : s.length = 0
  · (refine wlk ?_)
    (refine wfT ?_)
    exact Xi (b := 5) (by simp [wrongSig, h0])
  by_cases h6 : 6 < s.length
  · (refine wlk ?_)
    (refine wfT ?_)
    exact Xi (b := 5) (by simp [wrongSig, h6])
  (refine wlk ?_)
  refine dwp_loop (fun k : Nat => [(.t 13, some (.one (lA Int.d s))), (.t 14, some (.one (iA s.length))), (.t 15, some (.one (iA k)))])
    (fun k => k ≤ s.length ∧ ∀ j x, j < k → s[j]? = some x → ¬ (x < 0 ∨ 2 < x)) (fun k => s.length - k) 0 ⟨by omega, fun j x h => absurd h (by omega)⟩ fgs ?_
  rintro k ⟨hk, hno⟩
  by_cases hkl : k < s.length
  · obtain ⟨x, hx⟩ := get_of_lt hkl
    have hyes : (x < 0 ∨ 2 < x) → wrongSig s = 3 := fun h => by
      have : s.any (fun n => decide (n < 0 ∨ 2 < n)) = true := List.any_eq_true.2 ⟨x, List.mem_of_getElem? hx, by simpa using h⟩
      simp only [wrongSig, h0, h6, or_self, if_false, this, if_true]
    by_cases hx0 : x < 0
    · (refine wlk ?_)
      (refine wfT ?_)
      exact Xi (b := 3) (hyes (.inl hx0)).symm
    by_cases hx2 : 2 < x
    · (refine wlk ?_)
      (refine wfT ?_)
      exact Xi (b := 3) (hyes (.inr hx2)).symm
    (refine wlk ?_)
    exact ⟨k + 1, ⟨by omega, upto_succ hno hx (by omega)⟩, fgs, by omega⟩
  · (refine wlk ?_)
    (refine wfT ?_)
    refine Xi (b := 0) ?_
    have : s.any (fun n => decide (n < 0 ∨ 2 < n)) = false := by
      rw [List.any_eq_false]
      intro x hx
      obtain ⟨j, hj, rfl⟩ := List.getElem_of_mem hx
      have := hno j _ (by omega) (List.getElem?_eq_getElem hj)
      simpa using this
    simp only [wrongSig, h0, h6, or_self, if_false, this]
    rfl
set_option maxRecDepth 100000 in
theorem rwalk (s : List Int) : ∀ (t : Tm) (d : Int), 0 ≤ d → d ≤ 1000 → FnD Tryz.prog 110 [lA Int.d s, tA t, iA d] (.one (iA (walk s t d))) := by
  refine Tm.ind ?_
  intro v n l ih d hd0 hd1
  refine Fn.of Tryz.func110 rfl Tryz.ntmps110 rfl (Nat.le_of_ble_eq_true rfl) ?_
  refine dwp_len (t := 0) rfl fun hsl => ?_
  refine dwp_lenA (t := 1) (q := 2) rfl rfl fun hl => ?_
  simp only [List.length_map] at hl hsl
  by_cases h12 : 12 < d
  · (refine wlk ?_)
    (refine wfT ?_)
    exact Xi (b := 4) (by simp [walk, h12])
  cases v
  case true =>
    by_cases hn0 : n < 0
    · (refine wlk ?_)
      (refine wfT ?_)
      exact Xi (b := 3) (by simp [walk, h12, hn0])
    by_cases hn4 : 4 < n
    · (refine wlk ?_)
      (refine wfT ?_)
      exact Xi (b := 3) (by simp [walk, h12, hn4])
    by_cases hl0 : l.length = 0
    · (refine wlk ?_)
      (refine wfT ?_)
      exact Xi (b := 0) (by simp [walk, h12, hn0, hn4, hl0])
    · (refine wlk ?_)
      (refine wfT ?_)
      exact Xi (b := 5) (by simp [walk, h12, hn0, hn4, hl0])
  by_cases hn0 : n < 0
  · (refine wlk ?_)
    (refine wfT ?_)
    exact Xi (b := 7) (by simp [walk, h12, hn0])
  by_cases hns : (s.length : Int) ≤ n
  · (refine wlk ?_)
    (refine wfT ?_)
    exact Xi (b := 7) (by simp [walk, h12, hns])
  obtain ⟨m, rfl⟩ := Int.eq_ofNat_of_zero_le (a := n) (by omega)
  obtain ⟨y, hy⟩ := get_of_lt (s := s) (k := m) (by omega)
  have hget : s.getD m 0 = y := by simp [List.getD, hy]
  have hw : walk s ⟨false, m, l⟩ d = if (l.length : Int) = y then walks s l (d + 1) else 5 := by
    simp only [walk, if_neg h12, if_neg (show ¬ (false = true) by simp), if_neg (show ¬ ((m : Int) < 0 ∨ (s.length : Int) ≤ m) by omega), Int.toNat_natCast, hget]
  by_cases hly : (l.length : Int) = y
  rotate_left
  · (refine wlk ?_)
    (refine wfT ?_)
    exact Xi (b := 5) (by rw [hw, if_neg hly])
  (refine wlk ?_)
  refine dwp_loop (fun k : Nat => [(.t 0, some (.one (lA Int.d s))), (.t 2, some (.one (iA d))), (.t 46, some (.one (lA Tm.d l))), (.t 47, some (.one (iA l.length))), (.t 48, some (.one (iA k)))])
    (fun k => k ≤ l.length ∧ walks s (l.take k) (d + 1) = 0) (fun k => l.length - k) 0 ⟨by omega, rfl⟩ fgs ?_
  rintro k ⟨hk, hw0⟩
  by_cases hkl : k < l.length
  · obtain ⟨x, hx⟩ := get_of_lt hkl
    by_cases hwx : walk s x (d + 1) = 0
    · (refine wlk ?_)
      (refine SqA.b1 (op_call none rfl rfl rfl (by kernel_rfl) (FnD.use (ih x (List.mem_of_getElem? hx) (d + 1) (by omega) (by omega))) rfl rfl rfl rfl rfl rfl) rfl rfl ?_)
      (refine wlk ?_)
      exact ⟨k + 1, ⟨by omega, walks_succ hw0 hx hwx⟩, fgs, by omega⟩
    · (refine wlk ?_)
      (refine SqA.b1 (op_call none rfl rfl rfl (by kernel_rfl) (FnD.use (ih x (List.mem_of_getElem? hx) (d + 1) (by omega) (by omega))) rfl rfl rfl rfl rfl rfl) rfl rfl ?_)
      (refine wlk ?_)
      (refine wfT ?_)
      exact Xi (b := walk s x (d + 1)) (by rw [hw, if_pos hly, walks_no hw0 hx hwx])
  · have : k = l.length := by omega
    subst this
    rw [List.take_length] at hw0
    (refine wlk ?_)
    (refine wfT ?_)
    exact Xi (b := 0) (by rw [hw, if_pos hly, hw0])
set_option maxRecDepth 100000 in
theorem pform (s : List Int) : ∀ (t : Tm) (d : Int), 0 ≤ d → d ≤ 1000 → FnD Tryz.prog 109 [lA Int.d s, tA t, iA d] (.one (iA (walk s t d))) := by
  refine Tm.ind ?_
  intro v n l ih d hd0 hd1
  refine Fn.of Tryz.func109 rfl Tryz.ntmps109 rfl (Nat.le_of_ble_eq_true rfl) ?_
  refine dwp_len (t := 0) rfl fun hsl => ?_
  refine dwp_lenA (t := 1) (q := 2) rfl rfl fun hl => ?_
  simp only [List.length_map] at hl hsl
  by_cases h12 : 12 < d
  · (refine wlk ?_)
    (refine wfT ?_)
    exact Xi (b := 4) (by simp [walk, h12])
  cases v
  case true =>
    by_cases hn0 : n < 0
    · (refine wlk ?_)
      (refine wfT ?_)
      exact Xi (b := 3) (by simp [walk, h12, hn0])
    by_cases hn4 : 4 < n
    · (refine wlk ?_)
      (refine wfT ?_)
      exact Xi (b := 3) (by simp [walk, h12, hn4])
    by_cases hl0 : l.length = 0
    · (refine wlk ?_)
      (refine wfT ?_)
      exact Xi (b := 0) (by simp [walk, h12, hn0, hn4, hl0])
    · (refine wlk ?_)
      (refine wfT ?_)
      exact Xi (b := 5) (by simp [walk, h12, hn0, hn4, hl0])
  by_cases hn0 : n < 0
  · (refine wlk ?_)
    (refine wfT ?_)
    exact Xi (b := 7) (by simp [walk, h12, hn0])
  by_cases hns : (s.length : Int) ≤ n
  · (refine wlk ?_)
    (refine wfT ?_)
    exact Xi (b := 7) (by simp [walk, h12, hns])
  obtain ⟨m, rfl⟩ := Int.eq_ofNat_of_zero_le (a := n) (by omega)
  obtain ⟨y, hy⟩ := get_of_lt (s := s) (k := m) (by omega)
  have hget : s.getD m 0 = y := by simp [List.getD, hy]
  have hw : walk s ⟨false, m, l⟩ d = if (l.length : Int) = y then walks s l (d + 1) else 5 := by
    simp only [walk, if_neg h12, if_neg (show ¬ (false = true) by simp), if_neg (show ¬ ((m : Int) < 0 ∨ (s.length : Int) ≤ m) by omega), Int.toNat_natCast, hget]
  by_cases hly : (l.length : Int) = y
  rotate_left
  · (refine wlk ?_)
    (refine wfT ?_)
    exact Xi (b := 5) (by rw [hw, if_neg hly])
  (refine wlk ?_)
  refine dwp_loop (fun k : Nat => [(.t 0, some (.one (lA Int.d s))), (.t 2, some (.one (iA d))), (.t 60, some (.one (lA Tm.d l))), (.t 61, some (.one (iA l.length))), (.t 62, some (.one (iA k)))])
    (fun k => k ≤ l.length ∧ walks s (l.take k) (d + 1) = 0) (fun k => l.length - k) 0 ⟨by omega, rfl⟩ fgs ?_
  rintro k ⟨hk, hw0⟩
  by_cases hkl : k < l.length
  · obtain ⟨x, hx⟩ := get_of_lt hkl
    by_cases hwx : walk s x (d + 1) = 0
    · (refine wlk ?_)
      (refine SqA.b1 (op_call none rfl rfl rfl (by kernel_rfl) (FnD.use (ih x (List.mem_of_getElem? hx) (d + 1) (by omega) (by omega))) rfl rfl rfl rfl rfl rfl) rfl rfl ?_)
      (refine wlk ?_)
      exact ⟨k + 1, ⟨by omega, walks_succ hw0 hx hwx⟩, fgs, by omega⟩
    · (refine wlk ?_)
      (refine SqA.b1 (op_call none rfl rfl rfl (by kernel_rfl) (FnD.use (ih x (List.mem_of_getElem? hx) (d + 1) (by omega) (by omega))) rfl rfl rfl rfl rfl rfl) rfl rfl ?_)
      (refine wlk ?_)
      (refine wfT ?_)
      exact Xi (b := walk s x (d + 1)) (by rw [hw, if_pos hly, walks_no hw0 hx hwx])
  · have : k = l.length := by omega
    subst this
    rw [List.take_length] at hw0
    (refine wlk ?_)
    (refine wfT ?_)
    exact Xi (b := 0) (by rw [hw, if_pos hly, hw0])
set_option maxRecDepth 100000 in
theorem rwrong (s : List Int) (t : Tm) : FnD Tryz.prog 69 [lA Int.d s, tA t] (.one (iA (wrong s t))) := by
  refine Fn.of Tryz.func69 rfl Tryz.ntmps69 rfl (Nat.le_of_ble_eq_true rfl) ?_
  by_cases hw : walk s t 1 = 0
  rotate_left
  · (refine wlk ?_)
    (refine SqA.b1 (op_call none rfl rfl rfl (by kernel_rfl) (FnD.use (rwalk s t 1 (by omega) (by omega))) rfl rfl rfl rfl rfl rfl) rfl rfl ?_)
    (refine wlk ?_)
    (refine wfT ?_)
    exact Xi (b := walk s t 1) (by simp [wrong, hw])
  by_cases hz : 12 < wrap64 t.size
  · (refine wlk ?_)
    (refine SqA.b1 (op_call none rfl rfl rfl (by kernel_rfl) (FnD.use (rwalk s t 1 (by omega) (by omega))) rfl rfl rfl rfl rfl rfl) rfl rfl ?_)
    (refine wlk ?_)
    (refine SqA.b1 (op_call none rfl rfl rfl (by kernel_rfl) (FnD.use (rsize t)) rfl rfl rfl rfl rfl rfl) rfl rfl ?_)
    (refine wlk ?_)
    (refine wfT ?_)
    exact Xi (b := 4) (by simp [wrong, hw, hz])
  · (refine wlk ?_)
    (refine SqA.b1 (op_call none rfl rfl rfl (by kernel_rfl) (FnD.use (rwalk s t 1 (by omega) (by omega))) rfl rfl rfl rfl rfl rfl) rfl rfl ?_)
    (refine wlk ?_)
    (refine SqA.b1 (op_call none rfl rfl rfl (by kernel_rfl) (FnD.use (rsize t)) rfl rfl rfl rfl rfl rfl) rfl rfl ?_)
    (refine wlk ?_)
    (refine wfT ?_)
    exact Xi (b := 0) (by simp only [wrong, hw, if_true, if_neg hz])
set_option maxRecDepth 100000 in
theorem pwrong (s : List Int) (t : Tm) : FnD Tryz.prog 64 [lA Int.d s, tA t] (.one (iA (wrong s t))) := by
  refine Fn.of Tryz.func64 rfl Tryz.ntmps64 rfl (Nat.le_of_ble_eq_true rfl) ?_
  by_cases hw : walk s t 1 = 0
  rotate_left
  · (refine wlk ?_)
    (refine SqA.b1 (op_call none rfl rfl rfl (by kernel_rfl) (FnD.use (pform s t 1 (by omega) (by omega))) rfl rfl rfl rfl rfl rfl) rfl rfl ?_)
    (refine wlk ?_)
    (refine wfT ?_)
    exact Xi (b := walk s t 1) (by simp [wrong, hw])
  by_cases hz : 12 < wrap64 t.size
  · (refine wlk ?_)
    (refine SqA.b1 (op_call none rfl rfl rfl (by kernel_rfl) (FnD.use (pform s t 1 (by omega) (by omega))) rfl rfl rfl rfl rfl rfl) rfl rfl ?_)
    (refine wlk ?_)
    (refine SqA.b1 (op_call none rfl rfl rfl (by kernel_rfl) (FnD.use (psize t)) rfl rfl rfl rfl rfl rfl) rfl rfl ?_)
    (refine wlk ?_)
    (refine wfT ?_)
    exact Xi (b := 4) (by simp [wrong, hw, hz])
  · (refine wlk ?_)
    (refine SqA.b1 (op_call none rfl rfl rfl (by kernel_rfl) (FnD.use (pform s t 1 (by omega) (by omega))) rfl rfl rfl rfl rfl rfl) rfl rfl ?_)
    (refine wlk ?_)
    (refine SqA.b1 (op_call none rfl rfl rfl (by kernel_rfl) (FnD.use (psize t)) rfl rfl rfl rfl rfl rfl) rfl rfl ?_)
    (refine wlk ?_)
    (refine wfT ?_)
    exact Xi (b := 0) (by simp only [wrong, hw, if_true, if_neg hz])
end Go.Proofs.YtmanhdacnkpclaaGreat
/- Reading terms from bytes, plainly. -/
namespace Go.Proofs.YtmanhdacnkpclaaGreat
set_option linter.all false
abbrev RSt := List UInt8 × Int
def rdFail (e e' : Int) : Int := if e = 0 then e' else e
def rdIs (c : Nat) : RSt → RSt
  | (l, e) => if e ≠ 0 then (l, e) else match l with
    | [] => ([], 8)
    | d :: l => if d.toNat = c then (l, 0) else (d :: l, 2)
def Tm.zero : Tm := ⟨false, 0, []⟩
def rdN (T : RSt → Tm × RSt) : Nat → RSt → List Tm × RSt
  | 0, st => ([], st)
  | k + 1, st =>
    let r := rdN T k st
    let x := T (rdIs (if k = 0 then 40 else 44) r.2)
    (r.1 ++ [x.1], x.2)
def rdT (s : List Int) : Nat → RSt → Tm × RSt
  | 0, st => (Tm.zero, st)
  | f + 1, (l, e) => if e ≠ 0 then (Tm.zero, (l, e)) else match l with
    | [] => (Tm.zero, ([], 8))
    | c :: l => if c.toNat = 88 then (match l with
        | [] => (Tm.zero, ([], 8))
        | d :: l => if d.toNat < 48 ∨ 52 < d.toNat then (Tm.zero, (d :: l, 3)) else (⟨true, (d.toNat : Int) - 48, []⟩, (l, 0)))
      else if c.toNat < 97 ∨ s.length ≤ c.toNat - 97 then (Tm.zero, (l, 7))
      else
        let n := (s.getD (c.toNat - 97) 0).toNat
        let r := rdN (rdT s f) n (l, 0)
        (⟨false, (c.toNat : Int) - 97, r.1⟩, if n = 0 then r.2 else rdIs 41 r.2)
def readTm (s : List Int) (l : List UInt8) : Tm × List UInt8 × Int :=
  let r := rdT s (l.length + 1) (l, 0)
  if r.2.2 ≠ 0 then (Tm.zero, [], r.2.2) else (r.1, r.2.1, 0)
def parseTm (s : List Int) (l : List UInt8) : Tm × Int :=
  if wrongSig s ≠ 0 then (Tm.zero, wrongSig s) else if 48 < l.length then (Tm.zero, 4) else
  let r := readTm s l
  if r.2.2 ≠ 0 then (Tm.zero, r.2.2) else if r.2.1 ≠ [] then (Tm.zero, 2) else
  if wrong s r.1 ≠ 0 then (Tm.zero, wrong s r.1) else (r.1, 0)
theorem rdIs_len (c : Nat) (st : RSt) : (rdIs c st).1.length ≤ st.1.length := by
  obtain ⟨l, e⟩ := st
  rcases Decidable.em (e = 0) with h | h
  · subst h
    cases l with
    | nil => simp [rdIs]
    | cons d l =>
      rcases Decidable.em (d.toNat = c) with h | h <;> simp [rdIs, h]
  · simp [rdIs, h]
theorem rdN_len {T : RSt → Tm × RSt} (hT : ∀ st, (T st).2.1.length ≤ st.1.length) : ∀ (k : Nat) (st : RSt), (rdN T k st).2.1.length ≤ st.1.length
  | 0, st => Nat.le_refl _
  | k + 1, st => by
    have h1 := rdN_len hT k st
    have h2 := rdIs_len (if k = 0 then 40 else 44) (rdN T k st).2
    have h3 := hT (rdIs (if k = 0 then 40 else 44) (rdN T k st).2)
    simp only [rdN]
    omega
theorem rdN_args {T : RSt → Tm × RSt} : ∀ (k : Nat) (st : RSt), (rdN T k st).1.length = k
  | 0, st => rfl
  | k + 1, st => by simp [rdN, rdN_args k st]
theorem rdT_len (s : List Int) : ∀ (f : Nat) (st : RSt), (rdT s f st).2.1.length ≤ st.1.length
  | 0, st => Nat.le_refl _
  | f + 1, (l, e) => by
    unfold rdT
    split
    · simp
    · split
      · simp
      · rename_i c l
        split
        · split
          · simp
          · split <;> simp <;> omega
        · split
          · simp
          · have h1 := rdN_len (rdT_len s f) (s.getD (c.toNat - 97) 0).toNat (l, 0)
            have h2 := rdIs_len 41 (rdN (rdT s f) (s.getD (c.toNat - 97) 0).toNat (l, 0)).2
            dsimp only at h1 h2 ⊢
            generalize (rdN (rdT s f) (s.getD (c.toNat - 97) 0).toNat (l, 0)) = r at h1 h2 ⊢
            simp only [List.length_cons]
            split <;> omega
theorem sig_at {s : List Int} (hs : wrongSig s = 0) {k : Nat} {y : Int} (hy : s[k]? = some y) : 0 ≤ y ∧ y ≤ 2 := by
  unfold wrongSig at hs
  split at hs
  · cases hs
  · split at hs
    · cases hs
    · rename_i h5
      simp only [Bool.not_eq_true] at h5
      have := List.any_eq_false.1 h5 y (List.mem_of_getElem? hy)
      simp only [decide_eq_true_eq] at this
      omega
theorem sig_len {s : List Int} (hs : wrongSig s = 0) : 1 ≤ s.length ∧ s.length ≤ 6 := by
  unfold wrongSig at hs
  split at hs
  · cases hs
  · omega
theorem byte_lt (c : UInt8) : c.toNat < 256 := c.toNat_lt
end Go.Proofs.YtmanhdacnkpclaaGreat
/- What functions do: reading terms. -/
namespace Go.Proofs.YtmanhdacnkpclaaGreat
set_option linter.all false
open Go.RowKit
abbrev FnB (P : Program) (f : FuncId) (args : List A1) (cs : List CV) (x : X) (cs' : List CV) : Prop := Fn P f args (some cs) (fun x' c' => x' = x ∧ c' = cs')
theorem FnB.use {P : Program} {f : FuncId} {args : List A1} {cs cs' : List CV} {x : X} (h : FnB P f args cs x cs') : Fn P f args (some cs) (fun x' c' => x' = x ∧ ((some cs).isSome = true → c' = cs')) := by
  intro who w vs h1 h2 h3 h4 h5 h6
  refine (h who w vs h1 h2 h3 h4 h5 h6).mono ?_
  rintro e w' ⟨v, x', c', who', g1, ⟨g2, g3⟩, g4⟩
  exact ⟨v, x', c', who', g1, ⟨g2, fun _ => g3⟩, g4⟩
def rdBox (s : List Int) (l : List UInt8) (e : Int) : List CV := [.arr (s.map Int.d), .val (.string ⟨l.toArray⟩), .val (.int .i64 e)]
theorem XB {x x' : X} {cs cs' : List CV} (h : x = x') (h' : cs = cs') : x = x' ∧ cs = cs' := ⟨h, h'⟩
theorem rdfail (s : List Int) (l : List UInt8) (e e' : Int) : FnB Tryz.prog 148 [.c (.ptr EXT 0), iA e'] (rdBox s l e) (.tup []) (rdBox s l (rdFail e e')) := by
  refine Fn.of Tryz.func148 rfl Tryz.ntmps148 rfl (Nat.le_of_ble_eq_true rfl) ?_
  by_cases h : e = 0
  · (refine wlk ?_)
    (refine wbU ?_)
    exact XB rfl (by simp [rdBox, rdFail, h, splL, A1.cells])
  · (refine wlk ?_)
    (refine wbU ?_)
    exact XB rfl (by simp [rdBox, rdFail, h])
theorem rdis (s : List Int) (l : List UInt8) (e : Int) (c : Nat) : FnB Tryz.prog 149 [.c (.ptr EXT 0), .c (.val (.int .u8 c))] (rdBox s l e) (.tup []) (rdBox s (rdIs c (l, e)).1 (rdIs c (l, e)).2) := by
  refine Fn.of Tryz.func149 rfl Tryz.ntmps149 rfl (Nat.le_of_ble_eq_true rfl) ?_
  by_cases h : e = 0
  rotate_left
  · (refine wlk ?_)
    (refine wbU ?_)
    exact XB rfl (by simp [rdBox, rdIs, h])
  subst h
  cases l with
  | nil =>
    (refine wlk ?_)
    (refine SqA.b2 (op_call (some (EXT)) rfl rfl rfl (by kernel_rfl) (FnB.use (rdfail s [] 0 8)) rfl rfl rfl rfl rfl rfl) rfl rfl ?_)
    (refine wlk ?_)
    (refine wbU ?_)
    exact XB rfl (by simp [rdBox, rdIs, rdFail])
  | cons d l =>
    have h0 : (d :: l == []) = false := rfl
    have h1 : (d :: l)[0]? = some d := rfl
    by_cases hd : (d.toNat : Int) = c
    · (refine wlk ?_)
      (refine wbU ?_)
      exact XB rfl (by simp [rdBox, rdIs, splL, A1.cells, show d.toNat = c by omega])
    · (refine wlk ?_)
      (refine SqA.b2 (op_call (some (EXT)) rfl rfl rfl (by kernel_rfl) (FnB.use (rdfail s (d :: l) 0 2)) rfl rfl rfl rfl rfl rfl) rfl rfl ?_)
      (refine wlk ?_)
      (refine wbU ?_)
      exact XB rfl (by simp [rdBox, rdIs, rdFail, show d.toNat ≠ c by omega])
theorem u8w {x : Int} (h0 : 0 ≤ x) (h1 : x < 256) : IntKind.u8.wrap x = x := by
  simp only [IntKind.wrap, IntKind.bits, IntKind.signed, Bool.false_and, Bool.false_eq_true, if_false]; omega
set_option maxHeartbeats 4000000 in
set_option maxRecDepth 100000 in
theorem rdterm (s : List Int) (hs : wrongSig s = 0) : ∀ (f : Nat) (st : RSt), st.1.length < f → FnB Tryz.prog 146 [.c (.ptr EXT 0)] (rdBox s st.1 st.2) (.one (tA (rdT s f st).1)) (rdBox s (rdT s f st).2.1 (rdT s f st).2.2)
  | 0, (l, e), hf => by simp only at hf; omega
  | f + 1, (l, e), hf => by
    simp only at hf ⊢
    have ih := rdterm s hs f
    refine Fn.of Tryz.func146 rfl Tryz.ntmps146 rfl (Nat.le_of_ble_eq_true rfl) ?_
    by_cases h : e = 0
    rotate_left
    · (refine wlk ?_)
      refine fin_wk (fun n => Wk.nilArrB (j := 2) (q := 2) rfl rfl rfl) ?_
      (refine wbC ?_)
      exact XB (Xt (b := Tm.zero) (by simp [rdT, h])) (by simp [rdBox, rdT, h])
    subst h
    cases l with
    | nil =>
      (refine wlk ?_)
      (refine SqA.b2 (op_call (some (EXT)) rfl rfl rfl (by kernel_rfl) (FnB.use (rdfail s [] 0 8)) rfl rfl rfl rfl rfl rfl) rfl rfl ?_)
      (refine wlk ?_)
      refine fin_wk (fun n => Wk.nilArrB (j := 2) (q := 2) rfl rfl rfl) ?_
      (refine wbC ?_)
      exact XB (Xt (b := Tm.zero) (by simp [rdT])) (by simp [rdBox, rdT, rdFail])
    | cons c l =>
      have h0 : (c :: l == []) = false := rfl
      have h1 : (c :: l)[0]? = some c := rfl
      have hc := byte_lt c
      simp only [List.length_cons] at hf
      by_cases h88 : (c.toNat : Int) = 88
      · have h88' : c.toNat = 88 := by omega
        cases l with
        | nil =>
          (refine wlk ?_)
          (refine SqA.b2 (op_call (some (EXT)) rfl rfl rfl (by kernel_rfl) (FnB.use (rdfail s [] 0 8)) rfl rfl rfl rfl rfl rfl) rfl rfl ?_)
          (refine wlk ?_)
          refine fin_wk (fun n => Wk.nilArrB (j := 2) (q := 2) rfl rfl rfl) ?_
          (refine wbC ?_)
          exact XB (Xt (b := Tm.zero) (by simp [rdT, h88'])) (by simp [rdBox, rdT, rdFail, h88'])
        | cons d l =>
          have h2 : (d :: l == []) = false := rfl
          have h3 : (d :: l)[0]? = some d := rfl
          have hd := byte_lt d
          by_cases h48 : (d.toNat : Int) < 48
          · have : d.toNat < 48 ∨ 52 < d.toNat := by omega
            (refine wlk ?_)
            (refine SqA.b2 (op_call (some (EXT)) rfl rfl rfl (by kernel_rfl) (FnB.use (rdfail s (d :: l) 0 3)) rfl rfl rfl rfl rfl rfl) rfl rfl ?_)
            (refine wlk ?_)
            refine fin_wk (fun n => Wk.nilArrB (j := 2) (q := 2) rfl rfl rfl) ?_
            (refine wbC ?_)
            exact XB (Xt (b := Tm.zero) (by simp [rdT, h88', this])) (by simp [rdBox, rdT, rdFail, h88', this])
          by_cases h52 : 52 < (d.toNat : Int)
          · have : d.toNat < 48 ∨ 52 < d.toNat := by omega
            (refine wlk ?_)
            (refine SqA.b2 (op_call (some (EXT)) rfl rfl rfl (by kernel_rfl) (FnB.use (rdfail s (d :: l) 0 3)) rfl rfl rfl rfl rfl rfl) rfl rfl ?_)
            (refine wlk ?_)
            refine fin_wk (fun n => Wk.nilArrB (j := 2) (q := 2) rfl rfl rfl) ?_
            (refine wbC ?_)
            exact XB (Xt (b := Tm.zero) (by simp [rdT, h88', this])) (by simp [rdBox, rdT, rdFail, h88', this])
          have hw : IntKind.u8.wrap ((d.toNat : Int) - 48) = (d.toNat : Int) - 48 := u8w (by omega) (by omega)
          have hno : ¬ (d.toNat < 48 ∨ 52 < d.toNat) := by omega
          (refine wlk ?_)
          refine fin_wk (fun n => Wk.nilArrB (j := 2) (q := 2) rfl rfl rfl) ?_
          (refine wbC ?_)
          exact XB (Xt (b := ⟨true, (d.toNat : Int) - 48, []⟩) (by simp [rdT, h88', hno])) (by simp [rdBox, rdT, h88', hno, splL, A1.cells])
      have h88' : ¬ c.toNat = 88 := by omega
      by_cases h97 : (c.toNat : Int) < 97
      · have : c.toNat < 97 ∨ s.length ≤ c.toNat - 97 := by omega
        (refine wlk ?_)
        (refine SqA.b2 (op_call (some (EXT)) rfl rfl rfl (by kernel_rfl) (FnB.use (rdfail s l 0 7)) rfl rfl rfl rfl rfl rfl) rfl rfl ?_)
        (refine wlk ?_)
        refine fin_wk (fun n => Wk.nilArrB (j := 2) (q := 2) rfl rfl rfl) ?_
        (refine wbC ?_)
        exact XB (Xt (b := Tm.zero) (by simp only [rdT]; simp [h88', this])) (by simp only [rdT]; simp [rdBox, rdFail, h88', this])
      have hw : IntKind.u8.wrap ((c.toNat : Int) - 97) = (c.toNat : Int) - 97 := u8w (by omega) (by omega)
      by_cases hsl : (s.length : Int) ≤ (c.toNat : Int) - 97
      · have : c.toNat < 97 ∨ s.length ≤ c.toNat - 97 := by omega
        (refine wlk ?_)
        (refine SqA.b2 (op_call (some (EXT)) rfl rfl rfl (by kernel_rfl) (FnB.use (rdfail s l 0 7)) rfl rfl rfl rfl rfl rfl) rfl rfl ?_)
        (refine wlk ?_)
        refine fin_wk (fun n => Wk.nilArrB (j := 2) (q := 2) rfl rfl rfl) ?_
        (refine wbC ?_)
        exact XB (Xt (b := Tm.zero) (by simp only [rdT]; simp [h88', this])) (by simp only [rdT]; simp [rdBox, rdFail, h88', this])
      have hno : ¬ (c.toNat < 97 ∨ s.length ≤ c.toNat - 97) := by omega
      obtain ⟨y, hy⟩ := get_of_lt (s := s) (k := c.toNat - 97) (by omega)
      have hyr := sig_at hs hy
      obtain ⟨n, rfl⟩ := Int.eq_ofNat_of_zero_le hyr.1
      have hgd : (s.getD (c.toNat - 97) 0).toNat = n := by simp [List.getD, hy]
      have hT : rdT s (f + 1) (c :: l, 0) = (⟨false, (c.toNat : Int) - 97, (rdN (rdT s f) n (l, 0)).1⟩, if n = 0 then (rdN (rdT s f) n (l, 0)).2 else rdIs 41 (rdN (rdT s f) n (l, 0)).2) := by
        simp only [rdT, ne_eq, not_true_eq_false, if_false, h88', hno, hgd]
      rw [hT]
      (refine wlk ?_)
      refine dwp_loop (fun k : Nat => [(.t 0, some (.one (.c (.ptr EXT 0)))), (.b EXT, some (.box (rdBox s (rdN (rdT s f) k (l, 0)).2.1 (rdN (rdT s f) k (l, 0)).2.2))), (.t 2, some (.one (.c (.ptr 2 0)))), (.b 2, some (.box [.val (.bool false), .val (.int .i64 0), .val (.slice none 0 0)])),
        (.t 5, some (.one (.c (.ptr 5 0)))), (.b 5, some (.box [.val (.bool false), .val (.int .i64 ((c.toNat : Int) - 97)), .own 75 3 ((rdN (rdT s f) k (l, 0)).1.map Tm.d)])), (.t 6, some (.one (iA n))), (.t 107, some (.one (iA n))), (.t 108, some (.one (iA k)))])
        (fun k => k ≤ n) (fun k => n - k) 0 (by omega) ((Wk.nilOwnB (j := 5) (q := 2) (E := 75) (m := 3) rfl rfl rfl).trans fgs) ?_
      intro k hk
      have hlen := rdN_len (rdT_len s f) k (l, 0)
      have harg := rdN_args (T := rdT s f) k (l, 0)
      have hsn : (rdN (rdT s f) k (l, 0)).1 ++ [(rdT s f (rdIs (if k = 0 then 40 else 44) (rdN (rdT s f) k (l, 0)).2)).1] = (rdN (rdT s f) (k + 1) (l, 0)).1 := rfl
      have hsn2 : (rdT s f (rdIs (if k = 0 then 40 else 44) (rdN (rdT s f) k (l, 0)).2)).2 = (rdN (rdT s f) (k + 1) (l, 0)).2 := rfl
      simp only at hlen
      by_cases hkn : k < n
      · have hil := rdIs_len (if k = 0 then 40 else 44) (rdN (rdT s f) k (l, 0)).2
        have hbig : ((rdN (rdT s f) (k + 1) (l, 0)).1).length = k + 1 := rdN_args (k + 1) (l, 0)
        by_cases hk0 : k = 0
        · simp only [hk0, if_true] at hsn hsn2 hil
          have hc2 := ih (rdIs 40 (rdN (rdT s f) 0 (l, 0)).2) (by simp only [hk0] at hlen hil; omega)
          subst hk0
          rw [hsn2] at hc2
          (refine wlk ?_)
          (refine SqA.b2 (op_call (some (EXT)) rfl rfl rfl (by kernel_rfl) (FnB.use (rdis s (rdN (rdT s f) 0 (l, 0)).2.1 (rdN (rdT s f) 0 (l, 0)).2.2 40)) rfl rfl rfl rfl rfl rfl) rfl rfl ?_)
          (refine wlk ?_)
          (refine SqA.b2 (op_call (some (EXT)) rfl rfl rfl (by kernel_rfl) (FnB.use (hc2)) rfl rfl rfl rfl rfl rfl) rfl rfl ?_)
          (refine wlk ?_)
          (refine SqA.b1 (op_bsT (T := TB) (f := Tm.d) [(rdT s f (rdIs 40 (rdN (rdT s f) 0 (l, 0)).2)).1] rfl rfl rfl rfl rfl rfl rfl rfl rfl rfl rfl) rfl rfl ?_)
          (refine wlk ?_)
          exact ⟨0 + 1, by omega, fgs, by omega⟩
        · simp only [hk0, if_false] at hsn hsn2 hil
          have hc2 := ih (rdIs 44 (rdN (rdT s f) k (l, 0)).2) (by omega)
          rw [hsn2] at hc2
          (refine wlk ?_)
          (refine SqA.b2 (op_call (some (EXT)) rfl rfl rfl (by kernel_rfl) (FnB.use (rdis s (rdN (rdT s f) k (l, 0)).2.1 (rdN (rdT s f) k (l, 0)).2.2 44)) rfl rfl rfl rfl rfl rfl) rfl rfl ?_)
          (refine wlk ?_)
          (refine SqA.b2 (op_call (some (EXT)) rfl rfl rfl (by kernel_rfl) (FnB.use (hc2)) rfl rfl rfl rfl rfl rfl) rfl rfl ?_)
          (refine wlk ?_)
          (refine SqA.b1 (op_bsT (T := TB) (f := Tm.d) [(rdT s f (rdIs 44 (rdN (rdT s f) k (l, 0)).2)).1] rfl rfl rfl rfl rfl rfl rfl rfl rfl rfl rfl) rfl rfl ?_)
          (refine wlk ?_)
          exact ⟨k + 1, by omega, fgs, by omega⟩
      · have : k = n := by omega
        subst this
        refine dwp_wk (Wk.freezeB (j := 5) (q := 2) rfl rfl rfl) ?_
        by_cases hn0 : k = 0
        · (refine wlk ?_)
          (refine wbC ?_)
          exact XB rfl (by simp [hn0, rdBox])
        · (refine wlk ?_)
          (refine SqA.b2 (op_call (some (EXT)) rfl rfl rfl (by kernel_rfl) (FnB.use (rdis s (rdN (rdT s f) k (l, 0)).2.1 (rdN (rdT s f) k (l, 0)).2.2 41)) rfl rfl rfl rfl rfl rfl) rfl rfl ?_)
          (refine wlk ?_)
          (refine wbC ?_)
          exact XB rfl (by simp [hn0])
end Go.Proofs.YtmanhdacnkpclaaGreat
/- What functions do: Read, Parse; the laws' own reading. -/
namespace Go.Proofs.YtmanhdacnkpclaaGreat
set_option linter.all false
open Go.RowKit
theorem Xrd {r r' : Tm × List UInt8 × Int} (h : r = r') : (.tup [tA r.1, sA r.2.1, iA r.2.2] : X) = .tup [tA r'.1, sA r'.2.1, iA r'.2.2] := by rw [h]
theorem Xpa {r r' : Tm × Int} (h : r = r') : (.tup [tA r.1, iA r.2] : X) = .tup [tA r'.1, iA r'.2] := by rw [h]
set_option maxRecDepth 100000 in
theorem rread (s : List Int) (hs : wrongSig s = 0) (l : List UInt8) : FnD Tryz.prog 135 [lA Int.d s, sA l] (.tup [tA (readTm s l).1, sA (readTm s l).2.1, iA (readTm s l).2.2]) := by
  refine Fn.of Tryz.func135 rfl Tryz.ntmps135 rfl (Nat.le_of_ble_eq_true rfl) ?_
  have hc := rdterm s hs (l.length + 1) (l, 0) (by simp)
  simp only at hc
  unfold readTm
  generalize rdT s (l.length + 1) (l, 0) = r at hc
  obtain ⟨t, l', e⟩ := r
  simp only at hc ⊢
  by_cases h : e = 0
  · (refine wlk ?_)
    (refine SqA.b2 (op_call (some (12)) rfl rfl rfl (by kernel_rfl) (FnB.use (hc)) rfl rfl rfl rfl rfl rfl) rfl rfl ?_)
    (refine wlk ?_)
    (first | (refine finR (.cellN rfl rfl (rw_of rfl) rfl rfl (.tmp rfl (.tmp rfl .nil))) rfl rfl ?_) | (refine finN (.cellN rfl rfl (rw_of rfl) rfl rfl (.tmp rfl (.tmp rfl .nil))) rfl rfl ?_))
    exact Xrd (r := (t, l', 0)) (by simp [h])
  · (refine wlk ?_)
    (refine SqA.b2 (op_call (some (12)) rfl rfl rfl (by kernel_rfl) (FnB.use (hc)) rfl rfl rfl rfl rfl rfl) rfl rfl ?_)
    (refine wlk ?_)
    refine fin_wk (fun n => Wk.nilArrB (j := 4) (q := 2) rfl rfl rfl) ?_
    (first | (refine finR (.cellN rfl rfl (rw_of rfl) rfl rfl (.tmp rfl (.tmp rfl .nil))) rfl rfl ?_) | (refine finN (.cellN rfl rfl (rw_of rfl) rfl rfl (.tmp rfl (.tmp rfl .nil))) rfl rfl ?_))
    exact Xrd (r := (Tm.zero, [], e)) (by simp [h])
set_option maxHeartbeats 4000000 in
set_option maxRecDepth 100000 in
theorem rparse (s : List Int) (l : List UInt8) : FnD Tryz.prog 111 [lA Int.d s, sA l] (.tup [tA (parseTm s l).1, iA (parseTm s l).2]) := by
  refine Fn.of Tryz.func111 rfl Tryz.ntmps111 rfl (Nat.le_of_ble_eq_true rfl) ?_
  by_cases hs : wrongSig s = 0
  rotate_left
  · (refine wlk ?_)
    (refine SqA.b1 (op_call none rfl rfl rfl (by kernel_rfl) (FnD.use (rwrongSig s)) rfl rfl rfl rfl rfl rfl) rfl rfl ?_)
    (refine wlk ?_)
    refine fin_wk (fun n => Wk.nilArrB (j := 4) (q := 2) rfl rfl rfl) ?_
    (refine wfCT ?_)
    exact Xpa (r := (Tm.zero, wrongSig s)) (by simp [parseTm, hs])
  by_cases hl : 48 < l.length
  · (refine wlk ?_)
    (refine SqA.b1 (op_call none rfl rfl rfl (by kernel_rfl) (FnD.use (rwrongSig s)) rfl rfl rfl rfl rfl rfl) rfl rfl ?_)
    (refine wlk ?_)
    refine fin_wk (fun n => Wk.nilArrB (j := 4) (q := 2) rfl rfl rfl) ?_
    (refine wfCT ?_)
    exact Xpa (r := (Tm.zero, 4)) (by simp [parseTm, hs, hl])
  have hc := rread s hs l
  have hp : parseTm s l = (let r := readTm s l
      if r.2.2 ≠ 0 then (Tm.zero, r.2.2) else if r.2.1 ≠ [] then (Tm.zero, 2) else
      if wrong s r.1 ≠ 0 then (Tm.zero, wrong s r.1) else (r.1, 0)) := by
    unfold parseTm; rw [if_neg (by simp [hs]), if_neg hl]
  rw [hp]
  generalize readTm s l = r at hc
  obtain ⟨t, l', e⟩ := r
  simp only at hc ⊢
  by_cases h : e = 0
  rotate_left
  · (refine wlk ?_)
    (refine SqA.b1 (op_call none rfl rfl rfl (by kernel_rfl) (FnD.use (rwrongSig s)) rfl rfl rfl rfl rfl rfl) rfl rfl ?_)
    (refine wlk ?_)
    (refine wlC hc ?_)
    (refine wlk ?_)
    refine fin_wk (fun n => Wk.nilArrB (j := 4) (q := 2) rfl rfl rfl) ?_
    (refine wfCT ?_)
    exact Xpa (r := (Tm.zero, e)) (by simp [h])
  subst h
  cases hl' : (l' == [])
  · (refine wlk ?_)
    (refine SqA.b1 (op_call none rfl rfl rfl (by kernel_rfl) (FnD.use (rwrongSig s)) rfl rfl rfl rfl rfl rfl) rfl rfl ?_)
    (refine wlk ?_)
    (refine wlC hc ?_)
    (refine wlk ?_)
    refine fin_wk (fun n => Wk.nilArrB (j := 4) (q := 2) rfl rfl rfl) ?_
    (refine wfCT ?_)
    exact Xpa (r := (Tm.zero, 2)) (by simp at hl'; simp [hl'])
  have hl'' : l' = [] := by simpa using hl'
  by_cases hw : wrong s t = 0
  · (refine wlk ?_)
    (refine SqA.b1 (op_call none rfl rfl rfl (by kernel_rfl) (FnD.use (rwrongSig s)) rfl rfl rfl rfl rfl rfl) rfl rfl ?_)
    (refine wlk ?_)
    (refine wlC hc ?_)
    (refine wlk ?_)
    (refine SqA.b1 (op_call none rfl rfl rfl (by kernel_rfl) (FnD.use (rwrong s t)) rfl rfl rfl rfl rfl rfl) rfl rfl ?_)
    (refine wlk ?_)
    (refine wfCT ?_)
    exact Xpa (r := (t, 0)) (by simp [hl'', hw])
  · (refine wlk ?_)
    (refine SqA.b1 (op_call none rfl rfl rfl (by kernel_rfl) (FnD.use (rwrongSig s)) rfl rfl rfl rfl rfl rfl) rfl rfl ?_)
    (refine wlk ?_)
    (refine wlC hc ?_)
    (refine wlk ?_)
    (refine SqA.b1 (op_call none rfl rfl rfl (by kernel_rfl) (FnD.use (rwrong s t)) rfl rfl rfl rfl rfl rfl) rfl rfl ?_)
    (refine wlk ?_)
    refine fin_wk (fun n => Wk.nilArrB (j := 4) (q := 2) rfl rfl rfl) ?_
    (refine wfCT ?_)
    exact Xpa (r := (Tm.zero, wrong s t)) (by simp [hl'', hw])
end Go.Proofs.YtmanhdacnkpclaaGreat
namespace Go.Proofs.YtmanhdacnkpclaaGreat
set_option linter.all false
set_option maxRecDepth 1000000
set_option maxHeartbeats 32000000
def dig (n : Int) : UInt8 := UInt8.ofNat (48 + n.toNat)
mutual
def text : Tm → List UInt8
  | ⟨v, n, l⟩ => if v then [88, dig n] else UInt8.ofNat (97 + n.toNat) :: (match l with | [] => [] | a :: l => 40 :: (text a ++ (texts l ++ [41])))
def texts : List Tm → List UInt8
  | [] => []
  | a :: l => 44 :: (text a ++ texts l)
end
theorem at_put : ∀ (p : List Int) (t u : Tm), p ∈ places t → at_ (put t p u) p = (u, true)
  | [], t, u, _ => by simp [put, at_]
  | i :: p, ⟨v, n, l⟩, u, hp => by
    obtain ⟨rfl, h0 | ⟨k, x, p', hx, e1, hp'⟩⟩ := places_cons hp
    · cases h0
    · injection e1 with e1 e2
      subst e1 e2
      rw [put_cons hx, at_cons (x := put x p u) (by simp [(List.getElem?_eq_some_iff.1 hx).1])]
      exact at_put p x u hp'
theorem size_put : ∀ (p : List Int) (t u : Tm), p ∈ places t → (put t p u).size + (at_ t p).1.size = t.size + u.size
  | [], t, u, _ => by simp only [put, at_]; omega
  | i :: p, ⟨v, n, l⟩, u, hp => by
    obtain ⟨rfl, h0 | ⟨k, x, p', hx, e1, hp'⟩⟩ := places_cons hp
    · cases h0
    · injection e1 with e1 e2
      subst e1 e2
      have ih := size_put p x u hp'
      have hz := sizes_set (y := put x p u) hx
      rw [put_cons hx, at_cons hx]
      simp only [Tm.size]
      omega
end Go.Proofs.YtmanhdacnkpclaaGreat
/- Simpler clauses, plainly: which one covers another one; and the end. -/
namespace Go.Proofs.YtmanhdacnkpclaaGreat
set_option linter.all false
def coverW (x : Lt) (s : List Pr) (w : Tm × Tm) : Option (List Pr) := match moreR s x.left w.1 with
  | (a, true) => match moreR a x.right w.2 with
    | (b, true) => some b
    | (_, false) => none
  | (_, false) => none
def coverL (x : Lt) (s : List Pr) (y : Lt) : List (List Pr) := if y.neg = x.neg then (waysL y).filterMap (coverW x s) else []
def coverD (x : Lt) (d : List Lt) (s : List Pr) : List (List Pr) := d.flatMap (coverL x s)
def coversS : List Pr → List Lt → List Lt → Bool
  | _, [], _ => true
  | s, x :: c, d => (coverD x d s).any fun b => coversS b c d
def coversN : List (List Pr) → List Lt → List Lt → List (List Pr)
  | now, [], _ => now
  | now, x :: c, d => coversN (now.flatMap (coverD x d)) c d
def covers (c d : List Lt) : Bool := coversS [] c d
theorem coversN_any : ∀ (c d : List Lt) (now : List (List Pr)), decide (0 < (coversN now c d).length) = now.any fun s => coversS s c d
  | [], d, now => by cases now <;> simp [coversN, coversS]
  | x :: c, d, now => by
    refine (coversN_any c d (now.flatMap (coverD x d))).trans ?_
    simp only [coversS]
    rw [List.any_flatMap]
theorem coversN_eq (c d : List Lt) : decide (0 < (coversN [[]] c d).length) = covers c d := by
  rw [coversN_any]; simp [covers]
def LitIn (θ : List Pr) (d : List Lt) (x : Lt) : Prop := ∃ l ∈ d, l.neg = x.neg ∧ ∃ w ∈ waysL l, app θ x.left = w.1 ∧ app θ x.right = w.2
theorem coverD_mem {x : Lt} {d : List Lt} {s b : List Pr} : b ∈ coverD x d s ↔ ∃ l ∈ d, l.neg = x.neg ∧ ∃ w ∈ waysL l, coverW x s w = some b := by
  unfold coverD coverL
  rw [List.mem_flatMap]
  constructor
  · rintro ⟨l, hl, h⟩
    split at h
    · rename_i hn
      obtain ⟨w, hw, h⟩ := List.mem_filterMap.1 h
      exact ⟨l, hl, hn, w, hw, h⟩
    · cases h
  · rintro ⟨l, hl, hn, w, hw, h⟩
    refine ⟨l, hl, ?_⟩
    rw [if_pos hn]
    exact List.mem_filterMap.2 ⟨w, hw, h⟩
theorem coverW_sound {x : Lt} {s b : List Pr} {w : Tm × Tm} (hx : x.left.okv = true ∧ x.right.okv = true) (h : coverW x s w = some b) : ext s b ∧ (∀ v, times v x.left ≠ 0 ∨ times v x.right ≠ 0 → dom b v) ∧ app b x.left = w.1 ∧ app b x.right = w.2 := by
  unfold coverW at h
  split at h
  · rename_i a h1
    split at h
    · rename_i b' h2
      injection h with h; subst h
      obtain ⟨e1, d1, a1⟩ := moreR_sound _ _ _ _ hx.1 h1
      obtain ⟨e2, d2, a2⟩ := moreR_sound _ _ _ _ hx.2 h2
      refine ⟨e1.trans e2, fun v hv => ?_, ?_, a2⟩
      · rcases hv with hv | hv
        · exact e2.dom (d1 v hv)
        · exact d2 v hv
      · rw [e2.app _ hx.1 d1, a1]
    · cases h
  · cases h
theorem coverW_ar {S : List Int} {x : Lt} {s b : List Pr} {w : Tm × Tm} (hs : subAr S s) (h1 : w.1.ar S = true) (h2 : w.2.ar S = true) (h : coverW x s w = some b) : subAr S b := by
  unfold coverW at h
  split at h
  · rename_i a e1
    split at h
    · rename_i b' e2
      injection h with h; subst h
      have g1 := moreR_ar x.left s w.1 hs h1
      rw [e1] at g1
      have g2 := moreR_ar x.right a w.2 g1 h2
      rw [e2] at g2
      exact g2
    · cases h
  · cases h
theorem coversS_sound {d : List Lt} : ∀ (c : List Lt) (s : List Pr), clOkv c → coversS s c d = true → ∃ θ, ext s θ ∧ (∀ x ∈ c, LitIn θ d x) ∧ ∀ S, subAr S s → clAr S d → subAr S θ
  | [], s, _, _ => ⟨s, fun _ _ h => h, fun x hx => (by cases hx), fun S h _ => h⟩
  | x :: c, s, hc, h => by
    simp only [coversS] at h
    obtain ⟨b, hb, h⟩ := List.any_eq_true.1 h
    obtain ⟨l, hl, hn, w, hw, hb⟩ := coverD_mem.1 hb
    have hx := hc x (by simp)
    obtain ⟨e1, d1, a1, a2⟩ := coverW_sound hx hb
    obtain ⟨θ, e2, hi, har⟩ := coversS_sound c b (fun l hl => hc l (by simp [hl])) h
    refine ⟨θ, e1.trans e2, fun y hy => ?_, fun S hs hd => har S (coverW_ar hs ?_ ?_ hb) hd⟩
    · rcases List.mem_cons.1 hy with rfl | hy
      · refine ⟨l, hl, hn, w, hw, ?_, ?_⟩
        · rw [e2.app _ hx.1 fun v hv => d1 v (.inl hv), a1]
        · rw [e2.app _ hx.2 fun v hv => d1 v (.inr hv), a2]
      · exact hi y hy
    · have := hd l hl
      rcases ways_mem hw with rfl | rfl
      · exact this.1
      · exact this.2
    · have := hd l hl
      rcases ways_mem hw with rfl | rfl
      · exact this.2
      · exact this.1
theorem covers_valid {S : List Int} {m : Md} {c d : List Lt} (hm : MOk S m) (hc : clOkv c) (hd : clAr S d) (h : covers c d = true) (hv : validF m c) : validF m d := fun e he => by
  obtain ⟨θ, _, hi, har⟩ := coversS_sound c [] hc h
  have h1 := validF_by hm (har S (by intro q hq; cases hq) hd) hc hv e he
  obtain ⟨y, hy, h1⟩ := someF_mem.1 h1
  simp only [each, List.mem_map] at hy
  obtain ⟨x, hx, rfl⟩ := hy
  obtain ⟨l, hl, hn, w, hw, e1, e2⟩ := hi x hx
  refine someF_mem.2 ⟨l, hl, ?_⟩
  rw [e1, e2] at h1
  unfold litF at h1 ⊢
  rw [← hn] at h1
  rcases ways_mem hw with rfl | rfl
  · exact h1
  · simp only at h1
    rw [Bool.beq_comm] at h1
    exact h1
theorem at_ren {σ : List Pr} : ∀ (p : List Int) (t : Tm), p ∈ places t → (at_ (app σ t) p).1 = app σ (at_ t p).1
  | [], t, _ => by simp [at_]
  | i :: p, ⟨v, n, l⟩, hp => by
    obtain ⟨rfl, h0 | ⟨k, x, p', hx, e1, hp'⟩⟩ := places_cons hp
    · cases h0
    · injection e1 with e1 e2
      subst e1 e2
      rw [app_sym, at_cons hx, at_cons (x := app σ x) (by rw [List.getElem?_map, hx]; rfl)]
      exact at_ren p x hp'
theorem dn_ex (us : List (List Lt)) (t : Tm) : ∃ r, (∃ r, Downs us t r) → Downs us t r := by
  rcases Classical.em (∃ r, Downs us t r) with ⟨r, h⟩ | h
  · exact ⟨r, fun _ => h⟩
  · exact ⟨t, fun h' => absurd h' h⟩
noncomputable def dn (us : List (List Lt)) (t : Tm) : Tm := Classical.choose (dn_ex us t)
theorem dn_of {us : List (List Lt)} {t r : Tm} (h : Downs us t r) : dn us t = r := (Classical.choose_spec (dn_ex us t) ⟨r, h⟩).eq h
theorem dn_downs {S : List Int} {us : List (List Lt)} (hu : UsOk S us) {t : Tm} (ht : t.ar S = true) : Downs us t (dn us t) := Classical.choose_spec (dn_ex us t) (downs_ex hu ht)
noncomputable def rewr (us : List (List Lt)) (c : List Lt) : List Lt × Int := norm (each (dn us) c)
theorem dn_wf {S : List Int} {us : List (List Lt)} (hu : UsOk S us) {t : Tm} (ht : t.wf S = true) : (dn us t).wf S = true ∧ (dn us t).size ≤ t.size := by
  have h := dn_downs hu (Tm.wf_ar t ht)
  obtain ⟨h1, h2⟩ := h.less hu (Tm.wf_ar t ht)
  refine ⟨Tm.ar_wf _ (h.keep hu (Tm.wf_ar t ht)).1 fun v hv => (times_wf ht fun h0 => hv ?_).2, h1⟩
  have := h2 v
  omega
theorem dn_cl {S : List Int} {us : List (List Lt)} (hu : UsOk S us) {c : List Lt} (hc : clWf S c) : clWf S (each (dn us) c) := fun l hl => by
  simp only [each, List.mem_map] at hl
  obtain ⟨k, hk, rfl⟩ := hl
  exact ⟨(dn_wf hu (hc k hk).1).1, (dn_wf hu (hc k hk).2).1⟩
theorem rewr_kept {S : List Int} {us : List (List Lt)} (hu : UsOk S us) {c d : List Lt} (hc : clWf S c) (h : rewr us c = (d, 0)) : Kept S d := (dn_cl hu hc).good.kept h
theorem dn_valid {S : List Int} {us : List (List Lt)} (hu : UsOk S us) {m : Md} (hm : MOk S m) (hv : ∀ u ∈ us, validF m u) {c : List Lt} (hc : clWf S c) : validF m (each (dn us) c) ↔ validF m c := by
  have key : ∀ e, FOk m e → someF m e (each (dn us) c) = someF m e c := fun e he => by
    unfold someF each
    rw [List.any_map]
    rw [Bool.eq_iff_iff, List.any_eq_true, List.any_eq_true]
    have key2 : ∀ l ∈ c, litF m e ⟨l.neg, dn us l.left, dn us l.right⟩ = litF m e l := fun l hl => by
      unfold litF
      simp only
      rw [(dn_downs hu (Tm.wf_ar _ (hc l hl).1)).value hu hm hv he (Tm.wf_ar _ (hc l hl).1), (dn_downs hu (Tm.wf_ar _ (hc l hl).2)).value hu hm hv he (Tm.wf_ar _ (hc l hl).2)]
    constructor
    · rintro ⟨l, hl, h⟩; exact ⟨l, hl, by rw [← key2 l hl]; exact h⟩
    · rintro ⟨l, hl, h⟩; exact ⟨l, hl, by rw [← key2 l hl] at h; exact h⟩
  unfold validF
  exact ⟨fun h e he => by rw [← key e he]; exact h e he, fun h e he => by rw [key e he]; exact h e he⟩
theorem rewr_valid {S : List Int} {us : List (List Lt)} (hu : UsOk S us) {m : Md} (hm : MOk S m) (hv : ∀ u ∈ us, validF m u) {c d : List Lt} (hc : clWf S c) (h : rewr us c = (d, 0)) : validF m c ↔ validF m d := by
  have hg := (dn_cl hu hc).good
  rw [← dn_valid hu hm hv hc]
  exact (norm_ok hg.1.okv hg.2 h).valid S m hm
end Go.Proofs.YtmanhdacnkpclaaGreat
/- Simpler clauses, step by step, plainly. -/
namespace Go.Proofs.YtmanhdacnkpclaaGreat
set_option linter.all false
theorem firstS_hit {α : Type} {f : α → Option Tm} : ∀ {l : List α} {k : Nat} {a : α} {r : Tm}, (∀ j x, j < k → l[j]? = some x → f x = none) → l[k]? = some a → f a = some r → firstS f l = some r
  | [], k, a, r, _, h, _ => by simp at h
  | x :: l, 0, a, r, _, h, hr => by simp at h; subst h; simp [firstS, hr]
  | x :: l, k + 1, a, r, hno, h, hr => by
    have h0 := hno 0 x (by omega) rfl
    simp only [firstS, h0]
    exact firstS_hit (k := k) (fun j y hj hy => hno (j + 1) y (by omega) (by simpa using hy)) (by simpa using h) hr
theorem downP_hit {us : List (List Lt)} {t : Tm} : ∀ {ps : List (List Int)} {k : Nat} {p : List Int} {r : Tm}, (∀ j x, j < k → ps[j]? = some x → down1 us (at_ t x).1 = none) → ps[k]? = some p → down1 us (at_ t p).1 = some r → downP us t ps = some (put t p r)
  | [], k, a, r, _, h, _ => by simp at h
  | x :: l, 0, a, r, _, h, hr => by simp at h; subst h; simp [downP, hr]
  | x :: l, k + 1, a, r, hno, h, hr => by
    have h0 := hno 0 x (by omega) rfl
    simp only [downP, h0]
    exact downP_hit (k := k) (fun j y hj hy => hno (j + 1) y (by omega) (by simpa using hy)) (by simpa using h) hr
mutual
theorem vars_pre : ∀ (t : Tm) (l : List Int), ∃ r, vars l t = l ++ r
  | ⟨true, n, as_⟩, l => by
    simp only [vars]; split
    · exact ⟨[], by simp⟩
    · exact ⟨[n], rfl⟩
  | ⟨false, n, as_⟩, l => by simp only [vars]; exact varss_pre as_ l
theorem varss_pre : ∀ (ts : List Tm) (l : List Int), ∃ r, varss l ts = l ++ r
  | [], l => ⟨[], by simp [varss]⟩
  | a :: ts, l => by
    obtain ⟨r1, h1⟩ := vars_pre a l
    obtain ⟨r2, h2⟩ := varss_pre ts (vars l a)
    exact ⟨r1 ++ r2, by simp only [varss]; rw [h2, h1, List.append_assoc]⟩
end
theorem vars_new {t : Tm} (hk : t.okv = true) (l : List Int) : decide (l.length < (vars l t).length) = (vars [] t).any fun v => !l.contains v := by
  rw [Bool.eq_iff_iff, decide_eq_true_eq]
  constructor
  · intro h
    rw [← Bool.not_eq_false]
    intro hn
    have hall : ∀ v, times v t ≠ 0 → v ∈ l := fun v hv => by
      have := List.any_eq_false.1 hn v (times_mem v t [] hk hv).1
      simpa using this
    rw [vars_had t l hk hall] at h
    omega
  · intro h
    obtain ⟨v, hv, hn⟩ := List.any_eq_true.1 h
    have hv' : times v t ≠ 0 := by
      rcases vars_sub v t [] hv with h | h
      · cases h
      · exact h
    have hm := (times_mem v t l hk hv').1
    obtain ⟨r, hr⟩ := vars_pre t l
    rw [hr] at hm ⊢
    have hnl : v ∉ l := by simpa using hn
    rcases List.mem_append.1 hm with h | h
    · exact absurd h hnl
    · cases r with
      | nil => cases h
      | cons a r => simp
mutual
theorem moreR_size {M : Nat} : ∀ (p : Tm) (s : List Pr) (t : Tm), (∀ q ∈ s, q.2.size ≤ M) → t.size ≤ M → ∀ q ∈ (moreR s p t).1, q.2.size ≤ M
  | ⟨true, n, l⟩, s, t, hs, ht => by
    simp only [moreR]; split
    · exact hs
    · intro q hq
      rcases List.mem_append.1 hq with hq | hq
      · exact hs q hq
      · rw [List.mem_singleton.1 hq]; exact ht
  | ⟨false, n, l⟩, s, ⟨v, m, ts⟩, hs, ht => by
    simp only [moreR]; split
    · intro q hq; cases hq
    · simp only [Tm.size] at ht
      exact moresR_size l s ts hs (by omega)
theorem moresR_size {M : Nat} : ∀ (l : List Tm) (s : List Pr) (ts : List Tm), (∀ q ∈ s, q.2.size ≤ M) → Tm.sizes ts ≤ M → ∀ q ∈ (moresR s l ts).1, q.2.size ≤ M
  | [], s, ts, hs, _ => by simpa [moresR] using hs
  | _ :: _, s, [], hs, _ => by simpa [moresR] using hs
  | p :: l, s, t :: ts, hs, ht => by
    simp only [Tm.sizes] at ht
    have h1 := moreR_size p s t hs (by omega)
    simp only [moresR]; split
    · rename_i s' h
      rw [h] at h1
      exact moresR_size l s' ts h1 (by omega)
    · intro q hq; cases hq
end
theorem matchR_size {M : Nat} {p t : Tm} (ht : t.size ≤ M) : ∀ q ∈ (matchR p t).1, q.2.size ≤ M := by
  have := moreR_size (M := M) p [] t (fun q hq => by cases hq) ht
  unfold matchR
  split
  · rename_i r h; rw [h] at this; exact this
  · intro q hq; cases hq
theorem app_small {by_ : List Pr} (hb : ∀ p ∈ by_, p.2.size ≤ 12) {t : Tm} (ht : t.okv = true) (hz : t.size ≤ 12) : (app by_ t).size ≤ 144 := by
  have h := size_app_le (s := by_) (M := 12) (by omega) t ht fun n _ => by
    unfold appV
    rw [app_var]
    cases hf : findS by_ n with
    | none => simp [Tm.size, Tm.sizes]
    | some u =>
      obtain ⟨p, hp, _, rfl⟩ := findS_mem hf
      exact hb p hp
  omega
structure UsSz (S : List Int) (us : List (List Lt)) : Prop where
  ok : UsOk S us
  size : ∀ u ∈ us, ∀ l ∈ u, l.left.size ≤ 12 ∧ l.right.size ≤ 12
theorem UsSz.one {S : List Int} {us : List (List Lt)} (h : UsSz S us) {u : List Lt} (hu : u ∈ us) : ∃ l : Lt, u = [l] ∧ l.neg = false ∧ (l.left.wf S = true ∧ l.right.wf S = true) ∧ l.left.size ≤ 12 ∧ l.right.size ≤ 12 := by
  have h1 := h.ok.unit u hu
  have h2 := h.ok.wf u hu
  have h3 := h.size u hu
  match u, h1 with
  | [l], h1 => exact ⟨l, rfl, by simpa [unit] using h1, h2 l (by simp), h3 l (by simp)⟩
theorem at_size : ∀ (p : List Int) (t : Tm), p ∈ places t → (at_ t p).1.size ≤ t.size
  | [], t, _ => by simp [at_]
  | i :: p, ⟨v, n, l⟩, hp => by
    have h1 := size_put (i :: p) ⟨v, n, l⟩ ⟨false, 0, []⟩ hp
    have h2 : (Tm.mk false 0 []).size = 1 := by simp [Tm.size, Tm.sizes]
    have h3 : 1 ≤ (put ⟨v, n, l⟩ (i :: p) ⟨false, 0, []⟩).size := by
      generalize put ⟨v, n, l⟩ (i :: p) ⟨false, 0, []⟩ = x
      obtain ⟨a, b, c⟩ := x
      simp only [Tm.size]; omega
    omega
end Go.Proofs.YtmanhdacnkpclaaGreat
