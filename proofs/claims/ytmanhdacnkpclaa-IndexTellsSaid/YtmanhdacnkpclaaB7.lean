/- What functions do: places, and what is at them. -/
import Derived.Test.YtmanhdacnkpclaaZA
import Derived.Test.YtmanhdacnkpclaaB2
import Derived.Test.YtmanhdacnkpclaaPl3
namespace Go.Proofs.Ytmanhdacnkpclaa
set_option linter.unusedVariables false
set_option linter.unusedSimpArgs false
open Go.RowKit

set_option maxHeartbeats 4000000 in
set_option maxRecDepth 100000 in
theorem rplaces : ∀ t : Tm, t.size ≤ 1000000000 → FnD Try.prog 22 [tA t] (.one (lA Is.d (places t))) := by
  refine Tm.ind ?_
  intro v n l ih hsz
  refine Fn.of Try.func22 rfl Try.ntmps22 rfl (Nat.le_of_ble_eq_true rfl) ?_
  cases v
  rotate_left
  · (refine wlk ?_)
    refine fin_wk (fun n => Wk.nilArr (d := 2) rfl) ?_
    (first | (refine finR (.tmp rfl .nil) rfl rfl ?_) | (refine finN (.tmp rfl .nil) rfl rfl ?_))
    exact Xl (f := Is.d) (b := []) rfl
  have hszl : Tm.sizes l ≤ 1000000000 := by simp [Tm.size] at hsz; omega
  have hll := sizes_len l
  (refine wlk ?_)
  (refine SqA.b2 (Op1.frzIn (t := 11) rfl (op_bsT (T := TB) (f := Is.d) [[]] rfl rfl rfl rfl rfl rfl rfl rfl rfl rfl rfl)) rfl rfl ?_)
  (refine wlk ?_)
  refine dwp_loop (fun k : Nat => [(.t 1, some (.one (.c (.ptr 1 0)))), (.b 1, some (.box (tA ⟨false, n, l⟩).cells)), (.t 3, some (.one (.c (.own 22 1 (([] :: placesL 0 (l.take k)).map Is.d))))),
    (.t 15, some (.one (lA Tm.d l))), (.t 16, some (.one (iA l.length))), (.t 17, some (.one (iA k)))])
    (fun k => k ≤ l.length) (fun k => l.length - k) 0 (by omega) fgs ?_
  intro k hk
  by_cases hkl : k < l.length
  · obtain ⟨x, hx⟩ := get_of_lt hkl
    have h1 := sizes_take_succ l k x hx
    have h2 := sizes_take_le l (k + 1)
    have h3 := placesL_len (l.take k) 0
    have h4 := places_len x
    have h5 := places_deep x
    have hsn := placesL_snoc hx
    generalize hps : places x = ps at h4 h5 hsn
    have hih := ih x (List.mem_of_getElem? hx) (by omega)
    rw [hps] at hih
    (refine wlk ?_)
    (refine SqA.b1 (op_call none rfl rfl rfl (by kernel_rfl) (FnD.use (hih)) rfl rfl rfl rfl rfl rfl) rfl rfl ?_)
    (refine wlk ?_)
    refine dwp_loop (fun j : Nat => [(.t 1, some (.one (.c (.ptr 1 0)))), (.b 1, some (.box (tA ⟨false, n, l⟩).cells)), (.t 3, some (.one (.c (.own 22 1 (([] :: (placesL 0 (l.take k) ++ (ps.take j).map (fun p => (k : Int) :: p))).map Is.d))))),
      (.t 15, some (.one (lA Tm.d l))), (.t 16, some (.one (iA l.length))), (.t 17, some (.one (iA k))), (.t 4, some (.one (iA k))), (.t 25, some (.one (lA Is.d ps))), (.t 26, some (.one (iA ps.length))), (.t 27, some (.one (iA j)))])
      (fun j => j ≤ ps.length) (fun j => ps.length - j) 0 (by omega) ?_ ?_
    · have e : ([] :: placesL 0 (l.take k)) = ([] :: (placesL 0 (l.take k) ++ (ps.take 0).map (fun p => (k : Int) :: p))) := by simp
      rw [← e]
      exact fgs
    intro j hj
    by_cases hjl : j < ps.length
    · obtain ⟨p, hp⟩ := get_of_lt hjl
      have h6 := h5 p (List.mem_of_getElem? hp)
      have hs2 : ([] :: (placesL 0 (l.take k) ++ (ps.take j).map (fun p => (k : Int) :: p))) ++ [[(k : Int)] ++ p] = [] :: (placesL 0 (l.take k) ++ (ps.take (j + 1)).map (fun p => (k : Int) :: p)) := by
        rw [← snoc (fun p => (k : Int) :: p) hp]; simp
      have hlen : (placesL 0 (l.take k)).length + ps.length ≤ 1000000000 := by omega
      (refine wlk ?_)
      (refine SqA.b1 (op_bsOT (T := TB) (f := Int.d) [(k : Int)] rfl rfl rfl rfl rfl rfl rfl rfl rfl rfl rfl rfl) rfl rfl ?_)
      (refine wlk ?_)
      (refine SqA.b2 (Op1.frzIn (t := 35) rfl (op_bsT (T := TB) (f := Is.d) [[(k : Int)] ++ p] rfl rfl rfl rfl rfl rfl rfl rfl rfl rfl rfl)) rfl rfl ?_)
      (refine wlk ?_)
      exact ⟨j + 1, by omega, fgs, by omega⟩
    · have : j = ps.length := by omega
      subst this
      rw [List.take_length, ← hsn]
      (refine wlk ?_)
      exact ⟨k + 1, by omega, fgs, by omega⟩
  · have : k = l.length := by omega
    subst this
    rw [List.take_length]
    refine dwp_wk (Wk.freezeAt (d := 3) rfl) ?_
    (refine wlk ?_)
    (first | (refine finR (.tmp rfl .nil) rfl rfl ?_) | (refine finN (.tmp rfl .nil) rfl rfl ?_))
    exact Xl (f := Is.d) (b := [] :: placesL 0 l) rfl
set_option maxHeartbeats 4000000 in
set_option maxRecDepth 100000 in
theorem pplaces : ∀ t : Tm, t.size ≤ 1000000000 → FnD Try.prog 90 [tA t] (.one (lA Is.d (places t))) := by
  refine Tm.ind ?_
  intro v n l ih hsz
  refine Fn.of Try.func90 rfl Try.ntmps90 rfl (Nat.le_of_ble_eq_true rfl) ?_
  cases v
  rotate_left
  · (refine wlk ?_)
    refine fin_wk (fun n => Wk.nilArr (d := 2) rfl) ?_
    (first | (refine finR (.tmp rfl .nil) rfl rfl ?_) | (refine finN (.tmp rfl .nil) rfl rfl ?_))
    exact Xl (f := Is.d) (b := []) rfl
  have hszl : Tm.sizes l ≤ 1000000000 := by simp [Tm.size] at hsz; omega
  have hll := sizes_len l
  (refine wlk ?_)
  (refine SqA.b1 (op_bsNil (T := TB) rfl rfl rfl rfl rfl rfl rfl) rfl rfl ?_)
  (refine wlk ?_)
  refine dwp_loop (fun k : Nat => [(.t 1, some (.one (.c (.ptr 1 0)))), (.b 1, some (.box (tA ⟨false, n, l⟩).cells)), (.t 3, some (.one (.c (.own 22 1 (([] :: placesL 0 (l.take k)).map Is.d))))),
    (.t 12, some (.one (lA Tm.d l))), (.t 13, some (.one (iA l.length))), (.t 14, some (.one (iA k)))])
    (fun k => k ≤ l.length) (fun k => l.length - k) 0 (by omega) fgs ?_
  intro k hk
  by_cases hkl : k < l.length
  · obtain ⟨x, hx⟩ := get_of_lt hkl
    have h1 := sizes_take_succ l k x hx
    have h2 := sizes_take_le l (k + 1)
    have h3 := placesL_len (l.take k) 0
    have h4 := places_len x
    have h5 := places_deep x
    have hsn := placesL_snoc hx
    generalize hps : places x = ps at h4 h5 hsn
    have hih := ih x (List.mem_of_getElem? hx) (by omega)
    rw [hps] at hih
    (refine wlk ?_)
    (refine SqA.b1 (op_call none rfl rfl rfl (by kernel_rfl) (FnD.use (hih)) rfl rfl rfl rfl rfl rfl) rfl rfl ?_)
    (refine wlk ?_)
    refine dwp_loop (fun j : Nat => [(.t 1, some (.one (.c (.ptr 1 0)))), (.b 1, some (.box (tA ⟨false, n, l⟩).cells)), (.t 3, some (.one (.c (.own 22 1 (([] :: (placesL 0 (l.take k) ++ (ps.take j).map (fun p => (k : Int) :: p))).map Is.d))))),
      (.t 12, some (.one (lA Tm.d l))), (.t 13, some (.one (iA l.length))), (.t 14, some (.one (iA k))), (.t 4, some (.one (iA k))), (.t 20, some (.one (lA Is.d ps))), (.t 21, some (.one (iA ps.length))), (.t 22, some (.one (iA j)))])
      (fun j => j ≤ ps.length) (fun j => ps.length - j) 0 (by omega) ?_ ?_
    · have e : ([] :: placesL 0 (l.take k)) = ([] :: (placesL 0 (l.take k) ++ (ps.take 0).map (fun p => (k : Int) :: p))) := by simp
      rw [← e]
      exact fgs
    intro j hj
    by_cases hjl : j < ps.length
    · obtain ⟨p, hp⟩ := get_of_lt hjl
      have h6 := h5 p (List.mem_of_getElem? hp)
      have hs2 : ([] :: (placesL 0 (l.take k) ++ (ps.take j).map (fun p => (k : Int) :: p))) ++ [[(k : Int)] ++ p] = [] :: (placesL 0 (l.take k) ++ (ps.take (j + 1)).map (fun p => (k : Int) :: p)) := by
        rw [← snoc (fun p => (k : Int) :: p) hp]; simp
      have hlen : (placesL 0 (l.take k)).length + ps.length ≤ 1000000000 := by omega
      (refine wlk ?_)
      (refine SqA.b1 (op_bsOT (T := TB) (f := Int.d) [(k : Int)] rfl rfl rfl rfl rfl rfl rfl rfl rfl rfl rfl rfl) rfl rfl ?_)
      (refine wlk ?_)
      (refine SqA.b2 (Op1.frzIn (t := 30) rfl (op_bsT (T := TB) (f := Is.d) [[(k : Int)] ++ p] rfl rfl rfl rfl rfl rfl rfl rfl rfl rfl rfl)) rfl rfl ?_)
      (refine wlk ?_)
      exact ⟨j + 1, by omega, fgs, by omega⟩
    · have : j = ps.length := by omega
      subst this
      rw [List.take_length, ← hsn]
      (refine wlk ?_)
      exact ⟨k + 1, by omega, fgs, by omega⟩
  · have : k = l.length := by omega
    subst this
    rw [List.take_length]
    refine dwp_wk (Wk.freezeAt (d := 3) rfl) ?_
    (refine wlk ?_)
    (first | (refine finR (.tmp rfl .nil) rfl rfl ?_) | (refine finN (.tmp rfl .nil) rfl rfl ?_))
    exact Xl (f := Is.d) (b := [] :: placesL 0 l) rfl
end Go.Proofs.Ytmanhdacnkpclaa
