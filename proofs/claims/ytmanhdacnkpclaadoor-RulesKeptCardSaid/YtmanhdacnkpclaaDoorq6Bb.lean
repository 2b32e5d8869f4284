/- What functions do: places, and what is at them. -/
import Derived.Test.YtmanhdacnkpclaaDoorq6Fe
import Derived.Test.YtmanhdacnkpclaaDoorq6Ba
import Derived.Test.YtmanhdacnkpclaaDoorq6Pa1
import Derived.Test.YtmanhdacnkpclaaDoorq6Pb1
/- What functions do: places, and what is at them. -/
namespace Go.Proofs.YtmanhdacnkpclaaDoor
set_option linter.unusedVariables false
set_option linter.unusedSimpArgs false
open Go.RowKit

set_option maxHeartbeats 4000000 in
set_option maxRecDepth 100000 in
theorem rplaces : ∀ t : Tm, t.size ≤ 1000000000 → FnD Tryd.prog 33 [tA t] (.one (lA Is.d (places t))) := by
  refine Tm.ind ?_
  intro v n l ih hsz
  refine Fn.of Tryd.func33 rfl Tryd.ntmps33 rfl (Nat.le_of_ble_eq_true rfl) ?_
  cases v
  rotate_left
  · (refine wlk ?_)
    refine fin_wk (fun n => Wk.nilArr (d := 2) rfl) ?_
    (first | (refine finR (.tmp rfl .nil) rfl rfl ?_) | (refine finN (.tmp rfl .nil) rfl rfl ?_))
    exact Xl (f := Is.d) (b := []) rfl
  have hszl : Tm.sizes l ≤ 1000000000 := by simp [Tm.size] at hsz; omega
  have hll := sizes_len l
  (refine wlk ?_)
  (refine SqA.b2 (Op1.frzIn (t := 11) rfl (op_bsT (T := TB) (f := Is.d) [[]] rfl rfl rfl rfl rfl rfl rfl rfl rfl rfl rfl)) rfl rfl ?_)
  (refine wlk ?_)
  refine dwp_loop (fun k : Nat => [(.t 1, some (.one (.c (.ptr 1 0)))), (.b 1, some (.box (tA ⟨false, n, l⟩).cells)), (.t 3, some (.one (.c (.own 22 1 (([] :: placesL 0 (l.take k)).map Is.d))))),
    (.t 15, some (.one (lA Tm.d l))), (.t 16, some (.one (iA l.length))), (.t 17, some (.one (iA k)))])
    (fun k => k ≤ l.length) (fun k => l.length - k) 0 (by omega) fgs ?_
  intro k hk
  by_cases hkl : k < l.length
  · obtain ⟨x, hx⟩ := get_of_lt hkl
    have h1 := sizes_take_succ l k x hx
    have h2 := sizes_take_le l (k + 1)
    have h3 := placesL_len (l.take k) 0
    have h4 := places_len x
    have h5 := places_deep x
    have hsn := placesL_snoc hx
    generalize hps : places x = ps at h4 h5 hsn
    have hih := ih x (List.mem_of_getElem? hx) (by omega)
    rw [hps] at hih
    (refine wlk ?_)
    (refine SqA.b1 (op_call none rfl rfl rfl (by kernel_rfl) (FnD.use (hih)) rfl rfl rfl rfl rfl rfl) rfl rfl ?_)
    (refine wlk ?_)
    refine dwp_loop (fun j : Nat => [(.t 1, some (.one (.c (.ptr 1 0)))), (.b 1, some (.box (tA ⟨false, n, l⟩).cells)), (.t 3, some (.one (.c (.own 22 1 (([] :: (placesL 0 (l.take k) ++ (ps.take j).map (fun p => (k : Int) :: p))).map Is.d))))),
      (.t 15, some (.one (lA Tm.d l))), (.t 16, some (.one (iA l.length))), (.t 17, some (.one (iA k))), (.t 4, some (.one (iA k))), (.t 25, some (.one (lA Is.d ps))), (.t 26, some (.one (iA ps.length))), (.t 27, some (.one (iA j)))])
      (fun j => j ≤ ps.length) (fun j => ps.length - j) 0 (by omega) ?_ ?_
    · have e : ([] :: placesL 0 (l.take k)) = ([] :: (placesL 0 (l.take k) ++ (ps.take 0).map (fun p => (k : Int) :: p))) := by simp
      rw [← e]
      exact fgs
    intro j hj
    by_cases hjl : j < ps.length
    · obtain ⟨p, hp⟩ := get_of_lt hjl
      have h6 := h5 p (List.mem_of_getElem? hp)
      have hs2 : ([] :: (placesL 0 (l.take k) ++ (ps.take j).map (fun p => (k : Int) :: p))) ++ [[(k : Int)] ++ p] = [] :: (placesL 0 (l.take k) ++ (ps.take (j + 1)).map (fun p => (k : Int) :: p)) := by
        rw [← snoc (fun p => (k : Int) :: p) hp]; simp
      have hlen : (placesL 0 (l.take k)).length + ps.length ≤ 1000000000 := by omega
      (refine wlk ?_)
      (refine SqA.b1 (op_bsOT (T := TB) (f := Int.d) [(k : Int)] rfl rfl rfl rfl rfl rfl rfl rfl rfl rfl rfl rfl) rfl rfl ?_)
      (refine wlk ?_)
      (refine SqA.b2 (Op1.frzIn (t := 35) rfl (op_bsT (T := TB) (f := Is.d) [[(k : Int)] ++ p] rfl rfl rfl rfl rfl rfl rfl rfl rfl rfl rfl)) rfl rfl ?_)
      (refine wlk ?_)
      exact ⟨j + 1, by omega, fgs, by omega⟩
    · have : j = ps.length := by omega
      subst this
      rw [List.take_length, ← hsn]
      (refine wlk ?_)
      exact ⟨k + 1, by omega, fgs, by omega⟩
  · have : k = l.length := by omega
    subst this
    rw [List.take_length]
    refine dwp_wk (Wk.freezeAt (d := 3) rfl) ?_
    (refine wlk ?_)
    (first | (refine finR (.tmp rfl .nil) rfl rfl ?_) | (refine finN (.tmp rfl .nil) rfl rfl ?_))
    exact Xl (f := Is.d) (b := [] :: placesL 0 l) rfl
set_option maxHeartbeats 4000000 in
set_option maxRecDepth 100000 in
theorem pplaces : ∀ t : Tm, t.size ≤ 1000000000 → FnD Tryd.prog 32 [tA t] (.one (lA Is.d (places t))) := by
  refine Tm.ind ?_
  intro v n l ih hsz
  refine Fn.of Tryd.func32 rfl Tryd.ntmps32 rfl (Nat.le_of_ble_eq_true rfl) ?_
  cases v
  rotate_left
  · (refine wlk ?_)
    refine fin_wk (fun n => Wk.nilArr (d := 2) rfl) ?_
    (first | (refine finR (.tmp rfl .nil) rfl rfl ?_) | (refine finN (.tmp rfl .nil) rfl rfl ?_))
    exact Xl (f := Is.d) (b := []) rfl
  have hszl : Tm.sizes l ≤ 1000000000 := by simp [Tm.size] at hsz; omega
  have hll := sizes_len l
  (refine wlk ?_)
  (refine SqA.b1 (op_bsNil (T := TB) rfl rfl rfl rfl rfl rfl rfl) rfl rfl ?_)
  (refine wlk ?_)
  refine dwp_loop (fun k : Nat => [(.t 1, some (.one (.c (.ptr 1 0)))), (.b 1, some (.box (tA ⟨false, n, l⟩).cells)), (.t 3, some (.one (.c (.own 22 1 (([] :: placesL 0 (l.take k)).map Is.d))))),
    (.t 12, some (.one (lA Tm.d l))), (.t 13, some (.one (iA l.length))), (.t 14, some (.one (iA k)))])
    (fun k => k ≤ l.length) (fun k => l.length - k) 0 (by omega) fgs ?_
  intro k hk
  by_cases hkl : k < l.length
  · obtain ⟨x, hx⟩ := get_of_lt hkl
    have h1 := sizes_take_succ l k x hx
    have h2 := sizes_take_le l (k + 1)
    have h3 := placesL_len (l.take k) 0
    have h4 := places_len x
    have h5 := places_deep x
    have hsn := placesL_snoc hx
    generalize hps : places x = ps at h4 h5 hsn
    have hih := ih x (List.mem_of_getElem? hx) (by omega)
    rw [hps] at hih
    (refine wlk ?_)
    (refine SqA.b1 (op_call none rfl rfl rfl (by kernel_rfl) (FnD.use (hih)) rfl rfl rfl rfl rfl rfl) rfl rfl ?_)
    (refine wlk ?_)
    refine dwp_loop (fun j : Nat => [(.t 1, some (.one (.c (.ptr 1 0)))), (.b 1, some (.box (tA ⟨false, n, l⟩).cells)), (.t 3, some (.one (.c (.own 22 1 (([] :: (placesL 0 (l.take k) ++ (ps.take j).map (fun p => (k : Int) :: p))).map Is.d))))),
      (.t 12, some (.one (lA Tm.d l))), (.t 13, some (.one (iA l.length))), (.t 14, some (.one (iA k))), (.t 4, some (.one (iA k))), (.t 20, some (.one (lA Is.d ps))), (.t 21, some (.one (iA ps.length))), (.t 22, some (.one (iA j)))])
      (fun j => j ≤ ps.length) (fun j => ps.length - j) 0 (by omega) ?_ ?_
    · have e : ([] :: placesL 0 (l.take k)) = ([] :: (placesL 0 (l.take k) ++ (ps.take 0).map (fun p => (k : Int) :: p))) := by simp
      rw [← e]
      exact fgs
    intro j hj
    by_cases hjl : j < ps.length
    · obtain ⟨p, hp⟩ := get_of_lt hjl
      have h6 := h5 p (List.mem_of_getElem? hp)
      have hs2 : ([] :: (placesL 0 (l.take k) ++ (ps.take j).map (fun p => (k : Int) :: p))) ++ [[(k : Int)] ++ p] = [] :: (placesL 0 (l.take k) ++ (ps.take (j + 1)).map (fun p => (k : Int) :: p)) := by
        rw [← snoc (fun p => (k : Int) :: p) hp]; simp
      have hlen : (placesL 0 (l.take k)).length + ps.length ≤ 1000000000 := by omega
      (refine wlk ?_)
      (refine SqA.b1 (op_bsOT (T := TB) (f := Int.d) [(k : Int)] rfl rfl rfl rfl rfl rfl rfl rfl rfl rfl rfl rfl) rfl rfl ?_)
      (refine wlk ?_)
      (refine SqA.b2 (Op1.frzIn (t := 30) rfl (op_bsT (T := TB) (f := Is.d) [[(k : Int)] ++ p] rfl rfl rfl rfl rfl rfl rfl rfl rfl rfl rfl)) rfl rfl ?_)
      (refine wlk ?_)
      exact ⟨j + 1, by omega, fgs, by omega⟩
    · have : j = ps.length := by omega
      subst this
      rw [List.take_length, ← hsn]
      (refine wlk ?_)
      exact ⟨k + 1, by omega, fgs, by omega⟩
  · have : k = l.length := by omega
    subst this
    rw [List.take_length]
    refine dwp_wk (Wk.freezeAt (d := 3) rfl) ?_
    (refine wlk ?_)
    (first | (refine finR (.tmp rfl .nil) rfl rfl ?_) | (refine finN (.tmp rfl .nil) rfl rfl ?_))
    exact Xl (f := Is.d) (b := [] :: placesL 0 l) rfl
end Go.Proofs.YtmanhdacnkpclaaDoor

/- What functions do: what is at a place; clauses. -/
namespace Go.Proofs.YtmanhdacnkpclaaDoor
set_option linter.unusedVariables false
set_option linter.unusedSimpArgs false
open Go.RowKit

theorem Xat {r r' : Tm × Bool} (h : r = r') : (.tup [tA r.1, bA r.2] : X) = .tup [tA r'.1, bA r'.2] := by rw [h]

set_option maxRecDepth 100000 in
theorem pat (p : List Int) (t : Tm) : FnD Tryd.prog 41 [tA t, lA Int.d p] (.tup [tA (at_ t p).1, bA (at_ t p).2]) := by
  refine Fn.of Tryd.func41 rfl Tryd.ntmps41 rfl (Nat.le_of_ble_eq_true rfl) ?_
  refine dwp_len (t := 1) rfl fun hl => ?_
  simp only [List.length_map] at hl
  (refine wlk ?_)
  refine dwp_loop (fun x : Nat × Tm => [(.t 2, some (.one (.c (.ptr 2 0)))), (.b 2, some (.box (tA x.2).cells)), (.t 4, some (.one (.c (.ptr 4 0)))), (.b 4, some (.box [.val (.bool false), .val (.int .i64 0), .val (.slice none 0 0)])), (.t 5, some (.one (bA false))),
    (.t 8, some (.one (lA Int.d p))), (.t 9, some (.one (iA p.length))), (.t 10, some (.one (iA x.1)))])
    (fun x => x.1 ≤ p.length ∧ at_ t p = at_ x.2 (p.drop x.1)) (fun x => p.length - x.1) (0, t) ⟨by omega, rfl⟩ fgs ?_
  rintro ⟨k, v, n, l⟩ ⟨hk, hm⟩
  simp only at hk hm
  by_cases hkl : k < p.length
  · obtain ⟨i, hx⟩ := get_of_lt hkl
    rw [drop_of hx] at hm
    by_cases hi : i < 0
    · (refine wlk ?_)
      refine fin_wk (fun n => Wk.nilArrB (j := 4) (q := 2) rfl rfl rfl) ?_
      (first | (refine finR (.cellN rfl rfl (rw_of rfl) rfl rfl (.tmp rfl .nil)) rfl rfl ?_) | (refine finN (.cellN rfl rfl (rw_of rfl) rfl rfl (.tmp rfl .nil)) rfl rfl ?_))
      exact Xat (r := (⟨false, 0, []⟩, false)) (by rw [hm]; simp [at_, hi])
    by_cases hil : (l.length : Int) ≤ i
    · (refine wlk ?_)
      refine fin_wk (fun n => Wk.nilArrB (j := 4) (q := 2) rfl rfl rfl) ?_
      (first | (refine finR (.cellN rfl rfl (rw_of rfl) rfl rfl (.tmp rfl .nil)) rfl rfl ?_) | (refine finN (.cellN rfl rfl (rw_of rfl) rfl rfl (.tmp rfl .nil)) rfl rfl ?_))
      exact Xat (r := (⟨false, 0, []⟩, false)) (by rw [hm]; simp [at_, hil])
    obtain ⟨j, rfl⟩ := Int.eq_ofNat_of_zero_le (a := i) (by omega)
    obtain ⟨y, hy⟩ := get_of_lt (s := l) (k := j) (by omega)
    (refine wlk ?_)
    exact ⟨(k + 1, y), ⟨by simp only; omega, by rw [hm]; simp [at_, hil, hy, show ¬ ((j : Int) < 0) by omega]⟩, fgs, by simp only; omega⟩
  · have : k = p.length := by omega
    subst this
    rw [List.drop_length] at hm
    (refine wlk ?_)
    (first | (refine finR (.cellN rfl rfl (rw_of rfl) rfl rfl (.tmp rfl .nil)) rfl rfl ?_) | (refine finN (.cellN rfl rfl (rw_of rfl) rfl rfl (.tmp rfl .nil)) rfl rfl ?_))
    exact Xat (r := (⟨v, n, l⟩, true)) (by rw [hm]; simp [at_])

set_option maxRecDepth 100000 in
theorem rwrongCl (s : List Int) (c : List Lt) : FnD Tryd.prog 62 [lA Int.d s, lA Lt.d c] (.one (iA (wrongCl s c))) := by
  refine Fn.of Tryd.func62 rfl Tryd.ntmps62 rfl (Nat.le_of_ble_eq_true rfl) ?_
  by_cases h4 : 4 < c.length
  · (refine wlk ?_)
    (first | (refine finR (.tmp rfl .nil) rfl rfl ?_) | (refine finN (.tmp rfl .nil) rfl rfl ?_))
    exact Xi (b := 5) (by simp [wrongCl, h4])
  (refine wlk ?_)
  refine dwp_loop (fun k : Nat => [(.t 0, some (.one (lA Int.d s))), (.t 12, some (.one (lA Lt.d c))), (.t 13, some (.one (iA c.length))), (.t 14, some (.one (iA k)))])
    (fun k => k ≤ c.length ∧ ∀ j y, j < k → c[j]? = some y → wrong s y.left = 0 ∧ wrong s y.right = 0) (fun k => c.length - k) 0 ⟨by omega, fun j x h => absurd h (by omega)⟩ fgs ?_
  rintro k ⟨hk, hno⟩
  by_cases hkl : k < c.length
  · obtain ⟨x, hx⟩ := get_of_lt hkl
    have hw := wrongLits_no hno hx
    by_cases h1 : wrong s x.left = 0
    rotate_left
    · (refine wlk ?_)
      (refine SqA.b1 (op_call none rfl rfl rfl (by kernel_rfl) (FnD.use (rwrong s x.left)) rfl rfl rfl rfl rfl rfl) rfl rfl ?_)
      (refine wlk ?_)
      (first | (refine finR (.tmp rfl .nil) rfl rfl ?_) | (refine finN (.tmp rfl .nil) rfl rfl ?_))
      exact Xi (b := wrong s x.left) (by simp [wrongCl, h4, hw, wrongLits, h1])
    by_cases h2 : wrong s x.right = 0
    rotate_left
    · (refine wlk ?_)
      (refine SqA.b1 (op_call none rfl rfl rfl (by kernel_rfl) (FnD.use (rwrong s x.left)) rfl rfl rfl rfl rfl rfl) rfl rfl ?_)
      (refine wlk ?_)
      (refine SqA.b1 (op_call none rfl rfl rfl (by kernel_rfl) (FnD.use (rwrong s x.right)) rfl rfl rfl rfl rfl rfl) rfl rfl ?_)
      (refine wlk ?_)
      (first | (refine finR (.tmp rfl .nil) rfl rfl ?_) | (refine finN (.tmp rfl .nil) rfl rfl ?_))
      exact Xi (b := wrong s x.right) (by simp [wrongCl, h4, hw, wrongLits, h1, h2])
    (refine wlk ?_)
    (refine SqA.b1 (op_call none rfl rfl rfl (by kernel_rfl) (FnD.use (rwrong s x.left)) rfl rfl rfl rfl rfl rfl) rfl rfl ?_)
    (refine wlk ?_)
    (refine SqA.b1 (op_call none rfl rfl rfl (by kernel_rfl) (FnD.use (rwrong s x.right)) rfl rfl rfl rfl rfl rfl) rfl rfl ?_)
    (refine wlk ?_)
    exact ⟨k + 1, ⟨by omega, upto_succ hno hx ⟨h1, h2⟩⟩, fgs, by omega⟩
  · have : k = c.length := by omega
    subst this
    (refine wlk ?_)
    (first | (refine finR (.tmp rfl .nil) rfl rfl ?_) | (refine finN (.tmp rfl .nil) rfl rfl ?_))
    exact Xi (b := 0) (by simp [wrongCl, h4, wrongLits_yes hno])
end Go.Proofs.YtmanhdacnkpclaaDoor
