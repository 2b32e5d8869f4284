/- IndexTells, walked. -/
import Derived.Test.YtmanhdacnkpclaaB6
import Derived.Test.YtmanhdacnkpclaaB9
import Derived.Test.YtmanhdacnkpclaaPl4
namespace Go.Proofs.Ytmanhdacnkpclaa
set_option linter.unusedVariables false
set_option linter.unusedSimpArgs false
open Go.RowKit

theorem all_at {c : List Lt} {k : Nat} {x : Lt} {A B : List Tm} {z : Tm} (h : c[k]? = some x) (hs : tmsOf x.left ++ tmsOf x.right = A ++ z :: B) : (allT c)[(allT (c.take k) ++ A).length]? = some z := by
  have e : allT c = (allT (c.take k) ++ A) ++ z :: (B ++ allT (c.drop (k + 1))) := by
    have h1 : c = c.take k ++ x :: c.drop (k + 1) := by rw [← drop_of h, List.take_append_drop]
    have h2 : allT c = allT (c.take k ++ x :: c.drop (k + 1)) := congrArg allT h1
    rw [h2]
    have h3 : ∀ u v : List Lt, allT (u ++ v) = allT u ++ allT v := fun u v => by simp [allT]
    rw [h3, show x :: c.drop (k + 1) = [x] ++ c.drop (k + 1) from rfl, h3]
    have h4 : allT [x] = A ++ z :: B := by simpa [allT] using hs
    rw [h4]; simp
  rw [e, List.getElem?_append_right (Nat.le_refl _)]
  simp

theorem wrongLits_all {s : List Int} : ∀ {c : List Lt}, wrongLits s c = 0 → ∀ q ∈ c, wrong s q.left = 0 ∧ wrong s q.right = 0
  | [], _ => by simp
  | l :: c, h => by
    simp only [wrongLits] at h
    split at h
    · rename_i h1
      split at h
      · rename_i h2
        intro q hq
        rcases List.mem_cons.1 hq with rfl | hq
        · exact ⟨h1, h2⟩
        · exact wrongLits_all h q hq
      · rename_i h2; exact absurd h h2
    · rename_i h1; exact absurd h h1
theorem wrongCl_ok {s : List Int} {c : List Lt} (h : wrongCl s c = 0) : c.length ≤ 4 ∧ ∀ q ∈ c, wrong s q.left = 0 ∧ wrong s q.right = 0 := by
  unfold wrongCl at h
  split at h
  · cases h
  · exact ⟨by omega, wrongLits_all h⟩

set_option maxHeartbeats 16000000 in
set_option maxRecDepth 100000 in
theorem indexTells_fn (s : List Int) (a : Tm) (l : List Tm) (x0 x1 x2 y0 y1 y2 : Int) (c : List Lt) (hll : l.length ≤ 4000000000000) :
    FnD Try.prog 6 [lA Int.d s, tA a, lA Tm.d l, i3 x0 x1 x2, i3 y0 y1 y2, lA Lt.d c] (.one (bA true)) := by
  refine Fn.of Try.func6 rfl Try.ntmps6 rfl (Nat.le_of_ble_eq_true rfl) ?_
  by_cases hs : wrongSig s = 0
  rotate_left
  · (refine wlk ?_)
    (refine SqA.b1 (op_call none rfl rfl rfl (by kernel_rfl) (FnD.use (rwrongSig s)) rfl rfl rfl rfl rfl rfl) rfl rfl ?_)
    (refine wlk ?_)
    (first | (refine finR (.tmp rfl .nil) rfl rfl ?_) | (refine finN (.tmp rfl .nil) rfl rfl ?_))
    rfl
  by_cases ha : wrong s a = 0
  rotate_left
  · (refine wlk ?_)
    (refine SqA.b1 (op_call none rfl rfl rfl (by kernel_rfl) (FnD.use (rwrongSig s)) rfl rfl rfl rfl rfl rfl) rfl rfl ?_)
    (refine wlk ?_)
    (refine SqA.b1 (op_call none rfl rfl rfl (by kernel_rfl) (FnD.use (rwrong s a)) rfl rfl rfl rfl rfl rfl) rfl rfl ?_)
    (refine wlk ?_)
    (first | (refine finR (.tmp rfl .nil) rfl rfl ?_) | (refine finN (.tmp rfl .nil) rfl rfl ?_))
    rfl
  by_cases hc : wrongCl s c = 0
  rotate_left
  · (refine wlk ?_)
    (refine SqA.b1 (op_call none rfl rfl rfl (by kernel_rfl) (FnD.use (rwrongSig s)) rfl rfl rfl rfl rfl rfl) rfl rfl ?_)
    (refine wlk ?_)
    (refine SqA.b1 (op_call none rfl rfl rfl (by kernel_rfl) (FnD.use (rwrong s a)) rfl rfl rfl rfl rfl rfl) rfl rfl ?_)
    (refine wlk ?_)
    (refine SqA.b1 (op_call none rfl rfl rfl (by kernel_rfl) (FnD.use (rwrongCl s c)) rfl rfl rfl rfl rfl rfl) rfl rfl ?_)
    (refine wlk ?_)
    (first | (refine finR (.tmp rfl .nil) rfl rfl ?_) | (refine finN (.tmp rfl .nil) rfl rfl ?_))
    rfl
  (refine wlk ?_)
  (refine SqA.b1 (op_call none rfl rfl rfl (by kernel_rfl) (FnD.use (rwrongSig s)) rfl rfl rfl rfl rfl rfl) rfl rfl ?_)
  (refine wlk ?_)
  (refine SqA.b1 (op_call none rfl rfl rfl (by kernel_rfl) (FnD.use (rwrong s a)) rfl rfl rfl rfl rfl rfl) rfl rfl ?_)
  (refine wlk ?_)
  (refine SqA.b1 (op_call none rfl rfl rfl (by kernel_rfl) (FnD.use (rwrongCl s c)) rfl rfl rfl rfl rfl rfl) rfl rfl ?_)
  (refine wlk ?_)
  refine dwp_loop (fun k : Nat => [(.t 0, some (.one (lA Int.d s))), (.t 2, some (.one (lA Tm.d l))), (.t 5, some (.one (lA Lt.d c))), (.t 7, some (.one (.c (.ptr 7 0)))), (.b 7, some (.box (tA a).cells)), (.t 9, some (.one (.c (.ptr 9 0)))), (.b 9, some (.box (i3 x0 x1 x2).cells)), (.t 10, some (.one (.c (.ptr 10 0)))), (.b 10, some (.box (i3 y0 y1 y2).cells)),
    (.t 44, some (.one (lA Tm.d l))), (.t 45, some (.one (iA l.length))), (.t 46, some (.one (iA k)))])
    (fun k => k ≤ l.length) (fun k => l.length - k) 0 (by omega) fgs ?_
  intro k hk
  by_cases hkl : k < l.length
  · obtain ⟨x, hx⟩ := get_of_lt hkl
    by_cases hw : wrong s x = 0
    · (refine wlk ?_)
      (refine SqA.b1 (op_call none rfl rfl rfl (by kernel_rfl) (FnD.use (rwrong s x)) rfl rfl rfl rfl rfl rfl) rfl rfl ?_)
      (refine wlk ?_)
      exact ⟨k + 1, by omega, fgs, by omega⟩
    · (refine wlk ?_)
      (refine SqA.b1 (op_call none rfl rfl rfl (by kernel_rfl) (FnD.use (rwrong s x)) rfl rfl rfl rfl rfl rfl) rfl rfl ?_)
      (refine wlk ?_)
      (first | (refine finR (.tmp rfl .nil) rfl rfl ?_) | (refine finN (.tmp rfl .nil) rfl rfl ?_))
      rfl
  have : k = l.length := by omega
  subst this
  (refine wlk ?_)
  refine dwp_loop (fun k : Nat => [(.t 2, some (.one (lA Tm.d l))), (.t 5, some (.one (lA Lt.d c))), (.t 7, some (.one (.c (.ptr 7 0)))), (.b 7, some (.box (tA a).cells)), (.t 9, some (.one (.c (.ptr 9 0)))), (.b 9, some (.box (i3 x0 x1 x2).cells)), (.t 10, some (.one (.c (.ptr 10 0)))), (.b 10, some (.box (i3 y0 y1 y2).cells)),
    (.t 55, some (.one (iA k)))])
    (fun k => k ≤ 3) (fun k => 3 - k) 0 (by omega) fgs ?_
  intro k hk
  by_cases hk3 : k < 3
  · obtain ⟨x, hx, hx', _⟩ := i3_at (x0 := x0) (x1 := x1) (x2 := x2) hk3
    obtain ⟨y, hy, hy', _⟩ := i3_at (x0 := y0) (x1 := y1) (x2 := y2) hk3
    by_cases g1 : x < -2
    · (refine wlk ?_)
      (first | (refine finR (.tmp rfl .nil) rfl rfl ?_) | (refine finN (.tmp rfl .nil) rfl rfl ?_))
      rfl
    by_cases g2 : 6 < x
    · (refine wlk ?_)
      (first | (refine finR (.tmp rfl .nil) rfl rfl ?_) | (refine finN (.tmp rfl .nil) rfl rfl ?_))
      rfl
    by_cases g3 : y < -2
    · (refine wlk ?_)
      (first | (refine finR (.tmp rfl .nil) rfl rfl ?_) | (refine finN (.tmp rfl .nil) rfl rfl ?_))
      rfl
    by_cases g4 : 6 < y
    · (refine wlk ?_)
      (first | (refine finR (.tmp rfl .nil) rfl rfl ?_) | (refine finN (.tmp rfl .nil) rfl rfl ?_))
      rfl
    (refine wlk ?_)
    exact ⟨k + 1, by omega, fgs, by omega⟩
  have : k = 3 := by omega
  subst this
  have e1 : (!(mark a [] == mark a [] && (mark a [0] == mark a [0] && mark a [1] == mark a [1]))) = false := by simp
  have e2 : ((mayU x0 y0 && (mayU x1 y1 && mayU x2 y2)) != (mayU x0 y0 && (mayU x1 y1 && mayU x2 y2))) = false := by simp
  have e3 : ((mayM x0 y0 && (mayM x1 y1 && mayM x2 y2)) != (mayM x0 y0 && (mayM x1 y1 && mayM x2 y2))) = false := by simp
  (refine wlk ?_)
  (refine SqA.b1 (op_call none rfl rfl rfl (by kernel_rfl) (FnD.use (pkey a)) rfl rfl rfl rfl rfl rfl) rfl rfl ?_)
  (refine wlk ?_)
  (refine SqA.b1 (op_call none rfl rfl rfl (by kernel_rfl) (FnD.use (rkey a)) rfl rfl rfl rfl rfl rfl) rfl rfl ?_)
  (refine wlk ?_)
  (refine SqA.b1 (op_call none rfl rfl rfl (by kernel_rfl) (FnD.use (pmayU x0 x1 x2 y0 y1 y2)) rfl rfl rfl rfl rfl rfl) rfl rfl ?_)
  (refine wlk ?_)
  (refine SqA.b1 (op_call none rfl rfl rfl (by kernel_rfl) (FnD.use (rmayU x0 x1 x2 y0 y1 y2)) rfl rfl rfl rfl rfl rfl) rfl rfl ?_)
  (refine wlk ?_)
  (refine SqA.b1 (op_call none rfl rfl rfl (by kernel_rfl) (FnD.use (pmayM x0 x1 x2 y0 y1 y2)) rfl rfl rfl rfl rfl rfl) rfl rfl ?_)
  (refine wlk ?_)
  (refine SqA.b1 (op_call none rfl rfl rfl (by kernel_rfl) (FnD.use (rmayM x0 x1 x2 y0 y1 y2)) rfl rfl rfl rfl rfl rfl) rfl rfl ?_)
  (refine wlk ?_)
  refine dwp_loop (fun k : Nat => [(.t 2, some (.one (lA Tm.d l))), (.t 5, some (.one (lA Lt.d c))), (.t 7, some (.one (.c (.ptr 7 0)))), (.b 7, some (.box (tA a).cells)), (.t 16, some (.one (.c (.own 3 1 ((finds a 0 (l.take k)).map Int.d))))),
    (.t 104, some (.one (lA Tm.d l))), (.t 105, some (.one (iA l.length))), (.t 106, some (.one (iA k)))])
    (fun k => k ≤ l.length) (fun k => l.length - k) 0 (by omega) ((Wk.nilOwn (d := 16) (E := 3) (m := 1) rfl).trans fgs) ?_
  intro k hk
  by_cases hkl : k < l.length
  · obtain ⟨x, hx⟩ := get_of_lt hkl
    have hfl := finds_len a (l.take (k + 1)) 0
    simp only [List.length_take] at hfl
    have hsn := finds_snoc a hx
    have hcm : FnD Try.prog 32 [i3 (mark x []) (mark x [0]) (mark x [1]), i3 (mark a []) (mark a [0]) (mark a [1])] (.one (bA (mayK x a))) := rmayU _ _ _ _ _ _
    cases hm : mayK x a
    · rw [hm] at hcm
      rw [hm] at hsn
      simp only [Bool.false_eq_true, if_false, List.append_nil] at hsn
      (refine wlk ?_)
      (refine SqA.b1 (op_call none rfl rfl rfl (by kernel_rfl) (FnD.use (rkey x)) rfl rfl rfl rfl rfl rfl) rfl rfl ?_)
      (refine wlk ?_)
      (refine SqA.b1 (op_call none rfl rfl rfl (by kernel_rfl) (FnD.use (rkey a)) rfl rfl rfl rfl rfl rfl) rfl rfl ?_)
      (refine wlk ?_)
      (refine SqA.b1 (op_call none rfl rfl rfl (by kernel_rfl) (FnD.use (hcm)) rfl rfl rfl rfl rfl rfl) rfl rfl ?_)
      (refine wlk ?_)
      refine ⟨k + 1, by omega, ?_, by omega⟩
      rw [hsn]
      exact fgs
    · rw [hm] at hcm
      rw [hm, if_pos rfl] at hsn
      have hsn' := hsn.symm
      (refine wlk ?_)
      (refine SqA.b1 (op_call none rfl rfl rfl (by kernel_rfl) (FnD.use (rkey x)) rfl rfl rfl rfl rfl rfl) rfl rfl ?_)
      (refine wlk ?_)
      (refine SqA.b1 (op_call none rfl rfl rfl (by kernel_rfl) (FnD.use (rkey a)) rfl rfl rfl rfl rfl rfl) rfl rfl ?_)
      (refine wlk ?_)
      (refine SqA.b1 (op_call none rfl rfl rfl (by kernel_rfl) (FnD.use (hcm)) rfl rfl rfl rfl rfl rfl) rfl rfl ?_)
      (refine wlk ?_)
      (refine SqA.b1 (op_bsT (T := TB) (f := Int.d) [(k : Int)] rfl rfl rfl rfl rfl rfl rfl rfl rfl rfl rfl) rfl rfl ?_)
      (refine wlk ?_)
      exact ⟨k + 1, by omega, fgs, by omega⟩
  have : k = l.length := by omega
  subst this
  rw [List.take_length]
  refine dwp_wk (Wk.freezeAt (d := 16) rfl) ?_
  have hsi := rsameInts (finds a 0 l) (finds a 0 l)
  rw [decide_eq_true rfl] at hsi
  obtain ⟨hc4, hcw⟩ := wrongCl_ok hc
  have hsz : ∀ q ∈ c, q.left.size ≤ 1000 ∧ q.right.size ≤ 1000 := fun q hq => by
    have h1 := (rightT hs (hcw q hq).1).1
    have h2 := (rightT hs (hcw q hq).2).1
    omega
  (refine wlk ?_)
  (refine SqA.b1 (op_call none rfl rfl rfl (by kernel_rfl) (FnD.use (pfind l a hll)) rfl rfl rfl rfl rfl rfl) rfl rfl ?_)
  (refine wlk ?_)
  (refine SqA.b1 (op_call none rfl rfl rfl (by kernel_rfl) (FnD.use (hsi)) rfl rfl rfl rfl rfl rfl) rfl rfl ?_)
  (refine wlk ?_)
  (refine SqA.b1 (op_call none rfl rfl rfl (by kernel_rfl) (FnD.use (pall c (by omega) hsz)) rfl rfl rfl rfl rfl rfl) rfl rfl ?_)
  (refine wlk ?_)
  refine dwp_loop (fun k : Nat => [(.t 19, some (.one (iA (allT (c.take k)).length))), (.t 5, some (.one (lA Lt.d c))), (.t 20, some (.one (lA Tm.d (allT c)))), (.t 129, some (.one (lA Lt.d c))), (.t 130, some (.one (iA c.length))), (.t 131, some (.one (iA k)))])
    (fun k => k ≤ c.length) (fun k => c.length - k) 0 (by omega) fgs ?_
  intro k hk
  by_cases hkl : k < c.length
  · obtain ⟨x, hx⟩ := get_of_lt hkl
    have hxs := hsz x (List.mem_of_getElem? hx)
    have hal := allT_len (c.take k) fun q hq => hsz q (List.mem_of_mem_take hq)
    simp only [List.length_take] at hal
    have hsn := allT_snoc hx
    have htl := tmsOf_len x.left
    (refine wlk ?_)
    (refine SqA.b1 (op_bsT (T := TB) (f := Tm.d) [x.left, x.right] rfl rfl rfl rfl rfl rfl rfl rfl rfl rfl rfl) rfl rfl ?_)
    (refine wlk ?_)
    refine dwp_loop (fun j : Nat => [(.t 19, some (.one (iA (allT (c.take k) ++ ([x.left, x.right].take j).flatMap tmsOf).length))), (.t 5, some (.one (lA Lt.d c))), (.t 20, some (.one (lA Tm.d (allT c)))), (.t 129, some (.one (lA Lt.d c))), (.t 130, some (.one (iA c.length))), (.t 131, some (.one (iA k))), (.t 139, some (.one (lA Tm.d [x.left, x.right]))), (.t 140, some (.one (iA (2 : Nat)))), (.t 141, some (.one (iA j)))])
      (fun j => j ≤ 2) (fun j => 2 - j) 0 (by omega) ?_ ?_
    · have e : allT (c.take k) = allT (c.take k) ++ ([x.left, x.right].take 0).flatMap tmsOf := by simp
      rw [← e]
      exact fgs
    intro j hj
    by_cases hj2 : j < 2
    · obtain ⟨y, N, hy, hys, hlen, hstep, hsplit⟩ : ∃ y N, [x.left, x.right][j]? = some y ∧ y.size ≤ 1000 ∧ (([x.left, x.right].take j).flatMap tmsOf).length ≤ 1000 ∧ ([x.left, x.right].take (j + 1)).flatMap tmsOf = ([x.left, x.right].take j).flatMap tmsOf ++ tmsOf y ∧ tmsOf x.left ++ tmsOf x.right = ([x.left, x.right].take j).flatMap tmsOf ++ (tmsOf y ++ N) := by
        rcases (show j = 0 ∨ j = 1 by omega) with rfl | rfl
        · exact ⟨x.left, tmsOf x.right, rfl, hxs.1, by simp, by simp, by simp⟩
        · exact ⟨x.right, [], rfl, hxs.2, by simp; omega, by simp, by simp⟩
      have hpl := places_len y
      have hpd := places_deep y
      generalize hM : ([x.left, x.right].take j).flatMap tmsOf = M at hlen hstep hsplit
      (refine wlk ?_)
      (refine SqA.b1 (op_call none rfl rfl rfl (by kernel_rfl) (FnD.use (rplaces y (by omega))) rfl rfl rfl rfl rfl rfl) rfl rfl ?_)
      (refine wlk ?_)
      refine dwp_loop (fun i : Nat => [(.t 19, some (.one (iA (allT (c.take k) ++ (M ++ ((places y).take i).map (fun p => (at_ y p).1))).length))), (.t 5, some (.one (lA Lt.d c))), (.t 20, some (.one (lA Tm.d (allT c)))), (.t 129, some (.one (lA Lt.d c))), (.t 130, some (.one (iA c.length))), (.t 131, some (.one (iA k))), (.t 139, some (.one (lA Tm.d [x.left, x.right]))), (.t 140, some (.one (iA (2 : Nat)))), (.t 141, some (.one (iA j))), (.t 24, some (.one (.c (.ptr 24 0)))), (.b 24, some (.box (tA y).cells)), (.t 146, some (.one (lA Is.d (places y)))), (.t 147, some (.one (iA (places y).length))), (.t 148, some (.one (iA i)))])
        (fun i => i ≤ (places y).length) (fun i => (places y).length - i) 0 (by omega) ?_ ?_
      · have e : allT (c.take k) ++ M = allT (c.take k) ++ (M ++ ((places y).take 0).map (fun p => (at_ y p).1)) := by simp
        rw [← e]
        exact fgs
      intro i hi
      by_cases hil : i < (places y).length
      · obtain ⟨p, hp⟩ := get_of_lt hil
        have hpl2 := hpd p (List.mem_of_getElem? hp)
        have hz := all_at (A := M ++ ((places y).take i).map (fun p => (at_ y p).1)) (B := ((places y).drop (i + 1)).map (fun p => (at_ y p).1) ++ N) (z := (at_ y p).1) hx (by
          rw [hsplit]
          have : tmsOf y = ((places y).take i).map (fun p => (at_ y p).1) ++ (at_ y p).1 :: ((places y).drop (i + 1)).map (fun p => (at_ y p).1) := by
            have h1 : places y = (places y).take i ++ p :: (places y).drop (i + 1) := by rw [← drop_of hp, List.take_append_drop]
            have h2 := congrArg (List.map fun p => (at_ y p).1) h1
            rw [List.map_append, List.map_cons] at h2
            exact h2
          rw [this]; simp)
        have hlt : (allT (c.take k) ++ (M ++ ((places y).take i).map (fun p => (at_ y p).1))).length < (allT c).length := (List.getElem?_eq_some_iff.1 hz).1
        have hlc := allT_len c hsz
        have hsm := rsame (at_ y p).1 (at_ y p).1
        rw [(Tm.same_iff _ _).2 rfl] at hsm
        have e : (allT (c.take k) ++ (M ++ ((places y).take (i + 1)).map (fun p => (at_ y p).1))).length = (allT (c.take k) ++ (M ++ ((places y).take i).map (fun p => (at_ y p).1))).length + 1 := by
          rw [← snoc (fun p => (at_ y p).1) hp]; simp only [List.length_append, List.length_cons, List.length_nil]; omega
        generalize hn : (allT (c.take k) ++ (M ++ ((places y).take i).map (fun p => (at_ y p).1))).length = n0 at hz hlt e
        (refine wlk ?_)
        (refine SqA.b1 (op_call none rfl rfl rfl (by kernel_rfl) (FnD.use (rat p y (by omega))) rfl rfl rfl rfl rfl rfl) rfl rfl ?_)
        (refine wlk ?_)
        (refine SqA.b1 (op_call none rfl rfl rfl (by kernel_rfl) (FnD.use (hsm)) rfl rfl rfl rfl rfl rfl) rfl rfl ?_)
        (refine wlk ?_)
        refine ⟨i + 1, by omega, ?_, by omega⟩
        rw [e]
        exact fgs
      · have : i = (places y).length := by omega
        subst this
        have e : allT (c.take k) ++ (M ++ ((places y).take (places y).length).map (fun p => (at_ y p).1)) = allT (c.take k) ++ ([x.left, x.right].take (j + 1)).flatMap tmsOf := by
          rw [hstep, List.take_length]; rfl
        rw [e]
        (refine wlk ?_)
        exact ⟨j + 1, by omega, fgs, by omega⟩
    · have : j = 2 := by omega
      subst this
      have e : allT (c.take k) ++ ([x.left, x.right].take 2).flatMap tmsOf = allT (c.take (k + 1)) := by rw [hsn]; simp
      rw [e]
      (refine wlk ?_)
      exact ⟨k + 1, by omega, fgs, by omega⟩
  · have : k = c.length := by omega
    subst this
    rw [List.take_length]
    (refine wlk ?_)
    (first | (refine finR (.tmp rfl .nil) rfl rfl ?_) | (refine finN (.tmp rfl .nil) rfl rfl ?_))
    rfl
end Go.Proofs.Ytmanhdacnkpclaa
