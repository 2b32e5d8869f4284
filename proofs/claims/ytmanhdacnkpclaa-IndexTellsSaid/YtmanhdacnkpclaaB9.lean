/- What functions do: all terms of a clause. -/
import Derived.Test.YtmanhdacnkpclaaB7
import Derived.Test.YtmanhdacnkpclaaB8
namespace Go.Proofs.Ytmanhdacnkpclaa
set_option linter.unusedVariables false
set_option linter.unusedSimpArgs false
open Go.RowKit

def tmsOf (t : Tm) : List Tm := (places t).map (fun p => (at_ t p).1)
def allT (c : List Lt) : List Tm := c.flatMap (fun q => tmsOf q.left ++ tmsOf q.right)
theorem allT_snoc {c : List Lt} {k : Nat} {x : Lt} (h : c[k]? = some x) : allT (c.take (k + 1)) = allT (c.take k) ++ (tmsOf x.left ++ tmsOf x.right) := by
  rw [List.take_add_one, h]; simp [allT]
theorem tmsOf_len (t : Tm) : (tmsOf t).length ≤ t.size := by
  have := places_len t
  simpa [tmsOf] using this
theorem allT_len : ∀ (c : List Lt), (∀ q ∈ c, q.left.size ≤ 1000 ∧ q.right.size ≤ 1000) → (allT c).length ≤ 2000 * c.length
  | [], _ => by simp [allT]
  | q :: c, h => by
    have h1 := allT_len c fun q hq => h q (by simp [hq])
    have h2 := h q (by simp)
    have h3 := tmsOf_len q.left
    have h4 := tmsOf_len q.right
    simp only [allT, List.flatMap_cons, List.length_append, List.length_cons] at h1 ⊢
    omega

set_option maxHeartbeats 4000000 in
set_option maxRecDepth 100000 in
theorem pall (c : List Lt) (hc4 : c.length ≤ 1000) (hsz : ∀ q ∈ c, q.left.size ≤ 1000 ∧ q.right.size ≤ 1000) : FnD Try.prog 37 [lA Lt.d c] (.one (lA Tm.d (allT c))) := by
  refine Fn.of Try.func37 rfl Try.ntmps37 rfl (Nat.le_of_ble_eq_true rfl) ?_
  (refine wlk ?_)
  refine dwp_loop (fun k : Nat => [(.t 3, some (.one (.c (.own 26 3 ((allT (c.take k)).map Tm.d))))), (.t 12, some (.one (lA Lt.d c))), (.t 13, some (.one (iA c.length))), (.t 14, some (.one (iA k)))])
    (fun k => k ≤ c.length) (fun k => c.length - k) 0 (by omega) ((Wk.nilOwn (d := 3) (E := 26) (m := 3) rfl).trans fgs) ?_
  intro k hk
  by_cases hkl : k < c.length
  · obtain ⟨x, hx⟩ := get_of_lt hkl
    have hxs := hsz x (List.mem_of_getElem? hx)
    have hal := allT_len (c.take k) fun q hq => hsz q (List.mem_of_mem_take hq)
    simp only [List.length_take] at hal
    have hsn := allT_snoc hx
    have htl := tmsOf_len x.left
    (refine wlk ?_)
    (refine SqA.b1 (op_bsT (T := TB) (f := Tm.d) [x.left, x.right] rfl rfl rfl rfl rfl rfl rfl rfl rfl rfl rfl) rfl rfl ?_)
    (refine wlk ?_)
    refine dwp_loop (fun j : Nat => [(.t 3, some (.one (.c (.own 26 3 ((allT (c.take k) ++ ([x.left, x.right].take j).flatMap tmsOf).map Tm.d))))), (.t 12, some (.one (lA Lt.d c))), (.t 13, some (.one (iA c.length))), (.t 14, some (.one (iA k))),
      (.t 22, some (.one (lA Tm.d [x.left, x.right]))), (.t 23, some (.one (iA (2 : Nat)))), (.t 24, some (.one (iA j)))])
      (fun j => j ≤ 2) (fun j => 2 - j) 0 (by omega) ?_ ?_
    · have e : allT (c.take k) = allT (c.take k) ++ ([x.left, x.right].take 0).flatMap tmsOf := by simp
      rw [← e]
      exact fgs
    intro j hj
    by_cases hj2 : j < 2
    · obtain ⟨y, hy, hys, hlen, hstep⟩ : ∃ y, [x.left, x.right][j]? = some y ∧ y.size ≤ 1000 ∧ (([x.left, x.right].take j).flatMap tmsOf).length ≤ 1000 ∧ ([x.left, x.right].take (j + 1)).flatMap tmsOf = ([x.left, x.right].take j).flatMap tmsOf ++ tmsOf y := by
        rcases (show j = 0 ∨ j = 1 by omega) with rfl | rfl
        · exact ⟨x.left, rfl, hxs.1, by simp, by simp⟩
        · exact ⟨x.right, rfl, hxs.2, by simp; omega, by simp⟩
      have hpl := places_len y
      have hpd := places_deep y
      generalize hM : ([x.left, x.right].take j).flatMap tmsOf = M at hlen hstep
      (refine wlk ?_)
      (refine SqA.b1 (op_call none rfl rfl rfl (by kernel_rfl) (FnD.use (pplaces y (by omega))) rfl rfl rfl rfl rfl rfl) rfl rfl ?_)
      (refine wlk ?_)
      refine dwp_loop (fun i : Nat => [(.t 3, some (.one (.c (.own 26 3 ((allT (c.take k) ++ M ++ ((places y).take i).map (fun p => (at_ y p).1)).map Tm.d))))), (.t 12, some (.one (lA Lt.d c))), (.t 13, some (.one (iA c.length))), (.t 14, some (.one (iA k))),
        (.t 22, some (.one (lA Tm.d [x.left, x.right]))), (.t 23, some (.one (iA (2 : Nat)))), (.t 24, some (.one (iA j))), (.t 7, some (.one (.c (.ptr 7 0)))), (.b 7, some (.box (tA y).cells)), (.t 29, some (.one (lA Is.d (places y)))), (.t 30, some (.one (iA (places y).length))), (.t 31, some (.one (iA i)))])
        (fun i => i ≤ (places y).length) (fun i => (places y).length - i) 0 (by omega) ?_ ?_
      · have e : allT (c.take k) ++ M = allT (c.take k) ++ M ++ ((places y).take 0).map (fun p => (at_ y p).1) := by simp
        rw [← e]
        exact fgs
      intro i hi
      by_cases hil : i < (places y).length
      · obtain ⟨p, hp⟩ := get_of_lt hil
        have hs2 : (allT (c.take k) ++ M ++ ((places y).take i).map (fun p => (at_ y p).1)) ++ [(at_ y p).1] = allT (c.take k) ++ M ++ ((places y).take (i + 1)).map (fun p => (at_ y p).1) := by
          rw [← snoc (fun p => (at_ y p).1) hp]; simp
        (refine wlk ?_)
        (refine SqA.b1 (op_call none rfl rfl rfl (by kernel_rfl) (FnD.use (pat p y)) rfl rfl rfl rfl rfl rfl) rfl rfl ?_)
        (refine wlk ?_)
        (refine SqA.b1 (op_bsT (T := TB) (f := Tm.d) [(at_ y p).1] rfl rfl rfl rfl rfl rfl rfl rfl rfl rfl rfl) rfl rfl ?_)
        (refine wlk ?_)
        exact ⟨i + 1, by omega, fgs, by omega⟩
      · have : i = (places y).length := by omega
        subst this
        have e : allT (c.take k) ++ M ++ ((places y).take (places y).length).map (fun p => (at_ y p).1) = allT (c.take k) ++ ([x.left, x.right].take (j + 1)).flatMap tmsOf := by
          rw [hstep, List.take_length, List.append_assoc]; rfl
        rw [e]
        (refine wlk ?_)
        exact ⟨j + 1, by omega, fgs, by omega⟩
    · have : j = 2 := by omega
      subst this
      have e : allT (c.take k) ++ ([x.left, x.right].take 2).flatMap tmsOf = allT (c.take (k + 1)) := by rw [hsn]; simp
      rw [e]
      (refine wlk ?_)
      exact ⟨k + 1, by omega, fgs, by omega⟩
  · have : k = c.length := by omega
    subst this
    rw [List.take_length]
    refine dwp_wk (Wk.freezeAt (d := 3) rfl) ?_
    (refine wlk ?_)
    (first | (refine finR (.tmp rfl .nil) rfl rfl ?_) | (refine finN (.tmp rfl .nil) rfl rfl ?_))
    exact Xl (f := Tm.d) (b := allT c) rfl
end Go.Proofs.Ytmanhdacnkpclaa
