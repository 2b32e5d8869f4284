/- What functions do: Factor, of the document's answer. -/
import Derived.Test.Ytmanhdacnkpclaap6J6
import Derived.Test.Ytmanhdacnkpclaap6Q4
namespace Go.Proofs.Ytmanhdacnkpclaa
set_option linter.all false
open Go.RowKit

/-- one of four ways -/
def fac4 (rest : List Lt) (x y : Lt) (m : Mk) (k : Nat) : Mk := factor1 rest ((turnL (decide (2 ≤ k)) x).left, (turnL (decide (2 ≤ k)) x).right) m ((turnL (decide (k % 2 = 1)) y).left, (turnL (decide (k % 2 = 1)) y).right)
theorem fac4_all (rest : List Lt) (x y : Lt) (m : Mk) : (List.range 4).foldl (fac4 rest x y) m = (waysL x).foldl (factor2 rest y) m := rfl
theorem turn_way (l : Lt) (b : Bool) : ((turnL b l).left, (turnL b l).right) ∈ waysL l := by cases b <;> simp [turnL, waysL]
set_option maxHeartbeats 16000000 in
set_option maxRecDepth 100000 in
theorem rfactor {S : List Int} {c : List Lt} (h : CG S c) : FnD Try.prog 75 [lA Lt.d c] (.tup [lA Cl.d (factor c).1, bA (factor c).2]) := by
  have hl4 := h.len
  refine Fn.of Try.func75 rfl Try.ntmps75 rfl (Nat.le_of_ble_eq_true rfl) ?_
  (refine wlk ?_)
  refine dwp_loop (fun x : Nat × Mk => [(.t 0, some (.one (lA Lt.d c))), (.t 4, some (.one (.c (.ptr 13 0)))), (.b 13, some (.box (mkBox x.2))), (.t 15, some (.one (iA c.length))), (.t 16, some (.one (iA x.1)))])
    (fun x => x.1 ≤ c.length ∧ x.2 = (List.range x.1).foldl (factor4 c) ([], false) ∧ x.2.1.length ≤ 100 * x.1) (fun x => c.length - x.1) (0, [], false) ⟨by simp, rfl, by simp⟩ ((Wk.nilOwnB (j := 13) (q := 0) (E := 48) (m := 1) rfl rfl rfl).trans fgs) ?_
  rintro ⟨i, m1⟩ ⟨hk, hm, hb1⟩
  dsimp only at hk hm hb1 ⊢
  by_cases hkl : i < c.length
  rotate_left
  · have hkc : i = c.length := by omega
    subst hkc
    refine dwp_wk (Wk.freezeB (j := 13) (q := 0) rfl rfl rfl) ?_
    (refine wlk ?_)
    (first | (refine finR (.tmp rfl (.tmp rfl .nil)) rfl rfl ?_) | (refine finN (.tmp rfl (.tmp rfl .nil)) rfl rfl ?_))
    rw [hm]
    rfl
  obtain ⟨⟨xn, xl, xr⟩, hx⟩ := get_of_lt hkl
  have hnext := range_fold (factor4 c) ([], false) i
  rw [← hm] at hnext
  have hf4 : factor4 c m1 i = ((List.range c.length).drop (i + 1)).foldl (factor3 c i ⟨xn, xl, xr⟩) m1 := by unfold factor4; rw [hx]
  rw [hf4] at hnext
  have hel : (c.eraseIdx i).length ≤ 4 := (h.erase i).len
  (refine wlk ?_)
  refine dwp_loop (fun x : Nat × Mk => [(.t 0, some (.one (lA Lt.d c))), (.t 4, some (.one (.c (.ptr 13 0)))), (.b 13, some (.box (mkBox x.2))), (.t 5, some (.one (iA i))), (.t 15, some (.one (iA c.length))), (.t 16, some (.one (iA i))), (.t 20, some (.one (iA c.length))), (.t 21, some (.one (iA x.1)))])
    (fun y => y.1 ≤ c.length ∧ y.2 = (((List.range c.length).drop (i + 1)).take (y.1 - (i + 1))).foldl (factor3 c i ⟨xn, xl, xr⟩) m1 ∧ y.2.1.length ≤ 100 * i + 10 * y.1) (fun y => c.length - y.1) (0, m1) ⟨by simp only; omega, by simp, by simp only; omega⟩ fgs ?_
  rintro ⟨j, m2⟩ ⟨hd, hm2, hb2⟩
  dsimp only at hd hm2 hb2 ⊢
  by_cases hdl : j < c.length
  rotate_left
  · rw [fold_all _ _ (by rw [List.length_drop, List.length_range]; omega)] at hm2
    rw [← hm2] at hnext
    (refine wlk ?_)
    exact ⟨(i + 1, m2), ⟨by simp only; omega, hnext.symm, by simp only; omega⟩, fgs, by simp only; omega⟩
  obtain ⟨⟨yn, yl, yr⟩, hy⟩ := get_of_lt hdl
  by_cases hji : j ≤ i
  · have e0 : j - (i + 1) = 0 := by omega
    have e1 : (j + 1) - (i + 1) = 0 := by omega
    rw [e0] at hm2
    (refine wlk ?_)
    exact ⟨(j + 1, m2), ⟨by simp only; omega, by simp only; rw [e1]; exact hm2, by simp only; omega⟩, fgs, by simp only; omega⟩
  have e1 : (j + 1) - (i + 1) = (j - (i + 1)) + 1 := by omega
  have ej : i + 1 + (j - (i + 1)) = j := by omega
  have hnext2 := fold_take (factor3 c i ⟨xn, xl, xr⟩) m1 (range_drop (n := c.length) (i := i + 1) (d := j - (i + 1)) (by omega))
  rw [← hm2, ej, ← e1] at hnext2
  cases xn
  rotate_left
  · have hf3 : factor3 c i ⟨true, xl, xr⟩ m2 j = m2 := by unfold factor3; rw [hy]; simp
    rw [hf3] at hnext2
    (refine wlk ?_)
    exact ⟨(j + 1, m2), ⟨by simp only; omega, hnext2.symm, by simp only; omega⟩, fgs, by simp only; omega⟩
  cases yn
  rotate_left
  · have hf3 : factor3 c i ⟨false, xl, xr⟩ m2 j = m2 := by unfold factor3; rw [hy]; simp
    rw [hf3] at hnext2
    (refine wlk ?_)
    (refine SqA.b1 (op_idxT (T := TB) rfl rfl rfl rfl rfl (hx) (by first | rfl | omega)) rfl rfl ?_)
    (refine wlk ?_)
    exact ⟨(j + 1, m2), ⟨by simp only; omega, hnext2.symm, by simp only; omega⟩, fgs, by simp only; omega⟩
  have hf3 : factor3 c i ⟨false, xl, xr⟩ m2 j = (List.range 4).foldl (fac4 (c.eraseIdx i) ⟨false, xl, xr⟩ ⟨false, yl, yr⟩) m2 := by unfold factor3; rw [hy]; simp [fac4_all]
  rw [hf3] at hnext2
  (refine wlk ?_)
  (refine SqA.b1 (op_idxT (T := TB) rfl rfl rfl rfl rfl (hx) (by first | rfl | omega)) rfl rfl ?_)
  (refine wlk ?_)
  refine dwp_loop (fun z : Nat × Mk => [(.t 0, some (.one (lA Lt.d c))), (.t 4, some (.one (.c (.ptr 13 0)))), (.b 13, some (.box (mkBox z.2))), (.t 5, some (.one (iA i))), (.t 6, some (.one (iA j))), (.t 15, some (.one (iA c.length))), (.t 16, some (.one (iA i))), (.t 20, some (.one (iA c.length))), (.t 21, some (.one (iA j))), (.t 41, some (.one (iA z.1)))])
    (fun z => z.1 ≤ 4 ∧ z.2 = (List.range z.1).foldl (fac4 (c.eraseIdx i) ⟨false, xl, xr⟩ ⟨false, yl, yr⟩) m2 ∧ z.2.1.length ≤ 100 * i + 10 * j + z.1) (fun z => 4 - z.1) (0, m2) ⟨by simp only; omega, rfl, by simp only; omega⟩ fgs ?_
  rintro ⟨k, m3⟩ ⟨hp, hm3, hb3⟩
  dsimp only at hp hm3 hb3 ⊢
  by_cases hpl : k < 4
  rotate_left
  · have hk4 : k = 4 := by omega
    subst hk4
    rw [← hm3] at hnext2
    (refine wlk ?_)
    exact ⟨(j + 1, m3), ⟨by simp only; omega, hnext2.symm, by simp only; omega⟩, fgs, by simp only; omega⟩
  have hnext3 := range_fold (fac4 (c.eraseIdx i) ⟨false, xl, xr⟩ ⟨false, yl, yr⟩) m2 k
  rw [← hm3] at hnext3
  have c1 : cmpB .geq (k : Int) 2 = decide (2 ≤ k) := by by_cases h2 : 2 ≤ k <;> simp [cmpB, h2] <;> omega
  have c2 : cmpB .eql ((k : Int) % 2) 1 = decide (k % 2 = 1) := by by_cases h2 : k % 2 = 1 <;> simp [cmpB, h2] <;> omega
  have hwx := turn_way (⟨false, xl, xr⟩ : Lt) (cmpB .geq (k : Int) 2)
  have hwy := turn_way (⟨false, yl, yr⟩ : Lt) (cmpB .eql ((k : Int) % 2) 1)
  have hfk : fac4 (c.eraseIdx i) ⟨false, xl, xr⟩ ⟨false, yl, yr⟩ m3 k = factor1 (c.eraseIdx i) ((turnL (cmpB .geq (k : Int) 2) ⟨false, xl, xr⟩).left, (turnL (cmpB .geq (k : Int) 2) ⟨false, xl, xr⟩).right) m3 ((turnL (cmpB .eql ((k : Int) % 2) 1) ⟨false, yl, yr⟩).left, (turnL (cmpB .eql ((k : Int) % 2) 1) ⟨false, yl, yr⟩).right) := by
    rw [c1, c2]; rfl
  rw [hfk] at hnext3
  have t1 := rturn ⟨false, xl, xr⟩ (cmpB .geq (k : Int) 2)
  have t2 := rturn ⟨false, yl, yr⟩ (cmpB .eql ((k : Int) % 2) 1)
  clear hfk c1 c2
  have oa := h.way hx hwx
  have ob := h.way hy hwy
  have hu := runify oa.1.1 ob.1.1
  dsimp only at hu
  have hlen4 := factor1_len (c.eraseIdx i) ((turnL (cmpB .geq (k : Int) 2) ⟨false, xl, xr⟩).left, (turnL (cmpB .geq (k : Int) 2) ⟨false, xl, xr⟩).right) m3 ((turnL (cmpB .eql ((k : Int) % 2) 1) ⟨false, yl, yr⟩).left, (turnL (cmpB .eql ((k : Int) % 2) 1) ⟨false, yl, yr⟩).right)
  (refine wlk ?_)
  (refine SqA.b1 (op_idxT (T := TB) rfl rfl rfl rfl rfl (hx) (by first | rfl | omega)) rfl rfl ?_)
  (refine wlk ?_)
  (refine SqA.b1 (op_call none rfl rfl rfl (by kernel_rfl) (FnD.use (t1)) rfl rfl rfl rfl rfl rfl) rfl rfl ?_)
  (refine wlk ?_)
  (refine SqA.b1 (op_call none rfl rfl rfl (by kernel_rfl) (FnD.use (t2)) rfl rfl rfl rfl rfl rfl) rfl rfl ?_)
  (refine wlk ?_)
  generalize turnL (cmpB .geq (k : Int) 2) ⟨false, xl, xr⟩ = u at *
  generalize turnL (cmpB .eql ((k : Int) % 2) 1) ⟨false, yl, yr⟩ = v at *
  cases hs : unify u.left v.left with
  | none =>
    rw [hs] at hu
    have hf1 : factor1 (c.eraseIdx i) (u.left, u.right) m3 (v.left, v.right) = m3 := by unfold factor1; simp [hs]
    rw [hf1] at hnext3
    (refine SqA.b1 (op_call none rfl rfl rfl (by kernel_rfl) (FnD.use (hu)) rfl rfl rfl rfl rfl rfl) rfl rfl ?_)
    (refine wlk ?_)
    exact ⟨(k + 1, m3), ⟨by simp only; omega, hnext3.symm, by simp only; omega⟩, fgs, by simp only; omega⟩
  | some s =>
    rw [hs] at hu
    have hf1 : factor1 (c.eraseIdx i) (u.left, u.right) m3 (v.left, v.right) = addR m3 s (c.eraseIdx i ++ [⟨true, u.right, v.right⟩]) := by unfold factor1; simp [hs]
    rw [hf1] at hnext3 hlen4
    have hok := h.factor hx hy hwx hwy hs
    dsimp only at hok
    (refine SqA.b1 (op_call none rfl rfl rfl (by kernel_rfl) (FnD.use (hu)) rfl rfl rfl rfl rfl rfl) rfl rfl ?_)
    (refine wlk ?_)
    (refine SqA.b1 (op_call none rfl rfl rfl (by kernel_rfl) (FnD.use (rbutO c i hkl (by omega))) rfl rfl rfl rfl rfl rfl) rfl rfl ?_)
    (refine wlk ?_)
    (refine SqA.b1 (op_bsT (T := TB) (f := Lt.d) [(⟨true, u.right, v.right⟩ : Lt)] rfl rfl rfl rfl rfl rfl rfl rfl rfl rfl rfl) rfl rfl ?_)
    (refine wlk ?_)
    (refine SqA.b3 (Op1.frzIn (t := 79) rfl (op_call (some (13)) rfl rfl rfl (by kernel_rfl) (FnB.use (ladd m3 s (c.eraseIdx i ++ [⟨true, u.right, v.right⟩]) (by have := hok.slen; omega) hok.sz hok.len hok.okv hok.few hok.sz2 (by omega))) rfl rfl rfl rfl rfl rfl)) rfl rfl ?_)
    (refine wlk ?_)
    exact ⟨(k + 1, addR m3 s (c.eraseIdx i ++ [⟨true, u.right, v.right⟩])), ⟨by simp only; omega, hnext3.symm, by simp only; omega⟩, fgs, by simp only; omega⟩
end Go.Proofs.Ytmanhdacnkpclaa
