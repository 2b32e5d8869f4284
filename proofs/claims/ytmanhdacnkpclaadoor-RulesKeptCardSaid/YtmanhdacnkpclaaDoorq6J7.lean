/- What functions do: Factor, of the program. -/
import Derived.Test.YtmanhdacnkpclaaDoorq6J6
namespace Go.Proofs.YtmanhdacnkpclaaDoor
set_option linter.all false
open Go.RowKit

theorem ways_len (l : Lt) : (waysL l).length = 2 := rfl
set_option maxHeartbeats 16000000 in
set_option maxRecDepth 100000 in
theorem pfactor {S : List Int} {c : List Lt} (h : CG S c) : FnD Tryd.prog 59 [lA Lt.d c] (.tup [lA Cl.d (factor c).1, bA (factor c).2]) := by
  have hl4 := h.len
  refine Fn.of Tryd.func59 rfl Tryd.ntmps59 rfl (Nat.le_of_ble_eq_true rfl) ?_
  (refine wlk ?_)
  refine dwp_loop (fun x : Nat × Mk => [(.t 0, some (.one (lA Lt.d c))), (.t 4, some (.one (.c (.ptr 14 0)))), (.b 14, some (.box (mkBox x.2))), (.t 16, some (.one (iA c.length))), (.t 17, some (.one (iA x.1)))])
    (fun x => x.1 ≤ c.length ∧ x.2 = (List.range x.1).foldl (factor4 c) ([], false) ∧ x.2.1.length ≤ 100 * x.1) (fun x => c.length - x.1) (0, [], false) ⟨by simp, rfl, by simp⟩ ((Wk.nilOwnB (j := 14) (q := 0) (E := 59) (m := 1) rfl rfl rfl).trans fgs) ?_
  rintro ⟨i, m1⟩ ⟨hk, hm, hb1⟩
  dsimp only at hk hm hb1 ⊢
  by_cases hkl : i < c.length
  rotate_left
  · have hkc : i = c.length := by omega
    subst hkc
    refine dwp_wk (Wk.freezeB (j := 14) (q := 0) rfl rfl rfl) ?_
    (refine wlk ?_)
    (first | (refine finR (.tmp rfl (.tmp rfl .nil)) rfl rfl ?_) | (refine finN (.tmp rfl (.tmp rfl .nil)) rfl rfl ?_))
    rw [hm]
    rfl
  obtain ⟨⟨xn, xl, xr⟩, hx⟩ := get_of_lt hkl
  have hnext := range_fold (factor4 c) ([], false) i
  rw [← hm] at hnext
  have hf4 : factor4 c m1 i = ((List.range c.length).drop (i + 1)).foldl (factor3 c i ⟨xn, xl, xr⟩) m1 := by unfold factor4; rw [hx]
  rw [hf4] at hnext
  have hel : (c.eraseIdx i).length ≤ 4 := (h.erase i).len
  (refine wlk ?_)
  refine dwp_loop (fun x : Nat × Mk => [(.t 0, some (.one (lA Lt.d c))), (.t 4, some (.one (.c (.ptr 14 0)))), (.b 14, some (.box (mkBox x.2))), (.t 5, some (.one (iA i))), (.t 6, some (.one (iA (i + 1 + x.1 : Nat)))), (.t 16, some (.one (iA c.length))), (.t 17, some (.one (iA i)))])
    (fun y => i + 1 + y.1 ≤ c.length ∧ y.2 = (((List.range c.length).drop (i + 1)).take y.1).foldl (factor3 c i ⟨xn, xl, xr⟩) m1 ∧ y.2.1.length ≤ 100 * i + 10 * y.1) (fun y => c.length - (i + 1 + y.1)) (0, m1) ⟨by simp only; omega, rfl, by simp only; omega⟩ fgs ?_
  rintro ⟨d, m2⟩ ⟨hd, hm2, hb2⟩
  dsimp only at hd hm2 hb2 ⊢
  by_cases hdl : i + 1 + d < c.length
  rotate_left
  · rw [fold_all _ _ (by rw [List.length_drop, List.length_range]; omega)] at hm2
    rw [← hm2] at hnext
    (refine wlk ?_)
    exact ⟨(i + 1, m2), ⟨by simp only; omega, hnext.symm, by simp only; omega⟩, fgs, by simp only; omega⟩
  obtain ⟨⟨yn, yl, yr⟩, hy⟩ := get_of_lt hdl
  have hnext2 := fold_take (factor3 c i ⟨xn, xl, xr⟩) m1 (range_drop hdl)
  rw [← hm2] at hnext2
  cases xn
  rotate_left
  · have hf3 : factor3 c i ⟨true, xl, xr⟩ m2 (i + 1 + d) = m2 := by unfold factor3; rw [hy]; simp
    rw [hf3] at hnext2
    (refine wlk ?_)
    exact ⟨(d + 1, m2), ⟨by simp only; omega, hnext2.symm, by simp only; omega⟩, fgs, by simp only; omega⟩
  cases yn
  rotate_left
  · have hf3 : factor3 c i ⟨false, xl, xr⟩ m2 (i + 1 + d) = m2 := by unfold factor3; rw [hy]; simp
    rw [hf3] at hnext2
    (refine wlk ?_)
    (refine SqA.b1 (op_idxT (T := TB) rfl rfl rfl rfl rfl (hx) (by first | rfl | omega)) rfl rfl ?_)
    (refine wlk ?_)
    exact ⟨(d + 1, m2), ⟨by simp only; omega, hnext2.symm, by simp only; omega⟩, fgs, by simp only; omega⟩
  have hf3 : factor3 c i ⟨false, xl, xr⟩ m2 (i + 1 + d) = (waysL ⟨false, xl, xr⟩).foldl (factor2 (c.eraseIdx i) ⟨false, yl, yr⟩) m2 := by unfold factor3; rw [hy]; simp
  rw [hf3] at hnext2
  have hwl := ways_len ⟨false, xl, xr⟩
  have hwy := ways_len ⟨false, yl, yr⟩
  (refine wlk ?_)
  (refine SqA.b1 (op_idxT (T := TB) rfl rfl rfl rfl rfl (hx) (by first | rfl | omega)) rfl rfl ?_)
  (refine wlk ?_)
  (refine SqA.b1 (op_idxT (T := TB) rfl rfl rfl rfl rfl (hx) (by first | rfl | omega)) rfl rfl ?_)
  (refine wlk ?_)
  (refine SqA.b1 (op_call none rfl rfl rfl (by kernel_rfl) (FnD.use (pways ⟨false, xl, xr⟩)) rfl rfl rfl rfl rfl rfl) rfl rfl ?_)
  (refine wlk ?_)
  refine dwp_loop (fun z : Nat × Mk => [(.t 0, some (.one (lA Lt.d c))), (.t 4, some (.one (.c (.ptr 14 0)))), (.b 14, some (.box (mkBox z.2))), (.t 5, some (.one (iA i))), (.t 6, some (.one (iA (i + 1 + d : Nat)))), (.t 16, some (.one (iA c.length))), (.t 17, some (.one (iA i))),
      (.t 44, some (.one (lA Tw.d (waysL ⟨false, xl, xr⟩)))), (.t 45, some (.one (iA (waysL ⟨false, xl, xr⟩).length))), (.t 46, some (.one (iA z.1)))])
    (fun z => z.1 ≤ 2 ∧ z.2 = ((waysL ⟨false, xl, xr⟩).take z.1).foldl (factor2 (c.eraseIdx i) ⟨false, yl, yr⟩) m2 ∧ z.2.1.length ≤ 100 * i + 10 * d + 2 * z.1) (fun z => 2 - z.1) (0, m2) ⟨by simp only; omega, rfl, by simp only; omega⟩ fgs ?_
  rintro ⟨p, m3⟩ ⟨hp, hm3, hb3⟩
  dsimp only at hp hm3 hb3 ⊢
  by_cases hpl : p < 2
  rotate_left
  · rw [fold_all _ _ (by omega)] at hm3
    rw [← hm3] at hnext2
    (refine wlk ?_)
    exact ⟨(d + 1, m3), ⟨by simp only; omega, hnext2.symm, by simp only; omega⟩, fgs, by simp only; omega⟩
  obtain ⟨⟨a1, a2⟩, ha⟩ := get_of_lt (s := waysL ⟨false, xl, xr⟩) (k := p) (by omega)
  have hnext3 := fold_take (factor2 (c.eraseIdx i) ⟨false, yl, yr⟩) m2 ha
  rw [← hm3] at hnext3
  have hf2 : factor2 (c.eraseIdx i) ⟨false, yl, yr⟩ m3 (a1, a2) = (waysL ⟨false, yl, yr⟩).foldl (factor1 (c.eraseIdx i) (a1, a2)) m3 := rfl
  rw [hf2] at hnext3
  (refine wlk ?_)
  (refine SqA.b1 (op_call none rfl rfl rfl (by kernel_rfl) (FnD.use (pways ⟨false, yl, yr⟩)) rfl rfl rfl rfl rfl rfl) rfl rfl ?_)
  (refine wlk ?_)
  refine dwp_loop (fun z : Nat × Mk => [(.t 0, some (.one (lA Lt.d c))), (.t 4, some (.one (.c (.ptr 14 0)))), (.b 14, some (.box (mkBox z.2))), (.t 5, some (.one (iA i))), (.t 6, some (.one (iA (i + 1 + d : Nat)))), (.t 16, some (.one (iA c.length))), (.t 17, some (.one (iA i))),
      (.t 44, some (.one (lA Tw.d (waysL ⟨false, xl, xr⟩)))), (.t 45, some (.one (iA (waysL ⟨false, xl, xr⟩).length))), (.t 46, some (.one (iA p))), (.t 8, some (.one (.c (.ptr 8 0)))), (.b 8, some (.box ((tA a1).cells ++ (tA a2).cells))), (.t 54, some (.one (lA Tw.d (waysL ⟨false, yl, yr⟩)))), (.t 55, some (.one (iA (waysL ⟨false, yl, yr⟩).length))), (.t 56, some (.one (iA z.1)))])
    (fun z => z.1 ≤ 2 ∧ z.2 = ((waysL ⟨false, yl, yr⟩).take z.1).foldl (factor1 (c.eraseIdx i) (a1, a2)) m3 ∧ z.2.1.length ≤ 100 * i + 10 * d + 2 * p + z.1) (fun z => 2 - z.1) (0, m3) ⟨by simp only; omega, rfl, by simp only; omega⟩ fgs ?_
  rintro ⟨q, m4⟩ ⟨hq, hm4, hb4⟩
  dsimp only at hq hm4 hb4 ⊢
  by_cases hql : q < 2
  rotate_left
  · rw [fold_all _ _ (by omega)] at hm4
    rw [← hm4] at hnext3
    (refine wlk ?_)
    exact ⟨(p + 1, m4), ⟨by simp only; omega, hnext3.symm, by simp only; omega⟩, fgs, by simp only; omega⟩
  obtain ⟨⟨b1, b2⟩, hb⟩ := get_of_lt (s := waysL ⟨false, yl, yr⟩) (k := q) (by omega)
  have hnext4 := fold_take (factor1 (c.eraseIdx i) (a1, a2)) m3 hb
  rw [← hm4] at hnext4
  have oa := h.way hx (List.mem_of_getElem? ha)
  have ob := h.way hy (List.mem_of_getElem? hb)
  have hu := bunify oa.1.1 ob.1.1
  dsimp only at hu
  have hlen4 := factor1_len (c.eraseIdx i) (a1, a2) m4 (b1, b2)
  cases hs : unify a1 b1 with
  | none =>
    rw [hs] at hu
    have hf1 : factor1 (c.eraseIdx i) (a1, a2) m4 (b1, b2) = m4 := by unfold factor1; simp [hs]
    rw [hf1] at hnext4
    (refine wlk ?_)
    (refine SqA.b1 (op_idx2B (k := 0) rfl rfl rfl rfl rfl (by decide)) rfl rfl ?_)
    (refine wlk ?_)
    (refine SqA.b1 (op_idx2B (k := 0) rfl rfl rfl rfl rfl (by decide)) rfl rfl ?_)
    (refine wlk ?_)
    (refine SqA.b1 (op_call none rfl rfl rfl (by kernel_rfl) (FnD.use (hu)) rfl rfl rfl rfl rfl rfl) rfl rfl ?_)
    (refine wlk ?_)
    exact ⟨(q + 1, m4), ⟨by simp only; omega, hnext4.symm, by simp only; omega⟩, fgs, by simp only; omega⟩
  | some s =>
    rw [hs] at hu
    have hf1 : factor1 (c.eraseIdx i) (a1, a2) m4 (b1, b2) = addR m4 s (c.eraseIdx i ++ [⟨true, a2, b2⟩]) := by unfold factor1; simp [hs]
    rw [hf1] at hnext4 hlen4
    have hok := h.factor hx hy (List.mem_of_getElem? ha) (List.mem_of_getElem? hb) hs
    dsimp only at hok
    (refine wlk ?_)
    (refine SqA.b1 (op_idx2B (k := 0) rfl rfl rfl rfl rfl (by decide)) rfl rfl ?_)
    (refine wlk ?_)
    (refine SqA.b1 (op_idx2B (k := 0) rfl rfl rfl rfl rfl (by decide)) rfl rfl ?_)
    (refine wlk ?_)
    (refine SqA.b1 (op_call none rfl rfl rfl (by kernel_rfl) (FnD.use (hu)) rfl rfl rfl rfl rfl rfl) rfl rfl ?_)
    (refine wlk ?_)
    (refine SqA.b1 (op_call none rfl rfl rfl (by kernel_rfl) (FnD.use (pwithout c i hkl (by omega))) rfl rfl rfl rfl rfl rfl) rfl rfl ?_)
    (refine wlk ?_)
    (refine SqA.b1 (op_idx2B (k := 1) rfl rfl rfl rfl rfl (by decide)) rfl rfl ?_)
    (refine wlk ?_)
    (refine SqA.b1 (op_idx2B (k := 1) rfl rfl rfl rfl rfl (by decide)) rfl rfl ?_)
    (refine wlk ?_)
    (refine SqA.b1 (op_bsT (T := TB) (f := Lt.d) [(⟨true, a2, b2⟩ : Lt)] rfl rfl rfl rfl rfl rfl rfl rfl rfl rfl rfl) rfl rfl ?_)
    (refine wlk ?_)
    (refine SqA.b3 (Op1.frzIn (t := 80) rfl (op_call (some (14)) rfl rfl rfl (by kernel_rfl) (FnB.use (padd m4 s (c.eraseIdx i ++ [⟨true, a2, b2⟩]) hok.sz hok.len hok.okv hok.few hok.sz2 (by omega))) rfl rfl rfl rfl rfl rfl)) rfl rfl ?_)
    (refine wlk ?_)
    exact ⟨(q + 1, addR m4 s (c.eraseIdx i ++ [⟨true, a2, b2⟩])), ⟨by simp only; omega, hnext4.symm, by simp only; omega⟩, fgs, by simp only; omega⟩
end Go.Proofs.YtmanhdacnkpclaaDoor
