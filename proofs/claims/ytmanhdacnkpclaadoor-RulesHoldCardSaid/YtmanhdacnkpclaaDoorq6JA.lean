/- What functions do: Sup, of the program. -/
import Derived.Test.YtmanhdacnkpclaaDoorq6J9
namespace Go.Proofs.YtmanhdacnkpclaaDoor
set_option linter.all false
open Go.RowKit

set_option maxHeartbeats 16000000 in
set_option maxRecDepth 100000 in
theorem psup {S : List Int} {c d : List Lt} (h : CG S c) (h0 : COk S d) : FnD Tryd.prog 60 [lA Lt.d c, lA Lt.d d] (.tup [lA Cl.d (sup c d).1, bA (sup c d).2]) := by
  have hl4 := h.len
  have hl5 := h0.len
  have hren := prenameC 5 (by decide) (by decide) d (by omega) (fun l hl => by have := h0.size l hl; omega) h0.wf.ar.okv
  have hsup : sup c d = supD c (each (ren 5) d) := rfl
  rw [hsup]
  have hd := h0.cgr
  clear hsup
  generalize each (ren 5) d = d' at *
  have hld := hd.len
  refine Fn.of Tryd.func60 rfl Tryd.ntmps60 rfl (Nat.le_of_ble_eq_true rfl) ?_
  (refine wlk ?_)
  (refine SqA.b1 (op_call none rfl rfl rfl (by kernel_rfl) (FnD.use (hren)) rfl rfl rfl rfl rfl rfl) rfl rfl ?_)
  (refine wlk ?_)
  refine dwp_loop (fun x : Nat × Mk => [(.t 0, some (.one (lA Lt.d c))), (.t 1, some (.one (lA Lt.d d'))), (.t 6, some (.one (.c (.ptr 13 0)))), (.b 13, some (.box (mkBox x.2))), (.t 16, some (.one (lA Lt.d c))), (.t 17, some (.one (iA c.length))), (.t 18, some (.one (iA x.1)))])
    (fun x => x.1 ≤ c.length ∧ x.2 = (List.range x.1).foldl (sup5 c d') ([], false) ∧ x.2.1.length ≤ 1000 * x.1) (fun x => c.length - x.1) (0, [], false) ⟨by simp, rfl, by simp⟩ ((Wk.nilOwnB (j := 13) (q := 0) (E := 59) (m := 1) rfl rfl rfl).trans fgs) ?_
  rintro ⟨i, m1⟩ ⟨hk, hm, hb1⟩
  dsimp only at hk hm hb1 ⊢
  by_cases hkl : i < c.length
  rotate_left
  · have hkc : i = c.length := by omega
    subst hkc
    refine dwp_wk (Wk.freezeB (j := 13) (q := 0) rfl rfl rfl) ?_
    (refine wlk ?_)
    (first | (refine finR (.tmp rfl (.tmp rfl .nil)) rfl rfl ?_) | (refine finN (.tmp rfl (.tmp rfl .nil)) rfl rfl ?_))
    rw [hm]
    rfl
  obtain ⟨x, hx⟩ := get_of_lt hkl
  have hnext := range_fold (sup5 c d') ([], false) i
  rw [← hm] at hnext
  cases hxn : x.neg
  rotate_left
  · have hf5 : sup5 c d' m1 i = m1 := by unfold sup5; rw [hx]; simp [hxn]
    rw [hf5] at hnext
    (refine wlk ?_)
    exact ⟨(i + 1, m1), ⟨by simp only; omega, hnext.symm, by simp only; omega⟩, fgs, by simp only; omega⟩
  have hf5 : sup5 c d' m1 i = (waysL x).foldl (sup4 (c.eraseIdx i) d') m1 := by unfold sup5; rw [hx]; simp [hxn]
  rw [hf5] at hnext
  have hwl : (waysL x).length = 2 := rfl
  (refine wlk ?_)
  (refine SqA.b1 (op_call none rfl rfl rfl (by kernel_rfl) (FnD.use (pways x)) rfl rfl rfl rfl rfl rfl) rfl rfl ?_)
  (refine wlk ?_)
  refine dwp_loop (fun z : Nat × Mk => [(.t 0, some (.one (lA Lt.d c))), (.t 1, some (.one (lA Lt.d d'))), (.t 6, some (.one (.c (.ptr 13 0)))), (.b 13, some (.box (mkBox z.2))), (.t 7, some (.one (iA i))), (.t 16, some (.one (lA Lt.d c))), (.t 17, some (.one (iA c.length))), (.t 18, some (.one (iA i))),
      (.t 26, some (.one (lA Tw.d (waysL x)))), (.t 27, some (.one (iA (waysL x).length))), (.t 28, some (.one (iA z.1)))])
    (fun z => z.1 ≤ 2 ∧ z.2 = ((waysL x).take z.1).foldl (sup4 (c.eraseIdx i) d') m1 ∧ z.2.1.length ≤ 1000 * i + 100 * z.1) (fun z => 2 - z.1) (0, m1) ⟨by simp only; omega, rfl, by simp only; omega⟩ fgs ?_
  rintro ⟨p, m2⟩ ⟨hp, hm2, hb2⟩
  dsimp only at hp hm2 hb2 ⊢
  by_cases hpl : p < 2
  rotate_left
  · rw [fold_all _ _ (by omega)] at hm2
    rw [← hm2] at hnext
    (refine wlk ?_)
    exact ⟨(i + 1, m2), ⟨by simp only; omega, hnext.symm, by simp only; omega⟩, fgs, by simp only; omega⟩
  obtain ⟨⟨a1, a2⟩, ha⟩ := get_of_lt (s := waysL x) (k := p) (by omega)
  have hnext2 := fold_take (sup4 (c.eraseIdx i) d') m1 ha
  rw [← hm2] at hnext2
  cases hav : a1.var
  rotate_left
  · have hf4 : sup4 (c.eraseIdx i) d' m2 (a1, a2) = m2 := by unfold sup4; simp [hav]
    rw [hf4] at hnext2
    (refine wlk ?_)
    (refine SqA.b1 (op_idx2B (k := 0) rfl rfl rfl rfl rfl (by decide)) rfl rfl ?_)
    (refine wlk ?_)
    exact ⟨(p + 1, m2), ⟨by simp only; omega, hnext2.symm, by simp only; omega⟩, fgs, by simp only; omega⟩
  have hf4 : sup4 (c.eraseIdx i) d' m2 (a1, a2) = (List.range d'.length).foldl (sup3 (a1, a2) (c.eraseIdx i) d') m2 := by unfold sup4; simp [hav]
  rw [hf4] at hnext2
  (refine wlk ?_)
  (refine SqA.b1 (op_idx2B (k := 0) rfl rfl rfl rfl rfl (by decide)) rfl rfl ?_)
  (refine wlk ?_)
  refine dwp_loop (fun z : Nat × Mk => [(.t 0, some (.one (lA Lt.d c))), (.t 1, some (.one (lA Lt.d d'))), (.t 6, some (.one (.c (.ptr 13 0)))), (.b 13, some (.box (mkBox z.2))), (.t 7, some (.one (iA i))), (.t 16, some (.one (lA Lt.d c))), (.t 17, some (.one (iA c.length))), (.t 18, some (.one (iA i))),
      (.t 26, some (.one (lA Tw.d (waysL x)))), (.t 27, some (.one (iA (waysL x).length))), (.t 28, some (.one (iA p))), (.t 10, some (.one (.c (.ptr 10 0)))), (.b 10, some (.box ((tA a1).cells ++ (tA a2).cells))), (.t 36, some (.one (iA d'.length))), (.t 37, some (.one (iA z.1)))])
    (fun z => z.1 ≤ d'.length ∧ z.2 = (List.range z.1).foldl (sup3 (a1, a2) (c.eraseIdx i) d') m2 ∧ z.2.1.length ≤ 1000 * i + 100 * p + 24 * z.1) (fun z => d'.length - z.1) (0, m2) ⟨by simp only; omega, rfl, by simp only; omega⟩ fgs ?_
  rintro ⟨j, m3⟩ ⟨hj, hm3, hb3⟩
  dsimp only at hj hm3 hb3 ⊢
  by_cases hjl : j < d'.length
  rotate_left
  · have hjc : j = d'.length := by omega
    subst hjc
    rw [← hm3] at hnext2
    (refine wlk ?_)
    exact ⟨(p + 1, m3), ⟨by simp only; omega, hnext2.symm, by simp only; omega⟩, fgs, by simp only; omega⟩
  have hnext3 := range_fold (sup3 (a1, a2) (c.eraseIdx i) d') m2 j
  rw [← hm3] at hnext3
  have hlen3 := sup3_len hd (a1, a2) (c.eraseIdx i) m3 j
  (refine wlk ?_)
  (refine SqA.b1 (op_call none rfl rfl rfl (by kernel_rfl) (FnD.use (pwithout c i hkl (by omega))) rfl rfl rfl rfl rfl rfl) rfl rfl ?_)
  (refine wlk ?_)
  (refine SqA.b3 (Op1.frzIn (t := 44) rfl (op_call (some (13)) rfl rfl rfl (by kernel_rfl) (FnB.use (pinto (a := (a1, a2)) h hd hx (List.mem_of_getElem? ha) hjl m3 (by omega))) rfl rfl rfl rfl rfl rfl)) rfl rfl ?_)
  (refine wlk ?_)
  exact ⟨(j + 1, sup3 (a1, a2) (c.eraseIdx i) d' m3 j), ⟨by simp only; omega, hnext3.symm, by simp only; omega⟩, fgs, by simp only; omega⟩
end Go.Proofs.YtmanhdacnkpclaaDoor
