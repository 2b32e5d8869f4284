/- What functions do: a literal said into another clause's. -/
import Derived.Test.YtmanhdacnkpclaaGreatz918
import Derived.Test.YtmanhdacnkpclaaGreatz916
import Derived.Test.YtmanhdacnkpclaaGreatz910
import Derived.Test.YtmanhdacnkpclaaGreatz902

/- What functions do: a literal said into another clause's. -/
namespace Go.Proofs.YtmanhdacnkpclaaGreat
set_option linter.all false
open Go.RowKit
abbrev twA (p : Tm × Tm) : A1 := .agg [.val (.bool p.1.var), .val (.int .i64 p.1.n), .arr (p.1.args.map Tm.d), .val (.bool p.2.var), .val (.int .i64 p.2.n), .arr (p.2.args.map Tm.d)]
abbrev ltG : Lt → List FC := fun p => [.val (.bool p.neg), .val (.bool p.left.var), .val (.int .i64 p.left.n), .arr (p.left.args.map Tm.d), .val (.bool p.right.var), .val (.int .i64 p.right.n), .arr (p.right.args.map Tm.d)]
set_option maxHeartbeats 16000000 in
set_option maxRecDepth 100000 in
theorem pinto {S : List Int} {c d : List Lt} (h : CG S c) (hd : CG S d) {i j : Nat} {x : Lt} {a : Tm × Tm} (hx : c[i]? = some x) (ha : a ∈ waysL x) (hj : j < d.length) (m : Mk) (hm : m.1.length ≤ 100000) :
    FnB Tryz.prog 96 [.c (.ptr EXT 0), twA a, lA Lt.d (c.eraseIdx i), lA Lt.d d, iA j] (mkBox m) (.tup []) (mkBox (sup3 a (c.eraseIdx i) d m j)) := by
  obtain ⟨a1, a2⟩ := a
  have hdl := hd.len
  have hel := (h.erase i).len
  obtain ⟨y, hy⟩ := get_of_lt hj
  have oa := h.way hx ha
  dsimp only at oa
  have hs3 : sup3 (a1, a2) (c.eraseIdx i) d m j = [false, true].foldl (sup2 (a1, a2) (c.eraseIdx i) d j y) m := by unfold sup3; rw [hy]
  rw [hs3]
  refine Fn.of Tryz.func96 rfl Tryz.ntmps96 rfl (Nat.le_of_ble_eq_true rfl) ?_
  (refine wlk ?_)
  (refine SqA.b1 (op_call none rfl rfl rfl (by kernel_rfl) (FnD.use (pways y)) rfl rfl rfl rfl rfl rfl) rfl rfl ?_)
  (refine wlk ?_)
  refine dwp_loop (fun z : Nat × Mk => [(.t 0, some (.one (.c (.ptr EXT 0)))), (.b EXT, some (.box (mkBox z.2))), (.t 2, some (.one (lA Lt.d (c.eraseIdx i)))), (.t 3, some (.one (lA Lt.d d))), (.t 4, some (.one (iA j))), (.t 6, some (.one (.c (.ptr 6 0)))), (.b 6, some (.box ((tA a1).cells ++ (tA a2).cells))),
      (.t 24, some (.one (lA Tw.d (waysL y)))), (.t 25, some (.one (iA (waysL y).length))), (.t 26, some (.one (iA z.1)))])
    (fun z => z.1 ≤ 2 ∧ z.2 = ([false, true].take z.1).foldl (sup2 (a1, a2) (c.eraseIdx i) d j y) m ∧ z.2.1.length ≤ 100000 + 12 * z.1) (fun z => 2 - z.1) (0, m) ⟨by simp only; omega, rfl, by simp only; omega⟩ fgs ?_
  rintro ⟨s, m1⟩ ⟨hs2, hm1, hb1⟩
  dsimp only at hs2 hm1 hb1 ⊢
  have hwl : (waysL y).length = 2 := rfl
  by_cases hsl : s < 2
  rotate_left
  · have : s = 2 := by omega
    subst this
    (refine wlk ?_)
    (refine wbU ?_)
    exact XB rfl (by rw [hm1]; rfl)
  obtain ⟨side, hside, hw, hsd⟩ := side_at hsl y
  have hnext := fold_take (sup2 (a1, a2) (c.eraseIdx i) d j y) m hside
  rw [← hm1] at hnext
  have ow := hd.turn hy side
  have hs2' : sup2 (a1, a2) (c.eraseIdx i) d j y m1 side = (places (turnL side y).left).foldl (sup1 (a1, a2) (c.eraseIdx i) d j y side ((turnL side y).left, (turnL side y).right)) m1 := rfl
  rw [hs2'] at hnext
  have hpl := places_len (turnL side y).left
  have hok := fun p s hp hs => CG.sup (side := side) (p := p) (s := s) h hd hx hy ha hp hs
  unfold supCl at hok
  dsimp only at hok
  clear hs2' hside
  generalize hW1 : (turnL side y).left = w1 at *
  generalize hW2 : (turnL side y).right = w2 at *
  have hz1 := ow.1.1.size
  (refine wlk ?_)
  (refine SqA.b1 (op_idx2B (k := 0) rfl rfl rfl rfl rfl (by decide)) rfl rfl ?_)
  (refine wlk ?_)
  (refine SqA.b1 (op_call none rfl rfl rfl (by kernel_rfl) (FnD.use (pplaces w1 (by omega))) rfl rfl rfl rfl rfl rfl) rfl rfl ?_)
  (refine wlk ?_)
  refine dwp_loop (fun z : Nat × Mk => [(.t 0, some (.one (.c (.ptr EXT 0)))), (.b EXT, some (.box (mkBox z.2))), (.t 2, some (.one (lA Lt.d (c.eraseIdx i)))), (.t 3, some (.one (lA Lt.d d))), (.t 4, some (.one (iA j))), (.t 6, some (.one (.c (.ptr 6 0)))), (.b 6, some (.box ((tA a1).cells ++ (tA a2).cells))),
      (.t 24, some (.one (lA Tw.d (waysL y)))), (.t 25, some (.one (iA (waysL y).length))), (.t 26, some (.one (iA s))), (.t 10, some (.one (iA s))), (.t 11, some (.one (.c (.ptr 11 0)))), (.b 11, some (.box ((tA w1).cells ++ (tA w2).cells))), (.t 33, some (.one (lA Is.d (places w1)))), (.t 34, some (.one (iA (places w1).length))), (.t 35, some (.one (iA z.1)))])
    (fun z => z.1 ≤ (places w1).length ∧ z.2 = ((places w1).take z.1).foldl (sup1 (a1, a2) (c.eraseIdx i) d j y side (w1, w2)) m1 ∧ z.2.1.length ≤ 100000 + 12 * s + z.1) (fun z => (places w1).length - z.1) (0, m1) ⟨by simp only; omega, rfl, by simp only; omega⟩ fgs ?_
  rintro ⟨q, m2⟩ ⟨hq, hm2, hb2⟩
  dsimp only at hq hm2 hb2 ⊢
  by_cases hql : q < (places w1).length
  rotate_left
  · rw [fold_all _ _ (by omega)] at hm2
    rw [← hm2] at hnext
    (refine wlk ?_)
    exact ⟨(s + 1, m2), ⟨by simp only; omega, hnext.symm, by simp only; omega⟩, fgs, by simp only; omega⟩
  obtain ⟨p, hp⟩ := get_of_lt hql
  have hpm := List.mem_of_getElem? hp
  have hnext2 := fold_take (sup1 (a1, a2) (c.eraseIdx i) d j y side (w1, w2)) m1 hp
  rw [← hm2] at hnext2
  have hlen2 := sup1_len (a1, a2) (c.eraseIdx i) d j y side (w1, w2) m2 p
  have oat := ow.1.1.at ow.1.2 hpm
  have hu := bunify oa.1.1 oat
  have hat := pat p w1
  cases hs : unify a1 (at_ w1 p).1 with
  | none =>
    rw [hs] at hu
    have hf1 : sup1 (a1, a2) (c.eraseIdx i) d j y side (w1, w2) m2 p = m2 := by unfold sup1; simp [hs]
    rw [hf1] at hnext2
    (refine wlk ?_)
    (refine SqA.b1 (op_idx2B (k := 0) rfl rfl rfl rfl rfl (by decide)) rfl rfl ?_)
    (refine wlk ?_)
    (refine wlC hat ?_)
    (refine wlk ?_)
    (refine SqA.b1 (op_idx2B (k := 0) rfl rfl rfl rfl rfl (by decide)) rfl rfl ?_)
    (refine wlk ?_)
    (refine wlC hu ?_)
    (refine wlk ?_)
    exact ⟨(q + 1, m2), ⟨by simp only; omega, hnext2.symm, by simp only; omega⟩, fgs, by simp only; omega⟩
  | some sb =>
    rw [hs] at hu
    have u1 := uok_of oa.1.1 oat hs oa.1.1
    have u2 := uok_of oa.1.1 oat hs oa.2.1
    have u3 := uok_of oa.1.1 oat hs ow.1.1
    have u4 := uok_of oa.1.1 oat hs ow.2.1
    have z1 := oa.1.1.size
    have z2 := oa.2.1.size
    have z4 := ow.2.1.size
    have g1 := bapply sb a1 (by omega)
    have g2 := bapply sb a2 (by omega)
    have g3 := bapply sb w1 (by omega)
    have g4 := bapply sb w2 (by omega)
    have k1 := pcompare (app sb a1) (app sb a2) (by omega) (by omega) u1.2 u2.2
    have k2 := pcompare (app sb w1) (app sb w2) (by omega) (by omega) u3.2 u4.2
    have l1 := compare_less u1.2 u2.2
    have l2 := compare_less u3.2 u4.2
    by_cases c1 : compare (app sb a1) (app sb a2) = 1
    · have hf1 : sup1 (a1, a2) (c.eraseIdx i) d j y side (w1, w2) m2 p = m2 := by unfold sup1; simp [hs, l1.1 c1]
      rw [hf1] at hnext2
      (refine wlk ?_)
      (refine SqA.b1 (op_idx2B (k := 0) rfl rfl rfl rfl rfl (by decide)) rfl rfl ?_)
      (refine wlk ?_)
      (refine wlC hat ?_)
      (refine wlk ?_)
      (refine SqA.b1 (op_idx2B (k := 0) rfl rfl rfl rfl rfl (by decide)) rfl rfl ?_)
      (refine wlk ?_)
      (refine wlC hu ?_)
      (refine wlk ?_)
      (refine SqA.b1 (op_idx2B (k := 0) rfl rfl rfl rfl rfl (by decide)) rfl rfl ?_)
      (refine wlk ?_)
      (refine wlC g1 ?_)
      (refine wlk ?_)
      (refine SqA.b1 (op_idx2B (k := 1) rfl rfl rfl rfl rfl (by decide)) rfl rfl ?_)
      (refine wlk ?_)
      (refine wlC g2 ?_)
      (refine wlk ?_)
      (refine wlC k1 ?_)
      (refine wlk ?_)
      exact ⟨(q + 1, m2), ⟨by simp only; omega, hnext2.symm, by simp only; omega⟩, fgs, by simp only; omega⟩
    by_cases c2 : compare (app sb w1) (app sb w2) = 1
    · have hf1 : sup1 (a1, a2) (c.eraseIdx i) d j y side (w1, w2) m2 p = m2 := by unfold sup1; simp [hs, l2.1 c2]
      rw [hf1] at hnext2
      (refine wlk ?_)
      (refine SqA.b1 (op_idx2B (k := 0) rfl rfl rfl rfl rfl (by decide)) rfl rfl ?_)
      (refine wlk ?_)
      (refine wlC hat ?_)
      (refine wlk ?_)
      (refine SqA.b1 (op_idx2B (k := 0) rfl rfl rfl rfl rfl (by decide)) rfl rfl ?_)
      (refine wlk ?_)
      (refine wlC hu ?_)
      (refine wlk ?_)
      (refine SqA.b1 (op_idx2B (k := 0) rfl rfl rfl rfl rfl (by decide)) rfl rfl ?_)
      (refine wlk ?_)
      (refine wlC g1 ?_)
      (refine wlk ?_)
      (refine SqA.b1 (op_idx2B (k := 1) rfl rfl rfl rfl rfl (by decide)) rfl rfl ?_)
      (refine wlk ?_)
      (refine wlC g2 ?_)
      (refine wlk ?_)
      (refine wlC k1 ?_)
      (refine wlk ?_)
      (refine SqA.b1 (op_idx2B (k := 0) rfl rfl rfl rfl rfl (by decide)) rfl rfl ?_)
      (refine wlk ?_)
      (refine wlC g3 ?_)
      (refine wlk ?_)
      (refine SqA.b1 (op_idx2B (k := 1) rfl rfl rfl rfl rfl (by decide)) rfl rfl ?_)
      (refine wlk ?_)
      (refine wlC g4 ?_)
      (refine wlk ?_)
      (refine wlC k2 ?_)
      (refine wlk ?_)
      exact ⟨(q + 1, m2), ⟨by simp only; omega, hnext2.symm, by simp only; omega⟩, fgs, by simp only; omega⟩
    · have n1 : above (app sb a2) (app sb a1) = false := by
        cases e : above (app sb a2) (app sb a1)
        · rfl
        · exact absurd (l1.2 e) c1
      have n2 : above (app sb w2) (app sb w1) = false := by
        cases e : above (app sb w2) (app sb w1)
        · rfl
        · exact absurd (l2.2 e) c2
      have hf1 : sup1 (a1, a2) (c.eraseIdx i) d j y side (w1, w2) m2 p = addR m2 sb (c.eraseIdx i ++ d.set j (turnL side ⟨y.neg, put w1 p a2, w2⟩)) := by unfold sup1; simp [hs, n1, n2]
      rw [hf1] at hnext2 hlen2
      have hok := hok p sb hpm hs
      have hput := pput a2 p w1 (by omega)
      have hsl : (d.set j (turnL side ⟨y.neg, put w1 p a2, w2⟩)).length = d.length := List.length_set ..
      have hfl : [c.eraseIdx i, d.set j (turnL side ⟨y.neg, put w1 p a2, w2⟩)].flatten = c.eraseIdx i ++ d.set j (turnL side ⟨y.neg, put w1 p a2, w2⟩) := by simp
      have hcc := pconcat [c.eraseIdx i, d.set j (turnL side ⟨y.neg, put w1 p a2, w2⟩)] (by simp [lensL]; omega)
      rw [hfl] at hcc
      have hadd := padd m2 sb (c.eraseIdx i ++ d.set j (turnL side ⟨y.neg, put w1 p a2, w2⟩)) hok.sz hok.len hok.okv hok.few hok.sz2 (by omega)
      have hcl := cloneL d (by omega)
      rcases hsd with ⟨rfl, rfl⟩ | ⟨rfl, rfl⟩
      · (refine wlk ?_)
        (refine SqA.b1 (op_idx2B (k := 0) rfl rfl rfl rfl rfl (by decide)) rfl rfl ?_)
        (refine wlk ?_)
        (refine wlC hat ?_)
        (refine wlk ?_)
        (refine SqA.b1 (op_idx2B (k := 0) rfl rfl rfl rfl rfl (by decide)) rfl rfl ?_)
        (refine wlk ?_)
        (refine wlC hu ?_)
        (refine wlk ?_)
        (refine SqA.b1 (op_idx2B (k := 0) rfl rfl rfl rfl rfl (by decide)) rfl rfl ?_)
        (refine wlk ?_)
        (refine wlC g1 ?_)
        (refine wlk ?_)
        (refine SqA.b1 (op_idx2B (k := 1) rfl rfl rfl rfl rfl (by decide)) rfl rfl ?_)
        (refine wlk ?_)
        (refine wlC g2 ?_)
        (refine wlk ?_)
        (refine wlC k1 ?_)
        (refine wlk ?_)
        (refine SqA.b1 (op_idx2B (k := 0) rfl rfl rfl rfl rfl (by decide)) rfl rfl ?_)
        (refine wlk ?_)
        (refine wlC g3 ?_)
        (refine wlk ?_)
        (refine SqA.b1 (op_idx2B (k := 1) rfl rfl rfl rfl rfl (by decide)) rfl rfl ?_)
        (refine wlk ?_)
        (refine wlC g4 ?_)
        (refine wlk ?_)
        (refine wlC k2 ?_)
        (refine wlk ?_)
        (refine SqA.b1 (op_idx2B (k := 0) rfl rfl rfl rfl rfl (by decide)) rfl rfl ?_)
        (refine wlk ?_)
        (refine SqA.b1 (op_idx2B (k := 1) rfl rfl rfl rfl rfl (by decide)) rfl rfl ?_)
        (refine wlk ?_)
        (refine wlC hput ?_)
        (refine wlk ?_)
        (refine SqA.b1 (op_idx2B (k := 1) rfl rfl rfl rfl rfl (by decide)) rfl rfl ?_)
        (refine wlk ?_)
        (refine wlC hcl ?_)
        (refine wlE ?_)
        refine dwp_wk (σ' := [(.t 0, some (.one (.c (.ptr EXT 0)))), (.b EXT, some (.box (mkBox m2))), (.t 2, some (.one (lA Lt.d (c.eraseIdx i)))), (.t 3, some (.one (lA Lt.d d))), (.t 4, some (.one (iA j))), (.t 6, some (.one (.c (.ptr 6 0)))), (.b 6, some (.box ((tA a1).cells ++ (tA a2).cells))),
          (.t 24, some (.one (lA Tw.d (waysL y)))), (.t 25, some (.one (iA (waysL y).length))), (.t 26, some (.one (iA (1 : Nat)))), (.t 10, some (.one (iA (1 : Nat)))), (.t 11, some (.one (.c (.ptr 11 0)))), (.b 11, some (.box ((tA w1).cells ++ (tA w2).cells))), (.t 33, some (.one (lA Is.d (places w1)))), (.t 34, some (.one (iA (places w1).length))), (.t 35, some (.one (iA q))),
          (.t 16, some (.one (lA Pr.d sb))), (.t 18, some (.one (.c (.ptr 18 0)))), (.b 18, some (.box (ltA (turnL true ⟨y.neg, put w1 p a2, w2⟩)).cells)), (.t 19, some (.one (.c (.own 77 7 (d.map Lt.d)))))]) fgs ?_
        refine dwp_ownEls (f := Lt.d) (g := ltG) (t := 19) rfl (by omega) rfl rfl rfl rfl fun e => ?_
        (refine wlk ?_)
        (refine SqA.b1 (op_storeEl0 (g := ltG) (m := 7) (fun _ => rfl) (turnL true ⟨y.neg, put w1 p a2, w2⟩) rfl rfl (rw_of rfl) rfl rfl rfl rfl rfl rfl rfl rfl hj rfl) rfl rfl ?_)
        (refine wlE ?_)
        refine dwp_wk (Wk.frzSlG (f := Lt.d) (g := ltG) (t := 19) (j := 19) (k := d.length) (l := d.set j (turnL true ⟨y.neg, put w1 p a2, w2⟩)) rfl rfl (els_take _ _) hsl rfl rfl) ?_
        (refine wlk ?_)
        (refine SqA.b1 (op_bsT (T := TB) (f := Cl.d) [c.eraseIdx i, d.set j (turnL true ⟨y.neg, put w1 p a2, w2⟩)] rfl rfl rfl rfl rfl rfl rfl rfl rfl rfl rfl) rfl rfl ?_)
        (refine wlk ?_)
        (refine wlC hcc ?_)
        (refine SqA.b3 (Op1.frzIn (t := 112) rfl (op_call (some (EXT)) rfl rfl rfl (by kernel_rfl) (FnB.use (hadd)) rfl rfl rfl rfl rfl rfl)) rfl rfl ?_)
        (refine wlk ?_)
        exact ⟨(q + 1, addR m2 sb (c.eraseIdx i ++ d.set j (turnL true ⟨y.neg, put w1 p a2, w2⟩))), ⟨by simp only; omega, hnext2.symm, by simp only; omega⟩, fgs, by simp only; omega⟩
      · (refine wlk ?_)
        (refine SqA.b1 (op_idx2B (k := 0) rfl rfl rfl rfl rfl (by decide)) rfl rfl ?_)
        (refine wlk ?_)
        (refine wlC hat ?_)
        (refine wlk ?_)
        (refine SqA.b1 (op_idx2B (k := 0) rfl rfl rfl rfl rfl (by decide)) rfl rfl ?_)
        (refine wlk ?_)
        (refine wlC hu ?_)
        (refine wlk ?_)
        (refine SqA.b1 (op_idx2B (k := 0) rfl rfl rfl rfl rfl (by decide)) rfl rfl ?_)
        (refine wlk ?_)
        (refine wlC g1 ?_)
        (refine wlk ?_)
        (refine SqA.b1 (op_idx2B (k := 1) rfl rfl rfl rfl rfl (by decide)) rfl rfl ?_)
        (refine wlk ?_)
        (refine wlC g2 ?_)
        (refine wlk ?_)
        (refine wlC k1 ?_)
        (refine wlk ?_)
        (refine SqA.b1 (op_idx2B (k := 0) rfl rfl rfl rfl rfl (by decide)) rfl rfl ?_)
        (refine wlk ?_)
        (refine wlC g3 ?_)
        (refine wlk ?_)
        (refine SqA.b1 (op_idx2B (k := 1) rfl rfl rfl rfl rfl (by decide)) rfl rfl ?_)
        (refine wlk ?_)
        (refine wlC g4 ?_)
        (refine wlk ?_)
        (refine wlC k2 ?_)
        (refine wlk ?_)
        (refine SqA.b1 (op_idx2B (k := 0) rfl rfl rfl rfl rfl (by decide)) rfl rfl ?_)
        (refine wlk ?_)
        (refine SqA.b1 (op_idx2B (k := 1) rfl rfl rfl rfl rfl (by decide)) rfl rfl ?_)
        (refine wlk ?_)
        (refine wlC hput ?_)
        (refine wlk ?_)
        (refine SqA.b1 (op_idx2B (k := 1) rfl rfl rfl rfl rfl (by decide)) rfl rfl ?_)
        (refine wlk ?_)
        (refine wlC hcl ?_)
        (refine wlE ?_)
        refine dwp_wk (σ' := [(.t 0, some (.one (.c (.ptr EXT 0)))), (.b EXT, some (.box (mkBox m2))), (.t 2, some (.one (lA Lt.d (c.eraseIdx i)))), (.t 3, some (.one (lA Lt.d d))), (.t 4, some (.one (iA j))), (.t 6, some (.one (.c (.ptr 6 0)))), (.b 6, some (.box ((tA a1).cells ++ (tA a2).cells))),
          (.t 24, some (.one (lA Tw.d (waysL y)))), (.t 25, some (.one (iA (waysL y).length))), (.t 26, some (.one (iA (0 : Nat)))), (.t 10, some (.one (iA (0 : Nat)))), (.t 11, some (.one (.c (.ptr 11 0)))), (.b 11, some (.box ((tA w1).cells ++ (tA w2).cells))), (.t 33, some (.one (lA Is.d (places w1)))), (.t 34, some (.one (iA (places w1).length))), (.t 35, some (.one (iA q))),
          (.t 16, some (.one (lA Pr.d sb))), (.t 18, some (.one (.c (.ptr 18 0)))), (.b 18, some (.box (ltA (turnL false ⟨y.neg, put w1 p a2, w2⟩)).cells)), (.t 19, some (.one (.c (.own 77 7 (d.map Lt.d)))))]) fgs ?_
        refine dwp_ownEls (f := Lt.d) (g := ltG) (t := 19) rfl (by omega) rfl rfl rfl rfl fun e => ?_
        (refine wlk ?_)
        (refine SqA.b1 (op_storeEl0 (g := ltG) (m := 7) (fun _ => rfl) (turnL false ⟨y.neg, put w1 p a2, w2⟩) rfl rfl (rw_of rfl) rfl rfl rfl rfl rfl rfl rfl rfl hj rfl) rfl rfl ?_)
        (refine wlE ?_)
        refine dwp_wk (Wk.frzSlG (f := Lt.d) (g := ltG) (t := 19) (j := 19) (k := d.length) (l := d.set j (turnL false ⟨y.neg, put w1 p a2, w2⟩)) rfl rfl (els_take _ _) hsl rfl rfl) ?_
        (refine wlk ?_)
        (refine SqA.b1 (op_bsT (T := TB) (f := Cl.d) [c.eraseIdx i, d.set j (turnL false ⟨y.neg, put w1 p a2, w2⟩)] rfl rfl rfl rfl rfl rfl rfl rfl rfl rfl rfl) rfl rfl ?_)
        (refine wlk ?_)
        (refine wlC hcc ?_)
        (refine SqA.b3 (Op1.frzIn (t := 112) rfl (op_call (some (EXT)) rfl rfl rfl (by kernel_rfl) (FnB.use (hadd)) rfl rfl rfl rfl rfl rfl)) rfl rfl ?_)
        (refine wlk ?_)
        exact ⟨(q + 1, addR m2 sb (c.eraseIdx i ++ d.set j (turnL false ⟨y.neg, put w1 p a2, w2⟩))), ⟨by simp only; omega, hnext2.symm, by simp only; omega⟩, fgs, by simp only; omega⟩
end Go.Proofs.YtmanhdacnkpclaaGreat
/- What functions do: Sup, of the program. -/
namespace Go.Proofs.YtmanhdacnkpclaaGreat
set_option linter.all false
open Go.RowKit
set_option maxHeartbeats 16000000 in
set_option maxRecDepth 100000 in
theorem psup {S : List Int} {c d : List Lt} (h : CG S c) (h0 : COk S d) : FnD Tryz.prog 54 [lA Lt.d c, lA Lt.d d] (.tup [lA Cl.d (sup c d).1, bA (sup c d).2]) := by
  have hl4 := h.len
  have hl5 := h0.len
  have hren := prenameC 5 (by decide) (by decide) d (by omega) (fun l hl => by have := h0.size l hl; omega) h0.wf.ar.okv
  have hsup : sup c d = supD c (each (ren 5) d) := rfl
  rw [hsup]
  have hd := h0.cgr
  clear hsup
  generalize each (ren 5) d = d' at *
  have hld := hd.len
  refine Fn.of Tryz.func54 rfl Tryz.ntmps54 rfl (Nat.le_of_ble_eq_true rfl) ?_
  (refine wlk ?_)
  (refine wlC hren ?_)
  (refine wlk ?_)
  refine dwp_loop (fun x : Nat × Mk => [(.t 0, some (.one (lA Lt.d c))), (.t 1, some (.one (lA Lt.d d'))), (.t 6, some (.one (.c (.ptr 13 0)))), (.b 13, some (.box (mkBox x.2))), (.t 16, some (.one (lA Lt.d c))), (.t 17, some (.one (iA c.length))), (.t 18, some (.one (iA x.1)))])
    (fun x => x.1 ≤ c.length ∧ x.2 = (List.range x.1).foldl (sup5 c d') ([], false) ∧ x.2.1.length ≤ 1000 * x.1) (fun x => c.length - x.1) (0, [], false) ⟨by simp, rfl, by simp⟩ ((Wk.nilOwnB (j := 13) (q := 0) (E := 39) (m := 1) rfl rfl rfl).trans fgs) ?_
  rintro ⟨i, m1⟩ ⟨hk, hm, hb1⟩
  dsimp only at hk hm hb1 ⊢
  by_cases hkl : i < c.length
  rotate_left
  · have hkc : i = c.length := by omega
    subst hkc
    refine dwp_wk (Wk.freezeB (j := 13) (q := 0) rfl rfl rfl) ?_
    (refine wlk ?_)
    (refine wfTT ?_)
    rw [hm]
    rfl
  obtain ⟨x, hx⟩ := get_of_lt hkl
  have hnext := range_fold (sup5 c d') ([], false) i
  rw [← hm] at hnext
  cases hxn : x.neg
  rotate_left
  · have hf5 : sup5 c d' m1 i = m1 := by unfold sup5; rw [hx]; simp [hxn]
    rw [hf5] at hnext
    (refine wlk ?_)
    exact ⟨(i + 1, m1), ⟨by simp only; omega, hnext.symm, by simp only; omega⟩, fgs, by simp only; omega⟩
  have hf5 : sup5 c d' m1 i = (waysL x).foldl (sup4 (c.eraseIdx i) d') m1 := by unfold sup5; rw [hx]; simp [hxn]
  rw [hf5] at hnext
  have hwl : (waysL x).length = 2 := rfl
  (refine wlk ?_)
  (refine SqA.b1 (op_call none rfl rfl rfl (by kernel_rfl) (FnD.use (pways x)) rfl rfl rfl rfl rfl rfl) rfl rfl ?_)
  (refine wlk ?_)
  refine dwp_loop (fun z : Nat × Mk => [(.t 0, some (.one (lA Lt.d c))), (.t 1, some (.one (lA Lt.d d'))), (.t 6, some (.one (.c (.ptr 13 0)))), (.b 13, some (.box (mkBox z.2))), (.t 7, some (.one (iA i))), (.t 16, some (.one (lA Lt.d c))), (.t 17, some (.one (iA c.length))), (.t 18, some (.one (iA i))),
      (.t 26, some (.one (lA Tw.d (waysL x)))), (.t 27, some (.one (iA (waysL x).length))), (.t 28, some (.one (iA z.1)))])
    (fun z => z.1 ≤ 2 ∧ z.2 = ((waysL x).take z.1).foldl (sup4 (c.eraseIdx i) d') m1 ∧ z.2.1.length ≤ 1000 * i + 100 * z.1) (fun z => 2 - z.1) (0, m1) ⟨by simp only; omega, rfl, by simp only; omega⟩ fgs ?_
  rintro ⟨p, m2⟩ ⟨hp, hm2, hb2⟩
  dsimp only at hp hm2 hb2 ⊢
  by_cases hpl : p < 2
  rotate_left
  · rw [fold_all _ _ (by omega)] at hm2
    rw [← hm2] at hnext
    (refine wlk ?_)
    exact ⟨(i + 1, m2), ⟨by simp only; omega, hnext.symm, by simp only; omega⟩, fgs, by simp only; omega⟩
  obtain ⟨⟨a1, a2⟩, ha⟩ := get_of_lt (s := waysL x) (k := p) (by omega)
  have hnext2 := fold_take (sup4 (c.eraseIdx i) d') m1 ha
  rw [← hm2] at hnext2
  cases hav : a1.var
  rotate_left
  · have hf4 : sup4 (c.eraseIdx i) d' m2 (a1, a2) = m2 := by unfold sup4; simp [hav]
    rw [hf4] at hnext2
    (refine wlk ?_)
    (refine SqA.b1 (op_idx2B (k := 0) rfl rfl rfl rfl rfl (by decide)) rfl rfl ?_)
    (refine wlk ?_)
    exact ⟨(p + 1, m2), ⟨by simp only; omega, hnext2.symm, by simp only; omega⟩, fgs, by simp only; omega⟩
  have hf4 : sup4 (c.eraseIdx i) d' m2 (a1, a2) = (List.range d'.length).foldl (sup3 (a1, a2) (c.eraseIdx i) d') m2 := by unfold sup4; simp [hav]
  rw [hf4] at hnext2
  (refine wlk ?_)
  (refine SqA.b1 (op_idx2B (k := 0) rfl rfl rfl rfl rfl (by decide)) rfl rfl ?_)
  (refine wlk ?_)
  refine dwp_loop (fun z : Nat × Mk => [(.t 0, some (.one (lA Lt.d c))), (.t 1, some (.one (lA Lt.d d'))), (.t 6, some (.one (.c (.ptr 13 0)))), (.b 13, some (.box (mkBox z.2))), (.t 7, some (.one (iA i))), (.t 16, some (.one (lA Lt.d c))), (.t 17, some (.one (iA c.length))), (.t 18, some (.one (iA i))),
      (.t 26, some (.one (lA Tw.d (waysL x)))), (.t 27, some (.one (iA (waysL x).length))), (.t 28, some (.one (iA p))), (.t 10, some (.one (.c (.ptr 10 0)))), (.b 10, some (.box ((tA a1).cells ++ (tA a2).cells))), (.t 36, some (.one (iA d'.length))), (.t 37, some (.one (iA z.1)))])
    (fun z => z.1 ≤ d'.length ∧ z.2 = (List.range z.1).foldl (sup3 (a1, a2) (c.eraseIdx i) d') m2 ∧ z.2.1.length ≤ 1000 * i + 100 * p + 24 * z.1) (fun z => d'.length - z.1) (0, m2) ⟨by simp only; omega, rfl, by simp only; omega⟩ fgs ?_
  rintro ⟨j, m3⟩ ⟨hj, hm3, hb3⟩
  dsimp only at hj hm3 hb3 ⊢
  by_cases hjl : j < d'.length
  rotate_left
  · have hjc : j = d'.length := by omega
    subst hjc
    rw [← hm3] at hnext2
    (refine wlk ?_)
    exact ⟨(p + 1, m3), ⟨by simp only; omega, hnext2.symm, by simp only; omega⟩, fgs, by simp only; omega⟩
  have hnext3 := range_fold (sup3 (a1, a2) (c.eraseIdx i) d') m2 j
  rw [← hm3] at hnext3
  have hlen3 := sup3_len hd (a1, a2) (c.eraseIdx i) m3 j
  (refine wlk ?_)
  (refine SqA.b1 (op_call none rfl rfl rfl (by kernel_rfl) (FnD.use (pwithout c i hkl (by omega))) rfl rfl rfl rfl rfl rfl) rfl rfl ?_)
  (refine wlk ?_)
  (refine SqA.b3 (Op1.frzIn (t := 44) rfl (op_call (some (13)) rfl rfl rfl (by kernel_rfl) (FnB.use (pinto (a := (a1, a2)) h hd hx (List.mem_of_getElem? ha) hjl m3 (by omega))) rfl rfl rfl rfl rfl rfl)) rfl rfl ?_)
  (refine wlk ?_)
  exact ⟨(j + 1, sup3 (a1, a2) (c.eraseIdx i) d' m3 j), ⟨by simp only; omega, hnext3.symm, by simp only; omega⟩, fgs, by simp only; omega⟩
end Go.Proofs.YtmanhdacnkpclaaGreat
namespace Go.Proofs.YtmanhdacnkpclaaGreat
set_option linter.all false
open Go.RowKit
section
variable {P : Program} {n : Nat} {σ : St}
theorem dwp_mid {α : Type} {c rest : Code} {Q : Exit → St → Prop} (I : α → St) (J : α → Prop) (h1 : dwp P n c (fun e σ' => e = .normal ∧ ∃ x, J x ∧ Wk n σ' (I x)) σ) (h2 : ∀ x, J x → dwp P n rest Q (I x)) : dwp P n c (thenD (dwp P n rest Q) Q) σ :=
  fun C who a w hr => wp_mono (h1 C who a w hr) fun e a' w' ⟨who', σ', hr', he, x, hJ, hw⟩ => by
    subst he
    obtain ⟨who2, hr2⟩ := hw C who' a' w' hr'
    exact ⟨who', σ', hr', fun C3 who3 a3 w3 hr3 => by
      obtain ⟨who4, hr4⟩ := hw C3 who3 a3 w3 hr3
      exact h2 x hJ C3 who4 a3 w3 hr4⟩
end
theorem come1_cases {p : Pf} {rule : Int} {frm : List Int} {c : List Lt} {C : Pf → Prop} (h1 : C p) (h2 : 120 ≤ p.steps.length → C ⟨p.sig, p.steps, p.active, p.wait, p.found, true⟩)
    (h3 : C ⟨p.sig, p.steps ++ [⟨rule, frm, c⟩], p.active, p.wait ++ [(p.steps.length : Int)], if c.length = 0 ∧ p.found < 0 then (p.steps.length : Int) else p.found, p.lost⟩) : C (come1 rule frm p c) := by
  by_cases hs : 0 ≤ p.found ∨ waits p c = true ∨ known p c = true
  · rw [come1_skip hs]; exact h1
  · by_cases h120 : 120 ≤ p.steps.length
    · rw [come1_full hs h120, stepP_full h120]; exact h2 h120
    · rw [come1_in2 hs h120]; exact h3
theorem come1_active {p : Pf} {rule : Int} {frm : List Int} {c : List Lt} : (come1 rule frm p c).active = p.active ∧ (come1 rule frm p c).sig = p.sig :=
  come1_cases (C := fun q => q.active = p.active ∧ q.sig = p.sig) ⟨rfl, rfl⟩ (fun _ => ⟨rfl, rfl⟩) ⟨rfl, rfl⟩
theorem come_ok {S : List Int} {p : Pf} (h : PfGo S p) (rule : Int) (frm : List Int) {m : Mk} (hm : ∀ c ∈ m.1, COk S c) : PfGo S (come p rule frm m) ∧ (come p rule frm m).active = p.active := by
  have h0 : PfGo S { p with lost := p.lost || m.2 } := ⟨⟨h.ok.len, h.ok.cok, h.ok.act, h.ok.wai⟩, h.aw⟩
  exact foldl_keep (P := fun q : Pf => PfGo S q ∧ q.active = p.active) _ _ ⟨h0, rfl⟩ fun q c hc ⟨h1, h2⟩ => ⟨come1_ok h1 rule frm (hm c hc), come1_active.1.trans h2⟩
theorem come1_steps {p : Pf} {rule : Int} {frm : List Int} {c : List Lt} : p.steps.length ≤ (come1 rule frm p c).steps.length :=
  come1_cases (C := fun q : Pf => p.steps.length ≤ q.steps.length) (Nat.le_refl _) (fun _ => Nat.le_refl _) (by simp)
theorem come_steps {p : Pf} {rule : Int} {frm : List Int} {m : Mk} : p.steps.length ≤ (come p rule frm m).steps.length :=
  foldl_keep (P := fun q : Pf => p.steps.length ≤ q.steps.length) _ _ (Nat.le_refl _) fun q c _ h => Nat.le_trans h come1_steps
theorem come_at {p : Pf} {rule : Int} {frm : List Int} {m : Mk} (i : Nat) (x : Sp) (h : p.steps[i]? = some x) : (come p rule frm m).steps[i]? = some x :=
  foldl_keep (P := fun q : Pf => q.steps[i]? = some x) _ _ h fun q c _ h => come1_cases (C := fun q : Pf => q.steps[i]? = some x) h (fun _ => h) (by
    have hlt := (List.getElem?_eq_some_iff.1 h).1
    show (q.steps ++ _)[i]? = some x
    rw [List.getElem?_append_left hlt]; exact h)
theorem units_sz {S : List Int} {p : Pf} (h : PfOk S p) : UsSz S ((unitsK p).map (clAt p)) := by
  have hk : ∀ u ∈ (unitsK p).map (clAt p), unit u = true ∧ COk S u := fun u hu => by
    obtain ⟨k, hk, rfl⟩ := List.mem_map.1 hu
    obtain ⟨h1, h2⟩ := List.mem_filter.1 hk
    obtain ⟨i, _, _, e, hc⟩ := h.at (h.act k h1)
    exact ⟨h2, by rw [e]; exact hc⟩
  exact ⟨⟨fun u hu => (hk u hu).1, fun u hu => (hk u hu).2.wf⟩, fun u hu => (hk u hu).2.size⟩
def L43 : Tag → Prop := fun t => t = .bx 43 ∨ ∃ q, t = .own (.b 43) 0 q
theorem L430 : L43 (.bx 43) := .inl rfl
theorem L43q (q : Nat) : L43 (.own (.b 43) 0 q) := .inr ⟨q, rfl⟩
abbrev zeroC : List CV := [.val (.slice none 0 0), .val (.slice none 0 0), .val (.slice none 0 0), .val (.slice none 0 0), .val (.int .i64 0), .val (.bool false)]
set_option maxHeartbeats 16000000 in
set_option maxRecDepth 100000 in
theorem spick {S : List Int} {p : Pf} (h : PfGo S p) (hsg : p.sig.length ≤ 1000000) (n : Int) : FnD Tryz.prog 23 [pfA p, iA n] (.tup [pfA (pick p n).1, iA (pick p n).2]) := by
  have hlen := h.ok.len
  have haw := h.aw
  have ho := sown p hsg (by omega) (by omega) (by omega)
  refine Fn.of Tryz.func23 rfl Tryz.ntmps23 rfl (Nat.le_of_ble_eq_true rfl) ?_
  by_cases hdone : 0 ≤ p.found ∨ p.wait.length = 0
  · have e : pick p n = (p, 11) := if_pos hdone
    rw [e]
    by_cases hf : 0 ≤ p.found
    · (refine wlk ?_)
      (refine wlC ho ?_)
      (refine SqA.b2 (op_storeAgg rfl rfl rfl rfl (rw_of rfl) rfl rfl rfl rfl rfl) rfl rfl ?_)
      (refine wlE ?_)
      refine dwp_wk (Wk.freezeB (j := 4) (q := 1) rfl rfl rfl) ?_
      refine dwp_wk (Wk.freezeB (j := 4) (q := 2) rfl rfl rfl) ?_
      refine dwp_wk (Wk.freezeB (j := 4) (q := 3) rfl rfl rfl) ?_
      (refine wlk ?_)
      (refine wfCT ?_)
      rfl
    · have hw0 : p.wait.length = 0 := hdone.resolve_left hf
      (refine wlk ?_)
      (refine wlC ho ?_)
      (refine SqA.b2 (op_storeAgg rfl rfl rfl rfl (rw_of rfl) rfl rfl rfl rfl rfl) rfl rfl ?_)
      (refine wlE ?_)
      refine dwp_wk (Wk.freezeB (j := 4) (q := 1) rfl rfl rfl) ?_
      refine dwp_wk (Wk.freezeB (j := 4) (q := 2) rfl rfl rfl) ?_
      refine dwp_wk (Wk.freezeB (j := 4) (q := 3) rfl rfl rfl) ?_
      (refine wlk ?_)
      (refine wfCT ?_)
      rfl
  have hf : ¬ 0 ≤ p.found := fun h => hdone (.inl h)
  have hw0 : ¬ p.wait.length = 0 := fun h => hdone (.inr h)
  by_cases hbad : n < 0 ∨ (p.wait.length : Int) ≤ n
  · have e : pick p n = (p, 6) := by unfold pick; rw [if_neg hdone, if_pos hbad]
    rw [e]
    by_cases hn0 : n < 0
    · (refine wlk ?_)
      (refine wlC ho ?_)
      (refine SqA.b2 (op_storeAgg rfl rfl rfl rfl (rw_of rfl) rfl rfl rfl rfl rfl) rfl rfl ?_)
      (refine wlE ?_)
      refine dwp_wk (Wk.freezeB (j := 4) (q := 1) rfl rfl rfl) ?_
      refine dwp_wk (Wk.freezeB (j := 4) (q := 2) rfl rfl rfl) ?_
      refine dwp_wk (Wk.freezeB (j := 4) (q := 3) rfl rfl rfl) ?_
      (refine wlk ?_)
      (refine wfCT ?_)
      rfl
    · have hnl := hbad.resolve_left hn0
      (refine wlk ?_)
      (refine wlC ho ?_)
      (refine SqA.b2 (op_storeAgg rfl rfl rfl rfl (rw_of rfl) rfl rfl rfl rfl rfl) rfl rfl ?_)
      (refine wlE ?_)
      refine dwp_wk (Wk.freezeB (j := 4) (q := 1) rfl rfl rfl) ?_
      refine dwp_wk (Wk.freezeB (j := 4) (q := 2) rfl rfl rfl) ?_
      refine dwp_wk (Wk.freezeB (j := 4) (q := 3) rfl rfl rfl) ?_
      (refine wlk ?_)
      (refine wfCT ?_)
      rfl
  have hn0 : 0 ≤ n := by omega
  have hnl : n < p.wait.length := by omega
  obtain ⟨nn, rfl⟩ := Int.eq_ofNat_of_zero_le hn0
  obtain ⟨g, hg⟩ := get_of_lt (s := p.wait) (k := nn) (by omega)
  have hgr := h.ok.wai g (List.mem_of_getElem? hg)
  have hgd : p.wait.getD nn 0 = g := by rw [List.getD_eq_getElem?_getD, hg]; rfl
  have e : pick p (nn : Int) = (pick1 { p with wait := p.wait.eraseIdx nn } g, 0) := by
    unfold pick
    rw [if_neg hdone, if_neg hbad, Int.toNat_natCast, hgd]
  rw [e]
  clear e
  have hwe : (p.wait.eraseIdx nn).length + 1 = p.wait.length := by rw [List.length_eraseIdx_of_lt (by omega)]; omega
  have hq : PfGo S { p with wait := p.wait.eraseIdx nn } := ⟨⟨h.ok.len, h.ok.cok, h.ok.act, fun k hk => h.ok.wai k (List.mem_of_mem_eraseIdx hk)⟩, by simp only; omega⟩
  (refine wlk ?_)
  (refine wlC ho ?_)
  (refine SqA.b2 (op_buildMv (m := 6) rfl rfl fp9 rfl zo21 rfl rfl rfl rfl) rfl rfl ?_)
  (refine SqA.b3 (op_boxOwn rfl rfl rfl rfl rfl rfl) rfl rfl ?_)
  (refine wlE ?_)
  refine dwp_isOB (j := 43) (q := 3) rfl rfl rfl ⟨43, rfl⟩ fun vw => ?_
  (refine wlk ?_)
  (refine SqA.b1 (op_idxK (T := TB) (tp := 6) (j := 43) (q := 3) (k := nn) (q' := nn) rfl rfl rfl rfl rfl rfl rfl rfl rfl rfl (by simp; omega) (Nat.mul_one nn)) rfl rfl ?_)
  (refine SqA.b1 (op_loadKE (f := Int.d) (l := p.wait) (x := g) (k := nn) (tp := 6) (j := 43) (q := 3) rfl rfl (rw_of rfl) rfl rfl rfl rfl rfl hg rfl rfl) rfl rfl ?_)
  (refine wlE ?_)
  refine dwp_wk (Wk.ofKB (j := 43) (q := 3) rfl rfl rfl rfl) ?_
  obtain ⟨sg, st, ac, wa, fo, lo⟩ := p
  dsimp only at *
  obtain ⟨gi, rfl, hst, hcl, hco⟩ := hq.ok.at hgr
  dsimp only at hst
  have hgil := (List.getElem?_eq_some_iff.1 hst).1
  generalize hw2 : wa.eraseIdx nn = wa2 at *
  have hun := sunits hq.ok (by simp only; omega)
  have husz := units_sz hq.ok
  have hrw := pRewrite husz (clAt ⟨sg, st, ac, wa2, fo, lo⟩ (gi : Int)) (by rw [hcl]; exact hco)
  have hcc : (spG (stAt st (gi : Int)))[2]? = some (.arr ((clAt ⟨sg, st, ac, wa2, fo, lo⟩ (gi : Int)).map Lt.d)) := rfl
  have hp1 : pick1 ⟨sg, st, ac, wa2, fo, lo⟩ (gi : Int) = match rewr ((unitsK ⟨sg, st, ac, wa2, fo, lo⟩).map (clAt ⟨sg, st, ac, wa2, fo, lo⟩)) (clAt ⟨sg, st, ac, wa2, fo, lo⟩ (gi : Int)) with
    | (c, e) => if e = 0 then pick2 ⟨sg, st, ac, wa2, fo, lo⟩ (gi : Int) c else ⟨sg, st, ac, wa2, fo, lo || decide (e = 4)⟩ := rfl
  rw [hp1]
  clear hp1
  (refine wlk ?_)
  (refine SqA.b2 (op_del (i := nn) rfl rfl rfl (by kernel_rfl) delI rfl (FCs.lenL wa) rfl rfl rfl rfl (by rw [List.length_map]; omega) ((map_erase _ _ _).trans (by rw [hw2]))) rfl rfl ?_)
  (refine wlk ?_)
  (refine SqA.b2 (op_call (some (43)) rfl rfl rfl (by kernel_rfl) (FnB.use (hun)) rfl rfl rfl rfl rfl rfl) rfl rfl ?_)
  (refine wlE ?_)
  refine dwp_isOB (j := 43) (q := 1) rfl rfl rfl ⟨6, rfl⟩ fun vs => ?_
  (refine wlk ?_)
  (refine SqA.b1 (op_idxK (T := TB) (tp := 6) (j := 43) (q := 1) (k := gi) (q' := gi * 3) rfl rfl rfl rfl rfl rfl rfl rfl rfl rfl (by simp; omega) rfl) rfl rfl ?_)
  (refine SqA.b1 (op_fldK (tp := 6) (j := 43) (q := 1) (k := gi * 3) (off := 2) rfl rfl (fo_of rfl) rfl rfl rfl rfl rfl (by simp; omega)) rfl rfl ?_)
  (refine SqA.b1 (op_loadKR (f := Sp.d) (g := spG) (l := st) (x := stAt st (gi : Int)) (k := gi) (r := 2) (tp := 6) (j := 43) (q := 1) rfl rfl (rw_of rfl) rfl rfl rfl rfl rfl rfl hst hcc rfl) rfl rfl ?_)
  (refine wlk ?_)
  (refine wlC hrw ?_)
  (refine wlE ?_)
  refine dwp_wk (Wk.ofKB (j := 43) (q := 1) rfl rfl rfl rfl) ?_
  rcases hR : rewr ((unitsK ⟨sg, st, ac, wa2, fo, lo⟩).map (clAt ⟨sg, st, ac, wa2, fo, lo⟩)) (clAt ⟨sg, st, ac, wa2, fo, lo⟩ (gi : Int)) with ⟨c, e⟩
  rw [hR] at hrw
  dsimp only
  by_cases he : e = 0
  rotate_left
  · rw [if_neg he]
    cases lo
    · by_cases e4 : e = 4
      · rw [show (false || decide (e = 4)) = true by simp [e4]]
        (refine wlN ?_)
        (refine wlE ?_)
        (refine wlN ?_)
        (refine wlE ?_)
        refine dwp_wk (Wk.freezeB (j := 43) (q := 1) rfl rfl rfl) ?_
        refine dwp_wk (Wk.freezeB (j := 43) (q := 2) rfl rfl rfl) ?_
        refine dwp_wk (Wk.freezeB (j := 43) (q := 3) rfl rfl rfl) ?_
        (refine wlk ?_)
        (refine wfCT ?_)
        rfl
      · rw [show (false || decide (e = 4)) = false by simp [e4]]
        (refine wlN ?_)
        (refine wlE ?_)
        (refine wlN ?_)
        (refine wlE ?_)
        refine dwp_wk (Wk.freezeB (j := 43) (q := 1) rfl rfl rfl) ?_
        refine dwp_wk (Wk.freezeB (j := 43) (q := 2) rfl rfl rfl) ?_
        refine dwp_wk (Wk.freezeB (j := 43) (q := 3) rfl rfl rfl) ?_
        (refine wlk ?_)
        (refine wfCT ?_)
        rfl
    · rw [show (true || decide (e = 4)) = true from rfl]
      (refine wlN ?_)
      (refine wlE ?_)
      (refine wlN ?_)
      (refine wlE ?_)
      refine dwp_wk (Wk.freezeB (j := 43) (q := 1) rfl rfl rfl) ?_
      refine dwp_wk (Wk.freezeB (j := 43) (q := 2) rfl rfl rfl) ?_
      refine dwp_wk (Wk.freezeB (j := 43) (q := 3) rfl rfl rfl) ?_
      (refine wlk ?_)
      (refine wfCT ?_)
      rfl
  subst he
  rw [if_pos rfl]
  have hkc : Kept S c := rewr_kept husz.ok (by rw [hcl]; exact hco.wf) hR
  have hcok := hkc.cok
  have hsm := psameClause c (clAt ⟨sg, st, ac, wa2, fo, lo⟩ (gi : Int))
  refine dwp_isOB (j := 43) (q := 1) rfl rfl rfl ⟨6, rfl⟩ fun vs2 => ?_
  (refine wlk ?_)
  (refine SqA.b1 (op_idxK (T := TB) (tp := 6) (j := 43) (q := 1) (k := gi) (q' := gi * 3) rfl rfl rfl rfl rfl rfl rfl rfl rfl rfl (by simp; omega) rfl) rfl rfl ?_)
  (refine SqA.b1 (op_fldK (tp := 6) (j := 43) (q := 1) (k := gi * 3) (off := 2) rfl rfl (fo_of rfl) rfl rfl rfl rfl rfl (by simp; omega)) rfl rfl ?_)
  (refine SqA.b1 (op_loadKR (f := Sp.d) (g := spG) (l := st) (x := stAt st (gi : Int)) (k := gi) (r := 2) (tp := 6) (j := 43) (q := 1) rfl rfl (rw_of rfl) rfl rfl rfl rfl rfl rfl hst hcc rfl) rfl rfl ?_)
  (refine wlk ?_)
  (refine wlC hsm ?_)
  (refine wlE ?_)
  refine dwp_wk (Wk.ofKB (j := 43) (q := 1) rfl rfl rfl rfl) ?_
  have hstrict : ac.length + wa2.length + 1 ≤ st.length := by omega
  obtain ⟨R2, hR2⟩ : ∃ R2, R2 = pick2 ⟨sg, st, ac, wa2, fo, lo⟩ (gi : Int) c := ⟨_, rfl⟩
  rw [← hR2]
  refine dwp_mid (fun x : Pf × Int => [(.t 4, some (.one (.c (.ptr 4 0)))), (.b 4, some (.box zeroC)), (.t 5, some (.one (iA 0))), (.t 6, some (.one (.c (.ptr 43 0)))), (.b 43, some (.box (pfBox x.1))), (.t 7, some (.one (iA x.2))), (.t 10, some (.one (lA Lt.d c)))])
    (fun x => (x.2 = -1 ∧ R2 = x.1) ∨ (0 ≤ x.2 ∧ x.2 < x.1.steps.length ∧ R2 = pick3 x.1 x.2 c ∧ PfGo S x.1 ∧ x.1.active.length + x.1.wait.length + 1 ≤ x.1.steps.length)) ?_ ?_
  · cases hsame : clSame c (clAt ⟨sg, st, ac, wa2, fo, lo⟩ (gi : Int))
    · have hl1 : [(gi : Int)] ++ unitsK ⟨sg, st, ac, wa2, fo, lo⟩ = (gi : Int) :: unitsK ⟨sg, st, ac, wa2, fo, lo⟩ := rfl
      have hul : (unitsK ⟨sg, st, ac, wa2, fo, lo⟩).length ≤ ac.length := List.length_filter_le ..
      have hadd := sadd ⟨sg, st, ac, wa2, fo, lo⟩ 5 ((gi : Int) :: unitsK ⟨sg, st, ac, wa2, fo, lo⟩) c (by simp only; omega)
      by_cases h120 : 120 ≤ st.length
      · have hp2 : R2 = ⟨sg, st, ac, wa2, fo, true⟩ := by
          rw [hR2]; unfold pick2
          rw [hsame, if_neg (by simp), show stepP ⟨sg, st, ac, wa2, fo, lo⟩ 5 ((gi : Int) :: unitsK ⟨sg, st, ac, wa2, fo, lo⟩) c = (⟨sg, st, ac, wa2, fo, true⟩, false) from if_pos h120]
        rw [stepP_full (by exact h120), show stepN ⟨sg, st, ac, wa2, fo, lo⟩ = -1 from if_pos h120] at hadd
        (refine wlk ?_)
        (refine SqA.b1 (op_bsOT (T := TB) (f := Int.d) [(gi : Int)] rfl rfl rfl rfl rfl rfl rfl rfl rfl rfl rfl rfl) rfl rfl ?_)
        (refine wlk ?_)
        (refine SqA.b3 (Op1.frzIn (t := 119) rfl (op_call (some (43)) rfl rfl rfl (by kernel_rfl) (FnB.use (hadd)) rfl rfl rfl rfl rfl rfl)) rfl rfl ?_)
        (refine wlk ?_)
        exact ⟨rfl, (⟨sg, st, ac, wa2, fo, true⟩, -1), .inl ⟨rfl, hp2⟩, fgs⟩
      · have hadd2 := stepP_ok hq.ok 5 ((gi : Int) :: unitsK ⟨sg, st, ac, wa2, fo, lo⟩) hcok
        rw [stepP_in (by exact h120)] at hadd2
        have hp2 : R2 = pick3 ⟨sg, st ++ [⟨5, (gi : Int) :: unitsK ⟨sg, st, ac, wa2, fo, lo⟩, c⟩], ac, wa2, if c.length = 0 ∧ fo < 0 then (st.length : Int) else fo, lo⟩ (st.length : Int) c := by
          rw [hR2]; unfold pick2
          rw [hsame, if_neg (by simp), show stepP ⟨sg, st, ac, wa2, fo, lo⟩ 5 ((gi : Int) :: unitsK ⟨sg, st, ac, wa2, fo, lo⟩) c = (⟨sg, st ++ [⟨5, (gi : Int) :: unitsK ⟨sg, st, ac, wa2, fo, lo⟩, c⟩], ac, wa2, if c.length = 0 ∧ fo < 0 then (st.length : Int) else fo, lo⟩, true) from if_neg h120]
          simp
        rw [stepP_in (by exact h120), show stepN ⟨sg, st, ac, wa2, fo, lo⟩ = (st.length : Int) from if_neg h120] at hadd
        (refine wlk ?_)
        (refine SqA.b1 (op_bsOT (T := TB) (f := Int.d) [(gi : Int)] rfl rfl rfl rfl rfl rfl rfl rfl rfl rfl rfl rfl) rfl rfl ?_)
        (refine wlk ?_)
        (refine SqA.b3 (Op1.frzIn (t := 119) rfl (op_call (some (43)) rfl rfl rfl (by kernel_rfl) (FnB.use (hadd)) rfl rfl rfl rfl rfl rfl)) rfl rfl ?_)
        (refine wlk ?_)
        exact ⟨rfl, (⟨sg, st ++ [⟨5, (gi : Int) :: unitsK ⟨sg, st, ac, wa2, fo, lo⟩, c⟩], ac, wa2, if c.length = 0 ∧ fo < 0 then (st.length : Int) else fo, lo⟩, (st.length : Int)), .inr ⟨by simp only; omega, by simp only [List.length_append, List.length_cons, List.length_nil]; omega, hp2, ⟨hadd2, by simp only [List.length_append, List.length_cons, List.length_nil]; omega⟩, by simp only [List.length_append, List.length_cons, List.length_nil]; omega⟩, fgs⟩
    · have hp2 : R2 = pick3 ⟨sg, st, ac, wa2, fo, lo⟩ (gi : Int) c := by rw [hR2]; unfold pick2; rw [hsame, if_pos rfl]
      (refine wlk ?_)
      exact ⟨rfl, (⟨sg, st, ac, wa2, fo, lo⟩, (gi : Int)), .inr ⟨by simp only; omega, by simp only; omega, hp2, hq, by simp only; omega⟩, fgs⟩
  clear hR2 hsm hrw hun husz hR hcl hst hq hkc hstrict
  rintro ⟨q, g⟩ (⟨hgm, rfl⟩ | ⟨hg0, hgl, hpk, hqg, hqs⟩)
  · dsimp only at hgm ⊢
    subst hgm
    refine dwp_wk (Wk.freezeB (j := 43) (q := 1) rfl rfl rfl) ?_
    refine dwp_wk (Wk.freezeB (j := 43) (q := 2) rfl rfl rfl) ?_
    refine dwp_wk (Wk.freezeB (j := 43) (q := 3) rfl rfl rfl) ?_
    (refine wlk ?_)
    (refine wfCT ?_)
    rfl
  dsimp only at hg0 hgl hpk hqg hqs ⊢
  have gk := sknown hqg.ok c
  by_cases hf2 : 0 ≤ q.found
  · have e3 : pick3 q g c = q := if_pos (.inl hf2)
    rw [hpk, e3]
    refine dwp_wk (Wk.freezeB (j := 43) (q := 1) rfl rfl rfl) ?_
    refine dwp_wk (Wk.freezeB (j := 43) (q := 2) rfl rfl rfl) ?_
    refine dwp_wk (Wk.freezeB (j := 43) (q := 3) rfl rfl rfl) ?_
    (refine wlk ?_)
    (refine wfCT ?_)
    rfl
  cases hkn : known q c
  rotate_left
  · have e3 : pick3 q g c = q := if_pos (.inr hkn)
    rw [hpk, e3]
    rw [hkn] at gk
    (refine wlk ?_)
    (refine SqA.b1 (op_callL L43 rfl rfl rfl (by kernel_rfl) gk (LendL.cons (lend_box (j := 43) (l := pfL q) rfl rfl rfl rfl L430 L43q) (LendL.cons (lend_same rfl rfl rfl) .nil)) rfl rfl) rfl rfl ?_)
    (refine wlE ?_)
    refine dwp_wk (Wk.freezeB (j := 43) (q := 1) rfl rfl rfl) ?_
    refine dwp_wk (Wk.freezeB (j := 43) (q := 2) rfl rfl rfl) ?_
    refine dwp_wk (Wk.freezeB (j := 43) (q := 3) rfl rfl rfl) ?_
    (refine wlk ?_)
    (refine wfCT ?_)
    rfl
  rw [hkn] at gk
  have e3 : pick3 q g c = pickGo q g c := if_neg (by
    rintro (h1 | h1)
    · exact hf2 h1
    · rw [hkn] at h1; cases h1)
  rw [hpk, e3]
  clear e3 hpk
  have hq1 : PfGo S { q with active := q.active ++ [g] } := ⟨⟨hqg.ok.len, hqg.ok.cok, fun k hk => by
    rcases List.mem_append.1 hk with hk | hk
    · exact hqg.ok.act k hk
    · simp only [List.mem_singleton] at hk; subst hk; exact ⟨hg0, hgl⟩, hqg.ok.wai⟩, by simp only [List.length_append, List.length_cons, List.length_nil]; omega⟩
  have hql := hqg.ok.len
  have cr := presolve hcok.cg
  have cf := pfactor hcok.cg
  have hres : ∀ n ∈ (resolve c).1, COk S n := fun n hn => ((resolve_kept hcok.wf.good).1 n hn).cok
  have hfac : ∀ n ∈ (factor c).1, COk S n := fun n hn => ((factor_kept hcok.wf.good).1 n hn).cok
  have k1 := scome hq1 2 [g] (resolve c).1 (resolve c).2 hres
  have hq2 := come_ok hq1 2 [g] (m := ((resolve c).1, (resolve c).2)) hres
  have k2 := scome hq2.1 3 [g] (factor c).1 (factor c).2 hfac
  have hq3 := come_ok hq2.1 3 [g] (m := ((factor c).1, (factor c).2)) hfac
  have hs3 : q.steps.length ≤ (come (come { q with active := q.active ++ [g] } 2 [g] ((resolve c).1, (resolve c).2)) 3 [g] ((factor c).1, (factor c).2)).steps.length := Nat.le_trans (come_steps (p := { q with active := q.active ++ [g] })) come_steps
  have hgo : pickGo q g c = (q.active ++ [g]).foldl (pickSup g c) (come (come { q with active := q.active ++ [g] } 2 [g] ((resolve c).1, (resolve c).2)) 3 [g] ((factor c).1, (factor c).2)) := rfl
  rw [hgo]
  have hA := hq3.2.trans hq2.2
  have hal : (q.active ++ [g]).length ≤ 1000 := by simp only [List.length_append, List.length_cons, List.length_nil]; omega
  (refine wlk ?_)
  (refine SqA.b1 (op_callL L43 rfl rfl rfl (by kernel_rfl) gk (LendL.cons (lend_box (j := 43) (l := pfL q) rfl rfl rfl rfl L430 L43q) (LendL.cons (lend_same rfl rfl rfl) .nil)) rfl rfl) rfl rfl ?_)
  (refine wlk ?_)
  (refine SqA.b1 (op_bsT (T := TB) (f := Int.d) [g] rfl rfl rfl rfl rfl rfl rfl rfl rfl rfl rfl) rfl rfl ?_)
  (refine wlk ?_)
  (refine wlC cr ?_)
  (refine wlk ?_)
  (refine SqA.b1 (op_bsT (T := TB) (f := Int.d) [g] rfl rfl rfl rfl rfl rfl rfl rfl rfl rfl rfl) rfl rfl ?_)
  (refine wlk ?_)
  (refine SqA.b2 (op_call (some (43)) rfl rfl rfl (by kernel_rfl) (FnB.use (k1)) rfl rfl rfl rfl rfl rfl) rfl rfl ?_)
  (refine wlk ?_)
  (refine wlC cf ?_)
  (refine wlk ?_)
  (refine SqA.b1 (op_bsT (T := TB) (f := Int.d) [g] rfl rfl rfl rfl rfl rfl rfl rfl rfl rfl rfl) rfl rfl ?_)
  (refine wlk ?_)
  (refine SqA.b2 (op_call (some (43)) rfl rfl rfl (by kernel_rfl) (FnB.use (k2)) rfl rfl rfl rfl rfl rfl) rfl rfl ?_)
  (refine wlE ?_)
  dsimp only at hA
  generalize come (come { q with active := q.active ++ [g] } 2 [g] ((resolve c).1, (resolve c).2)) 3 [g] ((factor c).1, (factor c).2) = q3 at *
  rw [← hA] at hal ⊢
  have hg3 := hq3.1
  clear k1 k2 cr cf hq2 hq3 hgo hA hq1 gk hres hfac
  refine dwp_isOB (j := 43) (q := 2) rfl rfl rfl ⟨6, rfl⟩ fun va => ?_
  (refine wlk ?_)
  (refine SqA.b1 (op_lenKT (T := TB) (f := Int.d) (l := q3.active) (tp := 6) (j := 43) (q := 2) rfl rfl rfl rfl rfl rfl rfl rfl) rfl rfl ?_)
  (refine wlk ?_)
  refine dwp_loop (fun x : Nat × Pf => [(.t 4, some (.one (.c (.ptr 4 0)))), (.b 4, some (.box zeroC)), (.t 5, some (.one (iA 0))), (.t 6, some (.one (.c (.ptr 43 0)))), (.b 43, some (.box (pfBoxK va x.2))), (.t 7, some (.one (iA g))), (.t 10, some (.one (lA Lt.d c))), (.t 179, some (.one (.c (.val va)))), (.t 180, some (.one (iA q3.active.length))), (.t 181, some (.one (iA x.1)))])
    (fun x => x.1 ≤ q3.active.length ∧ x.2 = (q3.active.take x.1).foldl (pickSup g c) q3 ∧ PfGo S x.2 ∧ x.2.active = q3.active) (fun x => q3.active.length - x.1) (0, q3) ⟨by simp, rfl, hg3, rfl⟩ fgs ?_
  rintro ⟨k, q4⟩ ⟨hk, hq4, hg4, ha4⟩
  dsimp only at hk hq4 hg4 ha4 ⊢
  by_cases hkl : k < q3.active.length
  rotate_left
  · rw [fold_all _ _ (by omega)] at hq4
    rw [← hq4]
    refine dwp_wk (Wk.ofKB (j := 43) (q := 2) rfl rfl rfl rfl) ?_
    refine dwp_wk (Wk.freezeB (j := 43) (q := 1) rfl rfl rfl) ?_
    refine dwp_wk (Wk.freezeB (j := 43) (q := 2) rfl rfl rfl) ?_
    refine dwp_wk (Wk.freezeB (j := 43) (q := 3) rfl rfl rfl) ?_
    (refine wlk ?_)
    (refine wfCT ?_)
    rfl
  obtain ⟨x, hx⟩ := get_of_lt hkl
  have hnext := fold_take (pickSup g c) q3 hx
  rw [← hq4] at hnext
  have hx4 : q4.active[k]? = some x := by rw [ha4]; exact hx
  have hkl4 : k < q4.active.length := by rw [ha4]; exact hkl
  have hxr := hg4.ok.act x (List.mem_of_getElem? hx4)
  obtain ⟨xi, rfl, hst, hcl, hco⟩ := hg4.ok.at hxr
  have hxil := (List.getElem?_eq_some_iff.1 hst).1
  have hcc : (spG (stAt q4.steps (xi : Int)))[2]? = some (.arr ((clAt q4 (xi : Int)).map Lt.d)) := rfl
  rw [← hcl] at hco
  have cs := psup hco.cg hcok
  have hsk : ∀ n ∈ (sup (clAt q4 (xi : Int)) c).1, COk S n := fun n hn => ((sup_kept hco.wf hcok.wf).1 n hn).cok
  have k4 := scomeK va hg4 4 [(xi : Int), g] (sup (clAt q4 (xi : Int)) c).1 (sup (clAt q4 (xi : Int)) c).2 hsk
  have hg5 := come_ok hg4 4 [(xi : Int), g] (m := ((sup (clAt q4 (xi : Int)) c).1, (sup (clAt q4 (xi : Int)) c).2)) hsk
  have hs5 := come_at (p := q4) (rule := 4) (frm := [(xi : Int), g]) (m := ((sup (clAt q4 (xi : Int)) c).1, (sup (clAt q4 (xi : Int)) c).2)) xi _ hst
  have hps : pickSup g c q4 (xi : Int) = if (xi : Int) = g then come q4 4 [(xi : Int), g] ((sup (clAt q4 (xi : Int)) c).1, (sup (clAt q4 (xi : Int)) c).2) else come (come q4 4 [(xi : Int), g] ((sup (clAt q4 (xi : Int)) c).1, (sup (clAt q4 (xi : Int)) c).2)) 4 [g, (xi : Int)] ((sup c (clAt q4 (xi : Int))).1, (sup c (clAt q4 (xi : Int))).2) := rfl
  rw [hps] at hnext
  refine dwp_isOB (j := 43) (q := 1) rfl rfl rfl ⟨6, rfl⟩ fun vs => ?_
  (refine wlk ?_)
  (refine SqA.b1 (op_idxK (T := TB) (tp := 6) (j := 43) (q := 2) (k := k) (q' := k) rfl rfl rfl rfl rfl rfl rfl rfl rfl rfl (by simp; omega) (Nat.mul_one k)) rfl rfl ?_)
  (refine SqA.b1 (op_loadKE (f := Int.d) (l := q4.active) (x := (xi : Int)) (k := k) (tp := 6) (j := 43) (q := 2) rfl rfl (rw_of rfl) rfl rfl rfl rfl rfl hx4 rfl rfl) rfl rfl ?_)
  (refine wlk ?_)
  (refine SqA.b1 (op_idxK (T := TB) (tp := 6) (j := 43) (q := 1) (k := xi) (q' := xi * 3) rfl rfl rfl rfl rfl rfl rfl rfl rfl rfl (by simp; omega) rfl) rfl rfl ?_)
  (refine SqA.b1 (op_fldK (tp := 6) (j := 43) (q := 1) (k := xi * 3) (off := 2) rfl rfl (fo_of rfl) rfl rfl rfl rfl rfl (by simp; omega)) rfl rfl ?_)
  (refine SqA.b1 (op_loadKR (f := Sp.d) (g := spG) (l := q4.steps) (x := stAt q4.steps (xi : Int)) (k := xi) (r := 2) (tp := 6) (j := 43) (q := 1) rfl rfl (rw_of rfl) rfl rfl rfl rfl rfl rfl hst hcc rfl) rfl rfl ?_)
  (refine wlk ?_)
  (refine wlC cs ?_)
  (refine wlE ?_)
  refine dwp_wk (Wk.ofKB (j := 43) (q := 1) rfl rfl rfl rfl) ?_
  (refine wlk ?_)
  (refine SqA.b1 (op_bsT (T := TB) (f := Int.d) [(xi : Int), g] rfl rfl rfl rfl rfl rfl rfl rfl rfl rfl rfl) rfl rfl ?_)
  (refine wlk ?_)
  (refine SqA.b2 (op_call (some (43)) rfl rfl rfl (by kernel_rfl) (FnB.use (k4)) rfl rfl rfl rfl rfl rfl) rfl rfl ?_)
  (refine wlE ?_)
  by_cases hxg : (xi : Int) = g
  · rw [if_pos hxg] at hnext
    (refine wlk ?_)
    exact ⟨(k + 1, _), ⟨by simp only; omega, hnext.symm, hg5.1, hg5.2.trans ha4⟩, fgs, by simp only; omega⟩
  rw [if_neg hxg] at hnext
  generalize hq5 : come q4 4 [(xi : Int), g] ((sup (clAt q4 (xi : Int)) c).1, (sup (clAt q4 (xi : Int)) c).2) = q5 at *
  obtain ⟨hg5, ha5⟩ := hg5
  have hcl5 : clAt q5 (xi : Int) = clAt q4 (xi : Int) := by
    unfold clAt stAt
    rw [List.getD_eq_getElem?_getD, List.getD_eq_getElem?_getD, Int.toNat_natCast, hs5, hst]
  have hst2 : q5.steps[xi]? = some (stAt q5.steps (xi : Int)) := by
    have : stAt q5.steps (xi : Int) = stAt q4.steps (xi : Int) := by
      unfold stAt
      rw [List.getD_eq_getElem?_getD, List.getD_eq_getElem?_getD, Int.toNat_natCast, hs5, hst]
    rw [this]; exact hs5
  have hxil2 := (List.getElem?_eq_some_iff.1 hst2).1
  have hcc2 : (spG (stAt q5.steps (xi : Int)))[2]? = some (.arr ((clAt q4 (xi : Int)).map Lt.d)) := by rw [← hcl5]; rfl
  have cs2 := psup hcok.cg hco
  have hsk2 : ∀ n ∈ (sup c (clAt q4 (xi : Int))).1, COk S n := fun n hn => ((sup_kept hcok.wf hco.wf).1 n hn).cok
  have k5 := scomeK va hg5 4 [g, (xi : Int)] (sup c (clAt q4 (xi : Int))).1 (sup c (clAt q4 (xi : Int))).2 hsk2
  have hg6 := come_ok hg5 4 [g, (xi : Int)] (m := ((sup c (clAt q4 (xi : Int))).1, (sup c (clAt q4 (xi : Int))).2)) hsk2
  refine dwp_isOB (j := 43) (q := 1) rfl rfl rfl ⟨6, rfl⟩ fun vs2 => ?_
  (refine wlk ?_)
  (refine SqA.b1 (op_idxK (T := TB) (tp := 6) (j := 43) (q := 1) (k := xi) (q' := xi * 3) rfl rfl rfl rfl rfl rfl rfl rfl rfl rfl (by simp; omega) rfl) rfl rfl ?_)
  (refine SqA.b1 (op_fldK (tp := 6) (j := 43) (q := 1) (k := xi * 3) (off := 2) rfl rfl (fo_of rfl) rfl rfl rfl rfl rfl (by simp; omega)) rfl rfl ?_)
  (refine SqA.b1 (op_loadKR (f := Sp.d) (g := spG) (l := q5.steps) (x := stAt q5.steps (xi : Int)) (k := xi) (r := 2) (tp := 6) (j := 43) (q := 1) rfl rfl (rw_of rfl) rfl rfl rfl rfl rfl rfl hst2 hcc2 rfl) rfl rfl ?_)
  (refine wlk ?_)
  (refine wlC cs2 ?_)
  (refine wlE ?_)
  refine dwp_wk (Wk.ofKB (j := 43) (q := 1) rfl rfl rfl rfl) ?_
  (refine wlk ?_)
  (refine SqA.b1 (op_bsT (T := TB) (f := Int.d) [g, (xi : Int)] rfl rfl rfl rfl rfl rfl rfl rfl rfl rfl rfl) rfl rfl ?_)
  (refine wlk ?_)
  (refine SqA.b2 (op_call (some (43)) rfl rfl rfl (by kernel_rfl) (FnB.use (k5)) rfl rfl rfl rfl rfl rfl) rfl rfl ?_)
  (refine wlk ?_)
  exact ⟨(k + 1, _), ⟨by simp only; omega, hnext.symm, hg6.1, (hg6.2.trans ha5).trans ha4⟩, fgs, by simp only; omega⟩
end Go.Proofs.YtmanhdacnkpclaaGreat
namespace Go.Proofs.YtmanhdacnkpclaaGreat
set_option linter.all false
def splitGo (t : List UInt8) : Nat → Nat → Nat → List (List UInt8) → List (List UInt8)
  | 0, _, fr, parts => parts ++ [t.drop fr]
  | f + 1, i, fr, parts => if i + 3 ≤ t.length then (if (t.drop i).take 3 = [32, 124, 32] then splitGo t f (i + 3) (i + 3) (parts ++ [(t.drop fr).take (i - fr)]) else splitGo t f (i + 1) fr parts) else parts ++ [t.drop fr]
def splitB (t : List UInt8) : List (List UInt8) := splitGo t (t.length + 1) 0 0 []
def eqAt : List UInt8 → Nat
  | [] => 0
  | c :: l => if c.toNat = 61 then 0 else eqAt l + 1
def Lt.zero : Lt := ⟨false, Tm.zero, Tm.zero⟩
def negEnd (l : List UInt8) : Bool := match l.getLast? with
  | some c => decide (c.toNat = 33)
  | none => false
def parseLit (s : List Int) (p : List UInt8) : Lt × Int :=
  let k := eqAt p
  if k = p.length then (Lt.zero, 2) else
  let left := p.take k
  let neg := negEnd left
  let l := if neg then left.take (k - 1) else left
  let a := parseTm s l
  if a.2 ≠ 0 then (Lt.zero, a.2) else
  let b := parseTm s (p.drop (k + 1))
  if b.2 ≠ 0 then (Lt.zero, b.2) else (⟨neg, a.1, b.1⟩, 0)
def parseLits (s : List Int) : List (List UInt8) → List Lt × Int
  | [] => ([], 0)
  | p :: ps => let x := parseLit s p
    if x.2 ≠ 0 then ([], x.2) else
    let r := parseLits s ps
    if r.2 ≠ 0 then ([], r.2) else (x.1 :: r.1, 0)
def clauseParse (s : List Int) (text : List UInt8) : List Lt × Int :=
  if wrongSig s ≠ 0 then ([], wrongSig s) else if text = [91, 93] then ([], 0) else
  if 4 < (splitB text).length then ([], 5) else parseLits s (splitB text)
theorem parseLits_ok {s : List Int} : ∀ {ps : List (List UInt8)} {k : Nat}, k ≤ ps.length → (∀ j p, j < k → ps[j]? = some p → (parseLit s p).2 = 0) → parseLits s ps = let r := parseLits s (ps.drop k); if r.2 ≠ 0 then ([], r.2) else ((ps.take k).map (fun p => (parseLit s p).1) ++ r.1, 0)
  | ps, 0, _, _ => by
    have key : ∀ ps, (parseLits s ps).2 ≠ 0 → parseLits s ps = ([], (parseLits s ps).2) := by
      intro ps h
      cases ps with
      | nil => exact absurd rfl h
      | cons p ps =>
        simp only [parseLits] at h ⊢
        split
        · rfl
        · split
          · rfl
          · rename_i h1 h2; simp only [h1, h2, if_false] at h; exact absurd rfl h
    simp only [List.drop_zero, List.take_zero, List.map_nil, List.nil_append]
    split
    · rename_i h; exact key ps h
    · rename_i h
      simp only [ne_eq, Decidable.not_not] at h
      exact Prod.ext rfl h
  | [], k + 1, h, _ => by simp at h
  | p :: ps, k + 1, h, hp => by
    have h0 := hp 0 p (by omega) rfl
    have ih := parseLits_ok (s := s) (ps := ps) (k := k) (by simpa using h) fun j q hj hq => hp (j + 1) q (by omega) (by simpa using hq)
    simp only [parseLits, h0, ne_eq, not_true_eq_false, if_false, List.drop_succ_cons, List.take_succ_cons, List.map_cons]
    rw [ih]
    simp only
    split
    · rename_i h1; simp only [ne_eq] at h1; simp [h1]
    · simp
theorem splitGo_len (t : List UInt8) : ∀ (f i fr : Nat) (parts : List (List UInt8)), ∀ q ∈ splitGo t f i fr parts, q ∈ parts ∨ q.length ≤ t.length
  | 0, i, fr, parts, q, hq => by
    simp only [splitGo, List.mem_append, List.mem_singleton] at hq
    rcases hq with h | rfl
    · exact .inl h
    · right; simp
  | f + 1, i, fr, parts, q, hq => by
    simp only [splitGo] at hq
    split at hq
    · split at hq
      · rcases splitGo_len t f _ _ _ q hq with h | h
        · rcases List.mem_append.1 h with h | h
          · exact .inl h
          · simp only [List.mem_singleton] at h; subst h; right; simp; omega
        · exact .inr h
      · exact splitGo_len t f _ _ _ q hq
    · simp only [List.mem_append, List.mem_singleton] at hq
      rcases hq with h | rfl
      · exact .inl h
      · right; simp
theorem splitB_len {t : List UInt8} : ∀ q ∈ splitB t, q.length ≤ t.length := fun q hq => by
  rcases splitGo_len t _ _ _ _ q hq with h | h
  · cases h
  · exact h
theorem parseLits_bad {s : List Int} {ps : List (List UInt8)} {k : Nat} {p : List UInt8} {e : Int} (h : ∀ j p, j < k → ps[j]? = some p → (parseLit s p).2 = 0) (hp : ps[k]? = some p) (he : (parseLit s p).2 = e) (h0 : e ≠ 0) : parseLits s ps = ([], e) := by
  have hk := (List.getElem?_eq_some_iff.1 hp).1
  rw [parseLits_ok (Nat.le_of_lt hk) h]
  have : ps.drop k = p :: ps.drop (k + 1) := by
    obtain ⟨_, e⟩ := List.getElem?_eq_some_iff.1 hp
    rw [← e]; exact List.drop_eq_getElem_cons hk
  rw [this]
  simp [parseLits, he, h0]
end Go.Proofs.YtmanhdacnkpclaaGreat
