/- What functions do: a literal said into another clause's. -/
import Derived.Test.YtmanhdacnkpclaaGreatzt16
import Derived.Test.YtmanhdacnkpclaaGreatzt15
import Derived.Test.YtmanhdacnkpclaaGreatzt10
/- What functions do: a literal said into another clause's. -/
namespace Go.Proofs.YtmanhdacnkpclaaGreat
set_option linter.all false
open Go.RowKit
abbrev twA (p : Tm × Tm) : A1 := .agg [.val (.bool p.1.var), .val (.int .i64 p.1.n), .arr (p.1.args.map Tm.d), .val (.bool p.2.var), .val (.int .i64 p.2.n), .arr (p.2.args.map Tm.d)]
abbrev ltG : Lt → List FC := fun p => [.val (.bool p.neg), .val (.bool p.left.var), .val (.int .i64 p.left.n), .arr (p.left.args.map Tm.d), .val (.bool p.right.var), .val (.int .i64 p.right.n), .arr (p.right.args.map Tm.d)]
set_option maxHeartbeats 16000000 in
set_option maxRecDepth 100000 in
theorem pinto {S : List Int} {c d : List Lt} (h : CG S c) (hd : CG S d) {i j : Nat} {x : Lt} {a : Tm × Tm} (hx : c[i]? = some x) (ha : a ∈ waysL x) (hj : j < d.length) (m : Mk) (hm : m.1.length ≤ 100000) :
    FnB Tryz.prog 96 [.c (.ptr EXT 0), twA a, lA Lt.d (c.eraseIdx i), lA Lt.d d, iA j] (mkBox m) (.tup []) (mkBox (sup3 a (c.eraseIdx i) d m j)) := by
  obtain ⟨a1, a2⟩ := a
  have hdl := hd.len
  have hel := (h.erase i).len
  obtain ⟨y, hy⟩ := get_of_lt hj
  have oa := h.way hx ha
  dsimp only at oa
  have hs3 : sup3 (a1, a2) (c.eraseIdx i) d m j = [false, true].foldl (sup2 (a1, a2) (c.eraseIdx i) d j y) m := by unfold sup3; rw [hy]
  rw [hs3]
  refine Fn.of Tryz.func96 rfl Tryz.ntmps96 rfl (Nat.le_of_ble_eq_true rfl) ?_
  (refine wlk ?_)
  (refine SqA.b1 (op_call none rfl rfl rfl (by kernel_rfl) (FnD.use (pways y)) rfl rfl rfl rfl rfl rfl) rfl rfl ?_)
  (refine wlk ?_)
  refine dwp_loop (fun z : Nat × Mk => [(.t 0, some (.one (.c (.ptr EXT 0)))), (.b EXT, some (.box (mkBox z.2))), (.t 2, some (.one (lA Lt.d (c.eraseIdx i)))), (.t 3, some (.one (lA Lt.d d))), (.t 4, some (.one (iA j))), (.t 6, some (.one (.c (.ptr 6 0)))), (.b 6, some (.box ((tA a1).cells ++ (tA a2).cells))),
      (.t 24, some (.one (lA Tw.d (waysL y)))), (.t 25, some (.one (iA (waysL y).length))), (.t 26, some (.one (iA z.1)))])
    (fun z => z.1 ≤ 2 ∧ z.2 = ([false, true].take z.1).foldl (sup2 (a1, a2) (c.eraseIdx i) d j y) m ∧ z.2.1.length ≤ 100000 + 12 * z.1) (fun z => 2 - z.1) (0, m) ⟨by simp only; omega, rfl, by simp only; omega⟩ fgs ?_
  rintro ⟨s, m1⟩ ⟨hs2, hm1, hb1⟩
  dsimp only at hs2 hm1 hb1 ⊢
  have hwl : (waysL y).length = 2 := rfl
  by_cases hsl : s < 2
  rotate_left
  · have : s = 2 := by omega
    subst this
    (refine wlk ?_)
    (refine wbU ?_)
    exact XB rfl (by rw [hm1]; rfl)
  obtain ⟨side, hside, hw, hsd⟩ := side_at hsl y
  have hnext := fold_take (sup2 (a1, a2) (c.eraseIdx i) d j y) m hside
  rw [← hm1] at hnext
  have ow := hd.turn hy side
  have hs2' : sup2 (a1, a2) (c.eraseIdx i) d j y m1 side = (places (turnL side y).left).foldl (sup1 (a1, a2) (c.eraseIdx i) d j y side ((turnL side y).left, (turnL side y).right)) m1 := rfl
  rw [hs2'] at hnext
  have hpl := places_len (turnL side y).left
  have hok := fun p s hp hs => CG.sup (side := side) (p := p) (s := s) h hd hx hy ha hp hs
  unfold supCl at hok
  dsimp only at hok
  clear hs2' hside
  generalize hW1 : (turnL side y).left = w1 at *
  generalize hW2 : (turnL side y).right = w2 at *
  have hz1 := ow.1.1.size
  (refine wlk ?_)
  (refine SqA.b1 (op_idx2B (k := 0) rfl rfl rfl rfl rfl (by decide)) rfl rfl ?_)
  (refine wlk ?_)
  (refine SqA.b1 (op_call none rfl rfl rfl (by kernel_rfl) (FnD.use (pplaces w1 (by omega))) rfl rfl rfl rfl rfl rfl) rfl rfl ?_)
  (refine wlk ?_)
  refine dwp_loop (fun z : Nat × Mk => [(.t 0, some (.one (.c (.ptr EXT 0)))), (.b EXT, some (.box (mkBox z.2))), (.t 2, some (.one (lA Lt.d (c.eraseIdx i)))), (.t 3, some (.one (lA Lt.d d))), (.t 4, some (.one (iA j))), (.t 6, some (.one (.c (.ptr 6 0)))), (.b 6, some (.box ((tA a1).cells ++ (tA a2).cells))),
      (.t 24, some (.one (lA Tw.d (waysL y)))), (.t 25, some (.one (iA (waysL y).length))), (.t 26, some (.one (iA s))), (.t 10, some (.one (iA s))), (.t 11, some (.one (.c (.ptr 11 0)))), (.b 11, some (.box ((tA w1).cells ++ (tA w2).cells))), (.t 33, some (.one (lA Is.d (places w1)))), (.t 34, some (.one (iA (places w1).length))), (.t 35, some (.one (iA z.1)))])
    (fun z => z.1 ≤ (places w1).length ∧ z.2 = ((places w1).take z.1).foldl (sup1 (a1, a2) (c.eraseIdx i) d j y side (w1, w2)) m1 ∧ z.2.1.length ≤ 100000 + 12 * s + z.1) (fun z => (places w1).length - z.1) (0, m1) ⟨by simp only; omega, rfl, by simp only; omega⟩ fgs ?_
  rintro ⟨q, m2⟩ ⟨hq, hm2, hb2⟩
  dsimp only at hq hm2 hb2 ⊢
  by_cases hql : q < (places w1).length
  rotate_left
  · rw [fold_all _ _ (by omega)] at hm2
    rw [← hm2] at hnext
    (refine wlk ?_)
    exact ⟨(s + 1, m2), ⟨by simp only; omega, hnext.symm, by simp only; omega⟩, fgs, by simp only; omega⟩
  obtain ⟨p, hp⟩ := get_of_lt hql
  have hpm := List.mem_of_getElem? hp
  have hnext2 := fold_take (sup1 (a1, a2) (c.eraseIdx i) d j y side (w1, w2)) m1 hp
  rw [← hm2] at hnext2
  have hlen2 := sup1_len (a1, a2) (c.eraseIdx i) d j y side (w1, w2) m2 p
  have oat := ow.1.1.at ow.1.2 hpm
  have hu := bunify oa.1.1 oat
  have hat := pat p w1
  cases hs : unify a1 (at_ w1 p).1 with
  | none =>
    rw [hs] at hu
    have hf1 : sup1 (a1, a2) (c.eraseIdx i) d j y side (w1, w2) m2 p = m2 := by unfold sup1; simp [hs]
    rw [hf1] at hnext2
    (refine wlk ?_)
    (refine SqA.b1 (op_idx2B (k := 0) rfl rfl rfl rfl rfl (by decide)) rfl rfl ?_)
    (refine wlk ?_)
    (refine wlC hat ?_)
    (refine wlk ?_)
    (refine SqA.b1 (op_idx2B (k := 0) rfl rfl rfl rfl rfl (by decide)) rfl rfl ?_)
    (refine wlk ?_)
    (refine wlC hu ?_)
    (refine wlk ?_)
    exact ⟨(q + 1, m2), ⟨by simp only; omega, hnext2.symm, by simp only; omega⟩, fgs, by simp only; omega⟩
  | some sb =>
    rw [hs] at hu
    have u1 := uok_of oa.1.1 oat hs oa.1.1
    have u2 := uok_of oa.1.1 oat hs oa.2.1
    have u3 := uok_of oa.1.1 oat hs ow.1.1
    have u4 := uok_of oa.1.1 oat hs ow.2.1
    have z1 := oa.1.1.size
    have z2 := oa.2.1.size
    have z4 := ow.2.1.size
    have g1 := bapply sb a1 (by omega)
    have g2 := bapply sb a2 (by omega)
    have g3 := bapply sb w1 (by omega)
    have g4 := bapply sb w2 (by omega)
    have k1 := pcompare (app sb a1) (app sb a2) (by omega) (by omega) u1.2 u2.2
    have k2 := pcompare (app sb w1) (app sb w2) (by omega) (by omega) u3.2 u4.2
    have l1 := compare_less u1.2 u2.2
    have l2 := compare_less u3.2 u4.2
    by_cases c1 : compare (app sb a1) (app sb a2) = 1
    · have hf1 : sup1 (a1, a2) (c.eraseIdx i) d j y side (w1, w2) m2 p = m2 := by unfold sup1; simp [hs, l1.1 c1]
      rw [hf1] at hnext2
      (refine wlk ?_)
      (refine SqA.b1 (op_idx2B (k := 0) rfl rfl rfl rfl rfl (by decide)) rfl rfl ?_)
      (refine wlk ?_)
      (refine wlC hat ?_)
      (refine wlk ?_)
      (refine SqA.b1 (op_idx2B (k := 0) rfl rfl rfl rfl rfl (by decide)) rfl rfl ?_)
      (refine wlk ?_)
      (refine wlC hu ?_)
      (refine wlk ?_)
      (refine SqA.b1 (op_idx2B (k := 0) rfl rfl rfl rfl rfl (by decide)) rfl rfl ?_)
      (refine wlk ?_)
      (refine wlC g1 ?_)
      (refine wlk ?_)
      (refine SqA.b1 (op_idx2B (k := 1) rfl rfl rfl rfl rfl (by decide)) rfl rfl ?_)
      (refine wlk ?_)
      (refine wlC g2 ?_)
      (refine wlk ?_)
      (refine wlC k1 ?_)
      (refine wlk ?_)
      exact ⟨(q + 1, m2), ⟨by simp only; omega, hnext2.symm, by simp only; omega⟩, fgs, by simp only; omega⟩
    by_cases c2 : compare (app sb w1) (app sb w2) = 1
    · have hf1 : sup1 (a1, a2) (c.eraseIdx i) d j y side (w1, w2) m2 p = m2 := by unfold sup1; simp [hs, l2.1 c2]
      rw [hf1] at hnext2
      (refine wlk ?_)
      (refine SqA.b1 (op_idx2B (k := 0) rfl rfl rfl rfl rfl (by decide)) rfl rfl ?_)
      (refine wlk ?_)
      (refine wlC hat ?_)
      (refine wlk ?_)
      (refine SqA.b1 (op_idx2B (k := 0) rfl rfl rfl rfl rfl (by decide)) rfl rfl ?_)
      (refine wlk ?_)
      (refine wlC hu ?_)
      (refine wlk ?_)
      (refine SqA.b1 (op_idx2B (k := 0) rfl rfl rfl rfl rfl (by decide)) rfl rfl ?_)
      (refine wlk ?_)
      (refine wlC g1 ?_)
      (refine wlk ?_)
      (refine SqA.b1 (op_idx2B (k := 1) rfl rfl rfl rfl rfl (by decide)) rfl rfl ?_)
      (refine wlk ?_)
      (refine wlC g2 ?_)
      (refine wlk ?_)
      (refine wlC k1 ?_)
      (refine wlk ?_)
      (refine SqA.b1 (op_idx2B (k := 0) rfl rfl rfl rfl rfl (by decide)) rfl rfl ?_)
      (refine wlk ?_)
      (refine wlC g3 ?_)
      (refine wlk ?_)
      (refine SqA.b1 (op_idx2B (k := 1) rfl rfl rfl rfl rfl (by decide)) rfl rfl ?_)
      (refine wlk ?_)
      (refine wlC g4 ?_)
      (refine wlk ?_)
      (refine wlC k2 ?_)
      (refine wlk ?_)
      exact ⟨(q + 1, m2), ⟨by simp only; omega, hnext2.symm, by simp only; omega⟩, fgs, by simp only; omega⟩
    · have n1 : above (app sb a2) (app sb a1) = false := by
        cases e : above (app sb a2) (app sb a1)
        · rfl
        · exact absurd (l1.2 e) c1
      have n2 : above (app sb w2) (app sb w1) = false := by
        cases e : above (app sb w2) (app sb w1)
        · rfl
        · exact absurd (l2.2 e) c2
      have hf1 : sup1 (a1, a2) (c.eraseIdx i) d j y side (w1, w2) m2 p = addR m2 sb (c.eraseIdx i ++ d.set j (turnL side ⟨y.neg, put w1 p a2, w2⟩)) := by unfold sup1; simp [hs, n1, n2]
      rw [hf1] at hnext2 hlen2
      have hok := hok p sb hpm hs
      have hput := pput a2 p w1 (by omega)
      have hsl : (d.set j (turnL side ⟨y.neg, put w1 p a2, w2⟩)).length = d.length := List.length_set ..
      have hfl : [c.eraseIdx i, d.set j (turnL side ⟨y.neg, put w1 p a2, w2⟩)].flatten = c.eraseIdx i ++ d.set j (turnL side ⟨y.neg, put w1 p a2, w2⟩) := by simp
      have hcc := pconcat [c.eraseIdx i, d.set j (turnL side ⟨y.neg, put w1 p a2, w2⟩)] (by simp [lensL]; omega)
      rw [hfl] at hcc
      have hadd := padd m2 sb (c.eraseIdx i ++ d.set j (turnL side ⟨y.neg, put w1 p a2, w2⟩)) hok.sz hok.len hok.okv hok.few hok.sz2 (by omega)
      have hcl := cloneL d (by omega)
      rcases hsd with ⟨rfl, rfl⟩ | ⟨rfl, rfl⟩
      · (refine wlk ?_)
        (refine SqA.b1 (op_idx2B (k := 0) rfl rfl rfl rfl rfl (by decide)) rfl rfl ?_)
        (refine wlk ?_)
        (refine wlC hat ?_)
        (refine wlk ?_)
        (refine SqA.b1 (op_idx2B (k := 0) rfl rfl rfl rfl rfl (by decide)) rfl rfl ?_)
        (refine wlk ?_)
        (refine wlC hu ?_)
        (refine wlk ?_)
        (refine SqA.b1 (op_idx2B (k := 0) rfl rfl rfl rfl rfl (by decide)) rfl rfl ?_)
        (refine wlk ?_)
        (refine wlC g1 ?_)
        (refine wlk ?_)
        (refine SqA.b1 (op_idx2B (k := 1) rfl rfl rfl rfl rfl (by decide)) rfl rfl ?_)
        (refine wlk ?_)
        (refine wlC g2 ?_)
        (refine wlk ?_)
        (refine wlC k1 ?_)
        (refine wlk ?_)
        (refine SqA.b1 (op_idx2B (k := 0) rfl rfl rfl rfl rfl (by decide)) rfl rfl ?_)
        (refine wlk ?_)
        (refine wlC g3 ?_)
        (refine wlk ?_)
        (refine SqA.b1 (op_idx2B (k := 1) rfl rfl rfl rfl rfl (by decide)) rfl rfl ?_)
        (refine wlk ?_)
        (refine wlC g4 ?_)
        (refine wlk ?_)
        (refine wlC k2 ?_)
        (refine wlk ?_)
        (refine SqA.b1 (op_idx2B (k := 0) rfl rfl rfl rfl rfl (by decide)) rfl rfl ?_)
        (refine wlk ?_)
        (refine SqA.b1 (op_idx2B (k := 1) rfl rfl rfl rfl rfl (by decide)) rfl rfl ?_)
        (refine wlk ?_)
        (refine wlC hput ?_)
        (refine wlk ?_)
        (refine SqA.b1 (op_idx2B (k := 1) rfl rfl rfl rfl rfl (by decide)) rfl rfl ?_)
        (refine wlk ?_)
        (refine wlC hcl ?_)
        (refine wlE ?_)
        refine dwp_wk (σ' := [(.t 0, some (.one (.c (.ptr EXT 0)))), (.b EXT, some (.box (mkBox m2))), (.t 2, some (.one (lA Lt.d (c.eraseIdx i)))), (.t 3, some (.one (lA Lt.d d))), (.t 4, some (.one (iA j))), (.t 6, some (.one (.c (.ptr 6 0)))), (.b 6, some (.box ((tA a1).cells ++ (tA a2).cells))),
          (.t 24, some (.one (lA Tw.d (waysL y)))), (.t 25, some (.one (iA (waysL y).length))), (.t 26, some (.one (iA (1 : Nat)))), (.t 10, some (.one (iA (1 : Nat)))), (.t 11, some (.one (.c (.ptr 11 0)))), (.b 11, some (.box ((tA w1).cells ++ (tA w2).cells))), (.t 33, some (.one (lA Is.d (places w1)))), (.t 34, some (.one (iA (places w1).length))), (.t 35, some (.one (iA q))),
          (.t 16, some (.one (lA Pr.d sb))), (.t 18, some (.one (.c (.ptr 18 0)))), (.b 18, some (.box (ltA (turnL true ⟨y.neg, put w1 p a2, w2⟩)).cells)), (.t 19, some (.one (.c (.own 77 7 (d.map Lt.d)))))]) fgs ?_
        refine dwp_ownEls (f := Lt.d) (g := ltG) (t := 19) rfl (by omega) rfl rfl rfl rfl fun e => ?_
        (refine wlk ?_)
        (refine SqA.b1 (op_storeEl0 (g := ltG) (m := 7) (fun _ => rfl) (turnL true ⟨y.neg, put w1 p a2, w2⟩) rfl rfl (rw_of rfl) rfl rfl rfl rfl rfl rfl rfl rfl hj rfl) rfl rfl ?_)
        (refine wlE ?_)
        refine dwp_wk (Wk.frzSlG (f := Lt.d) (g := ltG) (t := 19) (j := 19) (k := d.length) (l := d.set j (turnL true ⟨y.neg, put w1 p a2, w2⟩)) rfl rfl (els_take _ _) hsl rfl rfl) ?_
        (refine wlk ?_)
        (refine SqA.b1 (op_bsT (T := TB) (f := Cl.d) [c.eraseIdx i, d.set j (turnL true ⟨y.neg, put w1 p a2, w2⟩)] rfl rfl rfl rfl rfl rfl rfl rfl rfl rfl rfl) rfl rfl ?_)
        (refine wlk ?_)
        (refine wlC hcc ?_)
        (refine SqA.b3 (Op1.frzIn (t := 112) rfl (op_call (some (EXT)) rfl rfl rfl (by kernel_rfl) (FnB.use (hadd)) rfl rfl rfl rfl rfl rfl)) rfl rfl ?_)
        (refine wlk ?_)
        exact ⟨(q + 1, addR m2 sb (c.eraseIdx i ++ d.set j (turnL true ⟨y.neg, put w1 p a2, w2⟩))), ⟨by simp only; omega, hnext2.symm, by simp only; omega⟩, fgs, by simp only; omega⟩
      · (refine wlk ?_)
        (refine SqA.b1 (op_idx2B (k := 0) rfl rfl rfl rfl rfl (by decide)) rfl rfl ?_)
        (refine wlk ?_)
        (refine wlC hat ?_)
        (refine wlk ?_)
        (refine SqA.b1 (op_idx2B (k := 0) rfl rfl rfl rfl rfl (by decide)) rfl rfl ?_)
        (refine wlk ?_)
        (refine wlC hu ?_)
        (refine wlk ?_)
        (refine SqA.b1 (op_idx2B (k := 0) rfl rfl rfl rfl rfl (by decide)) rfl rfl ?_)
        (refine wlk ?_)
        (refine wlC g1 ?_)
        (refine wlk ?_)
        (refine SqA.b1 (op_idx2B (k := 1) rfl rfl rfl rfl rfl (by decide)) rfl rfl ?_)
        (refine wlk ?_)
        (refine wlC g2 ?_)
        (refine wlk ?_)
        (refine wlC k1 ?_)
        (refine wlk ?_)
        (refine SqA.b1 (op_idx2B (k := 0) rfl rfl rfl rfl rfl (by decide)) rfl rfl ?_)
        (refine wlk ?_)
        (refine wlC g3 ?_)
        (refine wlk ?_)
        (refine SqA.b1 (op_idx2B (k := 1) rfl rfl rfl rfl rfl (by decide)) rfl rfl ?_)
        (refine wlk ?_)
        (refine wlC g4 ?_)
        (refine wlk ?_)
        (refine wlC k2 ?_)
        (refine wlk ?_)
        (refine SqA.b1 (op_idx2B (k := 0) rfl rfl rfl rfl rfl (by decide)) rfl rfl ?_)
        (refine wlk ?_)
        (refine SqA.b1 (op_idx2B (k := 1) rfl rfl rfl rfl rfl (by decide)) rfl rfl ?_)
        (refine wlk ?_)
        (refine wlC hput ?_)
        (refine wlk ?_)
        (refine SqA.b1 (op_idx2B (k := 1) rfl rfl rfl rfl rfl (by decide)) rfl rfl ?_)
        (refine wlk ?_)
        (refine wlC hcl ?_)
        (refine wlE ?_)
        refine dwp_wk (σ' := [(.t 0, some (.one (.c (.ptr EXT 0)))), (.b EXT, some (.box (mkBox m2))), (.t 2, some (.one (lA Lt.d (c.eraseIdx i)))), (.t 3, some (.one (lA Lt.d d))), (.t 4, some (.one (iA j))), (.t 6, some (.one (.c (.ptr 6 0)))), (.b 6, some (.box ((tA a1).cells ++ (tA a2).cells))),
          (.t 24, some (.one (lA Tw.d (waysL y)))), (.t 25, some (.one (iA (waysL y).length))), (.t 26, some (.one (iA (0 : Nat)))), (.t 10, some (.one (iA (0 : Nat)))), (.t 11, some (.one (.c (.ptr 11 0)))), (.b 11, some (.box ((tA w1).cells ++ (tA w2).cells))), (.t 33, some (.one (lA Is.d (places w1)))), (.t 34, some (.one (iA (places w1).length))), (.t 35, some (.one (iA q))),
          (.t 16, some (.one (lA Pr.d sb))), (.t 18, some (.one (.c (.ptr 18 0)))), (.b 18, some (.box (ltA (turnL false ⟨y.neg, put w1 p a2, w2⟩)).cells)), (.t 19, some (.one (.c (.own 77 7 (d.map Lt.d)))))]) fgs ?_
        refine dwp_ownEls (f := Lt.d) (g := ltG) (t := 19) rfl (by omega) rfl rfl rfl rfl fun e => ?_
        (refine wlk ?_)
        (refine SqA.b1 (op_storeEl0 (g := ltG) (m := 7) (fun _ => rfl) (turnL false ⟨y.neg, put w1 p a2, w2⟩) rfl rfl (rw_of rfl) rfl rfl rfl rfl rfl rfl rfl rfl hj rfl) rfl rfl ?_)
        (refine wlE ?_)
        refine dwp_wk (Wk.frzSlG (f := Lt.d) (g := ltG) (t := 19) (j := 19) (k := d.length) (l := d.set j (turnL false ⟨y.neg, put w1 p a2, w2⟩)) rfl rfl (els_take _ _) hsl rfl rfl) ?_
        (refine wlk ?_)
        (refine SqA.b1 (op_bsT (T := TB) (f := Cl.d) [c.eraseIdx i, d.set j (turnL false ⟨y.neg, put w1 p a2, w2⟩)] rfl rfl rfl rfl rfl rfl rfl rfl rfl rfl rfl) rfl rfl ?_)
        (refine wlk ?_)
        (refine wlC hcc ?_)
        (refine SqA.b3 (Op1.frzIn (t := 112) rfl (op_call (some (EXT)) rfl rfl rfl (by kernel_rfl) (FnB.use (hadd)) rfl rfl rfl rfl rfl rfl)) rfl rfl ?_)
        (refine wlk ?_)
        exact ⟨(q + 1, addR m2 sb (c.eraseIdx i ++ d.set j (turnL false ⟨y.neg, put w1 p a2, w2⟩))), ⟨by simp only; omega, hnext2.symm, by simp only; omega⟩, fgs, by simp only; omega⟩
end Go.Proofs.YtmanhdacnkpclaaGreat
/- What functions do: Sup, of the program. -/
namespace Go.Proofs.YtmanhdacnkpclaaGreat
set_option linter.all false
open Go.RowKit
set_option maxHeartbeats 16000000 in
set_option maxRecDepth 100000 in
theorem psup {S : List Int} {c d : List Lt} (h : CG S c) (h0 : COk S d) : FnD Tryz.prog 54 [lA Lt.d c, lA Lt.d d] (.tup [lA Cl.d (sup c d).1, bA (sup c d).2]) := by
  have hl4 := h.len
  have hl5 := h0.len
  have hren := prenameC 5 (by decide) (by decide) d (by omega) (fun l hl => by have := h0.size l hl; omega) h0.wf.ar.okv
  have hsup : sup c d = supD c (each (ren 5) d) := rfl
  rw [hsup]
  have hd := h0.cgr
  clear hsup
  generalize each (ren 5) d = d' at *
  have hld := hd.len
  refine Fn.of Tryz.func54 rfl Tryz.ntmps54 rfl (Nat.le_of_ble_eq_true rfl) ?_
  (refine wlk ?_)
  (refine wlC hren ?_)
  (refine wlk ?_)
  refine dwp_loop (fun x : Nat × Mk => [(.t 0, some (.one (lA Lt.d c))), (.t 1, some (.one (lA Lt.d d'))), (.t 6, some (.one (.c (.ptr 13 0)))), (.b 13, some (.box (mkBox x.2))), (.t 16, some (.one (lA Lt.d c))), (.t 17, some (.one (iA c.length))), (.t 18, some (.one (iA x.1)))])
    (fun x => x.1 ≤ c.length ∧ x.2 = (List.range x.1).foldl (sup5 c d') ([], false) ∧ x.2.1.length ≤ 1000 * x.1) (fun x => c.length - x.1) (0, [], false) ⟨by simp, rfl, by simp⟩ ((Wk.nilOwnB (j := 13) (q := 0) (E := 39) (m := 1) rfl rfl rfl).trans fgs) ?_
  rintro ⟨i, m1⟩ ⟨hk, hm, hb1⟩
  dsimp only at hk hm hb1 ⊢
  by_cases hkl : i < c.length
  rotate_left
  · have hkc : i = c.length := by omega
    subst hkc
    refine dwp_wk (Wk.freezeB (j := 13) (q := 0) rfl rfl rfl) ?_
    (refine wlk ?_)
    (refine wfTT ?_)
    rw [hm]
    rfl
  obtain ⟨x, hx⟩ := get_of_lt hkl
  have hnext := range_fold (sup5 c d') ([], false) i
  rw [← hm] at hnext
  cases hxn : x.neg
  rotate_left
  · have hf5 : sup5 c d' m1 i = m1 := by unfold sup5; rw [hx]; simp [hxn]
    rw [hf5] at hnext
    (refine wlk ?_)
    exact ⟨(i + 1, m1), ⟨by simp only; omega, hnext.symm, by simp only; omega⟩, fgs, by simp only; omega⟩
  have hf5 : sup5 c d' m1 i = (waysL x).foldl (sup4 (c.eraseIdx i) d') m1 := by unfold sup5; rw [hx]; simp [hxn]
  rw [hf5] at hnext
  have hwl : (waysL x).length = 2 := rfl
  (refine wlk ?_)
  (refine SqA.b1 (op_call none rfl rfl rfl (by kernel_rfl) (FnD.use (pways x)) rfl rfl rfl rfl rfl rfl) rfl rfl ?_)
  (refine wlk ?_)
  refine dwp_loop (fun z : Nat × Mk => [(.t 0, some (.one (lA Lt.d c))), (.t 1, some (.one (lA Lt.d d'))), (.t 6, some (.one (.c (.ptr 13 0)))), (.b 13, some (.box (mkBox z.2))), (.t 7, some (.one (iA i))), (.t 16, some (.one (lA Lt.d c))), (.t 17, some (.one (iA c.length))), (.t 18, some (.one (iA i))),
      (.t 26, some (.one (lA Tw.d (waysL x)))), (.t 27, some (.one (iA (waysL x).length))), (.t 28, some (.one (iA z.1)))])
    (fun z => z.1 ≤ 2 ∧ z.2 = ((waysL x).take z.1).foldl (sup4 (c.eraseIdx i) d') m1 ∧ z.2.1.length ≤ 1000 * i + 100 * z.1) (fun z => 2 - z.1) (0, m1) ⟨by simp only; omega, rfl, by simp only; omega⟩ fgs ?_
  rintro ⟨p, m2⟩ ⟨hp, hm2, hb2⟩
  dsimp only at hp hm2 hb2 ⊢
  by_cases hpl : p < 2
  rotate_left
  · rw [fold_all _ _ (by omega)] at hm2
    rw [← hm2] at hnext
    (refine wlk ?_)
    exact ⟨(i + 1, m2), ⟨by simp only; omega, hnext.symm, by simp only; omega⟩, fgs, by simp only; omega⟩
  obtain ⟨⟨a1, a2⟩, ha⟩ := get_of_lt (s := waysL x) (k := p) (by omega)
  have hnext2 := fold_take (sup4 (c.eraseIdx i) d') m1 ha
  rw [← hm2] at hnext2
  cases hav : a1.var
  rotate_left
  · have hf4 : sup4 (c.eraseIdx i) d' m2 (a1, a2) = m2 := by unfold sup4; simp [hav]
    rw [hf4] at hnext2
    (refine wlk ?_)
    (refine SqA.b1 (op_idx2B (k := 0) rfl rfl rfl rfl rfl (by decide)) rfl rfl ?_)
    (refine wlk ?_)
    exact ⟨(p + 1, m2), ⟨by simp only; omega, hnext2.symm, by simp only; omega⟩, fgs, by simp only; omega⟩
  have hf4 : sup4 (c.eraseIdx i) d' m2 (a1, a2) = (List.range d'.length).foldl (sup3 (a1, a2) (c.eraseIdx i) d') m2 := by unfold sup4; simp [hav]
  rw [hf4] at hnext2
  (refine wlk ?_)
  (refine SqA.b1 (op_idx2B (k := 0) rfl rfl rfl rfl rfl (by decide)) rfl rfl ?_)
  (refine wlk ?_)
  refine dwp_loop (fun z : Nat × Mk => [(.t 0, some (.one (lA Lt.d c))), (.t 1, some (.one (lA Lt.d d'))), (.t 6, some (.one (.c (.ptr 13 0)))), (.b 13, some (.box (mkBox z.2))), (.t 7, some (.one (iA i))), (.t 16, some (.one (lA Lt.d c))), (.t 17, some (.one (iA c.length))), (.t 18, some (.one (iA i))),
      (.t 26, some (.one (lA Tw.d (waysL x)))), (.t 27, some (.one (iA (waysL x).length))), (.t 28, some (.one (iA p))), (.t 10, some (.one (.c (.ptr 10 0)))), (.b 10, some (.box ((tA a1).cells ++ (tA a2).cells))), (.t 36, some (.one (iA d'.length))), (.t 37, some (.one (iA z.1)))])
    (fun z => z.1 ≤ d'.length ∧ z.2 = (List.range z.1).foldl (sup3 (a1, a2) (c.eraseIdx i) d') m2 ∧ z.2.1.length ≤ 1000 * i + 100 * p + 24 * z.1) (fun z => d'.length - z.1) (0, m2) ⟨by simp only; omega, rfl, by simp only; omega⟩ fgs ?_
  rintro ⟨j, m3⟩ ⟨hj, hm3, hb3⟩
  dsimp only at hj hm3 hb3 ⊢
  by_cases hjl : j < d'.length
  rotate_left
  · have hjc : j = d'.length := by omega
    subst hjc
    rw [← hm3] at hnext2
    (refine wlk ?_)
    exact ⟨(p + 1, m3), ⟨by simp only; omega, hnext2.symm, by simp only; omega⟩, fgs, by simp only; omega⟩
  have hnext3 := range_fold (sup3 (a1, a2) (c.eraseIdx i) d') m2 j
  rw [← hm3] at hnext3
  have hlen3 := sup3_len hd (a1, a2) (c.eraseIdx i) m3 j
  (refine wlk ?_)
  (refine SqA.b1 (op_call none rfl rfl rfl (by kernel_rfl) (FnD.use (pwithout c i hkl (by omega))) rfl rfl rfl rfl rfl rfl) rfl rfl ?_)
  (refine wlk ?_)
  (refine SqA.b3 (Op1.frzIn (t := 44) rfl (op_call (some (13)) rfl rfl rfl (by kernel_rfl) (FnB.use (pinto (a := (a1, a2)) h hd hx (List.mem_of_getElem? ha) hjl m3 (by omega))) rfl rfl rfl rfl rfl rfl)) rfl rfl ?_)
  (refine wlk ?_)
  exact ⟨(j + 1, sup3 (a1, a2) (c.eraseIdx i) d' m3 j), ⟨by simp only; omega, hnext3.symm, by simp only; omega⟩, fgs, by simp only; omega⟩
end Go.Proofs.YtmanhdacnkpclaaGreat
namespace Go.Proofs.YtmanhdacnkpclaaGreat
set_option linter.all false
set_option maxRecDepth 1000000
set_option maxHeartbeats 32000000
open Go.RowKit
section
variable {P : Program} {n : Nat} {σ : St}
theorem dwp_mid {α : Type} {c rest : Code} {Q : Exit → St → Prop} (I : α → St) (J : α → Prop) (h1 : dwp P n c (fun e σ' => e = .normal ∧ ∃ x, J x ∧ Wk n σ' (I x)) σ) (h2 : ∀ x, J x → dwp P n rest Q (I x)) : dwp P n c (thenD (dwp P n rest Q) Q) σ :=
  fun C who a w hr => wp_mono (h1 C who a w hr) fun e a' w' ⟨who', σ', hr', he, x, hJ, hw⟩ => by
    subst he
    obtain ⟨who2, hr2⟩ := hw C who' a' w' hr'
    exact ⟨who', σ', hr', fun C3 who3 a3 w3 hr3 => by
      obtain ⟨who4, hr4⟩ := hw C3 who3 a3 w3 hr3
      exact h2 x hJ C3 who4 a3 w3 hr4⟩
end
end Go.Proofs.YtmanhdacnkpclaaGreat
namespace Go.Proofs.YtmanhdacnkpclaaGreat
set_option linter.all false
set_option maxRecDepth 1000000
set_option maxHeartbeats 32000000
noncomputable def comesL (x : Sp) (l : List (List Lt)) : List (List Lt) × Bool :=
  if x.rule = 2 then ((resolve (l.getD 0 [])).1, true)
  else if x.rule = 3 then ((factor (l.getD 0 [])).1, true)
  else if x.rule = 4 then ((sup (l.getD 0 []) (l.getD 1 [])).1, true)
  else if l.tail.all unit then ([(rewr l.tail (l.getD 0 [])).1], decide ((rewr l.tail (l.getD 0 [])).2 = 0)) else ([], false)
noncomputable def comesP (inn : List (List Lt)) (steps : List Sp) (at_ : Nat) (x : Sp) : List (List Lt) × Bool :=
  if x.frm.length = 0 ∨ (x.rule = 4 ∧ x.frm.length ≠ 2) ∨ (x.rule < 4 ∧ x.frm.length ≠ 1) then ([], false)
  else if x.rule = 1 then (if x.frm.getD 0 0 < 0 ∨ (inn.length : Int) ≤ x.frm.getD 0 0 then ([], false) else ([(norm (inn.getD (x.frm.getD 0 0).toNat [])).1], decide ((norm (inn.getD (x.frm.getD 0 0).toNat [])).2 = 0)))
  else if fromOk at_ x.frm = false then ([], false)
  else comesL x (x.frm.map fun f => (stAt steps f).cl)
theorem comesP_any {inn : List (List Lt)} {steps : List Sp} {at_ : Nat} {x : Sp} (p : List Lt → Bool) : ((comesP inn steps at_ x).2 && (comesP inn steps at_ x).1.any p) = (comes inn steps at_ x).any p := by
  unfold comesP comes
  split
  · rfl
  · split
    · split
      · rfl
      · rcases norm (inn.getD (x.frm.getD 0 0).toNat []) with ⟨n, e⟩
        by_cases he : e = 0 <;> simp [he]
    · split
      · rfl
      · unfold comesL
        simp only
        split
        · simp
        · split
          · simp
          · split
            · simp
            · split
              · rcases rewr (x.frm.map fun f => (stAt steps f).cl).tail ((x.frm.map fun f => (stAt steps f).cl).getD 0 []) with ⟨n, e⟩
                by_cases he : e = 0 <;> simp [he]
              · rfl
theorem comesL_fst {x : Sp} {l : List (List Lt)} : (if (comesL x l).2 = true then (comesL x l).1 else []) =
    (if x.rule = 2 then (resolve (l.getD 0 [])).1 else if x.rule = 3 then (factor (l.getD 0 [])).1 else if x.rule = 4 then (sup (l.getD 0 []) (l.getD 1 [])).1
    else if l.tail.all unit then (match rewr l.tail (l.getD 0 []) with | (c, e) => if e = 0 then [c] else []) else []) := by
  unfold comesL
  split
  · simp
  · split
    · simp
    · split
      · simp
      · split
        · rcases rewr l.tail (l.getD 0 []) with ⟨n, e⟩
          by_cases he : e = 0 <;> simp [he]
        · rfl
theorem comes_ahead {inn : List (List Lt)} {steps : List Sp} {k : Nat} (hk : k ≤ steps.length) (x : Sp) : comes inn (steps.take k) k x = comes inn steps k x := by
  have h := comes_app (inn := inn) (l := steps.take k) (r := steps.drop k) (k := k) (x := x) (by rw [List.length_take]; omega)
  rw [List.take_append_drop] at h
  exact h.symm
theorem fromOk_no {at_ : Nat} {l : List Int} {f : Int} (h : f ∈ l) (hf : ¬ (0 ≤ f ∧ f < (at_ : Int))) : fromOk at_ l = false := by
  rw [← Bool.not_eq_true]
  intro ha
  have := List.all_eq_true.1 ha f h
  simp only [decide_eq_true_eq] at this
  exact hf this
theorem fromOk_of {at_ : Nat} {l : List Int} (h : ∀ f ∈ l, 0 ≤ f ∧ f < (at_ : Int)) : fromOk at_ l = true := List.all_eq_true.2 fun f hf => decide_eq_true (h f hf)
end Go.Proofs.YtmanhdacnkpclaaGreat
namespace Go.Proofs.YtmanhdacnkpclaaGreat
set_option linter.all false
set_option maxRecDepth 1000000
set_option maxHeartbeats 32000000
open Go.RowKit
theorem any_takeS {α : Type} {p : α → Bool} {l : List α} {k : Nat} {x : α} (h : l[k]? = some x) : (l.take (k + 1)).any p = ((l.take k).any p || p x) := by
  rw [take_succ_of h, List.any_append]; simp
def fac4 (rest : List Lt) (x y : Lt) (m : Mk) (k : Nat) : Mk := factor1 rest ((turnL (decide (2 ≤ k)) x).left, (turnL (decide (2 ≤ k)) x).right) m ((turnL (decide (k % 2 = 1)) y).left, (turnL (decide (k % 2 = 1)) y).right)
theorem fac4_all (rest : List Lt) (x y : Lt) (m : Mk) : (List.range 4).foldl (fac4 rest x y) m = (waysL x).foldl (factor2 rest y) m := rfl
theorem turn_way (l : Lt) (b : Bool) : ((turnL b l).left, (turnL b l).right) ∈ waysL l := by cases b <;> simp [turnL, waysL]
theorem rfactor {S : List Int} {c : List Lt} (h : CG S c) : FnD Tryz.prog 60 [lA Lt.d c] (.tup [lA Cl.d (factor c).1, bA (factor c).2]) := by
  have hl4 := h.len
  refine Fn.of Tryz.func60 rfl Tryz.ntmps60 rfl (Nat.le_of_ble_eq_true rfl) ?_
  (refine wlk ?_)
  refine dwp_loop (fun x : Nat × Mk => [(.t 0, some (.one (lA Lt.d c))), (.t 4, some (.one (.c (.ptr 13 0)))), (.b 13, some (.box (mkBox x.2))), (.t 15, some (.one (iA c.length))), (.t 16, some (.one (iA x.1)))])
    (fun x => x.1 ≤ c.length ∧ x.2 = (List.range x.1).foldl (factor4 c) ([], false) ∧ x.2.1.length ≤ 100 * x.1) (fun x => c.length - x.1) (0, [], false) ⟨by simp, rfl, by simp⟩ ((Wk.nilOwnB (j := 13) (q := 0) (E := 39) (m := 1) rfl rfl rfl).trans fgs) ?_
  rintro ⟨i, m1⟩ ⟨hk, hm, hb1⟩
  dsimp only at hk hm hb1 ⊢
  by_cases hkl : i < c.length
  rotate_left
  · have hkc : i = c.length := by omega
    subst hkc
    refine dwp_wk (Wk.freezeB (j := 13) (q := 0) rfl rfl rfl) ?_
    (refine wlk ?_)
    (refine wfTT ?_)
    rw [hm]
    rfl
  obtain ⟨⟨xn, xl, xr⟩, hx⟩ := get_of_lt hkl
  have hnext := range_fold (factor4 c) ([], false) i
  rw [← hm] at hnext
  have hf4 : factor4 c m1 i = ((List.range c.length).drop (i + 1)).foldl (factor3 c i ⟨xn, xl, xr⟩) m1 := by unfold factor4; rw [hx]
  rw [hf4] at hnext
  have hel : (c.eraseIdx i).length ≤ 4 := (h.erase i).len
  (refine wlk ?_)
  refine dwp_loop (fun x : Nat × Mk => [(.t 0, some (.one (lA Lt.d c))), (.t 4, some (.one (.c (.ptr 13 0)))), (.b 13, some (.box (mkBox x.2))), (.t 5, some (.one (iA i))), (.t 15, some (.one (iA c.length))), (.t 16, some (.one (iA i))), (.t 20, some (.one (iA c.length))), (.t 21, some (.one (iA x.1)))])
    (fun y => y.1 ≤ c.length ∧ y.2 = (((List.range c.length).drop (i + 1)).take (y.1 - (i + 1))).foldl (factor3 c i ⟨xn, xl, xr⟩) m1 ∧ y.2.1.length ≤ 100 * i + 10 * y.1) (fun y => c.length - y.1) (0, m1) ⟨by simp only; omega, by simp, by simp only; omega⟩ fgs ?_
  rintro ⟨j, m2⟩ ⟨hd, hm2, hb2⟩
  dsimp only at hd hm2 hb2 ⊢
  by_cases hdl : j < c.length
  rotate_left
  · rw [fold_all _ _ (by rw [List.length_drop, List.length_range]; omega)] at hm2
    rw [← hm2] at hnext
    (refine wlk ?_)
    exact ⟨(i + 1, m2), ⟨by simp only; omega, hnext.symm, by simp only; omega⟩, fgs, by simp only; omega⟩
  obtain ⟨⟨yn, yl, yr⟩, hy⟩ := get_of_lt hdl
  by_cases hji : j ≤ i
  · have e0 : j - (i + 1) = 0 := by omega
    have e1 : (j + 1) - (i + 1) = 0 := by omega
    rw [e0] at hm2
    (refine wlk ?_)
    exact ⟨(j + 1, m2), ⟨by simp only; omega, by simp only; rw [e1]; exact hm2, by simp only; omega⟩, fgs, by simp only; omega⟩
  have e1 : (j + 1) - (i + 1) = (j - (i + 1)) + 1 := by omega
  have ej : i + 1 + (j - (i + 1)) = j := by omega
  have hnext2 := fold_take (factor3 c i ⟨xn, xl, xr⟩) m1 (range_drop (n := c.length) (i := i + 1) (d := j - (i + 1)) (by omega))
  rw [← hm2, ej, ← e1] at hnext2
  cases xn
  rotate_left
  · have hf3 : factor3 c i ⟨true, xl, xr⟩ m2 j = m2 := by unfold factor3; rw [hy]; simp
    rw [hf3] at hnext2
    (refine wlk ?_)
    exact ⟨(j + 1, m2), ⟨by simp only; omega, hnext2.symm, by simp only; omega⟩, fgs, by simp only; omega⟩
  cases yn
  rotate_left
  · have hf3 : factor3 c i ⟨false, xl, xr⟩ m2 j = m2 := by unfold factor3; rw [hy]; simp
    rw [hf3] at hnext2
    (refine wlk ?_)
    (refine SqA.b1 (op_idxT (T := TB) rfl rfl rfl rfl rfl (hx) (by first | rfl | omega)) rfl rfl ?_)
    (refine wlk ?_)
    exact ⟨(j + 1, m2), ⟨by simp only; omega, hnext2.symm, by simp only; omega⟩, fgs, by simp only; omega⟩
  have hf3 : factor3 c i ⟨false, xl, xr⟩ m2 j = (List.range 4).foldl (fac4 (c.eraseIdx i) ⟨false, xl, xr⟩ ⟨false, yl, yr⟩) m2 := by unfold factor3; rw [hy]; simp [fac4_all]
  rw [hf3] at hnext2
  (refine wlk ?_)
  (refine SqA.b1 (op_idxT (T := TB) rfl rfl rfl rfl rfl (hx) (by first | rfl | omega)) rfl rfl ?_)
  (refine wlk ?_)
  refine dwp_loop (fun z : Nat × Mk => [(.t 0, some (.one (lA Lt.d c))), (.t 4, some (.one (.c (.ptr 13 0)))), (.b 13, some (.box (mkBox z.2))), (.t 5, some (.one (iA i))), (.t 6, some (.one (iA j))), (.t 15, some (.one (iA c.length))), (.t 16, some (.one (iA i))), (.t 20, some (.one (iA c.length))), (.t 21, some (.one (iA j))), (.t 41, some (.one (iA z.1)))])
    (fun z => z.1 ≤ 4 ∧ z.2 = (List.range z.1).foldl (fac4 (c.eraseIdx i) ⟨false, xl, xr⟩ ⟨false, yl, yr⟩) m2 ∧ z.2.1.length ≤ 100 * i + 10 * j + z.1) (fun z => 4 - z.1) (0, m2) ⟨by simp only; omega, rfl, by simp only; omega⟩ fgs ?_
  rintro ⟨k, m3⟩ ⟨hp, hm3, hb3⟩
  dsimp only at hp hm3 hb3 ⊢
  by_cases hpl : k < 4
  rotate_left
  · have hk4 : k = 4 := by omega
    subst hk4
    rw [← hm3] at hnext2
    (refine wlk ?_)
    exact ⟨(j + 1, m3), ⟨by simp only; omega, hnext2.symm, by simp only; omega⟩, fgs, by simp only; omega⟩
  have hnext3 := range_fold (fac4 (c.eraseIdx i) ⟨false, xl, xr⟩ ⟨false, yl, yr⟩) m2 k
  rw [← hm3] at hnext3
  have c1 : cmpB .geq (k : Int) 2 = decide (2 ≤ k) := by by_cases h2 : 2 ≤ k <;> simp [cmpB, h2] <;> omega
  have c2 : cmpB .eql ((k : Int) % 2) 1 = decide (k % 2 = 1) := by by_cases h2 : k % 2 = 1 <;> simp [cmpB, h2] <;> omega
  have hwx := turn_way (⟨false, xl, xr⟩ : Lt) (cmpB .geq (k : Int) 2)
  have hwy := turn_way (⟨false, yl, yr⟩ : Lt) (cmpB .eql ((k : Int) % 2) 1)
  have hfk : fac4 (c.eraseIdx i) ⟨false, xl, xr⟩ ⟨false, yl, yr⟩ m3 k = factor1 (c.eraseIdx i) ((turnL (cmpB .geq (k : Int) 2) ⟨false, xl, xr⟩).left, (turnL (cmpB .geq (k : Int) 2) ⟨false, xl, xr⟩).right) m3 ((turnL (cmpB .eql ((k : Int) % 2) 1) ⟨false, yl, yr⟩).left, (turnL (cmpB .eql ((k : Int) % 2) 1) ⟨false, yl, yr⟩).right) := by
    rw [c1, c2]; rfl
  rw [hfk] at hnext3
  have t1 := rturn ⟨false, xl, xr⟩ (cmpB .geq (k : Int) 2)
  have t2 := rturn ⟨false, yl, yr⟩ (cmpB .eql ((k : Int) % 2) 1)
  clear hfk c1 c2
  have oa := h.way hx hwx
  have ob := h.way hy hwy
  have hu := runify oa.1.1 ob.1.1
  dsimp only at hu
  have hlen4 := factor1_len (c.eraseIdx i) ((turnL (cmpB .geq (k : Int) 2) ⟨false, xl, xr⟩).left, (turnL (cmpB .geq (k : Int) 2) ⟨false, xl, xr⟩).right) m3 ((turnL (cmpB .eql ((k : Int) % 2) 1) ⟨false, yl, yr⟩).left, (turnL (cmpB .eql ((k : Int) % 2) 1) ⟨false, yl, yr⟩).right)
  (refine wlk ?_)
  (refine SqA.b1 (op_idxT (T := TB) rfl rfl rfl rfl rfl (hx) (by first | rfl | omega)) rfl rfl ?_)
  (refine wlk ?_)
  (refine wlC t1 ?_)
  (refine wlk ?_)
  (refine wlC t2 ?_)
  (refine wlk ?_)
  generalize turnL (cmpB .geq (k : Int) 2) ⟨false, xl, xr⟩ = u at *
  generalize turnL (cmpB .eql ((k : Int) % 2) 1) ⟨false, yl, yr⟩ = v at *
  cases hs : unify u.left v.left with
  | none =>
    rw [hs] at hu
    have hf1 : factor1 (c.eraseIdx i) (u.left, u.right) m3 (v.left, v.right) = m3 := by unfold factor1; simp [hs]
    rw [hf1] at hnext3
    (refine wlC hu ?_)
    (refine wlk ?_)
    exact ⟨(k + 1, m3), ⟨by simp only; omega, hnext3.symm, by simp only; omega⟩, fgs, by simp only; omega⟩
  | some s =>
    rw [hs] at hu
    have hf1 : factor1 (c.eraseIdx i) (u.left, u.right) m3 (v.left, v.right) = addR m3 s (c.eraseIdx i ++ [⟨true, u.right, v.right⟩]) := by unfold factor1; simp [hs]
    rw [hf1] at hnext3 hlen4
    have hok := h.factor hx hy hwx hwy hs
    dsimp only at hok
    (refine wlC hu ?_)
    (refine wlk ?_)
    (refine SqA.b1 (op_call none rfl rfl rfl (by kernel_rfl) (FnD.use (rbutO c i hkl (by omega))) rfl rfl rfl rfl rfl rfl) rfl rfl ?_)
    (refine wlk ?_)
    (refine SqA.b1 (op_bsT (T := TB) (f := Lt.d) [(⟨true, u.right, v.right⟩ : Lt)] rfl rfl rfl rfl rfl rfl rfl rfl rfl rfl rfl) rfl rfl ?_)
    (refine wlk ?_)
    (refine SqA.b3 (Op1.frzIn (t := 79) rfl (op_call (some (13)) rfl rfl rfl (by kernel_rfl) (FnB.use (ladd m3 s (c.eraseIdx i ++ [⟨true, u.right, v.right⟩]) (by have := hok.slen; omega) hok.sz hok.len hok.okv hok.few hok.sz2 (by omega))) rfl rfl rfl rfl rfl rfl)) rfl rfl ?_)
    (refine wlk ?_)
    exact ⟨(k + 1, addR m3 s (c.eraseIdx i ++ [⟨true, u.right, v.right⟩])), ⟨by simp only; omega, hnext3.symm, by simp only; omega⟩, fgs, by simp only; omega⟩
theorem FnD.fn0 {P : Program} {f g : FuncId} {args : List A1} {x : X} (h : FnD P f args x) (i : Nat) (hi : args[i]? = some (.c (.fnv g []))) : FnD P f (args.set i (.c (.val (.func (.func g) #[] #[])))) x := fun who w vs h1 h2 h3 h4 h5 h6 => by
  refine h who w vs h1 h2 h3 (by simpa using h4) (fun j A v hA hv => ?_) h6
  rcases Classical.em (i = j) with rfl | hne
  · rw [hi] at hA; injection hA with hA; subst hA
    have hlt : i < args.length := (List.getElem?_eq_some_iff.1 hi).1
    have := h5 i _ v (by rw [List.getElem?_set_self hlt]) hv
    have e : v = .func (.func g) #[] #[] := this
    subst e
    exact ⟨[], rfl, rfl, fun i cs v h => by simp at h⟩
  · exact h5 j A v (by rw [List.getElem?_set_ne hne]; exact hA) hv
def supK (c d : List Lt) (i : Nat) (x : Lt) (m : Mk) (k : Nat) : Mk := if x.neg then m else sup4 (c.eraseIdx i) d m ((turnL (decide (k = 1)) x).left, (turnL (decide (k = 1)) x).right)
theorem supK_all {c d : List Lt} {i : Nat} {x : Lt} (hx : c[i]? = some x) (m : Mk) : sup5 c d m i = (List.range 2).foldl (supK c d i x) m := by
  unfold sup5
  rw [hx]
  cases hn : x.neg
  · have : (List.range 2).foldl (supK c d i x) m = supK c d i x (supK c d i x m 0) 1 := rfl
    rw [this]
    simp only [supK, hn]
    rfl
  · have : (List.range 2).foldl (supK c d i x) m = supK c d i x (supK c d i x m 0) 1 := rfl
    rw [this]
    simp [supK, hn]
theorem turn_eta (b : Bool) (l : Lt) : turnL b l = ⟨l.neg, (turnL b l).left, (turnL b l).right⟩ := by cases b <;> rfl
theorem cmp_one {k : Nat} : cmpB .eql (k : Int) 1 = decide (k = 1) := by by_cases h : k = 1 <;> simp [cmpB, h]; omega
theorem rsup {S : List Int} {c d : List Lt} (h : CG S c) (h0 : COk S d) : FnD Tryz.prog 61 [lA Lt.d c, lA Lt.d d] (.tup [lA Cl.d (sup c d).1, bA (sup c d).2]) := by
  have hl4 := h.len
  have hl5 := h0.len
  have hren := FnD.fn0 (rEach0 104 trivial (ren 5) (by kernel_rfl) d (by omega) fun l hl => by
    have hz := h0.size l hl
    have hk := h0.wf.ar.okv l hl
    exact ⟨rsup1 l.left hk.1 (by omega), rsup1 l.right hk.2 (by omega)⟩) 1 rfl
  have hsup : sup c d = supD c (each (ren 5) d) := rfl
  rw [hsup]
  have hd := h0.cgr
  clear hsup
  generalize each (ren 5) d = d' at *
  have hld := hd.len
  refine Fn.of Tryz.func61 rfl Tryz.ntmps61 rfl (Nat.le_of_ble_eq_true rfl) ?_
  (refine wlk ?_)
  (refine wlC hren ?_)
  (refine wlk ?_)
  refine dwp_loop (fun x : Nat × Mk => [(.t 0, some (.one (lA Lt.d c))), (.t 1, some (.one (lA Lt.d d'))), (.t 6, some (.one (.c (.ptr 22 0)))), (.b 22, some (.box (mkBox x.2))), (.t 26, some (.one (iA c.length))), (.t 27, some (.one (iA x.1)))])
    (fun x => x.1 ≤ c.length ∧ x.2 = (List.range x.1).foldl (sup5 c d') ([], false) ∧ x.2.1.length ≤ 1000 * x.1) (fun x => c.length - x.1) (0, [], false) ⟨by simp, rfl, by simp⟩ ((Wk.nilOwnB (j := 22) (q := 0) (E := 39) (m := 1) rfl rfl rfl).trans fgs) ?_
  rintro ⟨i, m1⟩ ⟨hk, hm, hb1⟩
  dsimp only at hk hm hb1 ⊢
  by_cases hkl : i < c.length
  rotate_left
  · have hkc : i = c.length := by omega
    subst hkc
    refine dwp_wk (Wk.freezeB (j := 22) (q := 0) rfl rfl rfl) ?_
    (refine wlk ?_)
    (refine wfTT ?_)
    rw [hm]
    rfl
  obtain ⟨⟨xn, xl, xr⟩, hx⟩ := get_of_lt hkl
  have hnext := range_fold (sup5 c d') ([], false) i
  rw [← hm, supK_all hx] at hnext
  have hel : (c.eraseIdx i).length ≤ 4 := (h.erase i).len
  (refine wlk ?_)
  refine dwp_loop (fun z : Nat × Mk => [(.t 0, some (.one (lA Lt.d c))), (.t 1, some (.one (lA Lt.d d'))), (.t 6, some (.one (.c (.ptr 22 0)))), (.b 22, some (.box (mkBox z.2))), (.t 26, some (.one (iA c.length))), (.t 7, some (.one (iA i))), (.t 27, some (.one (iA i))), (.t 30, some (.one (iA z.1)))])
    (fun z => z.1 ≤ 2 ∧ z.2 = (List.range z.1).foldl (supK c d' i ⟨xn, xl, xr⟩) m1 ∧ z.2.1.length ≤ 1000 * i + 100 * z.1) (fun z => 2 - z.1) (0, m1) ⟨by simp only; omega, rfl, by simp only; omega⟩ fgs ?_
  rintro ⟨k, m2⟩ ⟨hp, hm2, hb2⟩
  dsimp only at hp hm2 hb2 ⊢
  by_cases hpl : k < 2
  rotate_left
  · have hk2 : k = 2 := by omega
    subst hk2
    rw [← hm2] at hnext
    (refine wlk ?_)
    exact ⟨(i + 1, m2), ⟨by simp only; omega, hnext.symm, by simp only; omega⟩, fgs, by simp only; omega⟩
  have hnext2 := range_fold (supK c d' i ⟨xn, xl, xr⟩) m1 k
  rw [← hm2] at hnext2
  have t1 := rturn ⟨xn, xl, xr⟩ (cmpB .eql (k : Int) 1)
  have hway := turn_way ⟨xn, xl, xr⟩ (cmpB .eql (k : Int) 1)
  rw [turn_eta (cmpB .eql (k : Int) 1)] at t1
  unfold supK at hnext2
  rw [← cmp_one] at hnext2
  dsimp only at t1 hnext2
  generalize (turnL (cmpB .eql (k : Int) 1) ⟨xn, xl, xr⟩).left = u1 at *
  generalize (turnL (cmpB .eql (k : Int) 1) ⟨xn, xl, xr⟩).right = u2 at *
  cases xn
  rotate_left
  · rw [if_pos rfl] at hnext2
    (refine wlk ?_)
    (refine wlC t1 ?_)
    (refine wlk ?_)
    exact ⟨(k + 1, m2), ⟨by simp only; omega, hnext2.symm, by simp only; omega⟩, fgs, by simp only; omega⟩
  rw [if_neg (by simp)] at hnext2
  cases hav : u1.var
  rotate_left
  · have hf4 : sup4 (c.eraseIdx i) d' m2 (u1, u2) = m2 := by unfold sup4; simp [hav]
    rw [hf4] at hnext2
    (refine wlk ?_)
    (refine wlC t1 ?_)
    (refine wlk ?_)
    exact ⟨(k + 1, m2), ⟨by simp only; omega, hnext2.symm, by simp only; omega⟩, fgs, by simp only; omega⟩
  have hf4 : sup4 (c.eraseIdx i) d' m2 (u1, u2) = (List.range d'.length).foldl (sup3 (u1, u2) (c.eraseIdx i) d') m2 := by unfold sup4; simp [hav]
  rw [hf4] at hnext2
  have oa := h.way hx hway
  dsimp only at oa
  (refine wlk ?_)
  (refine wlC t1 ?_)
  (refine wlk ?_)
  refine dwp_loop (fun z : Nat × Mk => [(.t 0, some (.one (lA Lt.d c))), (.t 1, some (.one (lA Lt.d d'))), (.t 6, some (.one (.c (.ptr 22 0)))), (.b 22, some (.box (mkBox z.2))), (.t 26, some (.one (iA c.length))), (.t 7, some (.one (iA i))), (.t 27, some (.one (iA i))), (.t 30, some (.one (iA k))), (.t 9, some (.one (.c (.ptr 9 0)))), (.b 9, some (.box (ltA ⟨false, u1, u2⟩).cells)), (.t 48, some (.one (iA d'.length))), (.t 49, some (.one (iA z.1)))])
    (fun z => z.1 ≤ d'.length ∧ z.2 = (List.range z.1).foldl (sup3 (u1, u2) (c.eraseIdx i) d') m2 ∧ z.2.1.length ≤ 1000 * i + 100 * k + 24 * z.1) (fun z => d'.length - z.1) (0, m2) ⟨by simp only; omega, rfl, by simp only; omega⟩ fgs ?_
  rintro ⟨j, m3⟩ ⟨hj, hm3, hb3⟩
  dsimp only at hj hm3 hb3 ⊢
  by_cases hjl : j < d'.length
  rotate_left
  · have hjc : j = d'.length := by omega
    subst hjc
    rw [← hm3] at hnext2
    (refine wlk ?_)
    exact ⟨(k + 1, m3), ⟨by simp only; omega, hnext2.symm, by simp only; omega⟩, fgs, by simp only; omega⟩
  have hnext3 := range_fold (sup3 (u1, u2) (c.eraseIdx i) d') m2 j
  rw [← hm3] at hnext3
  have hlen3 := sup3_len hd (u1, u2) (c.eraseIdx i) m3 j
  obtain ⟨y, hy⟩ := get_of_lt hjl
  have hs3 : sup3 (u1, u2) (c.eraseIdx i) d' m3 j = [false, true].foldl (sup2 (u1, u2) (c.eraseIdx i) d' j y) m3 := by unfold sup3; rw [hy]
  rw [hs3] at hnext3 hlen3
  (refine wlk ?_)
  refine dwp_loop (fun z : Nat × Mk => [(.t 0, some (.one (lA Lt.d c))), (.t 1, some (.one (lA Lt.d d'))), (.t 6, some (.one (.c (.ptr 22 0)))), (.b 22, some (.box (mkBox z.2))), (.t 26, some (.one (iA c.length))), (.t 7, some (.one (iA i))), (.t 27, some (.one (iA i))), (.t 30, some (.one (iA k))), (.t 9, some (.one (.c (.ptr 9 0)))), (.b 9, some (.box (ltA ⟨false, u1, u2⟩).cells)), (.t 48, some (.one (iA d'.length))), (.t 49, some (.one (iA j))), (.t 10, some (.one (iA j))), (.t 52, some (.one (iA z.1)))])
    (fun z => z.1 ≤ 2 ∧ z.2 = ([false, true].take z.1).foldl (sup2 (u1, u2) (c.eraseIdx i) d' j y) m3 ∧ z.2.1.length ≤ 1000 * i + 100 * k + 24 * j + 12 * z.1) (fun z => 2 - z.1) (0, m3) ⟨by simp only; omega, rfl, by simp only; omega⟩ fgs ?_
  rintro ⟨s, m4⟩ ⟨hs2, hm4, hb4⟩
  dsimp only at hs2 hm4 hb4 ⊢
  by_cases hsl : s < 2
  rotate_left
  · have hk2 : s = 2 := by omega
    subst hk2
    rw [show ([false, true].take 2) = [false, true] from rfl] at hm4
    rw [← hm4] at hnext3
    (refine wlk ?_)
    exact ⟨(j + 1, m4), ⟨by simp only; omega, hnext3.symm, by simp only; omega⟩, fgs, by simp only; omega⟩
  obtain ⟨side, hside, _, hsd⟩ := side_at hsl y
  have hnext4 := fold_take (sup2 (u1, u2) (c.eraseIdx i) d' j y) m3 hside
  rw [← hm4] at hnext4
  have hcs : cmpB .eql (s : Int) 1 = side := by rcases hsd with ⟨rfl, rfl⟩ | ⟨rfl, rfl⟩ <;> rfl
  have ow := hd.turn hy side
  have hs2' : sup2 (u1, u2) (c.eraseIdx i) d' j y m4 side = (places (turnL side y).left).foldl (sup1 (u1, u2) (c.eraseIdx i) d' j y side ((turnL side y).left, (turnL side y).right)) m4 := rfl
  rw [hs2'] at hnext4
  have hpl2 := places_len (turnL side y).left
  have hok := fun p s hp hs => CG.sup (side := side) (p := p) (s := s) h hd hx hy hway hp hs
  unfold supCl at hok
  dsimp only at hok
  have t2 := rturn y (cmpB .eql (s : Int) 1)
  rw [show turnL (cmpB .eql (s : Int) 1) y = ⟨y.neg, (turnL side y).left, (turnL side y).right⟩ by rw [hcs]; exact turn_eta side y] at t2
  clear hs2' hside hsd
  generalize hW1 : (turnL side y).left = w1 at *
  generalize hW2 : (turnL side y).right = w2 at *
  have hz1 := ow.1.1.size
  (refine wlk ?_)
  (refine wlC t2 ?_)
  (refine wlk ?_)
  (refine SqA.b1 (op_call none rfl rfl rfl (by kernel_rfl) (FnD.use (rplaces w1 (by omega))) rfl rfl rfl rfl rfl rfl) rfl rfl ?_)
  (refine wlk ?_)
  refine dwp_loop (fun z : Nat × Mk => [(.t 0, some (.one (lA Lt.d c))), (.t 1, some (.one (lA Lt.d d'))), (.t 6, some (.one (.c (.ptr 22 0)))), (.b 22, some (.box (mkBox z.2))), (.t 26, some (.one (iA c.length))), (.t 7, some (.one (iA i))), (.t 27, some (.one (iA i))), (.t 30, some (.one (iA k))), (.t 9, some (.one (.c (.ptr 9 0)))), (.b 9, some (.box (ltA ⟨false, u1, u2⟩).cells)), (.t 48, some (.one (iA d'.length))), (.t 49, some (.one (iA j))), (.t 10, some (.one (iA j))), (.t 52, some (.one (iA s))), (.t 11, some (.one (iA s))), (.t 12, some (.one (.c (.ptr 12 0)))), (.b 12, some (.box (ltA ⟨y.neg, w1, w2⟩).cells)), (.t 64, some (.one (lA Is.d (places w1)))), (.t 65, some (.one (iA (places w1).length))), (.t 66, some (.one (iA z.1)))])
    (fun z => z.1 ≤ (places w1).length ∧ z.2 = ((places w1).take z.1).foldl (sup1 (u1, u2) (c.eraseIdx i) d' j y side (w1, w2)) m4 ∧ z.2.1.length ≤ 1000 * i + 100 * k + 24 * j + 12 * s + z.1) (fun z => (places w1).length - z.1) (0, m4) ⟨by simp only; omega, rfl, by simp only; omega⟩ fgs ?_
  rintro ⟨q, m5⟩ ⟨hq, hm5, hb5⟩
  dsimp only at hq hm5 hb5 ⊢
  by_cases hql : q < (places w1).length
  rotate_left
  · rw [fold_all _ _ (by omega)] at hm5
    rw [← hm5] at hnext4
    (refine wlk ?_)
    exact ⟨(s + 1, m5), ⟨by simp only; omega, hnext4.symm, by simp only; omega⟩, fgs, by simp only; omega⟩
  obtain ⟨p, hp⟩ := get_of_lt hql
  have hpm := List.mem_of_getElem? hp
  have hnext5 := fold_take (sup1 (u1, u2) (c.eraseIdx i) d' j y side (w1, w2)) m4 hp
  rw [← hm5] at hnext5
  have hlen5 := sup1_len (u1, u2) (c.eraseIdx i) d' j y side (w1, w2) m5 p
  have oat := ow.1.1.at ow.1.2 hpm
  have hu := runify oa.1.1 oat
  have hat := rat p w1 (by have := places_deep w1 p hpm; omega)
  cases hs : unify u1 (at_ w1 p).1 with
  | none =>
    rw [hs] at hu
    have hf1 : sup1 (u1, u2) (c.eraseIdx i) d' j y side (w1, w2) m5 p = m5 := by unfold sup1; simp [hs]
    rw [hf1] at hnext5
    (refine wlk ?_)
    (refine wlC hat ?_)
    (refine wlk ?_)
    (refine wlC hu ?_)
    (refine wlk ?_)
    exact ⟨(q + 1, m5), ⟨by simp only; omega, hnext5.symm, by simp only; omega⟩, fgs, by simp only; omega⟩
  | some sb =>
    rw [hs] at hu
    have ul := unify_len oa.1.1 oat hs
    have v1 := uok_of oa.1.1 oat hs oa.1.1
    have v2 := uok_of oa.1.1 oat hs oa.2.1
    have v3 := uok_of oa.1.1 oat hs ow.1.1
    have v4 := uok_of oa.1.1 oat hs ow.2.1
    have z1 := oa.1.1.size
    have z2 := oa.2.1.size
    have z4 := ow.2.1.size
    have g1 := ap sb (by omega) u1 (by omega)
    have g2 := ap sb (by omega) u2 (by omega)
    have g3 := ap sb (by omega) w1 (by omega)
    have g4 := ap sb (by omega) w2 (by omega)
    have k1 := rabove (app sb u2) (app sb u1) (by omega) (by omega)
    have k2 := rabove (app sb w2) (app sb w1) (by omega) (by omega)
    cases n1 : above (app sb u2) (app sb u1)
    rotate_left
    · have hf1 : sup1 (u1, u2) (c.eraseIdx i) d' j y side (w1, w2) m5 p = m5 := by unfold sup1; simp [hs, n1]
      rw [hf1] at hnext5
      rw [n1] at k1
      (refine wlk ?_)
      (refine wlC hat ?_)
      (refine wlk ?_)
      (refine wlC hu ?_)
      (refine wlk ?_)
      (refine wlC g2 ?_)
      (refine wlk ?_)
      (refine wlC g1 ?_)
      (refine wlk ?_)
      (refine wlC k1 ?_)
      (refine wlk ?_)
      exact ⟨(q + 1, m5), ⟨by simp only; omega, hnext5.symm, by simp only; omega⟩, fgs, by simp only; omega⟩
    rw [n1] at k1
    cases n2 : above (app sb w2) (app sb w1)
    rotate_left
    · have hf1 : sup1 (u1, u2) (c.eraseIdx i) d' j y side (w1, w2) m5 p = m5 := by unfold sup1; simp [hs, n2]
      rw [hf1] at hnext5
      rw [n2] at k2
      (refine wlk ?_)
      (refine wlC hat ?_)
      (refine wlk ?_)
      (refine wlC hu ?_)
      (refine wlk ?_)
      (refine wlC g2 ?_)
      (refine wlk ?_)
      (refine wlC g1 ?_)
      (refine wlk ?_)
      (refine wlC k1 ?_)
      (refine wlk ?_)
      (refine wlC g4 ?_)
      (refine wlk ?_)
      (refine wlC g3 ?_)
      (refine wlk ?_)
      (refine wlC k2 ?_)
      (refine wlk ?_)
      exact ⟨(q + 1, m5), ⟨by simp only; omega, hnext5.symm, by simp only; omega⟩, fgs, by simp only; omega⟩
    · rw [n2] at k2
      have hf1 : sup1 (u1, u2) (c.eraseIdx i) d' j y side (w1, w2) m5 p = addR m5 sb (c.eraseIdx i ++ d'.set j (turnL side ⟨y.neg, put w1 p u2, w2⟩)) := by unfold sup1; simp [hs, n1, n2]
      rw [hf1] at hnext5 hlen5
      have hok := hok p sb hpm hs
      have hput := rput u2 p w1 (by omega)
      have hsl : (d'.set j (turnL side ⟨y.neg, put w1 p u2, w2⟩)).length = d'.length := List.length_set ..
      have hadd := ladd m5 sb (c.eraseIdx i ++ d'.set j (turnL side ⟨y.neg, put w1 p u2, w2⟩)) (by omega) hok.sz hok.len hok.okv hok.few hok.sz2 (by omega)
      have t3 := rturn ⟨y.neg, put w1 p u2, w2⟩ (cmpB .eql (s : Int) 1)
      rw [show turnL (cmpB .eql (s : Int) 1) ⟨y.neg, put w1 p u2, w2⟩ = turnL side ⟨y.neg, put w1 p u2, w2⟩ by rw [hcs]] at t3
      have hbut := rbutO c i hkl (by omega)
      (refine wlk ?_)
      (refine wlC hat ?_)
      (refine wlk ?_)
      (refine wlC hu ?_)
      (refine wlk ?_)
      (refine wlC g2 ?_)
      (refine wlk ?_)
      (refine wlC g1 ?_)
      (refine wlk ?_)
      (refine wlC k1 ?_)
      (refine wlk ?_)
      (refine wlC g4 ?_)
      (refine wlk ?_)
      (refine wlC g3 ?_)
      (refine wlk ?_)
      (refine wlC k2 ?_)
      (refine wlk ?_)
      (refine SqA.b2 (op_appT (T := TB) (f := Lt.d) (l := []) (es := d') (rs := d') rfl rfl rfl rfl rfl rfl (by omega) (by decide)) rfl rfl ?_)
      (refine wlk ?_)
      (refine wlC hput ?_)
      (refine wlE ?_)
      refine dwp_wk (σ' := [(.t 0, some (.one (lA Lt.d c))), (.t 1, some (.one (lA Lt.d d'))), (.t 6, some (.one (.c (.ptr 22 0)))), (.b 22, some (.box (mkBox m5))), (.t 26, some (.one (iA c.length))), (.t 7, some (.one (iA i))), (.t 27, some (.one (iA i))), (.t 30, some (.one (iA k))), (.t 9, some (.one (.c (.ptr 9 0)))), (.b 9, some (.box (ltA ⟨false, u1, u2⟩).cells)), (.t 48, some (.one (iA d'.length))), (.t 49, some (.one (iA j))), (.t 10, some (.one (iA j))), (.t 52, some (.one (iA s))), (.t 11, some (.one (iA s))), (.t 12, some (.one (.c (.ptr 12 0)))), (.b 12, some (.box (ltA ⟨y.neg, w1, w2⟩).cells)), (.t 64, some (.one (lA Is.d (places w1)))), (.t 65, some (.one (iA (places w1).length))), (.t 66, some (.one (iA q))), (.t 14, some (.one (lA Int.d p))), (.t 17, some (.one (lA Pr.d sb))), (.t 20, some (.one (.c (.ptr 20 0)))), (.b 20, some (.box (ltA ⟨y.neg, put w1 p u2, w2⟩).cells)), (.t 19, some (.one (.c (.own 77 7 (d'.map Lt.d)))))]) fgs ?_
      refine dwp_ownEls (f := Lt.d) (g := ltG) (t := 19) rfl (by omega) rfl rfl rfl rfl fun e => ?_
      (refine wlk ?_)
      (refine wlC t3 ?_)
      (refine wlk ?_)
      (refine SqA.b1 (op_storeEl0 (g := ltG) (m := 7) (fun _ => rfl) (turnL side ⟨y.neg, put w1 p u2, w2⟩) rfl rfl (rw_of rfl) rfl rfl rfl rfl rfl rfl rfl rfl hjl rfl) rfl rfl ?_)
      (refine wlE ?_)
      refine dwp_wk (Wk.frzSlG (f := Lt.d) (g := ltG) (t := 19) (j := 19) (k := d'.length) (l := d'.set j (turnL side ⟨y.neg, put w1 p u2, w2⟩)) rfl rfl (els_take _ _) hsl rfl rfl) ?_
      (refine wlk ?_)
      (refine wlC hbut ?_)
      (refine wlk ?_)
      (refine SqA.b3 (Op1.frzIn (t := 132) rfl (op_call (some (22)) rfl rfl rfl (by kernel_rfl) (FnB.use (hadd)) rfl rfl rfl rfl rfl rfl)) rfl rfl ?_)
      (refine wlk ?_)
      exact ⟨(q + 1, addR m5 sb (c.eraseIdx i ++ d'.set j (turnL side ⟨y.neg, put w1 p u2, w2⟩))), ⟨by simp only; omega, hnext5.symm, by simp only; omega⟩, fgs, by simp only; omega⟩
section
variable {P : Program} {n : Nat} {σ : St}
theorem dwp_mid2 {α : Type} {c rest : Code} {Q : Exit → St → Prop} (I : α → St) (J : α → Prop) (h1 : dwp P n c (thenD (fun σ' => ∃ x, J x ∧ Wk n σ' (I x)) Q) σ) (h2 : ∀ x, J x → dwp P n rest Q (I x)) : dwp P n c (thenD (dwp P n rest Q) Q) σ :=
  fun C who a w hr => wp_mono (h1 C who a w hr) fun e a' w' ⟨who', σ', hr', hq⟩ => by
    refine ⟨who', σ', hr', ?_⟩
    cases e with
    | normal =>
      obtain ⟨x, hJ, hw⟩ := (hq : ∃ x, J x ∧ Wk n σ' (I x))
      exact fun C3 who3 a3 w3 hr3 => by
        obtain ⟨who4, hr4⟩ := hw C3 who3 a3 w3 hr3
        exact h2 x hJ C3 who4 a3 w3 hr4
    | _ => exact hq
end
abbrev spA (x : Sp) : A1 := .agg [.val (.int .i64 x.rule), .arr (x.frm.map Int.d), .arr (x.cl.map Lt.d)]
theorem us_szL {S : List Int} {us : List (List Lt)} (h : ∀ c ∈ us, COk S c) (hu : us.all unit = true) : UsSz S us :=
  ⟨⟨fun u h2 => List.all_eq_true.1 hu u h2, fun u h2 => (h u h2).wf⟩, fun u h2 => (h u h2).size⟩
def wantOf (r : Int) : Int := if r = 5 then 0 else if r = 4 then 2 else 1
abbrev badFrm (r : Int) (frm : List Int) : Prop := frm.length = 0 ∨ (r = 4 ∧ frm.length ≠ 2) ∨ (r < 4 ∧ frm.length ≠ 1)
theorem normC {S : List Int} {c : List Lt} (h : COk S c) : FnD Tryz.prog 43 [lA Lt.d c] (.tup [lA Lt.d (norm c).1, iA (norm c).2]) := by
  have hl4 := h.len
  have hgd : ∀ x ∈ c, (x.left.okv = true ∧ few x.left) ∧ (x.right.okv = true ∧ few x.right) := fun x hx => by
    obtain ⟨i, hi⟩ := List.getElem?_of_mem hx
    have ho := h.cg.old hi
    exact ⟨⟨ho.1.1.okv, ho.1.1.few⟩, ho.2.1.okv, ho.2.1.few⟩
  exact pnorm c (fun x hx => ⟨(hgd x hx).1.1, (hgd x hx).2.1⟩) (fun x hx => ⟨(hgd x hx).1.2, (hgd x hx).2.2⟩) (fun x hx => by have := h.size x hx; omega) (by omega)
abbrev ckBox (inn : List (List Lt)) (steps : List Sp) : List CV := [.arr (inn.map Cl.d), .arr (steps.map Sp.d)]
theorem list1 {α : Type} {l : List α} (h : l.length = 1) : ∃ a, l = [a] := by
  match l, h with
  | [a], _ => exact ⟨a, rfl⟩
theorem list2 {α : Type} {l : List α} (h : l.length = 2) : ∃ a b, l = [a, b] := by
  match l, h with
  | [a, b], _ => exact ⟨a, b, rfl⟩
theorem list0 {α : Type} {l : List α} (h : l.length ≠ 0) : ∃ a r, l = a :: r := by
  match l, h with
  | [], h => exact absurd rfl h
  | a :: r, _ => exact ⟨a, r, rfl⟩
theorem pcomes {S : List Int} {inn : List (List Lt)} {steps : List Sp} {at_ : Nat} {x : Sp} (hin : ∀ c ∈ inn, COk S c) (hst : ∀ f : Int, 0 ≤ f → f < at_ → COk S (stAt steps f).cl) (hx : steps[at_]? = some x) (hr : 1 ≤ x.rule ∧ x.rule ≤ 5) (hl : x.frm.length ≤ 1000000000) :
    FnB Tryz.prog 30 [.c (.ptr EXT 0), iA at_] (ckBox inn steps) (.tup [lA Cl.d (comesP inn steps at_ x).1, bA (comesP inn steps at_ x).2]) (ckBox inn steps) := by
  refine Fn.of Tryz.func30 rfl Tryz.ntmps30 rfl (Nat.le_of_ble_eq_true rfl) ?_
  have hA : FewKeys := trivial
  have hatl := (List.getElem?_eq_some_iff.1 hx).1
  obtain ⟨r, frm, cl⟩ := x
  dsimp only at hr hl ⊢
  (refine wlN ?_)
  (refine wlE ?_)
  (refine wlN ?_)
  (refine wlE ?_)
  (try (with_reducible refine dwp_seq ?_))
  refine dwp_mid (fun w : Int => [(.t 0, some (.one (.c (.ptr EXT 0)))), (.b EXT, some (.box (ckBox inn steps))), (.t 1, some (.one (iA at_))), (.t 6, some (.one (.c (.ptr 6 0)))), (.b 6, some (.box (spA ⟨r, frm, cl⟩).cells)), (.t 7, some (.one (iA w)))])
    (fun w => w = wantOf r) ?_ ?_
  · have h5 : r = 1 ∨ r = 2 ∨ r = 3 ∨ r = 4 ∨ r = 5 := by omega
    rcases h5 with rfl | rfl | rfl | rfl | rfl
    all_goals (
      (refine wlk ?_)
      exact ⟨rfl, _, rfl, fgs⟩)
  clear hA hx
  rintro w hw
  (try (with_reducible refine dwp_seq ?_))
  refine dwp_mid2 (fun _ : Unit => [(.t 0, some (.one (.c (.ptr EXT 0)))), (.b EXT, some (.box (ckBox inn steps))), (.t 1, some (.one (iA at_))), (.t 6, some (.one (.c (.ptr 6 0)))), (.b 6, some (.box (spA ⟨r, frm, cl⟩).cells))])
    (fun _ => ¬ badFrm r frm) ?_ ?_
  · by_cases h5 : r = 5
    · have hw0 : w = 0 := by rw [hw, h5]; rfl
      subst hw0
      clear hw
      by_cases hb : frm.length = 0
      · have e : comesP inn steps at_ ⟨r, frm, cl⟩ = ([], false) := if_pos (.inl hb)
        rw [e]
        (refine wlk ?_)
        refine fin_wk (fun n => Wk.nilArr (d := 4) rfl) ?_
        (refine wbTT ?_)
        exact XB rfl rfl
      · (refine wlk ?_)
        exact ⟨(), by omega, fgs⟩
    · have hw0 : (r = 4 ∧ w = 2) ∨ (r < 4 ∧ w = 1) := by
        rw [hw]
        unfold wantOf
        rw [if_neg h5]
        by_cases h4 : r = 4
        · left; exact ⟨h4, if_pos h4⟩
        · right; exact ⟨by omega, if_neg h4⟩
      clear hw
      by_cases hb : (frm.length : Int) = w
      · (refine wlk ?_)
        exact ⟨(), by omega, fgs⟩
      · have e : comesP inn steps at_ ⟨r, frm, cl⟩ = ([], false) := if_pos (show badFrm r frm by omega)
        rw [e]
        (refine wlk ?_)
        refine fin_wk (fun n => Wk.nilArr (d := 4) rfl) ?_
        (refine wbTT ?_)
        exact XB rfl rfl
  clear hw
  rintro _ hbad
  by_cases h1 : r = 1
  · subst h1
    obtain ⟨f, rfl⟩ := list1 (l := frm) (by omega)
    have g0 : [f][0]? = some f := rfl
    have e0 : comesP inn steps at_ ⟨1, [f], cl⟩ = if f < 0 ∨ (inn.length : Int) ≤ f then ([], false) else ([(norm (inn.getD f.toNat [])).1], decide ((norm (inn.getD f.toNat [])).2 = 0)) := by
      unfold comesP
      rw [if_neg hbad, if_pos rfl]
      rfl
    rw [e0]
    by_cases hf0 : f < 0
    · rw [if_pos (.inl hf0)]
      (refine wlk ?_)
      refine fin_wk (fun n => Wk.nilArr (d := 4) rfl) ?_
      (refine wbTT ?_)
      exact XB rfl rfl
    by_cases hfl : (inn.length : Int) ≤ f
    · rw [if_pos (.inr hfl)]
      (refine wlk ?_)
      refine fin_wk (fun n => Wk.nilArr (d := 4) rfl) ?_
      (refine wbTT ?_)
      exact XB rfl rfl
    rw [if_neg (by omega)]
    obtain ⟨i, rfl⟩ := Int.eq_ofNat_of_zero_le (show 0 ≤ f by omega)
    obtain ⟨c, hc⟩ := get_of_lt (s := inn) (k := i) (by omega)
    have c3 := normC (hin c (List.mem_of_getElem? hc))
    have hgd : inn.getD ((i : Int)).toNat [] = c := by rw [Int.toNat_natCast, List.getD_eq_getElem?_getD, hc]; rfl
    rw [hgd]
    generalize norm c = nr at *
    obtain ⟨d, e⟩ := nr
    dsimp only at c3 ⊢
    (refine wlk ?_)
    (refine wlC c3 ?_)
    (refine wlk ?_)
    (refine SqA.b1 (op_bsT (T := TB) (f := Cl.d) [d] rfl rfl rfl rfl rfl rfl rfl rfl rfl rfl rfl) rfl rfl ?_)
    by_cases he : e = 0
    · rw [decide_eq_true he]
      (refine wlk ?_)
      (refine wbTT ?_)
      exact XB rfl rfl
    · rw [decide_eq_false he]
      (refine wlk ?_)
      (refine wbTT ?_)
      exact XB rfl rfl
  (refine wlk ?_)
  refine dwp_loop (fun k : Nat => [(.t 0, some (.one (.c (.ptr EXT 0)))), (.b EXT, some (.box (ckBox inn steps))), (.t 1, some (.one (iA at_))), (.t 6, some (.one (.c (.ptr 6 0)))), (.b 6, some (.box (spA ⟨r, frm, cl⟩).cells)),
      (.t 10, some (.one (.c (.own 39 1 (((frm.take k).map fun f => (stAt steps f).cl).map Cl.d))))), (.t 84, some (.one (lA Int.d frm))), (.t 85, some (.one (iA frm.length))), (.t 86, some (.one (iA k)))])
    (fun k => k ≤ frm.length ∧ ∀ f ∈ frm.take k, 0 ≤ f ∧ f < at_) (fun k => frm.length - k) 0 ⟨by omega, by simp⟩ ((Wk.nilOwn (d := 10) (E := 39) (m := 1) rfl).trans fgs) ?_
  rintro k ⟨hk, hok⟩
  by_cases hkl : k < frm.length
  · obtain ⟨f, hf⟩ := get_of_lt hkl
    have hfm := List.mem_of_getElem? hf
    have eno : ¬ (0 ≤ f ∧ f < at_) → comesP inn steps at_ ⟨r, frm, cl⟩ = ([], false) := fun h => by
      unfold comesP
      rw [if_neg hbad, if_neg h1, if_pos (fromOk_no hfm h)]
    by_cases hf0 : f < 0
    · rw [eno (by omega)]
      (refine wlk ?_)
      refine fin_wk (fun n => Wk.nilArr (d := 4) rfl) ?_
      (refine wbTT ?_)
      exact XB rfl rfl
    by_cases hfl : (at_ : Int) ≤ f
    · rw [eno (by omega)]
      (refine wlk ?_)
      refine fin_wk (fun n => Wk.nilArr (d := 4) rfl) ?_
      (refine wbTT ?_)
      exact XB rfl rfl
    clear eno
    obtain ⟨i, rfl⟩ := Int.eq_ofNat_of_zero_le (show 0 ≤ f by omega)
    have hk2 : ((frm.take k).map fun f => (stAt steps f).cl) ++ [(stAt steps (i : Int)).cl] = (frm.take (k + 1)).map fun f => (stAt steps f).cl := by rw [take_succ_of hf, List.map_append]; rfl
    have hk3 : ∀ f ∈ frm.take (k + 1), 0 ≤ f ∧ f < (at_ : Int) := fun g hg => by
      rw [take_succ_of hf] at hg
      rcases List.mem_append.1 hg with hg | hg
      · exact hok g hg
      · simp only [List.mem_singleton] at hg; subst hg; omega
    have his : steps[i]? = some (stAt steps (i : Int)) := by
      have := stAt_of (l := steps) (k := (i : Int)) (by omega) (by omega)
      simpa using this
    (refine wlk ?_)
    (refine SqA.b1 (op_bsT (T := TB) (f := Cl.d) [(stAt steps (i : Int)).cl] rfl rfl rfl rfl rfl rfl rfl rfl rfl rfl rfl) rfl rfl ?_)
    (refine wlk ?_)
    exact ⟨k + 1, ⟨by omega, hk3⟩, fgs, by omega⟩
  have hkf : k = frm.length := by omega
  subst hkf
  rw [List.take_length] at hok ⊢
  refine dwp_wk (Wk.freezeAt (d := 10) rfl) ?_
  have e0 : comesP inn steps at_ ⟨r, frm, cl⟩ = comesL ⟨r, frm, cl⟩ (frm.map fun f => (stAt steps f).cl) := by
    unfold comesP
    rw [if_neg hbad, if_neg h1, if_neg (by rw [fromOk_of hok]; simp)]
  rw [e0]
  have hco : ∀ c ∈ frm.map fun f => (stAt steps f).cl, COk S c := fun c hc => by
    obtain ⟨f, hf, rfl⟩ := List.mem_map.1 hc
    exact hst f (hok f hf).1 (hok f hf).2
  have hLl : (frm.map fun f => (stAt steps f).cl).length = frm.length := List.length_map ..
  generalize (frm.map fun f => (stAt steps f).cl) = L at hco hLl ⊢
  clear e0 hst hin hok
  by_cases h2 : r = 2
  · subst h2
    obtain ⟨c0, rfl⟩ := list1 (l := L) (by omega)
    have g0 : [c0][0]? = some c0 := rfl
    have e1 : comesL ⟨2, frm, cl⟩ [c0] = ((resolve c0).1, true) := by unfold comesL; rw [if_pos rfl]; rfl
    rw [e1]
    have c1 := presolve (hco c0 (by simp)).cg
    generalize resolve c0 = m at *
    (refine wlk ?_)
    (refine wlC c1 ?_)
    (refine wlk ?_)
    (refine wbTT ?_)
    exact XB rfl rfl
  by_cases h3 : r = 3
  · subst h3
    obtain ⟨c0, rfl⟩ := list1 (l := L) (by omega)
    have g0 : [c0][0]? = some c0 := rfl
    have e1 : comesL ⟨3, frm, cl⟩ [c0] = ((factor c0).1, true) := by unfold comesL; rw [if_neg (by simp), if_pos rfl]; rfl
    rw [e1]
    have c1 := pfactor (hco c0 (by simp)).cg
    generalize factor c0 = m at *
    (refine wlk ?_)
    (refine wlC c1 ?_)
    (refine wlk ?_)
    (refine wbTT ?_)
    exact XB rfl rfl
  by_cases h4 : r = 4
  · subst h4
    obtain ⟨c0, c1, rfl⟩ := list2 (l := L) (by omega)
    have g0 : [c0, c1][0]? = some c0 := rfl
    have g1 : [c0, c1][1]? = some c1 := rfl
    have e1 : comesL ⟨4, frm, cl⟩ [c0, c1] = ((sup c0 c1).1, true) := by unfold comesL; rw [if_neg (by simp), if_neg (by simp), if_pos rfl]; rfl
    rw [e1]
    have k1 := psup (hco c0 (by simp)).cg (hco c1 (by simp))
    generalize sup c0 c1 = m at *
    (refine wlk ?_)
    (refine SqA.b1 (op_idxT (T := TB) rfl rfl rfl rfl rfl (g0) (by first | rfl | omega)) rfl rfl ?_)
    (refine wlk ?_)
    (refine wlC k1 ?_)
    (refine wlk ?_)
    (refine wbTT ?_)
    exact XB rfl rfl
  have h5 : r = 5 := by omega
  subst h5
  obtain ⟨c0, us, rfl⟩ := list0 (l := L) (by omega)
  have g0 : (c0 :: us)[0]? = some c0 := rfl
  have hus : us.length ≤ 1000000000 := by simp at hLl; omega
  have e1 : comesL ⟨5, frm, cl⟩ (c0 :: us) = if us.all unit then ([(rewr us c0).1], decide ((rewr us c0).2 = 0)) else ([], false) := by
    unfold comesL; rw [if_neg (by simp), if_neg (by simp), if_neg (by simp)]; rfl
  rw [e1]
  clear e1
  have hd1 : (c0 :: us).drop (1 : Int).toNat = us := rfl
  (refine wlk ?_)
  simp only [hd1]
  refine dwp_loop (fun k : Nat => [(.t 0, some (.one (.c (.ptr EXT 0)))), (.b EXT, some (.box (ckBox inn steps))), (.t 10, some (.one (lA Cl.d (c0 :: us)))), (.t 144, some (.one (lA Cl.d us))), (.t 145, some (.one (iA us.length))), (.t 146, some (.one (iA k)))])
    (fun k => k ≤ us.length ∧ ∀ j y, j < k → us[j]? = some y → unit y = true) (fun k => us.length - k) 0 ⟨by omega, fun j y h => absurd h (by omega)⟩ fgs ?_
  rintro k ⟨hk, hno⟩
  by_cases hkl : k < us.length
  · obtain ⟨u, hu⟩ := get_of_lt hkl
    have c1 := punit u
    cases hub : unit u
    · have e2 : us.all unit = false := by
        rw [← Bool.not_eq_true]
        intro ha
        have := List.all_eq_true.1 ha u (List.mem_of_getElem? hu)
        rw [hub] at this; cases this
      rw [hub] at c1
      rw [e2]
      (refine wlk ?_)
      (refine wlC c1 ?_)
      (refine wlk ?_)
      refine fin_wk (fun n => Wk.nilArr (d := 4) rfl) ?_
      (refine wbTT ?_)
      exact XB rfl rfl
    · rw [hub] at c1
      (refine wlk ?_)
      (refine wlC c1 ?_)
      (refine wlk ?_)
      exact ⟨k + 1, ⟨by omega, upto_succ hno hu hub⟩, fgs, by omega⟩
  have hku : k = us.length := by omega
  subst hku
  have hall : us.all unit = true := List.all_eq_true.2 fun u hu => by
    obtain ⟨j, hj⟩ := List.getElem?_of_mem hu
    exact hno j u (List.getElem?_eq_some_iff.1 hj).1 hj
  have c1 := pRewrite (us_szL (fun c hc => hco c (by simp [hc])) hall) c0 (hco c0 (by simp))
  rw [hall, if_pos rfl]
  generalize rewr us c0 = nr at *
  obtain ⟨d, e⟩ := nr
  dsimp only at c1 ⊢
  have hl0 : ((1 : Int)).toNat ≤ (c0 :: us).length := by simp
  (refine wlk ?_)
  simp only [hd1]
  (refine wlC c1 ?_)
  (refine wlk ?_)
  (refine SqA.b1 (op_bsT (T := TB) (f := Cl.d) [d] rfl rfl rfl rfl rfl rfl rfl rfl rfl rfl rfl) rfl rfl ?_)
  by_cases he : e = 0
  · rw [decide_eq_true he]
    (refine wlk ?_)
    (refine wbTT ?_)
    exact XB rfl rfl
  · rw [decide_eq_false he]
    (refine wlk ?_)
    (refine wbTT ?_)
    exact XB rfl rfl
end Go.Proofs.YtmanhdacnkpclaaGreat
