/- What functions do: Sup, of the document's answer. -/
import Derived.Test.Ytmanhdacnkpclaap6J9
import Derived.Test.Ytmanhdacnkpclaap6J8
namespace Go.Proofs.Ytmanhdacnkpclaa
set_option linter.all false
open Go.RowKit

theorem FnD.fn0 {P : Program} {f g : FuncId} {args : List A1} {x : X} (h : FnD P f args x) (i : Nat) (hi : args[i]? = some (.c (.fnv g []))) : FnD P f (args.set i (.c (.val (.func (.func g) #[] #[])))) x := fun who w vs h1 h2 h3 h4 h5 h6 => by
  refine h who w vs h1 h2 h3 (by simpa using h4) (fun j A v hA hv => ?_) h6
  rcases Classical.em (i = j) with rfl | hne
  · rw [hi] at hA; injection hA with hA; subst hA
    have hlt : i < args.length := (List.getElem?_eq_some_iff.1 hi).1
    have := h5 i _ v (by rw [List.getElem?_set_self hlt]) hv
    have e : v = .func (.func g) #[] #[] := this
    subst e
    exact ⟨[], rfl, rfl, fun i cs v h => by simp at h⟩
  · exact h5 j A v (by rw [List.getElem?_set_ne hne]; exact hA) hv
/-- the ways of one literal, by numbers -/
def supK (c d : List Lt) (i : Nat) (x : Lt) (m : Mk) (k : Nat) : Mk := if x.neg then m else sup4 (c.eraseIdx i) d m ((turnL (decide (k = 1)) x).left, (turnL (decide (k = 1)) x).right)
theorem supK_all {c d : List Lt} {i : Nat} {x : Lt} (hx : c[i]? = some x) (m : Mk) : sup5 c d m i = (List.range 2).foldl (supK c d i x) m := by
  unfold sup5
  rw [hx]
  cases hn : x.neg
  · have : (List.range 2).foldl (supK c d i x) m = supK c d i x (supK c d i x m 0) 1 := rfl
    rw [this]
    simp only [supK, hn]
    rfl
  · have : (List.range 2).foldl (supK c d i x) m = supK c d i x (supK c d i x m 0) 1 := rfl
    rw [this]
    simp [supK, hn]
theorem turn_eta (b : Bool) (l : Lt) : turnL b l = ⟨l.neg, (turnL b l).left, (turnL b l).right⟩ := by cases b <;> rfl
theorem cmp_one {k : Nat} : cmpB .eql (k : Int) 1 = decide (k = 1) := by by_cases h : k = 1 <;> simp [cmpB, h]; omega
set_option maxHeartbeats 16000000 in
set_option maxRecDepth 100000 in
theorem rsup {S : List Int} {c d : List Lt} (h : CG S c) (h0 : COk S d) : FnD Try.prog 77 [lA Lt.d c, lA Lt.d d] (.tup [lA Cl.d (sup c d).1, bA (sup c d).2]) := by
  have hl4 := h.len
  have hl5 := h0.len
  have hren := FnD.fn0 (rEach0 116 trivial (ren 5) (by kernel_rfl) d (by omega) fun l hl => by
    have hz := h0.size l hl
    have hk := h0.wf.ar.okv l hl
    exact ⟨rsup1 l.left hk.1 (by omega), rsup1 l.right hk.2 (by omega)⟩) 1 rfl
  have hsup : sup c d = supD c (each (ren 5) d) := rfl
  rw [hsup]
  have hd := h0.cgr
  clear hsup
  generalize each (ren 5) d = d' at *
  have hld := hd.len
  refine Fn.of Try.func77 rfl Try.ntmps77 rfl (Nat.le_of_ble_eq_true rfl) ?_
  (refine wlk ?_)
  (refine SqA.b1 (op_call none rfl rfl rfl (by kernel_rfl) (FnD.use (hren)) rfl rfl rfl rfl rfl rfl) rfl rfl ?_)
  (refine wlk ?_)
  refine dwp_loop (fun x : Nat × Mk => [(.t 0, some (.one (lA Lt.d c))), (.t 1, some (.one (lA Lt.d d'))), (.t 6, some (.one (.c (.ptr 22 0)))), (.b 22, some (.box (mkBox x.2))), (.t 26, some (.one (iA c.length))), (.t 27, some (.one (iA x.1)))])
    (fun x => x.1 ≤ c.length ∧ x.2 = (List.range x.1).foldl (sup5 c d') ([], false) ∧ x.2.1.length ≤ 1000 * x.1) (fun x => c.length - x.1) (0, [], false) ⟨by simp, rfl, by simp⟩ ((Wk.nilOwnB (j := 22) (q := 0) (E := 48) (m := 1) rfl rfl rfl).trans fgs) ?_
  rintro ⟨i, m1⟩ ⟨hk, hm, hb1⟩
  dsimp only at hk hm hb1 ⊢
  by_cases hkl : i < c.length
  rotate_left
  · have hkc : i = c.length := by omega
    subst hkc
    refine dwp_wk (Wk.freezeB (j := 22) (q := 0) rfl rfl rfl) ?_
    (refine wlk ?_)
    (first | (refine finR (.tmp rfl (.tmp rfl .nil)) rfl rfl ?_) | (refine finN (.tmp rfl (.tmp rfl .nil)) rfl rfl ?_))
    rw [hm]
    rfl
  obtain ⟨⟨xn, xl, xr⟩, hx⟩ := get_of_lt hkl
  have hnext := range_fold (sup5 c d') ([], false) i
  rw [← hm, supK_all hx] at hnext
  have hel : (c.eraseIdx i).length ≤ 4 := (h.erase i).len
  (refine wlk ?_)
  refine dwp_loop (fun z : Nat × Mk => [(.t 0, some (.one (lA Lt.d c))), (.t 1, some (.one (lA Lt.d d'))), (.t 6, some (.one (.c (.ptr 22 0)))), (.b 22, some (.box (mkBox z.2))), (.t 26, some (.one (iA c.length))), (.t 7, some (.one (iA i))), (.t 27, some (.one (iA i))), (.t 30, some (.one (iA z.1)))])
    (fun z => z.1 ≤ 2 ∧ z.2 = (List.range z.1).foldl (supK c d' i ⟨xn, xl, xr⟩) m1 ∧ z.2.1.length ≤ 1000 * i + 100 * z.1) (fun z => 2 - z.1) (0, m1) ⟨by simp only; omega, rfl, by simp only; omega⟩ fgs ?_
  rintro ⟨k, m2⟩ ⟨hp, hm2, hb2⟩
  dsimp only at hp hm2 hb2 ⊢
  by_cases hpl : k < 2
  rotate_left
  · have hk2 : k = 2 := by omega
    subst hk2
    rw [← hm2] at hnext
    (refine wlk ?_)
    exact ⟨(i + 1, m2), ⟨by simp only; omega, hnext.symm, by simp only; omega⟩, fgs, by simp only; omega⟩
  have hnext2 := range_fold (supK c d' i ⟨xn, xl, xr⟩) m1 k
  rw [← hm2] at hnext2
  have t1 := rturn ⟨xn, xl, xr⟩ (cmpB .eql (k : Int) 1)
  have hway := turn_way ⟨xn, xl, xr⟩ (cmpB .eql (k : Int) 1)
  rw [turn_eta (cmpB .eql (k : Int) 1)] at t1
  unfold supK at hnext2
  rw [← cmp_one] at hnext2
  dsimp only at t1 hnext2
  generalize (turnL (cmpB .eql (k : Int) 1) ⟨xn, xl, xr⟩).left = u1 at *
  generalize (turnL (cmpB .eql (k : Int) 1) ⟨xn, xl, xr⟩).right = u2 at *
  cases xn
  rotate_left
  · rw [if_pos rfl] at hnext2
    (refine wlk ?_)
    (refine SqA.b1 (op_call none rfl rfl rfl (by kernel_rfl) (FnD.use (t1)) rfl rfl rfl rfl rfl rfl) rfl rfl ?_)
    (refine wlk ?_)
    exact ⟨(k + 1, m2), ⟨by simp only; omega, hnext2.symm, by simp only; omega⟩, fgs, by simp only; omega⟩
  rw [if_neg (by simp)] at hnext2
  cases hav : u1.var
  rotate_left
  · have hf4 : sup4 (c.eraseIdx i) d' m2 (u1, u2) = m2 := by unfold sup4; simp [hav]
    rw [hf4] at hnext2
    (refine wlk ?_)
    (refine SqA.b1 (op_call none rfl rfl rfl (by kernel_rfl) (FnD.use (t1)) rfl rfl rfl rfl rfl rfl) rfl rfl ?_)
    (refine wlk ?_)
    exact ⟨(k + 1, m2), ⟨by simp only; omega, hnext2.symm, by simp only; omega⟩, fgs, by simp only; omega⟩
  have hf4 : sup4 (c.eraseIdx i) d' m2 (u1, u2) = (List.range d'.length).foldl (sup3 (u1, u2) (c.eraseIdx i) d') m2 := by unfold sup4; simp [hav]
  rw [hf4] at hnext2
  have oa := h.way hx hway
  dsimp only at oa
  (refine wlk ?_)
  (refine SqA.b1 (op_call none rfl rfl rfl (by kernel_rfl) (FnD.use (t1)) rfl rfl rfl rfl rfl rfl) rfl rfl ?_)
  (refine wlk ?_)
  refine dwp_loop (fun z : Nat × Mk => [(.t 0, some (.one (lA Lt.d c))), (.t 1, some (.one (lA Lt.d d'))), (.t 6, some (.one (.c (.ptr 22 0)))), (.b 22, some (.box (mkBox z.2))), (.t 26, some (.one (iA c.length))), (.t 7, some (.one (iA i))), (.t 27, some (.one (iA i))), (.t 30, some (.one (iA k))), (.t 9, some (.one (.c (.ptr 9 0)))), (.b 9, some (.box (ltA ⟨false, u1, u2⟩).cells)), (.t 48, some (.one (iA d'.length))), (.t 49, some (.one (iA z.1)))])
    (fun z => z.1 ≤ d'.length ∧ z.2 = (List.range z.1).foldl (sup3 (u1, u2) (c.eraseIdx i) d') m2 ∧ z.2.1.length ≤ 1000 * i + 100 * k + 24 * z.1) (fun z => d'.length - z.1) (0, m2) ⟨by simp only; omega, rfl, by simp only; omega⟩ fgs ?_
  rintro ⟨j, m3⟩ ⟨hj, hm3, hb3⟩
  dsimp only at hj hm3 hb3 ⊢
  by_cases hjl : j < d'.length
  rotate_left
  · have hjc : j = d'.length := by omega
    subst hjc
    rw [← hm3] at hnext2
    (refine wlk ?_)
    exact ⟨(k + 1, m3), ⟨by simp only; omega, hnext2.symm, by simp only; omega⟩, fgs, by simp only; omega⟩
  have hnext3 := range_fold (sup3 (u1, u2) (c.eraseIdx i) d') m2 j
  rw [← hm3] at hnext3
  have hlen3 := sup3_len hd (u1, u2) (c.eraseIdx i) m3 j
  obtain ⟨y, hy⟩ := get_of_lt hjl
  have hs3 : sup3 (u1, u2) (c.eraseIdx i) d' m3 j = [false, true].foldl (sup2 (u1, u2) (c.eraseIdx i) d' j y) m3 := by unfold sup3; rw [hy]
  rw [hs3] at hnext3 hlen3
  (refine wlk ?_)
  refine dwp_loop (fun z : Nat × Mk => [(.t 0, some (.one (lA Lt.d c))), (.t 1, some (.one (lA Lt.d d'))), (.t 6, some (.one (.c (.ptr 22 0)))), (.b 22, some (.box (mkBox z.2))), (.t 26, some (.one (iA c.length))), (.t 7, some (.one (iA i))), (.t 27, some (.one (iA i))), (.t 30, some (.one (iA k))), (.t 9, some (.one (.c (.ptr 9 0)))), (.b 9, some (.box (ltA ⟨false, u1, u2⟩).cells)), (.t 48, some (.one (iA d'.length))), (.t 49, some (.one (iA j))), (.t 10, some (.one (iA j))), (.t 52, some (.one (iA z.1)))])
    (fun z => z.1 ≤ 2 ∧ z.2 = ([false, true].take z.1).foldl (sup2 (u1, u2) (c.eraseIdx i) d' j y) m3 ∧ z.2.1.length ≤ 1000 * i + 100 * k + 24 * j + 12 * z.1) (fun z => 2 - z.1) (0, m3) ⟨by simp only; omega, rfl, by simp only; omega⟩ fgs ?_
  rintro ⟨s, m4⟩ ⟨hs2, hm4, hb4⟩
  dsimp only at hs2 hm4 hb4 ⊢
  by_cases hsl : s < 2
  rotate_left
  · have hk2 : s = 2 := by omega
    subst hk2
    rw [show ([false, true].take 2) = [false, true] from rfl] at hm4
    rw [← hm4] at hnext3
    (refine wlk ?_)
    exact ⟨(j + 1, m4), ⟨by simp only; omega, hnext3.symm, by simp only; omega⟩, fgs, by simp only; omega⟩
  obtain ⟨side, hside, _, hsd⟩ := side_at hsl y
  have hnext4 := fold_take (sup2 (u1, u2) (c.eraseIdx i) d' j y) m3 hside
  rw [← hm4] at hnext4
  have hcs : cmpB .eql (s : Int) 1 = side := by rcases hsd with ⟨rfl, rfl⟩ | ⟨rfl, rfl⟩ <;> rfl
  have ow := hd.turn hy side
  have hs2' : sup2 (u1, u2) (c.eraseIdx i) d' j y m4 side = (places (turnL side y).left).foldl (sup1 (u1, u2) (c.eraseIdx i) d' j y side ((turnL side y).left, (turnL side y).right)) m4 := rfl
  rw [hs2'] at hnext4
  have hpl2 := places_len (turnL side y).left
  have hok := fun p s hp hs => CG.sup (side := side) (p := p) (s := s) h hd hx hy hway hp hs
  unfold supCl at hok
  dsimp only at hok
  have t2 := rturn y (cmpB .eql (s : Int) 1)
  rw [show turnL (cmpB .eql (s : Int) 1) y = ⟨y.neg, (turnL side y).left, (turnL side y).right⟩ by rw [hcs]; exact turn_eta side y] at t2
  clear hs2' hside hsd
  generalize hW1 : (turnL side y).left = w1 at *
  generalize hW2 : (turnL side y).right = w2 at *
  have hz1 := ow.1.1.size
  (refine wlk ?_)
  (refine SqA.b1 (op_call none rfl rfl rfl (by kernel_rfl) (FnD.use (t2)) rfl rfl rfl rfl rfl rfl) rfl rfl ?_)
  (refine wlk ?_)
  (refine SqA.b1 (op_call none rfl rfl rfl (by kernel_rfl) (FnD.use (rplaces w1 (by omega))) rfl rfl rfl rfl rfl rfl) rfl rfl ?_)
  (refine wlk ?_)
  refine dwp_loop (fun z : Nat × Mk => [(.t 0, some (.one (lA Lt.d c))), (.t 1, some (.one (lA Lt.d d'))), (.t 6, some (.one (.c (.ptr 22 0)))), (.b 22, some (.box (mkBox z.2))), (.t 26, some (.one (iA c.length))), (.t 7, some (.one (iA i))), (.t 27, some (.one (iA i))), (.t 30, some (.one (iA k))), (.t 9, some (.one (.c (.ptr 9 0)))), (.b 9, some (.box (ltA ⟨false, u1, u2⟩).cells)), (.t 48, some (.one (iA d'.length))), (.t 49, some (.one (iA j))), (.t 10, some (.one (iA j))), (.t 52, some (.one (iA s))), (.t 11, some (.one (iA s))), (.t 12, some (.one (.c (.ptr 12 0)))), (.b 12, some (.box (ltA ⟨y.neg, w1, w2⟩).cells)), (.t 64, some (.one (lA Is.d (places w1)))), (.t 65, some (.one (iA (places w1).length))), (.t 66, some (.one (iA z.1)))])
    (fun z => z.1 ≤ (places w1).length ∧ z.2 = ((places w1).take z.1).foldl (sup1 (u1, u2) (c.eraseIdx i) d' j y side (w1, w2)) m4 ∧ z.2.1.length ≤ 1000 * i + 100 * k + 24 * j + 12 * s + z.1) (fun z => (places w1).length - z.1) (0, m4) ⟨by simp only; omega, rfl, by simp only; omega⟩ fgs ?_
  rintro ⟨q, m5⟩ ⟨hq, hm5, hb5⟩
  dsimp only at hq hm5 hb5 ⊢
  by_cases hql : q < (places w1).length
  rotate_left
  · rw [fold_all _ _ (by omega)] at hm5
    rw [← hm5] at hnext4
    (refine wlk ?_)
    exact ⟨(s + 1, m5), ⟨by simp only; omega, hnext4.symm, by simp only; omega⟩, fgs, by simp only; omega⟩
  obtain ⟨p, hp⟩ := get_of_lt hql
  have hpm := List.mem_of_getElem? hp
  have hnext5 := fold_take (sup1 (u1, u2) (c.eraseIdx i) d' j y side (w1, w2)) m4 hp
  rw [← hm5] at hnext5
  have hlen5 := sup1_len (u1, u2) (c.eraseIdx i) d' j y side (w1, w2) m5 p
  have oat := ow.1.1.at ow.1.2 hpm
  have hu := runify oa.1.1 oat
  have hat := rat p w1 (by have := places_deep w1 p hpm; omega)
  cases hs : unify u1 (at_ w1 p).1 with
  | none =>
    rw [hs] at hu
    have hf1 : sup1 (u1, u2) (c.eraseIdx i) d' j y side (w1, w2) m5 p = m5 := by unfold sup1; simp [hs]
    rw [hf1] at hnext5
    (refine wlk ?_)
    (refine SqA.b1 (op_call none rfl rfl rfl (by kernel_rfl) (FnD.use (hat)) rfl rfl rfl rfl rfl rfl) rfl rfl ?_)
    (refine wlk ?_)
    (refine SqA.b1 (op_call none rfl rfl rfl (by kernel_rfl) (FnD.use (hu)) rfl rfl rfl rfl rfl rfl) rfl rfl ?_)
    (refine wlk ?_)
    exact ⟨(q + 1, m5), ⟨by simp only; omega, hnext5.symm, by simp only; omega⟩, fgs, by simp only; omega⟩
  | some sb =>
    rw [hs] at hu
    have ul := unify_len oa.1.1 oat hs
    have v1 := uok_of oa.1.1 oat hs oa.1.1
    have v2 := uok_of oa.1.1 oat hs oa.2.1
    have v3 := uok_of oa.1.1 oat hs ow.1.1
    have v4 := uok_of oa.1.1 oat hs ow.2.1
    have z1 := oa.1.1.size
    have z2 := oa.2.1.size
    have z4 := ow.2.1.size
    have g1 := ap sb (by omega) u1 (by omega)
    have g2 := ap sb (by omega) u2 (by omega)
    have g3 := ap sb (by omega) w1 (by omega)
    have g4 := ap sb (by omega) w2 (by omega)
    have k1 := rabove (app sb u2) (app sb u1) (by omega) (by omega)
    have k2 := rabove (app sb w2) (app sb w1) (by omega) (by omega)
    cases n1 : above (app sb u2) (app sb u1)
    rotate_left
    · have hf1 : sup1 (u1, u2) (c.eraseIdx i) d' j y side (w1, w2) m5 p = m5 := by unfold sup1; simp [hs, n1]
      rw [hf1] at hnext5
      rw [n1] at k1
      (refine wlk ?_)
      (refine SqA.b1 (op_call none rfl rfl rfl (by kernel_rfl) (FnD.use (hat)) rfl rfl rfl rfl rfl rfl) rfl rfl ?_)
      (refine wlk ?_)
      (refine SqA.b1 (op_call none rfl rfl rfl (by kernel_rfl) (FnD.use (hu)) rfl rfl rfl rfl rfl rfl) rfl rfl ?_)
      (refine wlk ?_)
      (refine SqA.b1 (op_call none rfl rfl rfl (by kernel_rfl) (FnD.use (g2)) rfl rfl rfl rfl rfl rfl) rfl rfl ?_)
      (refine wlk ?_)
      (refine SqA.b1 (op_call none rfl rfl rfl (by kernel_rfl) (FnD.use (g1)) rfl rfl rfl rfl rfl rfl) rfl rfl ?_)
      (refine wlk ?_)
      (refine SqA.b1 (op_call none rfl rfl rfl (by kernel_rfl) (FnD.use (k1)) rfl rfl rfl rfl rfl rfl) rfl rfl ?_)
      (refine wlk ?_)
      exact ⟨(q + 1, m5), ⟨by simp only; omega, hnext5.symm, by simp only; omega⟩, fgs, by simp only; omega⟩
    rw [n1] at k1
    cases n2 : above (app sb w2) (app sb w1)
    rotate_left
    · have hf1 : sup1 (u1, u2) (c.eraseIdx i) d' j y side (w1, w2) m5 p = m5 := by unfold sup1; simp [hs, n2]
      rw [hf1] at hnext5
      rw [n2] at k2
      (refine wlk ?_)
      (refine SqA.b1 (op_call none rfl rfl rfl (by kernel_rfl) (FnD.use (hat)) rfl rfl rfl rfl rfl rfl) rfl rfl ?_)
      (refine wlk ?_)
      (refine SqA.b1 (op_call none rfl rfl rfl (by kernel_rfl) (FnD.use (hu)) rfl rfl rfl rfl rfl rfl) rfl rfl ?_)
      (refine wlk ?_)
      (refine SqA.b1 (op_call none rfl rfl rfl (by kernel_rfl) (FnD.use (g2)) rfl rfl rfl rfl rfl rfl) rfl rfl ?_)
      (refine wlk ?_)
      (refine SqA.b1 (op_call none rfl rfl rfl (by kernel_rfl) (FnD.use (g1)) rfl rfl rfl rfl rfl rfl) rfl rfl ?_)
      (refine wlk ?_)
      (refine SqA.b1 (op_call none rfl rfl rfl (by kernel_rfl) (FnD.use (k1)) rfl rfl rfl rfl rfl rfl) rfl rfl ?_)
      (refine wlk ?_)
      (refine SqA.b1 (op_call none rfl rfl rfl (by kernel_rfl) (FnD.use (g4)) rfl rfl rfl rfl rfl rfl) rfl rfl ?_)
      (refine wlk ?_)
      (refine SqA.b1 (op_call none rfl rfl rfl (by kernel_rfl) (FnD.use (g3)) rfl rfl rfl rfl rfl rfl) rfl rfl ?_)
      (refine wlk ?_)
      (refine SqA.b1 (op_call none rfl rfl rfl (by kernel_rfl) (FnD.use (k2)) rfl rfl rfl rfl rfl rfl) rfl rfl ?_)
      (refine wlk ?_)
      exact ⟨(q + 1, m5), ⟨by simp only; omega, hnext5.symm, by simp only; omega⟩, fgs, by simp only; omega⟩
    · rw [n2] at k2
      have hf1 : sup1 (u1, u2) (c.eraseIdx i) d' j y side (w1, w2) m5 p = addR m5 sb (c.eraseIdx i ++ d'.set j (turnL side ⟨y.neg, put w1 p u2, w2⟩)) := by unfold sup1; simp [hs, n1, n2]
      rw [hf1] at hnext5 hlen5
      have hok := hok p sb hpm hs
      have hput := rput u2 p w1 (by omega)
      have hsl : (d'.set j (turnL side ⟨y.neg, put w1 p u2, w2⟩)).length = d'.length := List.length_set ..
      have hadd := ladd m5 sb (c.eraseIdx i ++ d'.set j (turnL side ⟨y.neg, put w1 p u2, w2⟩)) (by omega) hok.sz hok.len hok.okv hok.few hok.sz2 (by omega)
      have t3 := rturn ⟨y.neg, put w1 p u2, w2⟩ (cmpB .eql (s : Int) 1)
      rw [show turnL (cmpB .eql (s : Int) 1) ⟨y.neg, put w1 p u2, w2⟩ = turnL side ⟨y.neg, put w1 p u2, w2⟩ by rw [hcs]] at t3
      have hbut := rbutO c i hkl (by omega)
      (refine wlk ?_)
      (refine SqA.b1 (op_call none rfl rfl rfl (by kernel_rfl) (FnD.use (hat)) rfl rfl rfl rfl rfl rfl) rfl rfl ?_)
      (refine wlk ?_)
      (refine SqA.b1 (op_call none rfl rfl rfl (by kernel_rfl) (FnD.use (hu)) rfl rfl rfl rfl rfl rfl) rfl rfl ?_)
      (refine wlk ?_)
      (refine SqA.b1 (op_call none rfl rfl rfl (by kernel_rfl) (FnD.use (g2)) rfl rfl rfl rfl rfl rfl) rfl rfl ?_)
      (refine wlk ?_)
      (refine SqA.b1 (op_call none rfl rfl rfl (by kernel_rfl) (FnD.use (g1)) rfl rfl rfl rfl rfl rfl) rfl rfl ?_)
      (refine wlk ?_)
      (refine SqA.b1 (op_call none rfl rfl rfl (by kernel_rfl) (FnD.use (k1)) rfl rfl rfl rfl rfl rfl) rfl rfl ?_)
      (refine wlk ?_)
      (refine SqA.b1 (op_call none rfl rfl rfl (by kernel_rfl) (FnD.use (g4)) rfl rfl rfl rfl rfl rfl) rfl rfl ?_)
      (refine wlk ?_)
      (refine SqA.b1 (op_call none rfl rfl rfl (by kernel_rfl) (FnD.use (g3)) rfl rfl rfl rfl rfl rfl) rfl rfl ?_)
      (refine wlk ?_)
      (refine SqA.b1 (op_call none rfl rfl rfl (by kernel_rfl) (FnD.use (k2)) rfl rfl rfl rfl rfl rfl) rfl rfl ?_)
      (refine wlk ?_)
      (refine SqA.b2 (op_appT (T := TB) (f := Lt.d) (l := []) (es := d') (rs := d') rfl rfl rfl rfl rfl rfl (by omega) (by decide)) rfl rfl ?_)
      (refine wlk ?_)
      (refine SqA.b1 (op_call none rfl rfl rfl (by kernel_rfl) (FnD.use (hput)) rfl rfl rfl rfl rfl rfl) rfl rfl ?_)
      ((repeat ((with_reducible refine id_sq ?_); (first | ((with_reducible refine id_bin (b := .add) ?_); first | (refine SqA.b1 (op_bin rfl rfl rfl rfl (by first | exact bin_add rfl (by omega) | exact bin_catS (by first | assumption | rfl) (by (try simp only [List.length_append, List.length_cons, List.length_nil, List.length_drop, List.length_take]); omega) | exact bin_addw | exact bin_addK (by first | assumption | rfl))) rfl rfl ?_) | (refine SqA.noG1 rfl rfl ?_)) | ((with_reducible refine id_bin (b := .sub) ?_); first | (refine SqA.b1 (op_bin rfl rfl rfl rfl (by first | exact bin_sub rfl (by omega) | exact bin_subK (by first | assumption | rfl))) rfl rfl ?_) | (refine SqA.noG1 rfl rfl ?_)) | ((with_reducible refine id_bin (t := 9) ?_); first | (refine SqA.b1 (op_bin rfl rfl rfl rfl (by first | exact bin_eqS (by first | assumption | rfl) | exact bin_neS (by first | exact congrArg Bool.not (by assumption) | rfl))) rfl rfl ?_) | (refine SqA.a1 TB rfl rfl rfl ?_) | (refine SqA.noG1 rfl rfl ?_)) | ((with_reducible refine id_bin (b := .mul) ?_); first | (refine SqA.b1 (op_bin rfl rfl rfl rfl (by exact bin_mul rfl (by omega))) rfl rfl ?_) | (refine SqA.noG1 rfl rfl ?_)) | ((with_reducible refine id_bin (b := .quo) ?_); first | (refine SqA.b1 (op_bin rfl rfl rfl rfl (bin_quo (by omega) (by omega) (by omega) (by first | assumption | rfl))) rfl rfl ?_) | (refine SqA.noG1 rfl rfl ?_)) | ((with_reducible refine id_bin (b := .rem) ?_); first | (refine SqA.b1 (op_bin rfl rfl rfl rfl (bin_rem (by omega) (by omega) (by first | assumption | rfl))) rfl rfl ?_) | (refine SqA.noG1 rfl rfl ?_)) | ((with_reducible refine id_bin (t := 4) ?_); first | (refine SqA.b1 (op_bin rfl rfl rfl rfl (by first | exact bin_eqlB (by assumption) | exact bin_neqB (by assumption))) rfl rfl ?_) | (refine SqA.a1 TB rfl rfl rfl ?_) | (refine SqA.noG1 rfl rfl ?_)) | ((with_reducible refine id_bin ?_); first | (refine SqA.b1 (op_cmp rfl rfl rfl rfl rfl (by first | exact cmpT (by simp only [cmpP]; assumption) | exact cmpF (by simp only [cmpP]; assumption) | exact cmpT (by simp only [cmpP]; first | done | omega) | exact cmpF (by simp only [cmpP]; first | done | omega) | exact cmpD)) rfl rfl ?_) | (refine SqA.a1 TB rfl rfl rfl ?_) | (refine SqA.b1 (op_neq3 rfl rfl rfl rfl (by first | assumption | rfl)) rfl rfl ?_) | (refine SqA.b1 (op_eql3 rfl rfl rfl rfl (by first | assumption | rfl)) rfl rfl ?_) | (refine SqA.noG1 rfl rfl ?_)) | ((with_reducible refine id_callb (b := .len) ?_); first | (refine SqA.b1 (op_lenT (T := TB) rfl rfl rfl rfl) rfl rfl ?_) | (refine SqA.b1 (op_lenOT (T := TB) rfl rfl rfl rfl) rfl rfl ?_) | (refine SqA.b1 (op_lenNT (T := TB) rfl rfl rfl rfl) rfl rfl ?_) | (refine SqA.b1 (op_lenStr rfl rfl rfl) rfl rfl ?_) | (refine SqA.b1 (op_lenSlT (T := TB) rfl rfl rfl rfl) rfl rfl ?_) | (refine SqA.noG1 rfl rfl ?_)) | ((with_reducible refine id_callb (b := .append) ?_); first | (refine SqA.b2 (op_appT (T := TB) rfl rfl rfl rfl rfl (by first | assumption | rfl) (by (try simp only [List.length_map, List.length_append, List.length_cons, List.length_nil, List.length_take]); omega) (by decide)) rfl rfl ?_) | (refine SqA.b1 (op_app0T (T := TB) rfl rfl rfl rfl rfl (by (try simp only [List.length_map, List.length_append, List.length_cons, List.length_nil, List.length_take]); omega) (by decide)) rfl rfl ?_) | (refine SqA.b1 (op_appFullT (T := TB) rfl rfl rfl rfl rfl (by first | assumption | rfl) (by (try simp only [List.length_map, List.length_append, List.length_cons, List.length_nil, List.length_take]); omega) (by decide) (Nat.succ_pos _)) rfl rfl ?_) | (refine SqA.noG1 rfl rfl ?_)) | ((with_reducible refine id_callb (b := .min) ?_); first | (refine SqA.b1 (op_min rfl rfl rfl rfl (by first | exact if_pos (by omega) | exact if_neg (by omega) | rfl)) rfl rfl ?_) | (refine SqA.noG1 rfl rfl ?_)) | ((with_reducible refine id_callb (b := .max) ?_); first | (refine SqA.b1 (op_max rfl rfl rfl rfl (by first | exact if_pos (by omega) | exact if_neg (by omega) | rfl)) rfl rfl ?_) | (refine SqA.noG1 rfl rfl ?_)) | ((with_reducible refine id_idx ?_); first | (refine SqA.b1 (op_idxT (T := TB) rfl rfl rfl rfl rfl (by assumption) (by first | rfl | omega)) rfl rfl ?_) | (refine SqA.b1 (op_idx3 rfl rfl rfl rfl (by first | rfl | omega) (by omega)) rfl rfl ?_) | (refine SqA.b1 (op_idxSlT (T := TB) rfl rfl rfl rfl rfl (by first | rfl | omega) (by omega) rfl) rfl rfl ?_) | (refine SqA.b1 (op_idx2 rfl rfl rfl rfl (k := 0) rfl (by omega)) rfl rfl ?_) | (refine SqA.b1 (op_idx2 rfl rfl rfl rfl (k := 1) rfl (by omega)) rfl rfl ?_) | (refine SqA.noG1 rfl rfl ?_)) | ((with_reducible refine id_index ?_); first | (refine SqA.b1 (op_index3 rfl rfl rfl rfl (by first | rfl | omega) (by omega) (by first | assumption | rfl) rfl) rfl rfl ?_) | (refine SqA.b1 (op_idxS rfl rfl rfl rfl (by assumption) (by first | rfl | omega)) rfl rfl ?_) | (refine SqA.noG1 rfl rfl ?_)) | ((with_reducible refine id_slice ?_); first | (refine SqA.b1 (op_sliceLoT (T := TB) rfl rfl rfl rfl rfl (by first | decide | omega) (by first | decide | (simp only [List.length_cons, Int.toNat_one]; omega) | omega)) rfl rfl ?_) | (refine SqA.b1 (op_slice3T (T := TB) rfl rfl rfl rfl rfl rfl rfl (by (try simp only [List.length_cons, List.length_nil, List.length_drop, List.length_take, List.length_append]); omega)) rfl rfl ?_) | (refine SqA.b1 (op_slS1 rfl rfl rfl rfl (by first | rfl | omega) (by (try simp only [List.length_cons, List.length_nil, List.length_drop, List.length_take, List.length_append]); omega) (by first | assumption | rfl)) rfl rfl ?_) | (refine SqA.b1 (op_slS2 rfl rfl rfl rfl rfl (by first | rfl | omega) (by first | rfl | omega) (by (try simp only [List.length_cons, List.length_nil, List.length_drop, List.length_take, List.length_append]); omega) (by (try simp only [List.length_cons, List.length_nil, List.length_drop, List.length_take, List.length_append]); omega) (by first | assumption | rfl)) rfl rfl ?_) | (refine SqA.b1 (op_slS0 rfl rfl rfl rfl (by first | rfl | omega) (by (try simp only [List.length_cons, List.length_nil, List.length_drop, List.length_take, List.length_append]); omega) (by first | assumption | rfl)) rfl rfl ?_) | (refine SqA.noG1 rfl rfl ?_)) | ((with_reducible refine id_load ?_); first | (refine SqA.a1 TB rfl rfl rfl ?_) | (refine SqA.a2 TB rfl rfl rfl ?_) | (refine SqA.b1 (op_loadK rfl rfl (rw_of rfl) rfl rfl rfl rfl) rfl rfl ?_) | (refine SqA.b1 (op_load1B rfl rfl (rw_of rfl) rfl rfl (by assumption) rfl rfl) rfl rfl ?_) | (refine SqA.b1 (op_load1I rfl rfl (rw_of rfl) rfl rfl rfl) rfl rfl ?_) | (refine SqA.b1 (op_loadNI rfl rfl (rw_of rfl) rfl rfl rfl rfl rfl) rfl rfl ?_) | (refine SqA.b1 (op_loadP rfl rfl (rw_of rfl) rfl rfl) rfl rfl ?_) | (refine SqA.noG1 rfl rfl ?_)) | ((with_reducible refine id_store ?_); first | (refine SqA.a1 TB rfl rfl rfl ?_) | (refine SqA.a2 TB rfl rfl rfl ?_) | (refine SqA.b1 (op_storeV rfl rfl rfl rfl (rw_of rfl) rfl rfl rfl (by (try simp only [List.length_map, List.length_replicate, List.length_set]); omega) (by first | assumption | rfl) rfl) rfl rfl ?_) | (refine SqA.noG0 rfl rfl ?_)) | ((with_reducible refine id_box ?_); first | (refine SqA.a2 TB rfl rfl rfl ?_) | (refine SqA.noG1 rfl rfl ?_)) | ((with_reducible refine id_alloc ?_); first | (refine SqA.a2 TB rfl rfl rfl ?_) | (refine SqA.b2 (op_alloc3 rfl rfl rfl rfl) rfl rfl ?_) | (refine SqA.noG1 rfl rfl ?_)) | ((with_reducible refine id_build ?_); first | (refine SqA.a1 TB rfl rfl rfl ?_) | (refine SqA.b1 (op_b3 rfl rfl rfl) rfl rfl ?_) | (refine SqA.b1 (op_b2 rfl rfl rfl) rfl rfl ?_) | (refine SqA.noG1 rfl rfl ?_)) | ((with_reducible refine id_move ?_); first | (refine SqA.a1 TB rfl rfl rfl ?_) | (refine SqA.a2 TB rfl rfl rfl ?_) | (refine SqA.noG1 rfl rfl ?_) | (refine SqA.b1 (op_moveK rfl (Or.inl rfl) rfl) rfl rfl ?_)) | ((with_reducible refine id_assign ?_); first | (refine SqA.a1 TB rfl rfl rfl ?_) | (refine SqA.a2 TB rfl rfl rfl ?_) | (refine SqA.noG1 rfl rfl ?_) | (refine SqA.b1 (op_moveK rfl (Or.inr rfl) rfl) rfl rfl ?_)) | ((with_reducible refine id_un ?_); first | (refine SqA.a1 TB rfl rfl rfl ?_) | (refine SqA.noG1 rfl rfl ?_)) | ((with_reducible refine id_fld ?_); first | (refine SqA.a1 TB rfl rfl rfl ?_) | (refine SqA.b1 (op_fldI rfl rfl (fo_of rfl) rfl rfl rfl) rfl rfl ?_) | (refine SqA.noG1 rfl rfl ?_)) | ((with_reducible refine id_extract ?_); first | (refine SqA.a1 TB rfl rfl rfl ?_) | (refine SqA.noG1 rfl rfl ?_)) | ((with_reducible refine id_pick ?_); first | (refine SqA.a1 TB rfl rfl rfl ?_) | (refine SqA.noG1 rfl rfl ?_)) | ((with_reducible refine id_bs ?_); first | (refine SqA.a1 TB rfl rfl rfl ?_) | (refine SqA.noG1 rfl rfl ?_)) | ((with_reducible refine id_call ?_); first | (refine SqA.noG1 rfl rfl ?_)) | ((with_reducible refine id_conv ?_); first | (refine SqA.b1 (op_convU rfl rfl rfl (by omega)) rfl rfl ?_) | (refine SqA.b1 (op_conv8 rfl rfl rfl (by first | assumption | rfl)) rfl rfl ?_) | (refine SqA.b1 (op_s8 rfl rfl rfl) rfl rfl ?_) | (refine SqA.b1 (op_conv32 rfl rfl rfl (by first | assumption | rfl)) rfl rfl ?_) | (refine SqA.b1 (op_s32 rfl rfl rfl (by first | assumption | rfl)) rfl rfl ?_) | (refine SqA.noG1 rfl rfl ?_)) | ((with_reducible refine id_nilc ?_); first | (refine SqA.b1 (op_nilB rfl rfl rfl) rfl rfl ?_) | (refine SqA.b1 (op_nilF rfl rfl rfl) rfl rfl ?_) | (refine SqA.noG1 rfl rfl ?_)) | ((with_reducible refine id_field ?_); first | (refine SqA.b1 (op_fldV rfl rfl ftT0 (rw_of rfl) rfl rfl rfl) rfl rfl ?_) | (refine SqA.b1 (op_fldV rfl rfl ftT1 (rw_of rfl) rfl rfl rfl) rfl rfl ?_) | (refine SqA.b1 (op_fldV rfl rfl ftT2 (rw_of rfl) rfl rfl rfl) rfl rfl ?_) | (refine SqA.noG1 rfl rfl ?_)) | ((with_reducible refine id_mksl ?_); first | (refine SqA.b2 (op_mkInts rfl rfl rfl rfl (by omega) rfl rfl) rfl rfl ?_) | (refine SqA.noG1 rfl rfl ?_)) | ((with_reducible refine id_mkmap ?_); first | (refine SqA.goG (op_mfII (by assumption) rfl rfl rfl rfl rfl) rfl rfl ?_) | (refine SqA.goG (op_mfBS rfl rfl rfl rfl rfl) rfl rfl ?_) | (refine SqA.b2 (op_mkII rfl rfl) rfl rfl ?_) | (refine SqA.b2 (op_mkIB rfl rfl) rfl rfl ?_) | (refine SqA.b2 (op_mkBS rfl rfl) rfl rfl ?_) | (refine SqA.noG1 rfl rfl ?_)) | ((with_reducible refine id_look ?_); first | (refine SqA.b1 (op_lookII rfl rfl rfl rfl rfl rfl rfl (by first | assumption | rfl)) rfl rfl ?_) | (refine SqA.b1 (op_lookIB rfl rfl rfl rfl rfl rfl rfl (by first | assumption | rfl)) rfl rfl ?_) | (refine SqA.b1 (op_lookBS rfl rfl rfl rfl rfl rfl rfl (by first | assumption | rfl)) rfl rfl ?_) | (refine SqA.b1 (op_lfII rfl rfl rfl rfl rfl rfl rfl rfl rfl rfl) rfl rfl ?_) | (refine SqA.b1 (op_lfBS rfl rfl rfl rfl rfl rfl rfl rfl rfl rfl) rfl rfl ?_) | (refine SqA.b1 (op_lnII rfl rfl rfl rfl rfl rfl (by omega) rfl) rfl rfl ?_) | (refine SqA.noG1 rfl rfl ?_)) | ((with_reducible refine id_upd ?_); first | (refine SqA.b1 (op_putII rfl (Or.inl rfl) rfl rfl rfl rfl rfl rfl (by first | assumption | rfl)) rfl rfl ?_) | (refine SqA.b1 (op_putIB rfl (Or.inl rfl) rfl rfl rfl rfl rfl rfl (by first | assumption | rfl)) rfl rfl ?_) | (refine SqA.b1 (op_putBS rfl (Or.inl rfl) rfl rfl rfl rfl rfl rfl (by first | assumption | rfl)) rfl rfl ?_) | (refine SqA.b1 (op_pfII rfl (Or.inl rfl) rfl rfl rfl rfl rfl rfl rfl rfl) rfl rfl ?_) | (refine SqA.b1 (op_pfBS rfl (Or.inl rfl) rfl rfl rfl rfl rfl rfl rfl rfl) rfl rfl ?_) | (refine SqA.noG0 rfl rfl ?_)) | ((with_reducible refine id_ins ?_); first | (refine SqA.b1 (op_putII rfl (Or.inr rfl) rfl rfl rfl rfl rfl rfl (by first | assumption | rfl)) rfl rfl ?_) | (refine SqA.b1 (op_putIB rfl (Or.inr rfl) rfl rfl rfl rfl rfl rfl (by first | assumption | rfl)) rfl rfl ?_) | (refine SqA.b1 (op_putBS rfl (Or.inr rfl) rfl rfl rfl rfl rfl rfl (by first | assumption | rfl)) rfl rfl ?_) | (refine SqA.b1 (op_pfII rfl (Or.inr rfl) rfl rfl rfl rfl rfl rfl rfl rfl) rfl rfl ?_) | (refine SqA.b1 (op_pfBS rfl (Or.inr rfl) rfl rfl rfl rfl rfl rfl rfl rfl) rfl rfl ?_) | (refine SqA.noG0 rfl rfl ?_))))); (with_reducible refine SqA.nilN ?_); (first | (with_reducible refine thenD_n ?_) | (with_reducible refine thenD_ret ?_) | (with_reducible refine thenD_exit ?_) | (with_reducible refine inB_n ?_) | (with_reducible refine inB_ret ?_) | (refine inB_same ?_) | (refine inB_ne rfl ?_)))
      refine dwp_wk (σ' := [(.t 0, some (.one (lA Lt.d c))), (.t 1, some (.one (lA Lt.d d'))), (.t 6, some (.one (.c (.ptr 22 0)))), (.b 22, some (.box (mkBox m5))), (.t 26, some (.one (iA c.length))), (.t 7, some (.one (iA i))), (.t 27, some (.one (iA i))), (.t 30, some (.one (iA k))), (.t 9, some (.one (.c (.ptr 9 0)))), (.b 9, some (.box (ltA ⟨false, u1, u2⟩).cells)), (.t 48, some (.one (iA d'.length))), (.t 49, some (.one (iA j))), (.t 10, some (.one (iA j))), (.t 52, some (.one (iA s))), (.t 11, some (.one (iA s))), (.t 12, some (.one (.c (.ptr 12 0)))), (.b 12, some (.box (ltA ⟨y.neg, w1, w2⟩).cells)), (.t 64, some (.one (lA Is.d (places w1)))), (.t 65, some (.one (iA (places w1).length))), (.t 66, some (.one (iA q))), (.t 14, some (.one (lA Int.d p))), (.t 17, some (.one (lA Pr.d sb))), (.t 20, some (.one (.c (.ptr 20 0)))), (.b 20, some (.box (ltA ⟨y.neg, put w1 p u2, w2⟩).cells)), (.t 19, some (.one (.c (.own 59 7 (d'.map Lt.d)))))]) fgs ?_
      refine dwp_ownEls (f := Lt.d) (g := ltG) (t := 19) rfl (by omega) rfl rfl rfl rfl fun e => ?_
      (refine wlk ?_)
      (refine SqA.b1 (op_call none rfl rfl rfl (by kernel_rfl) (FnD.use (t3)) rfl rfl rfl rfl rfl rfl) rfl rfl ?_)
      (refine wlk ?_)
      (refine SqA.b1 (op_storeEl0 (g := ltG) (m := 7) (fun _ => rfl) (turnL side ⟨y.neg, put w1 p u2, w2⟩) rfl rfl (rw_of rfl) rfl rfl rfl rfl rfl rfl rfl rfl hjl rfl) rfl rfl ?_)
      ((repeat ((with_reducible refine id_sq ?_); (first | ((with_reducible refine id_bin (b := .add) ?_); first | (refine SqA.b1 (op_bin rfl rfl rfl rfl (by first | exact bin_add rfl (by omega) | exact bin_catS (by first | assumption | rfl) (by (try simp only [List.length_append, List.length_cons, List.length_nil, List.length_drop, List.length_take]); omega) | exact bin_addw | exact bin_addK (by first | assumption | rfl))) rfl rfl ?_) | (refine SqA.noG1 rfl rfl ?_)) | ((with_reducible refine id_bin (b := .sub) ?_); first | (refine SqA.b1 (op_bin rfl rfl rfl rfl (by first | exact bin_sub rfl (by omega) | exact bin_subK (by first | assumption | rfl))) rfl rfl ?_) | (refine SqA.noG1 rfl rfl ?_)) | ((with_reducible refine id_bin (t := 9) ?_); first | (refine SqA.b1 (op_bin rfl rfl rfl rfl (by first | exact bin_eqS (by first | assumption | rfl) | exact bin_neS (by first | exact congrArg Bool.not (by assumption) | rfl))) rfl rfl ?_) | (refine SqA.a1 TB rfl rfl rfl ?_) | (refine SqA.noG1 rfl rfl ?_)) | ((with_reducible refine id_bin (b := .mul) ?_); first | (refine SqA.b1 (op_bin rfl rfl rfl rfl (by exact bin_mul rfl (by omega))) rfl rfl ?_) | (refine SqA.noG1 rfl rfl ?_)) | ((with_reducible refine id_bin (b := .quo) ?_); first | (refine SqA.b1 (op_bin rfl rfl rfl rfl (bin_quo (by omega) (by omega) (by omega) (by first | assumption | rfl))) rfl rfl ?_) | (refine SqA.noG1 rfl rfl ?_)) | ((with_reducible refine id_bin (b := .rem) ?_); first | (refine SqA.b1 (op_bin rfl rfl rfl rfl (bin_rem (by omega) (by omega) (by first | assumption | rfl))) rfl rfl ?_) | (refine SqA.noG1 rfl rfl ?_)) | ((with_reducible refine id_bin (t := 4) ?_); first | (refine SqA.b1 (op_bin rfl rfl rfl rfl (by first | exact bin_eqlB (by assumption) | exact bin_neqB (by assumption))) rfl rfl ?_) | (refine SqA.a1 TB rfl rfl rfl ?_) | (refine SqA.noG1 rfl rfl ?_)) | ((with_reducible refine id_bin ?_); first | (refine SqA.b1 (op_cmp rfl rfl rfl rfl rfl (by first | exact cmpT (by simp only [cmpP]; assumption) | exact cmpF (by simp only [cmpP]; assumption) | exact cmpT (by simp only [cmpP]; first | done | omega) | exact cmpF (by simp only [cmpP]; first | done | omega) | exact cmpD)) rfl rfl ?_) | (refine SqA.a1 TB rfl rfl rfl ?_) | (refine SqA.b1 (op_neq3 rfl rfl rfl rfl (by first | assumption | rfl)) rfl rfl ?_) | (refine SqA.b1 (op_eql3 rfl rfl rfl rfl (by first | assumption | rfl)) rfl rfl ?_) | (refine SqA.noG1 rfl rfl ?_)) | ((with_reducible refine id_callb (b := .len) ?_); first | (refine SqA.b1 (op_lenT (T := TB) rfl rfl rfl rfl) rfl rfl ?_) | (refine SqA.b1 (op_lenOT (T := TB) rfl rfl rfl rfl) rfl rfl ?_) | (refine SqA.b1 (op_lenNT (T := TB) rfl rfl rfl rfl) rfl rfl ?_) | (refine SqA.b1 (op_lenStr rfl rfl rfl) rfl rfl ?_) | (refine SqA.b1 (op_lenSlT (T := TB) rfl rfl rfl rfl) rfl rfl ?_) | (refine SqA.noG1 rfl rfl ?_)) | ((with_reducible refine id_callb (b := .append) ?_); first | (refine SqA.b2 (op_appT (T := TB) rfl rfl rfl rfl rfl (by first | assumption | rfl) (by (try simp only [List.length_map, List.length_append, List.length_cons, List.length_nil, List.length_take]); omega) (by decide)) rfl rfl ?_) | (refine SqA.b1 (op_app0T (T := TB) rfl rfl rfl rfl rfl (by (try simp only [List.length_map, List.length_append, List.length_cons, List.length_nil, List.length_take]); omega) (by decide)) rfl rfl ?_) | (refine SqA.b1 (op_appFullT (T := TB) rfl rfl rfl rfl rfl (by first | assumption | rfl) (by (try simp only [List.length_map, List.length_append, List.length_cons, List.length_nil, List.length_take]); omega) (by decide) (Nat.succ_pos _)) rfl rfl ?_) | (refine SqA.noG1 rfl rfl ?_)) | ((with_reducible refine id_callb (b := .min) ?_); first | (refine SqA.b1 (op_min rfl rfl rfl rfl (by first | exact if_pos (by omega) | exact if_neg (by omega) | rfl)) rfl rfl ?_) | (refine SqA.noG1 rfl rfl ?_)) | ((with_reducible refine id_callb (b := .max) ?_); first | (refine SqA.b1 (op_max rfl rfl rfl rfl (by first | exact if_pos (by omega) | exact if_neg (by omega) | rfl)) rfl rfl ?_) | (refine SqA.noG1 rfl rfl ?_)) | ((with_reducible refine id_idx ?_); first | (refine SqA.b1 (op_idxT (T := TB) rfl rfl rfl rfl rfl (by assumption) (by first | rfl | omega)) rfl rfl ?_) | (refine SqA.b1 (op_idx3 rfl rfl rfl rfl (by first | rfl | omega) (by omega)) rfl rfl ?_) | (refine SqA.b1 (op_idxSlT (T := TB) rfl rfl rfl rfl rfl (by first | rfl | omega) (by omega) rfl) rfl rfl ?_) | (refine SqA.b1 (op_idx2 rfl rfl rfl rfl (k := 0) rfl (by omega)) rfl rfl ?_) | (refine SqA.b1 (op_idx2 rfl rfl rfl rfl (k := 1) rfl (by omega)) rfl rfl ?_) | (refine SqA.noG1 rfl rfl ?_)) | ((with_reducible refine id_index ?_); first | (refine SqA.b1 (op_index3 rfl rfl rfl rfl (by first | rfl | omega) (by omega) (by first | assumption | rfl) rfl) rfl rfl ?_) | (refine SqA.b1 (op_idxS rfl rfl rfl rfl (by assumption) (by first | rfl | omega)) rfl rfl ?_) | (refine SqA.noG1 rfl rfl ?_)) | ((with_reducible refine id_slice ?_); first | (refine SqA.b1 (op_sliceLoT (T := TB) rfl rfl rfl rfl rfl (by first | decide | omega) (by first | decide | (simp only [List.length_cons, Int.toNat_one]; omega) | omega)) rfl rfl ?_) | (refine SqA.b1 (op_slice3T (T := TB) rfl rfl rfl rfl rfl rfl rfl (by (try simp only [List.length_cons, List.length_nil, List.length_drop, List.length_take, List.length_append]); omega)) rfl rfl ?_) | (refine SqA.b1 (op_slS1 rfl rfl rfl rfl (by first | rfl | omega) (by (try simp only [List.length_cons, List.length_nil, List.length_drop, List.length_take, List.length_append]); omega) (by first | assumption | rfl)) rfl rfl ?_) | (refine SqA.b1 (op_slS2 rfl rfl rfl rfl rfl (by first | rfl | omega) (by first | rfl | omega) (by (try simp only [List.length_cons, List.length_nil, List.length_drop, List.length_take, List.length_append]); omega) (by (try simp only [List.length_cons, List.length_nil, List.length_drop, List.length_take, List.length_append]); omega) (by first | assumption | rfl)) rfl rfl ?_) | (refine SqA.b1 (op_slS0 rfl rfl rfl rfl (by first | rfl | omega) (by (try simp only [List.length_cons, List.length_nil, List.length_drop, List.length_take, List.length_append]); omega) (by first | assumption | rfl)) rfl rfl ?_) | (refine SqA.noG1 rfl rfl ?_)) | ((with_reducible refine id_load ?_); first | (refine SqA.a1 TB rfl rfl rfl ?_) | (refine SqA.a2 TB rfl rfl rfl ?_) | (refine SqA.b1 (op_loadK rfl rfl (rw_of rfl) rfl rfl rfl rfl) rfl rfl ?_) | (refine SqA.b1 (op_load1B rfl rfl (rw_of rfl) rfl rfl (by assumption) rfl rfl) rfl rfl ?_) | (refine SqA.b1 (op_load1I rfl rfl (rw_of rfl) rfl rfl rfl) rfl rfl ?_) | (refine SqA.b1 (op_loadNI rfl rfl (rw_of rfl) rfl rfl rfl rfl rfl) rfl rfl ?_) | (refine SqA.b1 (op_loadP rfl rfl (rw_of rfl) rfl rfl) rfl rfl ?_) | (refine SqA.noG1 rfl rfl ?_)) | ((with_reducible refine id_store ?_); first | (refine SqA.a1 TB rfl rfl rfl ?_) | (refine SqA.a2 TB rfl rfl rfl ?_) | (refine SqA.b1 (op_storeV rfl rfl rfl rfl (rw_of rfl) rfl rfl rfl (by (try simp only [List.length_map, List.length_replicate, List.length_set]); omega) (by first | assumption | rfl) rfl) rfl rfl ?_) | (refine SqA.noG0 rfl rfl ?_)) | ((with_reducible refine id_box ?_); first | (refine SqA.a2 TB rfl rfl rfl ?_) | (refine SqA.noG1 rfl rfl ?_)) | ((with_reducible refine id_alloc ?_); first | (refine SqA.a2 TB rfl rfl rfl ?_) | (refine SqA.b2 (op_alloc3 rfl rfl rfl rfl) rfl rfl ?_) | (refine SqA.noG1 rfl rfl ?_)) | ((with_reducible refine id_build ?_); first | (refine SqA.a1 TB rfl rfl rfl ?_) | (refine SqA.b1 (op_b3 rfl rfl rfl) rfl rfl ?_) | (refine SqA.b1 (op_b2 rfl rfl rfl) rfl rfl ?_) | (refine SqA.noG1 rfl rfl ?_)) | ((with_reducible refine id_move ?_); first | (refine SqA.a1 TB rfl rfl rfl ?_) | (refine SqA.a2 TB rfl rfl rfl ?_) | (refine SqA.noG1 rfl rfl ?_) | (refine SqA.b1 (op_moveK rfl (Or.inl rfl) rfl) rfl rfl ?_)) | ((with_reducible refine id_assign ?_); first | (refine SqA.a1 TB rfl rfl rfl ?_) | (refine SqA.a2 TB rfl rfl rfl ?_) | (refine SqA.noG1 rfl rfl ?_) | (refine SqA.b1 (op_moveK rfl (Or.inr rfl) rfl) rfl rfl ?_)) | ((with_reducible refine id_un ?_); first | (refine SqA.a1 TB rfl rfl rfl ?_) | (refine SqA.noG1 rfl rfl ?_)) | ((with_reducible refine id_fld ?_); first | (refine SqA.a1 TB rfl rfl rfl ?_) | (refine SqA.b1 (op_fldI rfl rfl (fo_of rfl) rfl rfl rfl) rfl rfl ?_) | (refine SqA.noG1 rfl rfl ?_)) | ((with_reducible refine id_extract ?_); first | (refine SqA.a1 TB rfl rfl rfl ?_) | (refine SqA.noG1 rfl rfl ?_)) | ((with_reducible refine id_pick ?_); first | (refine SqA.a1 TB rfl rfl rfl ?_) | (refine SqA.noG1 rfl rfl ?_)) | ((with_reducible refine id_bs ?_); first | (refine SqA.a1 TB rfl rfl rfl ?_) | (refine SqA.noG1 rfl rfl ?_)) | ((with_reducible refine id_call ?_); first | (refine SqA.noG1 rfl rfl ?_)) | ((with_reducible refine id_conv ?_); first | (refine SqA.b1 (op_convU rfl rfl rfl (by omega)) rfl rfl ?_) | (refine SqA.b1 (op_conv8 rfl rfl rfl (by first | assumption | rfl)) rfl rfl ?_) | (refine SqA.b1 (op_s8 rfl rfl rfl) rfl rfl ?_) | (refine SqA.b1 (op_conv32 rfl rfl rfl (by first | assumption | rfl)) rfl rfl ?_) | (refine SqA.b1 (op_s32 rfl rfl rfl (by first | assumption | rfl)) rfl rfl ?_) | (refine SqA.noG1 rfl rfl ?_)) | ((with_reducible refine id_nilc ?_); first | (refine SqA.b1 (op_nilB rfl rfl rfl) rfl rfl ?_) | (refine SqA.b1 (op_nilF rfl rfl rfl) rfl rfl ?_) | (refine SqA.noG1 rfl rfl ?_)) | ((with_reducible refine id_field ?_); first | (refine SqA.b1 (op_fldV rfl rfl ftT0 (rw_of rfl) rfl rfl rfl) rfl rfl ?_) | (refine SqA.b1 (op_fldV rfl rfl ftT1 (rw_of rfl) rfl rfl rfl) rfl rfl ?_) | (refine SqA.b1 (op_fldV rfl rfl ftT2 (rw_of rfl) rfl rfl rfl) rfl rfl ?_) | (refine SqA.noG1 rfl rfl ?_)) | ((with_reducible refine id_mksl ?_); first | (refine SqA.b2 (op_mkInts rfl rfl rfl rfl (by omega) rfl rfl) rfl rfl ?_) | (refine SqA.noG1 rfl rfl ?_)) | ((with_reducible refine id_mkmap ?_); first | (refine SqA.goG (op_mfII (by assumption) rfl rfl rfl rfl rfl) rfl rfl ?_) | (refine SqA.goG (op_mfBS rfl rfl rfl rfl rfl) rfl rfl ?_) | (refine SqA.b2 (op_mkII rfl rfl) rfl rfl ?_) | (refine SqA.b2 (op_mkIB rfl rfl) rfl rfl ?_) | (refine SqA.b2 (op_mkBS rfl rfl) rfl rfl ?_) | (refine SqA.noG1 rfl rfl ?_)) | ((with_reducible refine id_look ?_); first | (refine SqA.b1 (op_lookII rfl rfl rfl rfl rfl rfl rfl (by first | assumption | rfl)) rfl rfl ?_) | (refine SqA.b1 (op_lookIB rfl rfl rfl rfl rfl rfl rfl (by first | assumption | rfl)) rfl rfl ?_) | (refine SqA.b1 (op_lookBS rfl rfl rfl rfl rfl rfl rfl (by first | assumption | rfl)) rfl rfl ?_) | (refine SqA.b1 (op_lfII rfl rfl rfl rfl rfl rfl rfl rfl rfl rfl) rfl rfl ?_) | (refine SqA.b1 (op_lfBS rfl rfl rfl rfl rfl rfl rfl rfl rfl rfl) rfl rfl ?_) | (refine SqA.b1 (op_lnII rfl rfl rfl rfl rfl rfl (by omega) rfl) rfl rfl ?_) | (refine SqA.noG1 rfl rfl ?_)) | ((with_reducible refine id_upd ?_); first | (refine SqA.b1 (op_putII rfl (Or.inl rfl) rfl rfl rfl rfl rfl rfl (by first | assumption | rfl)) rfl rfl ?_) | (refine SqA.b1 (op_putIB rfl (Or.inl rfl) rfl rfl rfl rfl rfl rfl (by first | assumption | rfl)) rfl rfl ?_) | (refine SqA.b1 (op_putBS rfl (Or.inl rfl) rfl rfl rfl rfl rfl rfl (by first | assumption | rfl)) rfl rfl ?_) | (refine SqA.b1 (op_pfII rfl (Or.inl rfl) rfl rfl rfl rfl rfl rfl rfl rfl) rfl rfl ?_) | (refine SqA.b1 (op_pfBS rfl (Or.inl rfl) rfl rfl rfl rfl rfl rfl rfl rfl) rfl rfl ?_) | (refine SqA.noG0 rfl rfl ?_)) | ((with_reducible refine id_ins ?_); first | (refine SqA.b1 (op_putII rfl (Or.inr rfl) rfl rfl rfl rfl rfl rfl (by first | assumption | rfl)) rfl rfl ?_) | (refine SqA.b1 (op_putIB rfl (Or.inr rfl) rfl rfl rfl rfl rfl rfl (by first | assumption | rfl)) rfl rfl ?_) | (refine SqA.b1 (op_putBS rfl (Or.inr rfl) rfl rfl rfl rfl rfl rfl (by first | assumption | rfl)) rfl rfl ?_) | (refine SqA.b1 (op_pfII rfl (Or.inr rfl) rfl rfl rfl rfl rfl rfl rfl rfl) rfl rfl ?_) | (refine SqA.b1 (op_pfBS rfl (Or.inr rfl) rfl rfl rfl rfl rfl rfl rfl rfl) rfl rfl ?_) | (refine SqA.noG0 rfl rfl ?_))))); (with_reducible refine SqA.nilN ?_); (first | (with_reducible refine thenD_n ?_) | (with_reducible refine thenD_ret ?_) | (with_reducible refine thenD_exit ?_) | (with_reducible refine inB_n ?_) | (with_reducible refine inB_ret ?_) | (refine inB_same ?_) | (refine inB_ne rfl ?_)))
      refine dwp_wk (Wk.frzSlG (f := Lt.d) (g := ltG) (t := 19) (j := 19) (k := d'.length) (l := d'.set j (turnL side ⟨y.neg, put w1 p u2, w2⟩)) rfl rfl (els_take _ _) hsl rfl rfl) ?_
      (refine wlk ?_)
      (refine SqA.b1 (op_call none rfl rfl rfl (by kernel_rfl) (FnD.use (hbut)) rfl rfl rfl rfl rfl rfl) rfl rfl ?_)
      (refine wlk ?_)
      (refine SqA.b3 (Op1.frzIn (t := 132) rfl (op_call (some (22)) rfl rfl rfl (by kernel_rfl) (FnB.use (hadd)) rfl rfl rfl rfl rfl rfl)) rfl rfl ?_)
      (refine wlk ?_)
      exact ⟨(q + 1, addR m5 sb (c.eraseIdx i ++ d'.set j (turnL side ⟨y.neg, put w1 p u2, w2⟩))), ⟨by simp only; omega, hnext5.symm, by simp only; omega⟩, fgs, by simp only; omega⟩
end Go.Proofs.Ytmanhdacnkpclaa
