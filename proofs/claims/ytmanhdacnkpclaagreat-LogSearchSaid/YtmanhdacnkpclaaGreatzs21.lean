/- What functions do: the document's New. -/
import Derived.Test.YtmanhdacnkpclaaGreatzs20
import Derived.Test.YtmanhdacnkpclaaGreatzs17
import Derived.Test.YtmanhdacnkpclaaGreatzs16
import Derived.Test.YtmanhdacnkpclaaGreatzs19
import Derived.Test.YtmanhdacnkpclaaGreatzs09
import Derived.Test.YtmanhdacnkpclaaGreatzs10
import Derived.Test.YtmanhdacnkpclaaGreatzs01
import Derived.Test.YtmanhdacnkpclaaGreatRows
import Derived.ProofKit
import Derived.SizedLaws
import Derived.OpenShut
import Derived.Test.YtmanhdacnkpclaaGreatzs04
import Derived.Test.YtmanhdacnkpclaaGreatzs08
namespace Go.Proofs.YtmanhdacnkpclaaGreat
set_option linter.all false
set_option maxRecDepth 1000000
set_option maxHeartbeats 32000000
open Go.RowKit
abbrev pfBoxO (p : Pf) : List CV := [.arr (p.sig.map Int.d), .arr (p.steps.map Sp.d), .arr (p.active.map Int.d), .own 3 1 (p.wait.map Int.d), .val (.int .i64 p.found), .val (.bool p.lost)]
theorem rnew {S : List Int} {l : List (List Lt)} : FnD Tryz.prog 21 [lA Int.d S, lA Cl.d l] (.tup [pfA (newP S l).1, iA (newP S l).2]) := by
  refine Fn.of Tryz.func21 rfl Tryz.ntmps21 rfl (Nat.le_of_ble_eq_true rfl) ?_
  have c0 := rwrongSig S
  by_cases hw : wrongSig S = 0
  rotate_left
  · have e : newP S l = (Pf.zero, wrongSig S) := if_neg hw
    rw [e]
    (refine wlk ?_)
    (refine wlC c0 ?_)
    (refine wlk ?_)
    refine fin_wk (fun n => Wk.nilArrB (j := 4) (q := 0) rfl rfl rfl) ?_
    refine fin_wk (fun n => Wk.nilArrB (j := 4) (q := 1) rfl rfl rfl) ?_
    refine fin_wk (fun n => Wk.nilArrB (j := 4) (q := 2) rfl rfl rfl) ?_
    refine fin_wk (fun n => Wk.nilArrB (j := 4) (q := 3) rfl rfl rfl) ?_
    (refine wfCT ?_)
    rfl
  by_cases h8 : 8 < l.length
  · have e : newP S l = (Pf.zero, 5) := by unfold newP; rw [if_pos hw, if_pos h8]
    rw [e]
    (refine wlk ?_)
    (refine wlC c0 ?_)
    (refine wlk ?_)
    refine fin_wk (fun n => Wk.nilArrB (j := 4) (q := 0) rfl rfl rfl) ?_
    refine fin_wk (fun n => Wk.nilArrB (j := 4) (q := 1) rfl rfl rfl) ?_
    refine fin_wk (fun n => Wk.nilArrB (j := 4) (q := 2) rfl rfl rfl) ?_
    refine fin_wk (fun n => Wk.nilArrB (j := 4) (q := 3) rfl rfl rfl) ?_
    (refine wfCT ?_)
    rfl
  have e : newP S l = newGo S 0 l ⟨S, [], [], [], -1, false⟩ := by unfold newP; rw [if_pos hw, if_neg h8]
  rw [e]
  clear e
  (refine wlN ?_)
  (refine wlE ?_)
  (refine wlk ?_)
  (refine wlC c0 ?_)
  (refine wlE ?_)
  (refine wlN ?_)
  (refine wlE ?_)
  (refine wlN ?_)
  (refine wlE ?_)
  (refine wlN ?_)
  (refine wlE ?_)
  refine dwp_wk (Wk.nilArrB (j := 7) (q := 1) rfl rfl rfl) ?_
  refine dwp_wk (Wk.nilArrB (j := 7) (q := 2) rfl rfl rfl) ?_
  refine dwp_wk (Wk.nilOwnB (j := 7) (q := 3) (E := 3) (m := 1) rfl rfl rfl) ?_
  (refine wlk ?_)
  refine dwp_loop (fun x : Nat × Pf => [(.t 0, some (.one (lA Int.d S))), (.t 4, some (.one (.c (.ptr 4 0)))), (.b 4, some (.box zero9)), (.t 7, some (.one (.c (.ptr 7 0)))), (.b 7, some (.box (pfBoxO x.2))), (.t 25, some (.one (lA Cl.d l))), (.t 26, some (.one (iA l.length))), (.t 27, some (.one (iA x.1)))])
    (fun x => x.1 ≤ l.length ∧ newGo S 0 l ⟨S, [], [], [], -1, false⟩ = newGo S x.1 (l.drop x.1) x.2 ∧ x.2.steps.length ≤ x.1 ∧ x.2.wait.length ≤ x.1) (fun x => l.length - x.1) (0, ⟨S, [], [], [], -1, false⟩) ⟨by simp, rfl, by simp, by simp⟩ fgs ?_
  rintro ⟨k, p⟩ ⟨hk, hp, hst, hwa⟩
  dsimp only at hk hp hst hwa ⊢
  by_cases hkl : k < l.length
  rotate_left
  · have hkc : k = l.length := by omega
    subst hkc
    rw [List.drop_length] at hp
    have e : newGo S l.length [] p = (p, 0) := rfl
    rw [hp, e]
    refine dwp_wk (Wk.freezeB (j := 7) (q := 3) rfl rfl rfl) ?_
    (refine wlk ?_)
    (refine wfCT ?_)
    rfl
  obtain ⟨c, hc⟩ := get_of_lt hkl
  have c2 := rwrongCl S c
  have e1 : newGo S k (l.drop k) p = if wrongCl S c = 0 then (match norm c with
      | (n, e) => if e = 4 then (Pf.zero, 4) else if e = 0 then newGo S (k + 1) (l.drop (k + 1)) { (stepP p 1 [(k : Int)] n).1 with wait := p.wait ++ [((stepP p 1 [(k : Int)] n).1.steps.length : Int) - 1] } else newGo S (k + 1) (l.drop (k + 1)) p)
    else (Pf.zero, wrongCl S c) := by
    rw [drop_of hc]; rfl
  by_cases hwc : wrongCl S c = 0
  rotate_left
  · rw [hp, e1, if_neg hwc]
    (refine wlk ?_)
    (refine wlC c2 ?_)
    (refine wlk ?_)
    refine fin_wk (fun n => Wk.nilArrB (j := 4) (q := 0) rfl rfl rfl) ?_
    refine fin_wk (fun n => Wk.nilArrB (j := 4) (q := 1) rfl rfl rfl) ?_
    refine fin_wk (fun n => Wk.nilArrB (j := 4) (q := 2) rfl rfl rfl) ?_
    refine fin_wk (fun n => Wk.nilArrB (j := 4) (q := 3) rfl rfl rfl) ?_
    (refine wfCT ?_)
    rfl
  rw [if_pos hwc] at e1
  have hco := cok_of hw hwc
  have hl4 := hco.len
  have hgd : ∀ x ∈ c, (x.left.okv = true ∧ few x.left) ∧ (x.right.okv = true ∧ few x.right) := fun x hx => by
    obtain ⟨i, hi⟩ := List.getElem?_of_mem hx
    have ho := hco.cg.old hi
    exact ⟨⟨ho.1.1.okv, ho.1.1.few⟩, ho.2.1.okv, ho.2.1.few⟩
  have c3 := rnorm c (fun x hx => ⟨(hgd x hx).1.1, (hgd x hx).2.1⟩) (fun x hx => ⟨(hgd x hx).1.2, (hgd x hx).2.2⟩) (fun x hx => by have := hco.size x hx; omega) (by omega)
  rcases hn : norm c with ⟨d, e⟩
  rw [hn] at e1 c3
  dsimp only at e1 c3
  by_cases h4 : e = 4
  · subst h4
    rw [if_pos rfl] at e1
    rw [hp, e1]
    (refine wlk ?_)
    (refine wlC c2 ?_)
    (refine wlk ?_)
    (refine wlC c3 ?_)
    (refine wlk ?_)
    refine fin_wk (fun n => Wk.nilArrB (j := 4) (q := 0) rfl rfl rfl) ?_
    refine fin_wk (fun n => Wk.nilArrB (j := 4) (q := 1) rfl rfl rfl) ?_
    refine fin_wk (fun n => Wk.nilArrB (j := 4) (q := 2) rfl rfl rfl) ?_
    refine fin_wk (fun n => Wk.nilArrB (j := 4) (q := 3) rfl rfl rfl) ?_
    (refine wfCT ?_)
    rfl
  rw [if_neg h4] at e1
  by_cases h0 : e = 0
  rotate_left
  · rw [if_neg h0] at e1
    (refine wlk ?_)
    (refine wlC c2 ?_)
    (refine wlk ?_)
    (refine wlC c3 ?_)
    (refine wlk ?_)
    exact ⟨(k + 1, p), ⟨by simp only; omega, hp.trans e1, by simp only; omega, by simp only; omega⟩, fgs, by simp only; omega⟩
  subst h0
  rw [if_pos rfl] at e1
  obtain ⟨sg, st, ac, wa, fo, lo⟩ := p
  dsimp only at hst hwa e1
  have h120 : ¬ 120 ≤ st.length := by omega
  rw [stepP_in (by exact h120)] at e1
  dsimp only at e1
  have hp2 := hp.trans e1
  clear e1 hp
  have hwl : (wa ++ [((st ++ [(⟨1, [(k : Int)], d⟩ : Sp)]).length : Int) - 1]).length ≤ 1000 := by simp; omega
  have hsl2 : (st ++ [(⟨1, [(k : Int)], d⟩ : Sp)]).length = st.length + 1 := by simp
  (refine wlk ?_)
  (refine wlC c2 ?_)
  (refine wlk ?_)
  (refine wlC c3 ?_)
  (refine wlE ?_)
  (refine wlN ?_)
  (refine wlE ?_)
  (refine wlN ?_)
  (refine wlE ?_)
  refine dwp_isOBs (j := 7) (q := 3) rfl rfl rfl ⟨7, rfl⟩ fun ad cp => ?_
  have hsp := rstepV ad (wa.map Int.d).length cp ⟨sg, st, ac, wa, fo, lo⟩ 1 [(k : Int)] d (by simp only; omega)
  rw [stepP_t (by exact h120)] at hsp
  dsimp only [pfAV, pfA] at hsp
  (refine wlN ?_)
  (refine SqA.b1 (op_loadAggK rfl rfl (rw_of rfl) rfl rfl rfl rfl rfl rfl) rfl rfl ?_)
  (refine wlk ?_)
  (refine SqA.b1 (op_bsT (T := TB) (f := Int.d) [(k : Int)] rfl rfl rfl rfl rfl rfl rfl rfl rfl rfl rfl) rfl rfl ?_)
  (refine wlk ?_)
  (refine wlC hsp ?_)
  (refine SqA.a1 TB rfl rfl rfl ?_)
  (refine SqA.a1 TB rfl rfl rfl ?_)
  (refine SqA.a1 TB rfl rfl rfl ?_)
  (refine SqA.b1 (op_storeKeep (j := 7) (q := 3) rfl rfl rfl rfl (rw_of rfl) rfl rfl rfl rfl rfl rfl rfl rfl rfl) rfl rfl ?_)
  (refine wlE ?_)
  refine dwp_wk (Wk.ofKB (j := 7) (q := 3) rfl rfl rfl rfl) ?_
  (refine wlk ?_)
  (refine SqA.b1 (op_bsT (T := TB) (f := Int.d) [((st ++ [(⟨1, [(k : Int)], d⟩ : Sp)]).length : Int) - 1] rfl rfl rfl rfl rfl rfl rfl rfl rfl rfl rfl) rfl rfl ?_)
  (refine wlk ?_)
  exact ⟨(k + 1, ⟨sg, st ++ [⟨1, [(k : Int)], d⟩], ac, wa ++ [((st ++ [(⟨1, [(k : Int)], d⟩ : Sp)]).length : Int) - 1], if d.length = 0 ∧ fo < 0 then (st.length : Int) else fo, lo⟩), ⟨by simp only; omega, hp2, by simp; omega, by simp; omega⟩, fgs, by simp only; omega⟩
theorem emod_of {n m : Int} (hm : 0 < m) : (if Int.tmod n m < 0 then Int.tmod n m + m else Int.tmod n m) = n % m := by
  rcases Int.lt_or_le n 0 with h | h
  · have e : Int.tmod n m = - ((-n) % m) := by
      have : n = - (-n) := by omega
      rw [this, Int.neg_tmod, Int.tmod_eq_emod_of_nonneg (by omega)]; simp
    rw [e]
    have h1 := Int.emod_nonneg (-n) (show m ≠ 0 by omega)
    have h2 := Int.emod_lt_of_pos (-n) hm
    rcases Classical.em ((-n) % m = 0) with h0 | h0
    · rw [h0]
      simp only [Int.neg_zero]
      rw [if_neg (by omega)]
      have := Int.dvd_of_emod_eq_zero h0
      exact (Int.emod_eq_zero_of_dvd ((Int.dvd_neg).1 this)).symm
    · rw [if_pos (by omega)]
      have h4 : (m - (-n) % m) % m = m - (-n) % m := Int.emod_eq_of_lt (by omega) (by omega)
      have hd := Int.emod_add_mul_ediv (-n) m
      have hs : n = (m - (-n) % m) + m * (-((-n) / m) - 1) := by
        rw [Int.mul_sub, Int.mul_neg, Int.mul_one]; omega
      have h3 : n % m = (m - (-n) % m) % m := by
        rw [congrArg (· % m) hs]
        exact Int.add_mul_emod_self_left _ _ _
      rw [h3, h4]
      exact Int.add_comm _ _
  · rw [Int.tmod_eq_emod_of_nonneg h, if_neg (by have := Int.emod_nonneg n (show m ≠ 0 by omega); omega)]
section
variable {P : Program}
theorem bin_tmod {T : TypeId} {a b : Int} (h1 : 0 < b) : Bin P .rem T (.int .i64 a) (.int .i64 b) (.int .i64 (Int.tmod a b)) := .mk fun s1 s2 w => by
  simp [eqGuard, binOp, Op.intDiv, show ¬ b = 0 by omega]
end
theorem rsearch {S : List Int} {l : List (List Lt)} {picks : List Int} : FnD Tryz.prog 18 [lA Int.d S, lA Cl.d l, lA Int.d picks] (.tup [pfA (search S l picks).1, iA (search S l picks).2]) := by
  refine Fn.of Tryz.func18 rfl Tryz.ntmps18 rfl (Nat.le_of_ble_eq_true rfl) ?_
  have c0 := rnew (S := S) (l := l)
  obtain ⟨⟨p0, e⟩, hn⟩ : ∃ r, r = newP S l := ⟨_, rfl⟩
  have hse : search S l picks = if e = 0 then (if 120 < picks.length then (Pf.zero, 4) else (searchGo p0 picks, 0)) else (Pf.zero, e) := by unfold search; rw [← hn]
  rw [← hn] at c0
  dsimp only at c0
  by_cases he : e = 0
  rotate_left
  · rw [hse, if_neg he]
    (refine wlk ?_)
    (refine wlC c0 ?_)
    (refine wlk ?_)
    refine fin_wk (fun n => Wk.nilArrB (j := 6) (q := 0) rfl rfl rfl) ?_
    refine fin_wk (fun n => Wk.nilArrB (j := 6) (q := 1) rfl rfl rfl) ?_
    refine fin_wk (fun n => Wk.nilArrB (j := 6) (q := 2) rfl rfl rfl) ?_
    refine fin_wk (fun n => Wk.nilArrB (j := 6) (q := 3) rfl rfl rfl) ?_
    (refine wfCT ?_)
    rfl
  subst he
  rw [if_pos rfl] at hse
  by_cases h120 : 120 < picks.length
  · rw [hse, if_pos h120]
    (refine wlk ?_)
    (refine wlC c0 ?_)
    (refine wlk ?_)
    refine fin_wk (fun n => Wk.nilArrB (j := 6) (q := 0) rfl rfl rfl) ?_
    refine fin_wk (fun n => Wk.nilArrB (j := 6) (q := 1) rfl rfl rfl) ?_
    refine fin_wk (fun n => Wk.nilArrB (j := 6) (q := 2) rfl rfl rfl) ?_
    refine fin_wk (fun n => Wk.nilArrB (j := 6) (q := 3) rfl rfl rfl) ?_
    (refine wfCT ?_)
    rfl
  rw [hse, if_neg h120]
  clear hse
  obtain ⟨hs, hi⟩ := newP_right hn.symm
  have hQ := QOk.ofKept hs hi
  have hpi := (newP_ok hn.symm hQ).1
  clear hn
  (refine wlk ?_)
  (refine wlC c0 ?_)
  (refine wlk ?_)
  refine dwp_loop (fun x : Nat × Pf => [(.t 6, some (.one (.c (.ptr 6 0)))), (.b 6, some (.box zero9)), (.t 8, some (.one (.c (.ptr 8 0)))), (.b 8, some (.box (pfA x.2).cells)), (.t 26, some (.one (lA Int.d picks))), (.t 27, some (.one (iA picks.length))), (.t 28, some (.one (iA x.1)))])
    (fun x => x.1 ≤ picks.length ∧ searchGo p0 picks = searchGo x.2 (picks.drop x.1) ∧ PI S l (Kept S) x.2) (fun x => picks.length - x.1) (0, p0) ⟨by simp, rfl, hpi⟩ fgs ?_
  clear hpi c0
  rintro ⟨k, p⟩ ⟨hk, hsg, hp⟩
  dsimp only at hk hsg hp ⊢
  by_cases hkl : k < picks.length
  rotate_left
  · have : k = picks.length := by omega
    subst this
    rw [List.drop_length] at hsg
    have e : searchGo p [] = p := rfl
    rw [hsg, e]
    (refine wlk ?_)
    (refine wfCT ?_)
    rfl
  obtain ⟨x, hx⟩ := get_of_lt hkl
  rw [drop_of hx] at hsg
  have e1 : searchGo p (x :: picks.drop (k + 1)) = if p.wait.length = 0 then p else searchGo (pick p (x % (p.wait.length : Int))).1 (picks.drop (k + 1)) := rfl
  rw [e1] at hsg
  have hgo := PfGo.of hp fun c h => h
  have hlen := hgo.ok.len
  have haw := hgo.aw
  by_cases hw : p.wait.length = 0
  · rw [if_pos hw] at hsg
    rw [hsg]
    (refine wlk ?_)
    (refine wfCT ?_)
    rfl
  rw [if_neg hw] at hsg
  have hm : 0 < (p.wait.length : Int) := by omega
  have hmod := emod_of (n := x) hm
  have hb1 := Int.emod_nonneg x (show (p.wait.length : Int) ≠ 0 by omega)
  have hb2 := Int.emod_lt_of_pos x hm
  by_cases hneg : Int.tmod x (p.wait.length : Int) < 0
  · rw [if_pos hneg] at hmod
    have hpk := rpick hgo (Int.tmod x (p.wait.length : Int) + (p.wait.length : Int))
    have hp2 := (hp.pick hQ (x % (p.wait.length : Int))).1
    rw [← hmod] at hsg hp2
    (refine wlk ?_)
    (refine SqA.b1 (op_bin rfl rfl rfl rfl (bin_tmod (by omega))) rfl rfl ?_)
    (refine wlk ?_)
    (refine wlC hpk ?_)
    (refine wlk ?_)
    exact ⟨(k + 1, _), ⟨by simp only; omega, hsg, hp2⟩, fgs, by simp only; omega⟩
  · rw [if_neg hneg] at hmod
    have hpk := rpick hgo (Int.tmod x (p.wait.length : Int))
    have hp2 := (hp.pick hQ (x % (p.wait.length : Int))).1
    rw [← hmod] at hsg hp2
    (refine wlk ?_)
    (refine SqA.b1 (op_bin rfl rfl rfl rfl (bin_tmod (by omega))) rfl rfl ?_)
    (refine wlk ?_)
    (refine wlC hpk ?_)
    (refine wlk ?_)
    exact ⟨(k + 1, _), ⟨by simp only; omega, hsg, hp2⟩, fgs, by simp only; omega⟩
theorem clauses10 (ts : List (List UInt8)) (cs : List (List Lt)) (hcs : cs = ts.map fun t => (clauseParse [0, 1, 2] t).1) (hl : ts.length ≤ 1000) (hb : ∀ t ∈ ts, t.length ≤ 1000) : FnD Tryz.prog 38 [lA Str.d ts] (.one (lA Cl.d cs)) := by
  have hcl : cs.length = ts.length := by rw [hcs, List.length_map]
  refine Fn.of Tryz.func38 rfl Tryz.ntmps38 rfl (Nat.le_of_ble_eq_true rfl) ?_
  (refine wlk ?_)
  refine dwp_loop (fun k : Nat => [(.t 3, some (.one (.c (.own 39 1 ((cs.take k).map Cl.d))))), (.t 8, some (.one (lA Str.d ts))), (.t 9, some (.one (iA ts.length))), (.t 10, some (.one (iA k)))])
    (fun k => k ≤ ts.length) (fun k => ts.length - k) 0 (by omega) ((Wk.nilOwn (d := 3) (E := 39) (m := 1) rfl).trans fgs) ?_
  intro k hk
  by_cases hkl : k < ts.length
  rotate_left
  · have : k = ts.length := by omega
    subst this
    refine dwp_wk (Wk.freezeAt (d := 3) rfl) ?_
    (refine wlk ?_)
    (refine wfT ?_)
    rw [List.take_of_length_le (by omega)]
    rfl
  obtain ⟨t, ht⟩ := get_of_lt hkl
  have htl := hb t (List.mem_of_getElem? ht)
  have hp := rclauseParse [0, 1, 2] t (by omega)
  have hc : cs[k]? = some (clauseParse [0, 1, 2] t).1 := by rw [hcs, List.getElem?_map, ht]; rfl
  obtain ⟨⟨c, e⟩, he⟩ : ∃ r, r = clauseParse [0, 1, 2] t := ⟨_, rfl⟩
  rw [← he] at hp hc
  dsimp only at hp hc
  have hts : cs.take k ++ [c] = cs.take (k + 1) := (take_succ_of hc).symm
  have hlen : (cs.take (k + 1)).length ≤ 1001 := by rw [List.length_take]; omega
  have hlen0 : (cs.take k).length ≤ 1001 := by rw [List.length_take]; omega
  clear hc
  (refine wlk ?_)
  (refine SqA.b1 (op_bsT (T := TB) (f := Int.d) [0, 1, 2] rfl rfl rfl rfl rfl rfl rfl rfl rfl rfl rfl) rfl rfl ?_)
  (refine wlk ?_)
  (refine wlC hp ?_)
  (refine wlk ?_)
  (refine SqA.b1 (op_bsT (T := TB) (f := Cl.d) [c] rfl rfl rfl rfl rfl rfl rfl rfl rfl rfl rfl) rfl rfl ?_)
  (refine wlk ?_)
  exact ⟨k + 1, by omega, fgs, by omega⟩
theorem fb_big {steps : List Sp} (h : ∀ x ∈ steps, x.frm.length ≤ 1000) : ∀ x ∈ steps, x.frm.length ≤ 1000000000 := fun x hx => by have := h x hx; omega
theorem alive10 : FnD Tryz.prog 14 [] (.one (bA true)) := by
  have c1 := clauses10 [[98, 40, 88, 48, 41, 61, 88, 48], [98, 40, 97, 41, 33, 61, 97]] [k91, k92] (by kernel_rfl) (by decide) (by decide)
  have c2 := rsearch (S := [0, 1, 2]) (l := [k91, k92]) (picks := [0, 0])
  rw [search91] at c2
  have c3 := scheck (S := [0, 1, 2]) (inn := [k91, k92]) (steps := r91.steps) (by decide)
  rw [checked91.check] at c3
  have c4 := scheck (S := [0, 1, 2]) (inn := [k91, k92]) (steps := bad91) (by decide)
  rw [check91b] at c4
  have c5 := strim checked91 (by decide) 2
  have h0 : ([] : List Sp) ++ r91.steps = r91.steps := rfl
  have hl3 : r91.steps.length ≤ 1000 := by decide
  rw [trim91] at c5
  dsimp only [pfA] at c2 c3 c4 c5
  refine Fn.of Tryz.func14 rfl Tryz.ntmps14 rfl (Nat.le_of_ble_eq_true rfl) ?_
  (refine wlk ?_)
  (refine SqA.b1 (op_bsT (T := TB) (f := Int.d) [0, 1, 2] rfl rfl rfl rfl rfl rfl rfl rfl rfl rfl rfl) rfl rfl ?_)
  (refine wlk ?_)
  (refine SqA.b1 (op_bsT (T := TB) (f := Str.d) [[98, 40, 88, 48, 41, 61, 88, 48], [98, 40, 97, 41, 33, 61, 97]] rfl rfl rfl rfl rfl rfl rfl rfl rfl rfl rfl) rfl rfl ?_)
  (refine wlk ?_)
  (refine wlC c1 ?_)
  (refine wlk ?_)
  (refine SqA.b1 (op_bsT (T := TB) (f := Int.d) [0, 0] rfl rfl rfl rfl rfl rfl rfl rfl rfl rfl rfl) rfl rfl ?_)
  (refine wlk ?_)
  (refine wlC c2 ?_)
  (refine wlk ?_)
  (refine wlC c3 ?_)
  (refine wlE ?_)
  (refine wlN ?_)
  (refine wlE ?_)
  refine dwp_ownEls (f := Sp.d) (t := 7) (l := r91.steps) rfl (by decide) rfl rfl rfl rfl fun e => ?_
  rw [show els spG r91.steps e = [CV.val (.int .i64 1), .arr ([0].map Int.d), .arr (k91.map Lt.d), .val (.int .i64 1), .arr ([1].map Int.d), .arr (k92.map Lt.d), .val (.int .i64 5), .arr ([1, 0].map Int.d), .arr (([] : List Lt).map Lt.d)] ++ List.replicate e .any from rfl, show r91.steps.length = 3 from rfl]
  (refine wlN ?_)
  (refine SqA.a1 TB rfl rfl rfl ?_)
  (refine SqA.b1 (op_idxSlT (T := TB) (q := 0) (q' := 0) rfl rfl rfl rfl rfl rfl (by decide) rfl) rfl rfl ?_)
  (refine wlE ?_)
  refine dwp_wk (Wk.nilArrB (j := 7) (q := 2) rfl rfl rfl) ?_
  refine dwp_wk (Wk.frzSlG (f := Sp.d) (t := 7) (j := 7) (k := 3) (l := bad91) rfl rfl rfl rfl rfl rfl) ?_
  (refine wlk ?_)
  (refine wlC c4 ?_)
  (refine wlk ?_)
  (refine wlC c5 ?_)
  have g2 : r91.steps[2]? = some ⟨5, [1, 0], []⟩ := rfl
  (refine wlk ?_)
  (refine wfT ?_)
  rfl
theorem logSearch_fn (s : List Int) (l : List (List Lt)) (picks : List Int) (k : Int) : FnD Tryz.prog 5 [lA Int.d s, lA Cl.d l, lA Int.d picks, iA k] (.one (bA true)) := by
  refine Fn.of Tryz.func5 rfl Tryz.ntmps5 rfl (Nat.le_of_ble_eq_true rfl) ?_
  have c4 := rsearch (S := s) (l := l) (picks := picks)
  obtain ⟨⟨p, e⟩, hs⟩ : ∃ r, r = search s l picks := ⟨_, rfl⟩
  rw [← hs] at c4
  dsimp only at c4
  by_cases he : e = 0
  rotate_left
  · (refine wlk ?_)
    (refine wlC alive10 ?_)
    (refine wlk ?_)
    (refine wlC c4 ?_)
    (refine wlk ?_)
    (refine wfT ?_)
    rfl
  subst he
  have hfb := fb_big (search_fb hs.symm)
  have hso := search_ok hs.symm fun hs hi => QOk.ofKept hs hi
  have hch := hso.1.checked hso.2.2.2.1 hso.2.2.2.2 hso.2.2.1
  clear hso hs
  obtain ⟨psg, pst, pac, pwa, pfo, plo⟩ := p
  dsimp only [pfA] at c4
  dsimp only at hfb hch
  have hlen := hch.len
  have c1 := scheck (S := s) (inn := l) (steps := pst) hfb
  rw [hch.check] at c1
  dsimp only at c1
  have c3 := strim hch hfb k
  by_cases h0 : k < 0
  · rw [show trim pst k = [] from if_pos (.inl h0)] at c3
    (refine wlk ?_)
    (refine wlC alive10 ?_)
    (refine wlk ?_)
    (refine wlC c4 ?_)
    (refine wlk ?_)
    (refine wlC c1 ?_)
    (refine wlk ?_)
    (refine wlC c3 ?_)
    (refine wlk ?_)
    (refine wfT ?_)
    rfl
  by_cases h1 : (pst.length : Int) ≤ k
  · rw [show trim pst k = [] from if_pos (.inr h1)] at c3
    (refine wlk ?_)
    (refine wlC alive10 ?_)
    (refine wlk ?_)
    (refine wlC c4 ?_)
    (refine wlk ?_)
    (refine wlC c1 ?_)
    (refine wlk ?_)
    (refine wlC c3 ?_)
    (refine wlk ?_)
    (refine wfT ?_)
    rfl
  rw [show trim pst k = trimGo pst (needs pst k) (k.toNat + 1) from if_neg (by omega)] at c3
  obtain ⟨z, rfl⟩ := Int.eq_ofNat_of_zero_le (show 0 ≤ k by omega)
  rw [Int.toNat_natCast] at c3
  have hzl : z < pst.length := by omega
  have hct := hch.trim hzl
  obtain ⟨t, ht, htl⟩ := trim_end (steps := pst) hzl
  obtain ⟨⟨r0, f0, c0⟩, hy⟩ := get_of_lt hzl
  have hsy : stAt pst (z : Int) = ⟨r0, f0, c0⟩ := stAt_get (by rw [Int.toNat_natCast]; exact hy)
  have hfb2 : ∀ x ∈ trimGo pst (needs pst (z : Int)) (z + 1), x.frm.length ≤ 1000000000 := fun x hx => by
    obtain ⟨j, hj⟩ := List.getElem?_of_mem hx
    obtain ⟨i, hi, _, _, rfl⟩ := trimGo_of hj
    have hi2 := stAt_of (l := pst) (k := (i : Int)) (by omega) (by omega)
    have := hfb _ (List.mem_of_getElem? hi2)
    unfold renum
    split
    · exact this
    · simpa using this
  have c5 := scheck (S := s) (inn := l) (steps := trimGo pst (needs pst (z : Int)) (z + 1)) hfb2
  rw [hct.check] at c5
  dsimp only at c5
  have hlast : (trimGo pst (needs pst (z : Int)) (z + 1))[(trimGo pst (needs pst (z : Int)) (z + 1)).length - 1]? = some ⟨r0, f0.map (ren1 (needs pst (z : Int)) r0), c0⟩ := by
    rw [ht, hsy, renum_eq]; simp
  have hpos : 0 < (trimGo pst (needs pst (z : Int)) (z + 1)).length := by rw [ht]; simp
  have c6 := rsameClause c0 c0
  rw [clSame_iff.2 rfl] at c6
  clear ht hsy hfb2 hct hch hfb
  generalize f0.map (ren1 (needs pst (z : Int)) r0) = f1 at *
  generalize trimGo pst (needs pst (z : Int)) (z + 1) = T at *
  (refine wlk ?_)
  (refine wlC alive10 ?_)
  (refine wlk ?_)
  (refine wlC c4 ?_)
  (refine wlk ?_)
  (refine wlC c1 ?_)
  (refine wlk ?_)
  (refine wlC c3 ?_)
  (refine wlk ?_)
  (refine wlC c5 ?_)
  have hTl : T.length ≤ 1000 := by omega
  (refine wlk ?_)
  (refine wlC c6 ?_)
  (refine wlk ?_)
  (refine wfT ?_)
  rfl
end Go.Proofs.YtmanhdacnkpclaaGreat
/- From the reading that a row speaks of to our own: terms, lists, numbers. -/
namespace Go.Proofs.YtmanhdacnkpclaaGreat
set_option linter.unusedVariables false
set_option linter.unusedSimpArgs false
open Go.ChangeShapes Go.WideShapes Go.ChangeAt Go.RowKit
theorem Tryz.own : ownKnob Tryz.prog.godebug = none := by kernel_rfl
theorem Tryz.laidOut : laidOutB Tryz.prog = true := by kernel_rfl
theorem exists_list {α : Type} {R : Nat → α → Prop} : ∀ n, (∀ i, i < n → ∃ x, R i x) → ∃ l : List α, l.length = n ∧ ∀ i x, l[i]? = some x → R i x
  | 0, _ => ⟨[], rfl, by simp⟩
  | n + 1, h => by
    obtain ⟨l, hl, hR⟩ := exists_list n (fun i hi => h i (by omega))
    obtain ⟨y, hy⟩ := h n (by omega)
    refine ⟨l ++ [y], by simp [hl], fun i x hx => ?_⟩
    rcases Nat.lt_or_ge i n with hi | hi
    · rw [List.getElem?_append_left (by omega)] at hx; exact hR i x hx
    · rw [List.getElem?_append_right (by omega)] at hx
      have : i - l.length = 0 := by
        rcases Nat.eq_zero_or_pos (i - l.length) with h0 | h0
        · exact h0
        · rw [List.getElem?_eq_none (by simp; omega)] at hx; cases hx
      rw [this] at hx
      simp at hx; subst hx
      have : i = n := by omega
      subst this; exact hy
theorem rds_cells {α : Type} {f : α → D} {w : World} {S : Nat → Prop} {m b : Nat} : ∀ (l : List α) (o : Nat),
    (∀ i x, l[i]? = some x → ∃ cs, cs.length = m ∧ rd w S (f x) cs ∧ ∀ j u, cs[j]? = some u → w.cell? ⟨b, o + i * m + j, none⟩ = some u) →
    ∃ xs, rds w S (l.map f) xs ∧ ∀ j u, xs[j]? = some u → w.cell? ⟨b, o + j, none⟩ = some u
  | [], _, _ => ⟨[], rfl, by simp⟩
  | y :: l, o, h => by
    obtain ⟨cs, hc, hr, hcell⟩ := h 0 y rfl
    obtain ⟨xs, hx, hxc⟩ := rds_cells l (o + m) (fun i x hi => by
      obtain ⟨cs, h1, h2, h3⟩ := h (i + 1) x (by simpa using hi)
      exact ⟨cs, h1, h2, fun j u hu => by
        have := h3 j u hu
        rw [Nat.add_mul, Nat.one_mul] at this
        rw [show o + m + i * m + j = o + (i * m + m) + j by omega]; exact this⟩)
    refine ⟨cs ++ xs, ⟨cs, xs, rfl, hr, hx⟩, fun j u hu => ?_⟩
    rcases Nat.lt_or_ge j cs.length with hj | hj
    · rw [List.getElem?_append_left hj] at hu
      have := hcell j u hu
      simpa using this
    · rw [List.getElem?_append_right hj, hc] at hu
      have := hxc _ u hu
      rw [show o + m + (j - m) = o + j by omega] at this; exact this
section
variable {H : Type} {enc : TypeId × Value → H} {P : Program} {w : World} {base : Nat} {spare : Nat → Bool} {held : Bool}
theorem trod_list {α : Type} {f : α → D} {T E m : Nat} (hT : P.underlying T = some (.slice E)) (hE : P.cellsOf E = m) (hm : 0 < m) {fuel : Nat}
    (ih : ∀ n cs x, n < fuel → DataW.trod enc P w base spare held n E cs = some x → ∃ y, rd w (fun _ => True) (f y) cs) {cs : List Value} {x : DataW H × List MemPlace}
    (h : DataW.trod enc P w base spare held fuel T cs = some x) : ∃ l v, cs = [v] ∧ RdL f w (fun _ => True) l v := by
  rcases DataW.trod_slice hT h with ⟨rfl, _⟩ | ⟨a, len, cap, elems, rest, n, rfl, rfl, _, hb, hl, hm', hlen, hel, _⟩
  · exact ⟨[], _, rfl, RdL.nil 0 (by omega) none⟩
  · rw [hE] at hel
    have hi : ∀ i, i < len → ∃ y, ∃ cs, cs.length = m ∧ rd w (fun _ => True) (f y) cs ∧ ∀ j, j < m → w.cell? ((a.add (i * m)).add j) = cs[j]? := by
      intro i hi
      have h1 := hel i hi
      have h2 : elems[i]? = some (elems[i]'(by omega)) := List.getElem?_eq_getElem (by omega)
      rw [h2] at h1
      obtain ⟨cs, hcs, htr⟩ := Option.bind_eq_some_iff.1 h1
      obtain ⟨y, hy⟩ := ih n cs _ (by omega) htr
      obtain ⟨_, hcl, hc⟩ := World.cells?_some hcs
      exact ⟨y, cs, hcl, hy, hc⟩
    obtain ⟨l, hll, hR⟩ := exists_list len hi
    refine ⟨l, _, rfl, ?_⟩
    refine ⟨some a, cap, by simp [hll], by simpa [hll] using hl, hm', ?_⟩
    rcases Nat.eq_zero_or_pos len with h0 | h0
    · left; simp [hll, h0]
    · right
      obtain ⟨b, o, sp⟩ := a
      have hsp : sp = none := by
        obtain ⟨y, cs, h1, _, h3⟩ := hi 0 h0
        have := h3 0 hm
        rw [List.getElem?_eq_getElem (by omega)] at this
        simpa [Addr.add] using World.cell?_spot this
      subst hsp
      have hadd : ∀ i j, ((⟨b, o, none⟩ : Addr).add (i * m)).add j = ⟨b, o + i * m + j, none⟩ := by
        intro i j; rw [add_lit, add_lit]
      obtain ⟨xs, hx, hxc⟩ := rds_cells (f := f) (w := w) (S := fun _ => True) (m := m) (b := b) l o (fun i y hy => by
        have hil : i < l.length := (List.getElem?_eq_some_iff.1 hy).1
        obtain ⟨cs, h1, h2, h3⟩ := hR i y hy
        refine ⟨cs, h1, h2, fun j u hu => ?_⟩
        have hj : j < m := by rw [← h1]; exact (List.getElem?_eq_some_iff.1 hu).1
        rw [← hadd, h3 j hj]; exact hu)
      have hbs : b < w.heap.size := by
        obtain ⟨y, cs, h1, _, h3⟩ := hi 0 h0
        have := h3 0 hm
        rw [List.getElem?_eq_getElem (by omega), hadd] at this
        exact World.block_lt_of_cell? w _ this
      exact ⟨b, o, xs, rfl, trivial, hbs, hx, hxc⟩
end
section
variable {H : Type} {enc : TypeId × Value → H} {w : World} {base : Nat} {spare : Nat → Bool} {held : Bool}
theorem trod_intD {fuel : Nat} {cs : List Value} {x : DataW H × List MemPlace} (h : DataW.trod enc Tryz.prog w base spare held fuel 3 cs = some x) : ∃ y, rd w (fun _ => True) (Int.d y) cs := by
  obtain ⟨n, rfl, _⟩ := DataW.trod_int Tryz.underlying3 h
  exact ⟨n, rfl⟩
set_option maxRecDepth 100000 in
theorem trod_tm : ∀ (fuel : Nat) (cs : List Value) (x : DataW H × List MemPlace), DataW.trod enc Tryz.prog w base spare held fuel 75 cs = some x → ∃ t : Tm, rd w (fun _ => True) t.d cs := by
  intro fuel
  induction fuel using Nat.strongRecOn with
  | ind fuel ih =>
    intro cs x h
    obtain ⟨xs, n, rfl, hx, hcl, hxl, hf⟩ := DataW.trod_struct Tryz.underlying75 h
    have hcl' : cs.length = 3 := hcl.trans (by kernel_rfl)
    match cs, hcl', xs, hxl with
    | [c0, c1, c2], _, [x0, x1, x2], _ =>
      have e4 : Tryz.prog.cellsOf 4 = 1 := by kernel_rfl
      have e3 : Tryz.prog.cellsOf 3 = 1 := by kernel_rfl
      have e24 : Tryz.prog.cellsOf 73 = 1 := by kernel_rfl
      have f0 : DataW.trod enc Tryz.prog w base spare held n 4 [c0] = some x0 := (congrArg (fun k => DataW.trod enc Tryz.prog w base spare held n 4 (List.take k [c0, c1, c2])) e4).symm.trans (hf 0 _ rfl)
      have f1 : DataW.trod enc Tryz.prog w base spare held n 3 [c1] = some x1 := (congrArg (fun k => DataW.trod enc Tryz.prog w base spare held n 3 (List.take k [c1, c2])) e3).symm.trans (hf 1 _ rfl)
      have f2 : DataW.trod enc Tryz.prog w base spare held n 73 [c2] = some x2 := (congrArg (fun k => DataW.trod enc Tryz.prog w base spare held n 73 (List.take k [c2])) e24).symm.trans (hf 2 _ rfl)
      obtain ⟨b, hb, _⟩ := DataW.trod_bool Tryz.underlying4 f0
      obtain ⟨m, hm, _⟩ := DataW.trod_int Tryz.underlying3 f1
      obtain ⟨l, v, hv, hl⟩ := trod_list (f := Tm.d) Tryz.underlying73 (m := 3) (by kernel_rfl) (by omega) (fun n' cs x hn ht => ih n' (by omega) cs x ht) f2
      simp at hb hm hv
      subst hb hm hv
      obtain ⟨a, c, rfl, _⟩ := hl.form
      exact ⟨⟨b, m, l⟩, rd_tm.2 ⟨a, c, rfl, hl⟩⟩
set_option maxRecDepth 100000 in
theorem open_nums {T : Nat} (hT : Tryz.prog.underlying T = some (.slice 3)) {r : Reach} {b0 : Nat} {v : Value} {d : DataW H} {p : List MemPlace} (hv : Value.okWide Tryz.prog w r b0 T v) (h : DataW.Trod enc Tryz.prog w base spare held T v d p) :
    ∃ l : List Int, RdI w (fun _ => True) l v := by
  obtain ⟨a0, len, cap, rfl⟩ := okWide_slice hT hv
  obtain ⟨fuel, hf⟩ := h
  obtain ⟨l, v, e, hl⟩ := trod_list (f := Int.d) hT (m := 1) (by kernel_rfl) (by omega) (fun n cs x _ ht => trod_intD ht) hf
  simp [Value.cells] at e
  subst e
  exact ⟨l, hl⟩
set_option maxRecDepth 100000 in
theorem trodAll_below {W W' : World} (hb : Below W.heap.size W W') : ∀ (ts : List TypeId) (vs : List Value) (ds : List (DataW H)) (ps : List MemPlace),
    (∀ t ∈ ts, Tryz.prog.readableRec t = true ∧ t < Tryz.prog.types.size) → DataW.TrodAll enc Tryz.prog W 0 (fun _ => true) true ts vs ds ps → (∀ x ∈ ps, x.block < W.heap.size) →
    DataW.TrodAll enc Tryz.prog W' 0 (fun b => decide (b < W.heap.size)) true ts vs ds ps
  | [], vs, ds, ps, _, h, _ => by obtain ⟨rfl, rfl, rfl⟩ := trodAll_nil h; exact trodAll_mk0
  | t :: ts, vs, ds, ps, hts, h, hlt => by
    obtain ⟨v, vs', d, ds', p, q, rfl, rfl, rfl, hd, hr⟩ := trodAll_cons h
    refine trodAll_cons_mk (Below.trod Tryz.laidOut (hts t (by simp)).1 (hts t (by simp)).2 hd hb (fun x hx => hlt x (by simp [hx]))) (trodAll_below hb ts vs' ds' q (fun t' ht' => hts t' (by simp [ht'])) hr (fun x hx => hlt x (by simp [hx])))
end
end Go.Proofs.YtmanhdacnkpclaaGreat
/- From the reading that a row speaks of to our own: more kinds. -/
namespace Go.Proofs.YtmanhdacnkpclaaGreat
set_option linter.unusedVariables false
set_option linter.unusedSimpArgs false
open Go.ChangeShapes Go.WideShapes Go.ChangeAt Go.RowKit
section
variable {H : Type} {enc : TypeId × Value → H} {w : World} {base : Nat} {spare : Nat → Bool} {held : Bool}
set_option maxRecDepth 100000 in
theorem trod_lt (fuel : Nat) (cs : List Value) (x : DataW H × List MemPlace) (h : DataW.trod enc Tryz.prog w base spare held fuel 77 cs = some x) : ∃ l : Lt, rd w (fun _ => True) l.d cs := by
  obtain ⟨xs, n, rfl, hx, hcl, hxl, hf⟩ := DataW.trod_struct Tryz.underlying77 h
  have hcl' : cs.length = 7 := hcl.trans (by kernel_rfl)
  match cs, hcl', xs, hxl with
  | [c0, c1, c2, c3, c4, c5, c6], _, [x0, x1, x2], _ =>
    have e4 : Tryz.prog.cellsOf 4 = 1 := by kernel_rfl
    have e3 : Tryz.prog.cellsOf 75 = 3 := by kernel_rfl
    have f0 : DataW.trod enc Tryz.prog w base spare held n 4 [c0] = some x0 := (congrArg (fun k => DataW.trod enc Tryz.prog w base spare held n 4 (List.take k [c0, c1, c2, c3, c4, c5, c6])) e4).symm.trans (hf 0 _ rfl)
    have f1 : DataW.trod enc Tryz.prog w base spare held n 75 [c1, c2, c3] = some x1 := (congrArg (fun k => DataW.trod enc Tryz.prog w base spare held n 75 (List.take k [c1, c2, c3, c4, c5, c6])) e3).symm.trans (hf 1 _ rfl)
    have f2 : DataW.trod enc Tryz.prog w base spare held n 75 [c4, c5, c6] = some x2 := (congrArg (fun k => DataW.trod enc Tryz.prog w base spare held n 75 (List.take k [c4, c5, c6])) e3).symm.trans (hf 2 _ rfl)
    obtain ⟨b, hb, _⟩ := DataW.trod_bool Tryz.underlying4 f0
    obtain ⟨t, ht⟩ := trod_tm _ _ _ f1
    obtain ⟨u, hu⟩ := trod_tm _ _ _ f2
    simp at hb
    subst hb
    exact ⟨⟨b, t, u⟩, [.bool b], [c1, c2, c3, c4, c5, c6], rfl, rfl, [c1, c2, c3], [c4, c5, c6], rfl, ht, [c4, c5, c6], [], rfl, hu, rfl⟩
set_option maxRecDepth 100000 in
theorem open_clause {r : Reach} {b0 : Nat} {v : Value} {d : DataW H} {p : List MemPlace} (hv : Value.okWide Tryz.prog w r b0 39 v) (h : DataW.Trod enc Tryz.prog w base spare held 39 v d p) :
    ∃ l : List Lt, RdL Lt.d w (fun _ => True) l v := by
  obtain ⟨a0, len, cap, rfl⟩ := okWide_slice Tryz.underlying39 hv
  obtain ⟨fuel, hf⟩ := h
  obtain ⟨l, v, e, hl⟩ := trod_list (f := Lt.d) Tryz.underlying39 (m := 7) (by kernel_rfl) (by omega) (fun n cs x _ ht => trod_lt n cs x ht) hf
  simp [Value.cells] at e
  subst e
  exact ⟨l, hl⟩
end
end Go.Proofs.YtmanhdacnkpclaaGreat
/- From the reading that a row speaks of to our own: bindings, literals, models, more. -/
namespace Go.Proofs.YtmanhdacnkpclaaGreat
set_option linter.all false
open Go.ChangeShapes Go.WideShapes Go.ChangeAt Go.RowKit
section
variable {H : Type} {enc : TypeId × Value → H} {w : World} {base : Nat} {spare : Nat → Bool} {held : Bool}
set_option maxRecDepth 100000 in
theorem trod_cl (fuel : Nat) (cs : List Value) (x : DataW H × List MemPlace) (h : DataW.trod enc Tryz.prog w base spare held fuel 39 cs = some x) : ∃ l : List Lt, rd w (fun _ => True) (Cl.d l) cs := by
  obtain ⟨l, v, e, hl⟩ := trod_list (f := Lt.d) Tryz.underlying39 (m := 7) (by kernel_rfl) (by omega) (fun n cs x _ ht => trod_lt n cs x ht) h
  subst e
  exact ⟨l, hl⟩
set_option maxRecDepth 100000 in
theorem open_clauses {r : Reach} {b0 : Nat} {v : Value} {d : DataW H} {p : List MemPlace} (hv : Value.okWide Tryz.prog w r b0 24 v) (h : DataW.Trod enc Tryz.prog w base spare held 24 v d p) :
    ∃ l : List (List Lt), RdL Cl.d w (fun _ => True) l v := by
  obtain ⟨a0, len, cap, rfl⟩ := okWide_slice Tryz.underlying24 hv
  obtain ⟨fuel, hf⟩ := h
  obtain ⟨l, v, e, hl⟩ := trod_list (f := Cl.d) Tryz.underlying24 (m := 1) (by kernel_rfl) (by omega) (fun n cs x _ ht => trod_cl n cs x ht) hf
  simp [Value.cells] at e
  subst e
  exact ⟨l, hl⟩
end
end Go.Proofs.YtmanhdacnkpclaaGreat
