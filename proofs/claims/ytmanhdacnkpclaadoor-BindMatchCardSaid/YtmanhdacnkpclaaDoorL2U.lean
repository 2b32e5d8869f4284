/- BindUnify, BindMatch: walked. -/
import Derived.Test.YtmanhdacnkpclaaDoorE2
import Derived.Test.YtmanhdacnkpclaaDoorBa
import Derived.Test.YtmanhdacnkpclaaDoorRt
import Derived.Test.YtmanhdacnkpclaaDoorT1
namespace Go.Proofs.YtmanhdacnkpclaaDoor
set_option linter.all false
open Go.RowKit

set_option maxRecDepth 100000 in
theorem right2 (s : List Int) (l : List Tm) (hl : l.length ≤ 1000000000) : FnD Tryd.prog 16 [lA Int.d s, lA Tm.d l] (.one (bA (rgtB s l))) := by
  refine Fn.of Tryd.func16 rfl Tryd.ntmps16 rfl (Nat.le_of_ble_eq_true rfl) ?_
  have e0 : decide (wrongSig s = 0) = rgtB s (l.take 0) := by simp [rgtB]
  (refine wlk ?_)
  (refine SqA.b1 (op_call none rfl rfl rfl (by kernel_rfl) (FnD.use (rwrongSig s)) rfl rfl rfl rfl rfl rfl) rfl rfl ?_)
  (refine wlk ?_)
  refine dwp_loop (fun k : Nat => [(.t 0, some (.one (lA Int.d s))), (.t 5, some (.one (bA (rgtB s (l.take k))))), (.t 11, some (.one (lA Tm.d l))), (.t 12, some (.one (iA l.length))), (.t 13, some (.one (iA k)))])
    (fun k => k ≤ l.length) (fun k => l.length - k) 0 (by omega) ?_ ?_
  · rw [← e0]; exact fgs
  intro k hk
  by_cases hkl : k < l.length
  · obtain ⟨x, hx⟩ := get_of_lt hkl
    have hsn := rgtB_snoc (s := s) hx
    cases hb : rgtB s (l.take k)
    · rw [hb] at hsn
      simp only [Bool.false_and] at hsn
      (refine wlk ?_)
      refine ⟨k + 1, by omega, ?_, by omega⟩
      rw [hsn]
      exact fgs
    · rw [hb] at hsn
      simp only [Bool.true_and] at hsn
      (refine wlk ?_)
      (refine SqA.b1 (op_call none rfl rfl rfl (by kernel_rfl) (FnD.use (rwrong s x)) rfl rfl rfl rfl rfl rfl) rfl rfl ?_)
      (refine wlk ?_)
      refine ⟨k + 1, by omega, ?_, by omega⟩
      rw [hsn]
      exact fgs
  · have : k = l.length := by omega
    subst this
    rw [List.take_length]
    (refine wlk ?_)
    (first | (refine finR (.tmp rfl .nil) rfl rfl ?_) | (refine finN (.tmp rfl .nil) rfl rfl ?_))
    rfl

set_option maxRecDepth 100000 in
theorem read2 (l : List UInt8) : FnD Tryd.prog 69 [sA l] (.one (tA (parseTm [0, 1, 2] l).1)) := by
  refine Fn.of Tryd.func69 rfl Tryd.ntmps69 rfl (Nat.le_of_ble_eq_true rfl) ?_
  (refine wlk ?_)
  (refine SqA.b1 (op_bsT (T := TB) (f := Int.d) [0, 1, 2] rfl rfl rfl rfl rfl rfl rfl rfl rfl rfl rfl) rfl rfl ?_)
  (refine wlk ?_)
  (refine SqA.b1 (op_call none rfl rfl rfl (by kernel_rfl) (FnD.use (rparse [0, 1, 2] l)) rfl rfl rfl rfl rfl rfl) rfl rfl ?_)
  (refine wlk ?_)
  (first | (refine finR (.cellN rfl rfl (rw_of rfl) rfl rfl .nil) rfl rfl ?_) | (refine finN (.cellN rfl rfl (rw_of rfl) rfl rfl .nil) rfl rfl ?_))
  rfl
theorem read2_at {l : List UInt8} {t : Tm} (h : parseTm [0, 1, 2] l = (t, 0)) : FnD Tryd.prog 69 [sA l] (.one (tA t)) := by
  have := read2 l
  rw [h] at this; exact this

theorem old2 {t : Tm} (h : t.size ≤ 12) (h2 : t.wf [0, 1, 2] = true) : Old t := old_of h h2
theorem bunify_at {a b : Tm} {r : Option (List Pr)} (h : unify a b = r) (h1 : a.size ≤ 12) (h2 : a.wf [0, 1, 2] = true) (h3 : b.size ≤ 12) (h4 : b.wf [0, 1, 2] = true) : FnD Tryd.prog 17 [tA a, tA b] (.tup (resU r)) := by
  have := bunify (old2 h1 h2) (old2 h3 h4)
  rw [h] at this; exact this
set_option maxHeartbeats 8000000 in
set_option maxRecDepth 100000 in
theorem alive2 : FnD Tryd.prog 15 [] (.one (bA true)) := by
  have r1 : FnD Tryd.prog 69 [sA [99, 40, 88, 48, 44, 98, 40, 88, 49, 41, 41]] (.one (tA ⟨false, 2, [⟨true, 0, []⟩, ⟨false, 1, [⟨true, 1, []⟩]⟩]⟩)) := read2_at (by kernel_rfl)
  have r2 : FnD Tryd.prog 69 [sA [99, 40, 98, 40, 97, 41, 44, 88, 48, 41]] (.one (tA ⟨false, 2, [⟨false, 1, [⟨false, 0, []⟩]⟩, ⟨true, 0, []⟩]⟩)) := read2_at (by kernel_rfl)
  have r3 : FnD Tryd.prog 69 [sA [99, 40, 88, 48, 44, 88, 49, 41]] (.one (tA ⟨false, 2, [⟨true, 0, []⟩, ⟨true, 1, []⟩]⟩)) := read2_at (by kernel_rfl)
  have r4 : FnD Tryd.prog 69 [sA [99, 40, 97, 44, 98, 40, 97, 41, 41]] (.one (tA ⟨false, 2, [⟨false, 0, []⟩, ⟨false, 1, [⟨false, 0, []⟩]⟩]⟩)) := read2_at (by kernel_rfl)
  have rx : FnD Tryd.prog 69 [sA [88, 48]] (.one (tA ⟨true, 0, []⟩)) := read2_at (by kernel_rfl)
  have rb : FnD Tryd.prog 69 [sA [98, 40, 88, 48, 41]] (.one (tA ⟨false, 1, [⟨true, 0, []⟩]⟩)) := read2_at (by kernel_rfl)
  have ry : FnD Tryd.prog 69 [sA [88, 50]] (.one (tA ⟨true, 2, []⟩)) := read2_at (by kernel_rfl)
  have ra : FnD Tryd.prog 69 [sA [97]] (.one (tA ⟨false, 0, []⟩)) := read2_at (by kernel_rfl)
  have rz : FnD Tryd.prog 69 [sA [88, 49]] (.one (tA ⟨true, 1, []⟩)) := read2_at (by kernel_rfl)
  have u1 := bunify_at (a := ⟨false, 2, [⟨true, 0, []⟩, ⟨false, 1, [⟨true, 1, []⟩]⟩]⟩) (b := ⟨false, 2, [⟨false, 1, [⟨false, 0, []⟩]⟩, ⟨true, 0, []⟩]⟩) (r := some [(0, ⟨false, 1, [⟨false, 0, []⟩]⟩), (1, ⟨false, 0, []⟩)]) (by kernel_rfl) (by decide) (by decide) (by decide) (by decide)
  have u2 := bunify_at (a := ⟨true, 0, []⟩) (b := ⟨false, 1, [⟨true, 0, []⟩]⟩) (r := none) (by kernel_rfl) (by decide) (by decide) (by decide) (by decide)
  have m1 := bmatch ⟨false, 2, [⟨true, 0, []⟩, ⟨true, 1, []⟩]⟩ ⟨false, 2, [⟨false, 0, []⟩, ⟨false, 1, [⟨false, 0, []⟩]⟩]⟩ (by decide)
  rw [show matchR ⟨false, 2, [⟨true, 0, []⟩, ⟨true, 1, []⟩]⟩ ⟨false, 2, [⟨false, 0, []⟩, ⟨false, 1, [⟨false, 0, []⟩]⟩]⟩ = ([(0, ⟨false, 0, []⟩), (1, ⟨false, 1, [⟨false, 0, []⟩]⟩)], true) by kernel_rfl] at m1
  have o1 := bmore ⟨true, 2, []⟩ ⟨false, 0, []⟩ [(0, ⟨false, 0, []⟩), (1, ⟨false, 1, [⟨false, 0, []⟩]⟩)] (by decide)
  rw [show moreR [(0, ⟨false, 0, []⟩), (1, ⟨false, 1, [⟨false, 0, []⟩]⟩)] ⟨true, 2, []⟩ ⟨false, 0, []⟩ = ([(0, ⟨false, 0, []⟩), (1, ⟨false, 1, [⟨false, 0, []⟩]⟩), (2, ⟨false, 0, []⟩)], true) by kernel_rfl] at o1
  have e3 : ([(0, ⟨false, 0, []⟩), (1, ⟨false, 1, [⟨false, 0, []⟩]⟩), (2, ⟨false, 0, []⟩)] : List Pr).length = 3 := rfl
  have e2 : ([(0, ⟨false, 1, [⟨false, 0, []⟩]⟩), (1, ⟨false, 0, []⟩)] : List Pr).length = 2 := rfl
  have a1 := bapply [(0, ⟨false, 1, [⟨false, 0, []⟩]⟩), (1, ⟨false, 0, []⟩)] ⟨false, 2, [⟨true, 0, []⟩, ⟨true, 1, []⟩]⟩ (by decide)
  rw [show app [(0, ⟨false, 1, [⟨false, 0, []⟩]⟩), (1, ⟨false, 0, []⟩)] ⟨false, 2, [⟨true, 0, []⟩, ⟨true, 1, []⟩]⟩ = ⟨false, 2, [⟨false, 1, [⟨false, 0, []⟩]⟩, ⟨false, 0, []⟩]⟩ by kernel_rfl] at a1
  have t1 := rtext (s := [0, 1, 2]) (by decide) ⟨false, 2, [⟨false, 1, [⟨false, 0, []⟩]⟩, ⟨false, 0, []⟩]⟩ (by decide) (by decide)
  rw [show text ⟨false, 2, [⟨false, 1, [⟨false, 0, []⟩]⟩, ⟨false, 0, []⟩]⟩ = [99, 40, 98, 40, 97, 41, 44, 97, 41] by kernel_rfl] at t1
  have n1 := brename 5 (by decide) (by decide) ⟨true, 1, []⟩ (by decide) (by decide)
  rw [show ren 5 ⟨true, 1, []⟩ = ⟨true, 6, []⟩ by kernel_rfl] at n1
  have h6 : (Tm.mk true 6 []).n = 6 := rfl
  have hq : (([99, 40, 98, 40, 97, 41, 44, 97, 41] : List UInt8) == [99, 40, 98, 40, 97, 41, 44, 97, 41]) = true := by decide
  refine Fn.of Tryd.func15 rfl Tryd.ntmps15 rfl (Nat.le_of_ble_eq_true rfl) ?_
  (refine wlk ?_)
  (refine SqA.b1 (op_call none rfl rfl rfl (by kernel_rfl) (FnD.use (r1)) rfl rfl rfl rfl rfl rfl) rfl rfl ?_)
  (refine wlk ?_)
  (refine SqA.b1 (op_call none rfl rfl rfl (by kernel_rfl) (FnD.use (r2)) rfl rfl rfl rfl rfl rfl) rfl rfl ?_)
  (refine wlk ?_)
  (refine SqA.b1 (op_call none rfl rfl rfl (by kernel_rfl) (FnD.use (u1)) rfl rfl rfl rfl rfl rfl) rfl rfl ?_)
  (refine wlk ?_)
  (refine SqA.b1 (op_call none rfl rfl rfl (by kernel_rfl) (FnD.use (r3)) rfl rfl rfl rfl rfl rfl) rfl rfl ?_)
  (refine wlk ?_)
  (refine SqA.b1 (op_call none rfl rfl rfl (by kernel_rfl) (FnD.use (r4)) rfl rfl rfl rfl rfl rfl) rfl rfl ?_)
  (refine wlk ?_)
  (refine SqA.b1 (op_call none rfl rfl rfl (by kernel_rfl) (FnD.use (m1)) rfl rfl rfl rfl rfl rfl) rfl rfl ?_)
  (refine wlk ?_)
  (refine SqA.b1 (op_call none rfl rfl rfl (by kernel_rfl) (FnD.use (rx)) rfl rfl rfl rfl rfl rfl) rfl rfl ?_)
  (refine wlk ?_)
  (refine SqA.b1 (op_call none rfl rfl rfl (by kernel_rfl) (FnD.use (rb)) rfl rfl rfl rfl rfl rfl) rfl rfl ?_)
  (refine wlk ?_)
  (refine SqA.b1 (op_call none rfl rfl rfl (by kernel_rfl) (FnD.use (u2)) rfl rfl rfl rfl rfl rfl) rfl rfl ?_)
  (refine wlk ?_)
  (refine SqA.b1 (op_call none rfl rfl rfl (by kernel_rfl) (FnD.use (ry)) rfl rfl rfl rfl rfl rfl) rfl rfl ?_)
  (refine wlk ?_)
  (refine SqA.b1 (op_call none rfl rfl rfl (by kernel_rfl) (FnD.use (ra)) rfl rfl rfl rfl rfl rfl) rfl rfl ?_)
  (refine wlk ?_)
  (refine SqA.b1 (op_call none rfl rfl rfl (by kernel_rfl) (FnD.use (o1)) rfl rfl rfl rfl rfl rfl) rfl rfl ?_)
  (refine wlk ?_)
  (refine SqA.b1 (op_call none rfl rfl rfl (by kernel_rfl) (FnD.use (r3)) rfl rfl rfl rfl rfl rfl) rfl rfl ?_)
  (refine wlk ?_)
  (refine SqA.b1 (op_call none rfl rfl rfl (by kernel_rfl) (FnD.use (a1)) rfl rfl rfl rfl rfl rfl) rfl rfl ?_)
  (refine wlk ?_)
  (refine SqA.b1 (op_call none rfl rfl rfl (by kernel_rfl) (FnD.use (t1)) rfl rfl rfl rfl rfl rfl) rfl rfl ?_)
  (refine wlk ?_)
  (refine SqA.b1 (op_call none rfl rfl rfl (by kernel_rfl) (FnD.use (rz)) rfl rfl rfl rfl rfl rfl) rfl rfl ?_)
  (refine wlk ?_)
  (refine SqA.b1 (op_call none rfl rfl rfl (by kernel_rfl) (FnD.use (n1)) rfl rfl rfl rfl rfl rfl) rfl rfl ?_)
  (refine wlk ?_)
  (first | (refine finR (.tmp rfl .nil) rfl rfl ?_) | (refine finN (.tmp rfl .nil) rfl rfl ?_))
  rfl
set_option maxRecDepth 100000 in
theorem cground (t : Tm) (hsz : t.size ≤ 1000000000000) : FnD Tryd.prog 21 [tA t] (.one (bA (decide ((vars [] t).length = 0)))) := by
  have hv := FnD.nil (rvars t [] (by simpa using hsz)) 0 rfl
  refine Fn.of Tryd.func21 rfl Tryd.ntmps21 rfl (Nat.le_of_ble_eq_true rfl) ?_
  generalize vars [] t = l at hv
  by_cases hl : l.length = 0
  · (refine wlk ?_)
    (refine SqA.b1 (op_call none rfl rfl rfl (by kernel_rfl) (FnD.use (hv)) rfl rfl rfl rfl rfl rfl) rfl rfl ?_)
    (refine wlk ?_)
    (first | (refine finR (.tmp rfl .nil) rfl rfl ?_) | (refine finN (.tmp rfl .nil) rfl rfl ?_))
    exact Xb (b := true) (decide_eq_true hl).symm
  · (refine wlk ?_)
    (refine SqA.b1 (op_call none rfl rfl rfl (by kernel_rfl) (FnD.use (hv)) rfl rfl rfl rfl rfl rfl) rfl rfl ?_)
    (refine wlk ?_)
    (first | (refine finR (.tmp rfl .nil) rfl rfl ?_) | (refine finN (.tmp rfl .nil) rfl rfl ?_))
    exact Xb (b := false) (decide_eq_false hl).symm
theorem unify_size {a b : Tm} (ha : Old a) (hb : Old b) {r : List Pr} (h : unify a b = some r) : (app r a).size ≤ bigU := (unifyF_inv _ _ _ r (UInv.start ha hb) h).asize ha
theorem app_size144 {s : List Int} {more : List Pr} (hs : wrongSig s = 0) (hm : ∀ p ∈ more, rgtB s [p.2] = true) {t : Tm} (ht : TOk s t) : (app more t).size ≤ 144 := by
  have h := size_app_le (s := more) (M := 12) (by omega) t ht.okv fun n _ => by
    unfold appV
    rw [app_var]
    cases hf : findS more n with
    | none => simp [Tm.size, Tm.sizes]
    | some u =>
      have hmem : ∃ p ∈ more, p.2 = u := by
        clear hm
        induction more with
        | nil => simp [findS] at hf
        | cons p l ih =>
          simp only [findS] at hf
          split at hf
          · injection hf with hf; exact ⟨p, by simp, hf⟩
          · obtain ⟨q, hq, e⟩ := ih hf; exact ⟨q, by simp [hq], e⟩
      obtain ⟨p, hp, rfl⟩ := hmem
      exact (tok_of hs ((rgt_of (hm p hp)).2 p.2 (by simp))).size
  have := ht.size
  omega

set_option maxHeartbeats 16000000 in
set_option maxRecDepth 100000 in
theorem bindUnify_fn (s : List Int) (a b : Tm) (more : List Pr) (hml : more.length ≤ 4000000000000) : FnD Tryd.prog 3 [lA Int.d s, tA a, tA b, lA Pr.d more] (.one (bA true)) := by
  refine Fn.of Tryd.func3 rfl Tryd.ntmps3 rfl (Nat.le_of_ble_eq_true rfl) ?_
  have hr := right2 s [a, b] (by simp)
  cases hb : rgtB s [a, b]
  · rw [hb] at hr
    (refine wlk ?_)
    (refine SqA.b1 (op_call none rfl rfl rfl (by kernel_rfl) (FnD.use (alive2)) rfl rfl rfl rfl rfl rfl) rfl rfl ?_)
    (refine wlk ?_)
    (refine SqA.b1 (op_bsT (T := TB) (f := Tm.d) [a, b] rfl rfl rfl rfl rfl rfl rfl rfl rfl rfl rfl) rfl rfl ?_)
    (refine wlk ?_)
    (refine SqA.b1 (op_call none rfl rfl rfl (by kernel_rfl) (FnD.use (hr)) rfl rfl rfl rfl rfl rfl) rfl rfl ?_)
    (refine wlk ?_)
    (first | (refine finR (.tmp rfl .nil) rfl rfl ?_) | (refine finN (.tmp rfl .nil) rfl rfl ?_))
    rfl
  rw [hb] at hr
  (refine wlk ?_)
  (refine SqA.b1 (op_call none rfl rfl rfl (by kernel_rfl) (FnD.use (alive2)) rfl rfl rfl rfl rfl rfl) rfl rfl ?_)
  (refine wlk ?_)
  (refine SqA.b1 (op_bsT (T := TB) (f := Tm.d) [a, b] rfl rfl rfl rfl rfl rfl rfl rfl rfl rfl rfl) rfl rfl ?_)
  (refine wlk ?_)
  (refine SqA.b1 (op_call none rfl rfl rfl (by kernel_rfl) (FnD.use (hr)) rfl rfl rfl rfl rfl rfl) rfl rfl ?_)
  (refine wlk ?_)
  refine dwp_loop (fun k : Nat => [(.t 0, some (.one (lA Int.d s))), (.t 3, some (.one (lA Pr.d more))), (.t 5, some (.one (.c (.ptr 5 0)))), (.b 5, some (.box (tA a).cells)), (.t 6, some (.one (.c (.ptr 6 0)))), (.b 6, some (.box (tA b).cells)),
      (.t 23, some (.one (lA Pr.d more))), (.t 24, some (.one (iA more.length))), (.t 25, some (.one (iA k)))])
    (fun k => k ≤ more.length ∧ ∀ j x, j < k → more[j]? = some x → rgtB s [x.2] = true) (fun k => more.length - k) 0 ⟨by omega, fun j x h => absurd h (by omega)⟩ fgs ?_
  rintro k ⟨hk, hno⟩
  by_cases hkl : k < more.length
  · obtain ⟨x, hx⟩ := get_of_lt hkl
    have hc := right2 s [x.2] (by simp)
    cases hxr : rgtB s [x.2]
    · rw [hxr] at hc
      (refine wlk ?_)
      (refine SqA.b1 (op_bsT (T := TB) (f := Tm.d) [x.2] rfl rfl rfl rfl rfl rfl rfl rfl rfl rfl rfl) rfl rfl ?_)
      (refine wlk ?_)
      (refine SqA.b1 (op_call none rfl rfl rfl (by kernel_rfl) (FnD.use (hc)) rfl rfl rfl rfl rfl rfl) rfl rfl ?_)
      (refine wlk ?_)
      (first | (refine finR (.tmp rfl .nil) rfl rfl ?_) | (refine finN (.tmp rfl .nil) rfl rfl ?_))
      rfl
    · rw [hxr] at hc
      (refine wlk ?_)
      (refine SqA.b1 (op_bsT (T := TB) (f := Tm.d) [x.2] rfl rfl rfl rfl rfl rfl rfl rfl rfl rfl rfl) rfl rfl ?_)
      (refine wlk ?_)
      (refine SqA.b1 (op_call none rfl rfl rfl (by kernel_rfl) (FnD.use (hc)) rfl rfl rfl rfl rfl rfl) rfl rfl ?_)
      (refine wlk ?_)
      exact ⟨k + 1, ⟨by omega, upto_succ hno hx hxr⟩, fgs, by omega⟩
  · have : k = more.length := by omega
    subst this
    have hmr := any_upto hno
    obtain ⟨hs, hw⟩ := rgt_of hb
    have ta := tok_of hs (hw a (by simp))
    have tb := tok_of hs (hw b (by simp))
    have oa := old_of ta.size ta.wf
    have ob := old_of tb.size tb.wf
    have za := ta.size
    have zb := tb.size
    have cu := bunify oa ob
    have c1 := ap more (by omega) a (by omega)
    have c2 := ap more (by omega) b (by omega)
    have sm := rsame (app more a) (app more b)
    have hma := app_size144 hs hmr ta
    have hg := cground (app more a) (by omega)
    cases hu : unify a b with
    | none =>
      have hne : (app more a).same (app more b) = false := by
        cases he : (app more a).same (app more b)
        · rfl
        · obtain ⟨r, h1, _⟩ := unify_most oa ob ((Tm.same_iff _ _).1 he)
          rw [hu] at h1; cases h1
      rw [hu] at cu
      rw [hne] at sm
      (refine wlk ?_)
      (refine SqA.b1 (op_call none rfl rfl rfl (by kernel_rfl) (FnD.use (cu)) rfl rfl rfl rfl rfl rfl) rfl rfl ?_)
      (refine wlk ?_)
      (refine SqA.b1 (op_call none rfl rfl rfl (by kernel_rfl) (FnD.use (c1)) rfl rfl rfl rfl rfl rfl) rfl rfl ?_)
      (refine wlk ?_)
      (refine SqA.b1 (op_call none rfl rfl rfl (by kernel_rfl) (FnD.use (c2)) rfl rfl rfl rfl rfl rfl) rfl rfl ?_)
      (refine wlk ?_)
      (refine SqA.b1 (op_call none rfl rfl rfl (by kernel_rfl) (FnD.use (sm)) rfl rfl rfl rfl rfl rfl) rfl rfl ?_)
      (refine wlk ?_)
      (first | (refine finR (.tmp rfl .nil) rfl rfl ?_) | (refine finN (.tmp rfl .nil) rfl rfl ?_))
      rfl
    | some r =>
      rw [hu] at cu
      obtain ⟨hid, hee⟩ := unify_sound ta.okv tb.okv hu
      have hrs := unify_size oa ob hu
      have hB := bigU_eq
      have d1 := bapply r a (by omega)
      have d2 := bapply r b (by omega)
      rw [← hee] at d2
      have s1 := rsame (app r a) (app r a)
      rw [(Tm.same_iff _ _).2 rfl] at s1
      cases he : (app more a).same (app more b)
      · rw [he] at sm
        (refine wlk ?_)
        (refine SqA.b1 (op_call none rfl rfl rfl (by kernel_rfl) (FnD.use (cu)) rfl rfl rfl rfl rfl rfl) rfl rfl ?_)
        (refine wlk ?_)
        (refine SqA.b1 (op_call none rfl rfl rfl (by kernel_rfl) (FnD.use (d1)) rfl rfl rfl rfl rfl rfl) rfl rfl ?_)
        (refine wlk ?_)
        (refine SqA.b1 (op_call none rfl rfl rfl (by kernel_rfl) (FnD.use (d2)) rfl rfl rfl rfl rfl rfl) rfl rfl ?_)
        (refine wlk ?_)
        (refine SqA.b1 (op_call none rfl rfl rfl (by kernel_rfl) (FnD.use (s1)) rfl rfl rfl rfl rfl rfl) rfl rfl ?_)
        (refine wlk ?_)
        (refine SqA.b1 (op_call none rfl rfl rfl (by kernel_rfl) (FnD.use (c1)) rfl rfl rfl rfl rfl rfl) rfl rfl ?_)
        (refine wlk ?_)
        (refine SqA.b1 (op_call none rfl rfl rfl (by kernel_rfl) (FnD.use (c2)) rfl rfl rfl rfl rfl rfl) rfl rfl ?_)
        (refine wlk ?_)
        (refine SqA.b1 (op_call none rfl rfl rfl (by kernel_rfl) (FnD.use (sm)) rfl rfl rfl rfl rfl rfl) rfl rfl ?_)
        (refine wlk ?_)
        (first | (refine finR (.tmp rfl .nil) rfl rfl ?_) | (refine finN (.tmp rfl .nil) rfl rfl ?_))
        rfl
      · rw [he] at sm
        obtain ⟨r', h1, hab⟩ := unify_most oa ob ((Tm.same_iff _ _).1 he)
        rw [hu] at h1; injection h1 with h1; subst h1
        have c3 := ap more (by omega) (app r a) (by omega)
        rw [hab a ta.okv] at c3
        have s2 := rsame (app more a) (app more a)
        rw [(Tm.same_iff _ _).2 rfl] at s2
        by_cases hgr : (vars [] (app more a)).length = 0
        · rw [decide_eq_true hgr] at hg
          (refine wlk ?_)
          (refine SqA.b1 (op_call none rfl rfl rfl (by kernel_rfl) (FnD.use (cu)) rfl rfl rfl rfl rfl rfl) rfl rfl ?_)
          (refine wlk ?_)
          (refine SqA.b1 (op_call none rfl rfl rfl (by kernel_rfl) (FnD.use (d1)) rfl rfl rfl rfl rfl rfl) rfl rfl ?_)
          (refine wlk ?_)
          (refine SqA.b1 (op_call none rfl rfl rfl (by kernel_rfl) (FnD.use (d2)) rfl rfl rfl rfl rfl rfl) rfl rfl ?_)
          (refine wlk ?_)
          (refine SqA.b1 (op_call none rfl rfl rfl (by kernel_rfl) (FnD.use (s1)) rfl rfl rfl rfl rfl rfl) rfl rfl ?_)
          (refine wlk ?_)
          (refine SqA.b1 (op_call none rfl rfl rfl (by kernel_rfl) (FnD.use (c1)) rfl rfl rfl rfl rfl rfl) rfl rfl ?_)
          (refine wlk ?_)
          (refine SqA.b1 (op_call none rfl rfl rfl (by kernel_rfl) (FnD.use (c2)) rfl rfl rfl rfl rfl rfl) rfl rfl ?_)
          (refine wlk ?_)
          (refine SqA.b1 (op_call none rfl rfl rfl (by kernel_rfl) (FnD.use (sm)) rfl rfl rfl rfl rfl rfl) rfl rfl ?_)
          (refine wlk ?_)
          (refine SqA.b1 (op_call none rfl rfl rfl (by kernel_rfl) (FnD.use (hg)) rfl rfl rfl rfl rfl rfl) rfl rfl ?_)
          (refine wlk ?_)
          (refine SqA.b1 (op_call none rfl rfl rfl (by kernel_rfl) (FnD.use (d1)) rfl rfl rfl rfl rfl rfl) rfl rfl ?_)
          (refine wlk ?_)
          (refine SqA.b1 (op_call none rfl rfl rfl (by kernel_rfl) (FnD.use (c3)) rfl rfl rfl rfl rfl rfl) rfl rfl ?_)
          (refine wlk ?_)
          (refine SqA.b1 (op_call none rfl rfl rfl (by kernel_rfl) (FnD.use (s2)) rfl rfl rfl rfl rfl rfl) rfl rfl ?_)
          (refine wlk ?_)
          (first | (refine finR (.tmp rfl .nil) rfl rfl ?_) | (refine finN (.tmp rfl .nil) rfl rfl ?_))
          rfl
        · rw [decide_eq_false hgr] at hg
          (refine wlk ?_)
          (refine SqA.b1 (op_call none rfl rfl rfl (by kernel_rfl) (FnD.use (cu)) rfl rfl rfl rfl rfl rfl) rfl rfl ?_)
          (refine wlk ?_)
          (refine SqA.b1 (op_call none rfl rfl rfl (by kernel_rfl) (FnD.use (d1)) rfl rfl rfl rfl rfl rfl) rfl rfl ?_)
          (refine wlk ?_)
          (refine SqA.b1 (op_call none rfl rfl rfl (by kernel_rfl) (FnD.use (d2)) rfl rfl rfl rfl rfl rfl) rfl rfl ?_)
          (refine wlk ?_)
          (refine SqA.b1 (op_call none rfl rfl rfl (by kernel_rfl) (FnD.use (s1)) rfl rfl rfl rfl rfl rfl) rfl rfl ?_)
          (refine wlk ?_)
          (refine SqA.b1 (op_call none rfl rfl rfl (by kernel_rfl) (FnD.use (c1)) rfl rfl rfl rfl rfl rfl) rfl rfl ?_)
          (refine wlk ?_)
          (refine SqA.b1 (op_call none rfl rfl rfl (by kernel_rfl) (FnD.use (c2)) rfl rfl rfl rfl rfl rfl) rfl rfl ?_)
          (refine wlk ?_)
          (refine SqA.b1 (op_call none rfl rfl rfl (by kernel_rfl) (FnD.use (sm)) rfl rfl rfl rfl rfl rfl) rfl rfl ?_)
          (refine wlk ?_)
          (refine SqA.b1 (op_call none rfl rfl rfl (by kernel_rfl) (FnD.use (hg)) rfl rfl rfl rfl rfl rfl) rfl rfl ?_)
          (refine wlk ?_)
          (first | (refine finR (.tmp rfl .nil) rfl rfl ?_) | (refine finN (.tmp rfl .nil) rfl rfl ?_))
          rfl

set_option maxHeartbeats 16000000 in
set_option maxRecDepth 100000 in
theorem bindMatch_fn (s : List Int) (p t : Tm) (more : List Pr) (hml : more.length ≤ 4000000000000) : FnD Tryd.prog 4 [lA Int.d s, tA p, tA t, lA Pr.d more] (.one (bA true)) := by
  refine Fn.of Tryd.func4 rfl Tryd.ntmps4 rfl (Nat.le_of_ble_eq_true rfl) ?_
  have hr := right2 s [p, t] (by simp)
  cases hb : rgtB s [p, t]
  · rw [hb] at hr
    (refine wlk ?_)
    (refine SqA.b1 (op_call none rfl rfl rfl (by kernel_rfl) (FnD.use (alive2)) rfl rfl rfl rfl rfl rfl) rfl rfl ?_)
    (refine wlk ?_)
    (refine SqA.b1 (op_bsT (T := TB) (f := Tm.d) [p, t] rfl rfl rfl rfl rfl rfl rfl rfl rfl rfl rfl) rfl rfl ?_)
    (refine wlk ?_)
    (refine SqA.b1 (op_call none rfl rfl rfl (by kernel_rfl) (FnD.use (hr)) rfl rfl rfl rfl rfl rfl) rfl rfl ?_)
    (refine wlk ?_)
    (first | (refine finR (.tmp rfl .nil) rfl rfl ?_) | (refine finN (.tmp rfl .nil) rfl rfl ?_))
    rfl
  rw [hb] at hr
  obtain ⟨hs, hw⟩ := rgt_of hb
  have tp := tok_of hs (hw p (by simp))
  have zp := tp.size
  have cm := bmatch p t (by omega)
  have hsound : (matchR p t).2 = true → FnD Tryd.prog 19 [lA Pr.d (matchR p t).1, tA p] (.one (tA t)) := fun h => by
    have h1 : matchR p t = ((matchR p t).1, true) := by rw [← h]
    have h2 := (matchR_sound tp.okv h1).1
    have := bapply (matchR p t).1 p (by omega)
    rw [h2] at this; exact this
  have ss := rsame t t
  rw [(Tm.same_iff _ _).2 rfl] at ss
  generalize matchR p t = r at cm hsound
  obtain ⟨r, rb⟩ := r
  simp only at cm hsound
  cases rb <;> (
    (refine wlk ?_)
    (refine SqA.b1 (op_call none rfl rfl rfl (by kernel_rfl) (FnD.use (alive2)) rfl rfl rfl rfl rfl rfl) rfl rfl ?_)
    (refine wlk ?_)
    (refine SqA.b1 (op_bsT (T := TB) (f := Tm.d) [p, t] rfl rfl rfl rfl rfl rfl rfl rfl rfl rfl rfl) rfl rfl ?_)
    (refine wlk ?_)
    (refine SqA.b1 (op_call none rfl rfl rfl (by kernel_rfl) (FnD.use (hr)) rfl rfl rfl rfl rfl rfl) rfl rfl ?_)
    (refine wlk ?_)
    (refine SqA.b1 (op_call none rfl rfl rfl (by kernel_rfl) (FnD.use (cm)) rfl rfl rfl rfl rfl rfl) rfl rfl ?_)
    (refine wlk ?_)
    (try ((refine SqA.b1 (op_call none rfl rfl rfl (by kernel_rfl) (FnD.use (hsound rfl)) rfl rfl rfl rfl rfl rfl) rfl rfl ?_); (refine wlk ?_); (refine SqA.b1 (op_call none rfl rfl rfl (by kernel_rfl) (FnD.use (ss)) rfl rfl rfl rfl rfl rfl) rfl rfl ?_); (refine wlk ?_)))
    refine dwp_loop (fun k : Nat => [(.t 0, some (.one (lA Int.d s))), (.t 3, some (.one (lA Pr.d more))), (.t 5, some (.one (.c (.ptr 5 0)))), (.b 5, some (.box (tA p).cells)),
        (.t 39, some (.one (lA Pr.d more))), (.t 40, some (.one (iA more.length))), (.t 41, some (.one (iA k)))])
      (fun k => k ≤ more.length ∧ ∀ j x, j < k → more[j]? = some x → rgtB s [x.2] = true) (fun k => more.length - k) 0 ⟨by omega, fun j x h => absurd h (by omega)⟩ fgs ?_
    rintro k ⟨hk, hno⟩
    by_cases hkl : k < more.length
    · obtain ⟨x, hx⟩ := get_of_lt hkl
      have hc := right2 s [x.2] (by simp)
      cases hxr : rgtB s [x.2]
      · rw [hxr] at hc
        (refine wlk ?_)
        (refine SqA.b1 (op_bsT (T := TB) (f := Tm.d) [x.2] rfl rfl rfl rfl rfl rfl rfl rfl rfl rfl rfl) rfl rfl ?_)
        (refine wlk ?_)
        (refine SqA.b1 (op_call none rfl rfl rfl (by kernel_rfl) (FnD.use (hc)) rfl rfl rfl rfl rfl rfl) rfl rfl ?_)
        (refine wlk ?_)
        (first | (refine finR (.tmp rfl .nil) rfl rfl ?_) | (refine finN (.tmp rfl .nil) rfl rfl ?_))
        rfl
      · rw [hxr] at hc
        (refine wlk ?_)
        (refine SqA.b1 (op_bsT (T := TB) (f := Tm.d) [x.2] rfl rfl rfl rfl rfl rfl rfl rfl rfl rfl rfl) rfl rfl ?_)
        (refine wlk ?_)
        (refine SqA.b1 (op_call none rfl rfl rfl (by kernel_rfl) (FnD.use (hc)) rfl rfl rfl rfl rfl rfl) rfl rfl ?_)
        (refine wlk ?_)
        exact ⟨k + 1, ⟨by omega, upto_succ hno hx hxr⟩, fgs, by omega⟩
    · have : k = more.length := by omega
      subst this
      obtain ⟨r', hm', _⟩ := matchR_complete tp.okv more
      have hc2 := ap more (by omega) p (by omega)
      have cm2 := bmatch p (app more p) (by omega)
      rw [hm'] at cm2
      have h2 := (matchR_sound tp.okv hm').1
      have hc3 := bapply r' p (by omega)
      rw [h2] at hc3
      have s2 := rsame (app more p) (app more p)
      rw [(Tm.same_iff _ _).2 rfl] at s2
      (refine wlk ?_)
      (refine SqA.b1 (op_call none rfl rfl rfl (by kernel_rfl) (FnD.use (hc2)) rfl rfl rfl rfl rfl rfl) rfl rfl ?_)
      (refine wlk ?_)
      (refine SqA.b1 (op_call none rfl rfl rfl (by kernel_rfl) (FnD.use (cm2)) rfl rfl rfl rfl rfl rfl) rfl rfl ?_)
      (refine wlk ?_)
      (refine SqA.b1 (op_call none rfl rfl rfl (by kernel_rfl) (FnD.use (hc3)) rfl rfl rfl rfl rfl rfl) rfl rfl ?_)
      (refine wlk ?_)
      (refine SqA.b1 (op_call none rfl rfl rfl (by kernel_rfl) (FnD.use (s2)) rfl rfl rfl rfl rfl rfl) rfl rfl ?_)
      (refine wlk ?_)
      (first | (refine finR (.tmp rfl .nil) rfl rfl ?_) | (refine finN (.tmp rfl .nil) rfl rfl ?_))
      rfl)
end Go.Proofs.YtmanhdacnkpclaaDoor
