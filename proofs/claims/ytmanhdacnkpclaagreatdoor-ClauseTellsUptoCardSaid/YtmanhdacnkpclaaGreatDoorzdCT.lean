/- ClauseTells: walked. -/
import Derived.Test.YtmanhdacnkpclaaGreatDoorzdCE
import Derived.Test.YtmanhdacnkpclaaGreatDoorzdN2
import Derived.Test.YtmanhdacnkpclaaGreatDoorzdTt
import Derived.Test.YtmanhdacnkpclaaGreatDoorzdCn
import Derived.Test.YtmanhdacnkpclaaGreatDoorzdDd
namespace Go.Proofs.YtmanhdacnkpclaaGreatDoor
set_option linter.all false
open Go.RowKit

set_option maxRecDepth 100000 in
theorem ct1 (by_ : List Pr) (hl : by_.length ≤ 4000000000000) (t : Tm) (hz : t.size ≤ 2000000000000) : FnD Tryz.prog 22 [tA t, .c (.fp [.arr (by_.map Pr.d)])] (.one (tA (app by_ t))) := by
  refine Fn.of Tryz.func22 rfl Tryz.ntmps22 rfl (Nat.le_of_ble_eq_true rfl) ?_
  (refine wlk ?_)
  (refine SqA.b1 (op_call none rfl rfl rfl (by kernel_rfl) (FnD.use (ap by_ hl t hz)) rfl rfl rfl rfl rfl rfl) rfl rfl ?_)
  (refine wlk ?_)
  (first | (refine finR (.cellN rfl rfl (rw_of rfl) rfl rfl .nil) rfl rfl ?_) | (refine finN (.cellN rfl rfl (rw_of rfl) rfl rfl .nil) rfl rfl ?_))
  rfl
set_option maxRecDepth 100000 in
theorem ct2 (n : Int) (h0 : 0 ≤ n) (h1 : n ≤ 1000) (t : Tm) (hk : t.okv = true) (hz : t.size ≤ 2000000000000) : FnD Tryz.prog 25 [tA t, .c (.fp [.val (.int .i64 n)])] (.one (tA (ren n t))) := by
  refine Fn.of Tryz.func25 rfl Tryz.ntmps25 rfl (Nat.le_of_ble_eq_true rfl) ?_
  (refine wlk ?_)
  (refine SqA.b1 (op_call none rfl rfl rfl (by kernel_rfl) (FnD.use (rrename n h0 h1 t hk hz)) rfl rfl rfl rfl rfl rfl) rfl rfl ?_)
  (refine wlk ?_)
  (first | (refine finR (.cellN rfl rfl (rw_of rfl) rfl rfl .nil) rfl rfl ?_) | (refine finN (.cellN rfl rfl (rw_of rfl) rfl rfl .nil) rfl rfl ?_))
  rfl
set_option maxHeartbeats 40000000 in
set_option maxRecDepth 100000 in
theorem clauseTells_fn (s : List Int) (c d : List Lt) (by_ : List Pr) (n : Int) (l : List UInt8) (hby : by_.length ≤ 4000000000000) (hl : l.length ≤ 1048576) : FnD Tryz.prog 3 [lA Int.d s, lA Lt.d c, lA Lt.d d, lA Pr.d by_, iA n, sA l] (.one (bA true)) := by
  refine Fn.of Tryz.func3 rfl Tryz.ntmps3 rfl (Nat.le_of_ble_eq_true rfl) ?_
  have hcs := rwrongSig s
  have p1 := pclParse s l (by omega)
  by_cases hs : wrongSig s = 0
  rotate_left
  · have hp : clauseParse s l = ([], wrongSig s) := by simp [clauseParse, hs]
    rw [hp] at p1
    dsimp only at p1
    generalize wrongSig s = e at *
    (refine wlk ?_)
    (refine SqA.b1 (op_call none rfl rfl rfl (by kernel_rfl) (FnD.use (hcs)) rfl rfl rfl rfl rfl rfl) rfl rfl ?_)
    (refine wlk ?_)
    (refine SqA.b1 (op_call none rfl rfl rfl (by kernel_rfl) (FnD.use (p1)) rfl rfl rfl rfl rfl rfl) rfl rfl ?_)
    (refine wlk ?_)
    (refine SqA.b1 (op_call none rfl rfl rfl (by kernel_rfl) (FnD.use (hcs)) rfl rfl rfl rfl rfl rfl) rfl rfl ?_)
    (refine wlk ?_)
    (first | (refine finR (.tmp rfl .nil) rfl rfl ?_) | (refine finN (.tmp rfl .nil) rfl rfl ?_))
    rfl
  have p2 := rclauseParse s l (by omega)
  generalize clauseParse s l = r at p1 p2
  obtain ⟨a, e⟩ := r
  dsimp only at p1 p2
  have q1 := rsameClause a a
  rw [clSame_iff.2 rfl] at q1
  have w1 := pwrongCl s c
  have w2 := rwrongCl s c
  have m1 := psameClause c d
  have m2 := rsameClause c d
  generalize clSame c d = b at m1 m2
  have hbb : (b == b) = true := by simp
  have hbf : (b != b) = false := by simp
  by_cases hc0 : wrongCl s c = 0
  rotate_left
  · rw [hs] at hcs
    generalize wrongCl s c = wv at *
    (refine wlk ?_)
    (refine SqA.b1 (op_call none rfl rfl rfl (by kernel_rfl) (FnD.use (hcs)) rfl rfl rfl rfl rfl rfl) rfl rfl ?_)
    (refine wlk ?_)
    (refine SqA.b1 (op_call none rfl rfl rfl (by kernel_rfl) (FnD.use (p1)) rfl rfl rfl rfl rfl rfl) rfl rfl ?_)
    (refine wlk ?_)
    (refine SqA.b1 (op_call none rfl rfl rfl (by kernel_rfl) (FnD.use (p2)) rfl rfl rfl rfl rfl rfl) rfl rfl ?_)
    (refine wlk ?_)
    (refine SqA.b1 (op_call none rfl rfl rfl (by kernel_rfl) (FnD.use (q1)) rfl rfl rfl rfl rfl rfl) rfl rfl ?_)
    (refine wlk ?_)
    (refine SqA.b1 (op_call none rfl rfl rfl (by kernel_rfl) (FnD.use (w1)) rfl rfl rfl rfl rfl rfl) rfl rfl ?_)
    (refine wlk ?_)
    (refine SqA.b1 (op_call none rfl rfl rfl (by kernel_rfl) (FnD.use (w2)) rfl rfl rfl rfl rfl rfl) rfl rfl ?_)
    (refine wlk ?_)
    (refine SqA.b1 (op_call none rfl rfl rfl (by kernel_rfl) (FnD.use (m1)) rfl rfl rfl rfl rfl rfl) rfl rfl ?_)
    (refine wlk ?_)
    (refine SqA.b1 (op_call none rfl rfl rfl (by kernel_rfl) (FnD.use (m2)) rfl rfl rfl rfl rfl rfl) rfl rfl ?_)
    (refine wlk ?_)
    (refine SqA.b1 (op_call none rfl rfl rfl (by kernel_rfl) (FnD.use (w2)) rfl rfl rfl rfl rfl rfl) rfl rfl ?_)
    (refine wlk ?_)
    (first | (refine finR (.tmp rfl .nil) rfl rfl ?_) | (refine finN (.tmp rfl .nil) rfl rfl ?_))
    rfl
  have hk := cok_of hs hc0
  have hsl := (sig_len hs).2
  rw [hs] at hcs
  rw [hc0] at w1 w2
  by_cases hn0 : n < 0
  · (refine wlk ?_)
    (refine SqA.b1 (op_call none rfl rfl rfl (by kernel_rfl) (FnD.use (hcs)) rfl rfl rfl rfl rfl rfl) rfl rfl ?_)
    (refine wlk ?_)
    (refine SqA.b1 (op_call none rfl rfl rfl (by kernel_rfl) (FnD.use (p1)) rfl rfl rfl rfl rfl rfl) rfl rfl ?_)
    (refine wlk ?_)
    (refine SqA.b1 (op_call none rfl rfl rfl (by kernel_rfl) (FnD.use (p2)) rfl rfl rfl rfl rfl rfl) rfl rfl ?_)
    (refine wlk ?_)
    (refine SqA.b1 (op_call none rfl rfl rfl (by kernel_rfl) (FnD.use (q1)) rfl rfl rfl rfl rfl rfl) rfl rfl ?_)
    (refine wlk ?_)
    (refine SqA.b1 (op_call none rfl rfl rfl (by kernel_rfl) (FnD.use (w1)) rfl rfl rfl rfl rfl rfl) rfl rfl ?_)
    (refine wlk ?_)
    (refine SqA.b1 (op_call none rfl rfl rfl (by kernel_rfl) (FnD.use (w2)) rfl rfl rfl rfl rfl rfl) rfl rfl ?_)
    (refine wlk ?_)
    (refine SqA.b1 (op_call none rfl rfl rfl (by kernel_rfl) (FnD.use (m1)) rfl rfl rfl rfl rfl rfl) rfl rfl ?_)
    (refine wlk ?_)
    (refine SqA.b1 (op_call none rfl rfl rfl (by kernel_rfl) (FnD.use (m2)) rfl rfl rfl rfl rfl rfl) rfl rfl ?_)
    (refine wlk ?_)
    (refine SqA.b1 (op_call none rfl rfl rfl (by kernel_rfl) (FnD.use (w2)) rfl rfl rfl rfl rfl rfl) rfl rfl ?_)
    (refine wlk ?_)
    (first | (refine finR (.tmp rfl .nil) rfl rfl ?_) | (refine finN (.tmp rfl .nil) rfl rfl ?_))
    rfl
  by_cases hn1 : 1000 < n
  · (refine wlk ?_)
    (refine SqA.b1 (op_call none rfl rfl rfl (by kernel_rfl) (FnD.use (hcs)) rfl rfl rfl rfl rfl rfl) rfl rfl ?_)
    (refine wlk ?_)
    (refine SqA.b1 (op_call none rfl rfl rfl (by kernel_rfl) (FnD.use (p1)) rfl rfl rfl rfl rfl rfl) rfl rfl ?_)
    (refine wlk ?_)
    (refine SqA.b1 (op_call none rfl rfl rfl (by kernel_rfl) (FnD.use (p2)) rfl rfl rfl rfl rfl rfl) rfl rfl ?_)
    (refine wlk ?_)
    (refine SqA.b1 (op_call none rfl rfl rfl (by kernel_rfl) (FnD.use (q1)) rfl rfl rfl rfl rfl rfl) rfl rfl ?_)
    (refine wlk ?_)
    (refine SqA.b1 (op_call none rfl rfl rfl (by kernel_rfl) (FnD.use (w1)) rfl rfl rfl rfl rfl rfl) rfl rfl ?_)
    (refine wlk ?_)
    (refine SqA.b1 (op_call none rfl rfl rfl (by kernel_rfl) (FnD.use (w2)) rfl rfl rfl rfl rfl rfl) rfl rfl ?_)
    (refine wlk ?_)
    (refine SqA.b1 (op_call none rfl rfl rfl (by kernel_rfl) (FnD.use (m1)) rfl rfl rfl rfl rfl rfl) rfl rfl ?_)
    (refine wlk ?_)
    (refine SqA.b1 (op_call none rfl rfl rfl (by kernel_rfl) (FnD.use (m2)) rfl rfl rfl rfl rfl rfl) rfl rfl ?_)
    (refine wlk ?_)
    (refine SqA.b1 (op_call none rfl rfl rfl (by kernel_rfl) (FnD.use (w2)) rfl rfl rfl rfl rfl rfl) rfl rfl ?_)
    (refine wlk ?_)
    (first | (refine finR (.tmp rfl .nil) rfl rfl ?_) | (refine finN (.tmp rfl .nil) rfl rfl ?_))
    rfl
  have hok := hk.wf.ar.okv
  have hcl4 := hk.len
  have hcz := cok_sz4 hk
  have n1 := pnorm c hok (cok_few hk) hcz (by omega)
  have n2 := rnorm c hok (cok_few hk) hcz (by omega)
  generalize norm c = q at n1 n2
  obtain ⟨x, f⟩ := q
  dsimp only at n1 n2
  have x1 := rsameClause x x
  rw [clSame_iff.2 rfl] at x1
  have t1 := pclText hsl c hk.wf hk.size hk.len
  have t2 := rclauseText (s := s) (by omega) c hk.wf hk.size (by omega)
  have htt : (clText c == clText c) = true := by simp
  generalize clText c = tx at t1 t2 htt
  have v1 := pclVars c hok (cok_few hk) hcz
  have v2 := rclVars c hok (cok_few hk) hcz
  generalize clVars [] c = vs at v1 v2
  have a1 := papplyC by_ c (by omega) hcz
  have a2 := rEach1 22 [.arr (by_.map Pr.d)] (app by_) (by kernel_rfl) c (by omega) fun y hy => ⟨ct1 by_ hby _ (by have := hk.size y hy; omega), ct1 by_ hby _ (by have := hk.size y hy; omega)⟩
  have y1 := rsameClause (each (app by_) c) (each (app by_) c)
  rw [clSame_iff.2 rfl] at y1
  generalize each (app by_) c = c1 at a1 a2 y1
  have r1 := prenameC n (by omega) (by omega) c (by omega) hcz hok
  have r2 := rEach1 25 [.val (.int .i64 n)] (ren n) (by kernel_rfl) c (by omega) fun y hy => ⟨ct2 n (by omega) (by omega) _ (hok y hy).1 (by have := hk.size y hy; omega), ct2 n (by omega) (by omega) _ (hok y hy).2 (by have := hk.size y hy; omega)⟩
  have y2 := rsameClause (each (ren n) c) (each (ren n) c)
  rw [clSame_iff.2 rfl] at y2
  generalize each (ren n) c = c2 at r1 r2 y2
  (refine wlk ?_)
  (refine SqA.b1 (op_call none rfl rfl rfl (by kernel_rfl) (FnD.use (hcs)) rfl rfl rfl rfl rfl rfl) rfl rfl ?_)
  (refine wlk ?_)
  (refine SqA.b1 (op_call none rfl rfl rfl (by kernel_rfl) (FnD.use (p1)) rfl rfl rfl rfl rfl rfl) rfl rfl ?_)
  (refine wlk ?_)
  (refine SqA.b1 (op_call none rfl rfl rfl (by kernel_rfl) (FnD.use (p2)) rfl rfl rfl rfl rfl rfl) rfl rfl ?_)
  (refine wlk ?_)
  (refine SqA.b1 (op_call none rfl rfl rfl (by kernel_rfl) (FnD.use (q1)) rfl rfl rfl rfl rfl rfl) rfl rfl ?_)
  (refine wlk ?_)
  (refine SqA.b1 (op_call none rfl rfl rfl (by kernel_rfl) (FnD.use (w1)) rfl rfl rfl rfl rfl rfl) rfl rfl ?_)
  (refine wlk ?_)
  (refine SqA.b1 (op_call none rfl rfl rfl (by kernel_rfl) (FnD.use (w2)) rfl rfl rfl rfl rfl rfl) rfl rfl ?_)
  (refine wlk ?_)
  (refine SqA.b1 (op_call none rfl rfl rfl (by kernel_rfl) (FnD.use (m1)) rfl rfl rfl rfl rfl rfl) rfl rfl ?_)
  (refine wlk ?_)
  (refine SqA.b1 (op_call none rfl rfl rfl (by kernel_rfl) (FnD.use (m2)) rfl rfl rfl rfl rfl rfl) rfl rfl ?_)
  (refine wlk ?_)
  (refine SqA.b1 (op_call none rfl rfl rfl (by kernel_rfl) (FnD.use (w2)) rfl rfl rfl rfl rfl rfl) rfl rfl ?_)
  (refine wlk ?_)
  refine dwp_wk (Wk.frzF (t := 9) (j := 9) (fs := [.arr (by_.map Pr.d)]) rfl rfl rfl rfl rfl) ?_
  refine dwp_wk (Wk.frzF (t := 10) (j := 10) (fs := [.val (.int .i64 n)]) rfl rfl rfl rfl rfl) ?_
  refine dwp_loop (fun k : Nat => [(.t 0, some (.one (lA Int.d s))), (.t 1, some (.one (lA Lt.d c))), (.t 2, some (.one (lA Lt.d d))), (.t 9, some (.one (.c (.fp [.arr (by_.map Pr.d)])))), (.t 10, some (.one (.c (.fp [.val (.int .i64 n)])))), (.t 89, some (.one (lA Pr.d by_))), (.t 90, some (.one (iA by_.length))), (.t 91, some (.one (iA k)))])
    (fun k => k ≤ by_.length) (fun k => by_.length - k) 0 (by omega) fgs ?_
  intro k hkk
  by_cases hkl : k < by_.length
  · obtain ⟨⟨pv, pt⟩, hx⟩ := get_of_lt hkl
    have hw := rwrong s pt
    by_cases hw0 : wrong s pt = 0
    · rw [hw0] at hw
      (refine wlk ?_)
      (refine SqA.b1 (op_call none rfl rfl rfl (by kernel_rfl) (FnD.use (hw)) rfl rfl rfl rfl rfl rfl) rfl rfl ?_)
      (refine wlk ?_)
      exact ⟨k + 1, by omega, fgs, by omega⟩
    · generalize wrong s pt = wv at *
      (refine wlk ?_)
      (refine SqA.b1 (op_call none rfl rfl rfl (by kernel_rfl) (FnD.use (hw)) rfl rfl rfl rfl rfl rfl) rfl rfl ?_)
      (refine wlk ?_)
      (first | (refine finR (.tmp rfl .nil) rfl rfl ?_) | (refine finN (.tmp rfl .nil) rfl rfl ?_))
      rfl
  have : k = by_.length := by omega
  subst this
  (refine wlk ?_)
  (refine SqA.b1 (op_call none rfl rfl rfl (by kernel_rfl) (FnD.use (n1)) rfl rfl rfl rfl rfl rfl) rfl rfl ?_)
  (refine wlk ?_)
  (refine SqA.b1 (op_call none rfl rfl rfl (by kernel_rfl) (FnD.use (n2)) rfl rfl rfl rfl rfl rfl) rfl rfl ?_)
  (refine wlk ?_)
  (refine SqA.b1 (op_call none rfl rfl rfl (by kernel_rfl) (FnD.use (x1)) rfl rfl rfl rfl rfl rfl) rfl rfl ?_)
  (refine wlk ?_)
  (refine SqA.b1 (op_call none rfl rfl rfl (by kernel_rfl) (FnD.use (t1)) rfl rfl rfl rfl rfl rfl) rfl rfl ?_)
  (refine wlk ?_)
  (refine SqA.b1 (op_call none rfl rfl rfl (by kernel_rfl) (FnD.use (t2)) rfl rfl rfl rfl rfl rfl) rfl rfl ?_)
  (refine wlk ?_)
  (refine SqA.b1 (op_call none rfl rfl rfl (by kernel_rfl) (FnD.use (v1)) rfl rfl rfl rfl rfl rfl) rfl rfl ?_)
  (refine wlk ?_)
  (refine SqA.b1 (op_call none rfl rfl rfl (by kernel_rfl) (FnD.use (v2)) rfl rfl rfl rfl rfl rfl) rfl rfl ?_)
  (refine wlk ?_)
  refine dwp_loop (fun k : Nat => [(.t 1, some (.one (lA Lt.d c))), (.t 2, some (.one (lA Lt.d d))), (.t 9, some (.one (.c (.fp [.arr (by_.map Pr.d)])))), (.t 10, some (.one (.c (.fp [.val (.int .i64 n)])))), (.t 136, some (.one (lA Lt.d c))), (.t 137, some (.one (iA c.length))), (.t 138, some (.one (iA k)))])
    (fun k => k ≤ c.length) (fun k => c.length - k) 0 (by omega) fgs ?_
  intro k hkc
  by_cases hkl : k < c.length
  · obtain ⟨y, hy⟩ := get_of_lt hkl
    by_cases hkd : k < d.length
    · obtain ⟨z, hz⟩ := get_of_lt hkd
      have s1 := psameLit y z
      have s2 := rsameLit y z
      generalize y.same z = b2 at s1 s2
      have hbb2 : (b2 == b2) = true := by simp
      have hbf2 : (b2 != b2) = false := by simp
      (refine wlk ?_)
      (refine SqA.b1 (op_call none rfl rfl rfl (by kernel_rfl) (FnD.use (s1)) rfl rfl rfl rfl rfl rfl) rfl rfl ?_)
      (refine wlk ?_)
      (refine SqA.b1 (op_call none rfl rfl rfl (by kernel_rfl) (FnD.use (s2)) rfl rfl rfl rfl rfl rfl) rfl rfl ?_)
      (refine wlk ?_)
      exact ⟨k + 1, by omega, fgs, by omega⟩
    · (refine wlk ?_)
      exact ⟨k + 1, by omega, fgs, by omega⟩
  have : k = c.length := by omega
  subst this
  (refine wlk ?_)
  (refine SqA.b1 (op_call none rfl rfl rfl (by kernel_rfl) (FnD.use (a1)) rfl rfl rfl rfl rfl rfl) rfl rfl ?_)
  (refine wlk ?_)
  (refine SqA.b1 (op_mkFn rfl rfl rfl) rfl rfl ?_)
  (refine wlk ?_)
  (refine SqA.b1 (op_call none rfl rfl rfl (by kernel_rfl) (FnD.use (a2)) rfl rfl rfl rfl rfl rfl) rfl rfl ?_)
  (refine wlk ?_)
  (refine SqA.b1 (op_call none rfl rfl rfl (by kernel_rfl) (FnD.use (y1)) rfl rfl rfl rfl rfl rfl) rfl rfl ?_)
  (refine wlk ?_)
  (refine SqA.b1 (op_call none rfl rfl rfl (by kernel_rfl) (FnD.use (r1)) rfl rfl rfl rfl rfl rfl) rfl rfl ?_)
  (refine wlk ?_)
  (refine SqA.b1 (op_mkFn rfl rfl rfl) rfl rfl ?_)
  (refine wlk ?_)
  (refine SqA.b1 (op_call none rfl rfl rfl (by kernel_rfl) (FnD.use (r2)) rfl rfl rfl rfl rfl rfl) rfl rfl ?_)
  (refine wlk ?_)
  (refine SqA.b1 (op_call none rfl rfl rfl (by kernel_rfl) (FnD.use (y2)) rfl rfl rfl rfl rfl rfl) rfl rfl ?_)
  (refine wlk ?_)
  (first | (refine finR (.tmp rfl .nil) rfl rfl ?_) | (refine finN (.tmp rfl .nil) rfl rfl ?_))
  rfl
end Go.Proofs.YtmanhdacnkpclaaGreatDoor
